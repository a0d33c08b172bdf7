/- A region whose order is drawn: the walk through any order. Conditions: none. -/
import Derived.Test.YthmbnnjimbjplaaGreatDoorAmDraw
set_option linter.unusedVariables false
set_option linter.unusedSimpArgs false
namespace Go.AM
open Go Go.RowKit

/-- An operation that was walked and not yet run. -/
structure Pend (P : Program) (ops : Array Oper) (μ : Mu) (h : Heap) (lg : List Read) (d : Dn) : Prop where
  ex : ∃ wb, wantedA ops.toList d.o d.env = some wb ∧ (wb = false → d.v = noV) ∧ (wb = true →
    (opKind d.o.op = .pure ∧ pureV P (evalArg d.env) d.o.op = some d.v) ∨
    (opKind d.o.op = .read ∧ readV P (evalArg d.env) h d.o.op = some d.v ∧ (⟨d.i, d.o.op, d.env, d.v⟩ : Read) ∈ lg) ∨
    (opKind d.o.op = .alloc ∧ d.al = true ∧ ∃ k ob, allocV P (evalArg d.env) d.o.op = some (k, ob) ∧ d.v = k.val d.b ∧ h.get d.b = some ob ∧ ∀ kk, μ d.b ≠ some kk))

structure DCtx where
  P : Program
  call : CallF
  ops : Array Oper
  ms : List Nat
  L : List (Nat × Oper)
  K : St → Bool
  w0 : World
  μb : Mu
  hb : Heap
  wb : World
  env0 : Env
  n : Nat

structure DInv (C : DCtx) (listed : Array Bool) (a : Act) (w : World) (μ : Mu) (dn : List Dn) (R : List (Nat × Oper)) (lg : List Read) (s : St) : Prop where
  split : C.L = (dn.reverse.map fun d => (d.i, d.o)) ++ R
  run : evalOpsD C.P C.call C.ops.toList C.ms R lg s C.K = true
  slots : s.n = C.n
  senv : s.env = envOf C.env0 C.n (fun _ => true) dn
  size : listed.size = C.ops.size
  inDn : ∀ i, isIn listed i = true → ∃ d ∈ dn, d.i = i
  effs : ∀ d ∈ dn, isEff d.o = true → isIn listed d.i = true
  closed : Closed C.ms (isIn listed)
  env : EnvR C.w0 μ (envOf C.env0 C.n (isIn listed) dn) C.n a.tmps
  defs : DefsR C.w0 μ s.defs a.defers
  good : Good C.w0 μ s.h w
  ext : Ext C.μb C.hb C.wb μ s.h w
  denv : ∀ pre d ds, dn = pre ++ d :: ds → d.env = envOf C.env0 C.n (fun _ => true) ds
  pend : ∀ d ∈ dn, isIn listed d.i = false → Pend C.P C.ops μ s.h lg d
  blks : ∀ d ∈ dn, d.al = true → C.hb.next ≤ d.b ∧ d.b < s.h.next
  sep : ∀ d ∈ dn, ∀ d' ∈ dn, d.i ≠ d'.i → d.al = true → d'.al = true → d.b ≠ d'.b

theorem Ext.adopt {μb μ : Mu} {hb h : Heap} {wb w : World} (x : Ext μb hb wb μ h w) {b n : Nat} (hn : hb.next ≤ b) (hμ : ∀ k, μ b ≠ some k) (O : Obj) : Ext μb hb wb (μ.add b ⟨w.heap.size, 0, n⟩) h (w.alloc O) := by
  have hsz : (w.alloc O).heap.size = w.heap.size + 1 := by show (w.heap.push O).size = _; simp
  refine ⟨x.mono.trans (Mu.le_add hμ), fun k hk hne => ?_, fun b' k hb' => ?_, by rw [hsz]; have := x.size; omega, x.next, x.keep, fun b' k hb' => ?_, x.iced⟩
  · rw [Below.heap_alloc w O k (Nat.lt_of_lt_of_le hk x.size)]; exact x.frame k hk hne
  · rw [Mu.add_m] at hb'
    by_cases e : b' = b
    · rw [if_pos e] at hb'; cases hb'; exact .inr (.inl x.size)
    · rw [if_neg e] at hb'; exact x.new b' k hb'
  · rw [Mu.add_m] at hb'
    by_cases e : b' = b
    · exact .inr (e ▸ hn)
    · rw [if_neg e] at hb'; exact x.fresh b' k hb'

section
variable {C : DCtx} {listed : Array Bool} {a : Act} {w : World} {μ : Mu} {dn : List Dn} {R : List (Nat × Oper)} {lg : List Read} {s : St}

theorem DInv.pairs (hp : PlanR C.ops C.ms C.L) (hi : DInv C listed a w μ dn R lg s) :
    dn.Pairwise (fun x y => Pair C.ops.toList C.ms (y.i, y.o) (x.i, x.o)) ∧ R.Pairwise (Pair C.ops.toList C.ms) ∧ ∀ d ∈ dn, ∀ r ∈ R, Pair C.ops.toList C.ms (d.i, d.o) r := by
  have h := hp.pairs
  rw [hi.split, List.pairwise_append, List.pairwise_map, List.pairwise_reverse] at h
  exact ⟨h.1, h.2.1, fun d hd r hr => h.2.2 _ (List.mem_map.2 ⟨d, by simpa using hd, rfl⟩) r hr⟩

theorem DInv.fresh (hp : PlanR C.ops C.ms C.L) (hi : DInv C listed a w μ dn R lg s) {r : Nat × Oper} (hr : r ∈ R) : isIn listed r.1 = false ∧ ∀ d ∈ dn, d.i ≠ r.1 := by
  have hne : ∀ d ∈ dn, d.i ≠ r.1 := fun d hd => ((hi.pairs hp).2.2 d hd r hr).ne
  refine ⟨?_, hne⟩
  cases h : isIn listed r.1 with
  | false => rfl
  | true => obtain ⟨d, hd, he⟩ := hi.inDn _ h; exact absurd he (hne d hd)

/-- One that does not act is walked. -/
theorem DInv.advance1 (hp : PlanR C.ops C.ms C.L) {p : Nat × Oper} (hi : DInv C listed a w μ dn (p :: R) lg s) (he : isEff p.2 = false) : ∃ dn' lg' s', DInv C listed a w μ dn' R lg' s' := by
  obtain ⟨hf, hne⟩ := hi.fresh hp (r := p) (by simp)
  obtain ⟨env, n, defs, hp0⟩ := s
  have hrun := hi.run
  simp only [evalOpsD] at hrun
  -- the frame around: what is the same whatever the operation
  have step : ∀ (v : AV) (b : Nat) (al : Bool) (lg' : List Read) (h' : Heap), evalOpsD C.P C.call C.ops.toList C.ms R lg' ⟨putE env n p.2.dst v, n, defs, h'⟩ C.K = true →
      (∀ r ∈ lg, r ∈ lg') → Good C.w0 μ h' w → Ext C.μb C.hb C.wb μ h' w → hp0.next ≤ h'.next → (∀ b' o, hp0.get b' = some o → h'.get b' = some o) → (∀ op v, readV C.P (evalArg env) hp0 op = some v ∨ True) →
      (∀ env op v, readV C.P (evalArg env) hp0 op = some v → readV C.P (evalArg env) h' op = some v) →
      Pend C.P C.ops μ h' lg' ⟨p.1, p.2, v, env, b, al⟩ → (al = true → b = hp0.next ∧ hp0.next < h'.next) → ∃ dn' lg' s', DInv C listed a w μ dn' R lg' s' := by
    intro v b al lg' h' hr hlg hg hx hnx hget _ hrd hpd hal
    have hb0 : C.hb.next ≤ hp0.next := hi.ext.next
    refine ⟨⟨p.1, p.2, v, env, b, al⟩ :: dn, lg', ⟨putE env n p.2.dst v, n, defs, h'⟩, ?_⟩
    refine ⟨by rw [hi.split]; simp, hr, hi.slots, ?_, hi.size, fun i h => ?_, fun d hd h => ?_, hi.closed, ?_, hi.defs, hg, hx, fun pre d ds h => ?_, fun d hd h => ?_, fun d hd h => ?_, fun d hd d' hd' hne' h1 h2 => ?_⟩
    · show putE env n p.2.dst v = _
      simp only [envOf, if_true]
      have e1 : n = C.n := hi.slots
      have e2 : env = envOf C.env0 C.n (fun _ => true) dn := hi.senv
      rw [e2, e1]
    · obtain ⟨d, hd, e⟩ := hi.inDn i h
      exact ⟨d, by simp [hd], e⟩
    · rcases List.mem_cons.1 hd with rfl | hd
      · simp [he] at h
      · exact hi.effs d hd h
    · have : envOf C.env0 C.n (isIn listed) (⟨p.1, p.2, v, env, b, al⟩ :: dn) = envOf C.env0 C.n (isIn listed) dn := by
        simp only [envOf]; rw [if_neg (by rw [hf]; simp)]
      rw [this]; exact hi.env
    · cases pre with
      | nil =>
        simp only [List.nil_append, List.cons.injEq] at h
        obtain ⟨rfl, rfl⟩ := h
        exact hi.senv
      | cons x pre =>
        simp only [List.cons_append, List.cons.injEq] at h
        exact hi.denv pre d ds h.2
    · rcases List.mem_cons.1 hd with rfl | hd
      · exact hpd
      · obtain ⟨wb, q1, q2, q3⟩ := (hi.pend d hd h).ex
        refine ⟨wb, q1, q2, fun hw => ?_⟩
        rcases q3 hw with q | ⟨k1, k2, k3⟩ | ⟨k1, k2, k, ob, k3, k4, k5, k6⟩
        · exact .inl q
        · exact .inr (.inl ⟨k1, hrd _ _ _ k2, hlg _ k3⟩)
        · exact .inr (.inr ⟨k1, k2, k, ob, k3, k4, hget _ _ k5, k6⟩)
    · rcases List.mem_cons.1 hd with rfl | hd
      · obtain ⟨e1, e2⟩ := hal h
        show _ ≤ b ∧ b < h'.next
        omega
      · have := hi.blks d hd h
        exact ⟨this.1, Nat.lt_of_lt_of_le this.2 hnx⟩
    · rcases List.mem_cons.1 hd with rfl | hd
      · rcases List.mem_cons.1 hd' with rfl | hd'
        · exact absurd rfl hne'
        · have : d'.b < hp0.next := (hi.blks d' hd' h2).2
          obtain ⟨e1, _⟩ := hal h1
          show b ≠ d'.b
          omega
      · rcases List.mem_cons.1 hd' with rfl | hd'
        · have : d.b < hp0.next := (hi.blks d hd h1).2
          obtain ⟨e1, _⟩ := hal h2
          show d.b ≠ b
          omega
        · exact hi.sep d hd d' hd' hne' h1 h2
  split at hrun
  · rename_i hw
    split at hrun
    · rename_i hk
      rw [opFn_pure hk] at hrun
      obtain ⟨v, hv, hK⟩ := bindO_eq hrun
      have hK := putK_eq hK
      exact step v 0 false lg hp0 hK (fun r h => h) hi.good hi.ext (Nat.le_refl _) (fun _ _ h => h) (fun _ _ => .inr trivial) (fun _ _ _ h => h) ⟨true, hw, by simp, fun _ => .inl ⟨hk, hv⟩⟩ (by simp)
    · rename_i hk
      rw [opFn_read hk] at hrun
      obtain ⟨v, hv, hK⟩ := bindO_eq hrun
      have hK := putK_eq hK
      exact step v 0 false _ hp0 hK (fun r h => by simp [h]) hi.good hi.ext (Nat.le_refl _) (fun _ _ h => h) (fun _ _ => .inr trivial) (fun _ _ _ h => h) ⟨true, hw, by simp, fun _ => .inr (.inl ⟨hk, hv, by simp⟩)⟩ (by simp)
    · rename_i hk
      rw [opFn_alloc hk] at hrun
      obtain ⟨⟨k, ob⟩, hv, hK⟩ := bindO_eq hrun
      have hK := putK_eq hK
      obtain ⟨g1, g2⟩ := hi.good.unborn ob
      refine step (k.val hp0.next) hp0.next true lg (hp0.alloc ob) hK (fun r h => h) g1 (hi.ext.trans g2) (Nat.le_succ _) (fun b' o h => ?_) (fun _ _ => .inr trivial) (fun _ _ _ h => readV_alloc hi.good.clean ob h)
        ⟨true, hw, by simp, fun _ => .inr (.inr ⟨hk, rfl, k, ob, hv, rfl, by rw [Heap.get_alloc, if_pos rfl], hi.good.not_next⟩)⟩ (fun _ => ⟨rfl, Nat.lt_succ_self _⟩)
      rw [Heap.get_alloc, if_neg (fun e => by rw [e, hi.good.clean _ (Nat.le_refl _)] at h; cases h)]; exact h
    · rename_i hk
      simp [isEff, hk] at he
  · rename_i hw
    exact step noV 0 false lg hp0 (putK_eq hrun) (fun r h => h) hi.good hi.ext (Nat.le_refl _) (fun _ _ h => h) (fun _ _ => .inr trivial) (fun _ _ _ h => h) ⟨false, hw, by simp, by simp⟩ (by simp)
  · cases hrun

theorem DInv.advance (hp : PlanR C.ops C.ms C.L) : ∀ (R : List (Nat × Oper)) (dn : List Dn) (lg : List Read) (s : St), DInv C listed a w μ dn R lg s →
    ∃ dn' R' lg' s', DInv C listed a w μ dn' R' lg' s' ∧ (∀ p rest, R' = p :: rest → isEff p.2 = true)
  | [], dn, lg, s, hi => ⟨dn, [], lg, s, hi, by simp⟩
  | p :: R, dn, lg, s, hi => by
    cases he : isEff p.2 with
    | true => exact ⟨dn, p :: R, lg, s, hi, fun q rest h => by cases h; exact he⟩
    | false =>
      obtain ⟨dn', lg', s', h'⟩ := hi.advance1 hp he
      exact DInv.advance hp R dn' lg' s' h'

/-- What is ahead of i in every order has run: i sees what the walk saw. -/
theorem DInv.agree (hp : PlanR C.ops C.ms C.L) (hi : DInv C listed a w μ dn R lg s) {d : Dn} (hd : d ∈ dn) (hS : isIn listed d.i = false) (hr : ∀ j, bef C.ms d.i j = true → isIn listed j = true) :
    ∀ t ∈ looksD C.ops.toList d.o, envOf C.env0 C.n (isIn listed) dn t = d.env t := by
  intro t ht
  obtain ⟨pre, ds, rfl⟩ := List.append_of_mem hd
  rw [hi.denv pre d ds rfl]
  have hpw := (hi.pairs hp).1
  rw [List.pairwise_append] at hpw
  obtain ⟨_, hpw2, hpw3⟩ := hpw
  rw [List.pairwise_cons] at hpw2
  rw [envOf_skip (fun x hx hSx hdx => ?_)]
  · simp only [envOf]
    rw [if_neg (by rw [hS]; simp)]
    refine envOf_full fun x hx hdx => hr _ ?_
    exact (hpw2.1 x hx).lb t hdx ht
  · have := (hpw3 x hx d (by simp)).la t hdx ht
    have := hi.closed _ _ hSx this
    rw [hS] at this; cases this

theorem DInv.agreeHead (hp : PlanR C.ops C.ms C.L) {p : Nat × Oper} (hi : DInv C listed a w μ dn (p :: R) lg s) (hr : ∀ j, bef C.ms p.1 j = true → isIn listed j = true) :
    ∀ t ∈ looksD C.ops.toList p.2, envOf C.env0 C.n (isIn listed) dn t = s.env t := by
  intro t ht
  rw [hi.senv]
  exact envOf_full fun x hx hdx => hr _ (((hi.pairs hp).2.2 x hx p (by simp)).lb t hdx ht)

/-- One that was walked has run. -/
theorem DInv.ran (hp : PlanR C.ops C.ms C.L) (hi : DInv C listed a w μ dn R lg s) {d : Dn} (hd : d ∈ dn) (hS : isIn listed d.i = false) (hlt : d.i < listed.size) (hr : ∀ j, bef C.ms d.i j = true → isIn listed j = true)
    {w' : World} {μ' : Mu} {vc : Value} (hm : μ.le μ') (hv : VR C.w0 μ' d.v vc) (hg : Good C.w0 μ' s.h w') (hx : Ext C.μb C.hb C.wb μ' s.h w')
    (hnew : ∀ d' ∈ dn, isIn listed d'.i = false → d'.i ≠ d.i → d'.al = true → (∀ kk, μ d'.b ≠ some kk) → ∀ kk, μ' d'.b ≠ some kk) :
    DInv C (listed.setIfInBounds d.i true) (a.put d.o.dst vc) w' μ' dn R lg s := by
  have hset := isIn_set hlt
  refine ⟨hi.split, hi.run, hi.slots, hi.senv, by simpa using hi.size, fun i h => ?_, fun d' hd' h => ?_, fun i j h hb => ?_, ?_, ?_, hg, hx, hi.denv, fun d' hd' h => ?_, hi.blks, hi.sep⟩
  · rw [hset] at h
    simp only [Bool.or_eq_true, decide_eq_true_eq] at h
    rcases h with rfl | h
    · exact ⟨d, hd, rfl⟩
    · exact hi.inDn i h
  · rw [hset, hi.effs d' hd' h]; simp
  · rw [hset] at h ⊢
    simp only [Bool.or_eq_true, decide_eq_true_eq] at h ⊢
    rcases h with rfl | h
    · exact .inr (hr j hb)
    · exact .inr (hi.closed i j h hb)
  · obtain ⟨pre, ds, rfl⟩ := List.append_of_mem hd
    have hpw := (hi.pairs hp).1
    rw [List.pairwise_append] at hpw
    obtain ⟨_, hpw2, hpw3⟩ := hpw
    rw [List.pairwise_cons] at hpw2
    rw [envOf_add (S := isIn listed) (d := d) hS (fun k => hset k) (fun x hx => ((hpw3 x hx d (by simp)).ne).symm) (fun x hx => (hpw2.1 x hx).ne) (fun x hx t ht => (hpw3 x hx d (by simp)).dd t ht), Act.put_tmps]
    exact (hi.env.mono hm).put d.o.dst hv
  · rw [Act.put_defers']; exact hi.defs.mono hm
  · rw [hset] at h
    simp only [Bool.or_eq_false_iff, decide_eq_false_iff_not] at h
    obtain ⟨wb, q1, q2, q3⟩ := (hi.pend d' hd' h.2).ex
    refine ⟨wb, q1, q2, fun hw => ?_⟩
    rcases q3 hw with q | q | ⟨k1, k2, k, ob, k3, k4, k5, k6⟩
    · exact .inl q
    · exact .inr (.inl q)
    · exact .inr (.inr ⟨k1, k2, k, ob, k3, k4, k5, hnew d' hd' h.2 h.1 k2 k6⟩)

theorem sameReads_mem {P : Program} {ms : List Nat} {i : Nat} {h : Heap} : ∀ {lg : List Read}, sameReads P ms i h lg = true → ∀ r ∈ lg, bef ms i r.i = false → sameAt P r.op r.env r.v h = true
  | [], hh, r, hr, hb => by cases hr
  | r' :: lg, hh, r, hr, hb => by
    simp only [sameReads] at hh
    rcases List.mem_cons.1 hr with rfl | hr
    · rw [if_neg (by rw [hb]; simp)] at hh
      simp only [Bool.and_eq_true] at hh
      exact hh.1
    · split at hh
      · exact sameReads_mem hh r hr hb
      · simp only [Bool.and_eq_true] at hh
        exact sameReads_mem hh.2 r hr hb

/-- One that acts has run. -/
theorem DInv.acted (hp : PlanR C.ops C.ms C.L) {p : Nat × Oper} (hi : DInv C listed a w μ dn (p :: R) lg s) (hlt : p.1 < listed.size) (hr : ∀ j, bef C.ms p.1 j = true → isIn listed j = true)
    {a' : Act} {w' : World} {μ' : Mu} {v : AV} {defs' : List ADef} {h' : Heap} (hrun : evalOpsD C.P C.call C.ops.toList C.ms R lg ⟨putE s.env s.n p.2.dst v, s.n, defs', h'⟩ C.K = true)
    (hs : SR C.w0 μ' ⟨putE (envOf C.env0 C.n (isIn listed) dn) C.n p.2.dst v, C.n, defs', h'⟩ a' w') (hx : Ext μ s.h w μ' h' w')
    (hrd : ∀ r ∈ lg, opKind r.op = .read → bef C.ms p.1 r.i = false → readV C.P (evalArg r.env) s.h r.op = some r.v → readV C.P (evalArg r.env) h' r.op = some r.v) :
    DInv C (listed.setIfInBounds p.1 true) a' w' μ' (⟨p.1, p.2, v, s.env, 0, false⟩ :: dn) R lg ⟨putE s.env s.n p.2.dst v, s.n, defs', h'⟩ := by
  have hset := isIn_set hlt
  obtain ⟨hf, hne⟩ := hi.fresh hp (r := p) (by simp)
  refine ⟨by rw [hi.split]; simp, hrun, hi.slots, ?_, by simpa using hi.size, fun i h => ?_, fun d' hd' h => ?_, fun i j h hb => ?_, ?_, hs.defs, hs.good, hi.ext.trans hx, fun pre d ds h => ?_, fun d' hd' h => ?_, fun d' hd' h => ?_, fun d1 h1 d2 h2 hne' a1 a2 => ?_⟩
  · show putE s.env s.n p.2.dst v = _
    simp only [envOf, if_true]
    rw [hi.slots, hi.senv]
  · rw [hset] at h
    simp only [Bool.or_eq_true, decide_eq_true_eq] at h
    rcases h with rfl | h
    · exact ⟨⟨p.1, p.2, v, s.env, 0, false⟩, by simp, rfl⟩
    · obtain ⟨d, hd, e⟩ := hi.inDn i h
      exact ⟨d, by simp [hd], e⟩
  · rw [hset]
    rcases List.mem_cons.1 hd' with rfl | hd'
    · simp
    · rw [hi.effs d' hd' h]; simp
  · rw [hset] at h ⊢
    simp only [Bool.or_eq_true, decide_eq_true_eq] at h ⊢
    rcases h with rfl | h
    · exact .inr (hr j hb)
    · exact .inr (hi.closed i j h hb)
  · have : envOf C.env0 C.n (isIn (listed.setIfInBounds p.1 true)) (⟨p.1, p.2, v, s.env, 0, false⟩ :: dn) = putE (envOf C.env0 C.n (isIn listed) dn) C.n p.2.dst v := by
      simp only [envOf]
      rw [if_pos (by rw [hset]; simp), envOf_congr (S' := isIn listed) (fun x hx => by rw [hset]; simp [hne x hx])]
    rw [this]; exact hs.env
  · cases pre with
    | nil =>
      simp only [List.nil_append, List.cons.injEq] at h
      obtain ⟨rfl, rfl⟩ := h
      exact hi.senv
    | cons x pre =>
      simp only [List.cons_append, List.cons.injEq] at h
      exact hi.denv pre d ds h.2
  · rw [hset] at h
    simp only [Bool.or_eq_false_iff, decide_eq_false_iff_not] at h
    rcases List.mem_cons.1 hd' with rfl | hd'
    · exact absurd rfl h.1
    · obtain ⟨wb, q1, q2, q3⟩ := (hi.pend d' hd' h.2).ex
      refine ⟨wb, q1, q2, fun hw => ?_⟩
      rcases q3 hw with q | ⟨k1, k2, k3⟩ | ⟨k1, k2, k, ob, k3, k4, k5, k6⟩
      · exact .inl q
      · refine .inr (.inl ⟨k1, hrd _ k3 k1 ?_ k2, k3⟩)
        cases hb : bef C.ms p.1 d'.i with
        | false => rfl
        | true => have := hr _ hb; rw [h.2] at this; cases this
      · have hb := hi.blks d' hd' k2
        refine .inr (.inr ⟨k1, k2, k, ob, k3, k4, ?_, fun kk hk => ?_⟩)
        · show h'.get d'.b = some ob
          rw [hx.keep _ hb.2 k6]; exact k5
        · rcases hx.fresh _ kk hk with e | e
          · exact k6 kk e
          · omega
  · rcases List.mem_cons.1 hd' with rfl | hd'
    · cases h
    · have := hi.blks d' hd' h
      exact ⟨this.1, Nat.lt_of_lt_of_le this.2 hx.next⟩
  · rcases List.mem_cons.1 h1 with rfl | h1
    · cases a1
    · rcases List.mem_cons.1 h2 with rfl | h2
      · cases a2
      · exact hi.sep d1 h1 d2 h2 hne' a1 a2
end
end Go.AM
