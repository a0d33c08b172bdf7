/- A region whose order is drawn. Conditions: none. -/
import Derived.Test.YthmbnnjimbjplaaGreatDoorAmDraw2
set_option linter.unusedVariables false
set_option linter.unusedSimpArgs false
namespace Go.AM
open Go Go.RowKit

/-- How many are left. -/
def leftN (listed : Array Bool) : Nat := ((List.range listed.size).filter fun i => !isIn listed i).length
theorem filter_lt {α : Type} (p q : α → Bool) (hpq : ∀ x, q x = true → p x = true) : ∀ (l : List α) (x : α), x ∈ l → p x = true → q x = false → (l.filter q).length < (l.filter p).length
  | [], x, h, _, _ => by cases h
  | y :: l, x, h, h1, h2 => by
    have le : ∀ l : List α, (l.filter q).length ≤ (l.filter p).length := by
      intro l
      induction l with
      | nil => simp
      | cons z l ih =>
        simp only [List.filter_cons]
        by_cases hq : q z = true
        · rw [if_pos hq, if_pos (hpq z hq)]; simp; exact ih
        · rw [if_neg hq]
          split
          · simp; omega
          · exact ih
    simp only [List.filter_cons]
    rcases List.mem_cons.1 h with rfl | h
    · rw [if_pos h1, if_neg (by rw [h2]; simp)]
      have := le l
      simp; omega
    · have ih := filter_lt p q hpq l x h h1 h2
      by_cases hq : q y = true
      · rw [if_pos hq, if_pos (hpq y hq)]; simp; exact ih
      · rw [if_neg hq]
        split
        · simp; omega
        · exact ih
theorem leftN_set {listed : Array Bool} {i : Nat} (hi : i < listed.size) (h : isIn listed i = false) : leftN (listed.setIfInBounds i true) < leftN listed := by
  unfold leftN
  rw [Array.size_setIfInBounds]
  refine filter_lt _ _ (fun x hx => ?_) _ i (by simpa using hi) (by simp [h]) (by rw [isIn_set hi]; simp)
  rw [isIn_set hi] at hx
  simp only [Bool.not_eq_true', Bool.or_eq_false_iff] at hx
  simp [hx.2]
theorem leftN_zero {listed : Array Bool} (h : leftN listed = 0) : ∀ i, i < listed.size → isIn listed i = true := by
  intro i hi
  unfold leftN at h
  have := List.eq_nil_of_length_eq_zero h
  rw [List.filter_eq_nil_iff] at this
  simpa using this i (by simpa using hi)

theorem ready_nil {ops : Array Oper} {listed : Array Bool} (hs : listed.size = ops.size) (he : ∀ (i : Nat) (o : Oper), ops[i]? = some o → ∀ e ∈ o.after.toList, Region.binds .any e = true → e.on < i) (h : Region.ready .any ops listed = []) :
    ∀ i, i < ops.size → isIn listed i = true := by
  intro i
  induction i using Nat.strongRecOn with
  | ind i ih =>
    intro hi
    cases hl : isIn listed i with
    | true => rfl
    | false =>
      exfalso
      have ho : ops[i]? = some ops[i] := by simp [hi]
      have : i ∈ Region.ready .any ops listed := by
        refine mem_ready.2 ⟨?_, _, ho, fun e hmem hb => ?_⟩
        · have := hl
          unfold isIn at this
          simp only [Array.getD_eq_getD_getElem?] at this ⊢
          rw [Array.getElem?_eq_getElem (by omega)] at this ⊢
          simpa using this
        · have := he i _ ho e (by simpa using hmem) hb
          exact ih e.on this (by omega)
      rw [h] at this; cases this

section
variable {C : DCtx} {listed : Array Bool} {a : Act} {w : World} {μ : Mu} {dn : List Dn} {R : List (Nat × Oper)} {lg : List Read} {s : St}

theorem DInv.done (hp : PlanR C.ops C.ms C.L) (hi : DInv C listed a w μ dn R lg s) (hall : ∀ i, i < C.ops.size → isIn listed i = true) : C.K s = true ∧ SR C.w0 μ s a w ∧ Ext C.μb C.hb C.wb μ s.h w := by
  have hR : R = [] := by
    cases R with
    | nil => rfl
    | cons p R =>
      have hm : p ∈ C.L := by rw [hi.split]; simp
      have hlt := (Array.getElem?_eq_some_iff.1 (hp.mem p hm)).1
      have := (hi.fresh hp (r := p) (by simp)).1
      rw [hall _ hlt] at this; cases this
  subst hR
  have hrun := hi.run
  simp only [evalOpsD] at hrun
  refine ⟨hrun, ⟨?_, hi.defs, hi.good⟩, hi.ext⟩
  have : envOf C.env0 C.n (isIn listed) dn = s.env := by
    rw [hi.senv]
    refine envOf_congr fun x hx => ?_
    have hm : (x.i, x.o) ∈ C.L := by rw [hi.split]; simp; exact ⟨x, hx, rfl, rfl⟩
    exact hall _ (Array.getElem?_eq_some_iff.1 (hp.mem _ hm)).1
  have he := hi.env
  rw [this] at he
  rw [hi.slots]; exact he

theorem wpAny_draw (hp : PlanR C.ops C.ms C.L) (hc : CallSound C.P C.call) {Q : Exit → Act → World → Prop} (hQ : ∀ s' a' w' μ', C.K s' = true → SR C.w0 μ' s' a' w' → Ext C.μb C.hb C.wb μ' s'.h w' → Q .normal a' w') :
    ∀ (fuel : Nat) (listed : Array Bool) (a : Act) (w : World) (μ : Mu) (dn : List Dn) (R : List (Nat × Oper)) (lg : List Read) (s : St), DInv C listed a w μ dn R lg s → leftN listed ≤ fuel → wpAny C.P .any C.ops Q fuel listed a w := by
  have fin : ∀ (listed : Array Bool) (a : Act) (w : World) (μ : Mu) (dn : List Dn) (R : List (Nat × Oper)) (lg : List Read) (s : St), DInv C listed a w μ dn R lg s → Region.ready .any C.ops listed = [] → Q .normal a w := by
    intro listed a w μ dn R lg s hi hr
    obtain ⟨h1, h2, h3⟩ := hi.done hp (ready_nil hi.size hp.edges hr)
    exact hQ _ _ _ _ h1 h2 h3
  intro fuel
  induction fuel with
  | zero =>
    intro listed a w μ dn R lg s hi hl
    have hall := leftN_zero (Nat.le_zero.1 hl)
    have hr : Region.ready .any C.ops listed = [] := by
      cases h : Region.ready .any C.ops listed with
      | nil => rfl
      | cons i l =>
        have hm : i ∈ Region.ready .any C.ops listed := by rw [h]; simp
        obtain ⟨h1, o, ho, _⟩ := mem_ready.1 hm
        have hlt := (Array.getElem?_eq_some_iff.1 ho).1
        have := hall i (by rw [hi.size]; exact hlt)
        unfold isIn at this
        simp only [Array.getD_eq_getD_getElem?] at this h1
        rw [Array.getElem?_eq_getElem (by rw [hi.size]; exact hlt)] at this h1
        simp at this h1
        rw [this] at h1; cases h1
    exact ⟨hr, fin _ _ _ _ _ _ _ _ hi hr⟩
  | succ fuel ih =>
    intro listed a w μ dn R lg s hi0 hl
    refine ⟨fin _ _ _ _ _ _ _ _ hi0, fun i hmem => ?_⟩
    obtain ⟨dn, R, lg, s, hi, hhead⟩ := hi0.advance hp
    obtain ⟨h1, o, ho, _⟩ := mem_ready.1 hmem
    have hlt : i < C.ops.size := (Array.getElem?_eq_some_iff.1 ho).1
    have hlt' : i < listed.size := by rw [hi.size]; exact hlt
    have hS : isIn listed i = false := by
      unfold isIn
      simp only [Array.getD_eq_getD_getElem?] at h1 ⊢
      rw [Array.getElem?_eq_getElem hlt'] at h1 ⊢
      simpa using h1
    have hr : ∀ j, bef C.ms i j = true → isIn listed j = true := fun j hb => by
      rw [hp.masks] at hb
      exact ready_bef (by rw [← hp.masks]; exact hi.closed) hmem hb
    have hl' : leftN (listed.setIfInBounds i true) ≤ fuel := by have := leftN_set hlt' hS; omega
    obtain ⟨p, hpL, hpi⟩ := hp.cover i hlt
    have hpo := hp.mem p hpL
    rw [hpi, ho] at hpo
    obtain ⟨pi, po⟩ := p
    simp only at hpi hpo
    obtain rfl := hpi
    obtain rfl := Option.some.inj hpo
    have hρ : ∀ x, VR C.w0 μ (evalArg (envOf C.env0 C.n (isIn listed) dn) x) (a.eval x) := SR.eval (s := ⟨envOf C.env0 C.n (isIn listed) dn, C.n, s.defs, s.h⟩) ⟨hi.env, hi.defs, hi.good⟩
    have hwant : ∀ b, wantedA C.ops.toList o (envOf C.env0 C.n (isIn listed) dn) = some b → Region.wanted o (yielded C.ops a.tmps) = b := fun b hb => wanted_sim (s := ⟨envOf C.env0 C.n (isIn listed) dn, C.n, s.defs, s.h⟩) hi.env hb
    unfold wpOp
    simp only [ho]
    rw [hi.split, List.mem_append, List.mem_map] at hpL
    rcases hpL with ⟨d, hd, hdo⟩ | hpR
    · -- it was walked
      rw [List.mem_reverse] at hd
      simp only [Prod.mk.injEq] at hdo
      obtain ⟨rfl, rfl⟩ := hdo
      have hag := hi.agree hp hd hS hr
      have hops : ∀ x ∈ d.o.op.operands, evalArg (envOf C.env0 C.n (isIn listed) dn) x = evalArg d.env x := looks_op hag
      obtain ⟨wb, q1, q2, q3⟩ := (hi.pend d hd hS).ex
      rw [← looks_wanted hag] at q1
      rw [hwant wb q1]
      cases wb with
      | false =>
        simp only [Bool.false_eq_true, if_false]
        have hi' := hi.ran hp hd hS hlt' hr (Mu.le.refl μ) (vc := undef) (by rw [q2 rfl]; exact VR.noV) hi.good hi.ext (fun _ _ _ _ _ h => h)
        exact ih _ _ _ _ _ _ _ _ hi' hl'
      | true =>
        rw [if_pos rfl]
        refine .inl ?_
        rcases q3 rfl with ⟨k1, k2⟩ | ⟨k1, k2, k3⟩ | ⟨k1, k2, k, ob, k3, k4, k5, k6⟩
        · rw [← pureV_congr hops] at k2
          obtain ⟨vc, e1, e2⟩ := pure_sim hρ k1 k2
          unfold Oper.wp
          rw [e1 w, Oper.upon_value]
          exact ih _ _ _ _ _ _ _ _ (hi.ran hp hd hS hlt' hr (Mu.le.refl μ) e2 hi.good hi.ext (fun _ _ _ _ _ h => h)) hl'
        · rw [← readV_congr hops] at k2
          obtain ⟨vc, e1, e2⟩ := read_sim hi.good hρ k1 k2
          unfold Oper.wp
          rw [e1, Oper.upon_value]
          exact ih _ _ _ _ _ _ _ _ (hi.ran hp hd hS hlt' hr (Mu.le.refl μ) e2 hi.good hi.ext (fun _ _ _ _ _ h => h)) hl'
        · rw [← allocV_congr hops] at k3
          obtain ⟨O, n, f, hm⟩ := alloc_sim (w0 := C.w0) (μ := μ) hρ k1 k3
          have hb := hi.blks d hd k2
          have hg' := hi.good.adopt hb.2 k6 k5 O n (hm.obj _)
          have hx' := hi.ext.adopt (n := n) hb.1 k6 O
          unfold Oper.wp
          rw [hm.run w, Oper.upon_value]
          refine ih _ _ _ _ _ _ _ _ (hi.ran hp hd hS hlt' hr (Mu.le_add k6) (by rw [k4]; exact hm.val _ _ _ (Mu.add_same _ _ _)) hg' hx' (fun d' hd' _ hne hal hun kk hk => ?_)) hl'
          rw [Mu.add_m] at hk
          have : d'.b ≠ d.b := hi.sep d' hd' d hd hne hal k2
          rw [if_neg this] at hk
          exact hun kk hk
    · -- it acts, and is the next to act
      have hRp : ∃ rest, R = (pi, o) :: rest := by
        cases R with
        | nil => cases hpR
        | cons q rest =>
          rcases List.mem_cons.1 hpR with e | hq
          · exact ⟨rest, by rw [e]⟩
          · exfalso
            have hq' := (hi.pairs hp).2.1
            rw [List.pairwise_cons] at hq'
            have hb := (hq'.1 _ hq).eff (hhead q rest rfl)
            have h2 := hr _ hb
            have := (hi.fresh hp (r := q) (by simp)).1
            rw [h2] at this; cases this
      obtain ⟨rest, rfl⟩ := hRp
      have heff := hhead _ _ rfl
      have hk : opKind o.op = .eff := by
        unfold isEff at heff
        simp only at heff
        cases hk : opKind o.op <;> simp [hk] at heff
        rfl
      have hag := hi.agreeHead hp hr
      have hops : ∀ x ∈ o.op.operands, evalArg (envOf C.env0 C.n (isIn listed) dn) x = evalArg s.env x := looks_op (ops := C.ops.toList) hag
      obtain ⟨envs, ns, defss, hs0⟩ := s
      have hrun := hi.run
      simp only [evalOpsD] at hrun
      rw [← looks_wanted (ops := C.ops.toList) hag] at hrun
      split at hrun
      · rename_i hw
        rw [hwant _ hw, if_pos rfl]
        simp only [hk] at hrun
        rw [← stepFn_congr hops] at hrun
        refine .inl ?_
        have hs2 : SR C.w0 μ ⟨envOf C.env0 C.n (isIn listed) dn, C.n, defss, hs0⟩ a w := ⟨hi.env, hi.defs, hi.good⟩
        refine step_wp hs2 hc ⟨fun v defs' h' a' w' μ' hK hs' hx => ?_, fun v vc h' w' μ' hK _ _ _ => by cases hK⟩ hrun
        simp only at hK
        split at hK
        · rename_i hsr
          refine ih _ _ _ _ _ _ _ _ (hi.acted hp hlt' hr (putK_eq hK) hs' hx (fun r hr2 hk2 hb hv => ?_)) hl'
          exact sameAt_read hk2 (sameReads_mem hsr r hr2 hb)
        · cases hK
      · rename_i hw
        rw [hwant _ hw]
        simp only [Bool.false_eq_true, if_false]
        have hs2 : SR C.w0 μ ⟨envOf C.env0 C.n (isIn listed) dn, C.n, defss, hs0⟩ a w := ⟨hi.env, hi.defs, hi.good⟩
        have hs3 := hs2.left o.dst (h' := hs0) VR.noV hi.good (Mu.le.refl μ)
        exact ih _ _ _ _ _ _ _ _ (hi.acted hp hlt' hr (v := noV) (putK_eq hrun) hs3 (Ext.refl _ _ _) (fun r _ _ _ hv => hv)) hl'
      · cases hrun
end

/-- A REGION WHOSE ORDER IS DRAWN. -/
theorem draw_wp {P : Program} {w0 w : World} {μ : Mu} {s : St} {a : Act} (hm : P.follows .mixedOrders = true) {call : CallF} (hc : CallSound P call) {id : Nat} {ops : Array Oper} {plan : Plan} (hp : planD ops.toList = some plan) {K : St → Bool}
    {Q : Exit → Act → World → Prop} (hs : SR w0 μ s a w) (hQ : ∀ s' a' w' μ', K s' = true → SR w0 μ' s' a' w' → Ext μ s.h w μ' s'.h w' → Q .normal a' w')
    (h : evalOpsD P call ops.toList plan.ms plan.L [] s K = true) : (Code.region id ops true).wp P Q a w := by
  refine wp_region_any hm ?_
  let C : DCtx := ⟨P, call, ops, plan.ms, plan.L, K, w0, μ, s.h, w, s.env, s.n⟩
  have hpl : PlanR C.ops C.ms C.L := planD_spec hp
  have hin : ∀ k, isIn (Array.replicate ops.size false) k = false := fun k => by
    unfold isIn
    simp only [Array.getD_eq_getD_getElem?, Array.getElem?_replicate]
    split <;> rfl
  have hi : DInv C (Array.replicate ops.size false) a { w with drawn := w.drawn + 1 } μ [] plan.L [] s := by
    refine ⟨rfl, h, rfl, rfl, by simp [C], fun i hh => ?_, by simp, fun i j hh => ?_, hs.env, hs.defs, hs.good.same rfl rfl rfl rfl, ?_, by simp, by simp, by simp, by simp⟩
    · rw [hin] at hh; cases hh
    · rw [hin] at hh; cases hh
    · exact ⟨Mu.le.refl μ, fun _ _ _ => rfl, fun _ _ h => .inl h, Nat.le_refl _, Nat.le_refl _, fun _ _ _ => rfl, fun _ _ h => .inl h, fun _ _ h => .inl h⟩
  refine wpAny_draw hpl hc hQ _ _ _ _ _ _ _ _ _ hi ?_
  unfold leftN
  refine Nat.le_trans (List.length_filter_le _ _) ?_
  simp [C]
end Go.AM
