/- Parts of the proof. Conditions: none. -/
import Derived.Test.YtfdanacohcffmaaGreatKn8
import Derived.LoopN
set_option linter.unusedVariables false
set_option linter.unusedSimpArgs false
namespace Go.AM
open Go Go.RowKit
inductive AXR (w0 : World) (μ : Mu) : AX → Exit → Prop where
  | normal : AXR w0 μ .normal .normal
  | exit (id : Nat) : AXR w0 μ (.exit id) (.exit id)
  | ret : AXR w0 μ .ret .ret
  | panic (v : AV) (vc : Value) (h : VR w0 μ v vc) : AXR w0 μ (.panic v) (.panic [{ v := vc, recovered := false }])
def LeadsC (w0 : World) (μ : Mu) (h : Heap) (w : World) (K : AX → St → Bool) (Q : Exit → Act → World → Prop) : Prop :=
  ∀ (e : AX) (ex : Exit) (s' : St) (a' : Act) (w' : World) (μ' : Mu), K e s' = true → AXR w0 μ' e ex → SR w0 μ' s' a' w' → Ext μ h w μ' s'.h w' → Q ex a' w'
section
variable {P : Program} {w0 w : World} {μ μ' : Mu} {h h' : Heap} {s : St} {a : Act}
theorem LeadsC.after {K : AX → St → Bool} {Q : Exit → Act → World → Prop} (hl : LeadsC w0 μ h w K Q) {w' : World} (hx : Ext μ h w μ' h' w') : LeadsC w0 μ' h' w' K Q :=
  fun e ex s2 a2 w2 μ2 k2 q2 r2 x2 => hl e ex s2 a2 w2 μ2 k2 q2 r2 (hx.trans x2)
theorem rowE_get (env : Env) : ∀ (n i t : Nat), mkEnv (rowE env n i) t = if t < n then env (i + t) else noV
  | 0, i, t => by simp [rowE, mkEnv]
  | n + 1, i, t => by
    cases t with
    | zero => simp [rowE, mkEnv]
    | succ t =>
      simp only [rowE, mkEnv, rowE_get env n (i + 1) t]
      rw [show i + 1 + t = i + (t + 1) by omega]
      by_cases h : t < n
      · rw [if_pos h, if_pos (by omega)]
      · rw [if_neg h, if_neg (by omega)]
theorem SR.tab (hs : SR w0 μ s a w) : SR w0 μ s.tab a w := by
  refine ⟨⟨hs.env.1, fun t => ?_⟩, hs.defs, hs.good⟩
  show VR w0 μ (mkEnv (rowE s.env s.n 0) t) _
  rw [rowE_get]
  by_cases h : t < s.n
  · rw [if_pos h, Nat.zero_add]; exact hs.env.2 t
  · rw [if_neg h]
    have : a.tmps.getD t undef = undef := by
      have h1 := hs.env.1
      rw [Array.getD_eq_getD_getElem?, Array.getElem?_eq_none (by omega)]; rfl
    rw [this]; exact VR.noV
theorem code_wp (hm : P.follows .mixedOrders = true) {call : CallF} (hc : CallSound P call) (rounds : Nat) : ∀ (c : Code) (s : St) (a : Act) (w : World) (μ : Mu) (K : AX → St → Bool) (Q : Exit → Act → World → Prop), SR w0 μ s a w →
    LeadsC w0 μ s.h w K Q → evalCode P call rounds c s K = true → c.wp P Q a w := by
  intro c
  induction c with
  | skip => intro s a w μ K Q hs hl h; exact wp_skip (hl _ _ _ _ _ _ h .normal hs (Ext.refl _ _ _))
  | region id ops draw =>
    intro s a w μ K Q hs hl h
    simp only [evalCode] at h
    cases draw with
    | true =>
      rw [if_pos rfl] at h
      obtain ⟨plan, hp, h⟩ := bindO_eq h
      exact draw_wp hm hc hp hs (fun s' a' w' μ' hK hs' hx => hl _ _ _ _ _ _ hK .normal hs' hx) h
    | false =>
      simp only [Bool.false_eq_true, if_false] at h
      refine wp_region ?_
      have := ops_wp (Q := Q) hc ops.toList 0 s a w μ (fun j o hj => by rw [Nat.zero_add]; simpa using hj) hs ⟨fun s' a' w' μ' hK hs' hx => hl _ _ _ _ _ _ hK .normal hs' hx, fun v vc s' a' w' μ' hK hv hs' hx => hl _ _ _ _ _ _ hK (.panic v vc hv) hs' hx⟩ h
      rw [List.range_eq_range']
      simpa using this
  | seq x y ihx ihy =>
    intro s a w μ K Q hs hl h
    simp only [evalCode] at h
    refine wp_seq (ihx s a w μ _ _ hs (fun e ex s' a' w' μ' hK hq hs' hx => ?_) h)
    cases hq with
    | normal => exact ihy s' a' w' μ' K Q hs' (hl.after hx) hK
    | exit id => exact hl _ _ _ _ _ _ hK (.exit id) hs' hx
    | ret => exact hl _ _ _ _ _ _ hK .ret hs' hx
    | panic v vc hv => exact hl _ _ _ _ _ _ hK (.panic v vc hv) hs' hx
  | cond c x y ihx ihy =>
    intro s a w μ K Q hs hl h
    simp only [evalCode] at h
    have hcv := hs.eval c
    split at h
    · rename_i e
      rw [e] at hcv
      exact wp_cond_true hcv.bool_inv (ihx s a w μ K Q hs hl h)
    · rename_i e
      rw [e] at hcv
      exact wp_cond_false hcv.bool_inv (ihy s a w μ K Q hs hl h)
    · cases h
  | block id c ih =>
    intro s a w μ K Q hs hl h
    simp only [evalCode] at h
    refine wp_block (ih s a w μ _ _ hs (fun e ex s' a' w' μ' hK hq hs' hx => ?_) h)
    cases hq with
    | normal => exact hl _ _ _ _ _ _ hK .normal hs' hx
    | exit id' =>
      simp only [Exit.inBlock]
      simp only at hK
      by_cases e : id' = id
      · rw [if_pos e]; rw [if_pos e] at hK; exact hl _ _ _ _ _ _ hK .normal hs' hx
      · rw [if_neg e]; rw [if_neg e] at hK; exact hl _ _ _ _ _ _ hK (.exit id') hs' hx
    | ret => exact hl _ _ _ _ _ _ hK .ret hs' hx
    | panic v vc hv => exact hl _ _ _ _ _ _ hK (.panic v vc hv) hs' hx
  | loop c ih =>
    intro s a w μ K Q hs hl h
    simp only [evalCode] at h
    refine wp_loop_rounds rounds ?_
    have key : ∀ (n : Nat) (s : St) (a : Act) (w : World) (μ : Mu), SR w0 μ s a w → LeadsC w0 μ s.h w K Q → iter (evalCode P call rounds c) K n s = true → Code.rounds P c Q n a w := by
      intro n
      induction n with
      | zero => intro s a w μ hs hl h; cases h
      | succ n ihn =>
        intro s a w μ hs hl h
        simp only [iter] at h
        rw [rounds_succ]
        refine ih s a w μ _ _ hs (fun e ex s' a' w' μ' hK hq hs' hx => ?_) h
        cases hq with
        | normal => exact ihn s'.tab a' w' μ' hs'.tab (hl.after hx) hK
        | exit id => exact hl _ _ _ _ _ _ hK (.exit id) hs' hx
        | ret => exact hl _ _ _ _ _ _ hK .ret hs' hx
        | panic v vc hv => exact hl _ _ _ _ _ _ hK (.panic v vc hv) hs' hx
    exact key rounds s a w μ hs hl h
  | exit id => intro s a w μ K Q hs hl h; exact wp_exit (hl _ _ _ _ _ _ h (.exit id) hs (Ext.refl _ _ _))
  | ret => intro s a w μ K Q hs hl h; exact wp_ret (hl _ _ _ _ _ _ h .ret hs (Ext.refl _ _ _))
  | _ => intros; rename_i h; simp [evalCode] at h
def modeOf (vc : Option Value) : FrameMode := match vc with
  | none => .returning
  | some v => .panicking [{ v, recovered := false }]
inductive PanR (w0 : World) (μ : Mu) : Option AV → Option Value → Prop where
  | none : PanR w0 μ none none
  | some {v : AV} {vc : Value} (h : VR w0 μ v vc) : PanR w0 μ (some v) (some vc)
def DSound (P : Program) (D : DPrims) : Prop :=
  ∀ f g, D f = some g → Enters P f ∧ ∀ (args : List AV) (pan : Option AV) (h : Heap) (K : Option AV → Heap → Bool), g args pan h K = true →
    ∀ (w0 : World) (μ : Mu) (w : World) (vs : List Value) (pv : Option Value), Good w0 μ h w → VRL w0 μ args vs → PanR w0 μ pan pv → CallsD P f vs.toArray (modeOf pv) w fun
      | .returned _, u', w' => ∃ pan' pv' h' μ', K pan' h' = true ∧ PanR w0 μ' pan' pv' ∧ settle u' = modeOf pv' ∧ Good w0 μ' h' w' ∧ Ext μ h w μ' h' w'
      | _, _, _ => False
def resOf (tmps : Array Value) : ResultVar → Sem Value
  | .tmp t => pure (tmps.getD t undef)
  | .cell x t => do loadVar t (← asAddr (tmps.getD x undef))
theorem resultA_sim (hs : SR w0 μ s a w) {r : ResultVar} {v : AV} (h : resultA P s r = some v) :
    ∃ vc, (resOf a.tmps r).run P w = .ok vc w ∧ VR w0 μ v vc := by
  cases r with
  | tmp t =>
    simp only [resultA, Option.some.injEq] at h
    subst h
    exact ⟨_, by simp only [resOf, Sem.run_pure], hs.env.2 t⟩
  | cell x t =>
    simp only [resultA] at h
    split at h
    · rename_i i hi
      have hx := hs.env.2 x
      unfold loadS at h
      split at h
      · rename_i b off hxe
        rw [hxe] at hx
        split at h
        · rename_i cs ho
          generalize hxv : a.tmps.getD x undef = xv at hx
          cases hx
          rename_i k hk
          obtain ⟨vc, h1, h2⟩ := run_loadVar hi (hs.good.cells hk ho) h
          exact ⟨vc, by simp only [resOf, hxv, asAddr, Sem.run_bind, Sem.run_pure, Result.andThen_ok, h1], h2⟩
        · cases h
      · rename_i cs off hxe
        rw [hxe] at hx
        generalize hxv : a.tmps.getD x undef = xv at hx
        cases hx
        rename_i g o vs hgl hv hl' hr'
        obtain ⟨vc, h1, h2⟩ := run_loadVar hi (hs.good.icells hgl hl' hv hr') h
        exact ⟨vc, by simp only [resOf, hxv, asAddr, Sem.run_bind, Sem.run_pure, Result.andThen_ok, h1], h2⟩
      · cases h
    · cases h
theorem resultL_sim (hs : SR w0 μ s a w) : ∀ (rs : List ResultVar) (vs : List AV), resultL P s rs = some vs →
    ∃ us : List Value, (rs.mapM (resOf a.tmps)).run P w = .ok us w ∧ VRL w0 μ vs us
  | [], vs, h => by
    simp only [resultL, Option.some.injEq] at h
    subst h
    exact ⟨[], by simp, .nil⟩
  | r :: rs, vs, h => by
    simp only [resultL] at h
    split at h
    · rename_i v vs' h1 h2
      cases h
      obtain ⟨vc, e1, e2⟩ := resultA_sim hs h1
      obtain ⟨us, e3, e4⟩ := resultL_sim hs rs vs' h2
      exact ⟨vc :: us, by simp only [List.mapM_cons, Sem.run_bind, e1, Result.andThen_ok, e3, Sem.run_pure], .cons e2 e4⟩
    · cases h
theorem results_sim (hs : SR w0 μ s a w) {fn : Func} {vs : List AV} (h : resultL P s fn.results.toList = some vs) : ∃ vc, (results fn a.tmps).run P w = .ok vc w ∧ VR w0 μ (oneOf vs) vc := by
  obtain ⟨us, h1, h2⟩ := resultL_sim hs _ _ h
  have hm : (results fn a.tmps).run P w = .ok (if h : us.toArray.size = 1 then us.toArray[0] else .tuple us.toArray) w := by
    have hr : results fn a.tmps = (do let vs ← fn.results.mapM (resOf a.tmps); pure (if h : vs.size = 1 then vs[0] else .tuple vs)) := by
      unfold results
      congr 2
    rw [hr, ← Array.toArray_toList (xs := fn.results), List.mapM_toArray]
    simp only [Sem.run_bind, map_eq_pure_bind, h1, Result.andThen_ok, Sem.run_pure]
  refine ⟨_, hm, ?_⟩
  cases vs with
  | nil => obtain rfl := h2.nil_inv; exact VRL.tuple .nil
  | cons v vs =>
    obtain ⟨u, us', rfl, h3, h4⟩ := h2.cons_inv
    cases vs with
    | nil => obtain rfl := h4.nil_inv; simpa [oneOf] using h3
    | cons v2 vs =>
      obtain ⟨u2, us2, rfl, h5, h6⟩ := h4.cons_inv
      rw [dif_neg (by simp)]
      exact VRL.tuple h2
theorem leave_sim {D : DPrims} (hD : DSound P D) {fn : Func} {μb : Mu} {hb : Heap} {wb : World} {K : Out → Heap → Bool} : ∀ (ds : List ADef) (Ds : List Deferred) (pan : Option AV) (pv : Option Value) (s : St) (a : Act) (w : World) (μ : Mu),
    EnvR w0 μ s.env s.n a.tmps → DefsR w0 μ ds Ds → Good w0 μ s.h w → PanR w0 μ pan pv → Ext μb hb wb μ s.h w → leave P D fn.results.toList K ds pan s = true →
    Leaves P fn a.tmps (OutR w0 μb hb wb K) Ds (modeOf pv) w
  | [], Ds, pan, pv, s, a, w, μ, he, hd, hg, hp, hx, h => by
    cases hd
    have hs : SR w0 μ ⟨s.env, s.n, [], s.h⟩ ⟨a.tmps, []⟩ w := ⟨he, .nil, hg⟩
    cases hp with
    | none =>
      simp only [leave] at h
      obtain ⟨vs, h1, h2⟩ := bindO_eq h
      have h1' : resultL P ⟨s.env, s.n, [], s.h⟩ fn.results.toList = some vs := by
        rw [← h1]
        have : ∀ rs : List ResultVar, resultL P ⟨s.env, s.n, [], s.h⟩ rs = resultL P s rs := by
          intro rs
          induction rs with
          | nil => rfl
          | cons r rs ih => simp only [resultL, ih]; cases r <;> rfl
        exact this _
      obtain ⟨vc, h3, h4⟩ := results_sim hs h1'
      exact ⟨vc, h3, _, _, _, h2, h4, hg, hx⟩
    | some hv =>
      simp only [leave] at h
      exact ⟨_, _, _, _, h, rfl, hv, hg, hx⟩
  | d :: ds, Ds, pan, pv, s, a, w, μ, he, hd, hg, hp, hx, h => by
    cases hd with
    | cons hdr ht =>
      obtain ⟨cap, args, rfl, r1, r2⟩ := hdr
      simp only [leave] at h
      split at h
      · rename_i g hg'
        obtain ⟨hen, hsound⟩ := hD d.f g hg'
        have hcd := hsound _ _ _ _ h w0 μ w (args ++ cap) pv hg (r1.append r2) hp
        refine ⟨by cases pv <;> simp [modeOf], .func d.f, cap.toArray, d.f, (args ++ cap).toArray, rfl, ?_, ?_⟩
        · have e : args.toArray ++ cap.toArray = (args ++ cap).toArray := by simp
          simp only [invoke, e, run_callFunc hen]
        · refine CallsD.mono hcd fun e u' w' hR => ?_
          cases e with
          | returned v =>
            obtain ⟨pan', pv', h', μ', hK, hp', hu, hg2, hx2⟩ := hR
            simp only
            rw [hu]
            exact leave_sim hD ds _ pan' pv' ⟨s.env, s.n, s.defs, h'⟩ a w' μ' (he.mono hx2.mono) (ht.mono hx2.mono) hg2 hp' (hx.trans hx2) hK
          | panicked c => exact hR.elim
          | outgrown => exact hR.elim
      · cases h
theorem env_enter {args : List AV} {vs : List Value} (h : VRL w0 μ args vs) {n : Nat} (hn : args.length ≤ n) : EnvR w0 μ (mkEnv args) n (vs.toArray ++ Array.replicate (n - vs.toArray.size) undef) := by
  have hl := h.len
  refine ⟨by simp; omega, fun t => ?_⟩
  have key : ∀ (args : List AV) (t : Nat), mkEnv args t = (args[t]?).getD noV := by
    intro args
    induction args with
    | nil => intro t; simp [mkEnv]
    | cons x xs ih =>
      intro t
      cases t with
      | zero => simp [mkEnv]
      | succ t => simp [mkEnv, ih]
  rw [key]
  by_cases ht : t < args.length
  · have h1 : args[t]? = some args[t] := ZgE ht
    obtain ⟨v, h2, h3⟩ := h.get h1
    rw [h1]
    have : (vs.toArray ++ Array.replicate (n - vs.toArray.size) undef).getD t undef = v := by
      rw [Array.getD_eq_getD_getElem?, Array.getElem?_append_left (by simp; omega)]
      simp [h2]
    rw [this]; exact h3
  · rw [List.getElem?_eq_none (by omega)]
    have : (vs.toArray ++ Array.replicate (n - vs.toArray.size) undef).getD t undef = undef := by
      rw [Array.getD_eq_getD_getElem?, Array.getElem?_append_right (by simp; omega), Array.getElem?_replicate]
      split <;> rfl
    rw [this]; exact VR.noV
def PrimsSound (P : Program) (F : Prims) : Prop :=
  ∀ f g, F f = some g → ∀ args h K, g args h K = true → Enters P f ∧ ∀ (w0 : World) (μ : Mu) (w : World) (vs : List Value), Good w0 μ h w → VRL w0 μ args vs → Calls P f vs.toArray w (OutR w0 μ h w K)
theorem evalFn_sound (hm : P.follows .mixedOrders = true) {F : Prims} {D : DPrims} (hF : PrimsSound P F) (hD : DSound P D) : ∀ n, CallSound P (evalFn P F D n)
  | 0 => fun f args h K hh => by cases hh
  | n + 1 => fun f args h K hh => by
    simp only [evalFn] at hh
    split at hh
    · rename_i g hg; exact hF f g hg args h K hh
    · split at hh
      · cases hh
      · rename_i fn hfn
        split at hh
        · rename_i hcond
          simp only [Bool.and_eq_true, decide_eq_true_eq, bne_iff_ne, ne_eq] at hcond
          unfold bodyFn at hh
          split at hh
          · cases hh
          · rename_i c hb
            refine ⟨⟨fn, c, hfn, hb, hcond.2⟩, fun w0 μ w vs hg hv => ?_⟩
            refine calls_of_wp_defers hfn hb ?_
            refine code_wp (w0 := w0) hm (evalFn_sound hm hF hD n) n c ⟨mkEnv args, fn.ntmps, [], h⟩ _ w μ _ _ ⟨env_enter hv hcond.1, .nil, hg⟩ (fun e ex s' a' w' μ' hK hq hs' hx => ?_) hh
            cases hq with
            | normal => exact leave_sim hD _ _ none none s' a' w' μ' hs'.env hs'.defs hs'.good .none hx hK
            | ret => exact leave_sim hD _ _ none none s' a' w' μ' hs'.env hs'.defs hs'.good .none hx hK
            | exit id => cases hK
            | panic v vc hv => exact leave_sim hD _ _ (some v) (some vc) s' a' w' μ' hs'.env hs'.defs hs'.good (.some hv) hx hK
        · cases hh
end
end Go.AM
set_option linter.unusedVariables false
set_option linter.unusedSimpArgs false
namespace Go.AM
open Go Go.RowKit
def entsBeq : List Entry → List Entry → Bool
  | [], [] => true
  | a :: as, b :: bs => AV.beq a.1 b.1 && (AV.beq a.2.1 b.2.1 && (Nat.beq a.2.2 b.2.2 && entsBeq as bs))
  | _, _ => false
def AObj.beq : AObj → AObj → Bool
  | .dead, .dead => true
  | .cells a, .cells b => AV.beqL a b
  | .map es c, .map fs d => entsBeq es fs && Nat.beq c d
  | .siter s p, .siter t q => decide (s = t) && Nat.beq p q
  | .miter m s l k, .miter m' s' l' k' => decide (m = m') && (Nat.beq s s' && (decide (l = l') && Nat.beq k k'))
  | .box a, .box b => AV.beq a b
  | _, _ => false
def Heap.Clean (h : Heap) : Prop := ∀ b, h.next ≤ b → h.get b = none
theorem Heap.clean_empty : Heap.empty.Clean := fun b _ => Trie.get_leaf b
theorem Heap.clean_alloc {h : Heap} (hc : h.Clean) (o : AObj) : (h.alloc o).Clean := fun b hb => by
  simp at hb
  rw [Heap.get_alloc, if_neg (by omega)]
  exact hc b (by omega)
section
variable {P : Program} {w0 w : World} {μ μ' : Mu} {h h' h1 : Heap}
def Mu.bare (μ : Mu) : Mu := ⟨fun _ => Option.none, μ.z⟩
def Mu.iced (μ μ' : Mu) : Mu := ⟨μ.m, μ'.z⟩
theorem Good.nothing (hg : Good w0 μ h w) : Good w0 μ.bare Heap.empty w :=
  ⟨hg.below, Heap.clean_empty, by simp [Mu.bare], by simp [Mu.bare], hg.frz, by simp [Mu.bare], by simp [Mu.bare], by simp [Mu.bare]⟩
theorem Good.around (hg : Good w0 μ h w) {w' : World} (hg' : Good w0 μ' h' w') (hx : Ext μ.bare Heap.empty w μ' h' w') : Good w0 (μ.iced μ') h w' ∧ Ext μ h w (μ.iced μ') h w' := by
  have hf : ∀ k, k < w.heap.size → w'.heap[k]? = w.heap[k]? := fun k hk => hx.frame k hk (by simp [Mu.bare])
  refine ⟨⟨hg'.below, hg.clean, hg.fresh, fun b k hb => ?_, hg'.frz, fun b k hb => ?_, fun b k o hb ho => ?_, hg.inj⟩, ⟨⟨fun _ _ h => h, hx.mono.frz⟩, fun k hk _ => hf k hk, fun _ _ h => .inl h, hx.size, ZrF _, fun _ _ _ => rfl, fun _ _ h => .inl h, hx.iced⟩⟩
  · have := hg.own b k hb; have := hx.size; omega
  · show μ'.z k.c = none
    cases hz : μ'.z k.c with
    | none => rfl
    | some vs =>
      rcases hx.iced _ _ hz with h1 | h1
      · have h1' : μ.z k.c = some vs := h1
        rw [hg.apart b k hb] at h1'; cases h1'
      · have := (hg.own b k hb).2; omega
  · have hb' : μ b = some k := hb
    rw [hf _ (hg.own b k hb').2]
    exact ObjR.mono (μ := μ) (μ' := μ.iced μ') ⟨fun _ _ h => h, hx.mono.frz⟩ (hg.obj b k o hb' ho)
def boolP (b : Bool) : List AV → Heap → (Out → Heap → Bool) → Bool := fun args h K =>
  match args with
  | [] => K (.ret (.bool b)) h
  | _ => false
def boolK (b : Bool) : Out → Heap → Bool
  | .ret v, _ => AV.beq v (.bool b)
  | _, _ => false
theorem boolP_sound {call : CallF} (hs : CallSound P call) {f : FuncId} {b : Bool} (he : call f [] Heap.empty (boolK b) = true) (args : List AV) (h : Heap) (K : Out → Heap → Bool) (hK : boolP b args h K = true) :
    Enters P f ∧ ∀ (w0 : World) (μ : Mu) (w : World) (vs : List Value), Good w0 μ h w → VRL w0 μ args vs → Calls P f vs.toArray w (OutR w0 μ h w K) := by
  obtain ⟨hen, hc⟩ := hs _ _ _ _ he
  refine ⟨hen, fun w0 μ w vs hg hv => ?_⟩
  unfold boolP at hK
  split at hK
  · obtain rfl := hv.nil_inv
    refine Calls.mono (hc w0 _ w [] hg.nothing .nil) fun e w' hR => ?_
    cases e with
    | returned vc =>
      obtain ⟨v, h', μ', k1, k2, k3, k4⟩ := hR
      obtain rfl := AV.beq_eq _ _ k1
      obtain ⟨g1, g2⟩ := hg.around k3 k4
      rw [k2.bool_inv]
      exact ⟨_, h, μ.iced μ', hK, .bool b, g1, g2⟩
    | panicked c =>
      obtain ⟨v, vc, h', μ', k1, _⟩ := hR
      cases k1
    | outgrown => exact hR.elim
  · cases hK
end
end Go.AM
set_option linter.unusedVariables false
set_option linter.unusedSimpArgs false
namespace Go.AM
open Go Go.RowKit
section
variable {w0 : World} {μ : Mu} {ρ : Nat → Nat}
end
mutual
theorem AV.beq_refl : ∀ x : AV, AV.beq x x = true
  | .undef => rfl
  | .bool a => by simp [AV.beq]
  | .int k a => by simp [AV.beq]
  | .str a => by simp [AV.beq]
  | .nilp => rfl
  | .ptr a i => by simp [AV.beq]
  | .iptr a i => by simp [AV.beq, AV.beqL_refl a]
  | .nils => rfl
  | .slice b i l s => by simp [AV.beq]
  | .islice a i l s => by simp [AV.beq, AV.beqL_refl a]
  | .nilm => rfl
  | .map a => by simp [AV.beq]
  | .nilf => rfl
  | .func f a b => by simp [AV.beq, AV.beqL_refl a, AV.beqL_refl b]
  | .nili => rfl
  | .iface t v => by simp [AV.beq, AV.beq_refl v]
  | .agg a => by simp [AV.beq, AV.beqL_refl a]
  | .tuple a => by simp [AV.beq, AV.beqL_refl a]
theorem AV.beqL_refl : ∀ x : List AV, AV.beqL x x = true
  | [] => rfl
  | a :: l => by simp [AV.beqL, AV.beq_refl a, AV.beqL_refl l]
end
theorem nat_beq_refl : ∀ n : Nat, Nat.beq n n = true
  | 0 => rfl
  | n + 1 => nat_beq_refl n
theorem entsBeq_refl : ∀ l : List Entry, entsBeq l l = true
  | [] => rfl
  | e :: l => by simp [entsBeq, AV.beq_refl, nat_beq_refl, entsBeq_refl l]
theorem AObj.beq_refl (a : AObj) : AObj.beq a a = true := by
  cases a <;> simp [AObj.beq, AV.beqL_refl, AV.beq_refl, entsBeq_refl, nat_beq_refl]
end Go.AM
namespace Go.AM
def orP (g1 g2 : List AV → Heap → (Out → Heap → Bool) → Bool) : List AV → Heap → (Out → Heap → Bool) → Bool := fun args h K => g1 args h K || g2 args h K
theorem orP_eq {g1 g2 : List AV → Heap → (Out → Heap → Bool) → Bool} {args : List AV} {h : Heap} {K : Out → Heap → Bool} (hK : orP g1 g2 args h K = true) : g1 args h K = true ∨ g2 args h K = true := by
  simpa [orP] using hK
end Go.AM
set_option linter.unusedVariables false
set_option linter.unusedSimpArgs false
namespace Go.AM
open Go Go.RowKit
noncomputable section
variable {K : Out → Heap → Bool} {args : List AV} {env : Env} {h : Heap} {f : FuncId}
def Sem (P : Program) (f : FuncId) (args : List AV) (h : Heap) (K : Out → Heap → Bool) : Prop :=
  Enters P f ∧ ∀ (w0 : World) (μ : Mu) (w : World) (vs : List Value), Good w0 μ h w → VRL w0 μ args vs → Calls P f vs.toArray w (OutR w0 μ h w K)
theorem OutR.mono {w0 w : World} {μ : Mu} {K' : Out → Heap → Bool} (hk : ∀ o h', K o h' = true → K' o h' = true) {e : Ending} {w' : World} (hr : OutR w0 μ h w K e w') : OutR w0 μ h w K' e w' := by
  cases e with
  | returned vc => obtain ⟨v, h', μ', k1, k2⟩ := hr; exact ⟨v, h', μ', hk _ _ k1, k2⟩
  | panicked c => obtain ⟨v, vc, h', μ', k1, k2⟩ := hr; exact ⟨v, vc, h', μ', hk _ _ k1, k2⟩
  | outgrown => exact hr.elim
theorem Sem.mono {P : Program} {f : FuncId} {args : List AV} {h : Heap} {K K' : Out → Heap → Bool} (hs : Sem P f args h K) (hk : ∀ o h', K o h' = true → K' o h' = true) : Sem P f args h K' :=
  ⟨hs.1, fun w0 μ w vs hg hv => (hs.2 w0 μ w vs hg hv).mono fun _ _ hr => hr.mono hk⟩
def semCall (P : Program) : CallF := fun f args h K => @decide (Sem P f args h K) (Classical.propDecidable _)
theorem semCall_sound (P : Program) : CallSound P (semCall P) := fun f args h K hh => @of_decide_eq_true _ (Classical.propDecidable _) hh
theorem semCall_true {P : Program} (hs : Sem P f args h K) : semCall P f args h K = true := @decide_eq_true _ (Classical.propDecidable _) hs
theorem CallSound.sem {P : Program} {call : CallF} (hc : CallSound P call) (hh : call f args h K = true) : Sem P f args h K := hc f args h K hh
def yes (p : Prop) : Bool := @decide p (Classical.propDecidable _)
theorem yes_eq {p : Prop} : yes p = true ↔ p := @decide_eq_true_iff p (Classical.propDecidable _)
theorem runB_ex : ∃ r : (St → (AX → St → Bool) → Bool) → St → (AX → St → Bool) → Bool, ∀ f s K, r f s K = f s K := ⟨fun f s K => f s K, fun _ _ _ => rfl⟩
def runB : (St → (AX → St → Bool) → Bool) → St → (AX → St → Bool) → Bool := Classical.choose runB_ex
theorem runB_eq (f : St → (AX → St → Bool) → Bool) (s : St) (K : AX → St → Bool) : runB f s K = f s K := Classical.choose_spec runB_ex f s K
def seqK (j : Bool) (b : St → (AX → St → Bool) → Bool) (K : AX → St → Bool) : AX → St → Bool
  | .normal, s' => @Bool.rec (fun _ => Bool) (b s' K) (runB b s' K) j
  | .exit id, s' => K (.exit id) s'
  | .ret, s' => K .ret s'
  | .panic v, s' => K (.panic v) s'
theorem seqK_normal (j : Bool) (b : St → (AX → St → Bool) → Bool) (K : AX → St → Bool) (s : St) : seqK j b K .normal s = b s K := by
  cases j
  · rfl
  · exact runB_eq b s K
def blockK (id : Nat) (K : AX → St → Bool) : AX → St → Bool
  | .normal, s' => K .normal s'
  | .exit id', s' => @Bool.rec (fun _ => Bool) (K (.exit id') s') (K .normal s') (Nat.beq id' id)
  | .ret, s' => K .ret s'
  | .panic v, s' => K (.panic v) s'
def condB (x : AV) (a b : Bool) : Bool :=
  match x with
  | .bool t => @Bool.rec (fun _ => Bool) b a t
  | _ => false
def loopK (I : Nat → St → Prop) (n : Nat) (K : AX → St → Bool) : AX → St → Bool
  | .normal, s' => yes (∃ m, m < n ∧ I m s')
  | .exit id, s' => K (.exit id) s'
  | .ret, s' => K .ret s'
  | .panic v, s' => K (.panic v) s'
def loopB (f : St → (AX → St → Bool) → Bool) (s : St) (K : AX → St → Bool) : Bool :=
  yes (∃ I : Nat → St → Prop, (∃ n, I n s) ∧ ∀ n s', I n s' → f s' (loopK I n K) = true)
def dstAt (ops : List Oper) (j : Nat) : Option Tmp := match ops[j]? with | some g => g.dst | none => none
def memN (j : Nat) : List Nat → Bool
  | [] => false
  | k :: ks => @Bool.rec (fun _ => Bool) (memN j ks) true (Nat.beq j k)
def evalOpsG (P : Program) (call : CallF) (ops : List Oper) : List Oper → Nat → List Nat → St → (RS → Bool) → Bool
  | [], _, _, s, K => K (.ok s)
  | o :: rest, i, sk, ⟨env, n, defs, h⟩, K =>
    match o.guard with
    | none => stepFn o.op P call env defs h fun
      | .ok v defs h => putK env n o.dst v fun env => evalOpsG P call ops rest (i + 1) sk ⟨env, n, defs, h⟩ K
      | .panic v h => K (.panic v ⟨env, n, defs, h⟩)
    | some (j, want) => match dstAt ops j with
      | none => false
      | some d => @Bool.rec (fun _ => Bool)
        (condB (env d)
          (@Bool.rec (fun _ => Bool) (putK (setV env d (.bool true)) n o.dst noV fun env => evalOpsG P call ops rest (i + 1) (i :: sk) ⟨env, n, defs, h⟩ K)
            (stepFn o.op P call (setV env d (.bool true)) defs h fun
              | .ok v defs h => putK (setV env d (.bool true)) n o.dst v fun env => evalOpsG P call ops rest (i + 1) sk ⟨env, n, defs, h⟩ K
              | .panic v h => K (.panic v ⟨setV env d (.bool true), n, defs, h⟩)) want)
          (@Bool.rec (fun _ => Bool) (stepFn o.op P call (setV env d (.bool false)) defs h fun
              | .ok v defs h => putK (setV env d (.bool false)) n o.dst v fun env => evalOpsG P call ops rest (i + 1) sk ⟨env, n, defs, h⟩ K
              | .panic v h => K (.panic v ⟨setV env d (.bool false), n, defs, h⟩))
            (putK (setV env d (.bool false)) n o.dst noV fun env => evalOpsG P call ops rest (i + 1) (i :: sk) ⟨env, n, defs, h⟩ K) want))
        (match env d with
          | .tuple _ => putK env n o.dst noV fun env => evalOpsG P call ops rest (i + 1) (i :: sk) ⟨env, n, defs, h⟩ K
          | _ => false) (memN j sk)
def evalOpsDG (P : Program) (call : CallF) (ops : List Oper) (ms : List Nat) : List (Nat × Oper) → List Read → List Nat → St → (St → Bool) → Bool
  | [], _, _, s, K => K s
  | p :: rest, lg, sk, ⟨env, n, defs, h⟩, K =>
    @Option.rec (Nat × Bool) (fun _ => Bool)
      (match opKind p.2.op with
      | .pure => opFn p.2.op P (evalArg env) h fun v _ => putK env n p.2.dst v fun env' => evalOpsDG P call ops ms rest lg sk ⟨env', n, defs, h⟩ K
      | .read => opFn p.2.op P (evalArg env) h fun v _ => putK env n p.2.dst v fun env' => evalOpsDG P call ops ms rest (⟨p.1, p.2.op, env, v⟩ :: lg) sk ⟨env', n, defs, h⟩ K
      | .alloc => opFn p.2.op P (evalArg env) h fun v h' => putK env n p.2.dst v fun env' => evalOpsDG P call ops ms rest lg sk ⟨env', n, defs, h'⟩ K
      | .eff =>
        stepFn p.2.op P call env defs h fun
          | .ok v defs' h' => if sameReads P ms p.1 h' lg then putK env n p.2.dst v fun env' => evalOpsDG P call ops ms rest lg sk ⟨env', n, defs', h'⟩ K else false
          | .panic _ _ => false)
      (fun g => match dstAt ops g.1 with
        | none => false
        | some d => @Bool.rec (fun _ => Bool)
          (condB (env d)
            (@Bool.rec (fun _ => Bool) (putK (setV env d (.bool true)) n p.2.dst noV fun env' => evalOpsDG P call ops ms rest lg (p.1 :: sk) ⟨env', n, defs, h⟩ K)
              (match opKind p.2.op with
              | .pure => opFn p.2.op P (evalArg (setV env d (.bool true))) h fun v _ => putK (setV env d (.bool true)) n p.2.dst v fun env' => evalOpsDG P call ops ms rest lg sk ⟨env', n, defs, h⟩ K
              | .read => opFn p.2.op P (evalArg (setV env d (.bool true))) h fun v _ => putK (setV env d (.bool true)) n p.2.dst v fun env' => evalOpsDG P call ops ms rest (⟨p.1, p.2.op, setV env d (.bool true), v⟩ :: lg) sk ⟨env', n, defs, h⟩ K
              | .alloc => opFn p.2.op P (evalArg (setV env d (.bool true))) h fun v h' => putK (setV env d (.bool true)) n p.2.dst v fun env' => evalOpsDG P call ops ms rest lg sk ⟨env', n, defs, h'⟩ K
              | .eff =>
                stepFn p.2.op P call (setV env d (.bool true)) defs h fun
                  | .ok v defs' h' => if sameReads P ms p.1 h' lg then putK (setV env d (.bool true)) n p.2.dst v fun env' => evalOpsDG P call ops ms rest lg sk ⟨env', n, defs', h'⟩ K else false
                  | .panic _ _ => false) g.2)
            (@Bool.rec (fun _ => Bool)
              (match opKind p.2.op with
              | .pure => opFn p.2.op P (evalArg (setV env d (.bool false))) h fun v _ => putK (setV env d (.bool false)) n p.2.dst v fun env' => evalOpsDG P call ops ms rest lg sk ⟨env', n, defs, h⟩ K
              | .read => opFn p.2.op P (evalArg (setV env d (.bool false))) h fun v _ => putK (setV env d (.bool false)) n p.2.dst v fun env' => evalOpsDG P call ops ms rest (⟨p.1, p.2.op, setV env d (.bool false), v⟩ :: lg) sk ⟨env', n, defs, h⟩ K
              | .alloc => opFn p.2.op P (evalArg (setV env d (.bool false))) h fun v h' => putK (setV env d (.bool false)) n p.2.dst v fun env' => evalOpsDG P call ops ms rest lg sk ⟨env', n, defs, h'⟩ K
              | .eff =>
                stepFn p.2.op P call (setV env d (.bool false)) defs h fun
                  | .ok v defs' h' => if sameReads P ms p.1 h' lg then putK (setV env d (.bool false)) n p.2.dst v fun env' => evalOpsDG P call ops ms rest lg sk ⟨env', n, defs', h'⟩ K else false
                  | .panic _ _ => false)
              (putK (setV env d (.bool false)) n p.2.dst noV fun env' => evalOpsDG P call ops ms rest lg (p.1 :: sk) ⟨env', n, defs, h⟩ K) g.2))
          (match env d with
            | .tuple _ => putK env n p.2.dst noV fun env' => evalOpsDG P call ops ms rest lg (p.1 :: sk) ⟨env', n, defs, h⟩ K
            | _ => false) (memN g.1 sk)) p.2.guard
def regK (K : AX → St → Bool) : RS → Bool
  | .ok s' => K .normal s'
  | .panic v s' => K (.panic v) s'
def evalS (P : Program) (call : CallF) : Code → St → (AX → St → Bool) → Bool
  | .skip, s, K => K .normal s
  | .region _ ops draw, s, K =>
    @Bool.rec (fun _ => Bool) (evalOpsG P call ops.toList ops.toList 0 [] s (regK K))
      (bindO (planD ops.toList) fun p => evalOpsDG P call ops.toList p.ms p.L [] [] s fun s' => K .normal s') draw
  | .seq a b, s, K => evalS P call a s (seqK (joinAt a b) (evalS P call b) K)
  | .cond c a b, s, K => condB (evalArg s.env c) (evalS P call a s K) (evalS P call b s K)
  | .block id c, s, K => evalS P call c s (blockK id K)
  | .loop c, s, K => loopB (evalS P call c) s K
  | .exit id, s, K => K (.exit id) s
  | .ret, s, K => K .ret s
  | _, _, _ => false
theorem setV_self {d : Nat} {v : AV} (h : env d = v) : setV env d v = env := by
  funext t
  rw [setV_eq]
  by_cases e : t = d
  · rw [if_pos e, e, h]
  · rw [if_neg e]
theorem condB_inv {x : AV} {a b : Bool} (h : condB x a b = true) : (x = .bool true ∧ a = true) ∨ (x = .bool false ∧ b = true) := by
  unfold condB at h
  split at h
  · rename_i t
    cases t
    · exact .inr ⟨rfl, h⟩
    · exact .inl ⟨rfl, h⟩
  · cases h
section
variable {P : Program} {w0 w : World} {μ μ' : Mu} {h h' : Heap} {s : St} {a : Act}
theorem wantedA_at {ops : List Oper} {o : Oper} {j : Nat} {want : Bool} {d : Tmp} (hg : o.guard = some (j, want)) (hd : dstAt ops j = some d) :
    wantedA ops o env = (match env d with | .bool b => some (b == want) | .tuple _ => some false | _ => none) := by
  unfold wantedA dstAt at *
  rw [hg]
  simp only
  split at hd
  · rename_i g hj
    rw [hj]
    simp only [hd]
    rfl
  · cases hd
theorem opFn_mono {ρ : Operand → AV} {op : Op} {hp : Heap} {K1 K2 : AV → Heap → Bool} (hk : ∀ v h', K1 v h' = true → K2 v h' = true) (hh : opFn op P ρ hp K1 = true) : opFn op P ρ hp K2 = true := by
  have val : ∀ {o : Option AV}, valK hp K1 o = true → valK hp K2 o = true := by
    intro o h; cases o with
    | none => exact h
    | some a => exact hk _ _ h
  have both : ∀ {o : Option (AV × Heap)}, bothK K1 o = true → bothK K2 o = true := by
    intro o h; cases o with
    | none => exact h
    | some a => exact hk _ _ h
  have heap : ∀ {o : Option Heap}, heapK K1 o = true → heapK K2 o = true := by
    intro o h; cases o with
    | none => exact h
    | some a => exact hk _ _ h
  have bind : ∀ {α : Type} {o : Option α} {f g : α → Bool}, (∀ a, f a = true → g a = true) → bindO o f = true → bindO o g = true := by
    intro α o f g hfg h; cases o with
    | none => exact h
    | some a => exact hfg _ h
  cases op <;> simp only [opFn] at hh ⊢ <;> try (first | exact hk _ _ hh | exact val hh | exact both hh | exact heap hh | exact bind (fun _ h => val h) hh | exact bind (fun _ h => both h) hh | exact bind (fun _ h => heap h) hh | exact bind (fun _ h => hk _ _ h) hh | (exfalso; simp at hh; done))
  case buildSlice t n ps => unfold exBuildSlice at hh ⊢; exact bind (fun _ h => bind (fun _ h => hk _ _ h) h) hh
  case binOp o t x y u =>
    unfold exBin at hh ⊢
    cases o <;> simp only at hh ⊢ <;> first | exact val hh | exact bind (fun _ h => val h) hh
  case makeFunc fn f c =>
    unfold exMakeFunc at hh ⊢
    cases fn <;> simp only at hh ⊢ <;> first | exact hk _ _ hh | exact hh
  case makeMap t r =>
    unfold exMakeMap at hh ⊢
    cases r <;> simp only at hh ⊢ <;> first | exact hk _ _ hh | exact hh
  case slice t x lo hi mx =>
    unfold exSlice at hh ⊢
    cases mx <;> simp only at hh ⊢ <;> first | exact bind (fun _ h => val h) hh | exact hh
  case call c =>
    obtain ⟨cal, args, ts⟩ := c
    unfold exCall at hh ⊢
    cases cal with
    | value f => exact hh
    | invoke r m => exact hh
    | builtin b =>
      simp only at hh ⊢
      cases b <;> simp only [bltFn, bltBad, Bool.false_eq_true] at hh ⊢
      case append =>
        unfold bltAppend at hh ⊢
        split at hh
        · exact bind (fun _ h => both h) hh
        · exact hh
      case copy =>
        unfold bltCopy at hh ⊢
        split at hh
        · exact bind (fun _ h => both h) hh
        · exact hh
      case len =>
        unfold bltLen at hh ⊢
        split at hh
        · exact bind (fun _ h => val h) hh
        · exact hh
      case delete =>
        unfold bltDelete at hh ⊢
        split at hh
        · exact bind (fun _ h => heap h) hh
        · exact hh
      case min => 
        unfold bltFold at hh ⊢
        split at hh
        · exact val hh
        · exact hh
      case max =>
        unfold bltFold at hh ⊢
        split at hh
        · exact val hh
        · exact hh
theorem stepFn_mono {op : Op} {defs : List ADef} {hp : Heap} {K1 K2 : R → Bool} (hk : ∀ r, K1 r = true → K2 r = true) (hh : stepFn op P (semCall P) env defs hp K1 = true) : stepFn op P (semCall P) env defs hp K2 = true := by
  have plain : ∀ {op : Op}, stPlain op P (semCall P) env defs hp K1 = true → stPlain op P (semCall P) env defs hp K2 = true := fun h => opFn_mono (fun _ _ h => hk _ h) h
  cases op <;> simp only [stepFn] at hh ⊢ <;> try exact plain hh
  case call c =>
    obtain ⟨cal, args, ts⟩ := c
    cases cal with
    | builtin b => exact plain hh
    | invoke r m => exact plain hh
    | value f =>
      simp only [stCall, stCallV] at hh ⊢
      split at hh
      · refine semCall_true ((semCall_sound P).sem hh |>.mono fun o h' h => ?_)
        cases o <;> exact hk _ h
      · exact hh
  case defer c =>
    obtain ⟨cal, args, ts⟩ := c
    cases cal with
    | builtin b => exact hh
    | invoke r m => exact hh
    | value f =>
      simp only [stDefer] at hh ⊢
      split at hh
      · exact hk _ hh
      · exact hh
  case panic x =>
    simp only [stPanic] at hh ⊢
    split at hh
    · exact hk _ hh
    · exact hh
  case next x b =>
    simp only [stNext] at hh ⊢
    generalize nextS b (evalArg env x) hp = o at hh ⊢
    cases o with
    | none => exact hh
    | some L =>
      simp only [bindO] at hh ⊢
      induction L with
      | nil => rfl
      | cons p L ih =>
        simp only [allNext, Bool.and_eq_true] at hh ⊢
        exact ⟨hk _ hh.1, ih hh.2⟩
theorem putK_mono {n : Nat} {dst : Option Tmp} {v : AV} {k1 k2 : Env → Bool} (hk : ∀ e, k1 e = true → k2 e = true) (hh : putK env n dst v k1 = true) : putK env n dst v k2 = true := by
  cases dst with
  | none => exact hk _ hh
  | some d =>
    simp only [putK] at hh ⊢
    cases hb : Nat.ble (d + 1) n with
    | false => rw [hb] at hh; cases hh
    | true => rw [hb] at hh; exact hk _ hh
theorem evalOpsDG_eq {ops : List Oper} {ms : List Nat} {K : St → Bool} : ∀ (L : List (Nat × Oper)) (lg : List Read) (sk : List Nat) (s : St), evalOpsDG P (semCall P) ops ms L lg sk s K = true → evalOpsD P (semCall P) ops ms L lg s K = true
  | [], lg, sk, s, hh => hh
  | p :: rest, lg, sk, ⟨env, n, defs, hp⟩, hh => by
    have goes : (match opKind p.2.op with
      | .pure => opFn p.2.op P (evalArg env) hp fun v _ => putK env n p.2.dst v fun env' => evalOpsDG P (semCall P) ops ms rest lg sk ⟨env', n, defs, hp⟩ K
      | .read => opFn p.2.op P (evalArg env) hp fun v _ => putK env n p.2.dst v fun env' => evalOpsDG P (semCall P) ops ms rest (⟨p.1, p.2.op, env, v⟩ :: lg) sk ⟨env', n, defs, hp⟩ K
      | .alloc => opFn p.2.op P (evalArg env) hp fun v h' => putK env n p.2.dst v fun env' => evalOpsDG P (semCall P) ops ms rest lg sk ⟨env', n, defs, h'⟩ K
      | .eff =>
        stepFn p.2.op P (semCall P) env defs hp fun
          | .ok v defs' h' => if sameReads P ms p.1 h' lg then putK env n p.2.dst v fun env' => evalOpsDG P (semCall P) ops ms rest lg sk ⟨env', n, defs', h'⟩ K else false
          | .panic _ _ => false) = true → (match opKind p.2.op with
      | .pure => opFn p.2.op P (evalArg env) hp fun v _ => putK env n p.2.dst v fun env' => evalOpsD P (semCall P) ops ms rest lg ⟨env', n, defs, hp⟩ K
      | .read => opFn p.2.op P (evalArg env) hp fun v _ => putK env n p.2.dst v fun env' => evalOpsD P (semCall P) ops ms rest (⟨p.1, p.2.op, env, v⟩ :: lg) ⟨env', n, defs, hp⟩ K
      | .alloc => opFn p.2.op P (evalArg env) hp fun v h' => putK env n p.2.dst v fun env' => evalOpsD P (semCall P) ops ms rest lg ⟨env', n, defs, h'⟩ K
      | .eff =>
        stepFn p.2.op P (semCall P) env defs hp fun
          | .ok v defs' h' => if sameReads P ms p.1 h' lg then putK env n p.2.dst v fun env' => evalOpsD P (semCall P) ops ms rest lg ⟨env', n, defs', h'⟩ K else false
          | .panic _ _ => false) = true := by
      intro h
      cases hk : opKind p.2.op <;> rw [hk] at h <;> simp only at h ⊢
      · exact opFn_mono (fun v h' h => putK_mono (fun e h => evalOpsDG_eq rest _ _ _ h) h) h
      · exact opFn_mono (fun v h' h => putK_mono (fun e h => evalOpsDG_eq rest _ _ _ h) h) h
      · exact opFn_mono (fun v h' h => putK_mono (fun e h => evalOpsDG_eq rest _ _ _ h) h) h
      · refine stepFn_mono (fun r h => ?_) h
        cases r with
        | ok v defs' h' =>
          simp only at h ⊢
          split at h
          · rename_i hs; rw [if_pos hs]; exact putK_mono (fun e h => evalOpsDG_eq rest _ _ _ h) h
          · cases h
        | panic v h' => cases h
    have skips : ∀ sk', (putK env n p.2.dst noV fun env' => evalOpsDG P (semCall P) ops ms rest lg sk' ⟨env', n, defs, hp⟩ K) = true → (putK env n p.2.dst noV fun env' => evalOpsD P (semCall P) ops ms rest lg ⟨env', n, defs, hp⟩ K) = true :=
      fun sk' h => putK_mono (fun e h => evalOpsDG_eq rest _ _ _ h) h
    simp only [evalOpsDG] at hh
    simp only [evalOpsD]
    cases hg : p.2.guard with
    | none =>
      rw [hg] at hh
      have hw : wantedA ops p.2 env = some true := by unfold wantedA; rw [hg]
      rw [hw]
      exact goes hh
    | some g =>
      obtain ⟨j, want⟩ := g
      rw [hg] at hh
      simp only at hh
      split at hh
      · cases hh
      · rename_i d hd
        have hwa := wantedA_at (env := env) hg hd
        cases hm : memN j sk with
        | true =>
          rw [hm] at hh
          simp only at hh
          split at hh
          · rename_i vs hv
            rw [hv] at hwa
            rw [hwa]
            exact skips _ hh
          · cases hh
        | false =>
          rw [hm] at hh
          simp only at hh
          rcases condB_inv hh with ⟨hv, hh⟩ | ⟨hv, hh⟩
          · rw [hv] at hwa
            rw [setV_self hv] at hh
            rw [hwa]
            cases want with
            | true => exact goes hh
            | false => exact skips _ hh
          · rw [hv] at hwa
            rw [setV_self hv] at hh
            rw [hwa]
            cases want with
            | true => exact skips _ hh
            | false => exact goes hh
theorem opsG_wp {call : CallF} (hc : CallSound P call) {ops : Array Oper} {K : RS → Bool} {Q : Exit → Act → World → Prop} : ∀ (l : List Oper) (i : Nat) (sk : List Nat) (s : St) (a : Act) (w : World) (μ : Mu), (∀ j o, l[j]? = some o → ops[i + j]? = some o) →
    SR w0 μ s a w → (hl : LeadsR w0 μ s.h w K Q) → evalOpsG P call ops.toList l i sk s K = true → wpOps P ops Q (List.range' i l.length) a w
  | [], i, sk, s, a, w, μ, hi, hs, hl, h => by
    simp only [List.length_nil, List.range'_zero, wpOps]
    exact hl.ok _ _ _ _ h hs (Ext.refl _ _ _)
  | o :: rest, i, sk, s, a, w, μ, hi, hs, hl, h => by
    have hio : ops[i]? = some o := by simpa using hi 0 o rfl
    obtain ⟨env, n, defs, hp⟩ := s
    simp only [List.length_cons, List.range'_succ, wpOps, hio]
    have hi' : ∀ j o', rest[j]? = some o' → ops[i + 1 + j]? = some o' := fun j o' hj => by
      have := hi (j + 1) o' (by simpa using hj)
      rwa [show i + 1 + j = i + (j + 1) by omega]
    have goes : wantedA ops.toList o env = some true → (stepFn o.op P call env defs hp fun
              | .ok v defs h => putK env n o.dst v fun env => evalOpsG P call ops.toList rest (i + 1) sk ⟨env, n, defs, h⟩ K
              | .panic v h => K (.panic v ⟨env, n, defs, h⟩)) = true →
        (if Region.wanted o (yielded ops a.tmps) then o.wp P a w (wpOps P ops Q (List.range' (i + 1) rest.length)) Q ∨ (o.asks P a w ∧ LetsOut Q) else wpOps P ops Q (List.range' (i + 1) rest.length) (a.put o.dst undef) w) := by
      intro hw hh
      rw [wanted_sim hs.env hw, if_pos rfl]
      refine .inl (step_wp hs hc ⟨fun v defs' h' a' w' μ' hK hs' hx => ?_, fun v vc h' w' μ' hK hv hs' hx => ?_⟩ hh)
      · exact opsG_wp hc rest (i + 1) sk _ a' w' μ' hi' hs' (hl.after hx) (putK_eq hK)
      · exact hl.panic v vc _ a w' μ' hK hv hs' hx
    have skips : wantedA ops.toList o env = some false → (putK env n o.dst noV fun env => evalOpsG P call ops.toList rest (i + 1) (i :: sk) ⟨env, n, defs, hp⟩ K) = true →
        (if Region.wanted o (yielded ops a.tmps) then o.wp P a w (wpOps P ops Q (List.range' (i + 1) rest.length)) Q ∨ (o.asks P a w ∧ LetsOut Q) else wpOps P ops Q (List.range' (i + 1) rest.length) (a.put o.dst undef) w) := by
      intro hw hh
      rw [wanted_sim hs.env hw]
      simp only [Bool.false_eq_true, if_false]
      have hs' := hs.left o.dst (h' := hp) VR.noV hs.good (Mu.le.refl μ)
      exact opsG_wp hc rest (i + 1) (i :: sk) ⟨putE env n o.dst noV, n, defs, hp⟩ _ w μ hi' hs' hl (putK_eq hh)
    simp only [evalOpsG] at h
    split at h
    · rename_i hg
      exact goes (by unfold wantedA; rw [hg]) h
    · rename_i j want hg
      split at h
      · cases h
      · rename_i d hd
        have hwa := wantedA_at (env := env) hg hd
        cases hm : memN j sk with
        | true =>
          rw [hm] at h
          simp only at h
          split at h
          · rename_i vs hv
            rw [hv] at hwa
            exact skips hwa h
          · cases h
        | false =>
          rw [hm] at h
          simp only at h
          rcases condB_inv h with ⟨hv, h⟩ | ⟨hv, h⟩
          · rw [hv] at hwa
            rw [setV_self hv] at h
            cases want with
            | true => exact goes hwa h
            | false => exact skips hwa h
          · rw [hv] at hwa
            rw [setV_self hv] at h
            cases want with
            | true => exact skips hwa h
            | false => exact goes hwa h
theorem codeS_wp (hm : P.follows .mixedOrders = true) : ∀ (c : Code) (s : St) (a : Act) (w : World) (μ : Mu) (K : AX → St → Bool) (Q : Exit → Act → World → Prop), SR w0 μ s a w →
    LeadsC w0 μ s.h w K Q → evalS P (semCall P) c s K = true → c.wp P Q a w := by
  have hc := semCall_sound P
  intro c
  induction c with
  | skip => intro s a w μ K Q hs hl h; exact wp_skip (hl _ _ _ _ _ _ h .normal hs (Ext.refl _ _ _))
  | region id ops draw =>
    intro s a w μ K Q hs hl h
    simp only [evalS] at h
    cases draw with
    | true =>
      simp only at h
      obtain ⟨plan, hp, h⟩ := bindO_eq h
      exact draw_wp hm hc hp hs (fun s' a' w' μ' hK hs' hx => hl _ _ _ _ _ _ hK .normal hs' hx) (evalOpsDG_eq _ _ _ _ h)
    | false =>
      simp only at h
      refine wp_region ?_
      have := opsG_wp (Q := Q) hc ops.toList 0 [] s a w μ (fun j o hj => by rw [Nat.zero_add]; simpa using hj) hs ⟨fun s' a' w' μ' hK hs' hx => hl _ _ _ _ _ _ hK .normal hs' hx, fun v vc s' a' w' μ' hK hv hs' hx => hl _ _ _ _ _ _ hK (.panic v vc hv) hs' hx⟩ h
      rw [List.range_eq_range']
      simpa using this
  | seq x y ihx ihy =>
    intro s a w μ K Q hs hl h
    simp only [evalS] at h
    refine wp_seq (ihx s a w μ _ _ hs (fun e ex s' a' w' μ' hK hq hs' hx => ?_) h)
    cases hq with
    | normal => exact ihy s' a' w' μ' K Q hs' (hl.after hx) (by rw [seqK_normal] at hK; exact hK)
    | exit id => exact hl _ _ _ _ _ _ hK (.exit id) hs' hx
    | ret => exact hl _ _ _ _ _ _ hK .ret hs' hx
    | panic v vc hv => exact hl _ _ _ _ _ _ hK (.panic v vc hv) hs' hx
  | cond c x y ihx ihy =>
    intro s a w μ K Q hs hl h
    simp only [evalS, condB] at h
    have hcv := hs.eval c
    split at h
    · rename_i t e
      rw [e] at hcv
      cases t with
      | true => exact wp_cond_true hcv.bool_inv (ihx s a w μ K Q hs hl h)
      | false => exact wp_cond_false hcv.bool_inv (ihy s a w μ K Q hs hl h)
    · cases h
  | block id c ih =>
    intro s a w μ K Q hs hl h
    simp only [evalS] at h
    refine wp_block (ih s a w μ _ _ hs (fun e ex s' a' w' μ' hK hq hs' hx => ?_) h)
    cases hq with
    | normal => exact hl _ _ _ _ _ _ hK .normal hs' hx
    | exit id' =>
      simp only [Exit.inBlock]
      simp only [blockK] at hK
      by_cases e : id' = id
      · subst e; rw [nat_beq_refl] at hK; rw [if_pos rfl]; exact hl _ _ _ _ _ _ hK .normal hs' hx
      · rw [if_neg e]
        have hb : Nat.beq id' id = false := by
          cases hq : Nat.beq id' id with
          | false => rfl
          | true => exact absurd (Nat.eq_of_beq_eq_true hq) e
        rw [hb] at hK; exact hl _ _ _ _ _ _ hK (.exit id') hs' hx
    | ret => exact hl _ _ _ _ _ _ hK .ret hs' hx
    | panic v vc hv => exact hl _ _ _ _ _ _ hK (.panic v vc hv) hs' hx
  | loop c ih =>
    intro s a w μ K Q hs hl h
    simp only [evalS, loopB] at h
    obtain ⟨I, ⟨n0, hI0⟩, hstep⟩ := yes_eq.1 h
    refine wp_loop_rounds (n0 + 1) ?_
    have key : ∀ (N n : Nat) (s : St) (a : Act) (w : World) (μ : Mu), SR w0 μ s a w → LeadsC w0 μ s.h w K Q → I n s → n < N → Code.rounds P c Q N a w := by
      intro N
      induction N with
      | zero => intro n s a w μ hs hl hi hn; omega
      | succ N ihn =>
        intro n s a w μ hs hl hi hn
        rw [rounds_succ]
        refine ih s a w μ _ _ hs (fun e ex s' a' w' μ' hK hq hs' hx => ?_) (hstep n s hi)
        cases hq with
        | normal =>
          obtain ⟨m, hm1, hm2⟩ := yes_eq.1 hK
          exact ihn m s' a' w' μ' hs' (hl.after hx) hm2 (by omega)
        | exit id => exact hl _ _ _ _ _ _ hK (.exit id) hs' hx
        | ret => exact hl _ _ _ _ _ _ hK .ret hs' hx
        | panic v vc hv => exact hl _ _ _ _ _ _ hK (.panic v vc hv) hs' hx
    exact key (n0 + 1) n0 s a w μ hs hl hI0 (by omega)
  | exit id => intro s a w μ K Q hs hl h; exact wp_exit (hl _ _ _ _ _ _ h (.exit id) hs (Ext.refl _ _ _))
  | ret => intro s a w μ K Q hs hl h; exact wp_ret (hl _ _ _ _ _ _ h .ret hs (Ext.refl _ _ _))
  | _ => intros; rename_i h; simp [evalS] at h
def noD : DPrims := fun _ => none
theorem noD_sound (P : Program) : DSound P noD := fun f g h => by cases h
theorem sem_body (hm : P.follows .mixedOrders = true) {D : DPrims} (hD : DSound P D) {fn : Func} {c : Code} (hfn : P.funcs[f]? = some fn) (hb : fn.body = some c) (hname : fn.name ≠ "runtime.NumGoroutine")
    (hlen : args.length ≤ fn.ntmps)
    (hh : evalS P (semCall P) c ⟨mkEnv args, fn.ntmps, [], h⟩ (leaveK P D fn.results.toList K) = true) : Sem P f args h K := by
  refine ⟨⟨fn, c, hfn, hb, hname⟩, fun w0 μ w vs hg hv => ?_⟩
  refine calls_of_wp_defers hfn hb ?_
  refine codeS_wp (w0 := w0) hm c ⟨mkEnv args, fn.ntmps, [], h⟩ _ w μ _ _ ⟨env_enter hv hlen, .nil, hg⟩ (fun e ex s' a' w' μ' hK hq hs' hx => ?_) hh
  cases hq with
  | normal => exact leave_sim hD _ _ none none s' a' w' μ' hs'.env hs'.defs hs'.good .none hx hK
  | ret => exact leave_sim hD _ _ none none s' a' w' μ' hs'.env hs'.defs hs'.good .none hx hK
  | exit id => cases hK
  | panic v vc hv => exact leave_sim hD _ _ (some v) (some vc) s' a' w' μ' hs'.env hs'.defs hs'.good (.some hv) hx hK
end
end
end Go.AM
set_option linter.unusedVariables false
set_option linter.unusedSimpArgs false
namespace Go.AM
open Go Go.RowKit
noncomputable section
variable {old : Bool} {h : Heap}
def AV.scalar : AV → Bool
  | .undef | .bool _ | .int _ _ | .str _ | .nilp | .nils | .nilm | .nilf | .nili => true
  | _ => false
mutual
def AV.pure : AV → Bool
  | .ptr _ _ | .slice _ _ _ _ | .map _ => false
  | .iptr cs _ => AV.pureL cs
  | .islice cs _ _ _ => AV.pureL cs
  | .func _ a b => AV.pureL a && AV.pureL b
  | .iface _ v => AV.pure v
  | .agg cs => AV.pureL cs
  | .tuple cs => AV.pureL cs
  | _ => true
def AV.pureL : List AV → Bool
  | [] => true
  | a :: as => AV.pure a && AV.pureL as
end
theorem AV.pureL_get : ∀ {l : List AV}, AV.pureL l = true → ∀ {i : Nat} {x : AV}, l[i]? = some x → x.pure = true
  | a :: l, h, 0, x, e => by simp [AV.pureL] at h; simp at e; subst e; exact h.1
  | a :: l, h, i + 1, x, e => by simp [AV.pureL] at h; exact AV.pureL_get h.2 (by simpa using e)
  | [], h, i, x, e => by simp at e
theorem AV.pureL_append {l m : List AV} (h : AV.pureL l = true) (k : AV.pureL m = true) : AV.pureL (l ++ m) = true := by
  induction l with
  | nil => exact k
  | cons a l ih => simp only [AV.pureL, Bool.and_eq_true, List.cons_append] at h ⊢; exact ⟨h.1, ih h.2⟩
inductive Fz (old : Bool) (h : Heap) : AV → AV → Prop where
  | scalar (x : AV) (hx : x.scalar = true) : Fz old h x x
  | iptr (cs cs' : List AV) (off : Nat) (ho : old = true) (hl : cs.length = cs'.length) (hr : ∀ (i : Nat) (x y : AV), cs[i]? = some x → cs'[i]? = some y → Fz old h x y) : Fz old h (.iptr cs off) (.iptr cs' off)
  | islice (cs cs' : List AV) (off len sz : Nat) (ho : old = true) (hl : cs.length = cs'.length) (hr : ∀ (i : Nat) (x y : AV), cs[i]? = some x → cs'[i]? = some y → Fz old h x y) : Fz old h (.islice cs off len sz) (.islice cs' off len sz)
  | ptr (b off : Nat) (cs cs' : List AV) (hb : h.get b = some (.cells cs)) (hl : cs.length = cs'.length) (hr : ∀ (i : Nat) (x y : AV), cs[i]? = some x → cs'[i]? = some y → Fz old h x y) : Fz old h (.ptr b off) (.iptr cs' off)
  | slice (b off len sz : Nat) (cs cs' : List AV) (hb : h.get b = some (.cells cs)) (hl : cs.length = cs'.length) (hr : ∀ (i : Nat) (x y : AV), cs[i]? = some x → cs'[i]? = some y → Fz old h x y) : Fz old h (.slice b off len sz) (.islice cs' off len sz)
  | func (f : FuncId) (xs ys xs' ys' : List AV) (h1 : xs.length = xs'.length) (h2 : ys.length = ys'.length) (r1 : ∀ (i : Nat) (x y : AV), xs[i]? = some x → xs'[i]? = some y → Fz old h x y)
      (r2 : ∀ (i : Nat) (x y : AV), ys[i]? = some x → ys'[i]? = some y → Fz old h x y) : Fz old h (.func f xs ys) (.func f xs' ys')
  | iface (t : TypeId) (x y : AV) (hr : Fz old h x y) : Fz old h (.iface t x) (.iface t y)
  | agg (cs cs' : List AV) (hl : cs.length = cs'.length) (hr : ∀ (i : Nat) (x y : AV), cs[i]? = some x → cs'[i]? = some y → Fz old h x y) : Fz old h (.agg cs) (.agg cs')
  | tuple (cs cs' : List AV) (hl : cs.length = cs'.length) (hr : ∀ (i : Nat) (x y : AV), cs[i]? = some x → cs'[i]? = some y → Fz old h x y) : Fz old h (.tuple cs) (.tuple cs')
structure FzL (old : Bool) (h : Heap) (cs cs' : List AV) : Prop where
  len : cs.length = cs'.length
  rel : ∀ (i : Nat) (x y : AV), cs[i]? = some x → cs'[i]? = some y → Fz old h x y
theorem FzL.nil : FzL old h [] [] := ⟨rfl, by simp⟩
theorem FzL.cons {x y : AV} {xs ys : List AV} (h1 : Fz old h x y) (h2 : FzL old h xs ys) : FzL old h (x :: xs) (y :: ys) :=
  ⟨by simp [h2.len], fun i u v a b => by
    cases i with
    | zero => simp at a b; subst a; subst b; exact h1
    | succ i => simp at a b; exact h2.rel i u v a b⟩
theorem FzL.append {xs ys us vs : List AV} (h1 : FzL old h xs us) (h2 : FzL old h ys vs) : FzL old h (xs ++ ys) (us ++ vs) := by
  induction xs generalizing us with
  | nil => cases us with
    | nil => exact h2
    | cons u us => exact absurd h1.len (by simp)
  | cons x xs ih => cases us with
    | nil => exact absurd h1.len (by simp)
    | cons u us => exact .cons (h1.rel 0 x u rfl rfl) (ih ⟨by simpa using h1.len, fun i a b p q => h1.rel (i + 1) a b (by simpa using p) (by simpa using q)⟩)
mutual
theorem Fz.of_pure {h : Heap} : ∀ {x : AV}, x.pure = true → Fz true h x x
  | .undef, _ => .scalar _ rfl
  | .bool _, _ => .scalar _ rfl
  | .int _ _, _ => .scalar _ rfl
  | .str _, _ => .scalar _ rfl
  | .nilp, _ => .scalar _ rfl
  | .nils, _ => .scalar _ rfl
  | .nilm, _ => .scalar _ rfl
  | .nilf, _ => .scalar _ rfl
  | .nili, _ => .scalar _ rfl
  | .iptr cs off, hp => .iptr cs cs off rfl rfl (FzL.of_pure hp).rel
  | .islice cs off len sz, hp => .islice cs cs off len sz rfl rfl (FzL.of_pure hp).rel
  | .func f a b, hp => by
    simp only [AV.pure, Bool.and_eq_true] at hp
    exact .func f a b a b rfl rfl (FzL.of_pure hp.1).rel (FzL.of_pure hp.2).rel
  | .iface t x, hp => .iface t x x (Fz.of_pure hp)
  | .agg cs, hp => .agg cs cs rfl (FzL.of_pure hp).rel
  | .tuple cs, hp => .tuple cs cs rfl (FzL.of_pure hp).rel
  | .ptr _ _, hp => by cases hp
  | .slice _ _ _ _, hp => by cases hp
  | .map _, hp => by cases hp
theorem FzL.of_pure {h : Heap} : ∀ {l : List AV}, AV.pureL l = true → FzL true h l l
  | [], _ => .nil
  | a :: l, hp => by
    simp only [AV.pureL, Bool.and_eq_true] at hp
    exact .cons (Fz.of_pure hp.1) (FzL.of_pure hp.2)
end
section
variable {P : Program} {w0 w w' : World} {μ μ' : Mu} {h h' : Heap}
def Mu.ice (μ : Mu) (w : World) (c : Nat) : Option (List Value) :=
  match μ.z c with
  | some vs => some vs
  | none => @ite _ (∃ b k, μ b = some k ∧ k.c = c) (Classical.propDecidable _) (match w.heap[c]? with | some (.cells arr _ _) => some arr.toList | _ => none) none
theorem Mu.ice_old {c : Nat} {vs : List Value} (hz : μ.z c = some vs) : μ.ice w c = some vs := by unfold Mu.ice; rw [hz]
theorem Mu.ice_own {b : Nat} {k : Blk} (hb : μ b = some k) (hz : μ.z k.c = none) {arr : Array Value} {e : TypeId} {fr : Nat × Nat} (hc : w.heap[k.c]? = some (.cells arr e fr)) : μ.ice w k.c = some arr.toList := by
  unfold Mu.ice; rw [hz]; simp only; rw [if_pos ⟨b, k, hb, rfl⟩, hc]
theorem Mu.ice_inv {c : Nat} {vs : List Value} (h : μ.ice w c = some vs) : μ.z c = some vs ∨ ((∃ b k, μ b = some k ∧ k.c = c) ∧ ∃ arr e fr, w.heap[c]? = some (.cells arr e fr) ∧ arr.toList = vs) := by
  unfold Mu.ice at h
  split at h
  · rename_i vs' hz; cases h; exact .inl hz
  · split at h
    · rename_i hex
      split at h
      · rename_i arr e fr hc; cases h; exact .inr ⟨hex, arr, e, fr, hc, rfl⟩
      · cases h
    · cases h
def Mu.thaw (μ μ' : Mu) (w w' : World) : Mu := ⟨μ.m, fun c => @ite _ ((∃ vs, μ.z c = some vs) ∨ w.heap.size ≤ c) (Classical.propDecidable _) (μ'.ice w' c) none⟩
theorem vr_freeze (hg' : Good w0 μ' h' w') {ν : Mu} (hown : ∀ b k, μ' b = some k → ∀ vs, μ'.ice w' k.c = some vs → ν.z k.c = some vs) (hold : old = true → ∀ c vs, μ'.z c = some vs → ν.z c = some vs) {x y : AV} (hf : Fz old h' x y) : ∀ v, VR w0 μ' x v → VR w0 ν y v := by
  have hblk : ∀ b k cs, μ' b = some k → h'.get b = some (.cells cs) → ∃ vs : List Value, vs.length = cs.length ∧ (ν.z k.c).isSome = true ∧ (∀ (i : Nat) (v : Value), vs[i]? = some v → ν.cell k.c (k.base + i) = some v) ∧
      ∀ (i : Nat) (x : AV) (v : Value), cs[i]? = some x → vs[i]? = some v → VR w0 μ' x v := by
    intro b k cs hb ho
    obtain ⟨arr, e, fr, h1, h2, h3, h4, h5⟩ := hg'.obj b k _ hb ho
    have hz : ν.z k.c = some arr.toList := hown b k hb _ (Mu.ice_own hb (hg'.apart b k hb) h1)
    refine ⟨(arr.toList.drop k.base).take cs.length, by simp; omega, by rw [hz]; rfl, fun i v hi => ?_, fun i x v hx hi => ?_⟩
    · rw [List.getElem?_take] at hi
      split at hi
      · rw [List.getElem?_drop] at hi
        unfold Mu.cell; rw [hz]; exact hi
      · cases hi
    · obtain ⟨v', hv1, hv2⟩ := h5 i x hx
      rw [List.getElem?_take] at hi
      split at hi
      · rw [List.getElem?_drop, Array.getElem?_toList, hv1] at hi
        cases hi; exact hv2
      · cases hi
  have rows : ∀ {cs cs' : List AV} {vs : List Value}, cs.length = cs'.length → cs.length = vs.length → (∀ (i : Nat) (x y : AV), cs[i]? = some x → cs'[i]? = some y → ∀ v, VR w0 μ' x v → VR w0 ν y v) →
      (∀ (i : Nat) (x : AV) (v : Value), cs[i]? = some x → vs[i]? = some v → VR w0 μ' x v) → ∀ (i : Nat) (y : AV) (v : Value), cs'[i]? = some y → vs[i]? = some v → VR w0 ν y v := by
    intro cs cs' vs hl hl2 ih hr i y v hy hv
    have hi : i < cs'.length := (ZgI.1 hy).1
    have hx : cs[i]? = some (cs[i]'(by omega)) := ZgE (by omega)
    exact ih i _ y hx hy v (hr i _ v hx hv)
  induction hf with
  | scalar x hx =>
    intro v hv
    cases hv <;> simp only [AV.scalar, Bool.false_eq_true, reduceCtorEq] at hx <;> constructor
  | iptr cs cs' off ho hl hr ih =>
    intro v hv
    cases hv
    rename_i g o vs hg hv hl' hr'
    refine .iptr cs' off g o vs ?_ (by omega) (fun i v hi => ?_) (rows hl hl' ih hr')
    · trivial
    · have := hv i v hi
      unfold Mu.cell at this ⊢
      obtain ⟨zs, hz, hi2⟩ := Option.bind_eq_some_iff.1 this
      rw [hold ho _ _ hz]; exact hi2
  | islice cs cs' off len sz ho hl hr ih =>
    intro v hv
    cases hv
    rename_i cap a g o vs hg hv hl' hr' ha hc
    refine .islice cs' off len sz cap a g o vs ?_ (by omega) (fun i v hi => ?_) (rows hl hl' ih hr') hc ha
    · trivial
    · have := hv i v hi
      unfold Mu.cell at this ⊢
      obtain ⟨zs, hz, hi2⟩ := Option.bind_eq_some_iff.1 this
      rw [hold ho _ _ hz]; exact hi2
  | ptr b off cs cs' hb hl hr ih =>
    intro v hv
    cases hv
    rename_i k hk
    obtain ⟨vs, q1, q2, q3, q4⟩ := hblk b k cs hk hb
    exact .iptr cs' off k.c k.base vs trivial (by omega) q3 (rows hl (by omega) ih q4)
  | slice b off len sz cs cs' hb hl hr ih =>
    intro v hv
    cases hv
    rename_i cap a k hk hc ha
    obtain ⟨vs, q1, q2, q3, q4⟩ := hblk b k cs hk hb
    exact .islice cs' off len sz cap a k.c k.base vs trivial (by omega) q3 (rows hl (by omega) ih q4) hc (fun h0 => (ha h0).1)
  | func f xs ys xs' ys' h1 h2 r1 r2 ih1 ih2 =>
    intro v hv
    cases hv
    rename_i us vs g1 q1 g2 q2
    exact .func f xs' ys' us vs (by omega) (by omega) (rows h1 g1 ih1 q1) (rows h2 g2 ih2 q2)
  | iface t x y hr ih =>
    intro v hv
    cases hv
    rename_i v hv
    exact .iface t y v (ih v hv)
  | agg cs cs' hl hr ih =>
    intro v hv
    cases hv
    rename_i vs hl' hr'
    exact .agg cs' vs (by omega) (rows hl hl' ih hr')
  | tuple cs cs' hl hr ih =>
    intro v hv
    cases hv
    rename_i vs hl' hr'
    exact .tuple cs' vs (by omega) (rows hl hl' ih hr')
theorem thaw_good {ν : Mu} (hν : ν.m = fun _ => none) (hg : Good w0 μ h w) (hg' : Good w0 μ' h' w') (hx : Ext ν Heap.empty w μ' h' w') (hz : ∀ c vs, μ.z c = some vs → ν.z c = some vs) :
    Good w0 (μ.thaw μ' w w') h w' ∧ Ext μ h w (μ.thaw μ' w w') h w' := by
  have hf : ∀ k, k < w.heap.size → w'.heap[k]? = w.heap[k]? := fun k hk => hx.frame k hk (by simp [hν])
  have hnew : ∀ c vs, (μ.thaw μ' w w').z c = some vs → μ.z c = some vs ∨ w.heap.size ≤ c := by
    intro c vs hc
    have hc' : @ite _ ((∃ vs, μ.z c = some vs) ∨ w.heap.size ≤ c) (Classical.propDecidable _) (μ'.ice w' c) none = some vs := hc
    split at hc'
    · rename_i hor
      rcases hor with ⟨vs', hv⟩ | hge
      · rw [Mu.ice_old (hx.mono.frz _ _ (hz _ _ hv))] at hc'
        cases hc'; exact .inl hv
      · exact .inr hge
    · cases hc'
  have hmono : ∀ c vs, μ.z c = some vs → (μ.thaw μ' w w').z c = some vs := by
    intro c vs hv
    show @ite _ ((∃ vs, μ.z c = some vs) ∨ w.heap.size ≤ c) (Classical.propDecidable _) (μ'.ice w' c) none = some vs
    rw [if_pos (.inl ⟨vs, hv⟩)]
    exact Mu.ice_old (hx.mono.frz _ _ (hz _ _ hv))
  have hle : μ.le (μ.thaw μ' w w') := ⟨fun _ _ h => h, hmono⟩
  refine ⟨⟨hg'.below, hg.clean, hg.fresh, fun b k hb => ?_, fun c vs hc => ?_, fun b k hb => ?_, fun b k o hb ho => ?_, hg.inj⟩, ⟨hle, fun k hk _ => hf k hk, fun _ _ h => .inl h, hx.size, ZrF _, fun _ _ _ => rfl, fun _ _ h => .inl h, hnew⟩⟩
  · have := hg.own b k hb; have := hx.size; omega
  · have hc' : @ite _ ((∃ vs, μ.z c = some vs) ∨ w.heap.size ≤ c) (Classical.propDecidable _) (μ'.ice w' c) none = some vs := hc
    split at hc'
    · rcases Mu.ice_inv hc' with h1 | ⟨_, h1⟩
      · exact hg'.frz c vs h1
      · exact h1
    · cases hc'
  · cases hq : (μ.thaw μ' w w').z k.c with
    | none => rfl
    | some vs =>
      have hb' : μ b = some k := hb
      rcases hnew _ _ hq with h1 | h1
      · rw [hg.apart b k hb'] at h1; cases h1
      · have := (hg.own b k hb').2; omega
  · have hb' : μ b = some k := hb
    rw [hf _ (hg.own b k hb').2]
    exact ObjR.mono hle (hg.obj b k o hb' ho)
theorem VR.bare_of (hz : ∀ c vs, μ.z c = some vs → μ'.z c = some vs) {x : AV} {v : Value} (hv : VR w0 μ x v) (hp : x.pure = true) : VR w0 μ' x v := by
  have hsome : ∀ g, (μ.z g).isSome = true → (μ'.z g).isSome = true := fun g hg => by
    obtain ⟨zs, h1⟩ := Option.isSome_iff_exists.1 hg; rw [hz _ _ h1]; rfl
  have hcell : ∀ g i v, μ.cell g i = some v → μ'.cell g i = some v := fun g i v hc => by
    unfold Mu.cell at hc ⊢
    obtain ⟨zs, h1, h2⟩ := Option.bind_eq_some_iff.1 hc
    rw [hz _ _ h1]; exact h2
  induction hv with
  | undef v => exact .undef v
  | bool b => exact .bool b
  | int k n => exact .int k n
  | str s => exact .str s
  | nilp => exact .nilp
  | ptr b off k hk => cases hp
  | iptr cs off g o vs hg hl hv hr ih => exact .iptr cs off g o vs trivial hl (fun i v h => hcell _ _ _ (hv i v h)) (fun i x v hx hv => ih i x v hx hv (AV.pureL_get hp hx))
  | nils => exact .nils
  | slice b off len sz cap a k hk hc ha => cases hp
  | islice cs off len sz cap a g o vs hg hl hv hr hc ha ih => exact .islice cs off len sz cap a g o vs trivial hl (fun i v h => hcell _ _ _ (hv i v h)) (fun i x v hx hv => ih i x v hx hv (AV.pureL_get hp hx)) hc ha
  | nilm => exact .nilm
  | map b k hk => cases hp
  | nilf => exact .nilf
  | func f xs ys us vs h1 h2 r1 r2 ih1 ih2 =>
    simp only [AV.pure, Bool.and_eq_true] at hp
    exact .func f xs ys us vs h1 h2 (fun i x v hx hv => ih1 i x v hx hv (AV.pureL_get hp.1 hx)) (fun i x v hx hv => ih2 i x v hx hv (AV.pureL_get hp.2 hx))
  | nili => exact .nili
  | iface t x v h ih => exact .iface t x v (ih hp)
  | agg cs vs hl hr ih => exact .agg cs vs hl (fun i x v hx hv => ih i x v hx hv (AV.pureL_get hp hx))
  | tuple cs vs hl hr ih => exact .tuple cs vs hl (fun i x v hx hv => ih i x v hx hv (AV.pureL_get hp hx))
theorem thaw_vr {ν : Mu} (hν : ν.m = fun _ => none) (hg' : Good w0 μ' h' w') (hx : Ext ν Heap.empty w μ' h' w') (hz : old = true → ∀ c vs, ν.z c = some vs → μ.z c = some vs) {x y : AV} (hf : Fz old h' x y) {v : Value} (hv : VR w0 μ' x v) :
    VR w0 (μ.thaw μ' w w') y v := by
  have key : ∀ c vs, μ'.ice w' c = some vs → ((∃ vs, μ.z c = some vs) ∨ w.heap.size ≤ c) → (μ.thaw μ' w w').z c = some vs := by
    intro c vs hi hor
    show @ite _ ((∃ vs, μ.z c = some vs) ∨ w.heap.size ≤ c) (Classical.propDecidable _) (μ'.ice w' c) none = some vs
    rw [if_pos hor]; exact hi
  refine vr_freeze hg' (ν := μ.thaw μ' w w') (fun b k hb vs hi => key _ _ hi (.inr ?_)) (fun ho c vs hc => key _ _ (Mu.ice_old hc) ?_) hf v hv
  · rcases hx.new b k hb with h1 | h1 | ⟨b0, k0, h1, _⟩
    · rw [hν] at h1; cases h1
    · exact h1
    · rw [hν] at h1; cases h1
  · rcases hx.iced c vs hc with h1 | h1
    · exact .inl ⟨vs, hz ho _ _ h1⟩
    · exact .inr h1
theorem Sem.frozen {f : FuncId} {args : List AV} {K0 K : Out → Heap → Bool} (hs : Sem P f args Heap.empty K0) (hp : AV.pureL args = true)
    (hk : ∀ o h', K0 o h' = true → ∃ v r, o = .ret v ∧ Fz true h' v r ∧ K (.ret r) h = true) : Sem P f args h K := by
  refine ⟨hs.1, fun w0 μ w vs hg hv => ?_⟩
  have hv0 : VRL w0 μ.bare args vs := ⟨hv.len, fun i x v hx hv' => VR.bare_of (μ := μ) (μ' := μ.bare) (fun _ _ h => h) (hv.rel i x v hx hv') (AV.pureL_get hp hx)⟩
  refine (hs.2 w0 μ.bare w vs hg.nothing hv0).mono fun e w' hr => ?_
  cases e with
  | returned vc =>
    obtain ⟨v, h', μ', k1, k2, k3, k4⟩ := hr
    obtain ⟨v', r, he, hf, hK⟩ := hk _ _ k1
    cases he
    obtain ⟨g1, g2⟩ := thaw_good rfl hg k3 k4 (fun _ _ h => h)
    exact ⟨r, h, _, hK, thaw_vr (μ := μ) rfl k3 k4 (fun _ _ _ h => h) hf k2, g1, g2⟩
  | panicked c =>
    obtain ⟨v, vc, h', μ', k1, _⟩ := hr
    obtain ⟨v', r, he, _⟩ := hk _ _ k1
    cases he
  | outgrown => exact hr.elim
theorem Good.lend (hg : Good w0 μ h w) : Good w0 ⟨fun _ => none, μ.ice w⟩ Heap.empty w :=
  ⟨hg.below, Heap.clean_empty, by simp, by simp, fun c vs hc => by
    rcases Mu.ice_inv hc with h1 | ⟨_, h1⟩
    · exact hg.frz c vs h1
    · exact h1, by simp, by simp, by simp⟩
theorem Sem.lent {f : FuncId} {args args' : List AV} {K0 K : Out → Heap → Bool} (hs : Sem P f args' Heap.empty K0) (hp : FzL true h args args')
    (hk : ∀ o h', K0 o h' = true → ∃ v r, o = .ret v ∧ Fz false h' v r ∧ K (.ret r) h = true) : Sem P f args h K := by
  refine ⟨hs.1, fun w0 μ w vs hg hv => ?_⟩
  have hv0 : VRL w0 ⟨fun _ => none, μ.ice w⟩ args' vs := by
    refine ⟨by rw [← hp.len]; exact hv.len, fun i y v hy hv' => ?_⟩
    have hi : i < args'.length := (ZgI.1 hy).1
    have hx : args[i]? = some (args[i]'(by rw [hp.len]; exact hi)) := ZgE _
    exact vr_freeze hg (ν := ⟨fun _ => none, μ.ice w⟩) (fun _ _ _ _ h => h) (fun _ c vs h => Mu.ice_old h) (hp.rel i _ y hx hy) v (hv.rel i _ v hx hv')
  refine (hs.2 w0 _ w vs hg.lend hv0).mono fun e w' hr => ?_
  cases e with
  | returned vc =>
    obtain ⟨v, h', μ', k1, k2, k3, k4⟩ := hr
    obtain ⟨v', r, he, hf, hK⟩ := hk _ _ k1
    cases he
    obtain ⟨g1, g2⟩ := thaw_good rfl hg k3 k4 (fun c vs h => Mu.ice_old h)
    exact ⟨r, h, _, hK, thaw_vr (μ := μ) rfl k3 k4 (fun h => by cases h) hf k2, g1, g2⟩
  | panicked c =>
    obtain ⟨v, vc, h', μ', k1, _⟩ := hr
    obtain ⟨v', r, he, _⟩ := hk _ _ k1
    cases he
  | outgrown => exact hr.elim
end
end
end Go.AM
set_option linter.unusedVariables false
set_option linter.unusedSimpArgs false
namespace Go.AM
open Go Go.RowKit
noncomputable section
def mapO (f : AV → Option AV) : List AV → Option (List AV)
  | [] => some []
  | x :: xs => match f x with
    | none => none
    | some y => match mapO f xs with
      | none => none
      | some ys => some (y :: ys)
def freezeV (old : Bool) (h : Heap) : Nat → AV → Option AV
  | 0, _ => none
  | n + 1, x => match x with
    | .ptr b off => (match h.get b with
      | some (.cells cs) => (match mapO (freezeV old h n) cs with | some ds => some (.iptr ds off) | none => none)
      | _ => none)
    | .slice b off len sz => (match h.get b with
      | some (.cells cs) => (match mapO (freezeV old h n) cs with | some ds => some (.islice ds off len sz) | none => none)
      | _ => none)
    | .iptr cs off => @Bool.rec (fun _ => Option AV) none (match mapO (freezeV old h n) cs with | some ds => some (.iptr ds off) | none => none) old
    | .islice cs off len sz => @Bool.rec (fun _ => Option AV) none (match mapO (freezeV old h n) cs with | some ds => some (.islice ds off len sz) | none => none) old
    | .func f a b => (match mapO (freezeV old h n) a with
      | none => none
      | some a' => match mapO (freezeV old h n) b with
        | none => none
        | some b' => some (.func f a' b'))
    | .iface t v => (match freezeV old h n v with | some w => some (.iface t w) | none => none)
    | .agg cs => (match mapO (freezeV old h n) cs with | some ds => some (.agg ds) | none => none)
    | .tuple cs => (match mapO (freezeV old h n) cs with | some ds => some (.tuple ds) | none => none)
    | .map _ => none
    | x => some x
theorem mapO_fz {old : Bool} {h : Heap} {f : AV → Option AV} (hf : ∀ x y, f x = some y → Fz old h x y) : ∀ {xs ys : List AV}, mapO f xs = some ys → FzL old h xs ys
  | [], ys, e => by simp only [mapO, Option.some.injEq] at e; subst e; exact .nil
  | x :: xs, ys, e => by
    simp only [mapO] at e
    split at e
    · cases e
    · rename_i y hy
      split at e
      · cases e
      · rename_i ys' hys
        cases e
        exact .cons (hf _ _ hy) (mapO_fz hf hys)
theorem freezeV_fz {old : Bool} {h : Heap} : ∀ (n : Nat) (x y : AV), freezeV old h n x = some y → Fz old h x y
  | 0, x, y, e => by cases e
  | n + 1, x, y, e => by
    have ih := fun x y => freezeV_fz (old := old) (h := h) n x y
    cases x <;> simp only [freezeV, Option.some.injEq, reduceCtorEq] at e
    case undef => subst e; exact .scalar _ rfl
    case bool => subst e; exact .scalar _ rfl
    case int => subst e; exact .scalar _ rfl
    case str => subst e; exact .scalar _ rfl
    case nilp => subst e; exact .scalar _ rfl
    case nils => subst e; exact .scalar _ rfl
    case nilm => subst e; exact .scalar _ rfl
    case nilf => subst e; exact .scalar _ rfl
    case nili => subst e; exact .scalar _ rfl
    case ptr b off =>
      split at e
      · rename_i cs hb
        split at e
        · rename_i ds hd; cases e
          have := mapO_fz ih hd
          exact .ptr b off cs ds hb this.len this.rel
        · cases e
      · cases e
    case slice b off len sz =>
      split at e
      · rename_i cs hb
        split at e
        · rename_i ds hd; cases e
          have := mapO_fz ih hd
          exact .slice b off len sz cs ds hb this.len this.rel
        · cases e
      · cases e
    case iptr cs off =>
      cases ho : old with
      | false => rw [ho] at e; cases e
      | true =>
        rw [← ho]
        rw [ho] at e
        simp only at e
        split at e
        · rename_i ds hd; cases e
          rw [← ho] at hd
          have := mapO_fz ih hd
          exact .iptr cs ds off ho this.len this.rel
        · cases e
    case islice cs off len sz =>
      cases ho : old with
      | false => rw [ho] at e; cases e
      | true =>
        rw [← ho]
        rw [ho] at e
        simp only at e
        split at e
        · rename_i ds hd; cases e
          rw [← ho] at hd
          have := mapO_fz ih hd
          exact .islice cs ds off len sz ho this.len this.rel
        · cases e
    case func f a b =>
      split at e
      · cases e
      · rename_i a' ha
        split at e
        · cases e
        · rename_i b' hb; cases e
          have h1 := mapO_fz ih ha
          have h2 := mapO_fz ih hb
          exact .func f a b a' b' h1.len h2.len h1.rel h2.rel
    case iface t v =>
      split at e
      · rename_i w hw; cases e; exact .iface t v w (ih _ _ hw)
      · cases e
    case agg cs =>
      split at e
      · rename_i ds hd; cases e
        have := mapO_fz ih hd
        exact .agg cs ds this.len this.rel
      · cases e
    case tuple cs =>
      split at e
      · rename_i ds hd; cases e
        have := mapO_fz ih hd
        exact .tuple cs ds this.len this.rel
      · cases e
def pureK (old : Bool) (n : Nat) (r : AV) : Out → Heap → Bool
  | .ret v, h => (match freezeV old h n v with | some r' => AV.beq r' r | none => false)
  | _, _ => false
def pureP (a0 : List AV) (r : AV) : List AV → Heap → (Out → Heap → Bool) → Bool := fun args h K =>
  AV.beqL args a0 && K (.ret r) h
def lentP (n : Nat) (a0 : List AV) (r : AV) : List AV → Heap → (Out → Heap → Bool) → Bool := fun args h K =>
  match mapO (freezeV true h n) args with
  | some as => AV.beqL as a0 && K (.ret r) h
  | none => false
theorem pureP_sound {P : Program} {call : CallF} (hs : CallSound P call) {f : FuncId} {a0 : List AV} {n : Nat} {r : AV} (hp : AV.pureL a0 = true) (he : call f a0 Heap.empty (pureK true n r) = true)
    (args : List AV) (h : Heap) (K : Out → Heap → Bool) (hK : pureP a0 r args h K = true) : Sem P f args h K := by
  simp only [pureP, Bool.and_eq_true] at hK
  obtain rfl := AV.beqL_eq _ _ hK.1
  refine Sem.frozen (hs.sem he) hp fun o h' ho => ?_
  cases o with
  | ret v =>
    simp only [pureK] at ho
    split at ho
    · rename_i r' hr
      obtain rfl := AV.beq_eq _ _ ho
      exact ⟨v, _, rfl, freezeV_fz _ _ _ hr, hK.2⟩
    · cases ho
  | panic v => cases ho
theorem lentP_sound {P : Program} {call : CallF} (hs : CallSound P call) {f : FuncId} {a0 : List AV} {n m : Nat} {r : AV} (he : call f a0 Heap.empty (pureK false n r) = true)
    (args : List AV) (h : Heap) (K : Out → Heap → Bool) (hK : lentP m a0 r args h K = true) : Sem P f args h K := by
  unfold lentP at hK
  split at hK
  · rename_i as ha
    simp only [Bool.and_eq_true] at hK
    obtain rfl := AV.beqL_eq _ _ hK.1
    refine Sem.lent (hs.sem he) (mapO_fz (fun x y => freezeV_fz m x y) ha) fun o h' ho => ?_
    cases o with
    | ret v =>
      simp only [pureK] at ho
      split at ho
      · rename_i r' hr
        obtain rfl := AV.beq_eq _ _ ho
        exact ⟨v, _, rfl, freezeV_fz _ _ _ hr, hK.2⟩
      · cases ho
    | panic v => cases ho
  · cases hK
end
end Go.AM
