/- Code, functions: what the abstract machine answers, every run of the model answers. Conditions: none. -/
import Derived.Test.YthmbnnjimbjplaaGreatDoorAmDraw3
import Derived.LoopN
set_option linter.unusedVariables false
set_option linter.unusedSimpArgs false
namespace Go.AM
open Go Go.RowKit

inductive AXR (w0 : World) (μ : Mu) : AX → Exit → Prop where
  | normal : AXR w0 μ .normal .normal
  | exit (id : Nat) : AXR w0 μ (.exit id) (.exit id)
  | ret : AXR w0 μ .ret .ret
  | panic (v : AV) (vc : Value) (h : VR w0 μ v vc) : AXR w0 μ (.panic v) (.panic [{ v := vc, recovered := false }])

def LeadsC (w0 : World) (μ : Mu) (h : Heap) (w : World) (K : AX → St → Bool) (Q : Exit → Act → World → Prop) : Prop :=
  ∀ (e : AX) (ex : Exit) (s' : St) (a' : Act) (w' : World) (μ' : Mu), K e s' = true → AXR w0 μ' e ex → SR w0 μ' s' a' w' → Ext μ h w μ' s'.h w' → Q ex a' w'

section
variable {P : Program} {w0 w : World} {μ μ' : Mu} {h h' : Heap} {s : St} {a : Act}

theorem LeadsC.after {K : AX → St → Bool} {Q : Exit → Act → World → Prop} (hl : LeadsC w0 μ h w K Q) {w' : World} (hx : Ext μ h w μ' h' w') : LeadsC w0 μ' h' w' K Q :=
  fun e ex s2 a2 w2 μ2 k2 q2 r2 x2 => hl e ex s2 a2 w2 μ2 k2 q2 r2 (hx.trans x2)

theorem rowE_get (env : Env) : ∀ (n i t : Nat), mkEnv (rowE env n i) t = if t < n then env (i + t) else noV
  | 0, i, t => by simp [rowE, mkEnv]
  | n + 1, i, t => by
    cases t with
    | zero => simp [rowE, mkEnv]
    | succ t =>
      simp only [rowE, mkEnv, rowE_get env n (i + 1) t]
      rw [show i + 1 + t = i + (t + 1) by omega]
      by_cases h : t < n
      · rw [if_pos h, if_pos (by omega)]
      · rw [if_neg h, if_neg (by omega)]
theorem SR.tab (hs : SR w0 μ s a w) : SR w0 μ s.tab a w := by
  refine ⟨⟨hs.env.1, fun t => ?_⟩, hs.defs, hs.good⟩
  show VR w0 μ (mkEnv (rowE s.env s.n 0) t) _
  rw [rowE_get]
  by_cases h : t < s.n
  · rw [if_pos h, Nat.zero_add]; exact hs.env.2 t
  · rw [if_neg h]
    have : a.tmps.getD t undef = undef := by
      have h1 := hs.env.1
      rw [Array.getD_eq_getD_getElem?, Array.getElem?_eq_none (by omega)]; rfl
    rw [this]; exact VR.noV

theorem code_wp (hm : P.follows .mixedOrders = true) {call : CallF} (hc : CallSound P call) (rounds : Nat) : ∀ (c : Code) (s : St) (a : Act) (w : World) (μ : Mu) (K : AX → St → Bool) (Q : Exit → Act → World → Prop), SR w0 μ s a w →
    LeadsC w0 μ s.h w K Q → evalCode P call rounds c s K = true → c.wp P Q a w := by
  intro c
  induction c with
  | skip => intro s a w μ K Q hs hl h; exact wp_skip (hl _ _ _ _ _ _ h .normal hs (Ext.refl _ _ _))
  | region id ops draw =>
    intro s a w μ K Q hs hl h
    simp only [evalCode] at h
    cases draw with
    | true =>
      rw [if_pos rfl] at h
      obtain ⟨plan, hp, h⟩ := bindO_eq h
      exact draw_wp hm hc hp hs (fun s' a' w' μ' hK hs' hx => hl _ _ _ _ _ _ hK .normal hs' hx) h
    | false =>
      simp only [Bool.false_eq_true, if_false] at h
      refine wp_region ?_
      have := ops_wp (Q := Q) hc ops.toList 0 s a w μ (fun j o hj => by rw [Nat.zero_add]; simpa using hj) hs ⟨fun s' a' w' μ' hK hs' hx => hl _ _ _ _ _ _ hK .normal hs' hx, fun v vc s' a' w' μ' hK hv hs' hx => hl _ _ _ _ _ _ hK (.panic v vc hv) hs' hx⟩ h
      rw [List.range_eq_range']
      simpa using this
  | seq x y ihx ihy =>
    intro s a w μ K Q hs hl h
    simp only [evalCode] at h
    refine wp_seq (ihx s a w μ _ _ hs (fun e ex s' a' w' μ' hK hq hs' hx => ?_) h)
    cases hq with
    | normal => exact ihy s' a' w' μ' K Q hs' (hl.after hx) hK
    | exit id => exact hl _ _ _ _ _ _ hK (.exit id) hs' hx
    | ret => exact hl _ _ _ _ _ _ hK .ret hs' hx
    | panic v vc hv => exact hl _ _ _ _ _ _ hK (.panic v vc hv) hs' hx
  | cond c x y ihx ihy =>
    intro s a w μ K Q hs hl h
    simp only [evalCode] at h
    have hcv := hs.eval c
    split at h
    · rename_i e
      rw [e] at hcv
      exact wp_cond_true hcv.bool_inv (ihx s a w μ K Q hs hl h)
    · rename_i e
      rw [e] at hcv
      exact wp_cond_false hcv.bool_inv (ihy s a w μ K Q hs hl h)
    · cases h
  | block id c ih =>
    intro s a w μ K Q hs hl h
    simp only [evalCode] at h
    refine wp_block (ih s a w μ _ _ hs (fun e ex s' a' w' μ' hK hq hs' hx => ?_) h)
    cases hq with
    | normal => exact hl _ _ _ _ _ _ hK .normal hs' hx
    | exit id' =>
      simp only [Exit.inBlock]
      simp only at hK
      by_cases e : id' = id
      · rw [if_pos e]; rw [if_pos e] at hK; exact hl _ _ _ _ _ _ hK .normal hs' hx
      · rw [if_neg e]; rw [if_neg e] at hK; exact hl _ _ _ _ _ _ hK (.exit id') hs' hx
    | ret => exact hl _ _ _ _ _ _ hK .ret hs' hx
    | panic v vc hv => exact hl _ _ _ _ _ _ hK (.panic v vc hv) hs' hx
  | loop c ih =>
    intro s a w μ K Q hs hl h
    simp only [evalCode] at h
    refine wp_loop_rounds rounds ?_
    have key : ∀ (n : Nat) (s : St) (a : Act) (w : World) (μ : Mu), SR w0 μ s a w → LeadsC w0 μ s.h w K Q → iter (evalCode P call rounds c) K n s = true → Code.rounds P c Q n a w := by
      intro n
      induction n with
      | zero => intro s a w μ hs hl h; cases h
      | succ n ihn =>
        intro s a w μ hs hl h
        simp only [iter] at h
        rw [rounds_succ]
        refine ih s a w μ _ _ hs (fun e ex s' a' w' μ' hK hq hs' hx => ?_) h
        cases hq with
        | normal => exact ihn s'.tab a' w' μ' hs'.tab (hl.after hx) hK
        | exit id => exact hl _ _ _ _ _ _ hK (.exit id) hs' hx
        | ret => exact hl _ _ _ _ _ _ hK .ret hs' hx
        | panic v vc hv => exact hl _ _ _ _ _ _ hK (.panic v vc hv) hs' hx
    exact key rounds s a w μ hs hl h
  | exit id => intro s a w μ K Q hs hl h; exact wp_exit (hl _ _ _ _ _ _ h (.exit id) hs (Ext.refl _ _ _))
  | ret => intro s a w μ K Q hs hl h; exact wp_ret (hl _ _ _ _ _ _ h .ret hs (Ext.refl _ _ _))
  | _ => intros; rename_i h; simp [evalCode] at h

/-! ### Leaving a function -/
def modeOf (vc : Option Value) : FrameMode := match vc with
  | none => .returning
  | some v => .panicking [{ v, recovered := false }]
inductive PanR (w0 : World) (μ : Mu) : Option AV → Option Value → Prop where
  | none : PanR w0 μ none none
  | some {v : AV} {vc : Value} (h : VR w0 μ v vc) : PanR w0 μ (some v) (some vc)
theorem PanR.mono (hm : μ.le μ') {p : Option AV} {q : Option Value} (h : PanR w0 μ p q) : PanR w0 μ' p q := by
  cases h with
  | none => exact .none
  | some h => exact .some (h.mono hm)

def DSound (P : Program) (D : DPrims) : Prop :=
  ∀ f g, D f = some g → Enters P f ∧ ∀ (args : List AV) (pan : Option AV) (h : Heap) (K : Option AV → Heap → Bool), g args pan h K = true →
    ∀ (w0 : World) (μ : Mu) (w : World) (vs : List Value) (pv : Option Value), Good w0 μ h w → VRL w0 μ args vs → PanR w0 μ pan pv → CallsD P f vs.toArray (modeOf pv) w fun
      | .returned _, u', w' => ∃ pan' pv' h' μ', K pan' h' = true ∧ PanR w0 μ' pan' pv' ∧ settle u' = modeOf pv' ∧ Good w0 μ' h' w' ∧ Ext μ h w μ' h' w'
      | _, _, _ => False

def resOf (tmps : Array Value) : ResultVar → Sem Value
  | .tmp t => pure (tmps.getD t undef)
  | .cell x t => do loadVar t (← asAddr (tmps.getD x undef))
theorem resultA_sim (hs : SR w0 μ s a w) {r : ResultVar} {v : AV} (h : resultA P s r = some v) :
    ∃ vc, (resOf a.tmps r).run P w = .ok vc w ∧ VR w0 μ v vc := by
  cases r with
  | tmp t =>
    simp only [resultA, Option.some.injEq] at h
    subst h
    exact ⟨_, by simp only [resOf, Sem.run_pure], hs.env.2 t⟩
  | cell x t =>
    simp only [resultA] at h
    split at h
    · rename_i i hi
      have hx := hs.env.2 x
      unfold loadS at h
      split at h
      · rename_i b off hxe
        rw [hxe] at hx
        split at h
        · rename_i cs ho
          generalize hxv : a.tmps.getD x undef = xv at hx
          cases hx
          rename_i k hk
          obtain ⟨vc, h1, h2⟩ := run_loadVar hi (hs.good.cells hk ho) h
          exact ⟨vc, by simp only [resOf, hxv, asAddr, Sem.run_bind, Sem.run_pure, Result.andThen_ok, h1], h2⟩
        · cases h
      · rename_i cs off hxe
        rw [hxe] at hx
        generalize hxv : a.tmps.getD x undef = xv at hx
        cases hx
        rename_i g o vs hgl hv hl' hr'
        obtain ⟨vc, h1, h2⟩ := run_loadVar hi (hs.good.icells hgl hl' hv hr') h
        exact ⟨vc, by simp only [resOf, hxv, asAddr, Sem.run_bind, Sem.run_pure, Result.andThen_ok, h1], h2⟩
      · cases h
    · cases h

theorem resultL_sim (hs : SR w0 μ s a w) : ∀ (rs : List ResultVar) (vs : List AV), resultL P s rs = some vs →
    ∃ us : List Value, (rs.mapM (resOf a.tmps)).run P w = .ok us w ∧ VRL w0 μ vs us
  | [], vs, h => by
    simp only [resultL, Option.some.injEq] at h
    subst h
    exact ⟨[], by simp, .nil⟩
  | r :: rs, vs, h => by
    simp only [resultL] at h
    split at h
    · rename_i v vs' h1 h2
      cases h
      obtain ⟨vc, e1, e2⟩ := resultA_sim hs h1
      obtain ⟨us, e3, e4⟩ := resultL_sim hs rs vs' h2
      exact ⟨vc :: us, by simp only [List.mapM_cons, Sem.run_bind, e1, Result.andThen_ok, e3, Sem.run_pure], .cons e2 e4⟩
    · cases h

theorem results_sim (hs : SR w0 μ s a w) {fn : Func} {vs : List AV} (h : resultL P s fn.results.toList = some vs) : ∃ vc, (results fn a.tmps).run P w = .ok vc w ∧ VR w0 μ (oneOf vs) vc := by
  obtain ⟨us, h1, h2⟩ := resultL_sim hs _ _ h
  have hm : (results fn a.tmps).run P w = .ok (if h : us.toArray.size = 1 then us.toArray[0] else .tuple us.toArray) w := by
    have hr : results fn a.tmps = (do let vs ← fn.results.mapM (resOf a.tmps); pure (if h : vs.size = 1 then vs[0] else .tuple vs)) := by
      unfold results
      congr 2
    rw [hr, ← Array.toArray_toList (xs := fn.results), List.mapM_toArray]
    simp only [Sem.run_bind, map_eq_pure_bind, h1, Result.andThen_ok, Sem.run_pure]
  refine ⟨_, hm, ?_⟩
  cases vs with
  | nil => obtain rfl := h2.nil_inv; exact VRL.tuple .nil
  | cons v vs =>
    obtain ⟨u, us', rfl, h3, h4⟩ := h2.cons_inv
    cases vs with
    | nil => obtain rfl := h4.nil_inv; simpa [oneOf] using h3
    | cons v2 vs =>
      obtain ⟨u2, us2, rfl, h5, h6⟩ := h4.cons_inv
      rw [dif_neg (by simp)]
      exact VRL.tuple h2

theorem leave_sim {D : DPrims} (hD : DSound P D) {fn : Func} {μb : Mu} {hb : Heap} {wb : World} {K : Out → Heap → Bool} : ∀ (ds : List ADef) (Ds : List Deferred) (pan : Option AV) (pv : Option Value) (s : St) (a : Act) (w : World) (μ : Mu),
    EnvR w0 μ s.env s.n a.tmps → DefsR w0 μ ds Ds → Good w0 μ s.h w → PanR w0 μ pan pv → Ext μb hb wb μ s.h w → leave P D fn.results.toList K ds pan s = true →
    Leaves P fn a.tmps (OutR w0 μb hb wb K) Ds (modeOf pv) w
  | [], Ds, pan, pv, s, a, w, μ, he, hd, hg, hp, hx, h => by
    cases hd
    have hs : SR w0 μ ⟨s.env, s.n, [], s.h⟩ ⟨a.tmps, []⟩ w := ⟨he, .nil, hg⟩
    cases hp with
    | none =>
      simp only [leave] at h
      obtain ⟨vs, h1, h2⟩ := bindO_eq h
      have h1' : resultL P ⟨s.env, s.n, [], s.h⟩ fn.results.toList = some vs := by
        rw [← h1]
        have : ∀ rs : List ResultVar, resultL P ⟨s.env, s.n, [], s.h⟩ rs = resultL P s rs := by
          intro rs
          induction rs with
          | nil => rfl
          | cons r rs ih => simp only [resultL, ih]; cases r <;> rfl
        exact this _
      obtain ⟨vc, h3, h4⟩ := results_sim hs h1'
      exact ⟨vc, h3, _, _, _, h2, h4, hg, hx⟩
    | some hv =>
      simp only [leave] at h
      exact ⟨_, _, _, _, h, rfl, hv, hg, hx⟩
  | d :: ds, Ds, pan, pv, s, a, w, μ, he, hd, hg, hp, hx, h => by
    cases hd with
    | cons hdr ht =>
      obtain ⟨cap, args, rfl, r1, r2⟩ := hdr
      simp only [leave] at h
      split at h
      · rename_i g hg'
        obtain ⟨hen, hsound⟩ := hD d.f g hg'
        have hcd := hsound _ _ _ _ h w0 μ w (args ++ cap) pv hg (r1.append r2) hp
        refine ⟨by cases pv <;> simp [modeOf], .func d.f, cap.toArray, d.f, (args ++ cap).toArray, rfl, ?_, ?_⟩
        · have e : args.toArray ++ cap.toArray = (args ++ cap).toArray := by simp
          simp only [invoke, e, run_callFunc hen]
        · refine CallsD.mono hcd fun e u' w' hR => ?_
          cases e with
          | returned v =>
            obtain ⟨pan', pv', h', μ', hK, hp', hu, hg2, hx2⟩ := hR
            simp only
            rw [hu]
            exact leave_sim hD ds _ pan' pv' ⟨s.env, s.n, s.defs, h'⟩ a w' μ' (he.mono hx2.mono) (ht.mono hx2.mono) hg2 hp' (hx.trans hx2) hK
          | panicked c => exact hR.elim
          | outgrown => exact hR.elim
      · cases h

/-- The slots of a frame that begins. -/
theorem env_enter {args : List AV} {vs : List Value} (h : VRL w0 μ args vs) {n : Nat} (hn : args.length ≤ n) : EnvR w0 μ (mkEnv args) n (vs.toArray ++ Array.replicate (n - vs.toArray.size) undef) := by
  have hl := h.len
  refine ⟨by simp; omega, fun t => ?_⟩
  have key : ∀ (args : List AV) (t : Nat), mkEnv args t = (args[t]?).getD noV := by
    intro args
    induction args with
    | nil => intro t; simp [mkEnv]
    | cons x xs ih =>
      intro t
      cases t with
      | zero => simp [mkEnv]
      | succ t => simp [mkEnv, ih]
  rw [key]
  by_cases ht : t < args.length
  · have h1 : args[t]? = some args[t] := List.getElem?_eq_getElem ht
    obtain ⟨v, h2, h3⟩ := h.get h1
    rw [h1]
    have : (vs.toArray ++ Array.replicate (n - vs.toArray.size) undef).getD t undef = v := by
      rw [Array.getD_eq_getD_getElem?, Array.getElem?_append_left (by simp; omega)]
      simp [h2]
    rw [this]; exact h3
  · rw [List.getElem?_eq_none (by omega)]
    have : (vs.toArray ++ Array.replicate (n - vs.toArray.size) undef).getD t undef = undef := by
      rw [Array.getD_eq_getD_getElem?, Array.getElem?_append_right (by simp; omega), Array.getElem?_replicate]
      split <;> rfl
    rw [this]; exact VR.noV

def PrimsSound (P : Program) (F : Prims) : Prop :=
  ∀ f g, F f = some g → ∀ args h K, g args h K = true → Enters P f ∧ ∀ (w0 : World) (μ : Mu) (w : World) (vs : List Value), Good w0 μ h w → VRL w0 μ args vs → Calls P f vs.toArray w (OutR w0 μ h w K)

/-- THE ABSTRACT MACHINE IS SOUND. -/
theorem evalFn_sound (hm : P.follows .mixedOrders = true) {F : Prims} {D : DPrims} (hF : PrimsSound P F) (hD : DSound P D) : ∀ n, CallSound P (evalFn P F D n)
  | 0 => fun f args h K hh => by cases hh
  | n + 1 => fun f args h K hh => by
    simp only [evalFn] at hh
    split at hh
    · rename_i g hg; exact hF f g hg args h K hh
    · split at hh
      · cases hh
      · rename_i fn hfn
        split at hh
        · rename_i hcond
          simp only [Bool.and_eq_true, decide_eq_true_eq, bne_iff_ne, ne_eq] at hcond
          unfold bodyFn at hh
          split at hh
          · cases hh
          · rename_i c hb
            refine ⟨⟨fn, c, hfn, hb, hcond.2⟩, fun w0 μ w vs hg hv => ?_⟩
            refine calls_of_wp_defers hfn hb ?_
            refine code_wp (w0 := w0) hm (evalFn_sound hm hF hD n) n c ⟨mkEnv args, fn.ntmps, [], h⟩ _ w μ _ _ ⟨env_enter hv hcond.1, .nil, hg⟩ (fun e ex s' a' w' μ' hK hq hs' hx => ?_) hh
            cases hq with
            | normal => exact leave_sim hD _ _ none none s' a' w' μ' hs'.env hs'.defs hs'.good .none hx hK
            | ret => exact leave_sim hD _ _ none none s' a' w' μ' hs'.env hs'.defs hs'.good .none hx hK
            | exit id => cases hK
            | panic v vc hv => exact leave_sim hD _ _ (some v) (some vc) s' a' w' μ' hs'.env hs'.defs hs'.good (.some hv) hx hK
        · cases hh
end
end Go.AM
