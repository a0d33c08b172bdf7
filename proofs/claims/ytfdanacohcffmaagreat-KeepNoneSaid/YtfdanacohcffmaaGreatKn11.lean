/- A deferred function that begins with recover. Conditions: none. -/
import Derived.Test.YtfdanacohcffmaaGreatKn9
import Derived.Recover
set_option linter.unusedVariables false
set_option linter.unusedSimpArgs false
namespace Go.AM
open Go Go.RowKit
noncomputable section
theorem wp_toS {P : Program} {ops : Array Oper} {Q : Exit → Act → List Frame → World → Prop} {o : Oper} {rest : List Nat} {a : Act} {cs : List Frame} {w : World}
    (h : o.wp P a w (fun a' w' => wpOpsS P ops Q rest a' cs w') (fun e a' w' => Q e a' cs w')) :
    (match (execOp a.eval o).run P w with
        | .ok .recover w' =>
          match recoverD cs with
          | some (v, cs') => wpOpsS P ops Q rest (a.put o.dst v) cs' w'
          | none => wpOpsS P ops Q rest (a.put o.dst .nilIface) cs w'
        | r => o.upon P a (fun a' w' => wpOpsS P ops Q rest a' cs w') (fun e a' w' => Q e a' cs w') r) := by
  unfold Oper.wp at h
  split
  · rename_i w' hr
    rw [hr] at h
    exact h.elim
  · exact h
section
variable {P : Program} {w0 w : World} {μ μ' : Mu} {h h' : Heap} {s : St} {a : Act}
theorem opsS_wp {call : CallF} (hc : CallSound P call) {ops : Array Oper} {K : RS → Bool} {Q : Exit → Act → List Frame → World → Prop} {cs : List Frame} : ∀ (l : List Oper) (i : Nat) (s : St) (a : Act) (w : World) (μ : Mu), (∀ j o, l[j]? = some o → ops[i + j]? = some o) →
    SR w0 μ s a w → (hl : LeadsR w0 μ s.h w K (fun e a' w' => Q e a' cs w')) → evalOps P call ops.toList l s K = true → wpOpsS P ops Q (List.range' i l.length) a cs w
  | [], i, s, a, w, μ, hi, hs, hl, h => by
    simp only [List.length_nil, List.range'_zero, wpOpsS]
    exact hl.ok _ _ _ _ h hs (Ext.refl _ _ _)
  | o :: rest, i, s, a, w, μ, hi, hs, hl, h => by
    have hio : ops[i]? = some o := by simpa using hi 0 o rfl
    obtain ⟨env, n, defs, hp⟩ := s
    simp only [List.length_cons, List.range'_succ, wpOpsS, hio]
    simp only [evalOps] at h
    have hi' : ∀ j o', rest[j]? = some o' → ops[i + 1 + j]? = some o' := fun j o' hj => by
      have := hi (j + 1) o' (by simpa using hj)
      rwa [show i + 1 + j = i + (j + 1) by omega]
    split at h
    · rename_i hw
      rw [wanted_sim hs.env hw, if_pos rfl]
      refine wp_toS (step_wp hs hc ⟨fun v defs' h' a' w' μ' hK hs' hx => ?_, fun v vc h' w' μ' hK hv hs' hx => ?_⟩ h)
      · exact opsS_wp hc rest (i + 1) _ a' w' μ' hi' hs' (hl.after hx) (putK_eq hK)
      · exact hl.panic v vc _ a w' μ' hK hv hs' hx
    · rename_i hw
      rw [wanted_sim hs.env hw]
      simp only [Bool.false_eq_true, if_false]
      have hs' := hs.left o.dst (h' := hp) VR.noV hs.good (Mu.le.refl μ)
      exact opsS_wp hc rest (i + 1) ⟨putE env n o.dst noV, n, defs, hp⟩ _ w μ hi' hs' hl (putK_eq h)
    · cases h
def noCall : CallF := fun _ _ _ _ => false
theorem noCall_sound (P : Program) : CallSound P noCall := fun f args h K hh => by cases hh
def defEnd (K : Option AV → Heap → Bool) : AX → St → Bool
  | .normal, s => (match s.defs with | [] => K none s.h | _ => false)
  | .ret, s => (match s.defs with | [] => K none s.h | _ => false)
  | _, _ => false
def deferP (P : Program) (n : Nat) (d : Tmp) (ops : List Oper) (c : Code) : List AV → Option AV → Heap → (Option AV → Heap → Bool) → Bool := fun args pan h K =>
  match ops with
  | [] => false
  | _ :: rest => evalOps P noCall ops rest ⟨setV (mkEnv args) d (match pan with | some v => v | none => .nili), n, [], h⟩ fun
    | .ok s => evalCode P noCall 0 c s (defEnd K)
    | .panic _ _ => false
structure DeferAt (P : Program) (f : FuncId) (n : Nat) (d : Tmp) (ops : List Oper) (c : Code) (np : Nat) : Prop where
  ex : ∃ fn id o ts, P.funcs[f]? = some fn ∧ fn.body = some (.seq (.region id ops.toArray false) c) ∧ fn.ntmps = n ∧ fn.name ≠ "runtime.NumGoroutine" ∧ fn.results.toList = [] ∧ d < n ∧ np ≤ n ∧
    ops[0]? = some o ∧ o.dst = some d ∧ o.guard = none ∧ o.op = .call ⟨.builtin .recover, #[], ts⟩
theorem deferP_sound (hm : P.follows .mixedOrders = true) {f : FuncId} {n : Nat} {d : Tmp} {ops : List Oper} {c : Code} {np : Nat} (hd : DeferAt P f n d ops c np) {args : List AV} (hnp : args.length ≤ np) {pan : Option AV} {h : Heap} {K : Option AV → Heap → Bool}
    (hh : deferP P n d ops c args pan h K = true) : Enters P f ∧
    ∀ (w0 : World) (μ : Mu) (w : World) (vs : List Value) (pv : Option Value), Good w0 μ h w → VRL w0 μ args vs → PanR w0 μ pan pv → CallsD P f vs.toArray (modeOf pv) w fun
      | .returned _, u', w' => ∃ pan' pv' h' μ', K pan' h' = true ∧ PanR w0 μ' pan' pv' ∧ settle u' = modeOf pv' ∧ Good w0 μ' h' w' ∧ Ext μ h w μ' h' w'
      | _, _, _ => False := by
  obtain ⟨fn, id, o, ts, hfn, hb, hn, hname, hres, hdn, hnpn, ho, hod, hog, hoo⟩ := hd.ex
  refine ⟨⟨fn, _, hfn, hb, hname⟩, fun w0 μ w vs pv hg hv hp => ?_⟩
  refine callsD_of_wpS hfn hb fun c0 cs hc0 => ?_
  have henv := env_enter (n := fn.ntmps) hv (by omega)
  cases ops with
  | nil => cases ho
  | cons o' rest =>
    simp at ho
    subst ho
    simp only [deferP] at hh
    refine wpS_seq (wpS_region ?_)
    have hsz : (o' :: rest).toArray.size = rest.length + 1 := by simp
    rw [hsz, List.range_eq_range', List.range'_succ]
    have h0 : (o' :: rest).toArray[0]? = some o' := by simp
    have hw : ∀ t : Array Value, Region.wanted o' (yielded (o' :: rest).toArray t) = true := fun t => by unfold Region.wanted; rw [hog]
    have hrec : ∀ (ac : Act), (execOp ac.eval o').run P w = .ok .recover w := fun ac => by simp [execOp, hoo, resolve, invoke, builtin]
    simp only [wpOpsS, h0]
    rw [if_pos (hw _), hrec]
    have key : ∀ (v : AV) (vc : Value) (cs1 : List Frame) (u' : FrameMode), VR w0 μ v vc → cs1 = { c0 with mode := u' } :: cs → settle u' = .returning →
        evalOps P noCall (o' :: rest) rest ⟨setV (mkEnv args) d v, n, [], h⟩ (fun
          | .ok s => evalCode P noCall 0 c s (defEnd K)
          | .panic _ _ => false) = true →
        wpOpsS P (o' :: rest).toArray (Exit.thenS (c.wpS P (bodyPostS P fn c0 cs fun
            | .returned _, u', w' => ∃ pan' pv' h' μ', K pan' h' = true ∧ PanR w0 μ' pan' pv' ∧ settle u' = modeOf pv' ∧ Good w0 μ' h' w' ∧ Ext μ h w μ' h' w'
            | _, _, _ => False)) (bodyPostS P fn c0 cs fun
            | .returned _, u', w' => ∃ pan' pv' h' μ', K pan' h' = true ∧ PanR w0 μ' pan' pv' ∧ settle u' = modeOf pv' ∧ Good w0 μ' h' w' ∧ Ext μ h w μ' h' w'
            | _, _, _ => False)) (List.range' (0 + 1) rest.length) (Act.put { tmps := vs.toArray ++ Array.replicate (fn.ntmps - vs.toArray.size) undef, defers := [] } o'.dst vc) cs1 w := by
      intro v vc cs1 u' hvv hcs hset he
      have hs : SR w0 μ ⟨mkEnv args, n, [], h⟩ { tmps := vs.toArray ++ Array.replicate (fn.ntmps - vs.toArray.size) undef, defers := [] } w := ⟨by rw [← hn]; exact henv, .nil, hg⟩
      have hs2 := hs.left (h' := h) (some d) hvv hg (Mu.le.refl μ)
      rw [hod]
      have he2 : evalOps P noCall (o' :: rest).toArray.toList rest (St.putH ⟨mkEnv args, n, [], h⟩ h (some d) v) (fun
          | .ok s => evalCode P noCall 0 c s (defEnd K)
          | .panic _ _ => false) = true := by
        simp only [St.putH, putE]
        rw [if_pos (by omega)]
        exact he
      refine opsS_wp (noCall_sound P) rest (0 + 1) _ _ w μ (fun j o2 hj => by
        show (o' :: rest).toArray[0 + 1 + j]? = some o2
        rw [show 0 + 1 + j = j + 1 by omega]; simpa using hj) hs2 ⟨fun s' a' w' μ' hK hs' hx => ?_, fun _ _ _ _ _ _ hK _ _ _ => by cases hK⟩ he2
      refine wpS_of_wp (code_wp (w0 := w0) hm (noCall_sound P) 0 c s' a' w' μ' _ _ hs' (fun e ex s2 a2 w2 μ2 hK2 hq hs2 hx2 => ?_) hK)
      have fin : (match s2.defs with | [] => K none s2.h | _ => false) = true → a2.defers = [] ∧ ∃ u', cs1 = { c0 with mode := u' } :: cs ∧ ∃ v, (results fn a2.tmps).run P w2 = .ok v w2 ∧
          ∃ pan' pv' h' μ', K pan' h' = true ∧ PanR w0 μ' pan' pv' ∧ settle u' = modeOf pv' ∧ Good w0 μ' h' w2 ∧ Ext μ h w μ' h' w2 := by
        intro hk
        split at hk
        · rename_i hdefs
          have hdd := hs2.defs
          rw [hdefs] at hdd
          have hnil : a2.defers = [] := by
            cases hdd' : a2.defers with
            | nil => rfl
            | cons x xs => rw [hdd'] at hdd; cases hdd
          obtain ⟨vc2, hr, _⟩ := results_sim (fn := fn) (vs := []) hs2 (by rw [hres]; rfl)
          exact ⟨hnil, u', hcs, vc2, hr, none, none, s2.h, μ2, hk, .none, hset, hs2.good, hx.trans hx2⟩
        · cases hk
      cases hq with
      | normal => exact fin hK2
      | ret => exact fin hK2
      | exit id => cases hK2
      | panic v vc hv => cases hK2
    cases hp with
    | none =>
      have : recoverD (c0 :: cs) = none := by simp [recoverD, hc0, modeOf]
      rw [this]
      exact key .nili .nilIface (c0 :: cs) .returning .nili (by
        have : c0 = { c0 with mode := .returning } := by
          have h1 : c0.mode = .returning := hc0
          cases c0; simp_all
        rw [← this]) rfl hh
    | some hpv =>
      rename_i pvv pvc
      have : recoverD (c0 :: cs) = some (pvc, { c0 with mode := .panicking [{ v := pvc, recovered := true }] } :: cs) := by simp [recoverD, hc0, modeOf]
      rw [this]
      exact key _ _ _ (.panicking [{ v := pvc, recovered := true }]) hpv rfl rfl hh
end
end
end Go.AM
