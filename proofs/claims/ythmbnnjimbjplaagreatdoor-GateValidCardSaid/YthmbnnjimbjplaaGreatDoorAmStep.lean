/- One operation that calls no function, whatever its kind. Conditions: none. -/
import Derived.Test.YthmbnnjimbjplaaGreatDoorAmNext
set_option linter.unusedVariables false
set_option linter.unusedSimpArgs false
namespace Go.AM
open Go Go.RowKit

section
variable {P : Program} {w0 w : World} {μ : Mu} {h : Heap} {ρ : Operand → AV} {ρc : Operand → Value}

theorem bothK_eq {K : AV → Heap → Bool} {o : Option (AV × Heap)} (h : bothK K o = true) : ∃ v h', o = some (v, h') ∧ K v h' = true := by
  cases o with
  | none => cases h
  | some p => exact ⟨p.1, p.2, rfl, h⟩
theorem heapK_eq {K : AV → Heap → Bool} {o : Option Heap} (h : heapK K o = true) : ∃ h', o = some h' ∧ K noV h' = true := by
  cases o with
  | none => cases h
  | some p => exact ⟨p, rfl, h⟩
theorem valK_eq {K : AV → Heap → Bool} {h0 : Heap} {o : Option AV} (h : valK h0 K o = true) : ∃ v, o = some v ∧ K v h0 = true := by
  cases o with
  | none => cases h
  | some p => exact ⟨p, rfl, h⟩

theorem left_val {K : AV → Heap → Bool} {v : AV} {h' : Heap} {s : Sem Value} (hK : K v h' = true) (hx : ∃ vc w' μ', s.run P w = .ok vc w' ∧ VR w0 μ' v vc ∧ Good w0 μ' h' w' ∧ Ext μ h w μ' h' w') {s' : Sem Next}
    (hs : ∀ vc w', s.run P w = .ok vc w' → s'.run P w = .ok (.value vc) w') : Left P w0 μ h w K (s'.run P w) :=
  let ⟨vc, w', μ', a, b, c, d⟩ := hx
  ⟨v, h', vc, w', μ', hK, .inl (hs _ _ a), b, c, d⟩
theorem left_unit {K : AV → Heap → Bool} {h' : Heap} {s : Sem Unit} (hK : K noV h' = true) (hx : ∃ w', s.run P w = .ok () w' ∧ Good w0 μ h' w' ∧ Ext μ h w μ h' w') {s' : Sem Next}
    (hs : ∀ w', s.run P w = .ok () w' → s'.run P w = .ok .skip w') : Left P w0 μ h w K (s'.run P w) :=
  let ⟨w', a, c, d⟩ := hx
  ⟨noV, h', undef, w', μ, hK, .inr ⟨rfl, hs _ a⟩, VR.noV, c, d⟩

theorem map_args {args : Array Operand} {xs : List AV} (hρ : ∀ x, VR w0 μ (ρ x) (ρc x)) (h : args.toList.map ρ = xs) : ∃ us : List Value, args.map ρc = us.toArray ∧ VRL w0 μ xs us := by
  refine ⟨args.toList.map ρc, by apply Array.ext'; simp, ?_⟩
  rw [← h]
  exact VRL.map _ fun a _ => hρ a

theorem eff_call (hg : Good w0 μ h w) (hρ : ∀ x, VR w0 μ (ρ x) (ρc x)) {c : Call} {dst : Option Tmp} {type : TypeId} {pos : String} {after : Array Edge} {guard : Option (Nat × Bool)} (hk : callKind c.callee = .eff)
    {K : AV → Heap → Bool} (hh : exCall c P ρ h K = true) : Left P w0 μ h w K ((execOp ρc ⟨dst, .call c, type, pos, after, guard⟩).run P w) := by
  obtain ⟨cal, args, ts⟩ := c
  cases cal with
  | value f => cases hh
  | invoke r m => cases hh
  | builtin b =>
    simp only [exCall] at hh
    cases b <;> simp only [callKind, reduceCtorEq] at hk <;> simp only [bltFn, bltBad, reduceCtorEq, Bool.false_eq_true] at hh
    case append =>
      unfold bltAppend at hh
      split at hh
      · rename_i t u s x e1 e2
        obtain ⟨i, hi, hh⟩ := bindO_eq hh
        obtain ⟨v, h', ha, hK⟩ := bothK_eq hh
        obtain ⟨us, q1, q2⟩ := map_args hρ e2
        obtain ⟨sv, us', rfl, r1, q3⟩ := q2.cons_inv
        obtain ⟨xv, us'', rfl, r2, q4⟩ := q3.cons_inv
        obtain rfl := q4.nil_inv
        have et : ts = #[t, u] := by apply Array.ext'; simpa using e1
        refine left_val hK (eff_append (ty := type) hg hi r1 r2 ha) fun vc w' hr => ?_
        simp only [execOp, resolve, invoke, builtin, Sem.run_bind, Sem.run_pure, Result.andThen_ok, q1, et, hr]
      · cases hh
    case copy =>
      unfold bltCopy at hh
      split at hh
      · rename_i t l d s e1 e2
        obtain ⟨i, hi, hh⟩ := bindO_eq hh
        obtain ⟨v, h', ha, hK⟩ := bothK_eq hh
        obtain ⟨us, q1, q2⟩ := map_args hρ e2
        obtain ⟨sv, us', rfl, r1, q3⟩ := q2.cons_inv
        obtain ⟨xv, us'', rfl, r2, q4⟩ := q3.cons_inv
        obtain rfl := q4.nil_inv
        have et : ts = (t :: l).toArray := by apply Array.ext'; simpa using e1
        obtain ⟨vc, w', a, b, c, d⟩ := eff_copy (u := t) (ty := type) (ts := l) hg hi r1 r2 ha
        refine left_val hK ⟨vc, w', μ, a, b, c, d⟩ fun vc w' hr => ?_
        simp only [execOp, resolve, invoke, builtin, Sem.run_bind, Sem.run_pure, Result.andThen_ok, q1, et, hr]
      · cases hh
    case delete =>
      unfold bltDelete at hh
      split at hh
      · rename_i t l m k e1 e2
        obtain ⟨i, hi, hh⟩ := bindO_eq hh
        obtain ⟨h', ha, hK⟩ := heapK_eq hh
        obtain ⟨us, q1, q2⟩ := map_args hρ e2
        obtain ⟨sv, us', rfl, r1, q3⟩ := q2.cons_inv
        obtain ⟨xv, us'', rfl, r2, q4⟩ := q3.cons_inv
        obtain rfl := q4.nil_inv
        have et : ts = (t :: l).toArray := by apply Array.ext'; simpa using e1
        obtain ⟨w', a, c, d⟩ := eff_delete (ty := type) (ts := l) hg hi r1 r2 ha
        refine left_val hK ⟨undef, w', μ, a, VR.noV, c, d⟩ fun vc w' hr => ?_
        simp only [execOp, resolve, invoke, builtin, Sem.run_bind, Sem.run_pure, Result.andThen_ok, q1, et, hr]
      · cases hh

/-- AN OPERATION THAT ACTS AND CALLS NO FUNCTION. -/
theorem eff_sim (hg : Good w0 μ h w) (hρ : ∀ x, VR w0 μ (ρ x) (ρc x)) {o : Oper} (hk : opKind o.op = .eff) {K : AV → Heap → Bool} (hh : opFn o.op P ρ h K = true) : Left P w0 μ h w K ((execOp ρc o).run P w) := by
  obtain ⟨dst, op, type, pos, after, guard⟩ := o
  cases op <;> simp only [opKind, reduceCtorEq] at hk <;> simp only [opFn, Bool.false_eq_true] at hh
  case store t a x =>
    obtain ⟨n, hi, hh⟩ := bindO_eq hh
    obtain ⟨h', ha, hK⟩ := heapK_eq hh
    exact left_unit hK (eff_store hg hi (hρ a) (hρ x) ha) fun w' hr => by simp [execOp, hr]
  case convert s d x =>
    obtain ⟨n, hi, hh⟩ := bindO_eq hh
    obtain ⟨v, h', ha, hK⟩ := bothK_eq hh
    exact left_val hK (eff_convert hg hi (hρ x) ha) fun vc w' hr => by simp [execOp, hr]
  case mapUpdate t m k x =>
    obtain ⟨n, hi, hh⟩ := bindO_eq hh
    obtain ⟨h', ha, hK⟩ := heapK_eq hh
    exact left_unit hK (eff_mapUpdate hg hi (hρ m) (hρ k) (hρ x) ha) fun w' hr => by simp [execOp, hr]
  case insert t m k x =>
    obtain ⟨n, hi, hh⟩ := bindO_eq hh
    obtain ⟨h', ha, hK⟩ := heapK_eq hh
    exact left_unit hK (eff_mapUpdate hg hi (hρ m) (hρ k) (hρ x) ha) fun w' hr => by simp [execOp, hr]
  case mapEntry t m k =>
    obtain ⟨n, hi, hh⟩ := bindO_eq hh
    obtain ⟨v, h', ha, hK⟩ := bothK_eq hh
    obtain ⟨vc, w', a, b, c, d⟩ := eff_mapEntry hg hi (hρ m) (hρ k) ha
    exact left_val hK ⟨vc, w', μ, a, b, c, d⟩ fun vc w' hr => by simp [execOp, hr]
  case entryStore t m s x =>
    obtain ⟨h', ha, hK⟩ := heapK_eq hh
    exact left_unit hK (eff_entryStore (t := t) hg (hρ m) (hρ s) (hρ x) ha) fun w' hr => by simp [execOp, hr]
  case range t x =>
    obtain ⟨n, hi, hh⟩ := bindO_eq hh
    obtain ⟨v, h', ha, hK⟩ := bothK_eq hh
    exact left_val hK (eff_range hg hi (hρ x) ha) fun vc w' hr => by simp [execOp, hr]
  case entry x =>
    obtain ⟨v, ha, hK⟩ := valK_eq hh
    obtain ⟨vc, a, b⟩ := eff_entry (P := P) hg (hρ x) ha
    exact left_val hK ⟨vc, w, μ, a, b, hg, Ext.refl _ _ _⟩ fun vc w' hr => by simp [execOp, hr]
  case call c => exact eff_call (dst := dst) (pos := pos) (after := after) (guard := guard) hg hρ hk hh

theorem Left.of_value {K : AV → Heap → Bool} {v : AV} {vc : Value} {r : Result Next} (hK : K v h = true) (hr : r = .ok (.value vc) w) (hv : VR w0 μ v vc) (hg : Good w0 μ h w) : Left P w0 μ h w K r :=
  ⟨v, h, vc, w, μ, hK, .inl hr, hv, hg, Ext.refl _ _ _⟩

/-- EVERY OPERATION THAT CALLS NO FUNCTION. -/
theorem op_sim (hg : Good w0 μ h w) (hρ : ∀ x, VR w0 μ (ρ x) (ρc x)) {o : Oper} {K : AV → Heap → Bool} (hh : opFn o.op P ρ h K = true) : Left P w0 μ h w K ((execOp ρc o).run P w) := by
  cases hk : opKind o.op with
  | pure =>
    rw [opFn_pure hk] at hh
    obtain ⟨v, hv, hK⟩ := bindO_eq hh
    obtain ⟨vc, h1, h2⟩ := pure_sim hρ hk hv
    exact .of_value hK (h1 w) h2 hg
  | read =>
    rw [opFn_read hk] at hh
    obtain ⟨v, hv, hK⟩ := bindO_eq hh
    obtain ⟨vc, h1, h2⟩ := read_sim hg hρ hk hv
    exact .of_value hK h1 h2 hg
  | alloc =>
    rw [opFn_alloc hk] at hh
    obtain ⟨⟨k, ob⟩, hv, hK⟩ := bindO_eq hh
    obtain ⟨O, n, f, hm⟩ := alloc_sim (w0 := w0) (μ := μ) hρ hk hv
    obtain ⟨g1, g2⟩ := hg.alloc ob O n (hm.obj _)
    exact ⟨_, _, _, _, _, hK, .inl (hm.run w), hm.val _ _ _ (Mu.add_same _ _ _), g1, g2⟩
  | eff => exact eff_sim hg hρ hk hh
end
end Go.AM
