/- RulesLevels, as a row: whatever the arguments, the law answers true. Conditions: none. -/
import Derived.Test.YtkenhcicdkmbnaaGreatRl21
import Derived.Test.YtkenhcicdkmbnaaGreatRl22
namespace Go.Proofs.YtkenhcicdkmbnaaGreat.rulesLevels
open Go Go.AM Go.AM.KrT Go.ChangeShapes Go.WideShapes Go.ChangeAt Go.RowKit
set_option linter.unusedVariables false
set_option linter.unusedSimpArgs false

set_option maxRecDepth 100000 in
/-- WHAT THE LAW ANSWERS, FOR EVERY ARGUMENT. -/
theorem contract (H : Type) (enc : TypeId × Value → H) (W : World) (base : Nat) (args : Array Value) (ds gs : List (DataW H)) (before : List MemPlace)
    (hval : ∀ (j : Nat) t v, Tryz.f3.params[j]? = some t → args[j]? = some v → Value.okWide Tryz.prog W .any base t v)
    (hW : DataW.Whole enc Tryz.prog Tryz.f3.params.toList Rows.rulesLevelsSpec.vars false W args.toList ds gs before)
    (hreach : (DataW.weightsEach Tryz.prog (Tryz.f3.params.toList ++ (OpenSpec.ofChange Rows.rulesLevelsSpec).bare.plain.varTypes Tryz.prog) (ds ++ gs)).all (· ≤ reachBytes) = true) :
    Calls Tryz.prog 3 args W fun e W' => ∃ v, e = .returned v ∧ Rows.rulesLevelsSpec.post enc Tryz.prog Tryz.f3 false true false false W args v W' := by
  have hW' := hW
  obtain ⟨p, q, hA0, hV, rfl, hfz, hnd⟩ := hW
  have hA : DataW.TrodAll enc Tryz.prog W 0 (fun _ => true) true Tryz.f3.params.toList args.toList ds p := hA0
  rw [Tryz.params3] at hA hval
  obtain ⟨v0, vs0, d0, ds0, p0, q0, hargs, rfl, rfl, h0, r0⟩ := trodAll_cons hA
  obtain ⟨rfl, rfl, rfl⟩ := trodAll_nil r0
  obtain rfl : args = #[v0] := by apply Array.ext'; simpa using hargs
  obtain ⟨xs0, ⟨a0, rfl, hok0⟩, hv0⟩ := reads_trod rd22 h0
  have ok0 := hok0 (small_all hreach (j := 0) (by rw [Tryz.params3]; rfl) rfl)
  obtain ⟨sa0, sl0, sc0, rfl⟩ := slice_of hval (j := 0) Tryz.underlying22 rfl rfl
  refine (sem_calls (law_RulesLevels ok0.2) (vs := #[.slice sa0 sl0 sc0]) (.cons (vr_one hv0 (fun vs h => by cases h)) .nil)).mono fun e W' ⟨he, hb⟩ => ?_
  subst he
  exact ⟨_, rfl, post_true rfl (fun ds hds => by
    rw [Tryz.params3] at hds
    match ds, hds with
    | [d0], _ => rfl) (by kernel_rfl) Tryz.underlying4 laidOut (fun t ht => by
    rw [Tryz.params3] at ht
    have ht' : t = 22 := by simpa using ht
    rcases ht' with rfl
    · exact ⟨by kernel_rfl, of_decide_eq_true (by kernel_rfl)⟩) hW' hb⟩

noncomputable def arg0 : Array Value := #[.slice none 0 0]
theorem laid_met (os : Os) : laidMet Tryz.prog Rows.rulesLevelsRow.laid ((laidWorld os).forCall (fun _ _ => 0) ⟨#[], arg0, []⟩).memory :=
  laidMet_of_run' 8 (by kernel_rfl) (by kernel_rfl)
theorem reads (os : Os) {H : Type} (enc : TypeId × Value → H) : ∃ places, DataW.whole enc Tryz.prog ((laidWorld os).forCall (fun _ _ => 0) ⟨#[], arg0, []⟩).memory Tryz.f3.params.toList Rows.rulesLevelsSpec.vars false arg0.toList 8 = some ([.nil], [], places) :=
  ⟨[], by kernel_rfl⟩

theorem w_inits : Tryz.checked.prog.inits.idxOf? 3 = none := by kernel_rfl
theorem w_vars (os : Os) : World.variablesB Tryz.checked.prog ((laidWorld os).forCall (fun _ _ => 0) ⟨#[], arg0, []⟩) = true := by kernel_rfl
theorem w_ok (os : Os) : Input.okWideB Tryz.checked.prog ((laidWorld os).forCall (fun _ _ => 0) ⟨#[], arg0, []⟩) 3 ⟨#[], arg0, []⟩ = true := by kernel_rfl
theorem w_heap (os : Os) : List.take ((begin Tryz.checked.prog (fun _ _ => 0) default).world.heap.size - Tryz.checked.prog.globals.size) (List.drop Tryz.checked.prog.globals.size ((laidWorld os).forCall (fun _ _ => 0) ⟨#[], arg0, []⟩).heap.toList) = List.drop Tryz.checked.prog.globals.size (begin Tryz.checked.prog (fun _ _ => 0) default).world.heap.toList := by kernel_rfl
set_option maxRecDepth 100000 in
theorem lifted (os : Os) (started : os.Started) (H : Type) (enc : TypeId × Value → H) (F : Stop.Interp) :
    ReturnsInHanded {} Tryz.checked os 3 .any ((OpenSpec.ofChange Rows.rulesLevelsSpec).preRow enc Tryz.prog Tryz.f3 Rows.rulesLevelsRow.domain false Rows.rulesLevelsRow.laid) (((OpenSpec.ofChange Rows.rulesLevelsSpec).at F).post enc Tryz.prog Tryz.f3 false true false false) := by
  obtain ⟨places, hx⟩ := reads os enc
  refine returnsInHanded_of_row (C := Tryz.checked) (s := OpenSpec.ofChange Rows.rulesLevelsSpec) own started w_inits Tryz.func3
    (witness_row_at (enc := enc) (C := Tryz.checked) false (laidWorld os) arg0 rfl (w_vars os) (w_heap os) (w_ok os)
      (OpenSpec.preRow_of_cond 8 hx (by kernel_rfl) (fun k hk => by cases hk) (by kernel_rfl) (laid_met os))) ?_
  intro W base args ds gs before hval hW _ _ hreach hL _ _
  exact contract H enc W base args ds gs before hval hW hreach
end Go.Proofs.YtkenhcicdkmbnaaGreat.rulesLevels
