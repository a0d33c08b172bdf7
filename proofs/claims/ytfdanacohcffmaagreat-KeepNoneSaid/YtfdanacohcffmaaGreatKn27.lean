/- KeepNone, as a row: whatever the arguments, the law answers true. Conditions: none. -/
import Derived.Test.YtfdanacohcffmaaGreatKn16
import Derived.Test.YtfdanacohcffmaaGreatKn26
namespace Go.Proofs.YtfdanacohcffmaaGreat.keepNone
open Go Go.AM Go.AM.KeT Go.ChangeShapes Go.WideShapes Go.ChangeAt Go.RowKit
set_option linter.unusedVariables false
set_option linter.unusedSimpArgs false
set_option maxRecDepth 100000 in
theorem contract (H : Type) (enc : TypeId × Value → H) (W : World) (base : Nat) (args : Array Value) (ds gs : List (DataW H)) (before : List MemPlace)
    (hval : ∀ (j : Nat) t v, Tryz.f9.params[j]? = some t → args[j]? = some v → Value.okWide Tryz.prog W .any base t v)
    (hW : DataW.Whole enc Tryz.prog Tryz.f9.params.toList Rows.keepNoneSpec.vars false W args.toList ds gs before)
    (hreach : (DataW.weightsEach Tryz.prog (Tryz.f9.params.toList ++ (OpenSpec.ofChange Rows.keepNoneSpec).bare.plain.varTypes Tryz.prog) (ds ++ gs)).all (· ≤ reachBytes) = true) :
    Calls Tryz.prog 9 args W fun e W' => ∃ v, e = .returned v ∧ Rows.keepNoneSpec.post enc Tryz.prog Tryz.f9 false true false false W args v W' := by
  have hW' := hW
  obtain ⟨p, q, hA0, hV, rfl, hfz, hnd⟩ := hW
  have hA : DataW.TrodAll enc Tryz.prog W 0 (fun _ => true) true Tryz.f9.params.toList args.toList ds p := hA0
  rw [Tryz.params9] at hA hval
  obtain ⟨v0, vs0, d0, ds0, p0, q0, hargs, rfl, rfl, h0, r0⟩ := trodAll_cons hA
  obtain ⟨v1, vs1, d1, ds1, p1, q1, hargs1, rfl, rfl, h1, r1⟩ := trodAll_cons r0
  obtain ⟨v2, vs2, d2, ds2, p2, q2, hargs2, rfl, rfl, h2, r2⟩ := trodAll_cons r1
  obtain ⟨rfl, rfl, rfl⟩ := trodAll_nil r2
  subst hargs2
  subst hargs1
  obtain rfl : args = #[v0, v1, v2] := by apply Array.ext'; simpa using hargs
  obtain ⟨xs0, ⟨a0, rfl, hok0⟩, hv0⟩ := reads_trod rd9 h0
  have ok0 := hok0 (small_all hreach (j := 0) (by rw [Tryz.params9]; rfl) rfl)
  obtain ⟨xs1, ⟨a1, rfl, hok1⟩, hv1⟩ := reads_trod rd37 h1
  have ok1 := hok1 (small_all hreach (j := 1) (by rw [Tryz.params9]; rfl) rfl)
  obtain ⟨xs2, ⟨a2, rfl, hok2⟩, hv2⟩ := reads_trod rd4 h2
  have ok2 := hok2 (small_all hreach (j := 2) (by rw [Tryz.params9]; rfl) rfl)
  obtain ⟨s0, rfl⟩ := string_of hval (j := 0) Tryz.underlying9 rfl rfl
  obtain ⟨sa1, sl1, sc1, rfl⟩ := slice_of hval (j := 1) Tryz.underlying37 rfl rfl
  obtain ⟨s2, rfl⟩ := bool_of hval (j := 2) Tryz.underlying4 rfl rfl
  refine (sem_calls (law_KeepNone ) (vs := #[.string s0, .slice sa1 sl1 sc1, .bool s2]) (.cons (vr_one hv0 (fun vs h => by cases h)) (.cons (vr_one hv1 (fun vs h => by cases h)) (.cons (vr_one hv2 (fun vs h => by cases h)) .nil)))).mono fun e W' ⟨he, hb⟩ => ?_
  subst he
  exact ⟨_, rfl, post_true rfl (fun ds hds => by
    rw [Tryz.params9] at hds
    match ds, hds with
    | [d0, d1, d2], _ => rfl) (by kernel_rfl) Tryz.underlying4 laidOut (fun t ht => by
    rw [Tryz.params9] at ht
    have ht' : t = 9 ∨ t = 37 ∨ t = 4 := by simpa using ht
    rcases ht' with rfl | rfl | rfl
    · exact ⟨by kernel_rfl, of_decide_eq_true (by kernel_rfl)⟩
    · exact ⟨by kernel_rfl, of_decide_eq_true (by kernel_rfl)⟩
    · exact ⟨by kernel_rfl, of_decide_eq_true (by kernel_rfl)⟩) hW' hb⟩
noncomputable def arg0 : Array Value := #[.string ⟨#[]⟩, .slice none 0 0, .bool false]
theorem laid_met (os : Os) : laidMet Tryz.prog Rows.keepNoneRow.laid ((laidWorld os).forCall (fun _ _ => 0) ⟨#[], arg0, []⟩).memory :=
  laidMet_of_run' 8 (by kernel_rfl) (by kernel_rfl)
theorem reads (os : Os) {H : Type} (enc : TypeId × Value → H) : ∃ places, DataW.whole enc Tryz.prog ((laidWorld os).forCall (fun _ _ => 0) ⟨#[], arg0, []⟩).memory Tryz.f9.params.toList Rows.keepNoneSpec.vars false arg0.toList 8 = some ([.lit (.string []), .nil, .lit (.bool false)], [], places) :=
  ⟨[], by kernel_rfl⟩
theorem w_inits : Tryz.checked.prog.inits.idxOf? 9 = none := by kernel_rfl
theorem w_vars (os : Os) : World.variablesB Tryz.checked.prog ((laidWorld os).forCall (fun _ _ => 0) ⟨#[], arg0, []⟩) = true := by kernel_rfl
theorem w_ok (os : Os) : Input.okWideB Tryz.checked.prog ((laidWorld os).forCall (fun _ _ => 0) ⟨#[], arg0, []⟩) 9 ⟨#[], arg0, []⟩ = true := by kernel_rfl
theorem w_heap (os : Os) : List.take ((begin Tryz.checked.prog (fun _ _ => 0) default).world.heap.size - Tryz.checked.prog.globals.size) (List.drop Tryz.checked.prog.globals.size ((laidWorld os).forCall (fun _ _ => 0) ⟨#[], arg0, []⟩).heap.toList) = List.drop Tryz.checked.prog.globals.size (begin Tryz.checked.prog (fun _ _ => 0) default).world.heap.toList := by kernel_rfl
set_option maxRecDepth 100000 in
theorem lifted (os : Os) (started : os.Started) (H : Type) (enc : TypeId × Value → H) (F : Stop.Interp) :
    ReturnsInHanded {} Tryz.checked os 9 .any ((OpenSpec.ofChange Rows.keepNoneSpec).preRow enc Tryz.prog Tryz.f9 Rows.keepNoneRow.domain false Rows.keepNoneRow.laid) (((OpenSpec.ofChange Rows.keepNoneSpec).at F).post enc Tryz.prog Tryz.f9 false true false false) := by
  obtain ⟨places, hx⟩ := reads os enc
  refine returnsInHanded_of_row (C := Tryz.checked) (s := OpenSpec.ofChange Rows.keepNoneSpec) own started w_inits Tryz.func9
    (witness_row_at (enc := enc) (C := Tryz.checked) false (laidWorld os) arg0 rfl (w_vars os) (w_heap os) (w_ok os)
      (OpenSpec.preRow_of_cond 8 hx (by kernel_rfl) (fun k hk => by cases hk) (by kernel_rfl) (laid_met os))) ?_
  intro W base args ds gs before hval hW _ _ hreach hL _ _
  exact contract H enc W base args ds gs before hval hW hreach
end Go.Proofs.YtfdanacohcffmaaGreat.keepNone
