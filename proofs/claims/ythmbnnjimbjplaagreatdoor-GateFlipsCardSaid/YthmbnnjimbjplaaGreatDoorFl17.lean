/- Parts of a proof, merged out of smaller texts: the abstract machine and what functions do. Conditions: none. -/
import Derived.Test.YthmbnnjimbjplaaGreatDoorFl12
import Derived.Test.YthmbnnjimbjplaaGreatDoorFl13
import Derived.Test.YthmbnnjimbjplaaGreatDoorFl14
import Derived.Test.YthmbnnjimbjplaaGreatDoorFl16
import Derived.Test.YthmbnnjimbjplaaGreatDoorCards
import Derived.Test.YthmbnnjimbjplaaGreatDoorTie
import Derived.WalkKit
import Derived.ProofKit
import Derived.OpenShut
import Derived.Deep.DeepHandedRow
import Derived.Lib.LaidTab
/- The arguments of the laws about circuits, read as data. Conditions: none. -/
namespace Go.AM.GaT
open Go Go.AM Go.Proofs Go.Proofs.YthmbnnjimbjplaaGreatDoor Go.ChangeShapes Go.WideShapes Go.ChangeAt Go.RowKit
set_option linter.unusedVariables false

theorem own : ownKnob Tryz.prog.godebug = none := by kernel_rfl
theorem laidOut : laidOutB Tryz.prog = true := by kernel_rfl
theorem cells63 : Tryz.prog.cellsOf 63 = 4 := by kernel_rfl
theorem cells67 : Tryz.prog.cellsOf 67 = 3 := by kernel_rfl
theorem cells61 : Tryz.prog.cellsOf 61 = 1 := by kernel_rfl
theorem cells31 : Tryz.prog.cellsOf 31 = 2 := by kernel_rfl
theorem cells3 : Tryz.prog.cellsOf 3 = 1 := by kernel_rfl
theorem bytes63 : 0 < Tryz.prog.bytesOf 63 := of_decide_eq_true (by kernel_rfl)
theorem bytes67 : 0 < Tryz.prog.bytesOf 67 := of_decide_eq_true (by kernel_rfl)
theorem bytes61 : 0 < Tryz.prog.bytesOf 61 := of_decide_eq_true (by kernel_rfl)
theorem bytes31 : 0 < Tryz.prog.bytesOf 31 := of_decide_eq_true (by kernel_rfl)
theorem bytes3 : 0 < Tryz.prog.bytesOf 3 := of_decide_eq_true (by kernel_rfl)

section
variable {H : Type} {enc : TypeId × Value → H} {w : World}
theorem rd61 : RD enc Tryz.prog w 61 (fun x : Sl Int => [encSl AM.encI 1 x]) (fun x => x.l.length ≤ big ∧ ∀ a ∈ x.l, True) :=
  rd_slice Tryz.underlying61 cells3 (by omega) bytes3 (rd_int Tryz.underlying3)
theorem rd63 : RD enc Tryz.prog w 63 encGate Gate.ok := by
  intro fuel cs d ps h
  obtain ⟨xs, ⟨ds, rfl, d0, ds0, x0, y0, rfl, rfl, ⟨a0, rfl, h0⟩, d1, ds1, x1, y1, rfl, rfl, ⟨a1, rfl, h1⟩, d2, ds2, x2, y2, rfl, rfl, ⟨a2, rfl, h2⟩, d3, ds3, x3, y3, rfl, rfl, ⟨a3, rfl, h3⟩, rfl, rfl⟩, hv⟩ :=
    rd_struct Tryz.underlying63 (by kernel_rfl) (rds_cons rfl (rd_int Tryz.underlying3) (rds_cons (by kernel_rfl) (rd_string Tryz.underlying9) (rds_cons (by kernel_rfl) rd61 (rds_cons (by kernel_rfl) rd61 (rds_nil _))))) fuel cs d ps h
  refine ⟨_, ⟨⟨a0, a1, a2, a3⟩, rfl, fun hs => ⟨?_, ?_, ?_⟩⟩, hv⟩
  · exact h1 (small_agg Tryz.underlying63 hs (j := 1) rfl rfl)
  · exact (h2 (small_agg Tryz.underlying63 hs (j := 2) rfl rfl)).1
  · exact (h3 (small_agg Tryz.underlying63 hs (j := 3) rfl rfl)).1
theorem rd22 : RD enc Tryz.prog w 22 (fun x : Sl Gate => [encSl encGate 4 x]) (fun x => x.l.length ≤ big ∧ ∀ a ∈ x.l, a.ok) :=
  rd_slice Tryz.underlying22 cells63 (by omega) bytes63 rd63
theorem rd24 : RD enc Tryz.prog w 24 encCirc Circ.ok := by
  intro fuel cs d ps h
  obtain ⟨xs, ⟨ds, rfl, d0, ds0, x0, y0, rfl, rfl, ⟨a0, rfl, h0⟩, d1, ds1, x1, y1, rfl, rfl, ⟨a1, rfl, h1⟩, rfl, rfl⟩, hv⟩ :=
    rd_struct Tryz.underlying24 (by kernel_rfl) (rds_cons rfl (rd_int Tryz.underlying3) (rds_cons (by kernel_rfl) rd22 (rds_nil _))) fuel cs d ps h
  exact ⟨_, ⟨⟨a0, a1⟩, rfl, fun hs => h1 (small_agg Tryz.underlying24 hs (j := 1) rfl rfl)⟩, hv⟩
theorem rd64 : RD enc Tryz.prog w 64 (fun x : Sl (Sl Int) => [encSl encT 1 x]) (fun x => x.l.length ≤ big ∧ ∀ a ∈ x.l, a.l.length ≤ big ∧ ∀ b ∈ a.l, True) :=
  rd_slice Tryz.underlying64 cells61 (by omega) bytes61 rd61
theorem rd67 : RD enc Tryz.prog w 67 encRel AM.Rel.ok := by
  intro fuel cs d ps h
  obtain ⟨xs, ⟨ds, rfl, d0, ds0, x0, y0, rfl, rfl, ⟨a0, rfl, h0⟩, d1, ds1, x1, y1, rfl, rfl, ⟨a1, rfl, h1⟩, d2, ds2, x2, y2, rfl, rfl, ⟨a2, rfl, h2⟩, rfl, rfl⟩, hv⟩ :=
    rd_struct Tryz.underlying67 (by kernel_rfl) (rds_cons rfl (rd_string Tryz.underlying9) (rds_cons (by kernel_rfl) (rd_int Tryz.underlying3) (rds_cons (by kernel_rfl) rd64 (rds_nil _)))) fuel cs d ps h
  refine ⟨_, ⟨⟨a0, a1, a2⟩, rfl, fun hs => ⟨?_, ?_, ?_⟩⟩, hv⟩
  · exact h0 (small_agg Tryz.underlying67 hs (j := 0) rfl rfl)
  · exact (h2 (small_agg Tryz.underlying67 hs (j := 2) rfl rfl)).1
  · exact fun t ht => ((h2 (small_agg Tryz.underlying67 hs (j := 2) rfl rfl)).2 t ht).1
theorem rd29 : RD enc Tryz.prog w 29 (fun x : Sl AM.Rel => [encSl encRel 3 x]) (fun x => x.l.length ≤ big ∧ ∀ a ∈ x.l, a.ok) :=
  rd_slice Tryz.underlying29 cells67 (by omega) bytes67 rd67
theorem rd31 : RD enc Tryz.prog w 31 encStrc Strc.ok := by
  intro fuel cs d ps h
  obtain ⟨xs, ⟨ds, rfl, d0, ds0, x0, y0, rfl, rfl, ⟨a0, rfl, h0⟩, d1, ds1, x1, y1, rfl, rfl, ⟨a1, rfl, h1⟩, rfl, rfl⟩, hv⟩ :=
    rd_struct Tryz.underlying31 (by kernel_rfl) (rds_cons rfl (rd_int Tryz.underlying3) (rds_cons (by kernel_rfl) rd29 (rds_nil _))) fuel cs d ps h
  exact ⟨_, ⟨⟨a0, a1⟩, rfl, fun hs => h1 (small_agg Tryz.underlying31 hs (j := 1) rfl rfl)⟩, hv⟩
end

theorem vr_agg {w0 : World} {μ : Mu} {xs : List AV} {v : Value} {vs : Array Value} (hv : v = .agg vs) (h : VRL w0 μ xs v.cells.toList) : VR w0 μ (.agg xs) v := by
  subst hv
  have := VR.agg (w0 := w0) (μ := μ) xs vs.toList h.len h.rel
  simpa using this
/-- A struct of more than one cell. -/
theorem vr_struct {w0 : World} {μ : Mu} {xs : List AV} {v : Value} (h : VRL w0 μ xs v.cells.toList) (hl : xs.length ≠ 1) : VR w0 μ (.agg xs) v := by
  have : ∃ vs, v = .agg vs := by
    have hl' := h.len
    cases v with
    | agg vs => exact ⟨vs, rfl⟩
    | _ => exfalso; simp [Value.cells] at hl'; omega
  obtain ⟨vs, hvs⟩ := this
  exact vr_agg hvs h
theorem cells_one (v : Value) (hv : ∀ vs, v ≠ .agg vs) : v.cells.toList = [v] := by
  cases v <;> first | rfl | exact absurd rfl (hv _)
theorem vr_one {w0 : World} {μ : Mu} {x : AV} {v : Value} (h : VRL w0 μ [x] v.cells.toList) (hv : ∀ vs, v ≠ .agg vs) : VR w0 μ x v := by
  rw [cells_one v hv] at h
  exact h.rel 0 x v rfl rfl

def litVal : DataW Unit → Value
  | .lit (.int k n) => .int k n
  | _ => undef
def tabVals : DataW Unit → Array Value
  | .agg l => (l.map litVal).toArray
  | _ => #[]
def setTab (w : World) (g : Nat) (d : DataW Unit) : World :=
  { w with heap := w.heap.modify g fun
      | .cells _ t frozen => .cells (tabVals d) t frozen
      | o => o }
/-- A WORLD FOR THE WITNESS: the settled one, the tables holding what their initialisers lay. -/
noncomputable def laidWorld (os : Os) : World :=
  setTab (setTab (setTab (World.holding Tryz.prog os ⟨#[], #[], []⟩) 1 Rows.laid_math_bits_deBruijn32tab) 2 Rows.laid_math_bits_deBruijn64tab) 0 Rows.laid_internal_strconv_uint64pow10
end Go.AM.GaT
/- GateFlips, as a row and as a card: whatever the arguments, the law answers true. Conditions: none. -/
namespace Go.Proofs.YthmbnnjimbjplaaGreatDoor.gateFlips
open Go Go.AM Go.AM.GaT Go.ChangeShapes Go.WideShapes Go.ChangeAt Go.RowKit
set_option linter.unusedVariables false
set_option linter.unusedSimpArgs false

set_option maxRecDepth 100000 in
/-- WHAT THE LAW ANSWERS, FOR EVERY ARGUMENT. -/
theorem contract (H : Type) (enc : TypeId × Value → H) (W : World) (base : Nat) (args : Array Value) (ds gs : List (DataW H)) (before : List MemPlace)
    (hval : ∀ (j : Nat) t v, Tryz.f7.params[j]? = some t → args[j]? = some v → Value.okWide Tryz.prog W .any base t v)
    (hW : DataW.Whole enc Tryz.prog Tryz.f7.params.toList Rows.gateFlipsSpec.vars false W args.toList ds gs before)
    (hreach : (DataW.weightsEach Tryz.prog (Tryz.f7.params.toList ++ (OpenSpec.ofChange Rows.gateFlipsSpec).bare.plain.varTypes Tryz.prog) (ds ++ gs)).all (· ≤ reachBytes) = true) :
    Calls Tryz.prog 7 args W fun e W' => ∃ v, e = .returned v ∧ Rows.gateFlipsSpec.post enc Tryz.prog Tryz.f7 false true false false W args v W' := by
  have hW' := hW
  obtain ⟨p, q, hA0, hV, rfl, hfz, hnd⟩ := hW
  have hA : DataW.TrodAll enc Tryz.prog W 0 (fun _ => true) true Tryz.f7.params.toList args.toList ds p := hA0
  rw [Tryz.params7] at hA hval
  obtain ⟨v0, vs0, d0, ds0, p0, q0, hargs, rfl, rfl, h0, r0⟩ := trodAll_cons hA
  obtain ⟨v1, vs1, d1, ds1, p1, q1, hargs1, rfl, rfl, h1, r1⟩ := trodAll_cons r0
  obtain ⟨rfl, rfl, rfl⟩ := trodAll_nil r1
  subst hargs1
  obtain rfl : args = #[v0, v1] := by apply Array.ext'; simpa using hargs
  obtain ⟨xs0, ⟨a0, rfl, hok0⟩, hv0⟩ := reads_trod rd24 h0
  have ok0 := hok0 (small_all hreach (j := 0) (by rw [Tryz.params7]; rfl) rfl)
  obtain ⟨xs1, ⟨a1, rfl, hok1⟩, hv1⟩ := reads_trod rd31 h1
  have ok1 := hok1 (small_all hreach (j := 1) (by rw [Tryz.params7]; rfl) rfl)
  refine (sem_calls (law_GateFlips ok0 ok1) (vs := #[v0, v1]) (.cons (vr_struct hv0 (by simp [encCirc, encStrc])) (.cons (vr_struct hv1 (by simp [encCirc, encStrc])) .nil))).mono fun e W' ⟨he, hb⟩ => ?_
  subst he
  exact ⟨_, rfl, post_true rfl (fun ds hds => by
    rw [Tryz.params7] at hds
    match ds, hds with
    | [d0, d1], _ => rfl) (by kernel_rfl) Tryz.underlying4 laidOut (fun t ht => by
    rw [Tryz.params7] at ht
    have ht' : t = 24 ∨ t = 31 := by simpa using ht
    rcases ht' with rfl | rfl
    · exact ⟨by kernel_rfl, of_decide_eq_true (by kernel_rfl)⟩
    · exact ⟨by kernel_rfl, of_decide_eq_true (by kernel_rfl)⟩) hW' hb⟩

noncomputable def arg0 : Array Value := #[.agg #[.int .i64 0, .slice none 0 0], .agg #[.int .i64 0, .slice none 0 0]]
theorem laid_met (os : Os) : laidMet Tryz.prog Rows.gateFlipsRow.laid ((laidWorld os).forCall (fun _ _ => 0) ⟨#[], arg0, []⟩).memory :=
  laidMet_of_run' 8 (by kernel_rfl) (by kernel_rfl)
theorem reads (os : Os) {H : Type} (enc : TypeId × Value → H) : ∃ places, DataW.whole enc Tryz.prog ((laidWorld os).forCall (fun _ _ => 0) ⟨#[], arg0, []⟩).memory Tryz.f7.params.toList Rows.gateFlipsSpec.vars false arg0.toList 8 = some ([.agg [.lit (.int .i64 0), .nil], .agg [.lit (.int .i64 0), .nil]], [], places) :=
  ⟨[], by kernel_rfl⟩

theorem w_inits : Tryz.checked.prog.inits.idxOf? 7 = none := by kernel_rfl
theorem w_vars (os : Os) : World.variablesB Tryz.checked.prog ((laidWorld os).forCall (fun _ _ => 0) ⟨#[], arg0, []⟩) = true := by kernel_rfl
theorem w_ok (os : Os) : Input.okWideB Tryz.checked.prog ((laidWorld os).forCall (fun _ _ => 0) ⟨#[], arg0, []⟩) 7 ⟨#[], arg0, []⟩ = true := by kernel_rfl
theorem w_heap (os : Os) : List.take ((begin Tryz.checked.prog (fun _ _ => 0) default).world.heap.size - Tryz.checked.prog.globals.size) (List.drop Tryz.checked.prog.globals.size ((laidWorld os).forCall (fun _ _ => 0) ⟨#[], arg0, []⟩).heap.toList) = List.drop Tryz.checked.prog.globals.size (begin Tryz.checked.prog (fun _ _ => 0) default).world.heap.toList := by kernel_rfl
set_option maxRecDepth 100000 in
theorem lifted (os : Os) (started : os.Started) (H : Type) (enc : TypeId × Value → H) (F : Stop.Interp) :
    ReturnsInHanded {} Tryz.checked os 7 .any ((OpenSpec.ofChange Rows.gateFlipsSpec).preRow enc Tryz.prog Tryz.f7 Rows.gateFlipsRow.domain false Rows.gateFlipsRow.laid) (((OpenSpec.ofChange Rows.gateFlipsSpec).at F).post enc Tryz.prog Tryz.f7 false true false false) := by
  obtain ⟨places, hx⟩ := reads os enc
  refine returnsInHanded_of_row (C := Tryz.checked) (s := OpenSpec.ofChange Rows.gateFlipsSpec) own started w_inits Tryz.func7
    (witness_row_at (enc := enc) (C := Tryz.checked) false (laidWorld os) arg0 rfl (w_vars os) (w_heap os) (w_ok os)
      (OpenSpec.preRow_of_cond 8 hx (by kernel_rfl) (fun k hk => by cases hk) (by kernel_rfl) (laid_met os))) ?_
  intro W base args ds gs before hval hW _ _ hreach hL _ _
  exact contract H enc W base args ds gs before hval hW hreach
end Go.Proofs.YthmbnnjimbjplaaGreatDoor.gateFlips
