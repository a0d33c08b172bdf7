/- The arguments of the laws about circuits, read as data. Conditions: none. -/
import Derived.Test.YthmbnnjimbjplaaGreatDoorRu12
import Derived.Test.YthmbnnjimbjplaaGreatDoorRu13
import Derived.Test.YthmbnnjimbjplaaGreatDoorRu14
import Derived.Test.YthmbnnjimbjplaaGreatDoorCards
import Derived.Test.YthmbnnjimbjplaaGreatDoorTie
import Derived.WalkKit
import Derived.ProofKit
import Derived.OpenShut
import Derived.Deep.DeepHandedRow
import Derived.Lib.LaidTab
namespace Go.AM.GaT
open Go Go.AM Go.Proofs Go.Proofs.YthmbnnjimbjplaaGreatDoor Go.ChangeShapes Go.WideShapes Go.ChangeAt Go.RowKit
set_option linter.unusedVariables false

theorem own : ownKnob Tryz.prog.godebug = none := by kernel_rfl
theorem laidOut : laidOutB Tryz.prog = true := by kernel_rfl
theorem cells63 : Tryz.prog.cellsOf 63 = 4 := by kernel_rfl
theorem cells67 : Tryz.prog.cellsOf 67 = 3 := by kernel_rfl
theorem cells61 : Tryz.prog.cellsOf 61 = 1 := by kernel_rfl
theorem cells31 : Tryz.prog.cellsOf 31 = 2 := by kernel_rfl
theorem cells3 : Tryz.prog.cellsOf 3 = 1 := by kernel_rfl
theorem bytes63 : 0 < Tryz.prog.bytesOf 63 := of_decide_eq_true (by kernel_rfl)
theorem bytes67 : 0 < Tryz.prog.bytesOf 67 := of_decide_eq_true (by kernel_rfl)
theorem bytes61 : 0 < Tryz.prog.bytesOf 61 := of_decide_eq_true (by kernel_rfl)
theorem bytes31 : 0 < Tryz.prog.bytesOf 31 := of_decide_eq_true (by kernel_rfl)
theorem bytes3 : 0 < Tryz.prog.bytesOf 3 := of_decide_eq_true (by kernel_rfl)

section
variable {H : Type} {enc : TypeId × Value → H} {w : World}
theorem rd61 : RD enc Tryz.prog w 61 (fun x : Sl Int => [encSl AM.encI 1 x]) (fun x => x.l.length ≤ big ∧ ∀ a ∈ x.l, True) :=
  rd_slice Tryz.underlying61 cells3 (by omega) bytes3 (rd_int Tryz.underlying3)
theorem rd63 : RD enc Tryz.prog w 63 encGate Gate.ok := by
  intro fuel cs d ps h
  obtain ⟨xs, ⟨ds, rfl, d0, ds0, x0, y0, rfl, rfl, ⟨a0, rfl, h0⟩, d1, ds1, x1, y1, rfl, rfl, ⟨a1, rfl, h1⟩, d2, ds2, x2, y2, rfl, rfl, ⟨a2, rfl, h2⟩, d3, ds3, x3, y3, rfl, rfl, ⟨a3, rfl, h3⟩, rfl, rfl⟩, hv⟩ :=
    rd_struct Tryz.underlying63 (by kernel_rfl) (rds_cons rfl (rd_int Tryz.underlying3) (rds_cons (by kernel_rfl) (rd_string Tryz.underlying9) (rds_cons (by kernel_rfl) rd61 (rds_cons (by kernel_rfl) rd61 (rds_nil _))))) fuel cs d ps h
  refine ⟨_, ⟨⟨a0, a1, a2, a3⟩, rfl, fun hs => ⟨?_, ?_, ?_⟩⟩, hv⟩
  · exact h1 (small_agg Tryz.underlying63 hs (j := 1) rfl rfl)
  · exact (h2 (small_agg Tryz.underlying63 hs (j := 2) rfl rfl)).1
  · exact (h3 (small_agg Tryz.underlying63 hs (j := 3) rfl rfl)).1
theorem rd22 : RD enc Tryz.prog w 22 (fun x : Sl Gate => [encSl encGate 4 x]) (fun x => x.l.length ≤ big ∧ ∀ a ∈ x.l, a.ok) :=
  rd_slice Tryz.underlying22 cells63 (by omega) bytes63 rd63
theorem rd24 : RD enc Tryz.prog w 24 encCirc Circ.ok := by
  intro fuel cs d ps h
  obtain ⟨xs, ⟨ds, rfl, d0, ds0, x0, y0, rfl, rfl, ⟨a0, rfl, h0⟩, d1, ds1, x1, y1, rfl, rfl, ⟨a1, rfl, h1⟩, rfl, rfl⟩, hv⟩ :=
    rd_struct Tryz.underlying24 (by kernel_rfl) (rds_cons rfl (rd_int Tryz.underlying3) (rds_cons (by kernel_rfl) rd22 (rds_nil _))) fuel cs d ps h
  exact ⟨_, ⟨⟨a0, a1⟩, rfl, fun hs => h1 (small_agg Tryz.underlying24 hs (j := 1) rfl rfl)⟩, hv⟩
theorem rd64 : RD enc Tryz.prog w 64 (fun x : Sl (Sl Int) => [encSl encT 1 x]) (fun x => x.l.length ≤ big ∧ ∀ a ∈ x.l, a.l.length ≤ big ∧ ∀ b ∈ a.l, True) :=
  rd_slice Tryz.underlying64 cells61 (by omega) bytes61 rd61
theorem rd67 : RD enc Tryz.prog w 67 encRel AM.Rel.ok := by
  intro fuel cs d ps h
  obtain ⟨xs, ⟨ds, rfl, d0, ds0, x0, y0, rfl, rfl, ⟨a0, rfl, h0⟩, d1, ds1, x1, y1, rfl, rfl, ⟨a1, rfl, h1⟩, d2, ds2, x2, y2, rfl, rfl, ⟨a2, rfl, h2⟩, rfl, rfl⟩, hv⟩ :=
    rd_struct Tryz.underlying67 (by kernel_rfl) (rds_cons rfl (rd_string Tryz.underlying9) (rds_cons (by kernel_rfl) (rd_int Tryz.underlying3) (rds_cons (by kernel_rfl) rd64 (rds_nil _)))) fuel cs d ps h
  refine ⟨_, ⟨⟨a0, a1, a2⟩, rfl, fun hs => ⟨?_, ?_, ?_⟩⟩, hv⟩
  · exact h0 (small_agg Tryz.underlying67 hs (j := 0) rfl rfl)
  · exact (h2 (small_agg Tryz.underlying67 hs (j := 2) rfl rfl)).1
  · exact fun t ht => ((h2 (small_agg Tryz.underlying67 hs (j := 2) rfl rfl)).2 t ht).1
theorem rd29 : RD enc Tryz.prog w 29 (fun x : Sl AM.Rel => [encSl encRel 3 x]) (fun x => x.l.length ≤ big ∧ ∀ a ∈ x.l, a.ok) :=
  rd_slice Tryz.underlying29 cells67 (by omega) bytes67 rd67
theorem rd31 : RD enc Tryz.prog w 31 encStrc Strc.ok := by
  intro fuel cs d ps h
  obtain ⟨xs, ⟨ds, rfl, d0, ds0, x0, y0, rfl, rfl, ⟨a0, rfl, h0⟩, d1, ds1, x1, y1, rfl, rfl, ⟨a1, rfl, h1⟩, rfl, rfl⟩, hv⟩ :=
    rd_struct Tryz.underlying31 (by kernel_rfl) (rds_cons rfl (rd_int Tryz.underlying3) (rds_cons (by kernel_rfl) rd29 (rds_nil _))) fuel cs d ps h
  exact ⟨_, ⟨⟨a0, a1⟩, rfl, fun hs => h1 (small_agg Tryz.underlying31 hs (j := 1) rfl rfl)⟩, hv⟩
end

theorem vr_agg {w0 : World} {μ : Mu} {xs : List AV} {v : Value} {vs : Array Value} (hv : v = .agg vs) (h : VRL w0 μ xs v.cells.toList) : VR w0 μ (.agg xs) v := by
  subst hv
  have := VR.agg (w0 := w0) (μ := μ) xs vs.toList h.len h.rel
  simpa using this
/-- A struct of more than one cell. -/
theorem vr_struct {w0 : World} {μ : Mu} {xs : List AV} {v : Value} (h : VRL w0 μ xs v.cells.toList) (hl : xs.length ≠ 1) : VR w0 μ (.agg xs) v := by
  have : ∃ vs, v = .agg vs := by
    have hl' := h.len
    cases v with
    | agg vs => exact ⟨vs, rfl⟩
    | _ => exfalso; simp [Value.cells] at hl'; omega
  obtain ⟨vs, hvs⟩ := this
  exact vr_agg hvs h
theorem cells_one (v : Value) (hv : ∀ vs, v ≠ .agg vs) : v.cells.toList = [v] := by
  cases v <;> first | rfl | exact absurd rfl (hv _)
theorem vr_one {w0 : World} {μ : Mu} {x : AV} {v : Value} (h : VRL w0 μ [x] v.cells.toList) (hv : ∀ vs, v ≠ .agg vs) : VR w0 μ x v := by
  rw [cells_one v hv] at h
  exact h.rel 0 x v rfl rfl

def litVal : DataW Unit → Value
  | .lit (.int k n) => .int k n
  | _ => undef
def tabVals : DataW Unit → Array Value
  | .agg l => (l.map litVal).toArray
  | _ => #[]
def setTab (w : World) (g : Nat) (d : DataW Unit) : World :=
  { w with heap := w.heap.modify g fun
      | .cells _ t frozen => .cells (tabVals d) t frozen
      | o => o }
/-- A WORLD FOR THE WITNESS: the settled one, the tables holding what their initialisers lay. -/
noncomputable def laidWorld (os : Os) : World :=
  setTab (setTab (setTab (World.holding Tryz.prog os ⟨#[], #[], []⟩) 1 Rows.laid_math_bits_deBruijn32tab) 2 Rows.laid_math_bits_deBruijn64tab) 0 Rows.laid_internal_strconv_uint64pow10
end Go.AM.GaT
