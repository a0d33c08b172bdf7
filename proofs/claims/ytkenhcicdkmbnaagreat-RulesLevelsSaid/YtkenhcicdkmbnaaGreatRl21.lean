/- The arguments of the laws about rules, read as data. Conditions: none. -/
import Derived.Test.YtkenhcicdkmbnaaGreatRl12
import Derived.Test.YtkenhcicdkmbnaaGreatRl13
import Derived.Test.YtkenhcicdkmbnaaGreatRl20
import Derived.Test.YtkenhcicdkmbnaaGreatRows
import Derived.WalkKit
import Derived.ProofKit
import Derived.OpenShut
import Derived.Deep.DeepHandedRow
import Derived.Lib.LaidTab
namespace Go.AM.KrT
open Go Go.AM Go.Proofs Go.Proofs.YtkenhcicdkmbnaaGreat Go.ChangeShapes Go.WideShapes Go.ChangeAt Go.RowKit
set_option linter.unusedVariables false

theorem own : ownKnob Tryz.prog.godebug = none := by kernel_rfl
theorem laidOut : laidOutB Tryz.prog = true := by kernel_rfl
theorem cells9 : Tryz.prog.cellsOf 9 = 1 := by kernel_rfl
theorem cells61 : Tryz.prog.cellsOf 61 = 4 := by kernel_rfl
theorem cells59 : Tryz.prog.cellsOf 59 = 3 := by kernel_rfl
theorem bytes9 : 0 < Tryz.prog.bytesOf 9 := of_decide_eq_true (by kernel_rfl)
theorem bytes61 : 0 < Tryz.prog.bytesOf 61 := of_decide_eq_true (by kernel_rfl)
theorem bytes59 : 0 < Tryz.prog.bytesOf 59 := of_decide_eq_true (by kernel_rfl)

structure AtomD where
  name : Str
  args : Sl Str
def encAtD (a : AtomD) : List AV := [.str a.name, encSl AM.encS 1 a.args]
def AtomD.ok (a : AtomD) : Prop := a.name.length ≤ big ∧ a.args.l.length ≤ big ∧ ∀ s ∈ a.args.l, s.length ≤ big
section
variable {H : Type} {enc : TypeId × Value → H} {w : World}
theorem rd25 : RD enc Tryz.prog w 25 (fun x : Sl Str => [encSl AM.encS 1 x]) (fun x => x.l.length ≤ big ∧ ∀ a ∈ x.l, a.length ≤ big) :=
  rd_slice Tryz.underlying25 cells9 (by omega) bytes9 (rd_string Tryz.underlying9)
theorem rd56 : RD enc Tryz.prog w 56 encAtD AtomD.ok := by
  intro fuel cs d ps h
  obtain ⟨xs, ⟨ds, rfl, d0, ds0, x0, y0, rfl, rfl, ⟨a0, rfl, h0⟩, d1, ds1, x1, y1, rfl, rfl, ⟨a1, rfl, h1⟩, rfl, rfl⟩, hv⟩ :=
    rd_struct Tryz.underlying56 (by kernel_rfl) (rds_cons rfl (rd_string Tryz.underlying9) (rds_cons (by kernel_rfl) rd25 (rds_nil _))) fuel cs d ps h
  exact ⟨_, ⟨⟨a0, a1⟩, rfl, fun hs => ⟨h0 (small_agg Tryz.underlying56 hs (j := 0) rfl rfl), h1 (small_agg Tryz.underlying56 hs (j := 1) rfl rfl)⟩⟩, hv⟩
theorem rd61 : RD enc Tryz.prog w 61 encCo CondD.ok := by
  intro fuel cs d ps h
  obtain ⟨xs, ⟨ds, rfl, d0, ds0, x0, y0, rfl, rfl, ⟨a0, rfl, h0⟩, d1, ds1, x1, y1, rfl, rfl, ⟨a1, rfl, h1⟩, d2, ds2, x2, y2, rfl, rfl, ⟨a2, rfl, h2⟩, rfl, rfl⟩, hv⟩ :=
    rd_struct Tryz.underlying61 (by kernel_rfl) (rds_cons rfl (rd_int Tryz.underlying3) (rds_cons (by kernel_rfl) (rd_bool Tryz.underlying4) (rds_cons (by kernel_rfl) rd56 (rds_nil _)))) fuel cs d ps h
  exact ⟨_, ⟨⟨a0, a1, a2.name, a2.args⟩, rfl, fun hs => h2 (small_agg Tryz.underlying61 hs (j := 2) rfl rfl)⟩, hv⟩
theorem rd57 : RD enc Tryz.prog w 57 (fun x : Sl CondD => [encSl encCo 4 x]) (fun x => x.l.length ≤ big ∧ ∀ a ∈ x.l, a.ok) :=
  rd_slice Tryz.underlying57 cells61 (by omega) bytes61 rd61
theorem rd59 : RD enc Tryz.prog w 59 encRu RuleD.ok := by
  intro fuel cs d ps h
  obtain ⟨xs, ⟨ds, rfl, d0, ds0, x0, y0, rfl, rfl, ⟨a0, rfl, h0⟩, d1, ds1, x1, y1, rfl, rfl, ⟨a1, rfl, h1⟩, rfl, rfl⟩, hv⟩ :=
    rd_struct Tryz.underlying59 (by kernel_rfl) (rds_cons rfl rd56 (rds_cons (by kernel_rfl) rd57 (rds_nil _))) fuel cs d ps h
  refine ⟨_, ⟨⟨a0.name, a0.args, a1⟩, rfl, fun hs => ?_⟩, hv⟩
  obtain ⟨q1, q2, q3⟩ := h0 (small_agg Tryz.underlying59 hs (j := 0) rfl rfl)
  obtain ⟨q4, q5⟩ := h1 (small_agg Tryz.underlying59 hs (j := 1) rfl rfl)
  exact ⟨q1, q2, q3, q4, q5⟩
theorem rd22 : RD enc Tryz.prog w 22 (fun x : Sl RuleD => [encSl encRu 3 x]) (fun x => x.l.length ≤ big ∧ ∀ a ∈ x.l, a.ok) :=
  rd_slice Tryz.underlying22 cells59 (by omega) bytes59 rd59
end

theorem vr_agg {w0 : World} {μ : Mu} {xs : List AV} {v : Value} {vs : Array Value} (hv : v = .agg vs) (h : VRL w0 μ xs v.cells.toList) : VR w0 μ (.agg xs) v := by
  subst hv
  have := VR.agg (w0 := w0) (μ := μ) xs vs.toList h.len h.rel
  simpa using this
/-- A struct of more than one cell. -/
theorem vr_struct {w0 : World} {μ : Mu} {xs : List AV} {v : Value} (h : VRL w0 μ xs v.cells.toList) (hl : xs.length ≠ 1) : VR w0 μ (.agg xs) v := by
  have : ∃ vs, v = .agg vs := by
    have hl' := h.len
    cases v with
    | agg vs => exact ⟨vs, rfl⟩
    | _ => exfalso; simp [Value.cells] at hl'; omega
  obtain ⟨vs, hvs⟩ := this
  exact vr_agg hvs h
theorem cells_one (v : Value) (hv : ∀ vs, v ≠ .agg vs) : v.cells.toList = [v] := by
  cases v <;> first | rfl | exact absurd rfl (hv _)
theorem vr_one {w0 : World} {μ : Mu} {x : AV} {v : Value} (h : VRL w0 μ [x] v.cells.toList) (hv : ∀ vs, v ≠ .agg vs) : VR w0 μ x v := by
  rw [cells_one v hv] at h
  exact h.rel 0 x v rfl rfl

theorem slice_of {P : Program} {w : World} {base : Nat} {ts : Array TypeId} {args : Array Value} (hval : ∀ (j : Nat) (t : TypeId) (v : Value), ts[j]? = some t → args[j]? = some v → Value.okWide P w .any base t v) {j : Nat} {t e : TypeId} {v : Value} (ht : P.underlying t = some (.slice e)) (h1 : ts[j]? = some t) (h2 : args[j]? = some v) : ∃ a len cap, v = .slice a len cap := okWide_slice ht (hval j t v h1 h2)
/-- A WORLD FOR THE WITNESS: the settled one. -/
noncomputable def laidWorld (os : Os) : World := World.holding Tryz.prog os ⟨#[], #[], []⟩
end Go.AM.KrT
