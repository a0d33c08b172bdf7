/- The plain arguments of the laws about keepers, read as data. Conditions: none. -/
import Derived.Test.YtfdanacohcffmaaGreatKn14
import Derived.Test.YtfdanacohcffmaaGreatKn15
import Derived.Test.YtfdanacohcffmaaGreatRows
import Derived.WalkKit
import Derived.ProofKit
import Derived.OpenShut
import Derived.Deep.DeepHandedRow
import Derived.Lib.LaidTab
namespace Go.AM.KeT
open Go Go.AM Go.Proofs Go.Proofs.YtfdanacohcffmaaGreat Go.ChangeShapes Go.WideShapes Go.ChangeAt Go.RowKit
set_option linter.unusedVariables false
theorem own : ownKnob Tryz.prog.godebug = none := by kernel_rfl
theorem laidOut : laidOutB Tryz.prog = true := by kernel_rfl
theorem cells3 : Tryz.prog.cellsOf 3 = 1 := by kernel_rfl
theorem bytes3 : 0 < Tryz.prog.bytesOf 3 := of_decide_eq_true (by kernel_rfl)
section
variable {H : Type} {enc : TypeId × Value → H} {w : World}
theorem rd37 : RD enc Tryz.prog w 37 (fun x : Sl Int => [encSl AM.encI 1 x]) (fun x => x.l.length ≤ big ∧ ∀ a ∈ x.l, True) :=
  rd_slice Tryz.underlying37 cells3 (by omega) bytes3 (rd_int Tryz.underlying3)
theorem rd9 : RD enc Tryz.prog w 9 encS (fun s => s.length ≤ big) := rd_string Tryz.underlying9
theorem rd4 : RD enc Tryz.prog w 4 encB (fun _ => True) := rd_bool Tryz.underlying4
end
theorem cells_one (v : Value) (hv : ∀ vs, v ≠ .agg vs) : v.cells.toList = [v] := by
  cases v <;> first | rfl | exact absurd rfl (hv _)
theorem vr_one {w0 : World} {μ : Mu} {x : AV} {v : Value} (h : VRL w0 μ [x] v.cells.toList) (hv : ∀ vs, v ≠ .agg vs) : VR w0 μ x v := by
  rw [cells_one v hv] at h
  exact h.rel 0 x v rfl rfl
section
variable {P : Program} {w : World} {base : Nat} {ts : Array TypeId} {args : Array Value} (hval : ∀ (j : Nat) (t : TypeId) (v : Value), ts[j]? = some t → args[j]? = some v → Value.okWide P w .any base t v)
include hval
theorem slice_of {j : Nat} {t e : TypeId} {v : Value} (ht : P.underlying t = some (.slice e)) (h1 : ts[j]? = some t) (h2 : args[j]? = some v) : ∃ a len cap, v = .slice a len cap := okWide_slice ht (hval j t v h1 h2)
theorem string_of {j : Nat} {t : TypeId} {v : Value} (ht : P.underlying t = some .string) (h1 : ts[j]? = some t) (h2 : args[j]? = some v) : ∃ s, v = .string s := okWide_string ht (hval j t v h1 h2)
theorem bool_of {j : Nat} {t : TypeId} {v : Value} (ht : P.underlying t = some .bool) (h1 : ts[j]? = some t) (h2 : args[j]? = some v) : ∃ b, v = .bool b := okWide_bool ht (hval j t v h1 h2)
end
noncomputable def laidWorld (os : Os) : World := World.holding Tryz.prog os ⟨#[], #[], []⟩
end Go.AM.KeT
