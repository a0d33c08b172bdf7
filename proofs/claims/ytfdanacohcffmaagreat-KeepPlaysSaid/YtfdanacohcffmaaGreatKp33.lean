/- KeepPlays, as a row (the last steps): whatever the arguments, the law answers true. Conditions: none. -/
import Derived.Test.YtfdanacohcffmaaGreatKp32
set_option linter.unusedSimpArgs false
set_option linter.unusedVariables false
namespace Go.Proofs.YtfdanacohcffmaaGreat.keepPlays
open Go Go.AM Go.AM.KeT Go.ChangeShapes Go.WideShapes Go.ChangeAt Go.RowKit
theorem said:Rows.KeepPlaysSaid:=
 OpenClaim.holds_of_cond 8 Tryz.f8 rfl rfl rfl rfl rfl rfl rfl ⟨rfl,rfl,rfl,rfl,rfl⟩ rfl rfl rfl rfl rfl (by kernel_rfl) Tryz.func8 (by kernel_rfl)
  (of_decide_eq_true (by kernel_rfl)) (by unfold Func.isWrapper;first|(rw [if_pos (by decide +kernel)];kernel_rfl)|(rw [if_neg (by decide +kernel)];exact ⟨rfl,rfl⟩))
  (fun os started H enc _ F=>by rw [OpenClaim.pre_eq_preRow];exact lifted os started H enc F)
end Go.Proofs.YtfdanacohcffmaaGreat.keepPlays