/- Parts of the proof. Conditions: none. -/
import Derived.Test.YtfdanacohcffmaaGreatKn18
import Derived.Test.YtfdanacohcffmaaGreatKn21
import Derived.Test.YtfdanacohcffmaaGreatKn22
set_option linter.unusedVariables false
namespace Go.AM
open Go
noncomputable section
def F4 : Prims := fun x => if x = 19 then some (orP (lentP 20 sA72 sR72) (lentP 20 sA78 sR78)) else if x = 18 then some (lentP 20 sA75 sR75) else F3 x
theorem F4_sound : PrimsSound TP F4 := by
  have hs := evalFn_sound mixed F3_sound D0_sound 200
  intro f g hg args h K hK
  unfold F4 at hg
  split at hg
  · rename_i e
    subst e
    cases hg
    rcases orP_eq hK with hK | hK
    · exact lentP_sound hs stage72 args h K hK
    exact lentP_sound hs stage78 args h K hK
  split at hg
  · rename_i e
    subst e
    cases hg
    exact lentP_sound hs stage75 args h K hK
  exact F3_sound f g hg args h K hK
end
end Go.AM
namespace Go.AM
open Go
theorem alive_true : evalFn TP F4 D0 200 12 [] Heap.empty (boolK true) = true := by kernel_rfl
theorem alive_sem {h : Heap} {K : Out → Heap → Bool} (hK : K (.ret (.bool true)) h = true) : Sem TP 12 [] h K :=
  boolP_sound (evalFn_sound mixed F4_sound D0_sound 200) alive_true [] h K hK
end Go.AM
