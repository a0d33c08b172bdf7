/- Parts of a proof, merged out of smaller texts: the abstract machine and what functions do. Conditions: none. -/
import Derived.Test.YtkenhcicdkmbnaaGreatRl15
import Derived.Test.YtkenhcicdkmbnaaGreatRl16
import Derived.Test.YtkenhcicdkmbnaaGreatRl17
import Derived.Test.YtkenhcicdkmbnaaGreatRl18
/- The closed calls of a level, gathered. Conditions: none. -/
namespace Go.AM
open Go
noncomputable section
def F4 : Prims := fun x => if x = 22 then some (lentP 20 sA72 sR72) else if x = 23 then some (lentP 20 sA76 sR76) else if x = 24 then some (orP (lentP 20 sA81 sR81) (lentP 20 sA82 sR82)) else F3 x
theorem F4_sound : PrimsSound Proofs.Tryz.prog F4 := by
  have hs := evalFn_sound mixed F3_sound D0_sound 200
  intro f g hg args h K hK
  unfold F4 at hg
  split at hg
  · rename_i e
    subst e
    cases hg
    exact lentP_sound hs stage72 args h K hK
  split at hg
  · rename_i e
    subst e
    cases hg
    exact lentP_sound hs stage76 args h K hK
  split at hg
  · rename_i e
    subst e
    cases hg
    rcases orP_eq hK with hK | hK
    · exact lentP_sound hs stage81 args h K hK
    exact lentP_sound hs stage82 args h K hK
  exact F3_sound f g hg args h K hK
end
end Go.AM
/- The chapter's example answers true, called from anywhere. Conditions: none. -/
namespace Go.AM
open Go
theorem alive_true : evalFn Proofs.Tryz.prog F4 D0 200 6 [] Heap.empty (boolK true) = true := by kernel_rfl
theorem alive_sem {h : Heap} {K : Out → Heap → Bool} (hK : K (.ret (.bool true)) h = true) : Sem Proofs.Tryz.prog 6 [] h K :=
  boolP_sound (evalFn_sound mixed F4_sound D0_sound 200) alive_true [] h K hK
end Go.AM
