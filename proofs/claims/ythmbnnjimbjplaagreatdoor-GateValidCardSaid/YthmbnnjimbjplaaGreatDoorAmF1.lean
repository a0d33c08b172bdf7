/- The closed calls of a level, gathered. Conditions: none. -/
import Derived.Test.YthmbnnjimbjplaaGreatDoorAmS0
import Derived.Test.YthmbnnjimbjplaaGreatDoorAmS1
import Derived.Test.YthmbnnjimbjplaaGreatDoorAmS2
import Derived.Test.YthmbnnjimbjplaaGreatDoorAmS3
namespace Go.AM
open Go
noncomputable section
def F1 : Prims := fun x => if x = 24 then some (lentP 20 sA0 sR0) else if x = 18 then some (lentP 20 sA1 sR1) else if x = 38 then some (lentP 20 sA2 sR2) else if x = 16 then some (pureP sA3 sR3) else F0 x
theorem F1_sound : PrimsSound Proofs.Tryz.prog F1 := by
  have hs := evalFn_sound mixed F0_sound D0_sound 200
  intro f g hg args h K hK
  unfold F1 at hg
  split at hg
  · rename_i e
    subst e
    cases hg
    exact lentP_sound hs stage0 args h K hK
  split at hg
  · rename_i e
    subst e
    cases hg
    exact lentP_sound hs stage1 args h K hK
  split at hg
  · rename_i e
    subst e
    cases hg
    exact lentP_sound hs stage2 args h K hK
  split at hg
  · rename_i e
    subst e
    cases hg
    exact pureP_sound hs (by kernel_rfl) stage3 args h K hK
  exact F0_sound f g hg args h K hK
end
end Go.AM
