/- Parts of the proof. Conditions: none. -/
import Derived.Test.YtfdanacohcffmaaGreatKd19
import Derived.Test.YtfdanacohcffmaaGreatKd22
import Derived.Test.YtfdanacohcffmaaGreatKd23
set_option linter.unusedVariables false
namespace Go.AM
open List Nat Bool Option
open Go
noncomputable section
def F4:yy:=fun x=>if x=19 then some (kf (dP 20 abY abZ) (dP 20 ab0 ab1)) else if x=18 then some (dP 20 abW abX) else F3 x
theorem QW:iR TP F4:=by
 have hs:=ke mixed JD uq 200;intro f g hg args h K hK;unfold F4 at hg;split at hg
 ·rename_i e;subst e;cases hg;rcases cy hK with hK|hK
  ·exact bh hs UH args h K hK
  exact bh hs UI args h K hK
 split at hg
 ·rename_i e;subst e;cases hg;exact bh hs UG args h K hK
 exact JD f g hg args h K hK
end
end Go.AM
namespace Go.AM
open List Nat Bool Option
open Go
theorem LR:bU TP F4 D0 200 12 [] Heap.empty (Wa true)=true:=by kernel_rfl
theorem vJ{h:Heap}{K:Out->Heap->Bool}(hK:K (.ret (.bool true)) h=true):Sem TP 12 [] h K:=
 Jj (ke mixed QW uq 200) LR [] h K hK
end Go.AM