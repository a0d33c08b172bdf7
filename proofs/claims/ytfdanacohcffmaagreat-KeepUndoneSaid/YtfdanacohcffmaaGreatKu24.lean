/- Parts of the proof. Conditions: none. -/
import Derived.Test.YtfdanacohcffmaaGreatKu19
import Derived.Test.YtfdanacohcffmaaGreatKu22
import Derived.Test.YtfdanacohcffmaaGreatKu23
set_option linter.unusedVariables false
namespace Go.AM
open List Nat Bool Option
open Go
noncomputable section
def F4:xu:=fun x=>if x=19 then some (jX (dH 20 aaO aaP) (dH 20 aaQ aaR)) else if x=18 then some (dH 20 aaC aaD) else F3 x
theorem Px:iJ TP F4:=by
 have hs:=jW mixed IA sW 200;intro f g hg args h K hK;unfold F4 at hg;split at hg
 ·rename_i e;subst e;cases hg;rcases cr hK with hK|hK
  ·exact aZ hs Ti args h K hK
  exact aZ hs Tj args h K hK
 split at hg
 ·rename_i e;subst e;cases hg;exact aZ hs Th args h K hK
 exact IA f g hg args h K hK
end
end Go.AM
namespace Go.AM
open List Nat Bool Option
open Go
theorem KC:bP TP F4 D0 200 12 [] Heap.empty (UC true)=true:=by kernel_rfl
theorem qq{h:Heap}{K:Out->Heap->Bool}(hK:K (.ret (.bool true)) h=true):Sem TP 12 [] h K:=
 Ie (jW mixed Px sW 200) KC [] h K hK
end Go.AM