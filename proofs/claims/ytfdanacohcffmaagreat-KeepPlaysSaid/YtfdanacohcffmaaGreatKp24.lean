/- Parts of the proof. Conditions: none. -/
import Derived.Test.YtfdanacohcffmaaGreatKp22
import Derived.Test.YtfdanacohcffmaaGreatKp23
set_option linter.unusedVariables false
namespace Go.AM
open List Nat Bool Option
open Go
noncomputable section
def F4:B7:=fun x=>if x=19 then some (nx (eE 20 air ais) (eE 20 ait aiu)) else if x=18 then some (eE 20 aip aiq) else F3 x
theorem W4:kJ TP F4:=by
 have hs:=nw mixed Oz yl 200;intro f g hg args h K hK;unfold F4 at hg;split at hg
 ·rename_i e;subst e;cases hg;rcases cN hK with hK|hK
  ·exact bh hs aax args h K hK
  exact bh hs aay args h K hK
 split at hg
 ·rename_i e;subst e;cases hg;exact bh hs aaw args h K hK
 exact Oz f g hg args h K hK
end
end Go.AM
namespace Go.AM
open List Nat Bool Option
open Go
theorem Rx:cq TP F4 D0 200 12 [] Heap.empty (aci true)=true:=by kernel_rfl
theorem zN{h:Heap}{K:Out->Heap->Bool}(hK:K (.ret bT) h=true):Sem TP 12 [] h K:=
 N8 (nw mixed W4 yl 200) Rx [] h K hK
end Go.AM