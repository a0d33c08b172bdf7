/- Parts of the proof. Conditions: none. -/
import Derived.Test.YtmkffehchicgaaaGreatPf17
import Derived.Test.YtmkffehchicgaaaGreatPf18
import Derived.Test.YtmkffehchicgaaaGreatPf19
import Derived.Test.YtmkffehchicgaaaGreatPf20
namespace Go.AM
open List Nat Bool Option
open Go
noncomputable section
def F4:CT:=fun x=>if x=13 then some (eA 20 afF afG) else if x=22 then some (eA 20 afH afI) else if x=27 then some (lP (eA 20 afJ afK) (eA 20 afL afM)) else F3 x
theorem Ux:oU TP F4:=by
 have hs:=me mixed Mz wO 200;intro f g hg args h K hK;unfold F4 at hg;split at hg
 ·rename_i e;subst e;cases hg;exact bz hs Yh args h K hK
 split at hg
 ·rename_i e;subst e;cases hg;exact bz hs Yi args h K hK
 split at hg
 ·rename_i e;subst e;cases hg;rcases cC hK with hK|hK
  ·exact bz hs Yj args h K hK
  exact bz hs Yk args h K hK
 exact Mz f g hg args h K hK
end
end Go.AM
namespace Go.AM
open List Nat Bool Option
open Go
theorem OS:b8 TP F4 D0 200 12 [] ag.empty (ZB true)=true:=by kernel_rfl
theorem R2{h:ag}{K:Out->ag->Bool}(hK:K (.ret (.bool true)) h=true):Sem TP 12 [] h K:=
 Mg (me mixed Ux wO 200) OS [] h K hK
end Go.AM