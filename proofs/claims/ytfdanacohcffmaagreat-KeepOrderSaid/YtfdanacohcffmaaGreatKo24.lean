/- Parts of the proof. Conditions: none. -/
import Derived.Test.YtfdanacohcffmaaGreatKo19
import Derived.Test.YtfdanacohcffmaaGreatKo22
import Derived.Test.YtfdanacohcffmaaGreatKo23
set_option linter.unusedVariables false
namespace Go.AM
open List Nat Bool Option
open Go
noncomputable section
def F4:xu:=fun x=>if x=19 then some (jZ (dI 20 Z7 Z8) (dI 20 Z9 aaa)) else if x=18 then some (dI 20 Z5 Z6) else F3 x
theorem Pj:iJ TP F4:=by
 have hs:=jY mixed Is sQ 200;intro f g hg args h K hK;unfold F4 at hg;split at hg
 ·rename_i e;subst e;cases hg;rcases cu hK with hK|hK
  ·exact bh hs S2 args h K hK
  exact bh hs S3 args h K hK
 split at hg
 ·rename_i e;subst e;cases hg;exact bh hs S1 args h K hK
 exact Is f g hg args h K hK
end
end Go.AM
namespace Go.AM
open List Nat Bool Option
open Go
theorem Kv:bQ TP F4 D0 200 12 [] Heap.empty (Uj true)=true:=by kernel_rfl
theorem nO{h:Heap}{K:Out->Heap->Bool}(hK:K (.ret (.bool true)) h=true):Sem TP 12 [] h K:=
 HX (jY mixed Pj sQ 200) Kv [] h K hK
end Go.AM