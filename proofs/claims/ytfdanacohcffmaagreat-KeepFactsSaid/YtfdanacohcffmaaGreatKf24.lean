/- Parts of the proof. Conditions: none. -/
import Derived.Test.YtfdanacohcffmaaGreatKf19
import Derived.Test.YtfdanacohcffmaaGreatKf22
import Derived.Test.YtfdanacohcffmaaGreatKf23
set_option linter.unusedVariables false
namespace Go.AM
open List Nat Bool Option
open Go
noncomputable section
def F4:xO:=fun x=>if x=19 then some (j8 (dF 20 aa8 aa9) (dF 20 aba abb)) else if x=18 then some (dF 20 aa5 aa6) else F3 x
theorem P0:iM TP F4:=by
 have hs:=j6 mixed I0 tu 200;intro f g hg args h K hK;unfold F4 at hg;split at hg
 ·rename_i e;subst e;cases hg;rcases cu hK with hK|hK
  ·exact aZ hs TG args h K hK
  exact aZ hs TH args h K hK
 split at hg
 ·rename_i e;subst e;cases hg;exact aZ hs TF args h K hK
 exact I0 f g hg args h K hK
end
end Go.AM
namespace Go.AM
open List Nat Bool Option
open Go
theorem K4:bP TP F4 D0 200 12 [] Heap.empty (U4 true)=true:=by kernel_rfl
theorem uU{h:Heap}{K:Out->Heap->Bool}(hK:K (.ret (.bool true)) h=true):Sem TP 12 [] h K:=
 ID (j6 mixed P0 tu 200) K4 [] h K hK
end Go.AM