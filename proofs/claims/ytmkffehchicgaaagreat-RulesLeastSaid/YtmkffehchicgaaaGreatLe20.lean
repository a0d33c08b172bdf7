/- Parts of a proof, merged out of smaller texts: the abstract machine and what functions do. Conditions: none. -/
import Derived.Test.YtmkffehchicgaaaGreatLe16
import Derived.Test.YtmkffehchicgaaaGreatLe17
import Derived.Test.YtmkffehchicgaaaGreatLe18
import Derived.Test.YtmkffehchicgaaaGreatLe19
namespace Go.AM
open Go
noncomputable section
def F4:tJ:=fun x=>if x=13 then some (dM 20 Qi Qj) else if x=22 then some (dM 20 Qk Ql) else if x=27 then some (iO (dM 20 Qm Qn) (dM 20 Qo Qp)) else F3 x
theorem Jf:iN Proofs.Tryz.prog F4:=by
 have hs:=iZ mixed D5 pW 200
 intro f g hg args h K hK
 unfold F4 at hg
 split at hg
 ·rename_i e
  subst e
  cases hg
  exact bh hs LS args h K hK
 split at hg
 ·rename_i e
  subst e
  cases hg
  exact bh hs LU args h K hK
 split at hg
 ·rename_i e
  subst e
  cases hg
  rcases cj hK with hK|hK
  ·exact bh hs LV args h K hK
  exact bh hs LW args h K hK
 exact D5 f g hg args h K hK
end
end Go.AM
namespace Go.AM
open Go
theorem FE:bM Proofs.Tryz.prog F4 D0 200 12 [] ag.empty (ME true)=true:=by kernel_rfl
theorem vF{h:ag}{K:Out→ag→Bool}(hK:K (.ret (.bool true)) h=true):Sem Proofs.Tryz.prog 12 [] h K:=
 DL (iZ mixed Jf pW 200) FE [] h K hK
end Go.AM