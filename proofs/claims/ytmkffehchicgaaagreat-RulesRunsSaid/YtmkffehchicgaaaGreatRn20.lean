/- Parts of a proof, merged out of smaller texts: the abstract machine and what functions do. Conditions: none. -/
import Derived.Test.YtmkffehchicgaaaGreatRn16
import Derived.Test.YtmkffehchicgaaaGreatRn17
import Derived.Test.YtmkffehchicgaaaGreatRn18
import Derived.Test.YtmkffehchicgaaaGreatRn19
namespace Go.AM
open Go
noncomputable section
def F4:tL:=fun x=>if x=13 then some (dI 20 QG QH) else if x=22 then some (dI 20 QI QJ) else if x=27 then some (iQ (dI 20 QK QL) (dI 20 QM QN)) else F3 x
theorem Jw:iP Proofs.Tryz.prog F4:=by
 have hs:=iX mixed Em qc 200
 intro f g hg args h K hK
 unfold F4 at hg
 split at hg
 ·rename_i e
  subst e
  cases hg
  exact bh hs Mg args h K hK
 split at hg
 ·rename_i e
  subst e
  cases hg
  exact bh hs Mh args h K hK
 split at hg
 ·rename_i e
  subst e
  cases hg
  rcases cj hK with hK|hK
  ·exact bh hs Mi args h K hK
  exact bh hs Mj args h K hK
 exact Em f g hg args h K hK
end
end Go.AM
namespace Go.AM
open Go
theorem FU:bQ Proofs.Tryz.prog F4 D0 200 12 [] ag.empty (MX true)=true:=by kernel_rfl
theorem vM{h:ag}{K:Out→ag→Bool}(hK:K (.ret (.bool true)) h=true):Sem Proofs.Tryz.prog 12 [] h K:=
 D3 (iX mixed Jw qc 200) FU [] h K hK
end Go.AM