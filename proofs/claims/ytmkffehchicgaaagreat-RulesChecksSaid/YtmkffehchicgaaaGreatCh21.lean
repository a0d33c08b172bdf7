/- Parts of a proof, merged out of smaller texts: the abstract machine and what functions do. Conditions: none. -/
import Derived.Test.YtmkffehchicgaaaGreatCh17
import Derived.Test.YtmkffehchicgaaaGreatCh18
import Derived.Test.YtmkffehchicgaaaGreatCh19
import Derived.Test.YtmkffehchicgaaaGreatCh20
namespace Go.AM
open Go
noncomputable section
def F4:xm:=fun x=>if x=13 then some (dI 20 R6 R7) else if x=22 then some (dI 20 R8 R9) else if x=27 then some (iZ (dI 20 Sa Sb) (dI 20 Sc Sd)) else F3 x
theorem Kz:k8 Proofs.Tryz.prog F4:=by
 have hs:=jj mixed Fl qQ 200
 intro f g hg args h K hK
 unfold F4 at hg
 split at hg
 ·rename_i e
  subst e
  cases hg
  exact bg hs Nq args h K hK
 split at hg
 ·rename_i e
  subst e
  cases hg
  exact bg hs Nr args h K hK
 split at hg
 ·rename_i e
  subst e
  cases hg
  rcases b7 hK with hK|hK
  ·exact bg hs Ns args h K hK
  exact bg hs Nt args h K hK
 exact Fl f g hg args h K hK
end
end Go.AM
namespace Go.AM
open Go
theorem G2:bN Proofs.Tryz.prog F4 D0 200 12 [] ag.empty (Oe true)=true:=by kernel_rfl
theorem I0{h:ag}{K:Out→ag→Bool}(hK:K (.ret (.bool true)) h=true):Sem Proofs.Tryz.prog 12 [] h K:=
 EY (jj mixed Kz qQ 200) G2 [] h K hK
end Go.AM