/- Parts of a proof, merged out of smaller texts: the abstract machine and what functions do. Conditions: none. -/
import Derived.Test.YtmkffehchicgaaaGreatSo17
import Derived.Test.YtmkffehchicgaaaGreatSo18
import Derived.Test.YtmkffehchicgaaaGreatSo19
import Derived.Test.YtmkffehchicgaaaGreatSo20
namespace Go.AM
open Go
noncomputable section
def F4:sC:=fun x=>if x=13 then some (cR 20 O4 O5) else if x=22 then some (cR 20 O6 O7) else if x=27 then some (g8 (cR 20 O8 O9) (cR 20 Pa Pb)) else F3 x
theorem HP:gZ Proofs.Tryz.prog F4:=by
 have hs:=iu mixed CX oQ 200
 intro f g hg args h K hK
 unfold F4 at hg
 split at hg
 ·rename_i e
  subst e
  cases hg
  exact aU hs Kw args h K hK
 split at hg
 ·rename_i e
  subst e
  cases hg
  exact aU hs Kx args h K hK
 split at hg
 ·rename_i e
  subst e
  cases hg
  rcases bV hK with hK|hK
  ·exact aU hs Ky args h K hK
  exact aU hs Kz args h K hK
 exact CX f g hg args h K hK
end
end Go.AM
namespace Go.AM
open Go
theorem Ev:bB Proofs.Tryz.prog F4 D0 200 12 [] af.empty (Ll true)=true:=by kernel_rfl
theorem Gh{h:af}{K:Out→af→Bool}(hK:K (.ret (.bool true)) h=true):Sem Proofs.Tryz.prog 12 [] h K:=
 CI (iu mixed HP oQ 200) Ev [] h K hK
end Go.AM