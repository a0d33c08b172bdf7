/- The plain arguments of the laws about keepers, read as data. Conditions: none. -/
import Derived.Test.YtfdanacohcffmaaGreatKu14
import Derived.Test.YtfdanacohcffmaaGreatKu15
import Derived.Test.YtfdanacohcffmaaGreatRows
import Derived.WalkKit
import Derived.ProofKit
import Derived.OpenShut
import Derived.Deep.DeepHandedRow
import Derived.Lib.LaidTab
set_option linter.unusedVariables false
namespace Go.AM.Yp
open Go Go.AM Go.Proofs Go.Proofs.YtfdanacohcffmaaGreat Go.ChangeShapes Go.WideShapes Go.ChangeAt Go.RowKit
theorem own:ownKnob Tryz.prog.godebug=none:=by kernel_rfl
theorem laidOut:laidOutB Tryz.prog=true:=by kernel_rfl
theorem VX:Tryz.prog.cellsOf 3=1:=by kernel_rfl
theorem VY:0<Tryz.prog.bytesOf 3:=of_decide_eq_true (by kernel_rfl)
section
variable {H:Type} {enc:TypeId×Value->H} {w:World}
theorem Yq:RD enc Tryz.prog w 37 (fun x:Sl Int=>[ak AM.encI 1 x]) (fun x=>x.l.length<=cM/\∀ a ∈ x.l,True):=
 oE Tryz.underlying37 VX (by omega) VY (Cr Tryz.underlying3)
theorem rd9:RD enc Tryz.prog w 9 encS (fun s=>s.length<=cM):=uF Tryz.underlying9
theorem rd4:RD enc Tryz.prog w 4 Yg (fun _=>True):=Me Tryz.underlying4
end
theorem VZ{w0:World}{μ:Mu}{xs:List AV}{v:Value}{vs:Array Value}(hv:v = .agg vs)(h:dY w0 μ xs v.cells.toList):VR w0 μ (.agg xs) v:=by
 subst hv;have:=VR.agg (w0:=w0) (μ:=μ) xs vs.toList h.len h.rel;simpa using this
theorem Nl{w0:World}{μ:Mu}{xs:List AV}{v:Value}(h:dY w0 μ xs v.cells.toList)(hl:xs.length≠1):VR w0 μ (.agg xs) v:=by
 have:∃ vs,v = .agg vs:=by
  have Ca:=h.len
  cases v with
  |agg vs=>exact ⟨vs,rfl⟩
  |_=>exfalso;simp [Value.cells] at Ca;omega
 obtain ⟨vs,Nn⟩:=this;exact VZ Nn h
theorem No(v:Value)(hv:∀ vs,v≠.agg vs):v.cells.toList = [v]:=by
 cases v<;>first|rfl|exact absurd rfl (hv _)
theorem Pn{w0:World}{μ:Mu}{x:AV}{v:Value}(h:dY w0 μ [x] v.cells.toList)(hv:∀ vs,v≠.agg vs):VR w0 μ x v:=by
 rw [No v hv] at h;exact h.rel 0 x v rfl rfl
section
variable {P:Program} {w:World} {base:Nat} {ts:Array TypeId} {args:Array Value} (Ej:∀ (j:Nat) (t:TypeId) (v:Value),ts[j]?=some t->args[j]?=some v->Value.okWide P w .any base t v) include Ej
theorem It{j:Nat}{t e:TypeId}{v:Value}(ht:P.underlying t=some (.slice e))(h1:ts[j]?=some t)(h2:args[j]?=some v):∃ a len cap,v = .slice a len cap:=okWide_slice ht (Ej j t v h1 h2)
end
noncomputable def nO(os:Os):World:=World.holding Tryz.prog os ⟨#[],#[],[]⟩
end Go.AM.Yp