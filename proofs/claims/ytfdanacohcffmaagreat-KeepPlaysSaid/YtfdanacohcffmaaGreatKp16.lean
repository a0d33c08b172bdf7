/- The plain arguments of the laws about keepers, read as data. Conditions: none. -/
import Derived.Test.YtfdanacohcffmaaGreatKp15
import Derived.Test.YtfdanacohcffmaaGreatRows
import Derived.Deep.DeepHandedRow
import Derived.Lib.LaidTab
set_option linter.unusedVariables false
namespace Go.AM.KeT
open Go Go.AM Go.Proofs Go.Proofs.YtfdanacohcffmaaGreat Go.ChangeShapes Go.WideShapes Go.ChangeAt Go.RowKit
theorem own:ownKnob Tryz.prog.godebug=none:=by kernel_rfl
theorem laidOut:laidOutB Tryz.prog=true:=by kernel_rfl
theorem adM:Tryz.prog.cellsOf 3=1:=by kernel_rfl
theorem adN:0<Tryz.prog.bytesOf 3:=of_decide_eq_true (by kernel_rfl)
section
variable {H:Type} {enc:TypeId×Value->H} {w:World}
theorem agc:RD enc Tryz.prog w 37 (fun x:Sl Int=>[dR AM.encI 1 x]) (fun x=>x.l.length<=cw/\∀ a ∈ x.l,True):=
 tC Tryz.underlying37 adM (by omega) adN (Hp Tryz.underlying3)
theorem rd9:RD enc Tryz.prog w 9 encS (fun s=>s.length<=cw):=zL Tryz.underlying9
theorem rd4:RD enc Tryz.prog w 4 Hh (fun _=>True):=Tj Tryz.underlying4
end
theorem adO{w0:World}{μ:Mu}{xs:List AV}{v:Value}{vs:Array Value}(hv:v = .agg vs)(h:fA w0 μ xs v.cells.toList):VR w0 μ (.agg xs) v:=by
 subst hv;have:=VR.agg (w0:=w0) (μ:=μ) xs vs.toList h.len h.rel;simpa using this
theorem UC{w0:World}{μ:Mu}{xs:List AV}{v:Value}(h:fA w0 μ xs v.cells.toList)(hl:xs.length≠1):VR w0 μ (.agg xs) v:=by
 have:∃ vs,v = .agg vs:=by
  have G0:=h.len
  cases v with
  |agg vs=>exact ⟨vs,rfl⟩
  |_=>exfalso;simp [Value.cells] at G0;omega
 obtain ⟨vs,Gv⟩:=this;exact adO Gv h
theorem UD(v:Value)(hv:∀ vs,v≠.agg vs):v.cells.toList = [v]:=by
 cases v<;>first|rfl|exact absurd rfl (hv _)
theorem WQ{w0:World}{μ:Mu}{x:AV}{v:Value}(h:fA w0 μ [x] v.cells.toList)(hv:∀ vs,v≠.agg vs):VR w0 μ x v:=by
 rw [UD v hv] at h;exact h.rel 0 x v rfl rfl
section
variable {P:Program} {w:World} {base:Nat} {ts:Array TypeId} {args:Array Value} (xd:∀ (j:Nat) (t:TypeId) (v:Value),ts[j]?=some t->args[j]?=some v->Value.okWide P w .any base t v) include xd
theorem Om{j:Nat}{t e:TypeId}{v:Value}(ht:P.underlying t=some (.slice e))(h1:ts[j]?=some t)(h2:args[j]?=some v):∃ a len cap,v = .slice a len cap:=okWide_slice ht (xd j t v h1 h2)
end
noncomputable def sI(os:Os):World:=World.holding Tryz.prog os ⟨#[],#[],[]⟩
end Go.AM.KeT