/- The arguments of the laws about rules, read as data. Conditions: none. -/
import Derived.Test.YtmkffehchicgaaaGreatRn12
import Derived.Test.YtmkffehchicgaaaGreatRn13
import Derived.Test.YtmkffehchicgaaaGreatRn22
import Derived.Test.YtmkffehchicgaaaGreatRows
import Derived.WalkKit
import Derived.ProofKit
import Derived.OpenShut
import Derived.Deep.DeepHandedRow
import Derived.Lib.LaidTab
set_option linter.unusedVariables false
namespace Go.AM.RuT
open Go Go.AM Go.Proofs Go.Proofs.YtmkffehchicgaaaGreat Go.ChangeShapes Go.WideShapes Go.ChangeAt Go.RowKit
theorem own:ownKnob Tryz.prog.godebug=none:=by kernel_rfl
theorem laidOut:laidOutB Tryz.prog=true:=by kernel_rfl
theorem NO:Tryz.prog.cellsOf 9=1:=by kernel_rfl
theorem Ki:Tryz.prog.cellsOf 143=4:=by kernel_rfl
theorem MM:Tryz.prog.cellsOf 86=3:=by kernel_rfl
theorem NP:0<Tryz.prog.bytesOf 9:=of_decide_eq_true (by kernel_rfl)
theorem Kj:0<Tryz.prog.bytesOf 143:=of_decide_eq_true (by kernel_rfl)
theorem MN:0<Tryz.prog.bytesOf 86:=of_decide_eq_true (by kernel_rfl)
theorem MO:Tryz.prog.cellsOf 39=3:=by kernel_rfl
theorem MP:Tryz.prog.cellsOf 41=1:=by kernel_rfl
theorem NQ:Tryz.prog.cellsOf 3=1:=by kernel_rfl
theorem MQ:0<Tryz.prog.bytesOf 39:=of_decide_eq_true (by kernel_rfl)
theorem MR:0<Tryz.prog.bytesOf 41:=of_decide_eq_true (by kernel_rfl)
theorem NR:0<Tryz.prog.bytesOf 3:=of_decide_eq_true (by kernel_rfl)
structure Hr where
 name:bG
 args:Sl bG
def NS(a:Hr):List AV:=[.str a.name,aq AM.encS 1 a.args]
def Hr.ok(a:Hr):Prop:=a.name.length≤cy∧a.args.l.length≤cy∧∀ s ∈ a.args.l,s.length≤cy
section
variable {H:Type} {enc:TypeId×Value→H} {w:World}
theorem Rl:RD enc Tryz.prog w 60 (fun x:Sl bG=>[aq AM.encS 1 x]) (fun x=>x.l.length≤cy∧∀ a ∈ x.l,a.length≤cy):=
 nK Tryz.underlying60 NO (by omega) NP (vm Tryz.underlying9)
theorem Q0:RD enc Tryz.prog w 83 NS Hr.ok:=by
 intro fuel cs d ps h
 obtain ⟨xs,⟨ds,rfl,d0,ds0,x0,y0,rfl,rfl,⟨a0,rfl,h0⟩,d1,ds1,x1,y1,rfl,rfl,⟨a1,rfl,h1⟩,rfl,rfl⟩,hv⟩:=
  nL Tryz.underlying83 (by kernel_rfl) (ig rfl (vm Tryz.underlying9) (ig (by kernel_rfl) Rl (uf _))) fuel cs d ps h
 exact ⟨_,⟨⟨a0,a1⟩,rfl,fun hs=>⟨h0 (jc Tryz.underlying83 hs (j:=0) rfl rfl),h1 (jc Tryz.underlying83 hs (j:=1) rfl rfl)⟩⟩,hv⟩
theorem Q1:RD enc Tryz.prog w 143 bY eX.ok:=by
 intro fuel cs d ps h
 obtain ⟨xs,⟨ds,rfl,d0,ds0,x0,y0,rfl,rfl,⟨a0,rfl,h0⟩,d1,ds1,x1,y1,rfl,rfl,⟨a1,rfl,h1⟩,d2,ds2,x2,y2,rfl,rfl,⟨a2,rfl,h2⟩,rfl,rfl⟩,hv⟩:=
  nL Tryz.underlying143 (by kernel_rfl) (ig rfl (CY Tryz.underlying3) (ig (by kernel_rfl) (KN Tryz.underlying4) (ig (by kernel_rfl) Q0 (uf _)))) fuel cs d ps h
 exact ⟨_,⟨⟨a0,a1,a2.name,a2.args⟩,rfl,fun hs=>h2 (jc Tryz.underlying143 hs (j:=2) rfl rfl)⟩,hv⟩
theorem Rm:RD enc Tryz.prog w 84 (fun x:Sl eX=>[aq bY 4 x]) (fun x=>x.l.length≤cy∧∀ a ∈ x.l,a.ok):=
 nK Tryz.underlying84 Ki (by omega) Kj Q1
theorem Rn:RD enc Tryz.prog w 86 aM aE.ok:=by
 intro fuel cs d ps h
 obtain ⟨xs,⟨ds,rfl,d0,ds0,x0,y0,rfl,rfl,⟨a0,rfl,h0⟩,d1,ds1,x1,y1,rfl,rfl,⟨a1,rfl,h1⟩,rfl,rfl⟩,hv⟩:=
  nL Tryz.underlying86 (by kernel_rfl) (ig rfl Q0 (ig (by kernel_rfl) Rm (uf _))) fuel cs d ps h
 refine ⟨_,⟨⟨a0.name,a0.args,a1⟩,rfl,fun hs=>?_⟩,hv⟩
 obtain ⟨q1,q2,q3⟩:=h0 (jc Tryz.underlying86 hs (j:=0) rfl rfl)
 obtain ⟨q4,q5⟩:=h1 (jc Tryz.underlying86 hs (j:=1) rfl rfl)
 exact ⟨q1,q2,q3,q4,q5⟩
theorem Ro:RD enc Tryz.prog w 22 (fun x:Sl aE=>[aq aM 3 x]) (fun x=>x.l.length≤cy∧∀ a ∈ x.l,a.ok):=
 nK Tryz.underlying22 MM (by omega) MN Rn
theorem Rp:RD enc Tryz.prog w 41 (fun x:Sl Int=>[aq AM.encI 1 x]) (fun x=>x.l.length≤cy∧∀ a ∈ x.l,True):=
 nK Tryz.underlying41 NQ (by omega) NR (CY Tryz.underlying3)
theorem Rq:RD enc Tryz.prog w 36 (fun x:Sl (Sl Int)=>[aq eN 1 x]) (fun x=>x.l.length≤cy∧∀ a ∈ x.l,a.l.length≤cy∧∀ b ∈ a.l,True):=
 nK Tryz.underlying36 MP (by omega) MR Rp
theorem Rr:RD enc Tryz.prog w 39 aQ AM.Rel.ok:=by
 intro fuel cs d ps h
 obtain ⟨xs,⟨ds,rfl,d0,ds0,x0,y0,rfl,rfl,⟨a0,rfl,h0⟩,d1,ds1,x1,y1,rfl,rfl,⟨a1,rfl,h1⟩,d2,ds2,x2,y2,rfl,rfl,⟨a2,rfl,h2⟩,rfl,rfl⟩,hv⟩:=
  nL Tryz.underlying39 (by kernel_rfl) (ig rfl (vm Tryz.underlying9) (ig (by kernel_rfl) (CY Tryz.underlying3) (ig (by kernel_rfl) Rq (uf _)))) fuel cs d ps h
 refine ⟨_,⟨⟨a0,a1,a2⟩,rfl,fun hs=>⟨?_,?_,?_⟩⟩,hv⟩
 ·exact h0 (jc Tryz.underlying39 hs (j:=0) rfl rfl)
 ·exact (h2 (jc Tryz.underlying39 hs (j:=2) rfl rfl)).1
 ·exact fun t ht=>((h2 (jc Tryz.underlying39 hs (j:=2) rfl rfl)).2 t ht).1
theorem Rs:RD enc Tryz.prog w 23 (fun x:Sl AM.Rel=>[aq aQ 3 x]) (fun x=>x.l.length≤cy∧∀ a ∈ x.l,a.ok):=
 nK Tryz.underlying23 MO (by omega) MQ Rr
theorem Rt:RD enc Tryz.prog w 25 az ej.ok:=by
 intro fuel cs d ps h
 obtain ⟨xs,⟨ds,rfl,d0,ds0,x0,y0,rfl,rfl,⟨a0,rfl,h0⟩,d1,ds1,x1,y1,rfl,rfl,⟨a1,rfl,h1⟩,rfl,rfl⟩,hv⟩:=
  nL Tryz.underlying25 (by kernel_rfl) (ig rfl (CY Tryz.underlying3) (ig (by kernel_rfl) Rs (uf _))) fuel cs d ps h
 exact ⟨_,⟨⟨a0,a1⟩,rfl,fun hs=>h1 (jc Tryz.underlying25 hs (j:=1) rfl rfl)⟩,hv⟩
end
theorem NT{w0:World}{μ:Mu}{xs:List AV}{v:Value}{vs:Array Value}(hv:v = .agg vs)(h:eD w0 μ xs v.cells.toList):VR w0 μ (.agg xs) v:=by
 subst hv
 have:=VR.agg (w0:=w0) (μ:=μ) xs vs.toList h.len h.rel
 simpa using this
theorem IK{w0:World}{μ:Mu}{xs:List AV}{v:Value}(h:eD w0 μ xs v.cells.toList)(hl:xs.length≠1):VR w0 μ (.agg xs) v:=by
 have:∃ vs,v = .agg vs:=by
  have hl':=h.len
  cases v with
  |agg vs=>exact ⟨vs,rfl⟩
  |_=>exfalso;simp [Value.cells] at hl';omega
 obtain ⟨vs,hvs⟩:=this
 exact NT hvs h
theorem IL(v:Value)(hv:∀ vs,v≠.agg vs):v.cells.toList = [v]:=by
 cases v<;>first|rfl|exact absurd rfl (hv _)
theorem NU{w0:World}{μ:Mu}{x:AV}{v:Value}(h:eD w0 μ [x] v.cells.toList)(hv:∀ vs,v≠.agg vs):VR w0 μ x v:=by
 rw [IL v hv] at h
 exact h.rel 0 x v rfl rfl
theorem Kk{P:Program}{w:World}{base:Nat}{ts:Array TypeId}{args:Array Value}(hval:∀ (j:Nat) (t:TypeId) (v:Value),ts[j]?=some t→args[j]?=some v→Value.okWide P w .any base t v){j:Nat}{t e:TypeId}{v:Value}(ht:P.underlying t=some (.slice e))(h1:ts[j]?=some t)(h2:args[j]?=some v):∃ a len cap,v = .slice a len cap:=okWide_slice ht (hval j t v h1 h2)
noncomputable def me(os:Os):World:=World.holding Tryz.prog os ⟨#[],#[],[]⟩
end Go.AM.RuT