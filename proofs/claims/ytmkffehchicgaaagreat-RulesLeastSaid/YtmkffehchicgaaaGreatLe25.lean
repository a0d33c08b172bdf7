/- The arguments of the laws about rules, read as data. Conditions: none. -/
import Derived.Test.YtmkffehchicgaaaGreatLe12
import Derived.Test.YtmkffehchicgaaaGreatLe13
import Derived.Test.YtmkffehchicgaaaGreatLe22
import Derived.Test.YtmkffehchicgaaaGreatRows
import Derived.WalkKit
import Derived.ProofKit
import Derived.OpenShut
import Derived.Deep.DeepHandedRow
import Derived.Lib.LaidTab
set_option linter.unusedVariables false
namespace Go.AM.RuT
open Go Go.AM Go.Proofs Go.Proofs.YtmkffehchicgaaaGreat Go.ChangeShapes Go.WideShapes Go.ChangeAt Go.RowKit
theorem own:ownKnob Tryz.prog.godebug=none:=by kernel_rfl
theorem laidOut:laidOutB Tryz.prog=true:=by kernel_rfl
theorem Nn:Tryz.prog.cellsOf 9=1:=by kernel_rfl
theorem JZ:Tryz.prog.cellsOf 143=4:=by kernel_rfl
theorem Mr:Tryz.prog.cellsOf 86=3:=by kernel_rfl
theorem No:0<Tryz.prog.bytesOf 9:=of_decide_eq_true (by kernel_rfl)
theorem J1:0<Tryz.prog.bytesOf 143:=of_decide_eq_true (by kernel_rfl)
theorem Ms:0<Tryz.prog.bytesOf 86:=of_decide_eq_true (by kernel_rfl)
theorem Mt:Tryz.prog.cellsOf 39=3:=by kernel_rfl
theorem Mv:Tryz.prog.cellsOf 41=1:=by kernel_rfl
theorem Np:Tryz.prog.cellsOf 3=1:=by kernel_rfl
theorem Mw:0<Tryz.prog.bytesOf 39:=of_decide_eq_true (by kernel_rfl)
theorem Mx:0<Tryz.prog.bytesOf 41:=of_decide_eq_true (by kernel_rfl)
theorem Nq:0<Tryz.prog.bytesOf 3:=of_decide_eq_true (by kernel_rfl)
structure G1 where
 name:bI
 args:Sl bI
def Nr(a:G1):List AV:=[.str a.name,an AM.encS 1 a.args]
def G1.ok(a:G1):Prop:=a.name.length≤cz∧a.args.l.length≤cz∧∀ s ∈ a.args.l,s.length≤cz
section
variable {H:Type} {enc:TypeId×Value→H} {w:World}
theorem QU:RD enc Tryz.prog w 60 (fun x:Sl bI=>[an AM.encS 1 x]) (fun x=>x.l.length≤cz∧∀ a ∈ x.l,a.length≤cz):=
 nB Tryz.underlying60 Nn (by omega) No (u9 Tryz.underlying9)
theorem Qy:RD enc Tryz.prog w 83 Nr G1.ok:=by
 intro fuel cs d ps h
 obtain ⟨xs,⟨ds,rfl,d0,ds0,x0,y0,rfl,rfl,⟨a0,rfl,h0⟩,d1,ds1,x1,y1,rfl,rfl,⟨a1,rfl,h1⟩,rfl,rfl⟩,hv⟩:=
  nC Tryz.underlying83 (by kernel_rfl) (ir rfl (u9 Tryz.underlying9) (ir (by kernel_rfl) QU (ud _))) fuel cs d ps h
 exact ⟨_,⟨⟨a0,a1⟩,rfl,fun hs=>⟨h0 (je Tryz.underlying83 hs (j:=0) rfl rfl),h1 (je Tryz.underlying83 hs (j:=1) rfl rfl)⟩⟩,hv⟩
theorem Qz:RD enc Tryz.prog w 143 b6 eN.ok:=by
 intro fuel cs d ps h
 obtain ⟨xs,⟨ds,rfl,d0,ds0,x0,y0,rfl,rfl,⟨a0,rfl,h0⟩,d1,ds1,x1,y1,rfl,rfl,⟨a1,rfl,h1⟩,d2,ds2,x2,y2,rfl,rfl,⟨a2,rfl,h2⟩,rfl,rfl⟩,hv⟩:=
  nC Tryz.underlying143 (by kernel_rfl) (ir rfl (CH Tryz.underlying3) (ir (by kernel_rfl) (Kx Tryz.underlying4) (ir (by kernel_rfl) Qy (ud _)))) fuel cs d ps h
 exact ⟨_,⟨⟨a0,a1,a2.name,a2.args⟩,rfl,fun hs=>h2 (je Tryz.underlying143 hs (j:=2) rfl rfl)⟩,hv⟩
theorem QV:RD enc Tryz.prog w 84 (fun x:Sl eN=>[an b6 4 x]) (fun x=>x.l.length≤cz∧∀ a ∈ x.l,a.ok):=
 nB Tryz.underlying84 JZ (by omega) J1 Qz
theorem QW:RD enc Tryz.prog w 86 aM aK.ok:=by
 intro fuel cs d ps h
 obtain ⟨xs,⟨ds,rfl,d0,ds0,x0,y0,rfl,rfl,⟨a0,rfl,h0⟩,d1,ds1,x1,y1,rfl,rfl,⟨a1,rfl,h1⟩,rfl,rfl⟩,hv⟩:=
  nC Tryz.underlying86 (by kernel_rfl) (ir rfl Qy (ir (by kernel_rfl) QV (ud _))) fuel cs d ps h
 refine ⟨_,⟨⟨a0.name,a0.args,a1⟩,rfl,fun hs=>?_⟩,hv⟩
 obtain ⟨q1,q2,q3⟩:=h0 (je Tryz.underlying86 hs (j:=0) rfl rfl)
 obtain ⟨q4,q5⟩:=h1 (je Tryz.underlying86 hs (j:=1) rfl rfl)
 exact ⟨q1,q2,q3,q4,q5⟩
theorem QX:RD enc Tryz.prog w 22 (fun x:Sl aK=>[an aM 3 x]) (fun x=>x.l.length≤cz∧∀ a ∈ x.l,a.ok):=
 nB Tryz.underlying22 Mr (by omega) Ms QW
theorem QY:RD enc Tryz.prog w 41 (fun x:Sl Int=>[an AM.encI 1 x]) (fun x=>x.l.length≤cz∧∀ a ∈ x.l,True):=
 nB Tryz.underlying41 Np (by omega) Nq (CH Tryz.underlying3)
theorem QZ:RD enc Tryz.prog w 36 (fun x:Sl (Sl Int)=>[an er 1 x]) (fun x=>x.l.length≤cz∧∀ a ∈ x.l,a.l.length≤cz∧∀ b ∈ a.l,True):=
 nB Tryz.underlying36 Mv (by omega) Mx QY
theorem Q0:RD enc Tryz.prog w 39 bt AM.Rel.ok:=by
 intro fuel cs d ps h
 obtain ⟨xs,⟨ds,rfl,d0,ds0,x0,y0,rfl,rfl,⟨a0,rfl,h0⟩,d1,ds1,x1,y1,rfl,rfl,⟨a1,rfl,h1⟩,d2,ds2,x2,y2,rfl,rfl,⟨a2,rfl,h2⟩,rfl,rfl⟩,hv⟩:=
  nC Tryz.underlying39 (by kernel_rfl) (ir rfl (u9 Tryz.underlying9) (ir (by kernel_rfl) (CH Tryz.underlying3) (ir (by kernel_rfl) QZ (ud _)))) fuel cs d ps h
 refine ⟨_,⟨⟨a0,a1,a2⟩,rfl,fun hs=>⟨?_,?_,?_⟩⟩,hv⟩
 ·exact h0 (je Tryz.underlying39 hs (j:=0) rfl rfl)
 ·exact (h2 (je Tryz.underlying39 hs (j:=2) rfl rfl)).1
 ·exact fun t ht=>((h2 (je Tryz.underlying39 hs (j:=2) rfl rfl)).2 t ht).1
theorem Q1:RD enc Tryz.prog w 23 (fun x:Sl AM.Rel=>[an bt 3 x]) (fun x=>x.l.length≤cz∧∀ a ∈ x.l,a.ok):=
 nB Tryz.underlying23 Mt (by omega) Mw Q0
theorem Q2:RD enc Tryz.prog w 25 az dJ.ok:=by
 intro fuel cs d ps h
 obtain ⟨xs,⟨ds,rfl,d0,ds0,x0,y0,rfl,rfl,⟨a0,rfl,h0⟩,d1,ds1,x1,y1,rfl,rfl,⟨a1,rfl,h1⟩,rfl,rfl⟩,hv⟩:=
  nC Tryz.underlying25 (by kernel_rfl) (ir rfl (CH Tryz.underlying3) (ir (by kernel_rfl) Q1 (ud _))) fuel cs d ps h
 exact ⟨_,⟨⟨a0,a1⟩,rfl,fun hs=>h1 (je Tryz.underlying25 hs (j:=1) rfl rfl)⟩,hv⟩
end
theorem Ns{w0:World}{μ:Mu}{xs:List AV}{v:Value}{vs:Array Value}(hv:v = .agg vs)(h:eB w0 μ xs v.cells.toList):VR w0 μ (.agg xs) v:=by
 subst hv
 have:=VR.agg (w0:=w0) (μ:=μ) xs vs.toList h.len h.rel
 simpa using this
theorem Is{w0:World}{μ:Mu}{xs:List AV}{v:Value}(h:eB w0 μ xs v.cells.toList)(hl:xs.length≠1):VR w0 μ (.agg xs) v:=by
 have:∃ vs,v = .agg vs:=by
  have hl':=h.len
  cases v with
  |agg vs=>exact ⟨vs,rfl⟩
  |_=>exfalso;simp [Value.cells] at hl';omega
 obtain ⟨vs,hvs⟩:=this
 exact Ns hvs h
theorem It(v:Value)(hv:∀ vs,v≠.agg vs):v.cells.toList = [v]:=by
 cases v<;>first|rfl|exact absurd rfl (hv _)
theorem Nt{w0:World}{μ:Mu}{x:AV}{v:Value}(h:eB w0 μ [x] v.cells.toList)(hv:∀ vs,v≠.agg vs):VR w0 μ x v:=by
 rw [It v hv] at h
 exact h.rel 0 x v rfl rfl
theorem J2{P:Program}{w:World}{base:Nat}{ts:Array TypeId}{args:Array Value}(hval:∀ (j:Nat) (t:TypeId) (v:Value),ts[j]?=some t→args[j]?=some v→Value.okWide P w .any base t v){j:Nat}{t e:TypeId}{v:Value}(ht:P.underlying t=some (.slice e))(h1:ts[j]?=some t)(h2:args[j]?=some v):∃ a len cap,v = .slice a len cap:=okWide_slice ht (hval j t v h1 h2)
noncomputable def l9(os:Os):World:=World.holding Tryz.prog os ⟨#[],#[],[]⟩
end Go.AM.RuT