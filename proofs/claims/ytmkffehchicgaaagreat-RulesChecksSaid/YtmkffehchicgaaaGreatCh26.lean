/- Parts of a proof, merged out of smaller texts: the abstract machine and what functions do. Conditions: none. -/
import Derived.Test.YtmkffehchicgaaaGreatCh12
import Derived.Test.YtmkffehchicgaaaGreatCh13
import Derived.Test.YtmkffehchicgaaaGreatCh23
import Derived.Test.YtmkffehchicgaaaGreatRows
import Derived.WalkKit
import Derived.ProofKit
import Derived.OpenShut
import Derived.Deep.DeepHandedRow
import Derived.Lib.LaidTab
set_option linter.unusedVariables false
namespace Go.AM.RuT
open Go Go.AM Go.Proofs Go.Proofs.YtmkffehchicgaaaGreat Go.ChangeShapes Go.WideShapes Go.ChangeAt Go.RowKit
theorem own:ownKnob Tryz.prog.godebug=none:=by kernel_rfl
theorem laidOut:laidOutB Tryz.prog=true:=by kernel_rfl
theorem O6:Tryz.prog.cellsOf 9=1:=by kernel_rfl
theorem Lr:Tryz.prog.cellsOf 143=4:=by kernel_rfl
theorem NU:Tryz.prog.cellsOf 86=3:=by kernel_rfl
theorem O7:0<Tryz.prog.bytesOf 9:=of_decide_eq_true (by kernel_rfl)
theorem Ls:0<Tryz.prog.bytesOf 143:=of_decide_eq_true (by kernel_rfl)
theorem NV:0<Tryz.prog.bytesOf 86:=of_decide_eq_true (by kernel_rfl)
theorem NW:Tryz.prog.cellsOf 39=3:=by kernel_rfl
theorem NX:Tryz.prog.cellsOf 41=1:=by kernel_rfl
theorem O8:Tryz.prog.cellsOf 3=1:=by kernel_rfl
theorem NY:0<Tryz.prog.bytesOf 39:=of_decide_eq_true (by kernel_rfl)
theorem NZ:0<Tryz.prog.bytesOf 41:=of_decide_eq_true (by kernel_rfl)
theorem O9:0<Tryz.prog.bytesOf 3:=of_decide_eq_true (by kernel_rfl)
structure Ir where
 name:bC
 args:Sl bC
def Pa(a:Ir):List AV:=[.str a.name,aq AM.encS 1 a.args]
def Ir.ok(a:Ir):Prop:=a.name.length≤cm∧a.args.l.length≤cm∧∀ s ∈ a.args.l,s.length≤cm
section
variable {H:Type} {enc:TypeId×Value→H} {w:World}
theorem SL:RD enc Tryz.prog w 60 (fun x:Sl bC=>[aq AM.encS 1 x]) (fun x=>x.l.length≤cm∧∀ a ∈ x.l,a.length≤cm):=
 oe Tryz.underlying60 O6 (by omega) O7 (sg Tryz.underlying9)
theorem Sp:RD enc Tryz.prog w 83 Pa Ir.ok:=by
 intro fuel cs d ps h
 obtain ⟨xs,⟨ds,rfl,d0,ds0,x0,y0,rfl,rfl,⟨a0,rfl,h0⟩,d1,ds1,x1,y1,rfl,rfl,⟨a1,rfl,h1⟩,rfl,rfl⟩,hv⟩:=
  mF Tryz.underlying83 (by kernel_rfl) (gv rfl (sg Tryz.underlying9) (gv (by kernel_rfl) SL (si _))) fuel cs d ps h
 exact ⟨_,⟨⟨a0,a1⟩,rfl,fun hs=>⟨h0 (fQ Tryz.underlying83 hs (j:=0) rfl rfl),h1 (fQ Tryz.underlying83 hs (j:=1) rfl rfl)⟩⟩,hv⟩
theorem Sq:RD enc Tryz.prog w 143 bO dO.ok:=by
 intro fuel cs d ps h
 obtain ⟨xs,⟨ds,rfl,d0,ds0,x0,y0,rfl,rfl,⟨a0,rfl,h0⟩,d1,ds1,x1,y1,rfl,rfl,⟨a1,rfl,h1⟩,d2,ds2,x2,y2,rfl,rfl,⟨a2,rfl,h2⟩,rfl,rfl⟩,hv⟩:=
  mF Tryz.underlying143 (by kernel_rfl) (gv rfl (Ag Tryz.underlying3) (gv (by kernel_rfl) (Mc Tryz.underlying4) (gv (by kernel_rfl) Sp (si _)))) fuel cs d ps h
 exact ⟨_,⟨⟨a0,a1,a2.name,a2.args⟩,rfl,fun hs=>h2 (fQ Tryz.underlying143 hs (j:=2) rfl rfl)⟩,hv⟩
theorem SM:RD enc Tryz.prog w 84 (fun x:Sl dO=>[aq bO 4 x]) (fun x=>x.l.length≤cm∧∀ a ∈ x.l,a.ok):=
 oe Tryz.underlying84 Lr (by omega) Ls Sq
theorem SN:RD enc Tryz.prog w 86 aL aB.ok:=by
 intro fuel cs d ps h
 obtain ⟨xs,⟨ds,rfl,d0,ds0,x0,y0,rfl,rfl,⟨a0,rfl,h0⟩,d1,ds1,x1,y1,rfl,rfl,⟨a1,rfl,h1⟩,rfl,rfl⟩,hv⟩:=
  mF Tryz.underlying86 (by kernel_rfl) (gv rfl Sp (gv (by kernel_rfl) SM (si _))) fuel cs d ps h
 refine ⟨_,⟨⟨a0.name,a0.args,a1⟩,rfl,fun hs=>?_⟩,hv⟩
 obtain ⟨q1,q2,q3⟩:=h0 (fQ Tryz.underlying86 hs (j:=0) rfl rfl)
 obtain ⟨q4,q5⟩:=h1 (fQ Tryz.underlying86 hs (j:=1) rfl rfl)
 exact ⟨q1,q2,q3,q4,q5⟩
theorem SO:RD enc Tryz.prog w 22 (fun x:Sl aB=>[aq aL 3 x]) (fun x=>x.l.length≤cm∧∀ a ∈ x.l,a.ok):=
 oe Tryz.underlying22 NU (by omega) NV SN
theorem Pb:RD enc Tryz.prog w 41 (fun x:Sl Int=>[aq AM.encI 1 x]) (fun x=>x.l.length≤cm∧∀ a ∈ x.l,True):=
 oe Tryz.underlying41 O8 (by omega) O9 (Ag Tryz.underlying3)
theorem SP:RD enc Tryz.prog w 36 (fun x:Sl (Sl Int)=>[aq eE 1 x]) (fun x=>x.l.length≤cm∧∀ a ∈ x.l,a.l.length≤cm∧∀ b ∈ a.l,True):=
 oe Tryz.underlying36 NX (by omega) NZ Pb
theorem SQ:RD enc Tryz.prog w 39 bA AM.Rel.ok:=by
 intro fuel cs d ps h
 obtain ⟨xs,⟨ds,rfl,d0,ds0,x0,y0,rfl,rfl,⟨a0,rfl,h0⟩,d1,ds1,x1,y1,rfl,rfl,⟨a1,rfl,h1⟩,d2,ds2,x2,y2,rfl,rfl,⟨a2,rfl,h2⟩,rfl,rfl⟩,hv⟩:=
  mF Tryz.underlying39 (by kernel_rfl) (gv rfl (sg Tryz.underlying9) (gv (by kernel_rfl) (Ag Tryz.underlying3) (gv (by kernel_rfl) SP (si _)))) fuel cs d ps h
 refine ⟨_,⟨⟨a0,a1,a2⟩,rfl,fun hs=>⟨?_,?_,?_⟩⟩,hv⟩
 ·exact h0 (fQ Tryz.underlying39 hs (j:=0) rfl rfl)
 ·exact (h2 (fQ Tryz.underlying39 hs (j:=2) rfl rfl)).1
 ·exact fun t ht=>((h2 (fQ Tryz.underlying39 hs (j:=2) rfl rfl)).2 t ht).1
theorem SS:RD enc Tryz.prog w 23 (fun x:Sl AM.Rel=>[aq bA 3 x]) (fun x=>x.l.length≤cm∧∀ a ∈ x.l,a.ok):=
 oe Tryz.underlying23 NW (by omega) NY SQ
theorem SU:RD enc Tryz.prog w 25 aA dw.ok:=by
 intro fuel cs d ps h
 obtain ⟨xs,⟨ds,rfl,d0,ds0,x0,y0,rfl,rfl,⟨a0,rfl,h0⟩,d1,ds1,x1,y1,rfl,rfl,⟨a1,rfl,h1⟩,rfl,rfl⟩,hv⟩:=
  mF Tryz.underlying25 (by kernel_rfl) (gv rfl (Ag Tryz.underlying3) (gv (by kernel_rfl) SS (si _))) fuel cs d ps h
 exact ⟨_,⟨⟨a0,a1⟩,rfl,fun hs=>h1 (fQ Tryz.underlying25 hs (j:=1) rfl rfl)⟩,hv⟩
end
theorem Pc{w0:World}{μ:Mu}{xs:List AV}{v:Value}{vs:Array Value}(hv:v = .agg vs)(h:eC w0 μ xs v.cells.toList):VR w0 μ (.agg xs) v:=by
 subst hv
 have:=VR.agg (w0:=w0) (μ:=μ) xs vs.toList h.len h.rel
 simpa using this
theorem Dh{w0:World}{μ:Mu}{xs:List AV}{v:Value}(h:eC w0 μ xs v.cells.toList)(hl:xs.length≠1):VR w0 μ (.agg xs) v:=by
 have:∃ vs,v = .agg vs:=by
  have hl':=h.len
  cases v with
  |agg vs=>exact ⟨vs,rfl⟩
  |_=>exfalso;simp [Value.cells] at hl';omega
 obtain ⟨vs,hvs⟩:=this
 exact Pc hvs h
theorem JF(v:Value)(hv:∀ vs,v≠.agg vs):v.cells.toList = [v]:=by
 cases v<;>first|rfl|exact absurd rfl (hv _)
theorem Pd{w0:World}{μ:Mu}{x:AV}{v:Value}(h:eC w0 μ [x] v.cells.toList)(hv:∀ vs,v≠.agg vs):VR w0 μ x v:=by
 rw [JF v hv] at h
 exact h.rel 0 x v rfl rfl
theorem Lt{P:Program}{w:World}{base:Nat}{ts:Array TypeId}{args:Array Value}(hval:∀ (j:Nat) (t:TypeId) (v:Value),ts[j]?=some t→args[j]?=some v→Value.okWide P w .any base t v){j:Nat}{t e:TypeId}{v:Value}(ht:P.underlying t=some (.slice e))(h1:ts[j]?=some t)(h2:args[j]?=some v):∃ a len cap,v = .slice a len cap:=okWide_slice ht (hval j t v h1 h2)
noncomputable def mI(os:Os):World:=World.holding Tryz.prog os ⟨#[],#[],[]⟩
end Go.AM.RuT
namespace Go.AM.RuT
open Go Go.AM Go.Proofs Go.Proofs.YtmkffehchicgaaaGreat Go.ChangeShapes Go.WideShapes Go.ChangeAt Go.RowKit
theorem N3:Tryz.prog.cellsOf 48=3:=by kernel_rfl
theorem N7:0<Tryz.prog.bytesOf 48:=of_decide_eq_true (by kernel_rfl)
section
variable {H:Type} {enc:TypeId×Value→H} {w:World}
theorem Sr:∀ N:Nat,Sx enc Tryz.prog w N 48 cO wV:=by
 intro N
 induction N using Nat.strongRecOn with
 |_ N ih=>
  cases N with
  |zero=>intro cs d ps h;cases h
  |succ N=>
   have hparts:Sx enc Tryz.prog w N 46 (fun x:Sl kN=>[aq cO 3 x]) (fun x=>x.l.length≤cm∧∀ a ∈ x.l,wV a):=by
    cases N with
    |zero=>intro cs d ps h;cases h
    |succ N=>exact CF Tryz.underlying46 N3 (by omega) N7 (ih N (by omega))
   intro cs d ps h
   obtain ⟨xs,⟨ds,rfl,d0,ds0,x0,y0,rfl,rfl,⟨a0,rfl,h0⟩,d1,ds1,x1,y1,rfl,rfl,⟨a1,rfl,h1⟩,d2,ds2,x2,y2,rfl,rfl,⟨a2,rfl,h2⟩,rfl,rfl⟩,hv⟩:=
    Ah (n:=N) Tryz.underlying48 (by kernel_rfl) (sj rfl (Ag Tryz.underlying3 N) (sj (by kernel_rfl) (Pb N) (sj (by kernel_rfl) hparts (Fa _ _)))) cs d ps h
   refine ⟨_,⟨.mk a0 a1 a2,(FW a0 a1 a2).symm,fun hs=>?_⟩,hv⟩
   have q1:=h1 (fQ Tryz.underlying48 hs (j:=1) rfl rfl)
   have q2:=h2 (fQ Tryz.underlying48 hs (j:=2) rfl rfl)
   exact .mk _ q1.1 q2.1 q2.2
theorem SV:RD enc Tryz.prog w 48 cO wV:=fun N=>Sr N
theorem SW:RD enc Tryz.prog w 57 ni OZ.ok:=by
 intro fuel cs d ps h
 obtain ⟨xs,⟨ds,rfl,d0,ds0,x0,y0,rfl,rfl,⟨a0,rfl,h0⟩,d1,ds1,x1,y1,rfl,rfl,⟨a1,rfl,h1⟩,d2,ds2,x2,y2,rfl,rfl,⟨a2,rfl,h2⟩,rfl,rfl⟩,hv⟩:=
  mF Tryz.underlying57 (by kernel_rfl) (gv rfl (sg Tryz.underlying9) (gv (by kernel_rfl) Pb (gv (by kernel_rfl) SV (si _)))) fuel cs d ps h
 exact ⟨_,⟨⟨a0,a1,a2⟩,by simp [ni,AM.encS],fun hs=>⟨h0 (fQ Tryz.underlying57 hs (j:=0) rfl rfl),(h1 (fQ Tryz.underlying57 hs (j:=1) rfl rfl)).1,h2 (fQ Tryz.underlying57 hs (j:=2) rfl rfl)⟩⟩,hv⟩
end
end Go.AM.RuT