/- Parts of a proof, merged out of smaller texts: the abstract machine and what functions do. Conditions: none. -/
import Derived.Test.YtmkffehchicgaaaGreatSo12
import Derived.Test.YtmkffehchicgaaaGreatSo13
import Derived.Test.YtmkffehchicgaaaGreatSo23
import Derived.Test.YtmkffehchicgaaaGreatRows
import Derived.WalkKit
import Derived.ProofKit
import Derived.OpenShut
import Derived.Deep.DeepHandedRow
import Derived.Lib.LaidTab
set_option linter.unusedVariables false
namespace Go.AM.RuT
open Go Go.AM Go.Proofs Go.Proofs.YtmkffehchicgaaaGreat Go.ChangeShapes Go.WideShapes Go.ChangeAt Go.RowKit
theorem own:ownKnob Tryz.prog.godebug=none:=by kernel_rfl
theorem laidOut:laidOutB Tryz.prog=true:=by kernel_rfl
theorem Mh:Tryz.prog.cellsOf 9=1:=by kernel_rfl
theorem IG:Tryz.prog.cellsOf 143=4:=by kernel_rfl
theorem KY:Tryz.prog.cellsOf 86=3:=by kernel_rfl
theorem Mi:0<Tryz.prog.bytesOf 9:=of_decide_eq_true (by kernel_rfl)
theorem II:0<Tryz.prog.bytesOf 143:=of_decide_eq_true (by kernel_rfl)
theorem KZ:0<Tryz.prog.bytesOf 86:=of_decide_eq_true (by kernel_rfl)
theorem K4:Tryz.prog.cellsOf 39=3:=by kernel_rfl
theorem K5:Tryz.prog.cellsOf 41=1:=by kernel_rfl
theorem Mj:Tryz.prog.cellsOf 3=1:=by kernel_rfl
theorem K6:0<Tryz.prog.bytesOf 39:=of_decide_eq_true (by kernel_rfl)
theorem K7:0<Tryz.prog.bytesOf 41:=of_decide_eq_true (by kernel_rfl)
theorem Mk:0<Tryz.prog.bytesOf 3:=of_decide_eq_true (by kernel_rfl)
structure FJ where
 name:bA
 args:Sl bA
def Ml(a:FJ):List AV:=[.str a.name,aq AM.encS 1 a.args]
def FJ.ok(a:FJ):Prop:=a.name.length≤cy∧a.args.l.length≤cy∧∀ s ∈ a.args.l,s.length≤cy
section
variable {H:Type} {enc:TypeId×Value→H} {w:World}
theorem PO:RD enc Tryz.prog w 60 (fun x:Sl bA=>[aq AM.encS 1 x]) (fun x=>x.l.length≤cy∧∀ a ∈ x.l,a.length≤cy):=
 mR Tryz.underlying60 Mh (by omega) Mi (qv Tryz.underlying9)
theorem Pn:RD enc Tryz.prog w 83 Ml FJ.ok:=by
 intro fuel cs d ps h
 obtain ⟨xs,⟨ds,rfl,d0,ds0,x0,y0,rfl,rfl,⟨a0,rfl,h0⟩,d1,ds1,x1,y1,rfl,rfl,⟨a1,rfl,h1⟩,rfl,rfl⟩,hv⟩:=
  kK Tryz.underlying83 (by kernel_rfl) (fA rfl (qv Tryz.underlying9) (fA (by kernel_rfl) PO (qw _))) fuel cs d ps h
 exact ⟨_,⟨⟨a0,a1⟩,rfl,fun hs=>⟨h0 (eW Tryz.underlying83 hs (j:=0) rfl rfl),h1 (eW Tryz.underlying83 hs (j:=1) rfl rfl)⟩⟩,hv⟩
theorem Po:RD enc Tryz.prog w 143 bJ dI.ok:=by
 intro fuel cs d ps h
 obtain ⟨xs,⟨ds,rfl,d0,ds0,x0,y0,rfl,rfl,⟨a0,rfl,h0⟩,d1,ds1,x1,y1,rfl,rfl,⟨a1,rfl,h1⟩,d2,ds2,x2,y2,rfl,rfl,⟨a2,rfl,h2⟩,rfl,rfl⟩,hv⟩:=
  kK Tryz.underlying143 (by kernel_rfl) (fA rfl (xV Tryz.underlying3) (fA (by kernel_rfl) (Jk Tryz.underlying4) (fA (by kernel_rfl) Pn (qw _)))) fuel cs d ps h
 exact ⟨_,⟨⟨a0,a1,a2.name,a2.args⟩,rfl,fun hs=>h2 (eW Tryz.underlying143 hs (j:=2) rfl rfl)⟩,hv⟩
theorem PR:RD enc Tryz.prog w 84 (fun x:Sl dI=>[aq bJ 4 x]) (fun x=>x.l.length≤cy∧∀ a ∈ x.l,a.ok):=
 mR Tryz.underlying84 IG (by omega) II Po
theorem PS:RD enc Tryz.prog w 86 aM aJ.ok:=by
 intro fuel cs d ps h
 obtain ⟨xs,⟨ds,rfl,d0,ds0,x0,y0,rfl,rfl,⟨a0,rfl,h0⟩,d1,ds1,x1,y1,rfl,rfl,⟨a1,rfl,h1⟩,rfl,rfl⟩,hv⟩:=
  kK Tryz.underlying86 (by kernel_rfl) (fA rfl Pn (fA (by kernel_rfl) PR (qw _))) fuel cs d ps h
 refine ⟨_,⟨⟨a0.name,a0.args,a1⟩,rfl,fun hs=>?_⟩,hv⟩
 obtain ⟨q1,q2,q3⟩:=h0 (eW Tryz.underlying86 hs (j:=0) rfl rfl)
 obtain ⟨q4,q5⟩:=h1 (eW Tryz.underlying86 hs (j:=1) rfl rfl)
 exact ⟨q1,q2,q3,q4,q5⟩
theorem PT:RD enc Tryz.prog w 22 (fun x:Sl aJ=>[aq aM 3 x]) (fun x=>x.l.length≤cy∧∀ a ∈ x.l,a.ok):=
 mR Tryz.underlying22 KY (by omega) KZ PS
theorem Mm:RD enc Tryz.prog w 41 (fun x:Sl Int=>[aq AM.encI 1 x]) (fun x=>x.l.length≤cy∧∀ a ∈ x.l,True):=
 mR Tryz.underlying41 Mj (by omega) Mk (xV Tryz.underlying3)
theorem PU:RD enc Tryz.prog w 36 (fun x:Sl (Sl Int)=>[aq ey 1 x]) (fun x=>x.l.length≤cy∧∀ a ∈ x.l,a.l.length≤cy∧∀ b ∈ a.l,True):=
 mR Tryz.underlying36 K5 (by omega) K7 Mm
theorem PV:RD enc Tryz.prog w 39 bw AM.Rel.ok:=by
 intro fuel cs d ps h
 obtain ⟨xs,⟨ds,rfl,d0,ds0,x0,y0,rfl,rfl,⟨a0,rfl,h0⟩,d1,ds1,x1,y1,rfl,rfl,⟨a1,rfl,h1⟩,d2,ds2,x2,y2,rfl,rfl,⟨a2,rfl,h2⟩,rfl,rfl⟩,hv⟩:=
  kK Tryz.underlying39 (by kernel_rfl) (fA rfl (qv Tryz.underlying9) (fA (by kernel_rfl) (xV Tryz.underlying3) (fA (by kernel_rfl) PU (qw _)))) fuel cs d ps h
 refine ⟨_,⟨⟨a0,a1,a2⟩,rfl,fun hs=>⟨?_,?_,?_⟩⟩,hv⟩
 ·exact h0 (eW Tryz.underlying39 hs (j:=0) rfl rfl)
 ·exact (h2 (eW Tryz.underlying39 hs (j:=2) rfl rfl)).1
 ·exact fun t ht=>((h2 (eW Tryz.underlying39 hs (j:=2) rfl rfl)).2 t ht).1
theorem PW:RD enc Tryz.prog w 23 (fun x:Sl AM.Rel=>[aq bw 3 x]) (fun x=>x.l.length≤cy∧∀ a ∈ x.l,a.ok):=
 mR Tryz.underlying23 K4 (by omega) K6 PV
theorem PX:RD enc Tryz.prog w 25 aA dP.ok:=by
 intro fuel cs d ps h
 obtain ⟨xs,⟨ds,rfl,d0,ds0,x0,y0,rfl,rfl,⟨a0,rfl,h0⟩,d1,ds1,x1,y1,rfl,rfl,⟨a1,rfl,h1⟩,rfl,rfl⟩,hv⟩:=
  kK Tryz.underlying25 (by kernel_rfl) (fA rfl (xV Tryz.underlying3) (fA (by kernel_rfl) PW (qw _))) fuel cs d ps h
 exact ⟨_,⟨⟨a0,a1⟩,rfl,fun hs=>h1 (eW Tryz.underlying25 hs (j:=1) rfl rfl)⟩,hv⟩
end
theorem Mn{w0:World}{μ:Mu}{xs:List AV}{v:Value}{vs:Array Value}(hv:v = .agg vs)(h:dL w0 μ xs v.cells.toList):VR w0 μ (.agg xs) v:=by
 subst hv
 have:=VR.agg (w0:=w0) (μ:=μ) xs vs.toList h.len h.rel
 simpa using this
theorem Bi{w0:World}{μ:Mu}{xs:List AV}{v:Value}(h:dL w0 μ xs v.cells.toList)(hl:xs.length≠1):VR w0 μ (.agg xs) v:=by
 have:∃ vs,v = .agg vs:=by
  have hl':=h.len
  cases v with
  |agg vs=>exact ⟨vs,rfl⟩
  |_=>exfalso;simp [Value.cells] at hl';omega
 obtain ⟨vs,hvs⟩:=this
 exact Mn hvs h
theorem GU(v:Value)(hv:∀ vs,v≠.agg vs):v.cells.toList = [v]:=by
 cases v<;>first|rfl|exact absurd rfl (hv _)
theorem Mo{w0:World}{μ:Mu}{x:AV}{v:Value}(h:dL w0 μ [x] v.cells.toList)(hv:∀ vs,v≠.agg vs):VR w0 μ x v:=by
 rw [GU v hv] at h
 exact h.rel 0 x v rfl rfl
theorem IJ{P:Program}{w:World}{base:Nat}{ts:Array TypeId}{args:Array Value}(hval:∀ (j:Nat) (t:TypeId) (v:Value),ts[j]?=some t→args[j]?=some v→Value.okWide P w .any base t v){j:Nat}{t e:TypeId}{v:Value}(ht:P.underlying t=some (.slice e))(h1:ts[j]?=some t)(h2:args[j]?=some v):∃ a len cap,v = .slice a len cap:=okWide_slice ht (hval j t v h1 h2)
noncomputable def kT(os:Os):World:=World.holding Tryz.prog os ⟨#[],#[],[]⟩
end Go.AM.RuT
namespace Go.AM.RuT
open Go Go.AM Go.Proofs Go.Proofs.YtmkffehchicgaaaGreat Go.ChangeShapes Go.WideShapes Go.ChangeAt Go.RowKit
theorem K8:Tryz.prog.cellsOf 48=3:=by kernel_rfl
theorem K9:0<Tryz.prog.bytesOf 48:=of_decide_eq_true (by kernel_rfl)
section
variable {H:Type} {enc:TypeId×Value→H} {w:World}
theorem Pp:∀ N:Nat,Pv enc Tryz.prog w N 48 dJ Ae:=by
 intro N
 induction N using Nat.strongRecOn with
 |_ N ih=>
  cases N with
  |zero=>intro cs d ps h;cases h
  |succ N=>
   have hparts:Pv enc Tryz.prog w N 46 (fun x:Sl lZ=>[aq dJ 3 x]) (fun x=>x.l.length≤cy∧∀ a ∈ x.l,Ae a):=by
    cases N with
    |zero=>intro cs d ps h;cases h
    |succ N=>exact AH Tryz.underlying46 K8 (by omega) K9 (ih N (by omega))
   intro cs d ps h
   obtain ⟨xs,⟨ds,rfl,d0,ds0,x0,y0,rfl,rfl,⟨a0,rfl,h0⟩,d1,ds1,x1,y1,rfl,rfl,⟨a1,rfl,h1⟩,d2,ds2,x2,y2,rfl,rfl,⟨a2,rfl,h2⟩,rfl,rfl⟩,hv⟩:=
    xW (n:=N) Tryz.underlying48 (by kernel_rfl) (qy rfl (xV Tryz.underlying3 N) (qy (by kernel_rfl) (Mm N) (qy (by kernel_rfl) hparts (CR _ _)))) cs d ps h
   refine ⟨_,⟨.mk a0 a1 a2,(DA a0 a1 a2).symm,fun hs=>?_⟩,hv⟩
   have q1:=h1 (eW Tryz.underlying48 hs (j:=1) rfl rfl)
   have q2:=h2 (eW Tryz.underlying48 hs (j:=2) rfl rfl)
   exact .mk _ q1.1 q2.1 q2.2
theorem PY:RD enc Tryz.prog w 48 dJ Ae:=fun N=>Pp N
theorem PZ:RD enc Tryz.prog w 57 mu Md.ok:=by
 intro fuel cs d ps h
 obtain ⟨xs,⟨ds,rfl,d0,ds0,x0,y0,rfl,rfl,⟨a0,rfl,h0⟩,d1,ds1,x1,y1,rfl,rfl,⟨a1,rfl,h1⟩,d2,ds2,x2,y2,rfl,rfl,⟨a2,rfl,h2⟩,rfl,rfl⟩,hv⟩:=
  kK Tryz.underlying57 (by kernel_rfl) (fA rfl (qv Tryz.underlying9) (fA (by kernel_rfl) Mm (fA (by kernel_rfl) PY (qw _)))) fuel cs d ps h
 exact ⟨_,⟨⟨a0,a1,a2⟩,by simp [mu,AM.encS],fun hs=>⟨h0 (eW Tryz.underlying57 hs (j:=0) rfl rfl),(h1 (eW Tryz.underlying57 hs (j:=1) rfl rfl)).1,h2 (eW Tryz.underlying57 hs (j:=2) rfl rfl)⟩⟩,hv⟩
end
end Go.AM.RuT