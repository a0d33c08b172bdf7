/- The arguments of the laws about keepers, read as data: rules, structures, calls. Conditions: none. -/
import Derived.Test.YtfdanacohcffmaaGreatKo16
import Derived.Test.YtfdanacohcffmaaGreatKo26
import Derived.Test.YtfdanacohcffmaaGreatKo28
set_option linter.unusedVariables false
namespace Go.AM.XS
open Go Go.AM Go.Proofs Go.Proofs.YtfdanacohcffmaaGreat Go.ChangeShapes Go.WideShapes Go.ChangeAt Go.RowKit
theorem Wz:Tryz.prog.cellsOf 9=1:=by kernel_rfl
theorem QE:Tryz.prog.cellsOf 139=4:=by kernel_rfl
theorem TV:Tryz.prog.cellsOf 88=3:=by kernel_rfl
theorem WA:0<Tryz.prog.bytesOf 9:=of_decide_eq_true (by kernel_rfl)
theorem QF:0<Tryz.prog.bytesOf 139:=of_decide_eq_true (by kernel_rfl)
theorem TW:0<Tryz.prog.bytesOf 88:=of_decide_eq_true (by kernel_rfl)
theorem TX:Tryz.prog.cellsOf 65=3:=by kernel_rfl
theorem TY:Tryz.prog.cellsOf 37=1:=by kernel_rfl
theorem TZ:0<Tryz.prog.bytesOf 65:=of_decide_eq_true (by kernel_rfl)
theorem T0:0<Tryz.prog.bytesOf 37:=of_decide_eq_true (by kernel_rfl)
theorem T1:Tryz.prog.cellsOf 39=4:=by kernel_rfl
theorem T2:0<Tryz.prog.bytesOf 39:=of_decide_eq_true (by kernel_rfl)
structure MA where
 name:cc
 args:Sl cc
def WB(a:MA):List AV:=[.str a.name,an AM.encS 1 a.args]
def MA.ok(a:MA):Prop:=a.name.length<=cM/\a.args.l.length<=cM/\∀ s ∈ a.args.l,s.length<=cM
section
variable {H:Type} {enc:TypeId×Value->H} {w:World}
theorem aeD:RD enc Tryz.prog w 69 (fun x:Sl cc=>[an AM.encS 1 x]) (fun x=>x.l.length<=cM/\∀ a ∈ x.l,a.length<=cM):=
 oE Tryz.underlying69 Wz (by omega) WA (uB Tryz.underlying9)
theorem abD:RD enc Tryz.prog w 85 WB MA.ok:=by
 intro fuel cs d ps h
 obtain ⟨xs,⟨ds,rfl,d0,Xe,x0,y0,rfl,rfl,⟨a0,rfl,h0⟩,d1,Uq,x1,y1,rfl,rfl,⟨a1,rfl,h1⟩,rfl,rfl⟩,hv⟩:=
  nM Tryz.underlying85 (by kernel_rfl) (gL rfl (uB Tryz.underlying9) (gL (by kernel_rfl) aeD (uC _))) fuel cs d ps h
 exact ⟨_,⟨⟨a0,a1⟩,rfl,fun hs=>⟨h0 (iV Tryz.underlying85 hs (j:=0) rfl rfl),h1 (iV Tryz.underlying85 hs (j:=1) rfl rfl)⟩⟩,hv⟩
theorem abE:RD enc Tryz.prog w 139 bM eP.ok:=by
 intro fuel cs d ps h
 obtain ⟨xs,⟨ds,rfl,d0,Xe,x0,y0,rfl,rfl,⟨a0,rfl,h0⟩,d1,Uq,x1,y1,rfl,rfl,⟨a1,rfl,h1⟩,d2,ds2,x2,y2,rfl,rfl,⟨a2,rfl,h2⟩,rfl,rfl⟩,hv⟩:=
  nM Tryz.underlying139 (by kernel_rfl) (gL rfl (Cm Tryz.underlying3) (gL (by kernel_rfl) (LY Tryz.underlying4) (gL (by kernel_rfl) abD (uC _)))) fuel cs d ps h
 exact ⟨_,⟨⟨a0,a1,a2.name,a2.args⟩,rfl,fun hs=>h2 (iV Tryz.underlying139 hs (j:=2) rfl rfl)⟩,hv⟩
theorem aeF:RD enc Tryz.prog w 86 (fun x:Sl eP=>[an bM 4 x]) (fun x=>x.l.length<=cM/\∀ a ∈ x.l,a.ok):=
 oE Tryz.underlying86 QE (by omega) QF abE
theorem aeG:RD enc Tryz.prog w 88 aQ aP.ok:=by
 intro fuel cs d ps h
 obtain ⟨xs,⟨ds,rfl,d0,Xe,x0,y0,rfl,rfl,⟨a0,rfl,h0⟩,d1,Uq,x1,y1,rfl,rfl,⟨a1,rfl,h1⟩,rfl,rfl⟩,hv⟩:=
  nM Tryz.underlying88 (by kernel_rfl) (gL rfl abD (gL (by kernel_rfl) aeF (uC _))) fuel cs d ps h
 refine ⟨_,⟨⟨a0.name,a0.args,a1⟩,rfl,fun hs=>?_⟩,hv⟩;obtain ⟨q1,q2,q3⟩:=h0 (iV Tryz.underlying88 hs (j:=0) rfl rfl);obtain ⟨q4,q5⟩:=h1 (iV Tryz.underlying88 hs (j:=1) rfl rfl);exact ⟨q1,q2,q3,q4,q5⟩
theorem aeH:RD enc Tryz.prog w 22 (fun x:Sl aP=>[an aQ 3 x]) (fun x=>x.l.length<=cM/\∀ a ∈ x.l,a.ok):=
 oE Tryz.underlying22 TV (by omega) TW aeG
theorem aeI:RD enc Tryz.prog w 62 (fun x:Sl (Sl Int)=>[an cZ 1 x]) (fun x=>x.l.length<=cM/\∀ a ∈ x.l,a.l.length<=cM/\∀ b ∈ a.l,True):=
 oE Tryz.underlying62 TY (by omega) T0 XT
theorem aeJ:RD enc Tryz.prog w 65 aR AM.Rel.ok:=by
 intro fuel cs d ps h
 obtain ⟨xs,⟨ds,rfl,d0,Xe,x0,y0,rfl,rfl,⟨a0,rfl,h0⟩,d1,Uq,x1,y1,rfl,rfl,⟨a1,rfl,h1⟩,d2,ds2,x2,y2,rfl,rfl,⟨a2,rfl,h2⟩,rfl,rfl⟩,hv⟩:=
  nM Tryz.underlying65 (by kernel_rfl) (gL rfl (uB Tryz.underlying9) (gL (by kernel_rfl) (Cm Tryz.underlying3) (gL (by kernel_rfl) aeI (uC _)))) fuel cs d ps h
 refine ⟨_,⟨⟨a0,a1,a2⟩,rfl,fun hs=>⟨?_,?_,?_⟩⟩,hv⟩
 ·exact h0 (iV Tryz.underlying65 hs (j:=0) rfl rfl)
 ·exact (h2 (iV Tryz.underlying65 hs (j:=2) rfl rfl)).1
 ·exact fun t ht=>((h2 (iV Tryz.underlying65 hs (j:=2) rfl rfl)).2 t ht).1
theorem aeK:RD enc Tryz.prog w 23 (fun x:Sl AM.Rel=>[an aR 3 x]) (fun x=>x.l.length<=cM/\∀ a ∈ x.l,a.ok):=
 oE Tryz.underlying23 TX (by omega) TZ aeJ
theorem aeL:RD enc Tryz.prog w 25 au cN.ok:=by
 intro fuel cs d ps h
 obtain ⟨xs,⟨ds,rfl,d0,Xe,x0,y0,rfl,rfl,⟨a0,rfl,h0⟩,d1,Uq,x1,y1,rfl,rfl,⟨a1,rfl,h1⟩,rfl,rfl⟩,hv⟩:=
  nM Tryz.underlying25 (by kernel_rfl) (gL rfl (Cm Tryz.underlying3) (gL (by kernel_rfl) aeK (uC _))) fuel cs d ps h
 exact ⟨_,⟨⟨a0,a1⟩,rfl,fun hs=>h1 (iV Tryz.underlying25 hs (j:=1) rfl rfl)⟩,hv⟩
theorem aeM:RD enc Tryz.prog w 39 fL nJ.ok:=by
 intro fuel cs d ps h
 obtain ⟨xs,⟨ds,rfl,d0,Xe,x0,y0,rfl,rfl,⟨a0,rfl,h0⟩,d1,Uq,x1,y1,rfl,rfl,⟨a1,rfl,h1⟩,d2,ds2,x2,y2,rfl,rfl,⟨a2,rfl,h2⟩,d3,ds3,x3,y3,rfl,rfl,⟨a3,rfl,h3⟩,rfl,rfl⟩,hv⟩:=
  nM Tryz.underlying39 (by kernel_rfl) (gL rfl (Cm Tryz.underlying3) (gL (by kernel_rfl) rd9 (gL (by kernel_rfl) XT (gL (by kernel_rfl) rd4 (uC _))))) fuel cs d ps h
 exact ⟨_,⟨⟨a0,a1,a2,a3⟩,rfl,fun hs=>⟨h1 (iV Tryz.underlying39 hs (j:=1) rfl rfl),(h2 (iV Tryz.underlying39 hs (j:=2) rfl rfl)).1⟩⟩,hv⟩
theorem aeN:RD enc Tryz.prog w 26 (fun x:Sl nJ=>[an fL 4 x]) (fun x=>x.l.length<=cM/\∀ a ∈ x.l,a.ok):=
 oE Tryz.underlying26 T1 (by omega) T2 aeM
end
end Go.AM.XS