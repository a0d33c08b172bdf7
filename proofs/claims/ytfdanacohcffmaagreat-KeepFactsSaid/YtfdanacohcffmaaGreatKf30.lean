/- The arguments of the laws about keepers, read as data: rules, structures, calls. Conditions: none. -/
import Derived.Test.YtfdanacohcffmaaGreatKf16
import Derived.Test.YtfdanacohcffmaaGreatKf26
import Derived.Test.YtfdanacohcffmaaGreatKf28
set_option linter.unusedVariables false
namespace Go.AM.YS
open Go Go.AM Go.Proofs Go.Proofs.YtfdanacohcffmaaGreat Go.ChangeShapes Go.WideShapes Go.ChangeAt Go.RowKit
theorem XB:Tryz.prog.cellsOf 9=1:=by kernel_rfl
theorem Rv:Tryz.prog.cellsOf 139=4:=by kernel_rfl
theorem UG:Tryz.prog.cellsOf 88=3:=by kernel_rfl
theorem XC:0<Tryz.prog.bytesOf 9:=of_decide_eq_true (by kernel_rfl)
theorem Rw:0<Tryz.prog.bytesOf 139:=of_decide_eq_true (by kernel_rfl)
theorem UH:0<Tryz.prog.bytesOf 88:=of_decide_eq_true (by kernel_rfl)
theorem UI:Tryz.prog.cellsOf 65=3:=by kernel_rfl
theorem UJ:Tryz.prog.cellsOf 37=1:=by kernel_rfl
theorem UK:0<Tryz.prog.bytesOf 65:=of_decide_eq_true (by kernel_rfl)
theorem UL:0<Tryz.prog.bytesOf 37:=of_decide_eq_true (by kernel_rfl)
theorem UM:Tryz.prog.cellsOf 39=4:=by kernel_rfl
theorem UN:0<Tryz.prog.bytesOf 39:=of_decide_eq_true (by kernel_rfl)
structure Na where
 name:b6
 args:Sl b6
def XD(a:Na):List AV:=[.str a.name,an AM.encS 1 a.args]
def Na.ok(a:Na):Prop:=a.name.length<=cN/\a.args.l.length<=cN/\∀ s ∈ a.args.l,s.length<=cN
section
variable {H:Type} {enc:TypeId×Value->H} {w:World}
theorem afV:RD enc Tryz.prog w 69 (fun x:Sl b6=>[an AM.encS 1 x]) (fun x=>x.l.length<=cN/\∀ a ∈ x.l,a.length<=cN):=
 oP Tryz.underlying69 XB (by omega) XC (uS Tryz.underlying9)
theorem acK:RD enc Tryz.prog w 85 XD Na.ok:=by
 intro fuel cs d ps h
 obtain ⟨xs,⟨ds,rfl,d0,Ye,x0,y0,rfl,rfl,⟨a0,rfl,h0⟩,d1,Vb,x1,y1,rfl,rfl,⟨a1,rfl,h1⟩,rfl,rfl⟩,hv⟩:=
  nW Tryz.underlying85 (by kernel_rfl) (gQ rfl (uS Tryz.underlying9) (gQ (by kernel_rfl) afV (uT _))) fuel cs d ps h
 exact ⟨_,⟨⟨a0,a1⟩,rfl,fun hs=>⟨h0 (iY Tryz.underlying85 hs (j:=0) rfl rfl),h1 (iY Tryz.underlying85 hs (j:=1) rfl rfl)⟩⟩,hv⟩
theorem acL:RD enc Tryz.prog w 139 bL eP.ok:=by
 intro fuel cs d ps h
 obtain ⟨xs,⟨ds,rfl,d0,Ye,x0,y0,rfl,rfl,⟨a0,rfl,h0⟩,d1,Vb,x1,y1,rfl,rfl,⟨a1,rfl,h1⟩,d2,ds2,x2,y2,rfl,rfl,⟨a2,rfl,h2⟩,rfl,rfl⟩,hv⟩:=
  nW Tryz.underlying139 (by kernel_rfl) (gQ rfl (CG Tryz.underlying3) (gQ (by kernel_rfl) (ME Tryz.underlying4) (gQ (by kernel_rfl) acK (uT _)))) fuel cs d ps h
 exact ⟨_,⟨⟨a0,a1,a2.name,a2.args⟩,rfl,fun hs=>h2 (iY Tryz.underlying139 hs (j:=2) rfl rfl)⟩,hv⟩
theorem afX:RD enc Tryz.prog w 86 (fun x:Sl eP=>[an bL 4 x]) (fun x=>x.l.length<=cN/\∀ a ∈ x.l,a.ok):=
 oP Tryz.underlying86 Rv (by omega) Rw acL
theorem afY:RD enc Tryz.prog w 88 aO aP.ok:=by
 intro fuel cs d ps h
 obtain ⟨xs,⟨ds,rfl,d0,Ye,x0,y0,rfl,rfl,⟨a0,rfl,h0⟩,d1,Vb,x1,y1,rfl,rfl,⟨a1,rfl,h1⟩,rfl,rfl⟩,hv⟩:=
  nW Tryz.underlying88 (by kernel_rfl) (gQ rfl acK (gQ (by kernel_rfl) afX (uT _))) fuel cs d ps h
 refine ⟨_,⟨⟨a0.name,a0.args,a1⟩,rfl,fun hs=>?_⟩,hv⟩;obtain ⟨q1,q2,q3⟩:=h0 (iY Tryz.underlying88 hs (j:=0) rfl rfl);obtain ⟨q4,q5⟩:=h1 (iY Tryz.underlying88 hs (j:=1) rfl rfl);exact ⟨q1,q2,q3,q4,q5⟩
theorem afZ:RD enc Tryz.prog w 22 (fun x:Sl aP=>[an aO 3 x]) (fun x=>x.l.length<=cN/\∀ a ∈ x.l,a.ok):=
 oP Tryz.underlying22 UG (by omega) UH afY
theorem af0:RD enc Tryz.prog w 62 (fun x:Sl (Sl Int)=>[an cX 1 x]) (fun x=>x.l.length<=cN/\∀ a ∈ x.l,a.l.length<=cN/\∀ b ∈ a.l,True):=
 oP Tryz.underlying62 UJ (by omega) UL YT
theorem af1:RD enc Tryz.prog w 65 aQ AM.Rel.ok:=by
 intro fuel cs d ps h
 obtain ⟨xs,⟨ds,rfl,d0,Ye,x0,y0,rfl,rfl,⟨a0,rfl,h0⟩,d1,Vb,x1,y1,rfl,rfl,⟨a1,rfl,h1⟩,d2,ds2,x2,y2,rfl,rfl,⟨a2,rfl,h2⟩,rfl,rfl⟩,hv⟩:=
  nW Tryz.underlying65 (by kernel_rfl) (gQ rfl (uS Tryz.underlying9) (gQ (by kernel_rfl) (CG Tryz.underlying3) (gQ (by kernel_rfl) af0 (uT _)))) fuel cs d ps h
 refine ⟨_,⟨⟨a0,a1,a2⟩,rfl,fun hs=>⟨?_,?_,?_⟩⟩,hv⟩
 ·exact h0 (iY Tryz.underlying65 hs (j:=0) rfl rfl)
 ·exact (h2 (iY Tryz.underlying65 hs (j:=2) rfl rfl)).1
 ·exact fun t ht=>((h2 (iY Tryz.underlying65 hs (j:=2) rfl rfl)).2 t ht).1
theorem af2:RD enc Tryz.prog w 23 (fun x:Sl AM.Rel=>[an aQ 3 x]) (fun x=>x.l.length<=cN/\∀ a ∈ x.l,a.ok):=
 oP Tryz.underlying23 UI (by omega) UK af1
theorem af3:RD enc Tryz.prog w 25 ak cM.ok:=by
 intro fuel cs d ps h
 obtain ⟨xs,⟨ds,rfl,d0,Ye,x0,y0,rfl,rfl,⟨a0,rfl,h0⟩,d1,Vb,x1,y1,rfl,rfl,⟨a1,rfl,h1⟩,rfl,rfl⟩,hv⟩:=
  nW Tryz.underlying25 (by kernel_rfl) (gQ rfl (CG Tryz.underlying3) (gQ (by kernel_rfl) af2 (uT _))) fuel cs d ps h
 exact ⟨_,⟨⟨a0,a1⟩,rfl,fun hs=>h1 (iY Tryz.underlying25 hs (j:=1) rfl rfl)⟩,hv⟩
theorem af4:RD enc Tryz.prog w 39 pz lE.ok:=by
 intro fuel cs d ps h
 obtain ⟨xs,⟨ds,rfl,d0,Ye,x0,y0,rfl,rfl,⟨a0,rfl,h0⟩,d1,Vb,x1,y1,rfl,rfl,⟨a1,rfl,h1⟩,d2,ds2,x2,y2,rfl,rfl,⟨a2,rfl,h2⟩,d3,ds3,x3,y3,rfl,rfl,⟨a3,rfl,h3⟩,rfl,rfl⟩,hv⟩:=
  nW Tryz.underlying39 (by kernel_rfl) (gQ rfl (CG Tryz.underlying3) (gQ (by kernel_rfl) rd9 (gQ (by kernel_rfl) YT (gQ (by kernel_rfl) rd4 (uT _))))) fuel cs d ps h
 exact ⟨_,⟨⟨a0,a1,a2,a3⟩,rfl,fun hs=>⟨h1 (iY Tryz.underlying39 hs (j:=1) rfl rfl),(h2 (iY Tryz.underlying39 hs (j:=2) rfl rfl)).1⟩⟩,hv⟩
theorem af5:RD enc Tryz.prog w 26 (fun x:Sl lE=>[an pz 4 x]) (fun x=>x.l.length<=cN/\∀ a ∈ x.l,a.ok):=
 oP Tryz.underlying26 UM (by omega) UN af4
end
end Go.AM.YS