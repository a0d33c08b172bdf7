/- The arguments of the laws about keepers, read as data: rules, structures, calls. Conditions: none. -/
import Derived.Test.YtfdanacohcffmaaGreatKu16
import Derived.Test.YtfdanacohcffmaaGreatKu26
import Derived.Test.YtfdanacohcffmaaGreatKu28
set_option linter.unusedVariables false
namespace Go.AM.Yp
open Go Go.AM Go.Proofs Go.Proofs.YtfdanacohcffmaaGreat Go.ChangeShapes Go.WideShapes Go.ChangeAt Go.RowKit
theorem Xa:Tryz.prog.cellsOf 9=1:=by kernel_rfl
theorem QW:Tryz.prog.cellsOf 139=4:=by kernel_rfl
theorem Ug:Tryz.prog.cellsOf 88=3:=by kernel_rfl
theorem Xb:0<Tryz.prog.bytesOf 9:=of_decide_eq_true (by kernel_rfl)
theorem QX:0<Tryz.prog.bytesOf 139:=of_decide_eq_true (by kernel_rfl)
theorem Uh:0<Tryz.prog.bytesOf 88:=of_decide_eq_true (by kernel_rfl)
theorem Ui:Tryz.prog.cellsOf 65=3:=by kernel_rfl
theorem Uj:Tryz.prog.cellsOf 37=1:=by kernel_rfl
theorem Uk:0<Tryz.prog.bytesOf 65:=of_decide_eq_true (by kernel_rfl)
theorem Ul:0<Tryz.prog.bytesOf 37:=of_decide_eq_true (by kernel_rfl)
theorem Um:Tryz.prog.cellsOf 39=4:=by kernel_rfl
theorem Un:0<Tryz.prog.bytesOf 39:=of_decide_eq_true (by kernel_rfl)
structure MM where
 name:b7
 args:Sl b7
def Xc(a:MM):List AV:=[.str a.name,ak AM.encS 1 a.args]
def MM.ok(a:MM):Prop:=a.name.length<=cM/\a.args.l.length<=cM/\∀ s ∈ a.args.l,s.length<=cM
section
variable {H:Type} {enc:TypeId×Value->H} {w:World}
theorem afH:RD enc Tryz.prog w 69 (fun x:Sl b7=>[ak AM.encS 1 x]) (fun x=>x.l.length<=cM/\∀ a ∈ x.l,a.length<=cM):=
 oE Tryz.underlying69 Xa (by omega) Xb (uF Tryz.underlying9)
theorem acw:RD enc Tryz.prog w 85 Xc MM.ok:=by
 intro fuel cs d ps h
 obtain ⟨xs,⟨ds,rfl,d0,XM,x0,y0,rfl,rfl,⟨a0,rfl,h0⟩,d1,UI,x1,y1,rfl,rfl,⟨a1,rfl,h1⟩,rfl,rfl⟩,hv⟩:=
  nN Tryz.underlying85 (by kernel_rfl) (gK rfl (uF Tryz.underlying9) (gK (by kernel_rfl) afH (uG _))) fuel cs d ps h
 exact ⟨_,⟨⟨a0,a1⟩,rfl,fun hs=>⟨h0 (iT Tryz.underlying85 hs (j:=0) rfl rfl),h1 (iT Tryz.underlying85 hs (j:=1) rfl rfl)⟩⟩,hv⟩
theorem acy:RD enc Tryz.prog w 139 bM eO.ok:=by
 intro fuel cs d ps h
 obtain ⟨xs,⟨ds,rfl,d0,XM,x0,y0,rfl,rfl,⟨a0,rfl,h0⟩,d1,UI,x1,y1,rfl,rfl,⟨a1,rfl,h1⟩,d2,ds2,x2,y2,rfl,rfl,⟨a2,rfl,h2⟩,rfl,rfl⟩,hv⟩:=
  nN Tryz.underlying139 (by kernel_rfl) (gK rfl (Cr Tryz.underlying3) (gK (by kernel_rfl) (Me Tryz.underlying4) (gK (by kernel_rfl) acw (uG _)))) fuel cs d ps h
 exact ⟨_,⟨⟨a0,a1,a2.name,a2.args⟩,rfl,fun hs=>h2 (iT Tryz.underlying139 hs (j:=2) rfl rfl)⟩,hv⟩
theorem afJ:RD enc Tryz.prog w 86 (fun x:Sl eO=>[ak bM 4 x]) (fun x=>x.l.length<=cM/\∀ a ∈ x.l,a.ok):=
 oE Tryz.underlying86 QW (by omega) QX acy
theorem afK:RD enc Tryz.prog w 88 aP aO.ok:=by
 intro fuel cs d ps h
 obtain ⟨xs,⟨ds,rfl,d0,XM,x0,y0,rfl,rfl,⟨a0,rfl,h0⟩,d1,UI,x1,y1,rfl,rfl,⟨a1,rfl,h1⟩,rfl,rfl⟩,hv⟩:=
  nN Tryz.underlying88 (by kernel_rfl) (gK rfl acw (gK (by kernel_rfl) afJ (uG _))) fuel cs d ps h
 refine ⟨_,⟨⟨a0.name,a0.args,a1⟩,rfl,fun hs=>?_⟩,hv⟩;obtain ⟨q1,q2,q3⟩:=h0 (iT Tryz.underlying88 hs (j:=0) rfl rfl);obtain ⟨q4,q5⟩:=h1 (iT Tryz.underlying88 hs (j:=1) rfl rfl);exact ⟨q1,q2,q3,q4,q5⟩
theorem afL:RD enc Tryz.prog w 22 (fun x:Sl aO=>[ak aP 3 x]) (fun x=>x.l.length<=cM/\∀ a ∈ x.l,a.ok):=
 oE Tryz.underlying22 Ug (by omega) Uh afK
theorem afM:RD enc Tryz.prog w 62 (fun x:Sl (Sl Int)=>[ak cU 1 x]) (fun x=>x.l.length<=cM/\∀ a ∈ x.l,a.l.length<=cM/\∀ b ∈ a.l,True):=
 oE Tryz.underlying62 Uj (by omega) Ul Yq
theorem afN:RD enc Tryz.prog w 65 aQ AM.Rel.ok:=by
 intro fuel cs d ps h
 obtain ⟨xs,⟨ds,rfl,d0,XM,x0,y0,rfl,rfl,⟨a0,rfl,h0⟩,d1,UI,x1,y1,rfl,rfl,⟨a1,rfl,h1⟩,d2,ds2,x2,y2,rfl,rfl,⟨a2,rfl,h2⟩,rfl,rfl⟩,hv⟩:=
  nN Tryz.underlying65 (by kernel_rfl) (gK rfl (uF Tryz.underlying9) (gK (by kernel_rfl) (Cr Tryz.underlying3) (gK (by kernel_rfl) afM (uG _)))) fuel cs d ps h
 refine ⟨_,⟨⟨a0,a1,a2⟩,rfl,fun hs=>⟨?_,?_,?_⟩⟩,hv⟩
 ·exact h0 (iT Tryz.underlying65 hs (j:=0) rfl rfl)
 ·exact (h2 (iT Tryz.underlying65 hs (j:=2) rfl rfl)).1
 ·exact fun t ht=>((h2 (iT Tryz.underlying65 hs (j:=2) rfl rfl)).2 t ht).1
theorem afO:RD enc Tryz.prog w 23 (fun x:Sl AM.Rel=>[ak aQ 3 x]) (fun x=>x.l.length<=cM/\∀ a ∈ x.l,a.ok):=
 oE Tryz.underlying23 Ui (by omega) Uk afN
theorem afP:RD enc Tryz.prog w 25 an cD.ok:=by
 intro fuel cs d ps h
 obtain ⟨xs,⟨ds,rfl,d0,XM,x0,y0,rfl,rfl,⟨a0,rfl,h0⟩,d1,UI,x1,y1,rfl,rfl,⟨a1,rfl,h1⟩,rfl,rfl⟩,hv⟩:=
  nN Tryz.underlying25 (by kernel_rfl) (gK rfl (Cr Tryz.underlying3) (gK (by kernel_rfl) afO (uG _))) fuel cs d ps h
 exact ⟨_,⟨⟨a0,a1⟩,rfl,fun hs=>h1 (iT Tryz.underlying25 hs (j:=1) rfl rfl)⟩,hv⟩
theorem afQ:RD enc Tryz.prog w 39 nw EX.ok:=by
 intro fuel cs d ps h
 obtain ⟨xs,⟨ds,rfl,d0,XM,x0,y0,rfl,rfl,⟨a0,rfl,h0⟩,d1,UI,x1,y1,rfl,rfl,⟨a1,rfl,h1⟩,d2,ds2,x2,y2,rfl,rfl,⟨a2,rfl,h2⟩,d3,ds3,x3,y3,rfl,rfl,⟨a3,rfl,h3⟩,rfl,rfl⟩,hv⟩:=
  nN Tryz.underlying39 (by kernel_rfl) (gK rfl (Cr Tryz.underlying3) (gK (by kernel_rfl) rd9 (gK (by kernel_rfl) Yq (gK (by kernel_rfl) rd4 (uG _))))) fuel cs d ps h
 exact ⟨_,⟨⟨a0,a1,a2,a3⟩,rfl,fun hs=>⟨h1 (iT Tryz.underlying39 hs (j:=1) rfl rfl),(h2 (iT Tryz.underlying39 hs (j:=2) rfl rfl)).1⟩⟩,hv⟩
theorem afR:RD enc Tryz.prog w 26 (fun x:Sl EX=>[ak nw 4 x]) (fun x=>x.l.length<=cM/\∀ a ∈ x.l,a.ok):=
 oE Tryz.underlying26 Um (by omega) Un afQ
end
end Go.AM.Yp