/- The arguments of the laws about keepers, read as data: rules, structures, calls. Conditions: none. -/
import Derived.Test.YtfdanacohcffmaaGreatKp16
import Derived.Test.YtfdanacohcffmaaGreatKp28
set_option linter.unusedVariables false
namespace Go.AM.KeT
open Go Go.AM Go.Proofs Go.Proofs.YtfdanacohcffmaaGreat Go.ChangeShapes Go.WideShapes Go.ChangeAt Go.RowKit
theorem ae1:Tryz.prog.cellsOf 9=1:=by kernel_rfl
theorem Yu:Tryz.prog.cellsOf 139=4:=by kernel_rfl
theorem abT:Tryz.prog.cellsOf 88=3:=by kernel_rfl
theorem ae2:0<Tryz.prog.bytesOf 9:=of_decide_eq_true (by kernel_rfl)
theorem Yv:0<Tryz.prog.bytesOf 139:=of_decide_eq_true (by kernel_rfl)
theorem abU:0<Tryz.prog.bytesOf 88:=of_decide_eq_true (by kernel_rfl)
theorem abV:Tryz.prog.cellsOf 65=3:=by kernel_rfl
theorem abW:Tryz.prog.cellsOf 37=1:=by kernel_rfl
theorem abX:0<Tryz.prog.bytesOf 65:=of_decide_eq_true (by kernel_rfl)
theorem abY:0<Tryz.prog.bytesOf 37:=of_decide_eq_true (by kernel_rfl)
theorem abZ:Tryz.prog.cellsOf 39=4:=by kernel_rfl
theorem ab0:0<Tryz.prog.bytesOf 39:=of_decide_eq_true (by kernel_rfl)
structure T7 where
 name:cc
 args:Sl cc
def ae3(a:T7):List AV:=[.str a.name,iz a.args]
def T7.ok(a:T7):Prop:=a.name.length<=cw/\a.args.l.length<=cw/\∀ s ∈ a.args.l,s.length<=cw
section
variable {H:Type} {enc:TypeId×Value->H} {w:World}
theorem aom:RD enc Tryz.prog w 69 (fun x:Sl cc=>[iz x]) (fun x=>x.l.length<=cw/\∀ a ∈ x.l,a.length<=cw):=
 tC Tryz.underlying69 ae1 (by omega) ae2 (zL Tryz.underlying9)
theorem ako:RD enc Tryz.prog w 85 ae3 T7.ok:=by
 intro fuel cs d ps h
 obtain ⟨xs,⟨ds,rfl,d0,ds0,x0,y0,rfl,rfl,⟨a0,rfl,h0⟩,d1,ds1,x1,y1,rfl,rfl,⟨a1,rfl,h1⟩,rfl,rfl⟩,hv⟩:=
  sH Tryz.underlying85 (by kernel_rfl) (jB rfl (zL Tryz.underlying9) (jB (by kernel_rfl) aom (zM _))) fuel cs d ps h
 exact ⟨_,⟨⟨a0,a1⟩,rfl,fun hs=>⟨h0 (lC Tryz.underlying85 hs (j:=0) rfl rfl),h1 (lC Tryz.underlying85 hs (j:=1) rfl rfl)⟩⟩,hv⟩
theorem akp:RD enc Tryz.prog w 139 dZ fT.ok:=by
 intro fuel cs d ps h
 obtain ⟨xs,⟨ds,rfl,d0,ds0,x0,y0,rfl,rfl,⟨a0,rfl,h0⟩,d1,ds1,x1,y1,rfl,rfl,⟨a1,rfl,h1⟩,d2,ds2,x2,y2,rfl,rfl,⟨a2,rfl,h2⟩,rfl,rfl⟩,hv⟩:=
  sH Tryz.underlying139 (by kernel_rfl) (jB rfl (Hp Tryz.underlying3) (jB (by kernel_rfl) (Tj Tryz.underlying4) (jB (by kernel_rfl) ako (zM _)))) fuel cs d ps h
 exact ⟨_,⟨⟨a0,a1,a2.name,a2.args⟩,rfl,fun hs=>h2 (lC Tryz.underlying139 hs (j:=2) rfl rfl)⟩,hv⟩
theorem aoo:RD enc Tryz.prog w 86 (fun x:Sl fT=>[uE x]) (fun x=>x.l.length<=cw/\∀ a ∈ x.l,a.ok):=
 tC Tryz.underlying86 Yu (by omega) Yv akp
theorem aop:RD enc Tryz.prog w 88 bY aI.ok:=by
 intro fuel cs d ps h
 obtain ⟨xs,⟨ds,rfl,d0,ds0,x0,y0,rfl,rfl,⟨a0,rfl,h0⟩,d1,ds1,x1,y1,rfl,rfl,⟨a1,rfl,h1⟩,rfl,rfl⟩,hv⟩:=
  sH Tryz.underlying88 (by kernel_rfl) (jB rfl ako (jB (by kernel_rfl) aoo (zM _))) fuel cs d ps h
 refine ⟨_,⟨⟨a0.name,a0.args,a1⟩,rfl,fun hs=>?_⟩,hv⟩;obtain ⟨q1,q2,q3⟩:=h0 (lC Tryz.underlying88 hs (j:=0) rfl rfl);obtain ⟨q4,q5⟩:=h1 (lC Tryz.underlying88 hs (j:=1) rfl rfl);exact ⟨q1,q2,q3,q4,q5⟩
theorem aoq:RD enc Tryz.prog w 22 (fun x:Sl aI=>[gm x]) (fun x=>x.l.length<=cw/\∀ a ∈ x.l,a.ok):=
 tC Tryz.underlying22 abT (by omega) abU aop
theorem aor:RD enc Tryz.prog w 62 (fun x:Sl (Sl Int)=>[kM x]) (fun x=>x.l.length<=cw/\∀ a ∈ x.l,a.l.length<=cw/\∀ b ∈ a.l,True):=
 tC Tryz.underlying62 abW (by omega) abY agc
theorem aos:RD enc Tryz.prog w 65 aY AM.Rel.ok:=by
 intro fuel cs d ps h
 obtain ⟨xs,⟨ds,rfl,d0,ds0,x0,y0,rfl,rfl,⟨a0,rfl,h0⟩,d1,ds1,x1,y1,rfl,rfl,⟨a1,rfl,h1⟩,d2,ds2,x2,y2,rfl,rfl,⟨a2,rfl,h2⟩,rfl,rfl⟩,hv⟩:=
  sH Tryz.underlying65 (by kernel_rfl) (jB rfl (zL Tryz.underlying9) (jB (by kernel_rfl) (Hp Tryz.underlying3) (jB (by kernel_rfl) aor (zM _)))) fuel cs d ps h
 refine ⟨_,⟨⟨a0,a1,a2⟩,rfl,fun hs=>⟨?_,?_,?_⟩⟩,hv⟩
 ·exact h0 (lC Tryz.underlying65 hs (j:=0) rfl rfl)
 ·exact (h2 (lC Tryz.underlying65 hs (j:=2) rfl rfl)).1
 ·exact fun t ht=>((h2 (lC Tryz.underlying65 hs (j:=2) rfl rfl)).2 t ht).1
theorem aot:RD enc Tryz.prog w 23 (fun x:Sl AM.Rel=>[qm x]) (fun x=>x.l.length<=cw/\∀ a ∈ x.l,a.ok):=
 tC Tryz.underlying23 abV (by omega) abX aos
theorem aou:RD enc Tryz.prog w 25 ah ct.ok:=by
 intro fuel cs d ps h
 obtain ⟨xs,⟨ds,rfl,d0,ds0,x0,y0,rfl,rfl,⟨a0,rfl,h0⟩,d1,ds1,x1,y1,rfl,rfl,⟨a1,rfl,h1⟩,rfl,rfl⟩,hv⟩:=
  sH Tryz.underlying25 (by kernel_rfl) (jB rfl (Hp Tryz.underlying3) (jB (by kernel_rfl) aot (zM _))) fuel cs d ps h
 exact ⟨_,⟨⟨a0,a1⟩,rfl,fun hs=>h1 (lC Tryz.underlying25 hs (j:=1) rfl rfl)⟩,hv⟩
theorem aov:RD enc Tryz.prog w 39 qh Ge.ok:=by
 intro fuel cs d ps h
 obtain ⟨xs,⟨ds,rfl,d0,ds0,x0,y0,rfl,rfl,⟨a0,rfl,h0⟩,d1,ds1,x1,y1,rfl,rfl,⟨a1,rfl,h1⟩,d2,ds2,x2,y2,rfl,rfl,⟨a2,rfl,h2⟩,d3,ds3,x3,y3,rfl,rfl,⟨a3,rfl,h3⟩,rfl,rfl⟩,hv⟩:=
  sH Tryz.underlying39 (by kernel_rfl) (jB rfl (Hp Tryz.underlying3) (jB (by kernel_rfl) rd9 (jB (by kernel_rfl) agc (jB (by kernel_rfl) rd4 (zM _))))) fuel cs d ps h
 exact ⟨_,⟨⟨a0,a1,a2,a3⟩,rfl,fun hs=>⟨h1 (lC Tryz.underlying39 hs (j:=1) rfl rfl),(h2 (lC Tryz.underlying39 hs (j:=2) rfl rfl)).1⟩⟩,hv⟩
theorem aow:RD enc Tryz.prog w 26 (fun x:Sl Ge=>[eAc x]) (fun x=>x.l.length<=cw/\∀ a ∈ x.l,a.ok):=
 tC Tryz.underlying26 abZ (by omega) ab0 aov
end
end Go.AM.KeT