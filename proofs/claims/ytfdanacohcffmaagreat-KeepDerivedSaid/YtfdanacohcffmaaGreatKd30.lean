/- The arguments of the laws about keepers, read as data: rules, structures, calls. Conditions: none. -/
import Derived.Test.YtfdanacohcffmaaGreatKd16
import Derived.Test.YtfdanacohcffmaaGreatKd26
import Derived.Test.YtfdanacohcffmaaGreatKd28
set_option linter.unusedVariables false
namespace Go.AM.ZI
open Go Go.AM Go.Proofs Go.Proofs.YtfdanacohcffmaaGreat Go.ChangeShapes Go.WideShapes Go.ChangeAt Go.RowKit
theorem YA:Tryz.prog.cellsOf 9=1:=by kernel_rfl
theorem Sz:Tryz.prog.cellsOf 139=4:=by kernel_rfl
theorem VL:Tryz.prog.cellsOf 88=3:=by kernel_rfl
theorem YB:0<Tryz.prog.bytesOf 9:=of_decide_eq_true (by kernel_rfl)
theorem SA:0<Tryz.prog.bytesOf 139:=of_decide_eq_true (by kernel_rfl)
theorem VM:0<Tryz.prog.bytesOf 88:=of_decide_eq_true (by kernel_rfl)
theorem VN:Tryz.prog.cellsOf 65=3:=by kernel_rfl
theorem VO:Tryz.prog.cellsOf 37=1:=by kernel_rfl
theorem VP:0<Tryz.prog.bytesOf 65:=of_decide_eq_true (by kernel_rfl)
theorem VQ:0<Tryz.prog.bytesOf 37:=of_decide_eq_true (by kernel_rfl)
theorem VS:Tryz.prog.cellsOf 39=4:=by kernel_rfl
theorem VT:0<Tryz.prog.bytesOf 39:=of_decide_eq_true (by kernel_rfl)
structure N8 where
 name:b8
 args:Sl b8
def YC(a:N8):List AV:=[.str a.name,ak AM.encS 1 a.args]
def N8.ok(a:N8):Prop:=a.name.length<=cE/\a.args.l.length<=cE/\∀ s ∈ a.args.l,s.length<=cE
section
variable {H:Type} {enc:TypeId×Value->H} {w:World}
theorem agK:RD enc Tryz.prog w 69 (fun x:Sl b8=>[ak AM.encS 1 x]) (fun x=>x.l.length<=cE/\∀ a ∈ x.l,a.length<=cE):=
 pJ Tryz.underlying69 YA (by omega) YB (vH Tryz.underlying9)
theorem adD:RD enc Tryz.prog w 85 YC N8.ok:=by
 intro fuel cs d ps h
 obtain ⟨xs,⟨ds,rfl,d0,Y9,x0,y0,rfl,rfl,⟨a0,rfl,h0⟩,d1,Wg,x1,y1,rfl,rfl,⟨a1,rfl,h1⟩,rfl,rfl⟩,hv⟩:=
  oM Tryz.underlying85 (by kernel_rfl) (g9 rfl (vH Tryz.underlying9) (g9 (by kernel_rfl) agK (vI _))) fuel cs d ps h
 exact ⟨_,⟨⟨a0,a1⟩,rfl,fun hs=>⟨h0 (je Tryz.underlying85 hs (j:=0) rfl rfl),h1 (je Tryz.underlying85 hs (j:=1) rfl rfl)⟩⟩,hv⟩
theorem adE:RD enc Tryz.prog w 139 bP eV.ok:=by
 intro fuel cs d ps h
 obtain ⟨xs,⟨ds,rfl,d0,Y9,x0,y0,rfl,rfl,⟨a0,rfl,h0⟩,d1,Wg,x1,y1,rfl,rfl,⟨a1,rfl,h1⟩,d2,ds2,x2,y2,rfl,rfl,⟨a2,rfl,h2⟩,rfl,rfl⟩,hv⟩:=
  oM Tryz.underlying139 (by kernel_rfl) (g9 rfl (Dd Tryz.underlying3) (g9 (by kernel_rfl) (Nr Tryz.underlying4) (g9 (by kernel_rfl) adD (vI _)))) fuel cs d ps h
 exact ⟨_,⟨⟨a0,a1,a2.name,a2.args⟩,rfl,fun hs=>h2 (je Tryz.underlying139 hs (j:=2) rfl rfl)⟩,hv⟩
theorem agM:RD enc Tryz.prog w 86 (fun x:Sl eV=>[ak bP 4 x]) (fun x=>x.l.length<=cE/\∀ a ∈ x.l,a.ok):=
 pJ Tryz.underlying86 Sz (by omega) SA adE
theorem agN:RD enc Tryz.prog w 88 aO aN.ok:=by
 intro fuel cs d ps h
 obtain ⟨xs,⟨ds,rfl,d0,Y9,x0,y0,rfl,rfl,⟨a0,rfl,h0⟩,d1,Wg,x1,y1,rfl,rfl,⟨a1,rfl,h1⟩,rfl,rfl⟩,hv⟩:=
  oM Tryz.underlying88 (by kernel_rfl) (g9 rfl adD (g9 (by kernel_rfl) agM (vI _))) fuel cs d ps h
 refine ⟨_,⟨⟨a0.name,a0.args,a1⟩,rfl,fun hs=>?_⟩,hv⟩;obtain ⟨q1,q2,q3⟩:=h0 (je Tryz.underlying88 hs (j:=0) rfl rfl);obtain ⟨q4,q5⟩:=h1 (je Tryz.underlying88 hs (j:=1) rfl rfl);exact ⟨q1,q2,q3,q4,q5⟩
theorem agO:RD enc Tryz.prog w 22 (fun x:Sl aN=>[ak aO 3 x]) (fun x=>x.l.length<=cE/\∀ a ∈ x.l,a.ok):=
 pJ Tryz.underlying22 VL (by omega) VM agN
theorem agP:RD enc Tryz.prog w 62 (fun x:Sl (Sl Int)=>[ak cU 1 x]) (fun x=>x.l.length<=cE/\∀ a ∈ x.l,a.l.length<=cE/\∀ b ∈ a.l,True):=
 pJ Tryz.underlying62 VO (by omega) VQ ZJ
theorem agQ:RD enc Tryz.prog w 65 aW AM.Rel.ok:=by
 intro fuel cs d ps h
 obtain ⟨xs,⟨ds,rfl,d0,Y9,x0,y0,rfl,rfl,⟨a0,rfl,h0⟩,d1,Wg,x1,y1,rfl,rfl,⟨a1,rfl,h1⟩,d2,ds2,x2,y2,rfl,rfl,⟨a2,rfl,h2⟩,rfl,rfl⟩,hv⟩:=
  oM Tryz.underlying65 (by kernel_rfl) (g9 rfl (vH Tryz.underlying9) (g9 (by kernel_rfl) (Dd Tryz.underlying3) (g9 (by kernel_rfl) agP (vI _)))) fuel cs d ps h
 refine ⟨_,⟨⟨a0,a1,a2⟩,rfl,fun hs=>⟨?_,?_,?_⟩⟩,hv⟩
 ·exact h0 (je Tryz.underlying65 hs (j:=0) rfl rfl)
 ·exact (h2 (je Tryz.underlying65 hs (j:=2) rfl rfl)).1
 ·exact fun t ht=>((h2 (je Tryz.underlying65 hs (j:=2) rfl rfl)).2 t ht).1
theorem agR:RD enc Tryz.prog w 23 (fun x:Sl AM.Rel=>[ak aW 3 x]) (fun x=>x.l.length<=cE/\∀ a ∈ x.l,a.ok):=
 pJ Tryz.underlying23 VN (by omega) VP agQ
theorem agS:RD enc Tryz.prog w 25 aq di.ok:=by
 intro fuel cs d ps h
 obtain ⟨xs,⟨ds,rfl,d0,Y9,x0,y0,rfl,rfl,⟨a0,rfl,h0⟩,d1,Wg,x1,y1,rfl,rfl,⟨a1,rfl,h1⟩,rfl,rfl⟩,hv⟩:=
  oM Tryz.underlying25 (by kernel_rfl) (g9 rfl (Dd Tryz.underlying3) (g9 (by kernel_rfl) agR (vI _))) fuel cs d ps h
 exact ⟨_,⟨⟨a0,a1⟩,rfl,fun hs=>h1 (je Tryz.underlying25 hs (j:=1) rfl rfl)⟩,hv⟩
theorem agT:RD enc Tryz.prog w 39 rP FO.ok:=by
 intro fuel cs d ps h
 obtain ⟨xs,⟨ds,rfl,d0,Y9,x0,y0,rfl,rfl,⟨a0,rfl,h0⟩,d1,Wg,x1,y1,rfl,rfl,⟨a1,rfl,h1⟩,d2,ds2,x2,y2,rfl,rfl,⟨a2,rfl,h2⟩,d3,ds3,x3,y3,rfl,rfl,⟨a3,rfl,h3⟩,rfl,rfl⟩,hv⟩:=
  oM Tryz.underlying39 (by kernel_rfl) (g9 rfl (Dd Tryz.underlying3) (g9 (by kernel_rfl) rd9 (g9 (by kernel_rfl) ZJ (g9 (by kernel_rfl) rd4 (vI _))))) fuel cs d ps h
 exact ⟨_,⟨⟨a0,a1,a2,a3⟩,rfl,fun hs=>⟨h1 (je Tryz.underlying39 hs (j:=1) rfl rfl),(h2 (je Tryz.underlying39 hs (j:=2) rfl rfl)).1⟩⟩,hv⟩
theorem agU:RD enc Tryz.prog w 26 (fun x:Sl FO=>[ak rP 4 x]) (fun x=>x.l.length<=cE/\∀ a ∈ x.l,a.ok):=
 pJ Tryz.underlying26 VS (by omega) VT agT
end
end Go.AM.ZI