/- Parts of the proof. Conditions: none. -/
import Derived.Test.YtmkffehchicgaaaGreatPf12
import Derived.Test.YtmkffehchicgaaaGreatPf13
import Derived.Test.YtmkffehchicgaaaGreatPf23
import Derived.Test.YtmkffehchicgaaaGreatRows
import Derived.WalkKit
import Derived.ProofKit
import Derived.OpenShut
import Derived.Deep.DeepHandedRow
import Derived.Lib.LaidTab
set_option linter.unusedVariables false
namespace Go.AM.RuT
open Go Go.AM Go.Proofs Go.Proofs.YtmkffehchicgaaaGreat Go.ChangeShapes Go.WideShapes Go.ChangeAt Go.RowKit
theorem own:ownKnob Tryz.prog.godebug=none:=by kernel_rfl
theorem laidOut:laidOutB Tryz.prog=true:=by kernel_rfl
theorem abD:Tryz.prog.cellsOf 9=1:=by kernel_rfl
theorem VD:Tryz.prog.cellsOf 143=4:=by kernel_rfl
theorem Y9:Tryz.prog.cellsOf 86=3:=by kernel_rfl
theorem abE:0<Tryz.prog.bytesOf 9:=of_decide_eq_true (by kernel_rfl)
theorem VE:0<Tryz.prog.bytesOf 143:=of_decide_eq_true (by kernel_rfl)
theorem Za:0<Tryz.prog.bytesOf 86:=of_decide_eq_true (by kernel_rfl)
theorem Zb:Tryz.prog.cellsOf 39=3:=by kernel_rfl
theorem Zc:Tryz.prog.cellsOf 41=1:=by kernel_rfl
theorem abF:Tryz.prog.cellsOf 3=1:=by kernel_rfl
theorem Zd:0<Tryz.prog.bytesOf 39:=of_decide_eq_true (by kernel_rfl)
theorem Ze:0<Tryz.prog.bytesOf 41:=of_decide_eq_true (by kernel_rfl)
theorem abG:0<Tryz.prog.bytesOf 3:=of_decide_eq_true (by kernel_rfl)
structure Re where
 name:bQ
 args:Sl bQ
def abH(a:Re):List AV:=[.str a.name,an AM.encS 1 a.args]
def Re.ok(a:Re):Prop:=a.name.length<=cu/\a.args.l.length<=cu/\∀ s ∈ a.args.l,s.length<=cu
section
variable {H:Type} {enc:TypeId×Value->H} {w:World}
theorem akE:RD enc Tryz.prog w 60 (fun x:Sl bQ=>[an AM.encS 1 x]) (fun x=>x.l.length<=cu/\∀ a ∈ x.l,a.length<=cu):=
 tQ Tryz.underlying60 abD (by omega) abE (yo Tryz.underlying9)
theorem ag8:RD enc Tryz.prog w 83 abH Re.ok:=by
 intro fuel cs d ps h
 obtain ⟨xs,⟨ds,rfl,d0,ds0,x0,y0,rfl,rfl,⟨a0,rfl,h0⟩,d1,ZG,x1,y1,rfl,rfl,⟨a1,rfl,h1⟩,rfl,rfl⟩,hv⟩:=
  qZ Tryz.underlying83 (by kernel_rfl) (jQ rfl (yo Tryz.underlying9) (jQ (by kernel_rfl) akE (yp _))) fuel cs d ps h
 exact ⟨_,⟨⟨a0,a1⟩,rfl,fun hs=>⟨h0 (kg Tryz.underlying83 hs (j:=0) rfl rfl),h1 (kg Tryz.underlying83 hs (j:=1) rfl rfl)⟩⟩,hv⟩
theorem ag9:RD enc Tryz.prog w 143 bR dD.ok:=by
 intro fuel cs d ps h
 obtain ⟨xs,⟨ds,rfl,d0,ds0,x0,y0,rfl,rfl,⟨a0,rfl,h0⟩,d1,ZG,x1,y1,rfl,rfl,⟨a1,rfl,h1⟩,d2,ds2,x2,y2,rfl,rfl,⟨a2,rfl,h2⟩,rfl,rfl⟩,hv⟩:=
  qZ Tryz.underlying143 (by kernel_rfl) (jQ rfl (Ky Tryz.underlying3) (jQ (by kernel_rfl) (W5 Tryz.underlying4) (jQ (by kernel_rfl) ag8 (yp _)))) fuel cs d ps h
 exact ⟨_,⟨⟨a0,a1,a2.name,a2.args⟩,rfl,fun hs=>h2 (kg Tryz.underlying143 hs (j:=2) rfl rfl)⟩,hv⟩
theorem akF:RD enc Tryz.prog w 84 (fun x:Sl dD=>[an bR 4 x]) (fun x=>x.l.length<=cu/\∀ a ∈ x.l,a.ok):=
 tQ Tryz.underlying84 VD (by omega) VE ag9
theorem akG:RD enc Tryz.prog w 86 aO aR.ok:=by
 intro fuel cs d ps h
 obtain ⟨xs,⟨ds,rfl,d0,ds0,x0,y0,rfl,rfl,⟨a0,rfl,h0⟩,d1,ZG,x1,y1,rfl,rfl,⟨a1,rfl,h1⟩,rfl,rfl⟩,hv⟩:=
  qZ Tryz.underlying86 (by kernel_rfl) (jQ rfl ag8 (jQ (by kernel_rfl) akF (yp _))) fuel cs d ps h
 refine ⟨_,⟨⟨a0.name,a0.args,a1⟩,rfl,fun hs=>?_⟩,hv⟩;obtain ⟨q1,q2,q3⟩:=h0 (kg Tryz.underlying86 hs (j:=0) rfl rfl);obtain ⟨q4,q5⟩:=h1 (kg Tryz.underlying86 hs (j:=1) rfl rfl);exact ⟨q1,q2,q3,q4,q5⟩
theorem akH:RD enc Tryz.prog w 22 (fun x:Sl aR=>[an aO 3 x]) (fun x=>x.l.length<=cu/\∀ a ∈ x.l,a.ok):=
 tQ Tryz.underlying22 Y9 (by omega) Za akG
theorem aha:RD enc Tryz.prog w 41 (fun x:Sl Int=>[an AM.encI 1 x]) (fun x=>x.l.length<=cu/\∀ a ∈ x.l,True):=
 tQ Tryz.underlying41 abF (by omega) abG (Ky Tryz.underlying3)
theorem akI:RD enc Tryz.prog w 36 (fun x:Sl (Sl Int)=>[an eu 1 x]) (fun x=>x.l.length<=cu/\∀ a ∈ x.l,a.l.length<=cu/\∀ b ∈ a.l,True):=
 tQ Tryz.underlying36 Zc (by omega) Ze aha
theorem akJ:RD enc Tryz.prog w 39 bO AM.Rel.ok:=by
 intro fuel cs d ps h
 obtain ⟨xs,⟨ds,rfl,d0,ds0,x0,y0,rfl,rfl,⟨a0,rfl,h0⟩,d1,ZG,x1,y1,rfl,rfl,⟨a1,rfl,h1⟩,d2,ds2,x2,y2,rfl,rfl,⟨a2,rfl,h2⟩,rfl,rfl⟩,hv⟩:=
  qZ Tryz.underlying39 (by kernel_rfl) (jQ rfl (yo Tryz.underlying9) (jQ (by kernel_rfl) (Ky Tryz.underlying3) (jQ (by kernel_rfl) akI (yp _)))) fuel cs d ps h
 refine ⟨_,⟨⟨a0,a1,a2⟩,rfl,fun hs=>⟨?_,?_,?_⟩⟩,hv⟩
 ·exact h0 (kg Tryz.underlying39 hs (j:=0) rfl rfl)
 ·exact (h2 (kg Tryz.underlying39 hs (j:=2) rfl rfl)).1
 ·exact fun t ht=>((h2 (kg Tryz.underlying39 hs (j:=2) rfl rfl)).2 t ht).1
theorem akK:RD enc Tryz.prog w 23 (fun x:Sl AM.Rel=>[an bO 3 x]) (fun x=>x.l.length<=cu/\∀ a ∈ x.l,a.ok):=
 tQ Tryz.underlying23 Zb (by omega) Zd akJ
theorem akL:RD enc Tryz.prog w 25 aB eG.ok:=by
 intro fuel cs d ps h
 obtain ⟨xs,⟨ds,rfl,d0,ds0,x0,y0,rfl,rfl,⟨a0,rfl,h0⟩,d1,ZG,x1,y1,rfl,rfl,⟨a1,rfl,h1⟩,rfl,rfl⟩,hv⟩:=
  qZ Tryz.underlying25 (by kernel_rfl) (jQ rfl (Ky Tryz.underlying3) (jQ (by kernel_rfl) akK (yp _))) fuel cs d ps h
 exact ⟨_,⟨⟨a0,a1⟩,rfl,fun hs=>h1 (kg Tryz.underlying25 hs (j:=1) rfl rfl)⟩,hv⟩
end
theorem abI{w0:World}{μ:Mu}{xs:List AV}{v:Value}{vs:Array Value}(hv:v = .agg vs)(h:fO w0 μ xs v.cells.toList):VR w0 μ (.agg xs) v:=by
 subst hv;have:=VR.agg (w0:=w0) (μ:=μ) xs vs.toList h.len h.rel;simpa using this
theorem JN{w0:World}{μ:Mu}{xs:List AV}{v:Value}(h:fO w0 μ xs v.cells.toList)(hl:xs.length≠1):VR w0 μ (.agg xs) v:=by
 have:∃ vs,v = .agg vs:=by
  have DG:=h.len
  cases v with
  |agg vs=>exact ⟨vs,rfl⟩
  |_=>exfalso;simp [Value.cells] at DG;omega
 obtain ⟨vs,BH⟩:=this;exact abI BH h
theorem SQ(v:Value)(hv:∀ vs,v≠.agg vs):v.cells.toList = [v]:=by
 cases v<;>first|rfl|exact absurd rfl (hv _)
theorem abJ{w0:World}{μ:Mu}{x:AV}{v:Value}(h:fO w0 μ [x] v.cells.toList)(hv:∀ vs,v≠.agg vs):VR w0 μ x v:=by
 rw [SQ v hv] at h;exact h.rel 0 x v rfl rfl
theorem VF{P:Program}{w:World}{base:Nat}{ts:Array TypeId}{args:Array Value}(we:∀ (j:Nat) (t:TypeId) (v:Value),ts[j]?=some t->args[j]?=some v->Value.okWide P w .any base t v){j:Nat}{t e:TypeId}{v:Value}(ht:P.underlying t=some (.slice e))(h1:ts[j]?=some t)(h2:args[j]?=some v):∃ a len cap,v = .slice a len cap:=okWide_slice ht (we j t v h1 h2)
noncomputable def rj(os:Os):World:=World.holding Tryz.prog os ⟨#[],#[],[]⟩
end Go.AM.RuT
namespace Go.AM.RuT
open Go Go.AM Go.Proofs Go.Proofs.YtmkffehchicgaaaGreat Go.ChangeShapes Go.WideShapes Go.ChangeAt Go.RowKit
section
variable {H:Type} {enc:TypeId×Value->H} {w:World}
theorem akM:RD enc Tryz.prog w 45 lZ ZS.ok:=by
 intro fuel cs d ps h
 obtain ⟨xs,⟨ds,rfl,d0,ds0,x0,y0,rfl,rfl,⟨a0,rfl,h0⟩,d1,ZG,x1,y1,rfl,rfl,⟨a1,rfl,h1⟩,rfl,rfl⟩,hv⟩:=
  qZ Tryz.underlying45 (by kernel_rfl) (jQ rfl (yo Tryz.underlying9) (jQ (by kernel_rfl) aha (yp _))) fuel cs d ps h
 exact ⟨_,⟨⟨a0,a1⟩,rfl,fun hs=>⟨h0 (kg Tryz.underlying45 hs (j:=0) rfl rfl),(h1 (kg Tryz.underlying45 hs (j:=1) rfl rfl)).1⟩⟩,hv⟩
end
end Go.AM.RuT