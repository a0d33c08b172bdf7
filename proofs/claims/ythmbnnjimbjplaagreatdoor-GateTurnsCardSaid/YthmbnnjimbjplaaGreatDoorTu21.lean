/- Parts of the proof. Conditions: none. -/
import Derived.Test.YthmbnnjimbjplaaGreatDoorTu14
import Derived.Test.YthmbnnjimbjplaaGreatDoorTu20
import Derived.Test.YthmbnnjimbjplaaGreatDoorCards
import Derived.Test.YthmbnnjimbjplaaGreatDoorTie
import Derived.Deep.DeepHandedRow
import Derived.Lib.LaidTab
set_option linter.unusedSimpArgs false
set_option linter.unusedVariables false
namespace Go.AM.OA
open Go Go.AM Go.Proofs Go.Proofs.YthmbnnjimbjplaaGreatDoor Go.ChangeShapes Go.WideShapes Go.ChangeAt Go.RowKit
theorem own:ownKnob Tryz.prog.godebug=none:=by kernel_rfl
theorem laidOut:laidOutB Tryz.prog=true:=by kernel_rfl
theorem Ii:Tryz.prog.cellsOf 63=4:=by kernel_rfl
theorem Ij:Tryz.prog.cellsOf 67=3:=by kernel_rfl
theorem Ik:Tryz.prog.cellsOf 61=1:=by kernel_rfl
theorem Kj:Tryz.prog.cellsOf 3=1:=by kernel_rfl
theorem Il:0<Tryz.prog.bytesOf 63:=of_decide_eq_true (by kernel_rfl)
theorem Im:0<Tryz.prog.bytesOf 67:=of_decide_eq_true (by kernel_rfl)
theorem Io:0<Tryz.prog.bytesOf 61:=of_decide_eq_true (by kernel_rfl)
theorem Kk:0<Tryz.prog.bytesOf 3:=of_decide_eq_true (by kernel_rfl)
section
variable {H:Type} {enc:TypeId×Value->H} {w:World}
theorem Kl:RD enc Tryz.prog w 61 (fun x:Sl Int=>[gr x]) (fun x=>x.l.length<=dx/\∀ a ∈ x.l,True):=
 p8 Tryz.underlying61 Kj (by omega) Kk (vf Tryz.underlying3)
theorem OB:RD enc Tryz.prog w 63 bz Gate.ok:=by
 intro fuel cs d ps h
 obtain ⟨xs,⟨ds,rfl,d0,MS,x0,y0,rfl,rfl,⟨a0,rfl,h0⟩,d1,Kz,x1,y1,rfl,rfl,⟨a1,rfl,h1⟩,d2,S3,x2,y2,rfl,rfl,⟨a2,rfl,h2⟩,d3,TB,x3,y3,rfl,rfl,⟨a3,rfl,h3⟩,rfl,rfl⟩,hv⟩:=
  nr Tryz.underlying63 (by kernel_rfl) (fY rfl (vf Tryz.underlying3) (fY (by kernel_rfl) (yb Tryz.underlying9) (fY (by kernel_rfl) Kl (fY (by kernel_rfl) Kl (uf _))))) fuel cs d ps h
 refine ⟨_,⟨⟨a0,a1,a2,a3⟩,rfl,fun hs=>⟨?_,?_,?_⟩⟩,hv⟩
 ·exact h1 (gU Tryz.underlying63 hs (j:=1) rfl rfl)
 ·exact (h2 (gU Tryz.underlying63 hs (j:=2) rfl rfl)).1
 ·exact (h3 (gU Tryz.underlying63 hs (j:=3) rfl rfl)).1
theorem OC:RD enc Tryz.prog w 22 (fun x:Sl Gate=>[cp bz 4 x]) (fun x=>x.l.length<=dx/\∀ a ∈ x.l,a.ok):=
 p8 Tryz.underlying22 Ii (by omega) Il OB
theorem OD:RD enc Tryz.prog w 24 an fG.ok:=by
 intro fuel cs d ps h
 obtain ⟨xs,⟨ds,rfl,d0,MS,x0,y0,rfl,rfl,⟨a0,rfl,h0⟩,d1,Kz,x1,y1,rfl,rfl,⟨a1,rfl,h1⟩,rfl,rfl⟩,hv⟩:=
  nr Tryz.underlying24 (by kernel_rfl) (fY rfl (vf Tryz.underlying3) (fY (by kernel_rfl) OC (uf _))) fuel cs d ps h
 exact ⟨_,⟨⟨a0,a1⟩,rfl,fun hs=>h1 (gU Tryz.underlying24 hs (j:=1) rfl rfl)⟩,hv⟩
theorem OE:RD enc Tryz.prog w 64 (fun x:Sl (Sl Int)=>[zx x]) (fun x=>x.l.length<=dx/\∀ a ∈ x.l,a.l.length<=dx/\∀ b ∈ a.l,True):=
 p8 Tryz.underlying64 Ik (by omega) Io Kl
theorem OF:RD enc Tryz.prog w 67 bA AM.Rel.ok:=by
 intro fuel cs d ps h
 obtain ⟨xs,⟨ds,rfl,d0,MS,x0,y0,rfl,rfl,⟨a0,rfl,h0⟩,d1,Kz,x1,y1,rfl,rfl,⟨a1,rfl,h1⟩,d2,S3,x2,y2,rfl,rfl,⟨a2,rfl,h2⟩,rfl,rfl⟩,hv⟩:=
  nr Tryz.underlying67 (by kernel_rfl) (fY rfl (yb Tryz.underlying9) (fY (by kernel_rfl) (vf Tryz.underlying3) (fY (by kernel_rfl) OE (uf _)))) fuel cs d ps h
 refine ⟨_,⟨⟨a0,a1,a2⟩,rfl,fun hs=>⟨?_,?_,?_⟩⟩,hv⟩
 ·exact h0 (gU Tryz.underlying67 hs (j:=0) rfl rfl)
 ·exact (h2 (gU Tryz.underlying67 hs (j:=2) rfl rfl)).1
 ·exact fun t ht=>((h2 (gU Tryz.underlying67 hs (j:=2) rfl rfl)).2 t ht).1
theorem OG:RD enc Tryz.prog w 29 (fun x:Sl AM.Rel=>[BF x]) (fun x=>x.l.length<=dx/\∀ a ∈ x.l,a.ok):=
 p8 Tryz.underlying29 Ij (by omega) Im OF
theorem OH:RD enc Tryz.prog w 31 ak ew.ok:=by
 intro fuel cs d ps h
 obtain ⟨xs,⟨ds,rfl,d0,MS,x0,y0,rfl,rfl,⟨a0,rfl,h0⟩,d1,Kz,x1,y1,rfl,rfl,⟨a1,rfl,h1⟩,rfl,rfl⟩,hv⟩:=
  nr Tryz.underlying31 (by kernel_rfl) (fY rfl (vf Tryz.underlying3) (fY (by kernel_rfl) OG (uf _))) fuel cs d ps h
 exact ⟨_,⟨⟨a0,a1⟩,rfl,fun hs=>h1 (gU Tryz.underlying31 hs (j:=1) rfl rfl)⟩,hv⟩
end
theorem Km{w0:World}{μ:Mu}{xs:List AV}{v:Value}{vs:Array Value}(hv:v = .agg vs)(h:cj w0 μ xs v.cells.toList):VR w0 μ (.agg xs) v:=by
 subst hv;have:=VR.agg (w0:=w0) (μ:=μ) xs vs.toList h.len h.rel;simpa using this
theorem yz{w0:World}{μ:Mu}{xs:List AV}{v:Value}(h:cj w0 μ xs v.cells.toList)(hl:xs.length≠1):VR w0 μ (.agg xs) v:=by
 have:∃ vs,v = .agg vs:=by
  have uM:=h.len
  cases v with
  |agg vs=>exact ⟨vs,rfl⟩
  |_=>exfalso;simp [Value.cells] at uM;omega
 obtain ⟨vs,S4⟩:=this;exact Km S4 h
def Kn:DataW Unit->Value
 |.lit (.int k n)=>.int k n
 |_=>undef
def Ip:DataW Unit->Array Value
 |.agg l=>(l.map Kn).toArray
 |_=>#[]
def CI(w:World)(g:Nat)(d:DataW Unit):World:=
 { w with heap:=w.heap.modify g fun
   |.cells _ t frozen=>.cells (Ip d) t frozen
   |o=>o }
noncomputable def jr(os:Os):World:=
 CI (CI (CI (World.holding Tryz.prog os ⟨#[],#[],[]⟩) 1 Rows.laid_math_bits_deBruijn32tab) 2 Rows.laid_math_bits_deBruijn64tab) 0 Rows.laid_internal_strconv_uint64pow10
end Go.AM.OA
namespace Go.Proofs.YthmbnnjimbjplaaGreatDoor.gateTurns
open Go Go.AM Go.AM.OA Go.ChangeShapes Go.WideShapes Go.ChangeAt Go.RowKit
set_option maxRecDepth 100000 in
theorem Gw(H:Type)(enc:TypeId×Value->H)(W:World)(base:Nat)(args:Array Value)(ds gs:List (DataW H))(before:List MemPlace)
  (Gh:∀ (j:Nat) t v,Tryz.f10.params[j]?=some t->args[j]?=some v->Value.okWide Tryz.prog W .any base t v)
  (hW:DataW.Whole enc Tryz.prog Tryz.f10.params.toList Rows.gateTurnsSpec.vars false W args.toList ds gs before)
  (zO:(DataW.weightsEach Tryz.prog (Tryz.f10.params.toList++(OpenSpec.ofChange Rows.gateTurnsSpec).bare.plain.varTypes Tryz.prog) (ds++gs)).all (·<=reachBytes)=true) :
  Calls Tryz.prog 10 args W fun e W'=>∃ v,e = .returned v/\Rows.gateTurnsSpec.post enc Tryz.prog Tryz.f10 false true false false W args v W':=by
 have S5:=hW;obtain ⟨p,q,S6,hV,rfl,hfz,CB⟩:=hW;have hA:DataW.TrodAll enc Tryz.prog W 0 (fun _=>true) true Tryz.f10.params.toList args.toList ds p:=S6;rw [Tryz.params10] at hA Gh;obtain ⟨v0,TC,d0,MS,p0,q0,sq,rfl,rfl,h0,r0⟩:=trodAll_cons hA;obtain ⟨v1,O2,d1,Kz,p1,q1,Ko,rfl,rfl,h1,r1⟩:=trodAll_cons r0;obtain ⟨rfl,rfl,rfl⟩:=trodAll_nil r1;subst Ko;obtain rfl:args = #[v0,v1]:=by apply Array.ext';simpa using sq
 obtain ⟨TD,⟨a0,rfl,OI⟩,qJ⟩:=ve OD h0;have S7:=OI (ya zO (j:=0) (by rw [Tryz.params10];rfl) rfl);obtain ⟨TE,⟨a1,rfl,OJ⟩,FC⟩:=ve OH h1;have S8:=OJ (ya zO (j:=1) (by rw [Tryz.params10];rfl) rfl);refine (D5 (xC S7 S8) (vs:=#[v0,v1]) (.cons (yz qJ (by simp [an,ak])) (.cons (yz FC (by simp [an,ak])) .nil))).mono fun e W' ⟨he,hb⟩=>?_;subst he
 exact ⟨_,rfl,D7 rfl (fun ds hds=>by
  rw [Tryz.params10] at hds
  match ds,hds with
  |[d0,d1],_=>rfl) (by kernel_rfl) Tryz.underlying4 laidOut (fun t ht=>by
  rw [Tryz.params10] at ht;have OK:t=24\/t=31:=by simpa using ht
  rcases OK with rfl|rfl
  ·exact ⟨by kernel_rfl,of_decide_eq_true (by kernel_rfl)⟩
  ·exact ⟨by kernel_rfl,of_decide_eq_true (by kernel_rfl)⟩) S5 hb⟩
noncomputable def Bv:Array Value:=#[.agg #[.int .i64 0,.slice none 0 0],.agg #[.int .i64 0,.slice none 0 0]]
theorem Gx(os:Os):laidMet Tryz.prog Rows.gateTurnsRow.laid ((jr os).forCall (fun _ _=>0) ⟨#[],Bv,[]⟩).memory:=
 laidMet_of_run' 8 (by kernel_rfl) (by kernel_rfl)
theorem reads(os:Os){H:Type}(enc:TypeId×Value->H):∃ places,DataW.whole enc Tryz.prog ((jr os).forCall (fun _ _=>0) ⟨#[],Bv,[]⟩).memory Tryz.f10.params.toList Rows.gateTurnsSpec.vars false Bv.toList 8=some ([.agg [.lit (.int .i64 0),.nil],.agg [.lit (.int .i64 0),.nil]],[],places):=
 ⟨[],by kernel_rfl⟩
theorem Iq:Tryz.checked.prog.inits.idxOf? 10=none:=by kernel_rfl
theorem Kp(os:Os):World.variablesB Tryz.checked.prog ((jr os).forCall (fun _ _=>0) ⟨#[],Bv,[]⟩)=true:=by kernel_rfl
theorem OL(os:Os):Input.okWideB Tryz.checked.prog ((jr os).forCall (fun _ _=>0) ⟨#[],Bv,[]⟩) 10 ⟨#[],Bv,[]⟩=true:=by kernel_rfl
theorem Kq(os:Os):List.take ((begin Tryz.checked.prog (fun _ _=>0) default).world.heap.size-Tryz.checked.prog.globals.size) (List.drop Tryz.checked.prog.globals.size ((jr os).forCall (fun _ _=>0) ⟨#[],Bv,[]⟩).heap.toList)=List.drop Tryz.checked.prog.globals.size (begin Tryz.checked.prog (fun _ _=>0) default).world.heap.toList:=by kernel_rfl
set_option maxRecDepth 100000 in
theorem lifted(os:Os)(started:os.Started)(H:Type)(enc:TypeId×Value->H)(F:Stop.Interp) :
  ReturnsInHanded {} Tryz.checked os 10 .any ((OpenSpec.ofChange Rows.gateTurnsSpec).preRow enc Tryz.prog Tryz.f10 Rows.gateTurnsRow.domain false Rows.gateTurnsRow.laid) (((OpenSpec.ofChange Rows.gateTurnsSpec).at F).post enc Tryz.prog Tryz.f10 false true false false):=by
 obtain ⟨places,hx⟩:=reads os enc
 refine returnsInHanded_of_row (C:=Tryz.checked) (s:=OpenSpec.ofChange Rows.gateTurnsSpec) own started Iq Tryz.func10
  (witness_row_at (enc:=enc) (C:=Tryz.checked) false (jr os) Bv rfl (Kp os) (Kq os) (OL os)
   (OpenSpec.preRow_of_cond 8 hx (by kernel_rfl) (fun k hk=>by cases hk) (by kernel_rfl) (Gx os))) ?_
 intro W base args ds gs before Gh hW _ _ zO hL _ _;exact Gw H enc W base args ds gs before Gh hW zO
end Go.Proofs.YthmbnnjimbjplaaGreatDoor.gateTurns