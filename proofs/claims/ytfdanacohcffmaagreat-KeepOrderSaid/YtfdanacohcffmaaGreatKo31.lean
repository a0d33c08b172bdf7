/- KeepOrder, as a row: whatever the arguments, the law answers true. Conditions: none. -/
import Derived.Test.YtfdanacohcffmaaGreatKo29
import Derived.Test.YtfdanacohcffmaaGreatKo30
set_option linter.unusedSimpArgs false
set_option linter.unusedVariables false
namespace Go.Proofs.YtfdanacohcffmaaGreat.keepOrder
open Go Go.AM Go.AM.XS Go.ChangeShapes Go.WideShapes Go.ChangeAt Go.RowKit
set_option maxRecDepth 100000 in
theorem QG(H:Type)(enc:TypeId×Value->H)(W:World)(base:Nat)(args:Array Value)(ds gs:List (DataW H))(before:List MemPlace)
  (Eb:∀ (j:Nat) t v,Tryz.f4.params[j]?=some t->args[j]?=some v->Value.okWide Tryz.prog W .any base t v)
  (hW:DataW.Whole enc Tryz.prog Tryz.f4.params.toList Rows.keepOrderSpec.vars false W args.toList ds gs before)
  (DO:(DataW.weightsEach Tryz.prog (Tryz.f4.params.toList++(OpenSpec.ofChange Rows.keepOrderSpec).bare.plain.varTypes Tryz.prog) (ds++gs)).all (·<=reachBytes)=true) :
  Calls Tryz.prog 4 args W fun e W'=>∃ v,e = .returned v/\Rows.keepOrderSpec.post enc Tryz.prog Tryz.f4 false true false false W args v W':=by
 have hW':=hW;obtain ⟨p,q,hA0,hV,rfl,hfz,PN⟩:=hW;have hA:DataW.TrodAll enc Tryz.prog W 0 (fun _=>true) true Tryz.f4.params.toList args.toList ds p:=hA0;rw [Tryz.params4] at hA Eb;obtain ⟨v0,W3,d0,Xe,p0,q0,zX,rfl,rfl,h0,r0⟩:=trodAll_cons hA;obtain ⟨v1,vs1,d1,Uq,p1,q1,WC,rfl,rfl,h1,r1⟩:=trodAll_cons r0;obtain ⟨v2,vs2,d2,ds2,p2,q2,WD,rfl,rfl,h2,r2⟩:=trodAll_cons r1;obtain ⟨rfl,rfl,rfl⟩:=trodAll_nil r2;subst WD;subst WC;obtain rfl:args = #[v0,v1,v2]:=by apply Array.ext';simpa using zX
 obtain ⟨xs0,⟨a0,rfl,aeO⟩,DR⟩:=wz aeH h0;have ok0:=aeO (y7 DO (j:=0) (by rw [Tryz.params4];rfl) rfl);obtain ⟨xs1,⟨a1,rfl,aeP⟩,JK⟩:=wz aeL h1;have ok1:=aeP (y7 DO (j:=1) (by rw [Tryz.params4];rfl) rfl);obtain ⟨xs2,⟨a2,rfl,Wh⟩,Oh⟩:=wz aeN h2;have ok2:=Wh (y7 DO (j:=2) (by rw [Tryz.params4];rfl) rfl);obtain ⟨sa0,sl0,sc0,rfl⟩:=Ik Eb (j:=0) Tryz.underlying22 rfl rfl;obtain ⟨sa2,sl2,sc2,rfl⟩:=Ik Eb (j:=2) Tryz.underlying26 rfl rfl;refine (M1 (ER ok0.2 ok1 ok2) (vs:=#[.slice sa0 sl0 sc0,v1,.slice sa2 sl2 sc2]) (.cons (O8 DR (fun vs h=>by cases h)) (.cons (M7 JK (by simp [au])) (.cons (O8 Oh (fun vs h=>by cases h)) .nil)))).mono fun e W' ⟨he,hb⟩=>?_;subst he
 exact ⟨_,rfl,M4 rfl (fun ds hds=>by
  rw [Tryz.params4] at hds
  match ds,hds with
  |[d0,d1,d2],_=>rfl) (by kernel_rfl) Tryz.underlying4 laidOut (fun t ht=>by
  rw [Tryz.params4] at ht;have ht':t=22\/t=25\/t=26:=by simpa using ht
  rcases ht' with rfl|rfl|rfl
  ·exact ⟨by kernel_rfl,of_decide_eq_true (by kernel_rfl)⟩
  ·exact ⟨by kernel_rfl,of_decide_eq_true (by kernel_rfl)⟩
  ·exact ⟨by kernel_rfl,of_decide_eq_true (by kernel_rfl)⟩) hW' hb⟩
noncomputable def JE:Array Value:=#[.slice none 0 0,.agg #[.int .i64 0,.slice none 0 0],.slice none 0 0]
theorem QH(os:Os):laidMet Tryz.prog Rows.keepOrderRow.laid ((nN os).forCall (fun _ _=>0) ⟨#[],JE,[]⟩).memory:=
 laidMet_of_run' 8 (by kernel_rfl) (by kernel_rfl)
theorem reads(os:Os){H:Type}(enc:TypeId×Value->H):∃ BP,DataW.whole enc Tryz.prog ((nN os).forCall (fun _ _=>0) ⟨#[],JE,[]⟩).memory Tryz.f4.params.toList Rows.keepOrderSpec.vars false JE.toList 8=some ([.nil,.agg [.lit (.int .i64 0),.nil],.nil],[],BP):=
 ⟨[],by kernel_rfl⟩
theorem T3:Tryz.checked.prog.inits.idxOf? 4=none:=by kernel_rfl
theorem WE(os:Os):World.variablesB Tryz.checked.prog ((nN os).forCall (fun _ _=>0) ⟨#[],JE,[]⟩)=true:=by kernel_rfl
theorem aeQ(os:Os):Input.okWideB Tryz.checked.prog ((nN os).forCall (fun _ _=>0) ⟨#[],JE,[]⟩) 4 ⟨#[],JE,[]⟩=true:=by kernel_rfl
theorem WG(os:Os):List.take ((begin Tryz.checked.prog (fun _ _=>0) default).world.heap.size-Tryz.checked.prog.globals.size) (List.drop Tryz.checked.prog.globals.size ((nN os).forCall (fun _ _=>0) ⟨#[],JE,[]⟩).heap.toList)=List.drop Tryz.checked.prog.globals.size (begin Tryz.checked.prog (fun _ _=>0) default).world.heap.toList:=by kernel_rfl
set_option maxRecDepth 100000 in
theorem lifted(os:Os)(started:os.Started)(H:Type)(enc:TypeId×Value->H)(F:Stop.Interp) :
  ReturnsInHanded {} Tryz.checked os 4 .any ((OpenSpec.ofChange Rows.keepOrderSpec).preRow enc Tryz.prog Tryz.f4 Rows.keepOrderRow.domain false Rows.keepOrderRow.laid) (((OpenSpec.ofChange Rows.keepOrderSpec).at F).post enc Tryz.prog Tryz.f4 false true false false):=by
 obtain ⟨BP,hx⟩:=reads os enc
 refine returnsInHanded_of_row (C:=Tryz.checked) (s:=OpenSpec.ofChange Rows.keepOrderSpec) own started T3 Tryz.func4
  (witness_row_at (enc:=enc) (C:=Tryz.checked) false (nN os) JE rfl (WE os) (WG os) (aeQ os)
   (OpenSpec.preRow_of_cond 8 hx (by kernel_rfl) (fun k hk=>by cases hk) (by kernel_rfl) (QH os))) ?_
 intro W base args ds gs before Eb hW _ _ DO hL _ _;exact QG H enc W base args ds gs before Eb hW DO
end Go.Proofs.YtfdanacohcffmaaGreat.keepOrder