/- KeepUndone, as a row: whatever the arguments, the law answers true. Conditions: none. -/
import Derived.Test.YtfdanacohcffmaaGreatKu29
import Derived.Test.YtfdanacohcffmaaGreatKu30
set_option linter.unusedSimpArgs false
set_option linter.unusedVariables false
namespace Go.Proofs.YtfdanacohcffmaaGreat.keepUndone
open Go Go.AM Go.AM.Yp Go.ChangeShapes Go.WideShapes Go.ChangeAt Go.RowKit
set_option maxRecDepth 100000 in
theorem QY(H:Type)(enc:TypeId×Value->H)(W:World)(base:Nat)(args:Array Value)(ds gs:List (DataW H))(before:List MemPlace)
  (Ej:∀ (j:Nat) t v,Tryz.f5.params[j]?=some t->args[j]?=some v->Value.okWide Tryz.prog W .any base t v)
  (hW:DataW.Whole enc Tryz.prog Tryz.f5.params.toList Rows.keepUndoneSpec.vars false W args.toList ds gs before)
  (DX:(DataW.weightsEach Tryz.prog (Tryz.f5.params.toList++(OpenSpec.ofChange Rows.keepUndoneSpec).bare.plain.varTypes Tryz.prog) (ds++gs)).all (·<=reachBytes)=true) :
  Calls Tryz.prog 5 args W fun e W'=>∃ v,e = .returned v/\Rows.keepUndoneSpec.post enc Tryz.prog Tryz.f5 false true false false W args v W':=by
 have hW':=hW;obtain ⟨p,q,hA0,hV,rfl,hfz,P0⟩:=hW;have hA:DataW.TrodAll enc Tryz.prog W 0 (fun _=>true) true Tryz.f5.params.toList args.toList ds p:=hA0;rw [Tryz.params5] at hA Ej;obtain ⟨v0,Xz,d0,XM,p0,q0,Aa,rfl,rfl,h0,r0⟩:=trodAll_cons hA;obtain ⟨v1,vs1,d1,UI,p1,q1,Xd,rfl,rfl,h1,r1⟩:=trodAll_cons r0;obtain ⟨v2,vs2,d2,ds2,p2,q2,Xe,rfl,rfl,h2,r2⟩:=trodAll_cons r1;obtain ⟨rfl,rfl,rfl⟩:=trodAll_nil r2;subst Xe;subst Xd;obtain rfl:args = #[v0,v1,v2]:=by apply Array.ext';simpa using Aa
 obtain ⟨xs0,⟨a0,rfl,afS⟩,D2⟩:=wB afL h0;have ok0:=afS (zb DX (j:=0) (by rw [Tryz.params5];rfl) rfl);obtain ⟨xs1,⟨a1,rfl,afT⟩,Fo⟩:=wB afP h1;have W3:=afT (zb DX (j:=1) (by rw [Tryz.params5];rfl) rfl);obtain ⟨xs2,⟨a2,rfl,WI⟩,Ov⟩:=wB afR h2;have ok2:=WI (zb DX (j:=2) (by rw [Tryz.params5];rfl) rfl);obtain ⟨sa0,sl0,sc0,rfl⟩:=It Ej (j:=0) Tryz.underlying22 rfl rfl;obtain ⟨sa2,sl2,sc2,rfl⟩:=It Ej (j:=2) Tryz.underlying26 rfl rfl;refine (Ng (DW ok0.2 W3 ok2) (vs:=#[.slice sa0 sl0 sc0,v1,.slice sa2 sl2 sc2]) (.cons (Pn D2 (fun vs h=>by cases h)) (.cons (Nl Fo (by simp [an])) (.cons (Pn Ov (fun vs h=>by cases h)) .nil)))).mono fun e W' ⟨he,hb⟩=>?_;subst he
 exact ⟨_,rfl,Ni rfl (fun ds hds=>by
  rw [Tryz.params5] at hds
  match ds,hds with
  |[d0,d1,d2],_=>rfl) (by kernel_rfl) Tryz.underlying4 laidOut (fun t ht=>by
  rw [Tryz.params5] at ht;have ht':t=22\/t=25\/t=26:=by simpa using ht
  rcases ht' with rfl|rfl|rfl
  ·exact ⟨by kernel_rfl,of_decide_eq_true (by kernel_rfl)⟩
  ·exact ⟨by kernel_rfl,of_decide_eq_true (by kernel_rfl)⟩
  ·exact ⟨by kernel_rfl,of_decide_eq_true (by kernel_rfl)⟩) hW' hb⟩
noncomputable def JN:Array Value:=#[.slice none 0 0,.agg #[.int .i64 0,.slice none 0 0],.slice none 0 0]
theorem QZ(os:Os):laidMet Tryz.prog Rows.keepUndoneRow.laid ((nO os).forCall (fun _ _=>0) ⟨#[],JN,[]⟩).memory:=
 laidMet_of_run' 8 (by kernel_rfl) (by kernel_rfl)
theorem reads(os:Os){H:Type}(enc:TypeId×Value->H):∃ BT,DataW.whole enc Tryz.prog ((nO os).forCall (fun _ _=>0) ⟨#[],JN,[]⟩).memory Tryz.f5.params.toList Rows.keepUndoneSpec.vars false JN.toList 8=some ([.nil,.agg [.lit (.int .i64 0),.nil],.nil],[],BT):=
 ⟨[],by kernel_rfl⟩
theorem Uo:Tryz.checked.prog.inits.idxOf? 5=none:=by kernel_rfl
theorem Xf(os:Os):World.variablesB Tryz.checked.prog ((nO os).forCall (fun _ _=>0) ⟨#[],JN,[]⟩)=true:=by kernel_rfl
theorem afU(os:Os):Input.okWideB Tryz.checked.prog ((nO os).forCall (fun _ _=>0) ⟨#[],JN,[]⟩) 5 ⟨#[],JN,[]⟩=true:=by kernel_rfl
theorem Xg(os:Os):List.take ((begin Tryz.checked.prog (fun _ _=>0) default).world.heap.size-Tryz.checked.prog.globals.size) (List.drop Tryz.checked.prog.globals.size ((nO os).forCall (fun _ _=>0) ⟨#[],JN,[]⟩).heap.toList)=List.drop Tryz.checked.prog.globals.size (begin Tryz.checked.prog (fun _ _=>0) default).world.heap.toList:=by kernel_rfl
set_option maxRecDepth 100000 in
theorem lifted(os:Os)(started:os.Started)(H:Type)(enc:TypeId×Value->H)(F:Stop.Interp) :
  ReturnsInHanded {} Tryz.checked os 5 .any ((OpenSpec.ofChange Rows.keepUndoneSpec).preRow enc Tryz.prog Tryz.f5 Rows.keepUndoneRow.domain false Rows.keepUndoneRow.laid) (((OpenSpec.ofChange Rows.keepUndoneSpec).at F).post enc Tryz.prog Tryz.f5 false true false false):=by
 obtain ⟨BT,hx⟩:=reads os enc
 refine returnsInHanded_of_row (C:=Tryz.checked) (s:=OpenSpec.ofChange Rows.keepUndoneSpec) own started Uo Tryz.func5
  (witness_row_at (enc:=enc) (C:=Tryz.checked) false (nO os) JN rfl (Xf os) (Xg os) (afU os)
   (OpenSpec.preRow_of_cond 8 hx (by kernel_rfl) (fun k hk=>by cases hk) (by kernel_rfl) (QZ os))) ?_
 intro W base args ds gs before Ej hW _ _ DX hL _ _;exact QY H enc W base args ds gs before Ej hW DX
end Go.Proofs.YtfdanacohcffmaaGreat.keepUndone