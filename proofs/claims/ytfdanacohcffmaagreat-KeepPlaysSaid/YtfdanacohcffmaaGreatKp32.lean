/- KeepPlays, as a row: whatever the arguments, the law answers true. Conditions: none. -/
import Derived.Test.YtfdanacohcffmaaGreatKp30
import Derived.Test.YtfdanacohcffmaaGreatKp31
set_option linter.unusedSimpArgs false
set_option linter.unusedVariables false
namespace Go.Proofs.YtfdanacohcffmaaGreat.keepPlays
open Go Go.AM Go.AM.KeT Go.ChangeShapes Go.WideShapes Go.ChangeAt Go.RowKit
set_option maxRecDepth 100000 in
theorem Yw(H:Type)(enc:TypeId×Value->H)(W:World)(base:Nat)(args:Array Value)(ds gs:List (DataW H))(before:List MemPlace)
  (xd:∀ (j:Nat) t v,Tryz.f8.params[j]?=some t->args[j]?=some v->Value.okWide Tryz.prog W .any base t v)
  (hW:DataW.Whole enc Tryz.prog Tryz.f8.params.toList Rows.keepPlaysSpec.vars false W args.toList ds gs before)
  (Jn:(DataW.weightsEach Tryz.prog (Tryz.f8.params.toList++(OpenSpec.ofChange Rows.keepPlaysSpec).bare.plain.varTypes Tryz.prog) (ds++gs)).all (·<=reachBytes)=true) :
  Calls Tryz.prog 8 args W fun e W'=>∃ v,e = .returned v/\Rows.keepPlaysSpec.post enc Tryz.prog Tryz.f8 false true false false W args v W':=by
 have hW':=hW;obtain ⟨p,q,hA0,hV,rfl,hfz,UW⟩:=hW;have hA:DataW.TrodAll enc Tryz.prog W 0 (fun _=>true) true Tryz.f8.params.toList args.toList ds p:=hA0;rw [Tryz.params8] at hA xd;obtain ⟨v0,vs0,d0,ds0,p0,q0,AO,rfl,rfl,h0,r0⟩:=trodAll_cons hA;obtain ⟨v1,vs1,d1,ds1,p1,q1,ae4,rfl,rfl,h1,r1⟩:=trodAll_cons r0;obtain ⟨v2,vs2,d2,ds2,p2,q2,ae5,rfl,rfl,h2,r2⟩:=trodAll_cons r1;obtain ⟨rfl,rfl,rfl⟩:=trodAll_nil r2;subst ae5;subst ae4;obtain rfl:args = #[v0,v1,v2]:=by apply Array.ext';simpa using AO
 obtain ⟨xs0,⟨a0,rfl,Sn⟩,KI⟩:=Bn aoq h0;have ok0:=Sn (Dz Jn (j:=0) (by rw [Tryz.params8];rfl) rfl);obtain ⟨xs1,⟨a1,rfl,aox⟩,KG⟩:=Bn aou h1;have ok1:=aox (Dz Jn (j:=1) (by rw [Tryz.params8];rfl) rfl);obtain ⟨xs2,⟨a2,rfl,aey⟩,Rp⟩:=Bn aow h2;have ok2:=aey (Dz Jn (j:=2) (by rw [Tryz.params8];rfl) rfl);obtain ⟨sa0,sl0,sc0,rfl⟩:=Om xd (j:=0) Tryz.underlying22 rfl rfl;obtain ⟨sa2,sl2,sc2,rfl⟩:=Om xd (j:=2) Tryz.underlying26 rfl rfl;refine (Ux (Kn ok0.2 ok1 ok2) (vs:=#[.slice sa0 sl0 sc0,v1,.slice sa2 sl2 sc2]) (.cons (WQ KI (fun vs h=>by cases h)) (.cons (UC KG (by simp [ah])) (.cons (WQ Rp (fun vs h=>by cases h)) .nil)))).mono fun e W' ⟨he,hb⟩=>?_;subst he
 exact ⟨_,rfl,Uz rfl (fun ds hds=>by
  rw [Tryz.params8] at hds
  match ds,hds with
  |[d0,d1,d2],_=>rfl) (by kernel_rfl) Tryz.underlying4 laidOut (fun t ht=>by
  rw [Tryz.params8] at ht;have ht':t=22\/t=25\/t=26:=by simpa using ht
  rcases ht' with rfl|rfl|rfl
  ·exact ⟨by kernel_rfl,of_decide_eq_true (by kernel_rfl)⟩
  ·exact ⟨by kernel_rfl,of_decide_eq_true (by kernel_rfl)⟩
  ·exact ⟨by kernel_rfl,of_decide_eq_true (by kernel_rfl)⟩) hW' hb⟩
noncomputable def Qg:Array Value:=#[.slice none 0 0,.agg #[.int .i64 0,.slice none 0 0],.slice none 0 0]
theorem Yx(os:Os):laidMet Tryz.prog Rows.keepPlaysRow.laid ((sI os).forCall (fun _ _=>0) ⟨#[],Qg,[]⟩).memory:=
 laidMet_of_run' 8 (by kernel_rfl) (by kernel_rfl)
theorem reads(os:Os){H:Type}(enc:TypeId×Value->H):∃ GI,DataW.whole enc Tryz.prog ((sI os).forCall (fun _ _=>0) ⟨#[],Qg,[]⟩).memory Tryz.f8.params.toList Rows.keepPlaysSpec.vars false Qg.toList 8=some ([.nil,.agg [.lit (.int .i64 0),.nil],.nil],[],GI):=
 ⟨[],by kernel_rfl⟩
theorem ab1:Tryz.checked.prog.inits.idxOf? 8=none:=by kernel_rfl
theorem ae6(os:Os):World.variablesB Tryz.checked.prog ((sI os).forCall (fun _ _=>0) ⟨#[],Qg,[]⟩)=true:=by kernel_rfl
theorem aoy(os:Os):Input.okWideB Tryz.checked.prog ((sI os).forCall (fun _ _=>0) ⟨#[],Qg,[]⟩) 8 ⟨#[],Qg,[]⟩=true:=by kernel_rfl
theorem ae7(os:Os):List.take ((begin Tryz.checked.prog (fun _ _=>0) default).world.heap.size-Tryz.checked.prog.globals.size) (List.drop Tryz.checked.prog.globals.size ((sI os).forCall (fun _ _=>0) ⟨#[],Qg,[]⟩).heap.toList)=List.drop Tryz.checked.prog.globals.size (begin Tryz.checked.prog (fun _ _=>0) default).world.heap.toList:=by kernel_rfl
set_option maxRecDepth 100000 in
theorem lifted(os:Os)(started:os.Started)(H:Type)(enc:TypeId×Value->H)(F:Stop.Interp) :
  ReturnsInHanded {} Tryz.checked os 8 .any ((OpenSpec.ofChange Rows.keepPlaysSpec).preRow enc Tryz.prog Tryz.f8 Rows.keepPlaysRow.domain false Rows.keepPlaysRow.laid) (((OpenSpec.ofChange Rows.keepPlaysSpec).at F).post enc Tryz.prog Tryz.f8 false true false false):=by
 obtain ⟨GI,hx⟩:=reads os enc
 refine returnsInHanded_of_row (C:=Tryz.checked) (s:=OpenSpec.ofChange Rows.keepPlaysSpec) own started ab1 Tryz.func8
  (witness_row_at (enc:=enc) (C:=Tryz.checked) false (sI os) Qg rfl (ae6 os) (ae7 os) (aoy os)
   (OpenSpec.preRow_of_cond 8 hx (by kernel_rfl) (fun k hk=>by cases hk) (by kernel_rfl) (Yx os))) ?_
 intro W base args ds gs before xd hW _ _ Jn hL _ _;exact Yw H enc W base args ds gs before xd hW Jn
end Go.Proofs.YtfdanacohcffmaaGreat.keepPlays