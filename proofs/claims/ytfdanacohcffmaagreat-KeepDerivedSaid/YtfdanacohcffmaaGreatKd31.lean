/- KeepDerived, as a row: whatever the arguments, the law answers true. Conditions: none. -/
import Derived.Test.YtfdanacohcffmaaGreatKd29
import Derived.Test.YtfdanacohcffmaaGreatKd30
set_option linter.unusedSimpArgs false
set_option linter.unusedVariables false
namespace Go.Proofs.YtfdanacohcffmaaGreat.keepDerived
open Go Go.AM Go.AM.ZI Go.ChangeShapes Go.WideShapes Go.ChangeAt Go.RowKit
set_option maxRecDepth 100000 in
theorem SC(H:Type)(enc:TypeId×Value->H)(W:World)(base:Nat)(args:Array Value)(ds gs:List (DataW H))(before:List MemPlace)
  (Fa:∀ (j:Nat) t v,Tryz.f7.params[j]?=some t->args[j]?=some v->Value.okWide Tryz.prog W .any base t v)
  (hW:DataW.Whole enc Tryz.prog Tryz.f7.params.toList Rows.keepDerivedSpec.vars false W args.toList ds gs before)
  (EP:(DataW.weightsEach Tryz.prog (Tryz.f7.params.toList++(OpenSpec.ofChange Rows.keepDerivedSpec).bare.plain.varTypes Tryz.prog) (ds++gs)).all (·<=reachBytes)=true) :
  Calls Tryz.prog 7 args W fun e W'=>∃ v,e = .returned v/\Rows.keepDerivedSpec.post enc Tryz.prog Tryz.f7 false true false false W args v W':=by
 have hW':=hW;obtain ⟨p,q,hA0,hV,rfl,hfz,Rw⟩:=hW;have hA:DataW.TrodAll enc Tryz.prog W 0 (fun _=>true) true Tryz.f7.params.toList args.toList ds p:=hA0;rw [Tryz.params7] at hA Fa;obtain ⟨v0,YW,d0,Y9,p0,q0,wW,rfl,rfl,h0,r0⟩:=trodAll_cons hA;obtain ⟨v1,vs1,d1,Wg,p1,q1,YD,rfl,rfl,h1,r1⟩:=trodAll_cons r0;obtain ⟨v2,vs2,d2,ds2,p2,q2,YE,rfl,rfl,h2,r2⟩:=trodAll_cons r1;obtain ⟨rfl,rfl,rfl⟩:=trodAll_nil r2;subst YE;subst YD;obtain rfl:args = #[v0,v1,v2]:=by apply Array.ext';simpa using wW
 obtain ⟨xs0,⟨a0,rfl,agV⟩,ER⟩:=xQ agO h0;have Sy:=agV (z6 EP (j:=0) (by rw [Tryz.params7];rfl) rfl);obtain ⟨xs1,⟨a1,rfl,agW⟩,KT⟩:=xQ agS h1;have ok1:=agW (z6 EP (j:=1) (by rw [Tryz.params7];rfl) rfl);obtain ⟨xs2,⟨a2,rfl,Yd⟩,LI⟩:=xQ agU h2;have ok2:=Yd (z6 EP (j:=2) (by rw [Tryz.params7];rfl) rfl);obtain ⟨sa0,sl0,sc0,rfl⟩:=Jw Fa (j:=0) Tryz.underlying22 rfl rfl;obtain ⟨sa2,sl2,sc2,rfl⟩:=Jw Fa (j:=2) Tryz.underlying26 rfl rfl;refine (OB (Ca Sy.2 ok1 ok2) (vs:=#[.slice sa0 sl0 sc0,v1,.slice sa2 sl2 sc2]) (.cons (QK ER (fun vs h=>by cases h)) (.cons (OG KT (by simp [aq])) (.cons (QK LI (fun vs h=>by cases h)) .nil)))).mono fun e W' ⟨he,hb⟩=>?_;subst he
 exact ⟨_,rfl,OD rfl (fun ds hds=>by
  rw [Tryz.params7] at hds
  match ds,hds with
  |[d0,d1,d2],_=>rfl) (by kernel_rfl) Tryz.underlying4 laidOut (fun t ht=>by
  rw [Tryz.params7] at ht;have ht':t=22\/t=25\/t=26:=by simpa using ht
  rcases ht' with rfl|rfl|rfl
  ·exact ⟨by kernel_rfl,of_decide_eq_true (by kernel_rfl)⟩
  ·exact ⟨by kernel_rfl,of_decide_eq_true (by kernel_rfl)⟩
  ·exact ⟨by kernel_rfl,of_decide_eq_true (by kernel_rfl)⟩) hW' hb⟩
noncomputable def KN:Array Value:=#[.slice none 0 0,.agg #[.int .i64 0,.slice none 0 0],.slice none 0 0]
theorem SD(os:Os):laidMet Tryz.prog Rows.keepDerivedRow.laid ((oN os).forCall (fun _ _=>0) ⟨#[],KN,[]⟩).memory:=
 laidMet_of_run' 8 (by kernel_rfl) (by kernel_rfl)
theorem reads(os:Os){H:Type}(enc:TypeId×Value->H):∃ CC,DataW.whole enc Tryz.prog ((oN os).forCall (fun _ _=>0) ⟨#[],KN,[]⟩).memory Tryz.f7.params.toList Rows.keepDerivedSpec.vars false KN.toList 8=some ([.nil,.agg [.lit (.int .i64 0),.nil],.nil],[],CC):=
 ⟨[],by kernel_rfl⟩
theorem VU:Tryz.checked.prog.inits.idxOf? 7=none:=by kernel_rfl
theorem YF(os:Os):World.variablesB Tryz.checked.prog ((oN os).forCall (fun _ _=>0) ⟨#[],KN,[]⟩)=true:=by kernel_rfl
theorem agX(os:Os):Input.okWideB Tryz.checked.prog ((oN os).forCall (fun _ _=>0) ⟨#[],KN,[]⟩) 7 ⟨#[],KN,[]⟩=true:=by kernel_rfl
theorem YG(os:Os):List.take ((begin Tryz.checked.prog (fun _ _=>0) default).world.heap.size-Tryz.checked.prog.globals.size) (List.drop Tryz.checked.prog.globals.size ((oN os).forCall (fun _ _=>0) ⟨#[],KN,[]⟩).heap.toList)=List.drop Tryz.checked.prog.globals.size (begin Tryz.checked.prog (fun _ _=>0) default).world.heap.toList:=by kernel_rfl
set_option maxRecDepth 100000 in
theorem lifted(os:Os)(started:os.Started)(H:Type)(enc:TypeId×Value->H)(F:Stop.Interp) :
  ReturnsInHanded {} Tryz.checked os 7 .any ((OpenSpec.ofChange Rows.keepDerivedSpec).preRow enc Tryz.prog Tryz.f7 Rows.keepDerivedRow.domain false Rows.keepDerivedRow.laid) (((OpenSpec.ofChange Rows.keepDerivedSpec).at F).post enc Tryz.prog Tryz.f7 false true false false):=by
 obtain ⟨CC,hx⟩:=reads os enc
 refine returnsInHanded_of_row (C:=Tryz.checked) (s:=OpenSpec.ofChange Rows.keepDerivedSpec) own started VU Tryz.func7
  (witness_row_at (enc:=enc) (C:=Tryz.checked) false (oN os) KN rfl (YF os) (YG os) (agX os)
   (OpenSpec.preRow_of_cond 8 hx (by kernel_rfl) (fun k hk=>by cases hk) (by kernel_rfl) (SD os))) ?_
 intro W base args ds gs before Fa hW _ _ EP hL _ _;exact SC H enc W base args ds gs before Fa hW EP
end Go.Proofs.YtfdanacohcffmaaGreat.keepDerived