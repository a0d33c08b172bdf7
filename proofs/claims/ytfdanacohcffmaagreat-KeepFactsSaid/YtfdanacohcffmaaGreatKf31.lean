/- KeepFacts, as a row: whatever the arguments, the law answers true. Conditions: none. -/
import Derived.Test.YtfdanacohcffmaaGreatKf29
import Derived.Test.YtfdanacohcffmaaGreatKf30
set_option linter.unusedSimpArgs false
set_option linter.unusedVariables false
namespace Go.Proofs.YtfdanacohcffmaaGreat.keepFacts
open Go Go.AM Go.AM.YS Go.ChangeShapes Go.WideShapes Go.ChangeAt Go.RowKit
set_option maxRecDepth 100000 in
theorem Rx(H:Type)(enc:TypeId×Value->H)(W:World)(base:Nat)(args:Array Value)(ds gs:List (DataW H))(before:List MemPlace)
  (EA:∀ (j:Nat) t v,Tryz.f3.params[j]?=some t->args[j]?=some v->Value.okWide Tryz.prog W .any base t v)
  (hW:DataW.Whole enc Tryz.prog Tryz.f3.params.toList Rows.keepFactsSpec.vars false W args.toList ds gs before)
  (Ef:(DataW.weightsEach Tryz.prog (Tryz.f3.params.toList++(OpenSpec.ofChange Rows.keepFactsSpec).bare.plain.varTypes Tryz.prog) (ds++gs)).all (·<=reachBytes)=true) :
  Calls Tryz.prog 3 args W fun e W'=>∃ v,e = .returned v/\Rows.keepFactsSpec.post enc Tryz.prog Tryz.f3 false true false false W args v W':=by
 have hW':=hW;obtain ⟨p,q,hA0,hV,rfl,hfz,Qs⟩:=hW;have hA:DataW.TrodAll enc Tryz.prog W 0 (fun _=>true) true Tryz.f3.params.toList args.toList ds p:=hA0;rw [Tryz.params3] at hA EA;obtain ⟨v0,X0,d0,Ye,p0,q0,Ar,rfl,rfl,h0,r0⟩:=trodAll_cons hA;obtain ⟨v1,vs1,d1,Vb,p1,q1,XE,rfl,rfl,h1,r1⟩:=trodAll_cons r0;obtain ⟨v2,vs2,d2,ds2,p2,q2,XF,rfl,rfl,h2,r2⟩:=trodAll_cons r1;obtain ⟨rfl,rfl,rfl⟩:=trodAll_nil r2;subst XF;subst XE;obtain rfl:args = #[v0,v1,v2]:=by apply Array.ext';simpa using Ar
 obtain ⟨xs0,⟨a0,rfl,af6⟩,Eh⟩:=wT afZ h0;have Rs:=af6 (zw Ef (j:=0) (by rw [Tryz.params3];rfl) rfl);obtain ⟨xs1,⟨a1,rfl,af7⟩,Kf⟩:=wT af3 h1;have Xx:=af7 (zw Ef (j:=1) (by rw [Tryz.params3];rfl) rfl);obtain ⟨xs2,⟨a2,rfl,Xb⟩,OQ⟩:=wT af5 h2;have ok2:=Xb (zw Ef (j:=2) (by rw [Tryz.params3];rfl) rfl);obtain ⟨sa0,sl0,sc0,rfl⟩:=IS EA (j:=0) Tryz.underlying22 rfl rfl;obtain ⟨sa2,sl2,sc2,rfl⟩:=IS EA (j:=2) Tryz.underlying26 rfl rfl;refine (NB (Ft Rs.2 Xx ok2) (vs:=#[.slice sa0 sl0 sc0,v1,.slice sa2 sl2 sc2]) (.cons (PR Eh (fun vs h=>by cases h)) (.cons (NH Kf (by simp [ak])) (.cons (PR OQ (fun vs h=>by cases h)) .nil)))).mono fun e W' ⟨he,hb⟩=>?_;subst he
 exact ⟨_,rfl,ND rfl (fun ds hds=>by
  rw [Tryz.params3] at hds
  match ds,hds with
  |[d0,d1,d2],_=>rfl) (by kernel_rfl) Tryz.underlying4 laidOut (fun t ht=>by
  rw [Tryz.params3] at ht;have ht':t=22\/t=25\/t=26:=by simpa using ht
  rcases ht' with rfl|rfl|rfl
  ·exact ⟨by kernel_rfl,of_decide_eq_true (by kernel_rfl)⟩
  ·exact ⟨by kernel_rfl,of_decide_eq_true (by kernel_rfl)⟩
  ·exact ⟨by kernel_rfl,of_decide_eq_true (by kernel_rfl)⟩) hW' hb⟩
noncomputable def J8:Array Value:=#[.slice none 0 0,.agg #[.int .i64 0,.slice none 0 0],.slice none 0 0]
theorem Ry(os:Os):laidMet Tryz.prog Rows.keepFactsRow.laid ((nX os).forCall (fun _ _=>0) ⟨#[],J8,[]⟩).memory:=
 laidMet_of_run' 8 (by kernel_rfl) (by kernel_rfl)
theorem reads(os:Os){H:Type}(enc:TypeId×Value->H):∃ B9,DataW.whole enc Tryz.prog ((nX os).forCall (fun _ _=>0) ⟨#[],J8,[]⟩).memory Tryz.f3.params.toList Rows.keepFactsSpec.vars false J8.toList 8=some ([.nil,.agg [.lit (.int .i64 0),.nil],.nil],[],B9):=
 ⟨[],by kernel_rfl⟩
theorem UO:Tryz.checked.prog.inits.idxOf? 3=none:=by kernel_rfl
theorem XG(os:Os):World.variablesB Tryz.checked.prog ((nX os).forCall (fun _ _=>0) ⟨#[],J8,[]⟩)=true:=by kernel_rfl
theorem af8(os:Os):Input.okWideB Tryz.checked.prog ((nX os).forCall (fun _ _=>0) ⟨#[],J8,[]⟩) 3 ⟨#[],J8,[]⟩=true:=by kernel_rfl
theorem XH(os:Os):List.take ((begin Tryz.checked.prog (fun _ _=>0) default).world.heap.size-Tryz.checked.prog.globals.size) (List.drop Tryz.checked.prog.globals.size ((nX os).forCall (fun _ _=>0) ⟨#[],J8,[]⟩).heap.toList)=List.drop Tryz.checked.prog.globals.size (begin Tryz.checked.prog (fun _ _=>0) default).world.heap.toList:=by kernel_rfl
set_option maxRecDepth 100000 in
theorem lifted(os:Os)(started:os.Started)(H:Type)(enc:TypeId×Value->H)(F:Stop.Interp) :
  ReturnsInHanded {} Tryz.checked os 3 .any ((OpenSpec.ofChange Rows.keepFactsSpec).preRow enc Tryz.prog Tryz.f3 Rows.keepFactsRow.domain false Rows.keepFactsRow.laid) (((OpenSpec.ofChange Rows.keepFactsSpec).at F).post enc Tryz.prog Tryz.f3 false true false false):=by
 obtain ⟨B9,hx⟩:=reads os enc
 refine returnsInHanded_of_row (C:=Tryz.checked) (s:=OpenSpec.ofChange Rows.keepFactsSpec) own started UO Tryz.func3
  (witness_row_at (enc:=enc) (C:=Tryz.checked) false (nX os) J8 rfl (XG os) (XH os) (af8 os)
   (OpenSpec.preRow_of_cond 8 hx (by kernel_rfl) (fun k hk=>by cases hk) (by kernel_rfl) (Ry os))) ?_
 intro W base args ds gs before EA hW _ _ Ef hL _ _;exact Rx H enc W base args ds gs before EA hW Ef
end Go.Proofs.YtfdanacohcffmaaGreat.keepFacts