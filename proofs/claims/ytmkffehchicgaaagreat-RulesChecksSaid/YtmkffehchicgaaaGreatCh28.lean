/- RulesChecks, as a row: whatever the arguments, the law answers true. Conditions: none. -/
import Derived.Test.YtmkffehchicgaaaGreatCh26
import Derived.Test.YtmkffehchicgaaaGreatCh27
set_option linter.unusedSimpArgs false
set_option linter.unusedVariables false
namespace Go.Proofs.YtmkffehchicgaaaGreat.rulesChecks
open Go Go.AM Go.AM.RuT Go.ChangeShapes Go.WideShapes Go.ChangeAt Go.RowKit
set_option maxRecDepth 100000 in
theorem contract(H:Type)(enc:TypeId×Value→H)(W:World)(base:Nat)(args:Array Value)(ds gs:List (DataW H))(before:List MemPlace)
  (hval:∀ (j:Nat) t v,Tryz.f6.params[j]?=some t→args[j]?=some v→Value.okWide Tryz.prog W .any base t v)
  (hW:DataW.Whole enc Tryz.prog Tryz.f6.params.toList Rows.rulesChecksSpec.vars false W args.toList ds gs before)
  (hreach:(DataW.weightsEach Tryz.prog (Tryz.f6.params.toList++(OpenSpec.ofChange Rows.rulesChecksSpec).bare.plain.varTypes Tryz.prog) (ds++gs)).all (·≤reachBytes)=true) :
  Calls Tryz.prog 6 args W fun e W'=>∃ v,e = .returned v∧Rows.rulesChecksSpec.post enc Tryz.prog Tryz.f6 false true false false W args v W':=by
 have hW':=hW
 obtain ⟨p,q,hA0,hV,rfl,hfz,hnd⟩:=hW
 have hA:DataW.TrodAll enc Tryz.prog W 0 (fun _=>true) true Tryz.f6.params.toList args.toList ds p:=hA0
 rw [Tryz.params6] at hA hval
 obtain ⟨v0,vs0,d0,ds0,p0,q0,hargs,rfl,rfl,h0,r0⟩:=trodAll_cons hA
 obtain ⟨v1,vs1,d1,ds1,p1,q1,hargs1,rfl,rfl,h1,r1⟩:=trodAll_cons r0
 obtain ⟨v2,vs2,d2,ds2,p2,q2,hargs2,rfl,rfl,h2,r2⟩:=trodAll_cons r1
 obtain ⟨rfl,rfl,rfl⟩:=trodAll_nil r2
 subst hargs2
 subst hargs1
 obtain rfl:args = #[v0,v1,v2]:=by apply Array.ext';simpa using hargs
 obtain ⟨xs0,⟨a0,rfl,hok0⟩,hv0⟩:=tV SO h0
 have ok0:=hok0 (vW hreach (j:=0) (by rw [Tryz.params6];rfl) rfl)
 obtain ⟨xs1,⟨a1,rfl,hok1⟩,hv1⟩:=tV SU h1
 have ok1:=hok1 (vW hreach (j:=1) (by rw [Tryz.params6];rfl) rfl)
 obtain ⟨xs2,⟨a2,rfl,hok2⟩,hv2⟩:=tV SW h2
 have ok2:=hok2 (vW hreach (j:=2) (by rw [Tryz.params6];rfl) rfl)
 obtain ⟨sa0,sl0,sc0,rfl⟩:=Lt hval (j:=0) Tryz.underlying22 rfl rfl
 refine (IU (yZ ok0.2 ok1 ok2) (vs:=#[.slice sa0 sl0 sc0,v1,v2]) (.cons (Pd hv0 (fun vs h=>by cases h)) (.cons (Dh hv1 (by simp [aA])) (.cons (Dh hv2 (by simp [ni,fY])) .nil)))).mono fun e W' ⟨he,hb⟩=>?_
 subst he
 exact ⟨_,rfl,IW rfl (fun ds hds=>by
  rw [Tryz.params6] at hds
  match ds,hds with
  |[d0,d1,d2],_=>rfl) (by kernel_rfl) Tryz.underlying4 laidOut (fun t ht=>by
  rw [Tryz.params6] at ht
  have ht':t=22∨t=25∨t=57:=by simpa using ht
  rcases ht' with rfl|rfl|rfl
  ·exact ⟨by kernel_rfl,of_decide_eq_true (by kernel_rfl)⟩
  ·exact ⟨by kernel_rfl,of_decide_eq_true (by kernel_rfl)⟩
  ·exact ⟨by kernel_rfl,of_decide_eq_true (by kernel_rfl)⟩) hW' hb⟩
noncomputable def Gr:Array Value:=#[.slice none 0 0,.agg #[.int .i64 0,.slice none 0 0],.agg #[.string ⟨#[]⟩,.slice none 0 0,.int .i64 0,.slice none 0 0,.slice none 0 0]]
theorem LC(os:Os):laidMet Tryz.prog Rows.rulesChecksRow.laid ((mI os).forCall (fun _ _=>0) ⟨#[],Gr,[]⟩).memory:=
 laidMet_of_run' 8 (by kernel_rfl) (by kernel_rfl)
theorem reads(os:Os){H:Type}(enc:TypeId×Value→H):∃ places,DataW.whole enc Tryz.prog ((mI os).forCall (fun _ _=>0) ⟨#[],Gr,[]⟩).memory Tryz.f6.params.toList Rows.rulesChecksSpec.vars false Gr.toList 8=some ([.nil,.agg [.lit (.int .i64 0),.nil],.agg [.lit (.string []),.nil,.agg [.lit (.int .i64 0),.nil,.nil]]],[],places):=
 ⟨[],by kernel_rfl⟩
theorem N9:Tryz.checked.prog.inits.idxOf? 6=none:=by kernel_rfl
theorem Pf(os:Os):World.variablesB Tryz.checked.prog ((mI os).forCall (fun _ _=>0) ⟨#[],Gr,[]⟩)=true:=by kernel_rfl
theorem SX(os:Os):Input.okWideB Tryz.checked.prog ((mI os).forCall (fun _ _=>0) ⟨#[],Gr,[]⟩) 6 ⟨#[],Gr,[]⟩=true:=by kernel_rfl
theorem Pg(os:Os):List.take ((begin Tryz.checked.prog (fun _ _=>0) default).world.heap.size-Tryz.checked.prog.globals.size) (List.drop Tryz.checked.prog.globals.size ((mI os).forCall (fun _ _=>0) ⟨#[],Gr,[]⟩).heap.toList)=List.drop Tryz.checked.prog.globals.size (begin Tryz.checked.prog (fun _ _=>0) default).world.heap.toList:=by kernel_rfl
set_option maxRecDepth 100000 in
theorem lifted(os:Os)(started:os.Started)(H:Type)(enc:TypeId×Value→H)(F:Stop.Interp) :
  ReturnsInHanded {} Tryz.checked os 6 .any ((OpenSpec.ofChange Rows.rulesChecksSpec).preRow enc Tryz.prog Tryz.f6 Rows.rulesChecksRow.domain false Rows.rulesChecksRow.laid) (((OpenSpec.ofChange Rows.rulesChecksSpec).at F).post enc Tryz.prog Tryz.f6 false true false false):=by
 obtain ⟨places,hx⟩:=reads os enc
 refine returnsInHanded_of_row (C:=Tryz.checked) (s:=OpenSpec.ofChange Rows.rulesChecksSpec) own started N9 Tryz.func6
  (witness_row_at (enc:=enc) (C:=Tryz.checked) false (mI os) Gr rfl (Pf os) (Pg os) (SX os)
   (OpenSpec.preRow_of_cond 8 hx (by kernel_rfl) (fun k hk=>by cases hk) (by kernel_rfl) (LC os))) ?_
 intro W base args ds gs before hval hW _ _ hreach hL _ _
 exact contract H enc W base args ds gs before hval hW hreach
end Go.Proofs.YtmkffehchicgaaaGreat.rulesChecks