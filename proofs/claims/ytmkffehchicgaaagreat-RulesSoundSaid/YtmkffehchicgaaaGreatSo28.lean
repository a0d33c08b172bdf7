/- RulesSound, as a row: whatever the arguments, the law answers true. Conditions: none. -/
import Derived.Test.YtmkffehchicgaaaGreatSo26
import Derived.Test.YtmkffehchicgaaaGreatSo27
set_option linter.unusedSimpArgs false
set_option linter.unusedVariables false
namespace Go.Proofs.YtmkffehchicgaaaGreat.rulesSound
open Go Go.AM Go.AM.RuT Go.ChangeShapes Go.WideShapes Go.ChangeAt Go.RowKit
set_option maxRecDepth 100000 in
theorem contract(H:Type)(enc:TypeId×Value→H)(W:World)(base:Nat)(args:Array Value)(ds gs:List (DataW H))(before:List MemPlace)
  (hval:∀ (j:Nat) t v,Tryz.f8.params[j]?=some t→args[j]?=some v→Value.okWide Tryz.prog W .any base t v)
  (hW:DataW.Whole enc Tryz.prog Tryz.f8.params.toList Rows.rulesSoundSpec.vars false W args.toList ds gs before)
  (hreach:(DataW.weightsEach Tryz.prog (Tryz.f8.params.toList++(OpenSpec.ofChange Rows.rulesSoundSpec).bare.plain.varTypes Tryz.prog) (ds++gs)).all (·≤reachBytes)=true) :
  Calls Tryz.prog 8 args W fun e W'=>∃ v,e = .returned v∧Rows.rulesSoundSpec.post enc Tryz.prog Tryz.f8 false true false false W args v W':=by
 have hW':=hW
 obtain ⟨p,q,hA0,hV,rfl,hfz,hnd⟩:=hW
 have hA:DataW.TrodAll enc Tryz.prog W 0 (fun _=>true) true Tryz.f8.params.toList args.toList ds p:=hA0
 rw [Tryz.params8] at hA hval
 obtain ⟨v0,vs0,d0,ds0,p0,q0,hargs,rfl,rfl,h0,r0⟩:=trodAll_cons hA
 obtain ⟨v1,vs1,d1,ds1,p1,q1,hargs1,rfl,rfl,h1,r1⟩:=trodAll_cons r0
 obtain ⟨v2,vs2,d2,ds2,p2,q2,hargs2,rfl,rfl,h2,r2⟩:=trodAll_cons r1
 obtain ⟨rfl,rfl,rfl⟩:=trodAll_nil r2
 subst hargs2
 subst hargs1
 obtain rfl:args = #[v0,v1,v2]:=by apply Array.ext';simpa using hargs
 obtain ⟨xs0,⟨a0,rfl,hok0⟩,hv0⟩:=rP PT h0
 have ok0:=hok0 (uo hreach (j:=0) (by rw [Tryz.params8];rfl) rfl)
 obtain ⟨xs1,⟨a1,rfl,hok1⟩,hv1⟩:=rP PX h1
 have ok1:=hok1 (uo hreach (j:=1) (by rw [Tryz.params8];rfl) rfl)
 obtain ⟨xs2,⟨a2,rfl,hok2⟩,hv2⟩:=rP PZ h2
 have ok2:=hok2 (uo hreach (j:=2) (by rw [Tryz.params8];rfl) rfl)
 obtain ⟨sa0,sl0,sc0,rfl⟩:=IJ hval (j:=0) Tryz.underlying22 rfl rfl
 refine (Gb (zB ok0.2 ok1 ok2) (vs:=#[.slice sa0 sl0 sc0,v1,v2]) (.cons (Mo hv0 (fun vs h=>by cases h)) (.cons (Bi hv1 (by simp [aA])) (.cons (Bi hv2 (by simp [mu,ir])) .nil)))).mono fun e W' ⟨he,hb⟩=>?_
 subst he
 exact ⟨_,rfl,Gd rfl (fun ds hds=>by
  rw [Tryz.params8] at hds
  match ds,hds with
  |[d0,d1,d2],_=>rfl) (by kernel_rfl) Tryz.underlying4 laidOut (fun t ht=>by
  rw [Tryz.params8] at ht
  have ht':t=22∨t=25∨t=57:=by simpa using ht
  rcases ht' with rfl|rfl|rfl
  ·exact ⟨by kernel_rfl,of_decide_eq_true (by kernel_rfl)⟩
  ·exact ⟨by kernel_rfl,of_decide_eq_true (by kernel_rfl)⟩
  ·exact ⟨by kernel_rfl,of_decide_eq_true (by kernel_rfl)⟩) hW' hb⟩
noncomputable def DR:Array Value:=#[.slice none 0 0,.agg #[.int .i64 0,.slice none 0 0],.agg #[.string ⟨#[]⟩,.slice none 0 0,.int .i64 0,.slice none 0 0,.slice none 0 0]]
theorem IU(os:Os):laidMet Tryz.prog Rows.rulesSoundRow.laid ((kT os).forCall (fun _ _=>0) ⟨#[],DR,[]⟩).memory:=
 laidMet_of_run' 8 (by kernel_rfl) (by kernel_rfl)
theorem reads(os:Os){H:Type}(enc:TypeId×Value→H):∃ places,DataW.whole enc Tryz.prog ((kT os).forCall (fun _ _=>0) ⟨#[],DR,[]⟩).memory Tryz.f8.params.toList Rows.rulesSoundSpec.vars false DR.toList 8=some ([.nil,.agg [.lit (.int .i64 0),.nil],.agg [.lit (.string []),.nil,.agg [.lit (.int .i64 0),.nil,.nil]]],[],places):=
 ⟨[],by kernel_rfl⟩
theorem Lf:Tryz.checked.prog.inits.idxOf? 8=none:=by kernel_rfl
theorem Mq(os:Os):World.variablesB Tryz.checked.prog ((kT os).forCall (fun _ _=>0) ⟨#[],DR,[]⟩)=true:=by kernel_rfl
theorem P0(os:Os):Input.okWideB Tryz.checked.prog ((kT os).forCall (fun _ _=>0) ⟨#[],DR,[]⟩) 8 ⟨#[],DR,[]⟩=true:=by kernel_rfl
theorem Mr(os:Os):List.take ((begin Tryz.checked.prog (fun _ _=>0) default).world.heap.size-Tryz.checked.prog.globals.size) (List.drop Tryz.checked.prog.globals.size ((kT os).forCall (fun _ _=>0) ⟨#[],DR,[]⟩).heap.toList)=List.drop Tryz.checked.prog.globals.size (begin Tryz.checked.prog (fun _ _=>0) default).world.heap.toList:=by kernel_rfl
set_option maxRecDepth 100000 in
theorem lifted(os:Os)(started:os.Started)(H:Type)(enc:TypeId×Value→H)(F:Stop.Interp) :
  ReturnsInHanded {} Tryz.checked os 8 .any ((OpenSpec.ofChange Rows.rulesSoundSpec).preRow enc Tryz.prog Tryz.f8 Rows.rulesSoundRow.domain false Rows.rulesSoundRow.laid) (((OpenSpec.ofChange Rows.rulesSoundSpec).at F).post enc Tryz.prog Tryz.f8 false true false false):=by
 obtain ⟨places,hx⟩:=reads os enc
 refine returnsInHanded_of_row (C:=Tryz.checked) (s:=OpenSpec.ofChange Rows.rulesSoundSpec) own started Lf Tryz.func8
  (witness_row_at (enc:=enc) (C:=Tryz.checked) false (kT os) DR rfl (Mq os) (Mr os) (P0 os)
   (OpenSpec.preRow_of_cond 8 hx (by kernel_rfl) (fun k hk=>by cases hk) (by kernel_rfl) (IU os))) ?_
 intro W base args ds gs before hval hW _ _ hreach hL _ _
 exact contract H enc W base args ds gs before hval hW hreach
end Go.Proofs.YtmkffehchicgaaaGreat.rulesSound