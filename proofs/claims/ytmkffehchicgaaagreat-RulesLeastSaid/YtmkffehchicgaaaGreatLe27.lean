/- RulesLeast, as a row: whatever the arguments, the law answers true. Conditions: none. -/
import Derived.Test.YtmkffehchicgaaaGreatLe25
import Derived.Test.YtmkffehchicgaaaGreatLe26
set_option linter.unusedSimpArgs false
set_option linter.unusedVariables false
namespace Go.Proofs.YtmkffehchicgaaaGreat.rulesLeast
open Go Go.AM Go.AM.RuT Go.ChangeShapes Go.WideShapes Go.ChangeAt Go.RowKit
set_option maxRecDepth 100000 in
theorem contract(H:Type)(enc:TypeId×Value→H)(W:World)(base:Nat)(args:Array Value)(ds gs:List (DataW H))(before:List MemPlace)
  (hval:∀ (j:Nat) t v,Tryz.f4.params[j]?=some t→args[j]?=some v→Value.okWide Tryz.prog W .any base t v)
  (hW:DataW.Whole enc Tryz.prog Tryz.f4.params.toList Rows.rulesLeastSpec.vars false W args.toList ds gs before)
  (hreach:(DataW.weightsEach Tryz.prog (Tryz.f4.params.toList++(OpenSpec.ofChange Rows.rulesLeastSpec).bare.plain.varTypes Tryz.prog) (ds++gs)).all (·≤reachBytes)=true) :
  Calls Tryz.prog 4 args W fun e W'=>∃ v,e = .returned v∧Rows.rulesLeastSpec.post enc Tryz.prog Tryz.f4 false true false false W args v W':=by
 have hW':=hW
 obtain ⟨p,q,hA0,hV,rfl,hfz,hnd⟩:=hW
 have hA:DataW.TrodAll enc Tryz.prog W 0 (fun _=>true) true Tryz.f4.params.toList args.toList ds p:=hA0
 rw [Tryz.params4] at hA hval
 obtain ⟨v0,vs0,d0,ds0,p0,q0,hargs,rfl,rfl,h0,r0⟩:=trodAll_cons hA
 obtain ⟨v1,vs1,d1,ds1,p1,q1,hargs1,rfl,rfl,h1,r1⟩:=trodAll_cons r0
 obtain ⟨rfl,rfl,rfl⟩:=trodAll_nil r1
 subst hargs1
 obtain rfl:args = #[v0,v1]:=by apply Array.ext';simpa using hargs
 obtain ⟨xs0,⟨a0,rfl,hok0⟩,hv0⟩:=y8 QX h0
 have ok0:=hok0 (BJ hreach (j:=0) (by rw [Tryz.params4];rfl) rfl)
 obtain ⟨xs1,⟨a1,rfl,hok1⟩,hv1⟩:=y8 Q2 h1
 have ok1:=hok1 (BJ hreach (j:=1) (by rw [Tryz.params4];rfl) rfl)
 obtain ⟨sa0,sl0,sc0,rfl⟩:=J2 hval (j:=0) Tryz.underlying22 rfl rfl
 refine (Hz (AA ok0.2 ok1) (vs:=#[.slice sa0 sl0 sc0,v1]) (.cons (Nt hv0 (fun vs h=>by cases h)) (.cons (Is hv1 (by simp [az])) .nil))).mono fun e W' ⟨he,hb⟩=>?_
 subst he
 exact ⟨_,rfl,HB rfl (fun ds hds=>by
  rw [Tryz.params4] at hds
  match ds,hds with
  |[d0,d1],_=>rfl) (by kernel_rfl) Tryz.underlying4 laidOut (fun t ht=>by
  rw [Tryz.params4] at ht
  have ht':t=22∨t=25:=by simpa using ht
  rcases ht' with rfl|rfl
  ·exact ⟨by kernel_rfl,of_decide_eq_true (by kernel_rfl)⟩
  ·exact ⟨by kernel_rfl,of_decide_eq_true (by kernel_rfl)⟩) hW' hb⟩
noncomputable def EZ:Array Value:=#[.slice none 0 0,.agg #[.int .i64 0,.slice none 0 0]]
theorem J6(os:Os):laidMet Tryz.prog Rows.rulesLeastRow.laid ((l9 os).forCall (fun _ _=>0) ⟨#[],EZ,[]⟩).memory:=
 laidMet_of_run' 8 (by kernel_rfl) (by kernel_rfl)
theorem reads(os:Os){H:Type}(enc:TypeId×Value→H):∃ places,DataW.whole enc Tryz.prog ((l9 os).forCall (fun _ _=>0) ⟨#[],EZ,[]⟩).memory Tryz.f4.params.toList Rows.rulesLeastSpec.vars false EZ.toList 8=some ([.nil,.agg [.lit (.int .i64 0),.nil]],[],places):=
 ⟨[],by kernel_rfl⟩
theorem Mz:Tryz.checked.prog.inits.idxOf? 4=none:=by kernel_rfl
theorem Nx(os:Os):World.variablesB Tryz.checked.prog ((l9 os).forCall (fun _ _=>0) ⟨#[],EZ,[]⟩)=true:=by kernel_rfl
theorem Q3(os:Os):Input.okWideB Tryz.checked.prog ((l9 os).forCall (fun _ _=>0) ⟨#[],EZ,[]⟩) 4 ⟨#[],EZ,[]⟩=true:=by kernel_rfl
theorem Ny(os:Os):List.take ((begin Tryz.checked.prog (fun _ _=>0) default).world.heap.size-Tryz.checked.prog.globals.size) (List.drop Tryz.checked.prog.globals.size ((l9 os).forCall (fun _ _=>0) ⟨#[],EZ,[]⟩).heap.toList)=List.drop Tryz.checked.prog.globals.size (begin Tryz.checked.prog (fun _ _=>0) default).world.heap.toList:=by kernel_rfl
set_option maxRecDepth 100000 in
theorem lifted(os:Os)(started:os.Started)(H:Type)(enc:TypeId×Value→H)(F:Stop.Interp) :
  ReturnsInHanded {} Tryz.checked os 4 .any ((OpenSpec.ofChange Rows.rulesLeastSpec).preRow enc Tryz.prog Tryz.f4 Rows.rulesLeastRow.domain false Rows.rulesLeastRow.laid) (((OpenSpec.ofChange Rows.rulesLeastSpec).at F).post enc Tryz.prog Tryz.f4 false true false false):=by
 obtain ⟨places,hx⟩:=reads os enc
 refine returnsInHanded_of_row (C:=Tryz.checked) (s:=OpenSpec.ofChange Rows.rulesLeastSpec) own started Mz Tryz.func4
  (witness_row_at (enc:=enc) (C:=Tryz.checked) false (l9 os) EZ rfl (Nx os) (Ny os) (Q3 os)
   (OpenSpec.preRow_of_cond 8 hx (by kernel_rfl) (fun k hk=>by cases hk) (by kernel_rfl) (J6 os))) ?_
 intro W base args ds gs before hval hW _ _ hreach hL _ _
 exact contract H enc W base args ds gs before hval hW hreach
end Go.Proofs.YtmkffehchicgaaaGreat.rulesLeast