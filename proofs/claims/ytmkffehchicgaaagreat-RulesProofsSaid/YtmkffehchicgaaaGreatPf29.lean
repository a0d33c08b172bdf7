/- RulesProofs, as a row: whatever the arguments, the law answers true. Conditions: none. -/
import Derived.Test.YtmkffehchicgaaaGreatPf26
import Derived.Test.YtmkffehchicgaaaGreatPf28
set_option linter.unusedSimpArgs false
set_option linter.unusedVariables false
namespace Go.Proofs.YtmkffehchicgaaaGreat.rulesProofs
open Go Go.AM Go.AM.RuT Go.ChangeShapes Go.WideShapes Go.ChangeAt Go.RowKit
set_option maxRecDepth 100000 in
theorem V6(H:Type)(enc:TypeId×Value->H)(W:World)(base:Nat)(args:Array Value)(ds gs:List (DataW H))(before:List MemPlace)
  (we:∀ (j:Nat) t v,Tryz.f5.params[j]?=some t->args[j]?=some v->Value.okWide Tryz.prog W .any base t v)
  (hW:DataW.Whole enc Tryz.prog Tryz.f5.params.toList Rows.rulesProofsSpec.vars false W args.toList ds gs before)
  (Hs:(DataW.weightsEach Tryz.prog (Tryz.f5.params.toList++(OpenSpec.ofChange Rows.rulesProofsSpec).bare.plain.varTypes Tryz.prog) (ds++gs)).all (·<=reachBytes)=true) :
  Calls Tryz.prog 5 args W fun e W'=>∃ v,e = .returned v/\Rows.rulesProofsSpec.post enc Tryz.prog Tryz.f5 false true false false W args v W':=by
 have hW':=hW;obtain ⟨p,q,hA0,hV,rfl,Tu,Ty⟩:=hW;have hA:DataW.TrodAll enc Tryz.prog W 0 (fun _=>true) true Tryz.f5.params.toList args.toList ds p:=hA0;rw [Tryz.params5] at hA we;obtain ⟨v0,vs0,d0,ds0,p0,q0,CZ,rfl,rfl,h0,r0⟩:=trodAll_cons hA;obtain ⟨v1,vs1,d1,ZG,p1,q1,ab2,rfl,rfl,h1,r1⟩:=trodAll_cons r0;obtain ⟨v2,vs2,d2,ds2,p2,q2,ab3,rfl,rfl,h2,r2⟩:=trodAll_cons r1;obtain ⟨rfl,rfl,rfl⟩:=trodAll_nil r2;subst ab3;subst ab2;obtain rfl:args = #[v0,v1,v2]:=by apply Array.ext';simpa using CZ
 obtain ⟨xs0,⟨a0,rfl,PC⟩,BG⟩:=zN akH h0;have ok0:=PC (BZ Hs (j:=0) (by rw [Tryz.params5];rfl) rfl);obtain ⟨xs1,⟨a1,rfl,alx⟩,RK⟩:=zN akL h1;have ok1:=alx (BZ Hs (j:=1) (by rw [Tryz.params5];rfl) rfl);obtain ⟨xs2,⟨a2,rfl,aby⟩,hv2⟩:=zN akM h2;have ok2:=aby (BZ Hs (j:=2) (by rw [Tryz.params5];rfl) rfl);obtain ⟨sa0,sl0,sc0,rfl⟩:=VF we (j:=0) Tryz.underlying22 rfl rfl;refine (RR (Es ok0.2 ok1 ok2) (vs:=#[.slice sa0 sl0 sc0,v1,v2]) (.cons (abJ BG (fun vs h=>by cases h)) (.cons (JN RK (by simp [aB])) (.cons (JN hv2 (by simp [lZ])) .nil)))).mono fun e W' ⟨he,hb⟩=>?_;subst he
 exact ⟨_,rfl,RU rfl (fun ds hds=>by
  rw [Tryz.params5] at hds
  match ds,hds with
  |[d0,d1,d2],_=>rfl) (by kernel_rfl) Tryz.underlying4 laidOut (fun t ht=>by
  rw [Tryz.params5] at ht;have ht':t=22\/t=25\/t=45:=by simpa using ht
  rcases ht' with rfl|rfl|rfl
  ·exact ⟨by kernel_rfl,of_decide_eq_true (by kernel_rfl)⟩
  ·exact ⟨by kernel_rfl,of_decide_eq_true (by kernel_rfl)⟩
  ·exact ⟨by kernel_rfl,of_decide_eq_true (by kernel_rfl)⟩) hW' hb⟩
noncomputable def NN:Array Value:=#[.slice none 0 0,.agg #[.int .i64 0,.slice none 0 0],.agg #[.string ⟨#[]⟩,.slice none 0 0]]
theorem V8(os:Os):laidMet Tryz.prog Rows.rulesProofsRow.laid ((rj os).forCall (fun _ _=>0) ⟨#[],NN,[]⟩).memory:=
 laidMet_of_run' 8 (by kernel_rfl) (by kernel_rfl)
theorem reads(os:Os){H:Type}(enc:TypeId×Value->H):∃ EW,DataW.whole enc Tryz.prog ((rj os).forCall (fun _ _=>0) ⟨#[],NN,[]⟩).memory Tryz.f5.params.toList Rows.rulesProofsSpec.vars false NN.toList 8=some ([.nil,.agg [.lit (.int .i64 0),.nil],.agg [.lit (.string []),.nil]],[],EW):=
 ⟨[],by kernel_rfl⟩
theorem Zm:Tryz.checked.prog.inits.idxOf? 5=none:=by kernel_rfl
theorem ab4(os:Os):World.variablesB Tryz.checked.prog ((rj os).forCall (fun _ _=>0) ⟨#[],NN,[]⟩)=true:=by kernel_rfl
theorem aly(os:Os):Input.okWideB Tryz.checked.prog ((rj os).forCall (fun _ _=>0) ⟨#[],NN,[]⟩) 5 ⟨#[],NN,[]⟩=true:=by kernel_rfl
theorem ab5(os:Os):List.take ((begin Tryz.checked.prog (fun _ _=>0) default).world.heap.size-Tryz.checked.prog.globals.size) (List.drop Tryz.checked.prog.globals.size ((rj os).forCall (fun _ _=>0) ⟨#[],NN,[]⟩).heap.toList)=List.drop Tryz.checked.prog.globals.size (begin Tryz.checked.prog (fun _ _=>0) default).world.heap.toList:=by kernel_rfl
set_option maxRecDepth 100000 in
theorem lifted(os:Os)(started:os.Started)(H:Type)(enc:TypeId×Value->H)(F:Stop.Interp) :
  ReturnsInHanded {} Tryz.checked os 5 .any ((OpenSpec.ofChange Rows.rulesProofsSpec).preRow enc Tryz.prog Tryz.f5 Rows.rulesProofsRow.domain false Rows.rulesProofsRow.laid) (((OpenSpec.ofChange Rows.rulesProofsSpec).at F).post enc Tryz.prog Tryz.f5 false true false false):=by
 obtain ⟨EW,hx⟩:=reads os enc
 refine returnsInHanded_of_row (C:=Tryz.checked) (s:=OpenSpec.ofChange Rows.rulesProofsSpec) own started Zm Tryz.func5
  (witness_row_at (enc:=enc) (C:=Tryz.checked) false (rj os) NN rfl (ab4 os) (ab5 os) (aly os)
   (OpenSpec.preRow_of_cond 8 hx (by kernel_rfl) (fun k hk=>by cases hk) (by kernel_rfl) (V8 os))) ?_
 intro W base args ds gs before we hW _ _ Hs hL _ _;exact V6 H enc W base args ds gs before we hW Hs
end Go.Proofs.YtmkffehchicgaaaGreat.rulesProofs