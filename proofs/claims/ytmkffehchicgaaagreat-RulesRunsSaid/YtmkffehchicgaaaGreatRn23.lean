/- Parts of a proof, merged out of smaller texts: the abstract machine and what functions do. Conditions: none. -/
import Derived.Test.YtmkffehchicgaaaGreatRn15
import Derived.Test.YtmkffehchicgaaaGreatRn22
set_option linter.unusedSimpArgs false
set_option linter.unusedVariables false
namespace Go.AM
open Go Go.Proofs
noncomputable section
def Ix(rs:List aE)(s:ej):Prop:=(∃ p ∈ cA rs,p.1 ∉ bC rs∧s.rels.l.find? (lI p.1 p.2)=none)∨∃ r ∈ s.rels.l,r.name ∈ bC rs
def Kp(rs:List aE)(s:ej):Prop:=8<s.rels.l.length+(cO rs).length∨(∃ r ∈ rs,4096<s.size.toNat ^ r.args.l.length)∨∃ r ∈ rs,65536<s.size.toNat ^ (varsOf r).length
structure wu (n:Nat) (rs:List aE) (s:ej) (D:DB):Prop where
 rel:∀ r ∈ s.rels.l,∃ b,D r.name=some (b,bitsOf n r.arity.toNat r.tuples.l)
 head:∀ r ∈ rs,∃ b,D r.name=some (b,List.replicate (n ^ r.args.l.length) false)
 only:∀ nm p,D nm=some p→nm ∈ bC rs∨∃ r ∈ s.rels.l,r.name=nm
structure Gr (n P A M S B lo:Nat) (rules:Sl aE) (ks:List bG) (lv:Lev.Lv) (D0:DB) (m:dJ) (h:ag):Prop where
 hP:h.get P=some (.cells [aq aM 3 rules,.map A,.map M])
 hl:eY (bC rules.l) h M ks lv
 hks:ks.Nodup
 hgo:dG rules.l []=some m
 hA:∃ es ck,h.get A=some (.map es ck)∧Gq es ck m
 hS:h.get S=some (.cells [.int .i64 (n:Int),.map B])
 hD:ec D0 h B lo
 ord:A<M∧M<P∧P<B∧B<S∧S<lo∧lo≤h.next
theorem Hp{rs:List aE}{h:ag}{M:Nat}{ks:List bG}{lv:Lev.Lv}(hl:eY (bC rs) h M ks lv)(hks:ks.Nodup):ks.length=(cO rs).length:=by
 have h1:(cO rs).Nodup:=by
  have:=lf rs
  unfold pe at this
  refine this.imp fun {a b} h e=>?_
  rw [e,l7] at h;cases h
 have h2:=Lev.ny hks (m:=cO rs) fun x hx=>(dQ rs).2 ((hl.mem x).1 hx)
 have h3:=Lev.ny h1 (m:=ks) fun x hx=>(hl.mem x).2 ((dQ rs).1 hx)
 omega
set_option maxHeartbeats 2000000 in
theorem ay{rules:Sl aE}{s:ej}(hok:∀ r ∈ rules.l,r.ok)(hfew:∀ r ∈ rules.l,r.lB)(hsok:s.ok){h:ag}{K:Out→ag→Bool}
  (h1:(¬ jN rules.l∨dP s=false)→∀ h',(∀ b,b<h.next→h'.get b=h.get b)→K (.ret (.tuple [.nilp,.nilp,.int .i64 1])) h'=true)
  (h4:jN rules.l→dP s=true→Ix rules.l s→∀ h',(∀ b,b<h.next→h'.get b=h.get b)→K (.ret (.tuple [.nilp,.nilp,.int .i64 4])) h'=true)
  (h5:jN rules.l→dP s=true→¬ Ix rules.l s→Kp rules.l s→∀ h',(∀ b,b<h.next→h'.get b=h.get b)→K (.ret (.tuple [.nilp,.nilp,.int .i64 5])) h'=true)
  (h0:jN rules.l→dP s=true→¬ Ix rules.l s→¬ Kp rules.l s→∀ h' (n:Nat) P A M S B lo ks k D0 m,s.size=(n:Int)→1≤n→n≤64→Lev.cZ (bO rules.l) (Lev.iter (bO rules.l) k) →
   Gr n P A M S B lo rules ks (Lev.iter (bO rules.l) k) D0 m h'→wu n rules.l s D0→(∀ b,b<h.next→h'.get b=h.get b)→h.next≤A→K (.ret (.tuple [.ptr P 0,.ptr S 0,.int .i64 0])) h'=true) :
  Sem Tryz.prog 45 [aq aM 3 rules,.agg (az s)] h K:=by
 refine F.uo ?_
 simp only [cU (dR s),bindO_some]
 have g0:(h.alloc (.cells (az s))).get h.next=some (.cells (az s)):=aB _ _
 have gx:bJ h (h.alloc (.cells (az s))):=bJ.alloc _ _
 have gn:(h.alloc (.cells (az s))).next=h.next+1:=rfl
 generalize (h.alloc (.cells (az s)))=H0 at g0 gx gn ⊢
 refine an (Iv hok hfew (fun hb h' hf=>?_) fun h' P A M ks k hg hst gP la hks hPn hMn m es ck hgo gA hmB o1 o2 o3 hfr=>?_)
 ·simp only [aU,Nat.reduceAdd,Nat.reduceEqDiff,reduceIte,Bool.not_false]
  exact h1 (.inl hb) _ (fun b hb=>by rw [hf b (by omega),gx.get b hb])
 have p0:h'.get h.next=some (.cells (az s)):=by rw [hfr _ (by omega)];exact g0
 have l0:ai (some 2) (.ptr h.next 0) h'=some (.agg (az s)):=by rw [ak p0,dU (cs:=az s) (n:=2) rfl]
 simp only [aU,Nat.reduceAdd,Nat.reduceEqDiff,reduceIte,Bool.not_true,l0]
 refine an (dA hsok ?_)
 simp only [aU,Nat.reduceAdd,Nat.reduceEqDiff,reduceIte]
 cases hsv:dP s with
 |false=>simp only [Bool.not_false,aJ];exact h1 (.inr hsv) _ (fun b hb=>by rw [hfr b (by omega),gx.get b hb])
 |true=>
 obtain ⟨n,hn,n1,n64,h8⟩:=nR hsv
 have hnn:s.size.toNat=n:=by omega
 specialize h4 hg hsv
 specialize h5 hg hsv
 specialize h0 hg hsv
 clear h1
 have hr60:=hg.lB
 have hgok:=fZ hgo
 obtain ⟨hmI,hmBi,hmN⟩:=id hmB
 have hrg:jD .map (.map A) h'=some (.ptr h'.next 0,h'.alloc (.miter (some A) ck [] ck)):=by simp only [jD,gA]
 simp only [Bool.not_true,aG,bX,aU,Nat.reduceAdd,Nat.reduceEqDiff,reduceIte,ak gP,hrg]
 have hall:∀ p ∈ m,(p.1,p.2) ∈ cA rules.l:=fun p hp=>(jg hgo p.1 p.2).1 (rF hmN hp)
 refine vU es (fun seen e hh=>(∀ en ∈ es,en.2.2 ∈ seen→∀ p ∈ m,en.1 = .str p.1→¬ (p.1 ∉ bC rules.l∧s.rels.l.find? (lI p.1 p.2)=none))∧hh.get h'.next=some (.miter (some A) ck seen ck)∧(∀ b,b<h'.next→hh.get b=h'.get b)∧h'.next<hh.next ∧
   e 0=aq aM 3 rules∧e 3 = .ptr h.next 0∧e 7 = .ptr P 0∧e 46 = .ptr h'.next 0)
  ⟨fun en _ hen=>(by cases hen),aB _ _,fun b hb=>by rw [ag.bf,if_neg (by omega)],by rw [ag.next_alloc];omega,rfl,rfl,rfl,rfl⟩ ?_
 rintro seen e hh ⟨hseen,w3,wf,wn,e0,e3,e7,e46⟩ K' hnx' hex hret hpan
 rw [F.ay.aO]
 simp only [e46]
 refine Aw w3 (by rw [wf A (by omega)];exact gA) hmBi (by omega) (fun hallS=>?_) (fun en hen hns hent=>?_)
 ·
  have hno4:¬ ∃ p ∈ cA rules.l,p.1 ∉ bC rules.l∧s.rels.l.find? (lI p.1 p.2)=none:=by
   rintro ⟨p,hp,hb⟩
   have hf:=(jg hgo p.1 p.2).2 hp
   have hpm:=nO hf
   obtain ⟨en,hen,hen1,_⟩:=hmI.mem' _ hpm
   exact hseen en hen (hallS en hen) _ hpm hen1 hb
  simp only [CT,lZ,bindO_some,condB_bool,aG]
  rw [hex,F.ay.aD]
  have v0:hh.get h.next=some (.cells (az s)):=by rw [wf _ (by omega)];exact p0
  have lr:ai none (.ptr h.next 1) hh=some (aq aQ 3 s.rels):=by rw [ak v0];rfl
  simp only [aU,Nat.reduceAdd,Nat.reduceEqDiff,reduceIte,e3,lr]
  refine aC 0 s.rels.l.length (Nat.zero_le _) (fun i e h2=>(∀ r ∈ s.rels.l.take i,r.name ∉ bC rules.l)∧(∀ b,b<h'.next→h2.get b=h'.get b)∧h'.next<h2.next∧e 0=aq aM 3 rules∧e 3 = .ptr h.next 0∧e 7 = .ptr P 0∧e 71=aq aQ 3 s.rels∧e 72 = .int .i64 (s.rels.l.length:Int)∧e 73 = .int .i64 (i:Int))
   ⟨fun r hr=>(by cases hr),wf,wn,e0,e3,e7,rfl,rfl,rfl⟩ ?_ ?_
  ·rintro i e h2 _ hi ⟨hnot,wf2,wn2,e0,e3,e7,e71,e72,e73⟩ K2 hn2 hx2 hr2 hp2
   have hv:s.rels.l[i]?=some s.rels.l[i]:=List.getElem?_eq_getElem hi
   generalize s.rels.l[i]=r at hv
   obtain ⟨H,hs1,q1,qo,qn⟩:=cP (h:=h2) (zs:=[.str [],.int .i64 0,.nils]) (cs:=aQ r) (n:=3) rfl rfl (fR r)
   have pP:H.get P=some (.cells [aq aM 3 rules,.map A,.map M]):=by rw [qo _ (by omega),wf2 _ (by omega)];exact gP
   have hM:H.get M=h'.get M:=by rw [qo _ (by omega),wf2 _ (by omega)]
   obtain ⟨esL,ckL,mL,y1,y2,y3,y4,y5⟩:=la.ex
   have hlk:=oA (h:=H) (by rw [hM];exact y1) y2 r.name
   have hsome:(mL.find r.name).isSome=decide (r.name ∈ bC rules.l):=by rw [y5];by_cases hh':r.name ∈ bC rules.l<;>simp [hh']
   have ln:ai none (.ptr h2.next 0) H=some (.str r.name):=by rw [ak q1];rfl
   rw [F.ay.dx]
   simp only [e7,e71,e72,e73,aU,Nat.reduceAdd,Nat.reduceEqDiff,reduceIte,bg hi,aW s.rels hi,dN ee hv,hs1]
   simp only [aU,Nat.reduceAdd,Nat.reduceEqDiff,reduceIte,bX,ak pP,ln,hlk,hsome]
   by_cases hd:r.name ∈ bC rules.l
   ·simp only [decide_eq_true hd,aJ]
    rw [hr2,F.ay.iE]
    simp only [bH,Nat.reduceEqDiff,reduceIte]
    exact h4 (.inr ⟨r,List.mem_of_getElem? hv,hd⟩) _ (fun b hb=>by rw [qo b (by omega),wf2 b (by omega),hfr b (by omega),gx.get b hb])
   ·simp only [decide_eq_false hd,aG,e73,aI hi hsok.1,bindO_some]
    refine hn2 _ _ ⟨fun q hq=>?_,fun b hb=>by rw [qo b (by omega)];exact wf2 b hb,by omega,e0,e3,e7,e71,e72,rfl⟩
    rw [List.take_add_one,hv] at hq
    rcases List.mem_append.1 hq with hq|hq
    ·exact hnot q hq
    ·simp only [Option.toList_some,List.mem_singleton] at hq
     subst hq;exact hd
  ·rintro e h2 ⟨hnot,wf2,wn2,e0,e3,e7,e71,e72,e73⟩ K2 hx2
   rw [List.take_of_length_le (Nat.le_refl _)] at hnot
   have hst4:¬ Ix rules.l s:=by
    rintro (hb|⟨r,hr,hd⟩)
    ·exact hno4 hb
    ·exact hnot r hr hd
   specialize h5 hst4
   specialize h0 hst4
   have v0:h2.get h.next=some (.cells (az s)):=by rw [wf2 _ (by omega)];exact p0
   have vP:h2.get P=some (.cells [aq aM 3 rules,.map A,.map M]):=by rw [wf2 _ (by omega)];exact gP
   have vl:eY (bC rules.l) h2 M ks (Lev.iter (bO rules.l) k):=la.keep (wf2 _ (by omega))
   have lr:ai none (.ptr h.next 1) h2=some (aq aQ 3 s.rels):=by rw [ak v0];rfl
   have ls:ai none (.ptr h.next 0) h2=some (.int .i64 (n:Int)):=by rw [ak v0,← hn];rfl
   have hkl:ks.length≤60:=by
    have:=Lev.ny hks (m:=bC rules.l) fun x hx=>(la.mem x).1 hx
    have h1:(bC rules.l).length=rules.l.length:=by simp [bC]
    omega
   have hadd:aA .add (.int .i64 (s.rels.l.length:Int)) (.int .i64 (ks.length:Int))=some (.int .i64 ((s.rels.l.length+ks.length:Nat):Int)):=by
    rw [gH (by omega) (by omega)];rfl
   have hdk:=Hp la hks
   rw [F.ay.dx]
   simp only [e72,e73,aU,Nat.reduceAdd,Nat.reduceEqDiff,reduceIte,aR]
   rw [hx2,F.ay.cw]
   simp only [aU,Nat.reduceAdd,Nat.reduceEqDiff,reduceIte,e3,e7,lr,bX,ak vP,vl.len,hadd]
   by_cases hbg:8<s.rels.l.length+ks.length
   ·simp only [decide_eq_true (by omega:(8:Int)<((s.rels.l.length+ks.length:Nat):Int)),aJ]
    exact h5 (.inl (by rw [← hdk];exact hbg)) _ (fun b hb=>by rw [wf2 b (by omega),hfr b (by omega),gx.get b hb])
   have hagg:gw [.int .i64 0,.nilm] [(0,1),(1,1)] [.int .i64 (n:Int),.map h2.next]=some (.agg [.int .i64 (n:Int),.map h2.next]):=rfl
   simp only [decide_eq_false (by omega:¬ (8:Int)<((s.rels.l.length+ks.length:Nat):Int)),aG,ls,bindO_some,hagg,cU (show bN [.int .i64 (n:Int),.map h2.next]=true from rfl),ag.next_alloc]
   have f0:((h2.alloc (.map [] 0)).alloc (.cells [.int .i64 (n:Int),.map h2.next])).get h2.next=some (.map [] 0):=by rw [ag.bf,ag.next_alloc,if_neg (by omega)];exact aB _ _
   have f1:((h2.alloc (.map [] 0)).alloc (.cells [.int .i64 (n:Int),.map h2.next])).get (h2.next+1)=some (.cells [.int .i64 (n:Int),.map h2.next]):=aB _ _
   have fx:bJ h2 ((h2.alloc (.map [] 0)).alloc (.cells [.int .i64 (n:Int),.map h2.next])):=(bJ.alloc _ _).trans (bJ.alloc _ _)
   have fn:((h2.alloc (.map [] 0)).alloc (.cells [.int .i64 (n:Int),.map h2.next])).next=h2.next+1+1:=rfl
   generalize ((h2.alloc (.map [] 0)).alloc (.cells [.int .i64 (n:Int),.map h2.next]))=H2 at f0 f1 fx fn ⊢
   have uP:H2.get P=some (.cells [aq aM 3 rules,.map A,.map M]):=by rw [fx.get _ (by omega)];exact vP
   obtain ⟨esL,ckL,mL,y1,y2,y3,y4,y5⟩:=la.ex
   have uM:H2.get M=some (.map esL ckL):=by rw [fx.get _ (by omega),wf2 _ (by omega)];exact y1
   have hrg2:jD .map (.map M) H2=some (.ptr H2.next 0,H2.alloc (.miter (some M) ckL [] ckL)):=by simp only [jD,uM]
   simp only [e7,bX,aU,Nat.reduceAdd,Nat.reduceEqDiff,reduceIte,ak uP,hrg2]
   have r3:(H2.alloc (.miter (some M) ckL [] ckL)).get (h2.next+1+1)=some (.miter (some M) ckL [] ckL):=by have:=aB H2 (.miter (some M) ckL [] ckL);rwa [fn] at this
   have rx:bJ H2 (H2.alloc (.miter (some M) ckL [] ckL)):=bJ.alloc _ _
   have rn:(H2.alloc (.miter (some M) ckL [] ckL)).next=h2.next+1+1+1:=by rw [ag.next_alloc,fn]
   rw [fn]
   generalize (H2.alloc (.miter (some M) ckL [] ckL))=H3 at r3 rx rn ⊢
   have low:∀ b,b<h2.next→H3.get b=h2.get b:=fun b hb=>by rw [rx.get b (by omega),fx.get b hb]
   have s0:H3.get h2.next=some (.map [] 0):=by rw [rx.get _ (by omega)];exact f0
   have s1:H3.get (h2.next+1)=some (.cells [.int .i64 (n:Int),.map h2.next]):=by rw [rx.get _ (by omega)];exact f1
   have sM:H3.get M=some (.map esL ckL):=by rw [rx.get _ (by omega)];exact uM
   have sP:H3.get P=some (.cells [aq aM 3 rules,.map A,.map M]):=by rw [rx.get _ (by omega)];exact uP
   have sA:H3.get A=some (.map es ck):=by rw [low _ (by omega),wf2 _ (by omega)];exact gA
   have sB:H3.get h.next=some (.cells (az s)):=by rw [low _ (by omega)];exact v0
   have sl:eY (bC rules.l) H3 M ks (Lev.iter (bO rules.l) k):=la.keep (by rw [sM,y1])
   have sD:ec (fun _=>none) H3 h2.next (h2.next+1+1+1):=⟨⟨[],0,[],s0,trivial,fun nm=>rfl⟩,fun nm p hp=>(by cases hp),fun nm nm' p p' hp=>(by cases hp),by omega⟩
   refine BD (S:=h2.next+1) (SB:=h.next) hn n1 n64 (fun r hr=>jQ (hgok r hr).1) hgo s1 sB sP sA hmB sl sD (fun es' ck' hM'=>by rw [sM] at hM';cases hM';exact r3) rn (by omega) (by omega) (by omega) (by omega) (by omega) (by omega) (by omega) (by omega) (by omega) (by omega) (by omega) e0 e3 e7 rfl rfl (fun hb h' hf=>h5 (.inr (.inl (by rw [hnn];exact hb))) h' (fun b hb=>by rw [hf b (by omega) (by omega),low b (by omega),wf2 b (by omega),hfr b (by omega),gx.get b hb])) fun e4 h4' D a1 a2 a3 a4 a5 a6 j0 j3 j7 j17=>?_
   rw [F.ay.fY]
   simp only [j0,aU,Nat.reduceAdd,Nat.reduceEqDiff,reduceIte]
   refine BC (s:=s) (SB:=h.next) (S:=h2.next+1) hn n1 n64 hfew hr60 (fun r hr=>(hgok r hr).2.2) (by rw [a5 _ (by omega) (by omega)];exact sB) (by omega) j3 j7 j17 rfl rfl rfl (fun hb h' hx=>h5 (.inr (.inr (by rw [hnn];exact hb))) h' (fun b hb=>by rw [hx.get b (by omega),a5 b (by omega) (by omega),low b (by omega),wf2 b (by omega),hfr b (by omega),gx.get b hb])) fun c1 e5 h6 c2 i3 i7 i17=>?_
   have c6:=c2.next
   have t0:h6.get h.next=some (.cells (az s)):=by rw [c2.get _ (by omega),a5 _ (by omega) (by omega)];exact sB
   have t1:h6.get (h2.next+1)=some (.cells [.int .i64 (n:Int),.map h2.next]):=by rw [c2.get _ (by omega),a5 _ (by omega) (by omega)];exact s1
   have lr6:ai none (.ptr h.next 1) h6=some (aq aQ 3 s.rels):=by rw [ak t0];rfl
   rw [F.ay.Jt]
   simp only [aU,Nat.reduceAdd,Nat.reduceEqDiff,reduceIte,i3,lr6]
   refine Dt (S:=h2.next+1) (SB:=h.next) hsok hsv hn n1 n64 t1 t0 (a2.ext c2) (by omega) (by omega) (by omega) (by omega) (by omega) i3 i7 i17 rfl rfl rfl fun h7 D7 d1 d2 d3 d4 d5=>?_
   have hst5:¬ Kp rules.l s:=by
    rintro (hb|⟨r,hr,hb⟩|⟨r,hr,hb⟩)
    ·omega
    ·rw [hnn] at hb;have:=a1 r hr;omega
    ·rw [hnn] at hb;have:=c1 r hr;omega
   have keep:∀ b,b<h2.next→h7.get b=h2.get b:=fun b hb=>by rw [d4 b (by omega) (by omega),c2.get b (by omega),a5 b (by omega) (by omega),low b hb]
   refine h0 hst5 h7 n P A M (h2.next+1) h2.next (h2.next+1+1+1) ks k D7 m hn n1 n64 hst ⟨?_,la.keep ?_,hks,hgo,⟨es,ck,?_,hmB⟩,?_,d1,by omega⟩ ⟨fun r hr=>?_,fun r hr=>?_,fun nm p hp=>?_⟩ (fun b hb=>?_) (by omega)
   ·rw [keep _ (by omega)];exact vP
   ·rw [keep _ (by omega),wf2 _ (by omega)]
   ·rw [keep _ (by omega),wf2 _ (by omega)];exact gA
   ·rw [d4 _ (by omega) (by omega)];exact t1
   ·obtain ⟨b,_,b2⟩:=d2 r hr
    exact ⟨b,b2⟩
   ·obtain ⟨b,b2⟩:=a3 r hr
    refine ⟨b,?_⟩
    rw [d3 r.name fun q hq e=>hnot q hq (by rw [e];exact List.mem_map_of_mem hr)]
    exact b2
   ·by_cases hq:∃ q ∈ s.rels.l,q.name=nm
    ·exact .inr hq
    ·rw [d3 nm fun q hq' e=>hq ⟨q,hq',e⟩] at hp
     exact .inl (a4 nm p hp)
   ·rw [keep _ (by omega),wf2 _ (by omega),hfr _ (by omega),gx.get _ hb]
 obtain ⟨p,hpm,hn1,hn2⟩:=hmI.mem en hen
 have vf:∀ b,b<h'.next→(hh.set h'.next (.miter (some A) ck (seen++[en.2.2]) ck)).get b=h'.get b:=fun b hb=>by rw [ag.aN,if_neg (by omega)];exact wf b hb
 have v3:(hh.set h'.next (.miter (some A) ck (seen++[en.2.2]) ck)).get h'.next=some (.miter (some A) ck (seen++[en.2.2]) ck):=by rw [ag.aN,if_pos rfl]
 have vn:(hh.set h'.next (.miter (some A) ck (seen++[en.2.2]) ck)).next=hh.next:=ag.next_set _ _ _
 simp only [CT,lZ,rA,bindO_some,condB_bool,aJ,hent,e3,e7,e46,hn1,hn2]
 clear hent
 generalize (hh.set h'.next (.miter (some A) ck (seen++[en.2.2]) ck))=H at vf v3 vn ⊢
 have pP:H.get P=some (.cells [aq aM 3 rules,.map A,.map M]):=by rw [vf _ (by omega)];exact gP
 have p0':H.get h.next=some (.cells (az s)):=by rw [vf _ (by omega)];exact p0
 have lS:ai (some 2) (.ptr h.next 0) H=some (.agg (az s)):=by rw [ak p0',dU (cs:=az s) (n:=2) rfl]
 obtain ⟨esL,ckL,mL,y1,y2,y3,y4,y5⟩:=la.ex
 have hlk:=oA (h:=H) (by rw [vf M (by omega)];exact y1) y2 p.1
 have hsome:(mL.find p.1).isSome=decide (p.1 ∈ bC rules.l):=by rw [y5];by_cases hh':p.1 ∈ bC rules.l<;>simp [hh']
 have fin:∀ (e':Env),(¬ (p.1 ∉ bC rules.l∧s.rels.l.find? (lI p.1 p.2)=none))→e' 0=aq aM 3 rules→e' 3 = .ptr h.next 0→e' 7 = .ptr P 0→e' 46 = .ptr h'.next 0→K' .normal ⟨e',198,[],H⟩=true:=fun e' hgood e0 e3 e7 e46=>by
  refine hnx' en hen hns _ _ ⟨fun en' hen' hse q hq hqn=>?_,v3,vf,by omega,e0,e3,e7,e46⟩
  rcases List.mem_append.1 hse with hse|hse
  ·exact hseen en' hen' hse q hq hqn
  ·rw [List.mem_singleton] at hse
   have hee:en'=en:=by
    obtain ⟨i,hi⟩:=List.mem_iff_getElem?.1 hen
    obtain ⟨j,hj⟩:=List.mem_iff_getElem?.1 hen'
    have hi':(es.map (·.2.2))[i]?=some en.2.2:=by rw [List.getElem?_map,hi];rfl
    have hj':(es.map (·.2.2))[j]?=some en.2.2:=by rw [List.getElem?_map,hj,← hse];rfl
    have hij:=kK hmBi.nodup hi' hj'
    subst hij
    rw [hi] at hj;exact (Option.some.inj hj).symm
   rw [hee,hn1] at hqn
   injection hqn with h3
   have h6:q.2=p.2:=by
    have h7:=rF hmN hq
    have h8:=rF hmN hpm
    rw [← h3,h8] at h7
    exact (Option.some.inj h7).symm
   rw [← h3,h6];exact hgood
 simp only [aU,Nat.reduceAdd,Nat.reduceEqDiff,reduceIte,bX,ak pP,hlk,hsome]
 by_cases hd:p.1 ∈ bC rules.l
 ·simp only [decide_eq_true hd,Bool.not_true,aG]
  exact fin _ (fun hb=>hb.1 hd) e0 e3 e7 e46
 ·simp only [decide_eq_false hd,Bool.not_false,aJ,aU,Nat.reduceAdd,Nat.reduceEqDiff,reduceIte,lS]
  refine an (Gd hsok ?_)
  simp only [aU,Nat.reduceAdd,Nat.reduceEqDiff,reduceIte]
  rcases qJ (lI p.1 p.2) s.rels.l with ⟨f1,f2⟩|⟨j,r,f1,f2,f3⟩
  ·rw [f1]
   simp only [show decide ((-1:Int)<0)=true from rfl,aJ]
   rw [hret,F.ay.bt]
   simp only [bH,Nat.reduceEqDiff,reduceIte]
   exact h4 (.inl ⟨(p.1,p.2),hall p hpm,hd,f2⟩) _ (fun b hb=>by rw [vf b (by omega),hfr b (by omega),gx.get b hb])
  ·rw [f1]
   simp only [decide_eq_false (by omega:¬ ((j:Int)<0)),aG]
   exact fin _ (fun hb=>by rw [f3] at hb;exact absurd hb.2 (by simp)) e0 e3 e7 e46
end
end Go.AM
namespace Go.AM
open Go Go.Proofs
noncomputable section
theorem pE{α β:Type}{enc:α→List AV}{enc':β→List AV}{h:ag}:∀ {l:List (α×β)},(∀ p ∈ l,jB true h (enc p.1) (enc' p.2))→jB true h (l.flatMap fun p=>enc p.1) (l.flatMap fun p=>enc' p.2)
 |[],_=>.nil
 |p :: l,hp=>by
  rw [List.flatMap_cons,List.flatMap_cons]
  exact jB.append (hp p List.mem_cons_self) (pE fun q hq=>hp q (List.mem_cons_of_mem _ hq))
structure iJ {α β:Type} (X:Nat→Prop) (enc:α→List AV) (enc':β→List AV) (sz k:Nat) (h:ag) (a:AV) (l:List (α×β)):Prop where
 own:Own enc sz k h a (l.map (·.1))
 sj:∀ p ∈ l,∀ h',(∀ b,k≤b→b<h.next→¬ X b→de a≠some b→h'.get b=h.get b)→jB true h' (enc p.1) (enc' p.2)
 av:∀ b,de a=some b→¬ X b
section
variable {α β:Type} {X:Nat→Prop} {enc:α→List AV} {enc':β→List AV} {sz k:Nat} {h h':ag} {a:AV} {l:List (α×β)}
theorem iJ.nil:iJ X enc enc' sz k h .nils []:=⟨.nil,fun p hp=>(by cases hp),fun b hb=>(by cases hb)⟩
theorem Own.agree{α:Type}{enc:α→List AV}{sz k:Nat}{h h':ag}{a:AV}{l:List α}(o:Own enc sz k h a l)(hb:∀ b,de a=some b→h'.get b=h.get b)(hn:h.next≤h'.next):Own enc sz k h' a l:=by
 cases o with
 |nil=>exact .nil
 |row b l h1 h2 h3=>exact .row b _ h1 (Nat.lt_of_lt_of_le h2 hn) (by rw [hb b rfl];exact h3)
theorem iJ.keep(o:iJ X enc enc' sz k h a l)(hb:∀ b,k≤b→b<h.next→¬ X b→h'.get b=h.get b)(hn:h.next≤h'.next):iJ X enc enc' sz k h' a l:=
 ⟨o.own.agree (fun b e=>hb b (o.own.ge e) (o.own.lt e) (o.av b e)) hn,fun p hp h2 hh=>o.sj p hp h2 fun b b1 b2 b3 b4=>by rw [hh b b1 (Nat.lt_of_lt_of_le b2 hn) b3 b4,hb b b1 b2 b3],o.av⟩
theorem iJ.ext(o:iJ X enc enc' sz k h a l)(hx:bJ h h'):iJ X enc enc' sz k h' a l:=o.keep (fun b _ b2 _=>hx.get b b2) hx.next
theorem iJ.low(o:iJ X enc enc' sz k h a l){d:Nat}(hd:d<k)(x:jj):iJ X enc enc' sz k (h.set d x) a l:=
 o.keep (fun b b1 _ _=>by rw [ag.aN,if_neg (by omega)]) (by rw [ag.next_set];exact Nat.le_refl _)
theorem iJ.Rj(o:iJ X enc enc' sz k h a l){d:Nat}(hd:X d)(x:jj):iJ X enc enc' sz k (h.set d x) a l:=
 o.keep (fun b b1 _ b3=>by rw [ag.aN,if_neg (fun e=>b3 (by rw [e];exact hd))]) (by rw [ag.next_set];exact Nat.le_refl _)
theorem iJ.weak(o:iJ X enc enc' sz k h a l){j:Nat}(hj:j≤k):iJ X enc enc' sz j h a l:=
 ⟨o.own.weak hj,fun p hp h2 hh=>o.sj p hp h2 fun b b1 b2 b3 b4=>hh b (Nat.le_trans hj b1) b2 b3 b4,o.av⟩
theorem iJ.Rk(o:iJ (fun _=>False) enc enc' sz k h a l)(hx:bJ h h'){Y:Nat→Prop}(hY:∀ b,Y b→h.next≤b):iJ Y enc enc' sz k h' a l:=
 ⟨o.own.ext hx,fun p hp h2 hh=>o.sj p hp h2 fun b b1 b2 _ b4=>by rw [hh b b1 (Nat.lt_of_lt_of_le b2 hx.next) (fun y=>by have:=hY b y;omega) b4,hx.get b b2],fun b e y=>by have:=hY b y;have:=o.own.lt e;omega⟩
theorem iJ.push(o:iJ X enc enc' sz k h a l)(he:∀ x,(enc x).length=sz)(h1:∀ x,bN (enc x)=true)(hk:k≤h.next){bytes:Nat}(hroom:(l.length+1)*bytes≤cX)(v:α)(w:β)(hX:∀ b,X b→b<h.next)
  (hf:∀ h',(∀ b,k≤b→b<h.next→¬ X b→de a≠some b→h'.get b=h.get b)→jB true h' (enc v) (enc' w)) :
  ∃ a' h',cg sz bytes a (.slice h.next 0 1 sz) (h.alloc (.cells (enc v)))=some (a',h')∧iJ X enc enc' sz k h' a' (l++[(v,w)])∧(∀ c,c<h.next→de a≠some c→h'.get c=h.get c)∧h.next≤h'.next∧(∀ h0,bJ h0 h→h0.next≤k→bJ h0 h')∧∀ c,de a'=some c→h.next≤c:=by
 obtain ⟨a',h',e1,o1,f1,n1,x1,b1⟩:=o.own.push he h1 hk (bytes:=bytes) (by simpa using hroom) v
 refine ⟨a',h',e1,⟨by rw [List.map_append];exact o1,fun p hp h2 hh=>?_,fun b e x=>by have:=b1 b e;have:=hX b x;omega⟩,f1,n1,x1,b1⟩
 have hag:∀ b,k≤b→b<h.next→¬ X b→de a≠some b→h2.get b=h.get b:=fun b c1 c2 c3 c4=>by
  rw [hh b c1 (by omega) c3 (fun e=>by have:=b1 b e;omega),f1 b c2 c4]
 rcases List.mem_append.1 hp with hp|hp
 ·exact o.sj p hp h2 hag
 ·rw [List.mem_singleton] at hp;subst hp
  exact hf h2 hag
theorem iJ.data(o:iJ X enc enc' sz k h a l):∃ x:Sl β,x.l=l.map (·.2)∧∀ h2,(∀ b,k≤b→b<h.next→¬ X b→h2.get b=h.get b)→Fz true h2 a (aq enc' sz x):=by
 obtain ⟨ow,fr,av⟩:=o
 generalize hm:l.map (·.1)=m at ow
 cases ow with
 |nil=>
  have:l = []:=by simpa using hm
  subst this
  exact ⟨none,rfl,fun h2 _=>.dS rfl⟩
 |row b m h1 h2 h3=>
  subst hm
  refine ⟨some (l.map (·.2)),rfl,fun g hg=>?_⟩
  have fl:jB true g (l.flatMap fun p=>enc p.1) (l.flatMap fun p=>enc' p.2):=pE fun p hp=>fr p hp g fun c c1 c2 c3 c4=>hg c c1 c2 c3
  have e1:(l.map (·.1)).flatMap enc=l.flatMap fun p=>enc p.1:=by rw [List.flatMap_map]
  have e2:(l.map (·.2)).flatMap enc'=l.flatMap fun p=>enc' p.2:=by rw [List.flatMap_map]
  have:aq enc' sz (some (l.map (·.2))) = .islice (l.flatMap fun p=>enc' p.2) 0 l.length sz:=by simp only [aq,e2,List.length_map]
  rw [this,List.length_map]
  exact .slice b 0 l.length sz _ _ (by rw [hg b h1 h2 (av b rfl),h3,e1]) fl.len fl.rel
theorem iJ.fz(o:iJ X enc enc' sz k h a l):∃ x:Sl β,x.l=l.map (·.2)∧Fz true h a (aq enc' sz x):=by
 obtain ⟨x,h1,h2⟩:=o.data
 exact ⟨x,h1,h2 h fun _ _ _ _=>rfl⟩
end
def J5:={ v:AV // bN [v]=true∧v.dM = [v] }
abbrev BE:=bG×Int×J5
def gE(r:BE):List AV:=[.str r.1,.int .i64 r.2.1,r.2.2.1]
theorem jR(r:BE):(gE r).length=3:=rfl
theorem wv(r:BE):bN (gE r)=true:=by
 have:=r.2.2.2.1
 unfold gE
 simp only [bN,Bool.and_true] at this ⊢
 rw [this];rfl
theorem kV{α:Type}{enc:α→List AV}{sz k:Nat}{h:ag}{a:AV}{l:List α}(o:Own enc sz k h a l):bN [a]=true∧a.dM = [a]:=by cases o<;>exact ⟨rfl,rfl⟩
theorem J6(r:BE):fc [.str [],.int .i64 0,.nils] [(0,3)] [.agg (gE r)]=some (gE r):=by
 have ho:=wv r
 have hf:nD [.str [],.int .i64 0,.nils] [(0,3)] [.agg (gE r)]=some (gE r):=by
  have hc:AV.dM (.agg (gE r))=gE r:=rfl
  have hp:hG [.str [],.int .i64 0,.nils] 0 (gE r)=gE r:=rfl
  simp only [nD,hc,hp,ho,jR]
  rfl
 unfold fc
 rw [hf]
 simp only [ho,if_true]
abbrev E5(X:Nat→Prop)(k:Nat)(h:ag)(a:AV)(l:List (BE×Rel)):Prop:=iJ X gE aQ 3 k h a l
theorem Gs{h:ag}{nm:bG}{k:Int}{v:J5}{x:Sl (Sl Int)}(hf:Fz true h v.1 (aq eN 1 x)):jB true h (gE (nm,k,v)) (aQ ⟨nm,k,x⟩):=
 .cons (.scalar _ rfl) (.cons (.scalar _ rfl) (.cons hf .nil))
end
end Go.AM
namespace Go.AM
open Go Go.Proofs
noncomputable section
theorem MD(d:TypeId){α:Type}{enc:α→List AV}{sz:Nat}(x:Sl α):fH (.slice d) (aq enc sz x) .nils=some (.bool (match x with|none=>true|some _=>false)):=by cases x<;>rfl
theorem J7(y:Sl Int):fc [.nils] [(0,1)] [aq encI 1 y]=some (eN y):=by cases y<;>rfl
theorem AJ(y:Sl Int):bN (eN y)=true:=by cases y<;>rfl
theorem iJ.Gt{α:Type}{enc:α→List AV}{sz k:Nat}{h:ag}{a:AV}{l:List α}(o:Own enc sz k h a l)(hf:∀ v,AV.pureL (enc v)=true):iJ (fun _=>False) enc enc sz k h a (l.map fun v=>(v,v)):=
 ⟨by rw [List.map_map];simpa [Function.comp_def] using o,fun p hp h' _=>by
  obtain ⟨v,_,rfl⟩:=List.mem_map.1 hp
  exact .dS (hf v),fun _ _ h=>h⟩
theorem Du{t:Sl Int}(ht:t.l.length≤1000000){h:ag}{K:Out→ag→Bool}(hK:∀ y:Sl Int,y.l=t.l→K (.ret (aq encI 1 y)) h=true):Sem Tryz.prog 111 [aq encI 1 t] h K:=by
 have main:Sem Tryz.prog 111 [aq encI 1 t] ag.empty (fun o h'=>yes (∃ v,∃ y:Sl Int,o = .ret v∧y.l=t.l∧Fz true h' v (aq encI 1 y))):=by
  refine F.mB ?_
  simp only [MD,aU,Nat.reduceAdd,Nat.reduceEqDiff,reduceIte]
  cases t with
  |none=>simp only [aJ];exact cD.2 ⟨_,none,rfl,rfl,.dS rfl⟩
  |some l=>
   obtain ⟨b,h',a1,a2,_,_,_⟩:=vY (yH mw (some l) (ag.empty.alloc (.cells []))) ht
   simp only [aG,Ck,bindO_some,a1,bindO2_some]
   exact cD.2 ⟨_,some l,rfl,rfl,oL a2⟩
 refine main.frozen (by simp [AV.pureL,b8 nI]) fun o h' ho=>?_
 obtain ⟨v,y,rfl,hy,hf⟩:=cD.1 ho
 exact ⟨v,_,rfl,hf,hK y hy⟩
theorem Iy(s:St):eO Tryz.prog s Tryz.f48.results.toList=(match ai (some 2) (s.env 2) s.h,(some []:Option (List AV)) with|some v,some vs=>some (v :: vs)|_,_=>none):=by kernel_rfl
set_option maxHeartbeats 2000000 in
theorem cN{s:ej}(hs:s.small){h:ag}{K:Out→ag→Bool}(hK:∀ a h' l,bJ h h'→E5 (fun _=>False) h.next h' a l→(l.map fun p=>cY p.2)=s.rels.l.map cY→K (.ret (.agg [.int .i64 s.size,a])) h'=true):Sem Tryz.prog 48 [.agg (az s)] h K:=by
 have hm:cX=140737488355328:=rfl
 have hbig:=hs.Ri
 refine F.z6 ?_
 simp only [cU (dR s),bindO_some,ag.next_alloc]
 have g0:(ag.alloc (ag.alloc h (.cells (az s))) (.cells [.int .i64 0,.nils])).get h.next=some (.cells (az s)):=by rw [ag.bf,ag.next_alloc,if_neg (by omega)];exact aB _ _
 have g1:(ag.alloc (ag.alloc h (.cells (az s))) (.cells [.int .i64 0,.nils])).get (h.next+1)=some (.cells [.int .i64 0,.nils]):=aB _ _
 have gn:(ag.alloc (ag.alloc h (.cells (az s))) (.cells [.int .i64 0,.nils])).next=h.next+2:=rfl
 have gx:bJ h (ag.alloc (ag.alloc h (.cells (az s))) (.cells [.int .i64 0,.nils])):=(bJ.alloc _ _).trans (bJ.alloc _ _)
 generalize (ag.alloc (ag.alloc h (.cells (az s))) (.cells [.int .i64 0,.nils]))=H1 at g0 g1 gn gx ⊢
 have lz:ai none (.ptr h.next 0) H1=some (.int .i64 s.size):=by rw [ak g0];rfl
 have ha:gw [.int .i64 0,.nils] [(0,1)] [.int .i64 s.size]=some (.agg [.int .i64 s.size,.nils]):=rfl
 obtain ⟨H2,hs2,p2,po,pn⟩:=cP (h:=H1) (zs:=[.int .i64 0,.nils]) (cs:=[.int .i64 s.size,.nils]) (n:=2) rfl rfl rfl
 rw [gn] at p2 po pn hs2
 have p0:H2.get h.next=some (.cells (az s)):=by rw [po _ (by omega)];exact g0
 have p1:H2.get (h.next+1)=some (.cells [.int .i64 0,.nils]):=by rw [po _ (by omega)];exact g1
 have px:bJ h H2:=⟨by omega,fun b hb=>by rw [po _ (by omega)];exact gx.get b hb⟩
 have lr:ai none (.ptr h.next 1) H2=some (aq aQ 3 s.rels):=by rw [ak p0];rfl
 simp only [aU,Nat.reduceAdd,Nat.reduceEqDiff,reduceIte,lz,ha,gn,hs2,lr]
 refine aC 0 s.rels.l.length (Nat.zero_le _) (fun i e h'=>∃ a l,h'.get (h.next+1)=some (.cells [.int .i64 0,.nils])∧h'.get (h.next+2)=some (.cells [.int .i64 s.size,a])∧E5 (fun _=>False) (h.next+3) h' a l∧(l.map fun p=>cY p.2)=(s.rels.l.take i).map cY∧bJ h h'∧h.next+3≤h'.next ∧
  e 2 = .ptr (h.next+1) 0∧e 3 = .ptr (h.next+2) 0∧e 13=aq aQ 3 s.rels∧e 14 = .int .i64 (s.rels.l.length:Int)∧e 15 = .int .i64 (i:Int)) ⟨_,[],p1,p2,.nil,rfl,px,by omega,rfl,rfl,rfl,rfl,rfl⟩ ?_ ?_
 ·rintro i e h' _ hi ⟨a,l,q1,q2,o,hl,qx,qn,e2,e3,e13,e14,e15⟩ K' hn hx' hr hp
  have hv:s.rels.l[i]?=some s.rels.l[i]:=List.getElem?_eq_getElem hi
  generalize s.rels.l[i]=r at hv
  have hrm:=List.mem_of_getElem? hv
  have hll:l.length=i:=by have:=congrArg List.length hl;rw [List.length_map,List.length_map,List.length_take,Nat.min_eq_left (by omega)] at this;exact this
  obtain ⟨H3,hs3,p3,po3,pn3⟩:=cP (h:=h') (zs:=[.str [],.int .i64 0,.nils]) (cs:=aQ r) (n:=3) rfl rfl (fR r)
  have hag:gw [.str [],.int .i64 0,.nils] [(0,1),(1,1)] [.str r.name,.int .i64 r.arity]=some (.agg [.str r.name,.int .i64 r.arity,.nils]):=rfl
  have l0:ai none (.ptr h'.next 0) H3=some (.str r.name):=by rw [ak p3];rfl
  have l1:ai none (.ptr h'.next 1) H3=some (.int .i64 r.arity):=by rw [ak p3];rfl
  obtain ⟨H4,hs4,p4,po4,pn4⟩:=cP (h:=H3) (zs:=[.str [],.int .i64 0,.nils]) (cs:=[.str r.name,.int .i64 r.arity,.nils]) (n:=3) rfl rfl rfl
  rw [pn3] at hs4 p4 po4 pn4
  have x4:bJ h' H4:=⟨by omega,fun b hb=>by rw [po4 b (by omega),po3 b (by omega)]⟩
  have l2:ai none (.ptr h'.next 2) H4=some (aq eN 1 r.tuples):=by rw [ak (show H4.get h'.next=some (.cells (aQ r)) by rw [po4 _ (by omega)];exact p3)];rfl
  have htl:=hs.tups r hrm
  have hbt:r.tuples.l.length≤cy:=by unfold cy;omega
  rw [F.cN.aO]
  simp only [e13,e14,e15,aU,Nat.reduceAdd,Nat.reduceEqDiff,reduceIte,bg hi,aW s.rels hi,dN ee hv,hs3]
  simp only [aU,Nat.reduceAdd,Nat.reduceEqDiff,reduceIte,l0,l1,hag,pn3,hs4,l2]
  refine aC 0 r.tuples.l.length (Nat.zero_le _) (fun j e h2=>∃ tv ts,h2.get (h'.next+1)=some (.cells [.str r.name,.int .i64 r.arity,tv])∧Own eN 1 (h'.next+2) h2 tv ts∧ts.map Sl.l=(r.tuples.l.take j).map Sl.l∧bJ h' h2∧h'.next+2≤h2.next ∧
   e 2 = .ptr (h.next+1) 0∧e 3 = .ptr (h.next+2) 0∧e 13=aq aQ 3 s.rels∧e 14 = .int .i64 (s.rels.l.length:Int)∧e 15 = .int .i64 (i:Int)∧e 6 = .ptr (h'.next+1) 0∧e 25=aq eN 1 r.tuples∧e 26 = .int .i64 (r.tuples.l.length:Int)∧e 27 = .int .i64 (j:Int))
   ⟨_,[],p4,.nil,rfl,x4,by omega,e2,e3,e13,e14,e15,rfl,rfl,rfl,rfl⟩ ?_ ?_
  ·rintro j e h2 _ hj ⟨tv,ts,q6,ot,hts,x2,qn2,e2,e3,e13,e14,e15,e6,e25,e26,e27⟩ K2 hnn hx2 hr2 hp2
   have hvt:r.tuples.l[j]?=some r.tuples.l[j]:=List.getElem?_eq_getElem hj
   generalize r.tuples.l[j]=t at hvt
   have htsl:ts.length=j:=by have:=congrArg List.length hts;rw [List.length_map,List.length_map,List.length_take,Nat.min_eq_left (by omega)] at this;exact this
   have lt:ai none (.ptr (h'.next+1) 2) h2=some tv:=by rw [ak q6];rfl
   rw [F.cN.dx]
   simp only [e6,e25,e26,e27,aU,Nat.reduceAdd,Nat.reduceEqDiff,reduceIte,bg hj,aW r.tuples hj,iG hvt,lt]
   refine an (Du (by have:=hs.tup r hrm t (List.mem_of_getElem? hvt);omega) fun y hy=>?_)
   obtain ⟨a5,h5,c5,o5,f5,n5,w5,b5⟩:=ot.push uD AJ qn2 (bytes:=24) (by rw [hm];omega) y
   have hne:de tv≠some (h'.next+1):=fun hb=>by have:=ot.ge hb;omega
   have s6:h5.get (h'.next+1)=some (.cells [.str r.name,.int .i64 r.arity,tv]):=by rw [f5 _ (by omega) hne];exact q6
   have c6:=o5.oO
   have st:bp 1 (.ptr (h'.next+1) 2) a5 h5=some (h5.set (h'.next+1) (.cells [.str r.name,.int .i64 r.arity,a5])):=by
    rw [cT (n:=1) s6 c6.2.1 c6.1 (by simp),c6.2.2];rfl
   simp only [aU,Nat.reduceAdd,Nat.reduceEqDiff,reduceIte,lt,AV.beq_refl,Bool.and_self,if_true,J7,c5,e6,e27,st,aI hj hbt]
   refine hnn _ _ ⟨a5,ts++[y],by rw [ag.aN,if_pos rfl],o5.nr (by omega) _,?_,(w5 h' x2 (by omega)).set (by omega) _,by rw [ag.next_set];omega,e2,e3,e13,e14,e15,e6,e25,e26,rfl⟩
   rw [List.map_append,hts,List.take_add_one,hvt,List.map_append]
   simp [hy]
  ·rintro e h2 ⟨tv,ts,q6,ot,hts,x2,qn2,e2,e3,e13,e14,e15,e6,e25,e26,e27⟩ K2 hx2
   rw [List.take_of_length_le (Nat.le_refl _)] at hts
   have o2:=o.ext x2
   obtain ⟨ho1,ho2⟩:=kV ot
   have lq:ai (some 3) (.ptr (h'.next+1) 0) h2=some (.agg (gE (r.name,r.arity,⟨tv,ho1,ho2⟩))):=by rw [ak q6];rfl
   have lo:ai none (.ptr (h.next+2) 1) h2=some a:=by rw [ak (show h2.get (h.next+2)=some (.cells [.int .i64 s.size,a]) by rw [x2.get _ (by omega)];exact q2)];rfl
   obtain ⟨x,hx1,hx3⟩:=(iJ.Gt ot l9).data
   have hxl:x.l=ts:=by rw [hx1,List.map_map];simp [Function.comp_def]
   obtain ⟨a5,h5,c5,o5,f5,n5,w5,b5⟩:=o2.push jR wv (by omega) (bytes:=48) (by have:=hs.rels;rw [hm];omega) (r.name,r.arity,⟨tv,ho1,ho2⟩) ⟨r.name,r.arity,x⟩ (fun _ h=>h.elim)
    (fun g hg=>Gs (hx3 g fun b b1 b2 _=>hg b (by omega) b2 (fun h=>h) (fun hb=>by have:=o.own.lt hb;omega)))
   have hne:de a≠some (h.next+2):=fun hb=>by have:=o.own.ge hb;omega
   have hne1:de a≠some (h.next+1):=fun hb=>by have:=o.own.ge hb;omega
   have s2:h5.get (h.next+2)=some (.cells [.int .i64 s.size,a]):=by rw [f5 _ (by omega) hne,x2.get _ (by omega)];exact q2
   have s1:h5.get (h.next+1)=some (.cells [.int .i64 0,.nils]):=by rw [f5 _ (by omega) hne1,x2.get _ (by omega)];exact q1
   have c6:=o5.own.oO
   have st:bp 1 (.ptr (h.next+2) 1) a5 h5=some (h5.set (h.next+2) (.cells [.int .i64 s.size,a5])):=by
    rw [cT (n:=1) s2 c6.2.1 c6.1 (by simp),c6.2.2];rfl
   rw [F.cN.dx]
   simp only [e26,e27,aU,Nat.reduceAdd,Nat.reduceEqDiff,reduceIte,aR]
   rw [hx2,F.cN.cw]
   simp only [aU,Nat.reduceAdd,Nat.reduceEqDiff,reduceIte,e3,e6,e15,lo,lq,J6,c5,st,aI hi hbig]
   refine hn _ _ ⟨a5,_,?_,?_,o5.low (by omega) _,?_,(w5 h (qx.trans x2) (by omega)).set (by omega) _,by rw [ag.next_set];omega,e2,e3,e13,e14,rfl⟩
   ·rw [ag.aN,if_neg (by omega)];exact s1
   ·rw [ag.aN,if_pos rfl]
   ·rw [List.map_append,hl,List.take_add_one,hv,List.map_append]
    simp [cY,hxl,hts]
 ·rintro e h' ⟨a,l,q1,q2,o,hl,qx,qn,e2,e3,e13,e14,e15⟩ K' hx'
  rw [List.take_of_length_le (Nat.le_refl _)] at hl
  have lo:ai (some 2) (.ptr (h.next+2) 0) h'=some (.agg [.int .i64 s.size,a]):=by rw [ak q2];rfl
  have c:=o.own.oO
  have one2:bN [.int .i64 s.size,a]=true:=by
   have:=c.1;rw [c.2.2] at this;simp only [bN,Bool.and_true] at this ⊢;rw [this];rfl
  have st:bp 2 (.ptr (h.next+1) 0) (.agg [.int .i64 s.size,a]) h'=some (h'.set (h.next+1) (.cells [.int .i64 s.size,a])):=by
   rw [cT (n:=2) (v:=.agg [.int .i64 s.size,a]) q1 rfl one2 (by simp)];rfl
  have lo2:ai (some 2) (.ptr (h.next+1) 0) (h'.set (h.next+1) (.cells [.int .i64 s.size,a]))=some (.agg [.int .i64 s.size,a]):=by rw [ak (cs:=[.int .i64 s.size,a]) (by rw [ag.aN,if_pos rfl])];rfl
  rw [F.cN.aO]
  simp only [e14,e15,aU,Nat.reduceAdd,Nat.reduceEqDiff,reduceIte,aR]
  rw [hx',F.cN.aD]
  simp only [bH,Nat.reduceEqDiff,reduceIte,e2,e3,lo,st,bindO_some,Iy,lo2,oneOf]
  exact hK a _ l (qx.set (by omega) _) ((o.low (by omega) _).weak (by omega)) hl
end
end Go.AM
namespace Go.AM
open Go Go.Proofs
noncomputable section
def AL(n:Nat)(s:ej):Lk:=fun nm k=>match s.rels.l.find? (fC nm) with|some r=>(bitsOf n r.arity.toNat r.tuples.l).getD k false|none=>false
def mN(rs:List aE)(n:Nat)(s:ej)(F:Lk):Prop:=∃ k t,Lev.cZ (bO rs) (Lev.iter (bO rs) k)∧(∀ r ∈ rs,Lev.iter (bO rs) k r.name<t)∧lp n rs (Lev.iter (bO rs) k) (AL n s) t F
theorem mN.unique{rs:List aE}{n:Nat}{s:ej}{A B:Lk}(h:mN rs n s A)(g:mN rs n s B):A=B:=by
 obtain ⟨j,t,h1,h2,h3⟩:=h
 obtain ⟨k,u,g1,g2,g3⟩:=g
 rw [Lev.BK h1 g1] at h2 h3
 exact h3.same g3 h2 g2
theorem wz{rs:List aE}{k:Nat}(h:Lev.cZ (bO rs) (Lev.iter (bO rs) k)):EZ rs (Lev.iter (bO rs) k):=by
 intro r hr c hc k0 ⟨q,hq,hqn⟩
 have he:eT r c ∈ bO rs:=by
  refine List.mem_flatMap.2 ⟨r,hr,List.mem_flatMap.2 ⟨c,hc,?_⟩⟩
  unfold jZ
  rw [if_pos ⟨k0,by rw [← hqn];exact List.mem_map_of_mem hq⟩]
  exact List.mem_singleton.2 rfl
 have:=h _ he
 unfold eT at this
 exact this
theorem Gu{rs:List aE}(h60:rs.length≤60)(h20:∀ r ∈ rs,r.body.l.length≤20){k:Nat}(h:Lev.cZ (bO rs) (Lev.iter (bO rs) k))(x:bG):Lev.iter (bO rs) k x≤1000000:=by
 have hN:∀ e ∈ bO rs,e.b ∈ bC rs∧e.h ∈ bC rs:=fun e he=>by
  obtain ⟨r,hr,c,hc,_,hin,rfl⟩:=mG he
  exact ⟨hin,List.mem_map_of_mem hr⟩
 rw [Lev.BK h (Lev.settle hN h)]
 have:=td h60 h20 (bC rs).length x
 have h1:(bC rs).length=rs.length:=by simp [bC]
 rw [h1] at this ⊢
 omega
def iK(rs:List aE)(nm:bG):Nat:=match rs.find? (fun r=>r.name==nm) with|some r=>r.args.l.length|none=>0
theorem nc{rs:List aE}{m:dJ}(hgo:dG rs []=some m){x:bG}{j k:Int}(h1:(x,j) ∈ cA rs)(h2:(x,k) ∈ cA rs):j=k:=by
 have a:=(jg hgo x j).2 h1
 have b:=(jg hgo x k).2 h2
 rw [a] at b;exact Option.some.inj b
theorem Dv{rs:List aE}{m:dJ}(hgo:dG rs []=some m){r:aE}(hr:r ∈ rs):iK rs r.name=r.args.l.length:=by
 unfold iK
 cases hf:rs.find? (fun q=>q.name==r.name) with
 |none=>
  rw [List.find?_eq_none] at hf
  exact absurd (hf r hr) (by simp)
 |some q=>
  have hq:=List.mem_of_find?_eq_some hf
  have hqn:=List.find?_some hf
  rw [beq_iff_eq] at hqn
  have:=nc hgo (kM hq) (by rw [hqn];exact kM hr)
  simp only;omega
theorem Cp{rs:List aE}{r:aE}(hr:r ∈ rs){c:eX}(hc:c ∈ r.body.l)(k0:c.kind=0):(c.name,(c.args.l.length:Int)) ∈ cA rs:=by
 refine List.mem_flatMap.2 ⟨r,hr,List.mem_cons_of_mem _ ?_⟩
 unfold dW
 exact List.mem_map.2 ⟨c,List.mem_filter.2 ⟨hc,by simpa using k0⟩,rfl⟩
structure M6 (c:eX):Prop where
 kinds:c.kind=0∨c.kind=1∨c.kind=2
 two:c.kind=1∨c.kind=2→c.args.l.length=2
 arity:c.args.l.length≤12
theorem uV{c:eX}(h:fQ c=true):M6 c:=by
 unfold fQ at h
 by_cases k0:c.kind=0
 ·rw [if_pos k0] at h
  exact ⟨.inl k0,fun h'=>by omega,jQ h⟩
 ·rw [if_neg k0] at h
  by_cases k12:c.kind=1∨c.kind=2
  ·rw [if_pos k12] at h
   simp only [Bool.and_eq_true,decide_eq_true_eq] at h
   exact ⟨.inr k12,fun _=>h.2.1,by omega⟩
  ·rw [if_neg k12] at h;cases h
theorem Iz{rs:List aE}(hg:jN rs){r:aE}(hr:r ∈ rs):iB r=true:=by
 have:=((rH rs).1 hg).2.1
 rw [List.all_eq_true] at this
 exact this r hr
theorem rK{rs:List aE}(hg:jN rs){r:aE}(hr:r ∈ rs){c:eX}(hc:c ∈ r.body.l):fQ c=true:=by
 have:=Iz hg hr
 unfold iB at this
 simp only [Bool.and_eq_true] at this
 have h5:=this.2.2.2.1
 rw [List.all_eq_true] at h5
 exact h5 c hc
theorem Cq{s:ej}{nm:bG}{k:Int}{r:Rel}(h:s.rels.l.find? (lI nm k)=some r):r ∈ s.rels.l∧r.name=nm∧r.arity=k:=by
 have h1:=List.mem_of_find?_eq_some h
 have h2:=List.find?_some h
 simp only [lI,Bool.and_eq_true,beq_iff_eq,decide_eq_true_eq] at h2
 exact ⟨h1,h2.1,by first|exact h2.2|exact h2.2.symm⟩
theorem IA{n:Nat}{rs:List aE}{s:ej}{m:dJ}{D0:DB}(hgo:dG rs []=some m)(hsv:dP s=true)(hn:s.size=(n:Int))(h4:¬ Ix rs s)(h5:¬ Kp rs s)(sd:wu n rs s D0){r:aE}(hr:r ∈ rs){c:eX}(hc:c ∈ r.body.l)(k0:c.kind=0) :
  n ^ c.args.l.length≤4096∧∃ p,D0 c.name=some p∧p.2.length=n ^ c.args.l.length:=by
 have hnn:s.size.toNat=n:=by omega
 have hat:=Cp hr hc k0
 by_cases hd:c.name ∈ bC rs
 ·obtain ⟨q,hq,hqn⟩:=List.mem_map.1 hd
  have hl:q.args.l.length=c.args.l.length:=by
   have:=nc hgo (kM hq) (by rw [hqn];exact hat)
   omega
  obtain ⟨b,hb⟩:=sd.head q hq
  rw [hqn] at hb
  refine ⟨?_,_,hb,by rw [List.length_replicate,hl]⟩
  rw [← hl,← hnn]
  exact Nat.le_of_not_lt fun h=>h5 (.inr (.inl ⟨q,hq,h⟩))
 ·cases hf:s.rels.l.find? (lI c.name (c.args.l.length:Int)) with
  |none=>exact absurd (.inl ⟨_,hat,hd,hf⟩) h4
  |some q=>
   obtain ⟨hq,hqn,hqa⟩:=Cq hf
   obtain ⟨i,hi⟩:=List.mem_iff_getElem?.1 hq
   have hrb:=uO hsv hi
   rw [hnn] at hrb
   obtain ⟨k,hk,k12,hkc,hkt⟩:=uQ hrb
   obtain ⟨b,hb⟩:=sd.rel q hq
   have hkl:k=c.args.l.length:=by omega
   rw [hqn] at hb
   exact ⟨by rw [← hkl];exact hkc,_,hb,by rw [kH];congr 1;omega⟩
theorem mO{n:Nat}{rs:List aE}{s:ej}{D0:DB}(hn:s.size=(n:Int))(h5:¬ Kp rs s)(sd:wu n rs s D0){r:aE}(hr:r ∈ rs):n ^ r.args.l.length≤4096∧∃ p,D0 r.name=some p∧p.2.length=n ^ r.args.l.length:=by
 have hnn:s.size.toNat=n:=by omega
 obtain ⟨b,hb⟩:=sd.head r hr
 refine ⟨?_,_,hb,List.length_replicate⟩
 rw [← hnn]
 exact Nat.le_of_not_lt fun h=>h5 (.inr (.inl ⟨r,hr,h⟩))
theorem J8{n:Nat}{rs:List aE}{s:ej}{m:dJ}{D0:DB}(hg:jN rs)(hgo:dG rs []=some m)(hsv:dP s=true)(hn:s.size=(n:Int))(h4:¬ Ix rs s)(h5:¬ Kp rs s)(sd:wu n rs s D0){r:aE}(hr:r ∈ rs)(D:DB)(hd:eo D D0):Cd n D r:=
 ⟨fun c hc k0=>by
  obtain ⟨a,p0,b1,b2⟩:=IA hgo hsv hn h4 h5 sd hr hc k0
  obtain ⟨p,c1,_,c3⟩:=hd.get b1
  exact ⟨a,p,c1,by rw [c3];exact b2⟩,fun c hc=>(uV (rK hg hr hc)).two,fun c hc=>(uV (rK hg hr hc)).kinds,fun c hc=>(uV (rK hg hr hc)).arity⟩
theorem E6(N k:Nat):(List.replicate N false).getD k false=false:=by
 rw [List.getD_eq_getElem?_getD,List.getElem?_replicate];split<;>rfl
theorem Cr{s:ej}(hsv:dP s=true){r:Rel}(hr:r ∈ s.rels.l):s.rels.l.find? (fC r.name)=some r:=xh (oP hsv) r hr
theorem Gv{n:Nat}{rs:List aE}{s:ej}{D0:DB}(hsv:dP s=true)(h4:¬ Ix rs s)(sd:wu n rs s D0):eG D0=AL n s:=by
 funext nm k
 unfold AL
 cases hf:s.rels.l.find? (fC nm) with
 |some r=>
  have hr:=List.mem_of_find?_eq_some hf
  have hn:=List.find?_some hf
  simp only [fC,beq_iff_eq] at hn
  obtain ⟨b,hb⟩:=sd.rel r hr
  rw [hn] at hb
  unfold eG
  rw [hb]
 |none=>
  unfold eG
  cases hp:D0 nm with
  |none=>rfl
  |some p=>
   rcases sd.only nm p hp with hh|⟨r,hr,hrn⟩
   ·obtain ⟨r,hr,hrn⟩:=List.mem_map.1 hh
    obtain ⟨b,hb⟩:=sd.head r hr
    rw [hrn,hp] at hb
    cases hb
    exact E6 _ _
   ·rw [List.find?_eq_none] at hf
    exact absurd (hf r hr) (by simp [fC,hrn])
theorem Gw{rules:Sl aE}{s:ej}(hfew:∀ r ∈ rules.l,r.lB)(hg:jN rules.l)(hsv:dP s=true)(h4:¬ Ix rules.l s)(h5:¬ Kp rules.l s){n P A M S B lo k:Nat}{ks:List bG}{D0:DB}{m:dJ}{h:ag}(hn:s.size=(n:Int))(n1:1≤n)(n64:n≤64)
  (hst:Lev.cZ (bO rules.l) (Lev.iter (bO rules.l) k)) (sh:Gr n P A M S B lo rules ks (Lev.iter (bO rules.l) k) D0 m h) (sd:wu n rules.l s D0) {ng:FuncId} {na nb:List AV}
  (note:∀ (i:Int) (r:aE) (k:Int) (hd:Sl Int) (cs:Sl (Sl Int)) (ls:Sl Int) (y:AV) (h:ag) (K:Out→ag→Bool),(∀ h',bJ h h'→K (.ret (.tuple [])) h'=true)→Sem Tryz.prog ng (na++([.agg (bU i r k (aq encI 1 hd) (aq eN 1 cs) (aq encI 1 ls)),y]++nb)) h K)
  {K:Out→ag→Bool} (hK:∀ h' D' F,mN rules.l n s F→eG D'=F→eo D' D0→Gr n P A M S B lo rules ks (Lev.iter (bO rules.l) k) D' m h'→(∀ b,b<lo→h'.get b=h.get b)→h.next≤h'.next→K (.ret (.tuple [])) h'=true) :
  Sem Tryz.prog 46 [.ptr P 0,.ptr S 0,.func ng na nb] h K:=by
 obtain ⟨hP,hl,hks,hgo,⟨es,ck,hA,hmB⟩,hS,hD,o1,o2,o3,o4,o5,o6⟩:=sh
 have hgok:=fZ hgo
 have hrow:∀ nm p,D0 nm=some p→lo≤p.1:=fun nm p hp=>(hD.blk nm p hp).1
 have o:JS S n D0 rules.l ng na nb:=
  ⟨n1,n64,hfew,fun r hr=>(hgok r hr).2.2,fun nm p hp=>by have:=hrow nm p hp;omega,fun r hr D hd=>J8 hg hgo hsv hn h4 h5 sd hr D hd,fun r hr=>⟨(mO hn h5 sd hr).1,jQ (hgok r hr).1,(mO hn h5 sd hr).2⟩,note,hg.lB⟩
 refine Ia o hP (by omega) hl hks (by omega) (fun r hr=>List.mem_map_of_mem hr) (Gu hg.lB (fun r hr=>(hgok r hr).2.1) hst) hS (by omega) hD (fun nm p hp=>by have:=hrow nm p hp;omega) fun h' D' T hT hrun hdim hbit hfr hnx=>?_
 have keep:∀ b,b<lo→h'.get b=h.get b:=fun b hb=>hfr b (by omega) fun nm p hp=>by have:=hrow nm p hp;omega
 have hlen:lM n rules.l D0:=fun r hr p hp=>by
  obtain ⟨_,q,h1,h2⟩:=mO hn h5 sd hr
  rw [h1] at hp;cases hp;exact h2
 have hch:=(Is n1 (wz hst) hlen (fun r hr=>by obtain ⟨_,q,h1,_⟩:=mO hn h5 sd hr;exact ⟨q,h1⟩) hrun).1
 rw [Gv hsv h4 sd] at hch
 refine hK h' D' (eG D') ⟨k,T+1,hst,fun r hr=>by have:=hT r.name (List.mem_map_of_mem hr);omega,hch⟩ rfl hdim ⟨by rw [keep _ (by omega)];exact hP,hl.keep (keep _ (by omega)),hks,hgo,⟨es,ck,by rw [keep _ (by omega)];exact hA,hmB⟩,by rw [keep _ (by omega)];exact hS,hbit,by omega⟩ keep hnx
theorem J9{h:ag}{K:Out→ag→Bool}{i:Int}{r:aE}{k:Int}{hd:Sl Int}{cs:Sl (Sl Int)}{ls:Sl Int}{y:AV}(hK:∀ h',bJ h h'→K (.ret (.tuple [])) h'=true):Sem Tryz.prog 47 ([]++([.agg (bU i r k (aq encI 1 hd) (aq eN 1 cs) (aq encI 1 ls)),y]++[])) h K:=by
 refine F.yf ?_
 simp only [cU (vT i r k hd cs ls),bindO_some]
 exact hK _ (bJ.alloc _ _)
end
end Go.AM
namespace Go.AM
open Go Go.Proofs
noncomputable section
theorem Gx{o:List bG}{s:bG}(h:o.Nodup):(vR o s).Nodup:=by
 unfold vR
 split
 ·exact h
 ·rename_i hn
  refine List.nodup_append.2 ⟨h,by simp,fun a ha b hb e=>?_⟩
  rw [List.mem_singleton] at hb
  subst hb;subst e
  exact hn (List.any_eq_true.2 ⟨a,ha,beq_self_eq_true a⟩)
theorem uW:∀ {l o:List bG},o.Nodup→(ey o l).Nodup
 |[],o,h=>h
 |s :: l,o,h=>uW (l:=l) (Gx h)
theorem AN(r:aE):(varsOf r).Nodup:=by rw [tn];exact uW List.nodup_nil
theorem Cs{x:Sl bG}{s:bG}(hn:x.l.Nodup)(hx:x.l.length≤cy)(hs:s ∈ x.l){h:ag}{K:Out→ag→Bool}(hK:K (.ret (.int .i64 ((x.l.idxOf s:Nat):Int))) h=true):Sem Tryz.prog 58 [aq encS 1 x,.str s] h K:=by
 refine dm hx (fun i hi=>?_) fun hno=>absurd hs hno
 have h1:x.l.idxOf s<x.l.length:=List.idxOf_lt_length_of_mem hs
 have h2:x.l[x.l.idxOf s]?=some s:=by rw [List.getElem?_eq_getElem h1,List.getElem_idxOf]
 rw [kK hn hi h2]
 exact hK
theorem qS{all xs:Sl bG}{at_:Sl Int}(hn:all.l.Nodup)(hal:all.l.length≤cy)(hxl:xs.l.length≤1000000)(hin:∀ s ∈ xs.l,s ∈ all.l)(hat:at_.l.length=all.l.length) :
  Sem Tryz.prog 78 [aq encS 1 all,aq encS 1 xs,aq encI 1 at_] ag.empty (fun o h'=>yes (∃ v,o = .ret v∧Fz false h' v (aq encI 1 (some (bM at_.l (placesOf all.l xs.l)))))):=by
 have hxb:xs.l.length≤cy:=by unfold cy;omega
 refine F.vK ?_
 simp only [aU,Nat.reduceAdd,Nat.reduceEqDiff,reduceIte,rD hxl,bT]
 have g0:=aB ag.empty (.cells ((List.replicate xs.l.length (0:Int)).map iv))
 rw [bT] at g0
 generalize ag.empty.alloc (.cells ((List.replicate xs.l.length (0:Int)).map iv))=H at g0 ⊢
 refine aC 0 xs.l.length (Nat.zero_le _) (fun i e h'=>∃ d:List Int,d.length=xs.l.length∧d.take i=(bM at_.l (placesOf all.l xs.l)).take i∧h'.get 0=some (.cells (d.map iv)) ∧
  e 0=aq encS 1 all∧e 1=aq encS 1 xs∧e 2=aq encI 1 at_∧e 7 = .slice 0 0 xs.l.length 1∧e 8 = .int .i64 (i:Int)) ⟨List.replicate xs.l.length 0,by simp,rfl,g0,rfl,rfl,rfl,rfl,rfl⟩ ?_ ?_
 ·rintro i e h' _ hi ⟨d,dl,dt,q0,e0,e1,e2,e7,e8⟩ K' hn' hx hr hp
  have hv:xs.l[i]?=some xs.l[i]:=List.getElem?_eq_getElem hi
  generalize xs.l[i]=s at hv
  have hsm:=hin s (List.mem_of_getElem? hv)
  have hix:all.l.idxOf s<at_.l.length:=by rw [hat];exact List.idxOf_lt_length_of_mem hsm
  have hw:at_.l[all.l.idxOf s]?=some (at_.l.getD (all.l.idxOf s) 0):=by rw [List.getD_eq_getElem?_getD,List.getElem?_eq_getElem hix];rfl
  have hpk:(bM at_.l (placesOf all.l xs.l))[i]?=some (at_.l.getD (all.l.idxOf s) 0):=by unfold bM placesOf;rw [List.map_map,List.getElem?_map,hv];rfl
  rw [F.ei.aO]
  simp only [e0,e1,e2,e7,e8,aU,Nat.reduceAdd,Nat.reduceEqDiff,reduceIte,bg hi,aW xs hi,gO hv]
  refine an (Cs hn hal hsm ?_)
  simp only [aU,Nat.reduceAdd,Nat.reduceEqDiff,reduceIte,e2,e7,e8,aW at_ hix,fN hw,jh hi,mC q0 (show i<d.length by omega),aI hi hxb]
  refine hn' _ _ ⟨d.set i (at_.l.getD (all.l.idxOf s) 0),by simp [dl],?_,by rw [ag.aN,if_pos rfl],e0,e1,e2,e7,rfl⟩
  rw [List.take_add_one,List.take_add_one,hpk,List.take_set_of_le (Nat.le_refl _),dt,List.getElem?_set,if_pos rfl,if_pos (by omega)]
 ·rintro e h' ⟨d,dl,dt,q0,e0,e1,e2,e7,e8⟩ K' hx
  rw [F.ei.aO]
  simp only [e1,e8,aU,Nat.reduceAdd,Nat.reduceEqDiff,reduceIte,aR]
  rw [hx,F.ei.aD]
  simp only [bH,Nat.reduceEqDiff,reduceIte,e7]
  have hd:d=bM at_.l (placesOf all.l xs.l):=by
   have h2:(bM at_.l (placesOf all.l xs.l)).length=xs.l.length:=by unfold bM placesOf;simp
   rw [List.take_of_length_le (by omega),List.take_of_length_le (by omega)] at dt
   exact dt
  subst hd
  refine cD.2 ⟨_,rfl,?_⟩
  have:=oL (old:=false) q0
  rwa [dl] at this
theorem ei{all xs:Sl bG}{at_:Sl Int}(hn:all.l.Nodup)(hal:all.l.length≤cy)(hxl:xs.l.length≤1000000)(hin:∀ s ∈ xs.l,s ∈ all.l)(hat:at_.l.length=all.l.length){h:ag}{K:Out→ag→Bool}
  (hK:K (.ret (aq encI 1 (some (bM at_.l (placesOf all.l xs.l))))) h=true):Sem Tryz.prog 78 [aq encS 1 all,aq encS 1 xs,aq encI 1 at_] h K:=
 (qS hn hal hxl hin hat).KH (jB.cons (.dS (b8 gj _)) (jB.cons (.dS (b8 gj _)) (jB.cons (.dS (b8 nI _)) .nil))) fun o h' ho=>by
  obtain ⟨v,rfl,hf⟩:=cD.1 ho
  exact ⟨_,_,rfl,hf,hK⟩
theorem AO{all xs:Sl bG}{vs:List Int}{V:Nat}(hn:all.l.Nodup)(hal:all.l.length≤cy)(hxl:xs.l.length≤1000000)(hin:∀ s ∈ xs.l,s ∈ all.l)(hat:vs.length=all.l.length){h:ag}(hV:h.get V=some (.cells (vs.map iv))){K:Out→ag→Bool}
  (hK:K (.ret (aq encI 1 (some (bM vs (placesOf all.l xs.l))))) h=true):Sem Tryz.prog 78 [aq encS 1 all,aq encS 1 xs,.slice V 0 vs.length 1] h K:=
 (qS (at_:=some vs) hn hal hxl hin hat).KH (jB.cons (.dS (b8 gj _)) (jB.cons (.dS (b8 gj _)) (jB.cons (oL hV) .nil))) fun o h' ho=>by
  obtain ⟨v,rfl,hf⟩:=cD.1 ho
  exact ⟨_,_,rfl,hf,hK⟩
theorem eZ{n:Nat}(h1:1≤n){x:Sl Int}{k:Nat}(hk:x.l.length=k)(hx:k≤12)(hc:n ^ k≤4096)(hb:ir n x.l=true){h:ag}{K:Out→ag→Bool}
  (hK:K (.ret (.int .i64 ((iL n x.l:Nat):Int))) h=true):Sem Tryz.prog 77 [.int .i64 (n:Int),aq encI 1 x] h K:=by
 subst hk
 have hbig:x.l.length≤cy:=by unfold cy;omega
 refine F.Ad ?_
 refine aC 0 x.l.length (Nat.zero_le _) (fun i e h'=>h'=h∧e 0 = .int .i64 (n:Int)∧e 5 = .int .i64 ((iL n (x.l.take i):Nat):Int)∧e 1=aq encI 1 x∧e 6 = .int .i64 (i:Int)) ⟨rfl,rfl,rfl,rfl,rfl⟩ ?_ ?_
 ·rintro i e h' _ hi ⟨rfl,e0,e5,e1,e6⟩ K' hn hx' hr hp
  have hv:x.l[i]?=some x.l[i]:=List.getElem?_eq_getElem hi
  rw [F.eZ.aO]
  simp only [e0,e1,e5,e6,aU,Nat.reduceAdd,Nat.reduceEqDiff,reduceIte,bg hi,aW x hi,fN hv,(k9 hb h1 hc hv).1,(k9 hb h1 hc hv).2,aI hi hbig]
  exact hn _ _ ⟨rfl,e0,rfl,e1,rfl⟩
 ·rintro e h' ⟨rfl,e0,e5,e1,e6⟩ K' hx'
  rw [F.eZ.aO]
  simp only [e1,e6,aU,Nat.reduceAdd,Nat.reduceEqDiff,reduceIte,aR]
  rw [hx',F.eZ.aD]
  simp only [e5,bH,Nat.reduceEqDiff,reduceIte]
  rw [List.take_of_length_le (Nat.le_refl _)]
  exact hK
theorem Gy(t:gv):AV.pureL (lK t)=true:=by simp [lK,JX,AV.pureL,AV.pure,b8 HM]
theorem Ka{x:Sl gv}{j:Nat}{t:gv}(ht:x.l[j]?=some t){h:ag}:ai none (.iptr (x.l.flatMap lK) (j*3)) h=some (.str t.name):=fh (enc:=lK) (fun _=>rfl) ht (by omega:0<3)
theorem Kb{x:Sl gv}{j:Nat}{t:gv}(ht:x.l[j]?=some t){h:ag}:ai none (.iptr (x.l.flatMap lK) (j*3+2)) h=some (aq A4 1 (some t.bits)):=fh (enc:=lK) (fun _=>rfl) ht (by omega:2<3)
theorem IB{l:List Bool}{i:Nat}{v:Bool}(hv:l[i]?=some v){h:ag}:ai none (.iptr (l.flatMap A4) (i*1)) h=some (.bool v):=by
 rw [ou (enc:=A4) (fun _=>rfl) hv];rfl
theorem fM{n:Nat}(n1:1≤n){x:Sl gv}(hxl:x.l.length≤cy){nm:bG}{t:Sl Int}{k:Nat}(htl:t.l.length=k)(hk:k≤12)(hc:n ^ k≤4096)(hb:ir n t.l=true)(hbits:∀ q ∈ x.l,q.name=nm→q.bits.length=n ^ k){h:ag}{K:Out→ag→Bool}
  (hK:K (.ret (.bool (ez x.l nm (iL n t.l)))) h=true):Sem Tryz.prog 120 [aq lK 3 x,.int .i64 (n:Int),.str nm,aq encI 1 t] h K:=by
 refine F.Dc ?_
 refine aC 0 x.l.length (Nat.zero_le _) (fun i e h'=>h'=h∧(∀ q ∈ x.l.take i,q.name≠nm)∧e 0=aq lK 3 x∧e 1 = .int .i64 (n:Int)∧e 2 = .str nm∧e 3=aq encI 1 t∧e 9 = .int .i64 (i:Int)) ⟨rfl,fun q hq=>(by cases hq),rfl,rfl,rfl,rfl,rfl⟩ ?_ ?_
 ·rintro i e h' _ hi ⟨rfl,hno,e0,e1,e2,e3,e9⟩ K' hn hx hr hp
  have hv:x.l[i]?=some x.l[i]:=List.getElem?_eq_getElem hi
  generalize x.l[i]=q at hv
  rw [F.fM.aO]
  simp only [e0,e1,e2,e3,e9,aU,Nat.reduceAdd,Nat.reduceEqDiff,reduceIte,bg hi,aW x hi,Ka hv,m6]
  by_cases hq:q.name=nm
  ·have hbl:=hbits q (List.mem_of_getElem? hv) hq
   have hrk:iL n t.l<q.bits.length:=by have:=mH hb;rw [htl] at this;omega
   have hbit:q.bits[iL n t.l]?=some (q.bits.getD (iL n t.l) false):=by rw [List.getD_eq_getElem?_getD,List.getElem?_eq_getElem hrk];rfl
   have hlk:ez x.l nm (iL n t.l)=q.bits.getD (iL n t.l) false:=by
    have:x.l.find? (fun t=>t.name==nm)=some q:=by
     rw [List.find?_eq_some_iff_getElem]
     refine ⟨by simp [hq],i,hi,(List.getElem?_eq_some_iff.1 hv).2,fun j hj=>?_⟩
     have hm:x.l[j]'(by omega) ∈ x.l.take i:=List.mem_take_iff_getElem.2 ⟨j,by omega,rfl⟩
     have:=hno _ hm
     simp [this]
    unfold ez
    rw [this]
   have hlb:∀ hh,ai none (.iptr (x.l.flatMap lK) (i*3+2)) hh=some (aq A4 1 (some q.bits)):=fun hh=>Kb hv
   simp only [decide_eq_true hq,aJ,hlb,aU,Nat.reduceAdd,Nat.reduceEqDiff,reduceIte]
   refine an (eZ n1 htl hk hc hb ?_)
   simp only [aU,Nat.reduceAdd,Nat.reduceEqDiff,reduceIte,hlb,AV.beq_refl,Bool.and_self,Bool.and_true,if_true,aW (enc:=A4) (sz:=1) (some q.bits) (show iL n t.l<(Sl.l (some q.bits)).length from hrk)]
   rw [show Sl.l (some q.bits)=q.bits from rfl]
   simp only [IB hbit,bindO_some]
   rw [hr,F.fM.bt]
   simp only [bH,Nat.reduceEqDiff,reduceIte]
   rw [← hlk];exact hK
  ·simp only [decide_eq_false hq,aG,e9,aI hi hxl,bindO_some]
   refine hn _ _ ⟨rfl,fun p hp'=>?_,e0,e1,e2,e3,rfl⟩
   rw [List.take_add_one,hv] at hp'
   rcases List.mem_append.1 hp' with hp'|hp'
   ·exact hno p hp'
   ·simp only [Option.toList_some,List.mem_singleton] at hp'
    subst hp';exact hq
 ·rintro e h' ⟨rfl,hno,e0,e1,e2,e3,e9⟩ K' hx
  rw [List.take_of_length_le (Nat.le_refl _)] at hno
  rw [F.fM.aO]
  simp only [e0,e9,aU,Nat.reduceAdd,Nat.reduceEqDiff,reduceIte,aR]
  rw [hx,F.fM.aD]
  have:ez x.l nm (iL n t.l)=false:=by
   unfold ez
   have hf:x.l.find? (fun t=>t.name==nm)=none:=by
    rw [List.find?_eq_none]
    intro q hq;simp [hno q hq]
   rw [hf]
  rw [this] at hK
  exact hK
structure kW (n:Nat) (r:aE) (ts:List gv):Prop where
 len:ts.length≤cy
 conds:∀ c ∈ r.body.l,M6 c
 rel:∀ c ∈ r.body.l,c.kind=0→n ^ c.args.l.length≤4096∧∀ q ∈ ts,q.name=c.name→q.bits.length=n ^ c.args.l.length
set_option maxHeartbeats 1000000 in
theorem cJ{n:Nat}(n1:1≤n){r:aE}(hf:r.lB)(hk:(varsOf r).length≤12){all:Sl bG}(hall:all.l=varsOf r){vs:Sl Int}(hvs:xk n r vs.l){x:Sl gv}(hx:kW n r x.l){h:ag}{K:Out→ag→Bool}
  (hK:K (.ret (.bool (nw n (ez x.l) r vs.l))) h=true):Sem Tryz.prog 65 [.agg (aM r),aq encS 1 all,aq encI 1 vs,aq lK 3 x,.int .i64 (n:Int)] h K:=by
 refine Sem.data (r:=.bool (nw n (ez x.l) r vs.l)) ?_ (by simp [AV.pureL,AV.pure,eM,b8 gj,b8 nI,b8 Gy]) hK
 clear hK
 have hbb:r.body.l.length≤cy:=by have:=hf.2.1;unfold cy;omega
 refine F.ux ?_
 simp only [cU (iz r),bindO_some,bT]
 have g0:(ag.empty.alloc (.cells (aM r))).get 0=some (.cells (aM r)):=aB _ _
 have gn:(ag.empty.alloc (.cells (aM r))).next=1:=rfl
 generalize (ag.empty.alloc (.cells (aM r)))=H0 at g0 gn ⊢
 refine aC 0 r.body.l.length (Nat.zero_le _) (fun i e h'=>h'.get 0=some (.cells (aM r))∧1≤h'.next∧(r.body.l.take i).all (fun c=>eV n (ez x.l) c (bM vs.l (bL r c)))=true ∧
  e 1=aq encS 1 all∧e 2=aq encI 1 vs∧e 3=aq lK 3 x∧e 4 = .int .i64 (n:Int)∧e 5 = .ptr 0 0∧e 11 = .int .i64 (i:Int)) ⟨g0,by omega,rfl,rfl,rfl,rfl,rfl,rfl,rfl⟩ ?_ ?_
 ·rintro i e h' _ hi ⟨q0,qn,ht,e1,e2,e3,e4,e5,e11⟩ K' hn hx' hr hp
  have hv:r.body.l[i]?=some r.body.l[i]:=List.getElem?_eq_getElem hi
  generalize r.body.l[i]=c at hv
  have hcm:=List.mem_of_getElem? hv
  have hcf:=hx.conds c hcm
  have lb:ai none (.ptr 0 2) h'=some (aq bY 4 r.body):=by rw [ak q0];rfl
  obtain ⟨H,hs1,g1,go,gn1⟩:=cP (h:=h') (zs:=[.int .i64 0,.bool false,.str [],.nils]) (cs:=bY c) (n:=4) rfl rfl (gN c)
  have la:ai none (.ptr h'.next 3) H=some (aq encS 1 c.args):=by rw [ak g1];rfl
  have lk:ai none (.ptr h'.next 0) H=some (.int .i64 c.kind):=by rw [ak g1];rfl
  have ln:ai none (.ptr h'.next 2) H=some (.str c.name):=by rw [ak g1];rfl
  have lg:ai none (.ptr h'.next 1) H=some (.bool c.neg):=by rw [ak g1];rfl
  have p0:H.get 0=some (.cells (aM r)):=by rw [go 0 (by omega)];exact q0
  have hplen:(bL r c).length=c.args.l.length:=by unfold bL placesOf;simp
  have hpl:∀ p ∈ bL r c,p<vs.l.length:=by rw [hvs.1];exact jO (nP hcm)
  have hvl:=jH vs.l (bL r c)
  have hin:=kJ hvs.2 hpl
  have step:∀ (b:Bool) (e':Env),eV n (ez x.l) c (bM vs.l (bL r c)) = !(b==c.neg)→e' 1=aq encS 1 all→e' 2=aq encI 1 vs→e' 3=aq lK 3 x→e' 4 = .int .i64 (n:Int)→e' 5 = .ptr 0 0→e' 11 = .int .i64 ((i+1:Nat):Int)→b≠c.neg→K' .normal ⟨e',64,[],H⟩=true:=fun b e' hcv e1 e2 e3 e4 e5 e11 hb=>by
   refine hn _ _ ⟨p0,by omega,gJ hv ht ?_,e1,e2,e3,e4,e5,e11⟩
   rw [hcv];simp [hb]
  have stop:∀ (b:Bool),eV n (ez x.l) c (bM vs.l (bL r c)) = !(b==c.neg)→b=c.neg→nw n (ez x.l) r vs.l=false:=fun b hcv hb=>by
   unfold nw
   exact all_false hv (by rw [hcv];simp [hb])
  rw [F.cJ.aO]
  simp only [e1,e2,e5,e11,aU,Nat.reduceAdd,Nat.reduceEqDiff,reduceIte,lb,bg hi,aW r.body hi,dN gL hv,hs1]
  simp only [aU,Nat.reduceAdd,Nat.reduceEqDiff,reduceIte,la]
  have hval:=fun {K} hk=>ei (all:=all) (xs:=c.args) (at_:=vs) (h:=H) (K:=K) (by rw [hall];exact AN r) (by rw [hall];unfold cy;omega) (by have:=hcf.arity;omega) (by rw [hall];exact nP hcm) (by rw [hall,hvs.1]) hk
  refine an (hval ?_)
  rw [show placesOf all.l c.args.l=bL r c by rw [hall];rfl]
  simp only [aU,Nat.reduceAdd,Nat.reduceEqDiff,reduceIte,lk,cQ]
  by_cases k0:c.kind=0
  ·obtain ⟨hpow,hbits⟩:=hx.rel c hcm k0
   simp only [decide_eq_true k0,aJ,aU,Nat.reduceAdd,Nat.reduceEqDiff,reduceIte,ln,e3,e4]
   refine an (fM n1 hx.len (t:=some (bM vs.l (bL r c))) (k:=c.args.l.length) (by show (bM vs.l (bL r c)).length=_;rw [hvl,hplen]) hcf.arity hpow hin hbits ?_)
   rw [show Sl.l (some (bM vs.l (bL r c)))=bM vs.l (bL r c) from rfl]
   have hcv:eV n (ez x.l) c (bM vs.l (bL r c)) = !(ez x.l c.name (iL n (bM vs.l (bL r c)))==c.neg):=by unfold eV;rw [if_pos k0];rfl
   simp only [aU,Nat.reduceAdd,Nat.reduceEqDiff,reduceIte,lg]
   cases hb:(ez x.l c.name (iL n (bM vs.l (bL r c)))==c.neg) with
   |true=>
    simp only [aJ]
    rw [hr,F.cJ.bt]
    simp only [bH,Nat.reduceEqDiff,reduceIte]
    rw [stop _ hcv (by simpa using hb)]
    exact fm rfl
   |false=>
    simp only [aG,e11,aI hi hbb,bindO_some]
    exact step _ _ hcv e1 e2 e3 e4 e5 rfl (by simpa using hb)
  ·have h2:(bM vs.l (bL r c)).length=2:=by rw [hvl,hplen];exact hcf.two (hcf.kinds.resolve_left k0)
   have v0:(bM vs.l (bL r c))[0]?=some ((bM vs.l (bL r c)).getD 0 0):=by rw [List.getD_eq_getElem?_getD,List.getElem?_eq_getElem (by omega:0<(bM vs.l (bL r c)).length)];rfl
   have v1:(bM vs.l (bL r c))[1]?=some ((bM vs.l (bL r c)).getD 1 0):=by rw [List.getD_eq_getElem?_getD,List.getElem?_eq_getElem (by omega:1<(bM vs.l (bL r c)).length)];rfl
   have i0:cS 1 (aq encI 1 (some (bM vs.l (bL r c)))) (.int .i64 0)=some (.iptr ((bM vs.l (bL r c)).flatMap encI) (0*1)):=aW (enc:=encI) (sz:=1) (k:=.i64) (some (bM vs.l (bL r c))) (i:=0) (by show 0<(bM vs.l (bL r c)).length;omega)
   have i1:cS 1 (aq encI 1 (some (bM vs.l (bL r c)))) (.int .i64 1)=some (.iptr ((bM vs.l (bL r c)).flatMap encI) (1*1)):=aW (enc:=encI) (sz:=1) (k:=.i64) (some (bM vs.l (bL r c))) (i:=1) (by show 1<(bM vs.l (bL r c)).length;omega)
   have g0':∀ hh,ai none (.iptr ((bM vs.l (bL r c)).flatMap encI) (0*1)) hh=some (.int .i64 ((bM vs.l (bL r c)).getD 0 0)):=fun hh=>fN (x:=some (bM vs.l (bL r c))) v0
   have g1':∀ hh,ai none (.iptr ((bM vs.l (bL r c)).flatMap encI) (1*1)) hh=some (.int .i64 ((bM vs.l (bL r c)).getD 1 0)):=fun hh=>fN (x:=some (bM vs.l (bL r c))) v1
   simp only [decide_eq_false k0,aG]
   by_cases k1:c.kind=1
   ·have hcv:eV n (ez x.l) c (bM vs.l (bL r c)) = !(decide ((bM vs.l (bL r c)).getD 0 0=(bM vs.l (bL r c)).getD 1 0)==c.neg):=by unfold eV;rw [if_neg k0,if_pos k1];rfl
    simp only [decide_eq_true k1,aJ,i0,i1,g0',g1',aU,Nat.reduceAdd,Nat.reduceEqDiff,reduceIte,lg,cQ]
    cases hb:(decide ((bM vs.l (bL r c)).getD 0 0=(bM vs.l (bL r c)).getD 1 0)==c.neg) with
    |true=>
     simp only [aJ]
     rw [hr,F.cJ.bt]
     simp only [bH,Nat.reduceEqDiff,reduceIte]
     rw [stop _ hcv (by simpa using hb)]
     exact fm rfl
    |false=>
     simp only [aG,e11,aI hi hbb,bindO_some]
     exact step _ _ hcv e1 e2 e3 e4 e5 rfl (by simpa using hb)
   ·have hcv:eV n (ez x.l) c (bM vs.l (bL r c)) = !(decide ((bM vs.l (bL r c)).getD 0 0<(bM vs.l (bL r c)).getD 1 0)==c.neg):=by unfold eV;rw [if_neg k0,if_neg k1];rfl
    simp only [decide_eq_false k1,aG,i0,i1,g0',g1',aU,Nat.reduceAdd,Nat.reduceEqDiff,reduceIte,lg]
    cases hb:(decide ((bM vs.l (bL r c)).getD 0 0<(bM vs.l (bL r c)).getD 1 0)==c.neg) with
    |true=>
     simp only [aJ]
     rw [hr,F.cJ.bt]
     simp only [bH,Nat.reduceEqDiff,reduceIte]
     rw [stop _ hcv (by simpa using hb)]
     exact fm rfl
    |false=>
     simp only [aG,e11,aI hi hbb,bindO_some]
     exact step _ _ hcv e1 e2 e3 e4 e5 rfl (by simpa using hb)
 ·rintro e h' ⟨q0,qn,ht,e1,e2,e3,e4,e5,e11⟩ K' hx'
  rw [List.take_of_length_le (Nat.le_refl _)] at ht
  have lb:ai none (.ptr 0 2) h'=some (aq bY 4 r.body):=by rw [ak q0];rfl
  rw [F.cJ.aO]
  simp only [e5,e11,aU,Nat.reduceAdd,Nat.reduceEqDiff,reduceIte,lb,aR]
  rw [hx',F.cJ.aD]
  have:nw n (ez x.l) r vs.l=true:=ht
  rw [this]
  exact fm rfl
end
end Go.AM
namespace Go.AM
open Go Go.Proofs
noncomputable section
theorem tD{n:Nat}(n1:1≤n)(m Q:Nat):∀ z,dL n (m+z) (Q*n ^ z)=dL n m Q++List.replicate z 0
 |0=>by simp
 |z+1=>by
  have h1:Q*n ^ (z+1)/n=Q*n ^ z:=by rw [Nat.pow_succ,← Nat.mul_assoc,Nat.mul_div_cancel _ n1]
  have h2:Q*n ^ (z+1)%n=0:=by rw [Nat.pow_succ,← Nat.mul_assoc,Nat.mul_mod_left]
  rw [← Nat.add_assoc,dL,h1,h2,tD n1 m Q z,List.append_assoc,List.replicate_succ']
  rfl
theorem IC{n:Nat}(n1:1≤n)(k:Nat):dL n k 0=List.replicate k 0:=by
 have:=tD n1 0 0 k
 simpa [dL] using this
theorem eL{V n k i:Nat}(n1:1≤n)(n64:n≤64)(hk:k≤12)(hi:i<n ^ k){h:ag}(hV:h.get V=some (.cells ((dL n k i).map iv))){K:Out→ag→Bool}
  (hyes:i+1<n ^ k→∀ h',h'.get V=some (.cells ((dL n k (i+1)).map iv))→(∀ b,b≠V→h'.get b=h.get b)→h'.next=h.next→K (.ret (.bool true)) h'=true)
  (hno:i+1=n ^ k→∀ h',(∀ b,b≠V→h'.get b=h.get b)→h'.next=h.next→K (.ret (.bool false)) h'=true):Sem Tryz.prog 76 [.slice V 0 k 1,.int .i64 (n:Int)] h K:=by
 have hl:∀ h,bz .slice (.slice V 0 k 1) h=some (.int .i64 (k:Int)):=fun _=>rfl
 have hsub:aA .sub (.int .i64 (k:Int)) (.int .i64 1)=some (.int .i64 ((k:Int)-1)):=ry (by omega) (by omega)
 refine F.Ac ?_
 simp only [hl,bindO_some,hsub]
 refine iS (fun m e h'=>∃ q z,m+z=k∧h'.get V=some (.cells ((dL n m q++List.replicate z (0:Int)).map iv))∧i+1=(q+1)*n ^ z∧(∀ b,b≠V→h'.get b=h.get b)∧h'.next=h.next∧e 0 = .slice V 0 k 1∧e 1 = .int .i64 (n:Int)∧e 5 = .int .i64 ((m:Int)-1)) k
  ⟨i,0,rfl,by simpa using hV,by simp,fun _ _=>rfl,rfl,rfl,rfl,rfl⟩ ?_
 rintro m e h' ⟨q,z,hmz,hc,hq,hfr,hnx,e0,e1,e5⟩
 rw [F.eL.aO]
 cases m with
 |zero=>
  simp only [e5,mY,bindO_some,condB_bool,decide_eq_false (by omega:¬ (0:Int)≤((0:Nat):Int)-1),aG,loopK_exit]
  rw [F.eL.aD]
  refine hno ?_ h' hfr hnx
  rw [show z=k by omega] at hq
  have:n ^ k≤(q+1)*n ^ k:=Nat.le_mul_of_pos_left _ (by omega)
  omega
 |succ m=>
  have e5':((m+1:Nat):Int)-1=(m:Int):=by omega
  rw [e5'] at e5
  have hmk:m<k:=by omega
  have hcl:(dL n (m+1) q++List.replicate z (0:Int)).length=k:=by rw [List.length_append,jz,List.length_replicate];omega
  have hsp:dL n (m+1) q++List.replicate z (0:Int)=dL n m (q/n)++(((q%n:Nat):Int) :: List.replicate z 0):=by rw [dL,List.append_assoc];rfl
  have hv:(dL n (m+1) q++List.replicate z (0:Int))[m]?=some ((q%n:Nat):Int):=by
   rw [hsp,List.getElem?_append_right (by rw [jz];exact Nat.le_refl _),jz,Nat.sub_self];rfl
  have hset:∀ v:Int,(dL n (m+1) q++List.replicate z (0:Int)).set m v=dL n m (q/n)++(v :: List.replicate z 0):=fun v=>by
   rw [hsp,List.set_append_right _ _ (by rw [jz];exact Nat.le_refl _),jz,Nat.sub_self];rfl
  have hmod:q%n<n:=Nat.mod_lt _ n1
  have hadd:aA .add (.int .i64 ((q%n:Nat):Int)) (.int .i64 1)=some (.int .i64 ((q%n+1:Nat):Int)):=by rw [gH (by omega) (by omega)];rfl
  have g1:(h'.set V (.cells (((dL n (m+1) q++List.replicate z (0:Int)).set m ((q%n+1:Nat):Int)).map iv))).get V=some (.cells (((dL n (m+1) q++List.replicate z (0:Int)).set m ((q%n+1:Nat):Int)).map iv)):=by rw [ag.aN,if_pos rfl]
  have hv1:((dL n (m+1) q++List.replicate z (0:Int)).set m ((q%n+1:Nat):Int))[m]?=some ((q%n+1:Nat):Int):=by rw [List.getElem?_set,if_pos rfl,if_pos (by omega)]
  simp only [e0,e1,e5,aU,Nat.reduceAdd,Nat.reduceEqDiff,reduceIte,decide_eq_true (by omega:(0:Int)≤(m:Int)),aJ,jh hmk,jY hc hv,hadd,mC hc (show m<(dL n (m+1) q++List.replicate z (0:Int)).length by omega),jY g1 hv1]
  by_cases hlt:q%n+1<n
  ·simp only [decide_eq_true (by omega:((q%n+1:Nat):Int)<(n:Int)),aJ,loopK_ret]
   rw [F.eL.bt]
   simp only [bH,Nat.reduceEqDiff,reduceIte]
   have hdm:=Nat.div_add_mod q n
   have hq1:(q+1)/n=q/n∧(q+1)%n=q%n+1:=by
    have h3:q+1=q%n+1+n*(q/n):=by omega
    rw [h3]
    exact ⟨by rw [Nat.add_mul_div_left _ _ n1,Nat.div_eq_of_lt hlt,Nat.zero_add],by rw [Nat.add_mul_mod_self_left,Nat.mod_eq_of_lt hlt]⟩
   have htup:dL n k (i+1)=dL n m (q/n)++(((q%n+1:Nat):Int) :: List.replicate z 0):=by
    rw [hq,← hmz,tD n1,dL,hq1.1,hq1.2,List.append_assoc];rfl
   refine hyes ?_ _ (by rw [ag.aN,if_pos rfl,hset,htup]) (fun b hb=>by rw [ag.aN,if_neg hb];exact hfr b hb) (by rw [ag.next_set];exact hnx)
   refine Nat.lt_of_le_of_ne hi fun he=>?_
   rw [hq,← hmz,Nat.pow_add] at he
   have h4:q+1=n ^ (m+1):=Nat.eq_of_mul_eq_mul_right (Nat.pow_pos n1) he
   have h5:(q+1)%n=0:=by rw [h4,Nat.pow_succ,Nat.mul_mod_left]
   omega
  ·have hs1:aA .sub (.int .i64 (m:Int)) (.int .i64 1)=some (.int .i64 ((m:Int)-1)):=ry (by omega) (by omega)
   simp only [decide_eq_false (by omega:¬ ((q%n+1:Nat):Int)<(n:Int)),aG,mC g1 (show m<((dL n (m+1) q++List.replicate z (0:Int)).set m ((q%n+1:Nat):Int)).length by rw [List.length_set];omega),hs1,bindO_some,e5]
   have hdm:=Nat.div_add_mod q n
   refine cD.2 ⟨m,by omega,rfl,rfl,q/n,z+1,by omega,?_,?_,fun b hb=>?_,?_,e0,e1,rfl⟩
   ·rw [ag.aN,if_pos rfl,List.set_set,hset];rfl
   ·have h3:q+1=(q/n+1)*n:=by rw [Nat.succ_mul,Nat.mul_comm];omega
    rw [hq,h3,Nat.pow_succ,Nat.mul_assoc,Nat.mul_comm n]
   ·simp only [ag.aN,if_neg hb];exact hfr b hb
   ·simp only [ag.next_set];exact hnx
structure dc where
 name:bG
 k:Nat
 blk:Nat
 bits:List Bool
def jC(t:dc):List AV:=[.str t.name,.int .i64 (t.k:Int),.slice t.blk 0 t.bits.length 1]
theorem xp(t:dc):(jC t).length=3:=rfl
theorem E7(t:dc):bN (jC t)=true:=rfl
def cC(t:dc):gv:=⟨t.name,t.k,t.bits⟩
structure eA (k0:Nat) (h:ag) (a:AV) (ts:List dc):Prop where
 own:Own jC 3 k0 h a ts
 cell:∀ t ∈ ts,k0≤t.blk∧t.blk<h.next∧de a≠some t.blk∧h.get t.blk=some (.cells (t.bits.map bv))
 inj:∀ (i j:Nat) (s t:dc),ts[i]?=some s→ts[j]?=some t→s.blk=t.blk→i=j
theorem eA.keep{k0:Nat}{h h':ag}{a:AV}{ts:List dc}(t:eA k0 h a ts)(hb:∀ b,k0≤b→b<h.next→h'.get b=h.get b)(hn:h.next≤h'.next):eA k0 h' a ts:=
 ⟨t.own.agree (fun b e=>hb b (t.own.ge e) (t.own.lt e)) hn,fun q hq=>by
  obtain ⟨h1,h2,h3,h4⟩:=t.cell q hq
  exact ⟨h1,by omega,h3,by rw [hb _ h1 h2];exact h4⟩,t.inj⟩
theorem eA.ext{k0:Nat}{h h':ag}{a:AV}{ts:List dc}(t:eA k0 h a ts)(hx:bJ h h'):eA k0 h' a ts:=t.keep (fun b _ b2=>hx.get b b2) hx.next
theorem eA.sj{k0:Nat}{h:ag}{a:AV}{ts:List dc}(t:eA k0 h a ts):∃ x:Sl gv,x.l=ts.map cC∧Fz true h a (aq lK 3 x):=by
 obtain ⟨o,hc,_⟩:=t
 cases o with
 |nil=>exact ⟨none,rfl,.scalar _ rfl⟩
 |row b ts h1 h2 h3=>
  refine ⟨some (ts.map cC),rfl,?_⟩
  have key:∀ l:List dc,(∀ t ∈ l,h.get t.blk=some (.cells (t.bits.map bv)))→jB true h (l.flatMap jC) ((l.map cC).flatMap lK):=by
   intro l
   induction l with
   |nil=>intro _;exact .nil
   |cons t l ih=>
    intro hl
    rw [List.flatMap_cons,List.map_cons,List.flatMap_cons]
    exact jB.append (jB.cons (.scalar _ rfl) (jB.cons (.scalar _ rfl) (jB.cons (JW (hl t List.mem_cons_self)) .nil))) (ih fun q hq=>hl q (List.mem_cons_of_mem _ hq))
  have fl:=key ts fun t ht=>(hc t ht).2.2.2
  have:aq lK 3 (some (ts.map cC)) = .islice ((ts.map cC).flatMap lK) 0 ts.length 3:=by simp only [aq,List.length_map]
  rw [this]
  exact .slice b 0 ts.length 3 _ _ h3 fl.len fl.rel
def dc.put(t:dc)(i:Nat):dc:=⟨t.name,t.k,t.blk,t.bits.set i true⟩
theorem E8{α:Type}{enc:α→List AV}:∀ {l:List α} {j:Nat} {t t':α},l[j]?=some t→enc t'=enc t→(l.set j t').flatMap enc=l.flatMap enc
 |[],j,t,t',h,_=>by simp at h
 |q :: l,0,t,t',h,e=>by simp at h;subst h;simp [e]
 |q :: l,j+1,t,t',h,e=>by
  rw [List.getElem?_cons_succ] at h
  rw [List.set_cons_succ,List.flatMap_cons,List.flatMap_cons,E8 h e]
theorem eA.put{k0:Nat}{h:ag}{a:AV}{ts:List dc}(t:eA k0 h a ts){j:Nat}{q:dc}(hq:ts[j]?=some q)(i:Nat):eA k0 (h.set q.blk (.cells ((q.bits.set i true).map bv))) a (ts.set j (q.put i)):=by
 have hqm:=List.mem_of_getElem? hq
 obtain ⟨c1,c2,c3,c4⟩:=t.cell q hqm
 have hj:=(List.getElem?_eq_some_iff.1 hq).1
 refine ⟨?_,fun p hp=>?_,fun x y s u hx hy hb=>?_⟩
 ·have o:=t.own
  have he:jC (q.put i)=jC q:=by simp [jC,dc.put]
  generalize hts:ts.set j (q.put i)=ts'
  have hfl:ts'.flatMap jC=ts.flatMap jC:=by rw [← hts];exact E8 hq he
  have hlen:ts'.length=ts.length:=by rw [← hts,List.length_set]
  cases o with
  |nil=>simp at hj
  |row b ts h1 h2 h3=>
   rw [← hlen]
   refine .row b ts' h1 (by rw [ag.next_set];exact h2) ?_
   rw [ag.aN,if_neg (fun e=>c3 (by rw [← e];rfl)),h3,hfl]
 ·obtain ⟨x,hx⟩:=List.mem_iff_getElem?.1 hp
  rw [List.getElem?_set] at hx
  by_cases e:j=x
  ·rw [if_pos e,if_pos (by omega)] at hx
   cases hx
   exact ⟨c1,by rw [ag.next_set];exact c2,c3,by rw [ag.aN];exact if_pos rfl⟩
  ·rw [if_neg e] at hx
   obtain ⟨d1,d2,d3,d4⟩:=t.cell p (List.mem_of_getElem? hx)
   exact ⟨d1,by rw [ag.next_set];exact d2,d3,by rw [ag.aN,if_neg (fun e'=>e (t.inj j x q p hq hx e'.symm))];exact d4⟩
 ·have key:∀ (x:Nat) (s:dc),(ts.set j (q.put i))[x]?=some s→∃ s',ts[x]?=some s'∧s'.blk=s.blk:=fun x s hx=>by
   rw [List.getElem?_set] at hx
   by_cases e:j=x
   ·rw [if_pos e,if_pos (by omega)] at hx
    cases hx
    exact ⟨q,by rw [← e];exact hq,rfl⟩
   ·rw [if_neg e] at hx;exact ⟨s,hx,rfl⟩
  obtain ⟨s',a1,a2⟩:=key x s hx
  obtain ⟨u',b1,b2⟩:=key y u hy
  exact t.inj x y s' u' a1 b1 (by rw [a2,b2,hb])
theorem ID(ts:List dc)(j:Nat)(q:dc):(ts.set j q).map cC=(ts.map cC).set j (cC q):=by rw [List.map_set]
def dc.shape(t:dc):bG×Nat×Nat×Nat:=(t.name,t.k,t.blk,t.bits.length)
theorem IE{ts:List dc}{j:Nat}{q:dc}(hq:ts[j]?=some q)(i:Nat):(ts.set j (q.put i)).map dc.shape=ts.map dc.shape:=by
 rw [List.map_set]
 refine List.ext_getElem? fun x=>?_
 rw [List.getElem?_set]
 by_cases e:j=x
 ·have hj:=(List.getElem?_eq_some_iff.1 hq).1
  rw [if_pos e,if_pos (by rw [List.length_map];omega),List.getElem?_map,← e,hq]
  simp [dc.shape,dc.put]
 ·rw [if_neg e]
theorem wA{ts ts':List dc}(h:ts'.map dc.shape=ts.map dc.shape){q:dc}(hq:q ∈ ts'):∃ p ∈ ts,p.shape=q.shape:=by
 have:q.shape ∈ ts'.map dc.shape:=List.mem_map_of_mem hq
 rw [h] at this
 obtain ⟨p,hp,e⟩:=List.mem_map.1 this
 exact ⟨p,hp,e⟩
theorem IF{ts ts':List dc}(h:ts'.map dc.shape=ts.map dc.shape){j:Nat}{q:dc}(hq:ts[j]?=some q):∃ p,ts'[j]?=some p∧p.shape=q.shape:=by
 have h1:(ts'.map dc.shape)[j]?=some q.shape:=by rw [h,List.getElem?_map,hq];rfl
 rw [List.getElem?_map] at h1
 obtain ⟨p,h2,h3⟩:=Option.map_eq_some_iff.1 h1
 exact ⟨p,h2,h3⟩
theorem Ct{ts ts':List dc}(h:ts'.map dc.shape=ts.map dc.shape):ts'.length=ts.length:=by have:=congrArg List.length h;simpa using this
theorem kW.shape{n:Nat}{r:aE}{ts ts':List dc}(f:kW n r (ts.map cC))(h:ts'.map dc.shape=ts.map dc.shape):kW n r (ts'.map cC):=
 ⟨by have:=f.len;rw [List.length_map] at this ⊢;rw [Ct h];exact this,f.conds,fun c hc k0=>by
  obtain ⟨h1,h2⟩:=f.rel c hc k0
  refine ⟨h1,fun q hq hn=>?_⟩
  obtain ⟨t,ht,rfl⟩:=List.mem_map.1 hq
  obtain ⟨p,hp,e⟩:=wA h ht
  unfold dc.shape at e
  simp only [Prod.mk.injEq] at e
  have:=h2 (cC p) (List.mem_map_of_mem hp) (by show p.name=_;rw [e.1];exact hn)
  show t.bits.length=_
  rw [← e.2.2.2];exact this⟩
end
end Go.AM
namespace Go.AM
open Go Go.Proofs
noncomputable section
theorem yj{n:Nat}(n1:1≤n){r:aE}(hf:r.lB)(hk:(varsOf r).length≤12){all:Sl bG}(hall:all.l=varsOf r){vs:List Int}(hvs:xk n r vs){k0:Nat}{a:AV}{ts:List dc}{h:ag}(ht:eA k0 h a ts)(hx:kW n r (ts.map cC)){V:Nat}(hV:h.get V=some (.cells (vs.map iv))){K:Out→ag→Bool}
  (hK:K (.ret (.bool (nw n (ez (ts.map cC)) r vs))) h=true):Sem Tryz.prog 65 [.agg (aM r),aq encS 1 all,.slice V 0 vs.length 1,a,.int .i64 (n:Int)] h K:=by
 obtain ⟨x,hx1,hx2⟩:=ht.sj
 have hfit:kW n r x.l:=by rw [hx1];exact hx
 have hs:=cJ n1 hf hk hall (vs:=some vs) hvs hfit (h:=ag.empty) (K:=mR (.bool (nw n (ez x.l) r vs))) (fm rfl)
 have hlk:ez x.l=ez (ts.map cC):=by rw [hx1]
 rw [← hlk] at hK
 exact Sem.M1 rfl hs (jB.cons (.dS (by simpa [AV.pure] using eM r)) (jB.cons (.dS (b8 gj _)) (jB.cons (oL hV) (jB.cons hx2 (jB.cons (.scalar _ rfl) .nil))))) hK
theorem xq{n:Nat}{r:aE}{j:Nat}:∀ (m:Nat) (ts:List gv) (f:Bool),eU n r j m (ts,f)=((eU n r j m (ts,false)).1,f||(eU n r j m (ts,false)).2)
 |0,ts,f=>by simp [eU]
 |m+1,ts,f=>by
  rw [qQ,qQ,xq m ts f]
  generalize eU n r j m (ts,false)=s
  obtain ⟨u,g⟩:=s
  unfold A0
  simp only
  cases u[j]? with
  |none=>rfl
  |some t=>
   simp only
   split
   ·rfl
   ·split
    ·simp
    ·rfl
theorem M7(t:dc){k0:Nat}{h:ag}{a:AV}{ts:List dc}(hA:eA k0 h a ts){j:Nat}(hj:ts[j]?=some t):∃ b,b<h.next∧cS 3 a (.int .i64 (j:Int))=some (.ptr b (j*3))∧ai none (.ptr b (j*3+2)) h=some (.slice t.blk 0 t.bits.length 1):=by
 obtain ⟨b,_,h2,h3,_,h5⟩:=hA.own.get xp hj
 exact ⟨b,h2,h3 .i64,by rw [h5 2 (by omega)];rfl⟩
set_option maxHeartbeats 2000000 in
theorem ew{n:Nat}(n1:1≤n)(n64:n≤64){r:aE}(hf:r.lB)(hk:(varsOf r).length≤12)(h12:r.args.l.length≤12)(hpow:n ^ r.args.l.length≤4096){k0:Nat}{a:AV}{ts:List dc}{h:ag}(hA:eA k0 h a ts)(hx:kW n r (ts.map cC)){j:Nat}{t0:dc}(hj:ts[j]?=some t0)(ht0:t0.bits.length=n ^ r.args.l.length){K:Out→ag→Bool}
  (hK:∀ h' ts',(ts'.map cC,(eU n r j (n ^ (varsOf r).length) (ts.map cC,false)).2)=eU n r j (n ^ (varsOf r).length) (ts.map cC,false)→ts'.map dc.shape=ts.map dc.shape→eA k0 h' a ts'→(∀ b,b<h.next→(∀ t ∈ ts,b≠t.blk)→h'.get b=h.get b)→h.next≤h'.next →
   K (.ret (.bool (eU n r j (n ^ (varsOf r).length) (ts.map cC,false)).2)) h'=true) :
  Sem Tryz.prog 59 [.agg (aM r),a,.int .i64 (j:Int),.int .i64 (n:Int)] h K:=by
 refine F.yc ?_
 simp only [cU (iz r),bindO_some]
 have g0:(h.alloc (.cells (aM r))).get h.next=some (.cells (aM r)):=aB _ _
 have gx:bJ h (h.alloc (.cells (aM r))):=bJ.alloc _ _
 have gn:(h.alloc (.cells (aM r))).next=h.next+1:=rfl
 generalize (h.alloc (.cells (aM r)))=H0 at g0 gx gn ⊢
 simp only [ak g0,aM,lX,bindO_some]
 refine an (bE hf fun x hx1=>?_)
 have hxl:x.l.length≤1000000:=by rw [hx1];omega
 simp only [aU,Nat.reduceAdd,Nat.reduceEqDiff,reduceIte,rD hxl]
 have gV:(H0.alloc (.cells ((List.replicate x.l.length (0:Int)).map iv))).get H0.next=some (.cells ((List.replicate x.l.length (0:Int)).map iv)):=aB _ _
 have xV:bJ H0 (H0.alloc (.cells ((List.replicate x.l.length (0:Int)).map iv))):=bJ.alloc _ _
 have nV:(H0.alloc (.cells ((List.replicate x.l.length (0:Int)).map iv))).next=H0.next+1:=rfl
 generalize (H0.alloc (.cells ((List.replicate x.l.length (0:Int)).map iv)))=H1 at gV xV nV ⊢
 rw [hx1] at gV ⊢
 rw [gn] at gV nV
 have xx:=gx.trans xV
 have hpos:0<n ^ (varsOf r).length:=Nat.pow_pos n1
 refine iS (fun m e h'=>∃ (i:Nat) (ts':List dc) (fl:Bool),m=n ^ (varsOf r).length-i∧i<n ^ (varsOf r).length∧(ts'.map cC,fl)=eU n r j i (ts.map cC,false)∧ts'.map dc.shape=ts.map dc.shape∧eA k0 h' a ts' ∧
   h'.get h.next=some (.cells (aM r))∧h'.get (h.next+1)=some (.cells ((dL n (varsOf r).length i).map iv))∧(∀ b,b<h.next→(∀ t ∈ ts,b≠t.blk)→h'.get b=h.get b)∧h.next+2≤h'.next ∧
   e 1=a∧e 2 = .int .i64 (j:Int)∧e 3 = .int .i64 (n:Int)∧e 4 = .ptr h.next 0∧e 9=aq encS 1 x∧e 10 = .slice (h.next+1) 0 (varsOf r).length 1∧e 11 = .bool fl) (n ^ (varsOf r).length)
  ⟨0,ts,false,rfl,hpos,rfl,rfl,hA.ext xx,by rw [xV.get _ (by omega)];exact g0,by rw [IC n1];exact gV,fun b hb _=>xx.get b hb,by omega,rfl,rfl,rfl,rfl,rfl,by rw [gn];rfl,rfl⟩ ?_
 rintro m e h' ⟨i,ts',fl,hm,hi,hst,hsh,hA',q0,qV,hfr,hnx,e1,e2,e3,e4,e9,e10,e11⟩
 have ha:xk n r (dL n (varsOf r).length i):=AH n1 hi
 obtain ⟨t,htj,hts⟩:=IF hsh hj
 unfold dc.shape at hts
 simp only [Prod.mk.injEq] at hts
 have htl:t.bits.length=n ^ r.args.l.length:=by rw [hts.2.2.2,ht0]
 have hrk:=AG ha
 have hrkt:gd n r (dL n (varsOf r).length i)<t.bits.length:=by rw [htl];exact hrk
 obtain ⟨ba,hba,ia,la⟩:=M7 t hA' htj
 obtain ⟨c1,c2,c3,c4⟩:=hA'.cell t (List.mem_of_getElem? htj)
 have hbit:t.bits[gd n r (dL n (varsOf r).length i)]?=some (t.bits.getD (gd n r (dL n (varsOf r).length i)) false):=by rw [List.getD_eq_getElem?_getD,List.getElem?_eq_getElem hrkt];rfl
 have l4:ai none (.ptr h.next 1) h'=some (aq encS 1 r.args):=by rw [ak q0];rfl
 have lr:ai (some 3) (.ptr h.next 0) h'=some (.agg (aM r)):=by rw [ak q0];simp only [aM,lX]
 have hplen:(placesOf (varsOf r) r.args.l).length=r.args.l.length:=by unfold placesOf;simp
 have hpl:∀ p ∈ placesOf (varsOf r) r.args.l,p<(dL n (varsOf r).length i).length:=by rw [ha.1];exact jO kI
 have hvl:=jH (dL n (varsOf r).length i) (placesOf (varsOf r) r.args.l)
 have hin:=kJ ha.2 hpl
 have hVl:(dL n (varsOf r).length i).length=(varsOf r).length:=jz _ _ _
 have hval:=fun {K} hk=>AO (all:=x) (xs:=r.args) (vs:=dL n (varsOf r).length i) (V:=h.next+1) (h:=h') (K:=K) (by rw [hx1];exact AN r) (by unfold cy;omega) (by omega) (by rw [hx1];exact kI) (by rw [hx1];exact hVl) qV hk
 rw [hVl] at hval
 have hdo:∀ (ts2:List dc) (f2:Bool),(ts2.map cC,f2)=A0 n r j (dL n (varsOf r).length i) (ts'.map cC,fl)→(ts2.map cC,f2)=eU n r j (i+1) (ts.map cC,false):=fun ts2 f2 h2=>by rw [qQ,← hst];exact h2
 have hdoT:A0 n r j (dL n (varsOf r).length i) (ts'.map cC,fl)=if t.bits.getD (gd n r (dL n (varsOf r).length i)) false=true then (ts'.map cC,fl) else if nw n (ez (ts'.map cC)) r (dL n (varsOf r).length i)=true then ((ts'.map cC).set j ⟨t.name,t.k,t.bits.set (gd n r (dL n (varsOf r).length i)) true⟩,true) else (ts'.map cC,fl):=by
  unfold A0
  have:(ts'.map cC)[j]?=some (cC t):=by rw [List.getElem?_map,htj];rfl
  simp only [this]
  rfl
 have adv:∀ (h2:ag) (ts2:List dc) (f2:Bool) (e':Env) (R:Out→ag→Bool),(ts2.map cC,f2)=A0 n r j (dL n (varsOf r).length i) (ts'.map cC,fl)→ts2.map dc.shape=ts.map dc.shape→eA k0 h2 a ts2→h2.get h.next=some (.cells (aM r))→h2.get (h.next+1)=some (.cells ((dL n (varsOf r).length i).map iv)) →
   (∀ b,b<h.next→(∀ t ∈ ts,b≠t.blk)→h2.get b=h.get b)→h.next+2≤h2.next →
   (∀ (h3:ag) (i':Nat),i+1<n ^ (varsOf r).length→h3.get (h.next+1)=some (.cells ((dL n (varsOf r).length (i+1)).map iv))→(∀ b,b≠h.next+1→h3.get b=h2.get b)→h3.next=h2.next→R (.ret (.bool true)) h3=true) →
   (∀ (h3:ag),i+1=n ^ (varsOf r).length→(∀ b,b≠h.next+1→h3.get b=h2.get b)→h3.next=h2.next→R (.ret (.bool false)) h3=true) →
   ah Tryz.prog 76 [.slice (h.next+1) 0 (varsOf r).length 1,.int .i64 (n:Int)] h2 R=true:=fun h2 ts2 f2 e' R _ _ _ _ w1 _ _ hy hn=>an (eL n1 n64 hk hi w1 (fun p h3 a1 a2 a3=>hy h3 0 p a1 a2 a3) fun p h3 a2 a3=>hn h3 p a2 a3)
 have keepT:∀ {h2 h3:ag} {ts2:List dc},ts2.map dc.shape=ts.map dc.shape→eA k0 h2 a ts2→(∀ b,b≠h.next+1→h3.get b=h2.get b)→h3.next=h2.next→eA k0 h3 a ts2:=fun {h2 h3 ts2} hs2 hA2 hb hn=>by
  have hne:∀ q ∈ ts2,q.blk≠h.next+1:=fun q hq=>by
   obtain ⟨p,hp,e⟩:=wA hs2 hq
   unfold dc.shape at e
   simp only [Prod.mk.injEq] at e
   have:=(hA.cell p hp).2.1
   omega
  have hbl:∀ b,de a=some b→b≠h.next+1:=fun b e=>by have:=hA.own.lt e;omega
  exact ⟨hA2.own.agree (fun b e=>hb b (hbl b e)) (by omega),fun q hq=>by
   obtain ⟨d1,d2,d3,d4⟩:=hA2.cell q hq
   exact ⟨d1,by omega,d3,by rw [hb _ (hne q hq)];exact d4⟩,hA2.inj⟩
 have fin:∀ (h2 h3:ag) (ts2:List dc) (f2:Bool),(ts2.map cC,f2)=A0 n r j (dL n (varsOf r).length i) (ts'.map cC,fl)→ts2.map dc.shape=ts.map dc.shape→eA k0 h2 a ts2→(∀ b,b<h.next→(∀ t ∈ ts,b≠t.blk)→h2.get b=h.get b)→h.next+2≤h2.next →
   i+1=n ^ (varsOf r).length→(∀ b,b≠h.next+1→h3.get b=h2.get b)→h3.next=h2.next→K (.ret (.bool f2)) h3=true:=fun h2 h3 ts2 f2 hd hs2 hA2 hf2 hn2 hlast hb hn=>by
  have h5:=hdo ts2 f2 hd
  rw [hlast] at h5
  have h6:=hK h3 ts2 (by rw [← h5]) hs2 (keepT hs2 hA2 hb hn) (fun b b1 b2=>by rw [hb b (by omega)];exact hf2 b b1 b2) (by omega)
  rw [← h5] at h6
  exact h6
 rw [F.ew.aO]
 simp only [e1,e2,e3,e4,e9,e10,aU,Nat.reduceAdd,Nat.reduceEqDiff,reduceIte,l4]
 refine an (hval ?_)
 rw [hx1]
 simp only [aU,Nat.reduceAdd,Nat.reduceEqDiff,reduceIte,e3]
 refine an (eZ n1 (x:=some (bM (dL n (varsOf r).length i) (placesOf (varsOf r) r.args.l))) (k:=r.args.l.length) (by show (bM (dL n (varsOf r).length i) (placesOf (varsOf r) r.args.l)).length=_;rw [hvl,hplen]) h12 hpow hin ?_)
 rw [show iL n (Sl.l (some (bM (dL n (varsOf r).length i) (placesOf (varsOf r) r.args.l))))=gd n r (dL n (varsOf r).length i) from rfl]
 simp only [aU,Nat.reduceAdd,Nat.reduceEqDiff,reduceIte,e1,e2,ia,la,jh hrkt,uE c4 hbit]
 cases hb:t.bits.getD (gd n r (dL n (varsOf r).length i)) false with
 |true=>
  rw [hb,if_pos rfl] at hdoT
  simp only [Bool.not_true,aG,e3,e10]
  refine adv h' ts' fl e _ hdoT.symm hsh hA' q0 qV hfr hnx (fun h3 i' hlt a1 a2 a3=>?_) fun h3 hlast a2 a3=>?_
  ·simp only [aU,Nat.reduceAdd,Nat.reduceEqDiff,reduceIte,Bool.not_true,aG]
   refine cD.2 ⟨n ^ (varsOf r).length-(i+1),by omega,rfl,rfl,i+1,ts',fl,rfl,hlt,hdo _ _ hdoT.symm,hsh,keepT hsh hA' a2 a3,by rw [a2 _ (by omega)];exact q0,a1,fun b b1 b2=>by rw [a2 b (by omega)];exact hfr b b1 b2,by show h.next+2≤h3.next;omega,e1,e2,e3,e4,e9,e10,e11⟩
  ·simp only [aU,Nat.reduceAdd,Nat.reduceEqDiff,reduceIte,Bool.not_false,aJ,loopK_ret]
   rw [F.ew.bt]
   simp only [bH,Nat.reduceEqDiff,reduceIte,e11]
   exact fin h' h3 ts' fl hdoT.symm hsh hA' hfr hnx hlast a2 a3
 |false=>
  rw [hb,if_neg (by simp)] at hdoT
  simp only [Bool.not_false,aJ,aU,Nat.reduceAdd,Nat.reduceEqDiff,reduceIte,lr,e1,e3,e9,e10]
  have happ:=fun {K} hk=>yj n1 hf hk hx1 ha hA' (hx.shape hsh) qV (h:=h') (K:=K)
  rw [hVl] at happ
  refine an (happ hk ?_)
  simp only [aU,Nat.reduceAdd,Nat.reduceEqDiff,reduceIte]
  cases hap:nw n (ez (ts'.map cC)) r (dL n (varsOf r).length i) with
  |false=>
   rw [hap,if_neg (by simp)] at hdoT
   simp only [aG,e3,e10]
   refine adv h' ts' fl e _ hdoT.symm hsh hA' q0 qV hfr hnx (fun h3 i' hlt a1 a2 a3=>?_) fun h3 hlast a2 a3=>?_
   ·simp only [aU,Nat.reduceAdd,Nat.reduceEqDiff,reduceIte,Bool.not_true,aG]
    refine cD.2 ⟨n ^ (varsOf r).length-(i+1),by omega,rfl,rfl,i+1,ts',fl,rfl,hlt,hdo _ _ hdoT.symm,hsh,keepT hsh hA' a2 a3,by rw [a2 _ (by omega)];exact q0,a1,fun b b1 b2=>by rw [a2 b (by omega)];exact hfr b b1 b2,by show h.next+2≤h3.next;omega,e1,e2,e3,e4,e9,e10,e11⟩
   ·simp only [aU,Nat.reduceAdd,Nat.reduceEqDiff,reduceIte,Bool.not_false,aJ,loopK_ret]
    rw [F.ew.bt]
    simp only [bH,Nat.reduceEqDiff,reduceIte,e11]
    exact fin h' h3 ts' fl hdoT.symm hsh hA' hfr hnx hlast a2 a3
  |true=>
   rw [hap,if_pos rfl] at hdoT
   have hst1:=uF (v:=true) c4 hrkt
   have hput:=hA'.put htj (gd n r (dL n (varsOf r).length i))
   have hps:(ts'.set j (t.put (gd n r (dL n (varsOf r).length i)))).map dc.shape=ts.map dc.shape:=by rw [IE htj,hsh]
   have hd2:((ts'.set j (t.put (gd n r (dL n (varsOf r).length i)))).map cC,true)=A0 n r j (dL n (varsOf r).length i) (ts'.map cC,fl):=by rw [hdoT,ID];rfl
   have hbk:t.blk<h.next:=by
    obtain ⟨_,d2,_,_⟩:=hA.cell t0 (List.mem_of_getElem? hj)
    rw [hts.2.2.1];exact d2
   simp only [aJ,aU,Nat.reduceAdd,Nat.reduceEqDiff,reduceIte,e1,e2,ia,la,jh hrkt,hst1,e3,e10]
   have w0:(h'.set t.blk (.cells ((t.bits.set (gd n r (dL n (varsOf r).length i)) true).map bv))).get h.next=some (.cells (aM r)):=by rw [ag.aN,if_neg (by omega)];exact q0
   have w1:(h'.set t.blk (.cells ((t.bits.set (gd n r (dL n (varsOf r).length i)) true).map bv))).get (h.next+1)=some (.cells ((dL n (varsOf r).length i).map iv)):=by rw [ag.aN,if_neg (by omega)];exact qV
   have wf:∀ b,b<h.next→(∀ t ∈ ts,b≠t.blk)→(h'.set t.blk (.cells ((t.bits.set (gd n r (dL n (varsOf r).length i)) true).map bv))).get b=h.get b:=fun b b1 b2=>by
    rw [ag.aN,if_neg (by rw [hts.2.2.1];exact b2 t0 (List.mem_of_getElem? hj))];exact hfr b b1 b2
   have wn:(h'.set t.blk (.cells ((t.bits.set (gd n r (dL n (varsOf r).length i)) true).map bv))).next=h'.next:=ag.next_set _ _ _
   generalize (h'.set t.blk (.cells ((t.bits.set (gd n r (dL n (varsOf r).length i)) true).map bv)))=H2 at hput w0 w1 wf wn ⊢
   refine adv H2 _ true e _ hd2 hps hput w0 w1 wf (by omega) (fun h3 i' hlt a1 a2 a3=>?_) fun h3 hlast a2 a3=>?_
   ·simp only [aU,Nat.reduceAdd,Nat.reduceEqDiff,reduceIte,Bool.not_true,aG]
    refine cD.2 ⟨n ^ (varsOf r).length-(i+1),by omega,rfl,rfl,i+1,_,true,rfl,hlt,hdo _ _ hd2,hps,keepT hps hput a2 a3,by rw [a2 _ (by omega)];exact w0,a1,fun b b1 b2=>by rw [a2 b (by omega)];exact wf b b1 b2,by show h.next+2≤h3.next;omega,e1,e2,e3,e4,e9,e10,rfl⟩
   ·simp only [aU,Nat.reduceAdd,Nat.reduceEqDiff,reduceIte,Bool.not_false,aJ,loopK_ret]
    rw [F.ew.bt]
    simp only [bH,Nat.reduceEqDiff,reduceIte]
    exact fin H2 h3 _ true hd2 hps hput wf (by omega) hlast a2 a3
end
end Go.AM
namespace Go.AM
open Go Go.Proofs
noncomputable section
def uX(n:Nat)(F:Lk)(nm:bG)(k i:Nat):List (List Int):=((List.range i).filter (F nm)).map (dL n k)
theorem Cu(n:Nat)(F:Lk)(nm:bG)(k i:Nat):uX n F nm k (i+1)=uX n F nm k i++if F nm i=true then [dL n k i] else []:=by
 unfold uX
 rw [List.range_succ,List.filter_append,List.map_append]
 by_cases h:F nm i=true<;>simp [h]
theorem AP(n:Nat)(F:Lk)(nm:bG)(k i:Nat):(uX n F nm k i).length≤i:=by
 unfold uX
 rw [List.length_map]
 have:=List.length_filter_le (F nm) (List.range i)
 simpa using this
def nx(rs:List aE)(n:Nat)(F:Lk)(nms:List bG):List (bG×Int×List (List Int)):=nms.map fun nm=>(nm,(iK rs nm:Int),uX n F nm (iK rs nm) (n ^ iK rs nm))
def yl(rs:List aE)(s:ej)(e:Int):Prop:=((¬ jN rs∨dP s=false)∧e=1)∨(jN rs∧dP s=true∧((Ix rs s∧e=4)∨(¬ Ix rs s∧Kp rs s∧e=5)))
structure jo (rs:List aE) (s:ej):Prop where
 good:jN rs
 valid:dP s=true
 names:¬ Ix rs s
 sizes:¬ Kp rs s
theorem yL(s:St):eO Tryz.prog s Tryz.f13.results.toList=(match ai (some 2) (s.env 4) s.h,(some [s.env 5]:Option (List AV)) with|some v,some vs=>some (v :: vs)|_,_=>none):=by kernel_rfl
theorem rL{rs:List aE}{m:dJ}(hgo:dG rs []=some m){nm:bG}(h:nm ∈ bC rs):m.find nm=some (iK rs nm:Int)∧∃ r ∈ rs,r.name=nm∧iK rs nm=r.args.l.length:=by
 obtain ⟨r,hr,hrn⟩:=List.mem_map.1 h
 have:=Dv hgo hr
 rw [← hrn]
 refine ⟨?_,r,hr,rfl,this⟩
 rw [this]
 exact (jg hgo _ _).2 (kM hr)
theorem Gz{rs:List aE}{h:ag}{M:Nat}{ks:List bG}{lv:Lev.Lv}(hl:eY (bC rs) h M ks lv)(hks:ks.Nodup):nJ ks=cO rs:=by
 obtain ⟨h1,h2⟩:=De hks
 exact sg h1 (lf rs) fun x=>by rw [h2,hl.mem,dQ]
theorem IG{D:DB}{nm:bG}{p:Nat×List Bool}(hp:D nm=some p){i:Nat}(hi:i<p.2.length):p.2[i]?=some (eG D nm i):=by
 unfold eG;rw [hp]
 simp only
 rw [List.getD_eq_getElem?_getD,List.getElem?_eq_getElem hi];rfl
set_option maxHeartbeats 4000000 in
theorem dh{rules:Sl aE}{s:ej}(hok:∀ r ∈ rules.l,r.ok)(hfew:∀ r ∈ rules.l,r.lB)(hsok:s.ok)(hsm:dP s=true→s.small){h:ag}{K:Out→ag→Bool}
  (herr:∀ e,yl rules.l s e→K (.ret (.tuple [.agg (az ⟨0,none⟩),.int .i64 e])) h=true)
  (hyes:jo rules.l s→∀ out:ej,out.size=s.size→(∃ Fk,mN rules.l s.size.toNat s Fk∧out.rels.l.map cY=s.rels.l.map cY++nx rules.l s.size.toNat Fk (cO rules.l))→K (.ret (.tuple [.agg (az out),.int .i64 0])) h=true) :
  Sem Tryz.prog 13 [aq aM 3 rules,.agg (az s)] h K:=by
 have hm:cX=140737488355328:=rfl
 have gen:∀ R:Out→ag→Bool,(∀ e h',yl rules.l s e→R (.ret (.tuple [.agg (az ⟨0,none⟩),.int .i64 e])) h'=true) →
   (jo rules.l s→∀ h' a (x:Sl Rel) Fk,Fz true h' a (aq aQ 3 x)→mN rules.l s.size.toNat s Fk→x.l.map cY=s.rels.l.map cY++nx rules.l s.size.toNat Fk (cO rules.l)→R (.ret (.tuple [.agg [.int .i64 s.size,a],.int .i64 0])) h'=true) →
   Sem Tryz.prog 13 [aq aM 3 rules,.agg (az s)] ag.empty R:=by
  intro R rerr ryes
  refine F.Bh ?_
  simp only [cU (dR s),bindO_some,bT,ag.next_alloc]
  have g0:((ag.alloc ag.empty (.cells (az s))).alloc (.cells [.int .i64 0,.nils])).get 0=some (.cells (az s)):=by simp [ag.bf,bT]
  have g1:((ag.alloc ag.empty (.cells (az s))).alloc (.cells [.int .i64 0,.nils])).get 1=some (.cells [.int .i64 0,.nils]):=by simp [ag.bf,bT]
  have gn:((ag.alloc ag.empty (.cells (az s))).alloc (.cells [.int .i64 0,.nils])).next=2:=rfl
  generalize ((ag.alloc ag.empty (.cells (az s))).alloc (.cells [.int .i64 0,.nils]))=H0 at g0 g1 gn ⊢
  have l0:ai (some 2) (.ptr 0 0) H0=some (.agg (az s)):=by rw [ak g0,dU (cs:=az s) (n:=2) rfl]
  have hz:gw [.int .i64 0,.nils] [] []=some (.agg [.int .i64 0,.nils]):=rfl
  have bad:∀ (e:Int) (h':ag) (v:AV) (en:Env),e≠0→yl rules.l s e→(∀ b,b<2→h'.get b=H0.get b)→en 4 = .ptr 1 0→en 5 = .int .i64 e →
    (af (gw [.int .i64 0,.nils] [] []) fun x10=>af (bp 2 (.ptr 1 0) x10 h') fun h11=>af (match ai (some 2) (en 4) h11,(some [en 5]:Option (List AV)) with|some v,some vs=>some (v :: vs)|_,_=>none) fun vs=>R (.ret (oneOf vs)) h11)=true:=by
   intro e h' v en he hb hf e4 e5
   have q1:h'.get 1=some (.cells [.int .i64 0,.nils]):=by rw [hf 1 (by omega)];exact g1
   have st:bp 2 (.ptr 1 0) (.agg [.int .i64 0,.nils]) h'=some (h'.set 1 (.cells [.int .i64 0,.nils])):=by
    rw [cT (n:=2) (v:=.agg [.int .i64 0,.nils]) q1 rfl rfl (by simp)];rfl
   have lo2:ai (some 2) (.ptr 1 0) (h'.set 1 (.cells [.int .i64 0,.nils]))=some (.agg [.int .i64 0,.nils]):=by rw [ak (cs:=[.int .i64 0,.nils]) (by rw [ag.aN,if_pos rfl])];rfl
   simp only [hz,bindO_some,st,e4,e5,lo2,oneOf]
   exact rerr e _ hb
  simp only [l0,bindO_some]
  refine an (ay hok hfew hsok (fun hb h' hf=>?_) (fun a1 a2 a3 h' hf=>?_) (fun a1 a2 a3 a4 h' hf=>?_) fun a1 a2 a3 a4 h' n P A M S B lo ks k D0 m hn n1 n64 hst sh sd hf hA2=>?_)
  ·simp only [aU,Nat.reduceAdd,Nat.reduceEqDiff,reduceIte,cQ]
   simp only [show (!decide ((1:Int)=0))=true from rfl,aJ,yL]
   exact bad 1 h' .nilp _ (by omega) (.inl ⟨hb,rfl⟩) (by rw [← gn];exact hf) rfl rfl
  ·simp only [aU,Nat.reduceAdd,Nat.reduceEqDiff,reduceIte,cQ]
   simp only [show (!decide ((4:Int)=0))=true from rfl,aJ,yL]
   exact bad 4 h' .nilp _ (by omega) (.inr ⟨a1,a2,.inl ⟨a3,rfl⟩⟩) (by rw [← gn];exact hf) rfl rfl
  ·simp only [aU,Nat.reduceAdd,Nat.reduceEqDiff,reduceIte,cQ]
   simp only [show (!decide ((5:Int)=0))=true from rfl,aJ,yL]
   exact bad 5 h' .nilp _ (by omega) (.inr ⟨a1,a2,.inr ⟨a3,a4,rfl⟩⟩) (by rw [← gn];exact hf) rfl rfl
  have hnn:s.size.toNat=n:=by omega
  have hsml:=hsm a2
  obtain ⟨_,_,_,_,h8⟩:=nR a2
  specialize ryes ⟨a1,a2,a3,a4⟩
  rw [hnn] at ryes
  clear rerr bad
  simp only [aU,Nat.reduceAdd,Nat.reduceEqDiff,reduceIte,cQ]
  simp only [decide_true,Bool.not_true,aG]
  refine an (Gw hfew a1 a2 a3 a4 hn n1 n64 hst sh sd (fun _ _ _ _ _ _ _ _ _ hk=>J9 hk) fun h3 D' Fk hF hDF hdim sh3 keep3 hn3=>?_)
  obtain ⟨hP,hl,hks,hgo,⟨es,ck,hA,hmB⟩,hS,hD,o1,o2,o3,o4,o5,o6⟩:=sh3
  rw [gn] at hA2
  have p0:h3.get 0=some (.cells (az s)):=by rw [keep3 0 (by omega),hf 0 (by omega)];exact g0
  have p1:h3.get 1=some (.cells [.int .i64 0,.nils]):=by rw [keep3 1 (by omega),hf 1 (by omega)];exact g1
  have l3:ai (some 2) (.ptr 0 0) h3=some (.agg (az s)):=by rw [ak p0,dU (cs:=az s) (n:=2) rfl]
  simp only [aU,Nat.reduceAdd,Nat.reduceEqDiff,reduceIte,l3]
  refine an (cN hsml fun a h4 l x4 o4' hl4=>?_)
  obtain ⟨ho1,ho2⟩:=kV o4'.own
  have one2:bN [.int .i64 s.size,a]=true:=by simp only [bN,Bool.and_true] at ho1 ⊢;rw [ho1];rfl
  obtain ⟨H5,hs5,p5,po5,pn5⟩:=cP (h:=h4) (zs:=[.int .i64 0,.nils]) (cs:=[.int .i64 s.size,a]) (n:=2) rfl rfl one2
  have x5:bJ h4 H5:=⟨by omega,fun b hb=>po5 b (by omega)⟩
  have x35:bJ h3 H5:=x4.trans x5
  have hn4:=x4.next
  have hP5:H5.get P=some (.cells [aq aM 3 rules,.map A,.map M]):=by rw [x35.get _ (by omega)];exact hP
  simp only [aU,Nat.reduceAdd,Nat.reduceEqDiff,reduceIte,hs5,bX,ak hP5]
  refine an (keys_map ?_)
  simp only [aU,Nat.reduceAdd,Nat.reduceEqDiff,reduceIte]
  have gB:(H5.alloc (.box (.map M))).get H5.next=some (.box (.map M)):=aB _ _
  have xB:bJ H5 (H5.alloc (.box (.map M))):=bJ.alloc _ _
  generalize (H5.alloc (.box (.map M)))=H6 at gB xB ⊢
  have hgok:=fZ hgo
  have l5:eY (bC rules.l) H6 M ks (Lev.iter (bO rules.l) k):=hl.keep ((x35.trans xB).get M (by omega))
  obtain ⟨es2,ck2,gM,hents,hkb,hel⟩:=l5.Rh hks fun s hs=>by
   obtain ⟨r,hr,rfl⟩:=List.mem_map.1 ((l5.mem s).1 hs)
   have:=EA (tg (hgok r hr).1)
   omega
  have hk60:=Hp hl hks
  have hd60:=j9 rules.l
  have hr60:=a1.lB
  refine an (FZ gB gM hents (by omega) fun av h7 x7 oa=>?_)
  rw [hkb,Gz hl hks] at oa
  have hb7:=x7.next
  have hb6:=xB.next
  have x47:bJ h4 h7:=(x5.trans xB).trans x7
  have oo:=o4'.Rk x47 (Y:=fun b=>b=h4.next) (fun b hb=>by omega)
  have q5:h7.get h4.next=some (.cells [.int .i64 s.size,a]):=by rw [(xB.trans x7).get _ (by omega)];exact p5
  have x37:bJ h3 h7:=x4.trans x47
  simp only [aU,Nat.reduceAdd,Nat.reduceEqDiff,reduceIte,oa.len]
  have hdl:(cO rules.l).length≤cy:=by unfold cy;omega
  have hll:l.length≤8:=by have:=congrArg List.length hl4;rw [List.length_map,List.length_map] at this;omega
  refine aC 0 (cO rules.l).length (Nat.zero_le _) (fun i e h'=>∃ a l,h'.get h4.next=some (.cells [.int .i64 s.size,a])∧E5 (fun b=>b=h4.next) h3.next h' a l∧(l.map fun p=>cY p.2)=s.rels.l.map cY++nx rules.l n Fk ((cO rules.l).take i)∧l.length≤8+i∧(∀ b,b<h3.next→h'.get b=h3.get b)∧Own encS 1 H6.next h' av (cO rules.l)∧(∀ b,de av=some b→de a≠some b)∧h7.next≤h'.next ∧
   e 3 = .ptr 0 0∧e 4 = .ptr 1 0∧e 6 = .ptr P 0∧e 7 = .ptr S 0∧e 9 = .ptr h4.next 0∧e 38=av∧e 39 = .int .i64 ((cO rules.l).length:Int)∧e 40 = .int .i64 (i:Int))
   ⟨a,l,q5,oo,by rw [hl4];simp [nx],by omega,fun b hb=>x37.get b hb,oa,fun b hb hb'=>by have:=oa.ge hb;have:=o4'.own.lt hb';have:=x5.next;omega,Nat.le_refl _,rfl,rfl,rfl,rfl,rfl,rfl,rfl,rfl⟩ ?_ ?_
  ·rintro i e h' _ hi ⟨a,l,q5,o,hl5,hlen,hfr,oa',sepA,hnx,e3,e4,e6,e7,e9,e38,e39,e40⟩ K' hnn' hx hr hp
   have hv:(cO rules.l)[i]?=some (cO rules.l)[i]:=List.getElem?_eq_getElem hi
   generalize (cO rules.l)[i]=nm at hv
   have hnm:nm ∈ bC rules.l:=(dQ _).1 (List.mem_of_getElem? hv)
   obtain ⟨hfa,r,hrm,hrn,har⟩:=rL hgo hnm
   obtain ⟨hpow,p0',hp0,hp0l⟩:=mO hn a4 sd hrm
   rw [hrn] at hp0
   obtain ⟨p,hpD,_,hpl⟩:=hdim.get hp0
   rw [hp0l,← har] at hpl
   rw [← har] at hpow
   have hk12:iK rules.l nm≤12:=by rw [har];exact jQ (hgok r hrm).1
   obtain ⟨_,hpn,_,hprow⟩:=hD.blk nm p hpD
   obtain ⟨q,_,i1,i2⟩:=qv oa' hv
   have pP:h'.get P=some (.cells [aq aM 3 rules,.map A,.map M]):=by rw [hfr _ (by omega)];exact hP
   have pA:h'.get A=some (.map es ck):=by rw [hfr _ (by omega)];exact hA
   have hlk:dz .string (.int .i64 0) false (.map A) (.str nm) h'=some (.int .i64 (iK rules.l nm:Int)):=by rw [qy pA hmB.1,hfa];rfl
   have hag:gw [.str [],.int .i64 0,.nils] [(0,1),(1,1)] [.str nm,.int .i64 (iK rules.l nm:Int)]=some (.agg [.str nm,.int .i64 (iK rules.l nm:Int),.nils]):=rfl
   obtain ⟨H8,hs8,p8,po8,pn8⟩:=cP (h:=h') (zs:=[.str [],.int .i64 0,.nils]) (cs:=[.str nm,.int .i64 (iK rules.l nm:Int),.nils]) (n:=3) rfl rfl rfl
   have x8:bJ h' H8:=⟨by omega,fun b hb=>po8 b (by omega)⟩
   have pS:H8.get S=some (.cells [.int .i64 (n:Int),.map B]):=by rw [x8.get _ (by omega),hfr _ (by omega)];exact hS
   have hD8:ec D' H8 B lo:=hD.ext ⟨by omega,fun b hb=>by rw [x8.get _ (by omega),hfr b hb]⟩
   rw [F.dh.aO]
   simp only [e6,e7,e38,e39,e40,aU,Nat.reduceAdd,Nat.reduceEqDiff,reduceIte,bg hi,i1,i2,bX,ak pP,hlk,hag,hs8]
   simp only [aU,Nat.reduceAdd,Nat.reduceEqDiff,reduceIte,bX,ak pS,hD8.look hpD]
   have hrowlen:∀ hh,bz .slice (.slice p.1 0 p.2.length 1) hh=some (.int .i64 (p.2.length:Int)):=fun _=>rfl
   simp only [hrowlen,bindO_some]
   have hbp:p.2.length≤cy:=by rw [hpl];unfold cy;omega
   refine aC 0 p.2.length (Nat.zero_le _) (fun j e h2=>∃ tv ts,h2.get h'.next=some (.cells [.str nm,.int .i64 (iK rules.l nm:Int),tv])∧Own eN 1 (h'.next+1) h2 tv ts∧ts.map Sl.l=uX n Fk nm (iK rules.l nm) j∧bJ h' h2∧h'.next+1≤h2.next ∧
    e 3 = .ptr 0 0∧e 4 = .ptr 1 0∧e 6 = .ptr P 0∧e 7 = .ptr S 0∧e 9 = .ptr h4.next 0∧e 38=av∧e 39 = .int .i64 ((cO rules.l).length:Int)∧e 40 = .int .i64 (i:Int)∧e 12 = .ptr h'.next 0∧e 57 = .slice p.1 0 p.2.length 1∧e 58 = .int .i64 (p.2.length:Int)∧e 59 = .int .i64 (j:Int))
    ⟨_,[],p8,.nil,rfl,x8,by omega,e3,e4,e6,e7,e9,e38,e39,e40,rfl,rfl,rfl,rfl⟩ ?_ ?_
   ·rintro j e h2 _ hj ⟨tv,ts,q6,ot,hts,x2,qn2,e3,e4,e6,e7,e9,e38,e39,e40,e12,e57,e58,e59⟩ K2 hnn2 hx2 hr2 hp2
    have htsl:ts.length≤j:=by have:=congrArg List.length hts;rw [List.length_map] at this;have:=AP n Fk nm (iK rules.l nm) j;omega
    have hrow2:h2.get p.1=some (.cells (p.2.map bv)):=by rw [x2.get _ (by omega),hfr _ hpn];exact hprow
    have hbit:=IG hpD hj
    rw [hDF] at hbit
    have hsuc:=Cu n Fk nm (iK rules.l nm) j
    rw [F.dh.dx]
    simp only [e57,e58,e59,aU,Nat.reduceAdd,Nat.reduceEqDiff,reduceIte,bg hj,jh hj,uE hrow2 hbit]
    cases hFb:Fk nm j with
    |false=>
     rw [hFb,if_neg (by simp),List.append_nil] at hsuc
     simp only [aG,e59,aI hj hbp,bindO_some]
     exact hnn2 _ _ ⟨tv,ts,q6,ot,by rw [hsuc];exact hts,x2,qn2,e3,e4,e6,e7,e9,e38,e39,e40,e12,e57,e58,rfl⟩
    |true=>
     rw [hFb,if_pos rfl] at hsuc
     have w0:h2.get 0=some (.cells (az s)):=by rw [x2.get _ (by omega),hfr 0 (by omega)];exact p0
     have lz:ai none (.ptr 0 0) h2=some (.int .i64 (n:Int)):=by rw [ak w0,← hn];rfl
     have la:ai none (.ptr h'.next 1) h2=some (.int .i64 (iK rules.l nm:Int)):=by rw [ak q6];rfl
     have lt:ai none (.ptr h'.next 2) h2=some tv:=by rw [ak q6];rfl
     simp only [aJ,e3,e12,e59,aU,Nat.reduceAdd,Nat.reduceEqDiff,reduceIte,lz,la]
     refine an (fo n1 n64 hk12 hpow (by rw [← hpl];exact hj) fun t ht=>?_)
     obtain ⟨a9,h9,c9,o9,f9,n9,w9,b9⟩:=ot.push uD AJ qn2 (bytes:=24) (by rw [hm];omega) t
     have hne:de tv≠some h'.next:=fun hb=>by have:=ot.ge hb;omega
     have s6:h9.get h'.next=some (.cells [.str nm,.int .i64 (iK rules.l nm:Int),tv]):=by rw [f9 _ (by omega) hne];exact q6
     have c6:=o9.oO
     have st:bp 1 (.ptr h'.next 2) a9 h9=some (h9.set h'.next (.cells [.str nm,.int .i64 (iK rules.l nm:Int),a9])):=by
      rw [cT (n:=1) s6 c6.2.1 c6.1 (by simp),c6.2.2];rfl
     simp only [aU,Nat.reduceAdd,Nat.reduceEqDiff,reduceIte,e12,lt,J7,c9,st,e59,aI hj hbp]
     refine hnn2 _ _ ⟨a9,ts++[t],by rw [ag.aN,if_pos rfl],o9.nr (by omega) _,?_,(w9 h' x2 (by omega)).set (Nat.le_refl _) _,by rw [ag.next_set];omega,e3,e4,e6,e7,e9,e38,e39,e40,e12,e57,e58,rfl⟩
     rw [List.map_append,hts,hsuc]
     simp [ht]
   ·rintro e h2 ⟨tv,ts,q6,ot,hts,x2,qn2,e3,e4,e6,e7,e9,e38,e39,e40,e12,e57,e58,e59⟩ K2 hx2
    have oe:=o.ext x2
    obtain ⟨hv1,hv2⟩:=kV ot
    have lq:ai (some 3) (.ptr h'.next 0) h2=some (.agg (gE (nm,(iK rules.l nm:Int),⟨tv,hv1,hv2⟩))):=by rw [ak q6];rfl
    have q52:h2.get h4.next=some (.cells [.int .i64 s.size,a]):=by rw [x2.get _ (by omega)];exact q5
    have lo:ai none (.ptr h4.next 1) h2=some a:=by rw [ak q52];rfl
    obtain ⟨x,hx1,hx3⟩:=(iJ.Gt ot l9).data
    have hxl:x.l=ts:=by rw [hx1,List.map_map];simp [Function.comp_def]
    obtain ⟨a9,h9,c9,o9,f9,n9,w9,b9⟩:=oe.push jR wv (by omega) (bytes:=48) (by rw [hm];omega) (nm,(iK rules.l nm:Int),⟨tv,hv1,hv2⟩) ⟨nm,(iK rules.l nm:Int),x⟩ (fun b hb=>by omega)
     (fun g hg=>Gs (hx3 g fun b b1 b2 _=>hg b (by omega) b2 (by omega) (fun hb=>by have:=o.own.lt hb;omega)))
    have hne:de a≠some h4.next:=fun hb=>oe.av _ hb rfl
    have s5:h9.get h4.next=some (.cells [.int .i64 s.size,a]):=by rw [f9 _ (by omega) hne];exact q52
    have c6:=o9.own.oO
    have st:bp 1 (.ptr h4.next 1) a9 h9=some (h9.set h4.next (.cells [.int .i64 s.size,a9])):=by
     rw [cT (n:=1) s5 c6.2.1 c6.1 (by simp),c6.2.2];rfl
    rw [F.dh.dx]
    simp only [e58,e59,aU,Nat.reduceAdd,Nat.reduceEqDiff,reduceIte,aR]
    rw [hx2,F.dh.cw]
    simp only [aU,Nat.reduceAdd,Nat.reduceEqDiff,reduceIte,e9,e12,e40,lo,lq,J6,c9,st,aI hi hdl]
    refine hnn' _ _ ⟨a9,_,by rw [ag.aN,if_pos rfl],o9.Rj rfl _,?_,by simp;omega,fun b hb=>?_,?_,fun b hb hb'=>by have:=oa'.lt hb;have:=b9 b hb';omega,by rw [ag.next_set];omega,e3,e4,e6,e7,e9,e38,e39,rfl⟩
    ·rw [List.map_append,hl5,List.take_add_one,hv]
     unfold nx
     rw [List.map_append,← List.append_assoc]
     simp only [Option.toList_some,List.map_cons,List.map_nil,cY,hxl,hts,hpl]
    ·rw [ag.aN,if_neg (by omega),f9 b (by omega) (fun hb'=>by have:=oe.own.ge hb';omega),x2.get b (by omega)]
     exact hfr b hb
    ·have hane:∀ b,de av=some b→(h9.set h4.next (.cells [.int .i64 s.size,a9])).get b=h'.get b:=fun b hb=>by
      have b1:=oa'.ge hb
      have b2:=oa'.lt hb
      rw [ag.aN,if_neg (by omega),f9 b (by omega) ?_,x2.get b b2]
      intro hb'
      exact sepA b hb hb'
     exact oa'.agree hane (by rw [ag.next_set];omega)
  ·rintro e h' ⟨a,l,q5,o,hl5,hlen,hfr,oa',sepA,hnx,e3,e4,e6,e7,e9,e38,e39,e40⟩ K' hx
   rw [List.take_of_length_le (Nat.le_refl _)] at hl5
   obtain ⟨ho1,ho2⟩:=kV o.own
   have one3:bN [.int .i64 s.size,a]=true:=by simp only [bN,Bool.and_true] at ho1 ⊢;rw [ho1];rfl
   have q1:h'.get 1=some (.cells [.int .i64 0,.nils]):=by rw [hfr 1 (by omega)];exact p1
   have lo:ai (some 2) (.ptr h4.next 0) h'=some (.agg [.int .i64 s.size,a]):=by rw [ak q5];rfl
   have st:bp 2 (.ptr 1 0) (.agg [.int .i64 s.size,a]) h'=some (h'.set 1 (.cells [.int .i64 s.size,a])):=by
    rw [cT (n:=2) (v:=.agg [.int .i64 s.size,a]) q1 rfl one3 (by simp)];rfl
   have lo2:ai (some 2) (.ptr 1 0) (h'.set 1 (.cells [.int .i64 s.size,a]))=some (.agg [.int .i64 s.size,a]):=by rw [ak (cs:=[.int .i64 s.size,a]) (by rw [ag.aN,if_pos rfl])];rfl
   rw [F.dh.aO]
   simp only [e39,e40,aU,Nat.reduceAdd,Nat.reduceEqDiff,reduceIte,aR]
   rw [hx,F.dh.aD]
   simp only [bH,Nat.reduceEqDiff,reduceIte,e4,e9,lo,st,bindO_some,yL,lo2,oneOf]
   obtain ⟨x,hx1,hx2⟩:=(o.low (d:=1) (by omega) (.cells [.int .i64 s.size,a])).fz
   exact ryes _ a x Fk hx2 hF (by rw [hx1,List.map_map];exact hl5)
 have main:=gen (fun o h'=>yes ((∃ e,yl rules.l s e∧o = .ret (.tuple [.agg (az ⟨0,none⟩),.int .i64 e]))∨(jo rules.l s∧∃ (a:AV) (x:Sl Rel) (Fk:Lk),o = .ret (.tuple [.agg [.int .i64 s.size,a],.int .i64 0])∧Fz true h' a (aq aQ 3 x)∧mN rules.l s.size.toNat s Fk∧x.l.map cY=s.rels.l.map cY++nx rules.l s.size.toNat Fk (cO rules.l))))
  (fun e h' he=>cD.2 (.inl ⟨e,he,rfl⟩)) (fun hr h' a x Fk hf hF hx=>cD.2 (.inr ⟨hr,a,x,Fk,rfl,hf,hF,hx⟩))
 refine main.frozen (by simp [AV.pureL,AV.pure,b8 eM,fU]) fun o h' ho=>?_
 rcases cD.1 ho with ⟨e,he,rfl⟩|⟨hr,a,x,Fk,rfl,hf,hF,hx⟩
 ·exact ⟨_,_,rfl,.dS (by rfl),herr e he⟩
 ·have f1:=jB.cons (.scalar (.int .i64 s.size) rfl) (jB.cons hf jB.nil)
  have f2:=jB.cons (Fz.agg _ _ f1.len f1.rel) (jB.cons (.scalar (.int .i64 0) rfl) jB.nil)
  exact ⟨_,_,rfl,.tuple _ _ f2.len f2.rel,hyes hr ⟨s.size,x⟩ rfl ⟨Fk,hF,hx⟩⟩
end
end Go.AM
namespace Go.AM
open Go Go.Proofs
noncomputable section
theorem BF{x:Sl bG}{s:bG}(hl:x.l.length≤cy){h:ag}{K:Out→ag→Bool}(hK:K (.ret (.bool (x.l.any fun x=>x==s))) h=true):Sem Tryz.prog 73 [aq encS 1 x,.str s] h K:=by
 refine F.oZ ?_
 refine aC 0 x.l.length (Nat.zero_le _) (fun i e h'=>h'=h∧e 0=aq encS 1 x∧e 1 = .str s∧e 5 = .int .i64 (i:Int)∧((x.l.take i).any fun x=>x==s)=false) ⟨rfl,rfl,rfl,rfl,rfl⟩ ?_ ?_
 ·rintro i e h' _ hi ⟨rfl,e0,e1,e5,ht⟩ K' hn hx hr hp
  have hv:x.l[i]?=some x.l[i]:=List.getElem?_eq_getElem hi
  generalize x.l[i]=t at hv
  rw [F.cR.aO]
  simp only [e0,e1,e5,aU,Nat.reduceAdd,Nat.reduceEqDiff,reduceIte,bg hi,aW x hi,gO hv]
  cases hq:(t==s) with
  |true=>
   simp only [aJ]
   rw [hr,F.cR.bt]
   have:(x.l.any fun x=>x==s)=true:=List.any_eq_true.2 ⟨t,List.mem_of_getElem? hv,hq⟩
   rw [this] at hK
   simp only [bH,Nat.reduceEqDiff,reduceIte]
   exact hK
  |false=>
   simp only [aG,e5,aI hi hl,bindO_some]
   exact hn _ _ ⟨rfl,e0,e1,rfl,uB hv ht hq⟩
 ·rintro e h' ⟨rfl,e0,e1,e5,ht⟩ K' hx
  rw [List.take_of_length_le (Nat.le_refl _)] at ht
  rw [F.cR.aO]
  simp only [e0,e5,aU,Nat.reduceAdd,Nat.reduceEqDiff,reduceIte,aR]
  rw [hx,F.cR.aD]
  rw [ht] at hK
  exact hK
theorem Kc(y:bG×Int):bN (lG y)=true:=rfl
def Kq(l:List (bG×Int))(x:bG):Int:=match l.find? (fun p=>p.1==x) with|some p=>p.2|none=>-1
theorem wB{rs:List aE}(h60:rs.length≤60)(h20:∀ r ∈ rs,r.body.l.length≤20):(cA rs).length≤1260:=by
 have:∀ rs:List aE,(∀ r ∈ rs,r.body.l.length≤20)→(cA rs).length≤rs.length*21:=by
  intro rs
  induction rs with
  |nil=>intro _;simp [cA]
  |cons r rs ih=>
   intro h
   have h1:=ih fun q hq=>h q (List.mem_cons_of_mem _ hq)
   have h2:=h r List.mem_cons_self
   have h3:=nt r.body.l
   unfold cA at h1 ⊢
   rw [List.flatMap_cons,List.length_append,List.length_cons]
   have:(tq r).length=1+(dW r.body.l).length:=by unfold tq;rw [List.length_cons];omega
   omega
 have:=this rs h20
 omega
theorem dD{rules:Sl aE}(h60:rules.l.length≤60)(h20:∀ r ∈ rules.l,r.body.l.length≤20){s:bG}{h:ag}{K:Out→ag→Bool}(hK:K (.ret (.int .i64 (Kq (cA rules.l) s))) h=true):Sem Tryz.prog 74 [aq aM 3 rules,.str s] h K:=by
 have hal:=wB h60 h20
 refine F.ya ?_
 refine an (cu h60 h20 fun x hx1=>?_)
 simp only [aU,Nat.reduceAdd,Nat.reduceEqDiff,reduceIte]
 have hxb:x.l.length≤cy:=by rw [hx1];unfold cy;omega
 rw [← hx1] at hK
 refine aC 0 x.l.length (Nat.zero_le _) (fun i e h'=>h'=h∧e 1 = .str s∧e 5=aq lG 2 x∧e 6 = .int .i64 (i:Int)∧∀ p ∈ x.l.take i,p.1≠s) ⟨rfl,rfl,rfl,rfl,fun p hp=>(by cases hp)⟩ ?_ ?_
 ·rintro i e h' _ hi ⟨rfl,e1,e5,e6,hno⟩ K' hn hx hr hp
  have hv:x.l[i]?=some x.l[i]:=List.getElem?_eq_getElem hi
  generalize x.l[i]=p at hv
  rw [F.dD.aO]
  simp only [e1,e5,e6,aU,Nat.reduceAdd,Nat.reduceEqDiff,reduceIte,bg hi,aW x hi,EY hv,Gg hv,m6]
  by_cases hq:p.1=s
  ·simp only [decide_eq_true hq,aJ]
   rw [hr,F.dD.bt]
   simp only [bH,Nat.reduceEqDiff,reduceIte]
   have:x.l.find? (fun p=>p.1==s)=some p:=by
    rw [List.find?_eq_some_iff_getElem]
    refine ⟨by simp [hq],i,hi,(List.getElem?_eq_some_iff.1 hv).2,fun j hj=>?_⟩
    have:=hno _ (List.mem_take_iff_getElem.2 ⟨j,by omega,rfl⟩)
    simp [this]
   unfold Kq at hK
   rw [this] at hK
   exact hK
  ·simp only [decide_eq_false hq,aG,e6,aI hi hxb,bindO_some]
   refine hn _ _ ⟨rfl,e1,e5,rfl,fun q hq'=>?_⟩
   rw [List.take_add_one,hv] at hq'
   rcases List.mem_append.1 hq' with hq'|hq'
   ·exact hno q hq'
   ·simp only [Option.toList_some,List.mem_singleton] at hq'
    subst hq';exact hq
 ·rintro e h' ⟨rfl,e1,e5,e6,hno⟩ K' hx
  rw [List.take_of_length_le (Nat.le_refl _)] at hno
  rw [F.dD.aO]
  simp only [e5,e6,aU,Nat.reduceAdd,Nat.reduceEqDiff,reduceIte,aR]
  rw [hx,F.dD.aD]
  have:x.l.find? (fun p=>p.1==s)=none:=by
   rw [List.find?_eq_none]
   intro q hq;simp [hno q hq]
  unfold Kq at hK
  rw [this] at hK
  exact hK
theorem Dw{rs:List aE}{m:dJ}(hgo:dG rs []=some m){x:bG}{k:Int}(h:(x,k) ∈ cA rs):Kq (cA rs) x=k:=by
 unfold Kq
 cases hf:(cA rs).find? (fun p=>p.1==x) with
 |none=>
  rw [List.find?_eq_none] at hf
  exact absurd (hf _ h) (by simp)
 |some p=>
  have h1:=List.mem_of_find?_eq_some hf
  have h2:=List.find?_some hf
  rw [beq_iff_eq] at h2
  simp only
  exact nc hgo (x:=x) (by rw [← h2];exact h1) h
theorem Ke{rs:List aE}{m:dJ}(hgo:dG rs []=some m){x:bG}(h:x ∈ bC rs):Kq (cA rs) x=(iK rs x:Int):=by
 obtain ⟨r,hr,hrn⟩:=List.mem_map.1 h
 rw [← hrn,Dw hgo (kM hr),Dv hgo hr]
def mP(ds:List bG)(ys:List (bG×Int)):List bG:=ys.foldl (fun o y=>if y.1 ∈ ds then o else eF o y.1) []
theorem E9{ds:List bG}{ys:List (bG×Int)}{i:Nat}{y:bG×Int}(hy:ys[i]?=some y):mP ds (ys.take (i+1))=if y.1 ∈ ds then mP ds (ys.take i) else eF (mP ds (ys.take i)) y.1:=by
 unfold mP;rw [List.take_add_one,hy];simp
theorem AQ{ds:List bG}{x:bG}:∀ {ys:List (bG×Int)},x ∈ mP ds ys↔∃ y ∈ ys,y.1=x∧x ∉ ds:=by
 have key:∀ (ys:List (bG×Int)) (o:List bG),x ∈ ys.foldl (fun o y=>if y.1 ∈ ds then o else eF o y.1) o↔(x ∈ o∨∃ y ∈ ys,y.1=x∧x ∉ ds):=by
  intro ys
  induction ys with
  |nil=>intro o;simp
  |cons y ys ih=>
   intro o
   rw [List.foldl_cons,ih]
   by_cases hd:y.1 ∈ ds
   ·rw [if_pos hd]
    constructor
    ·rintro (h|⟨z,hz,h1,h2⟩)
     ·exact .inl h
     ·exact .inr ⟨z,List.mem_cons_of_mem _ hz,h1,h2⟩
    ·rintro (h|⟨z,hz,h1,h2⟩)
     ·exact .inl h
     ·rcases List.mem_cons.1 hz with rfl|hz
      ·exact absurd (h1▸hd) h2
      ·exact .inr ⟨z,hz,h1,h2⟩
   ·rw [if_neg hd,oK]
    constructor
    ·rintro ((h|h)|⟨z,hz,h1,h2⟩)
     ·exact .inl h
     ·exact .inr ⟨y,List.mem_cons_self,h.symm,by rw [h];exact hd⟩
     ·exact .inr ⟨z,List.mem_cons_of_mem _ hz,h1,h2⟩
    ·rintro (h|⟨z,hz,h1,h2⟩)
     ·exact .inl (.inl h)
     ·rcases List.mem_cons.1 hz with rfl|hz
      ·exact .inl (.inr h1.symm)
      ·exact .inr ⟨z,hz,h1,h2⟩
 intro ys
 unfold mP
 rw [key];simp
theorem tE(ds:List bG):∀ (ys:List (bG×Int)),(mP ds ys).length≤ys.length:=by
 have key:∀ (ys:List (bG×Int)) (o:List bG),(ys.foldl (fun o y=>if y.1 ∈ ds then o else eF o y.1) o).length≤o.length+ys.length:=by
  intro ys
  induction ys with
  |nil=>intro o;simp
  |cons y ys ih=>
   intro o
   rw [List.foldl_cons]
   have h1:=ih (if y.1 ∈ ds then o else eF o y.1)
   have h2:(if y.1 ∈ ds then o else eF o y.1).length≤o.length+1:=by
    split
    ·omega
    ·exact tr o y.1
   rw [List.length_cons];omega
 intro ys
 have:=key ys []
 simpa [mP] using this
def Cv(rs:List aE):List (bG×Int):=(mP (cO rs) (cA rs)).map fun s=>(s,Kq (cA rs) s)
theorem ME{l:List bG}{s:bG}:(l.any fun x=>x==s)=decide (s ∈ l):=by
 rw [Bool.eq_iff_iff,List.any_eq_true,decide_eq_true_iff]
 constructor
 ·rintro ⟨x,hx,e⟩;rw [beq_iff_eq] at e;rw [← e];exact hx
 ·intro h;exact ⟨s,h,by simp⟩
set_option maxHeartbeats 1000000 in
theorem cc{rules:Sl aE}(h60:rules.l.length≤60)(h20:∀ r ∈ rules.l,r.body.l.length≤20){h:ag}{K:Out→ag→Bool}(hK:∀ x:Sl (bG×Int),x.l=Cv rules.l→K (.ret (aq lG 2 x)) h=true):Sem Tryz.prog 53 [aq aM 3 rules] h K:=by
 have hm:cX=140737488355328:=rfl
 have hal:=wB h60 h20
 have hdl:=j9 rules.l
 have main:Sem Tryz.prog 53 [aq aM 3 rules] ag.empty (fun o h'=>yes (∃ v,∃ x:Sl (bG×Int),o = .ret v∧x.l=Cv rules.l∧Fz true h' v (aq lG 2 x))):=by
  refine F.uw ?_
  refine an (cL h60 fun d hd1=>?_)
  simp only [aU,Nat.reduceAdd,Nat.reduceEqDiff,reduceIte]
  refine an (cu h60 h20 fun x hx1=>?_)
  simp only [aU,Nat.reduceAdd,Nat.reduceEqDiff,reduceIte]
  have hxl:x.l.length≤1260:=by rw [hx1];exact hal
  have hxb:x.l.length≤cy:=by unfold cy;omega
  have hdb:d.l.length≤cy:=by rw [hd1];unfold cy;omega
  refine aC 0 x.l.length (Nat.zero_le _) (fun i e h'=>∃ a,Own encS 1 0 h' a (mP (cO rules.l) (x.l.take i))∧e 0=aq aM 3 rules∧e 3=aq encS 1 d∧e 4=a∧e 5=aq lG 2 x∧e 6 = .int .i64 (i:Int)) ⟨.nils,.nil,rfl,rfl,rfl,rfl,rfl⟩ ?_ ?_
  ·rintro i e h' _ hi ⟨a,o,e0,e3,e4,e5,e6⟩ K' hn hx hr hp
   have hv:x.l[i]?=some x.l[i]:=List.getElem?_eq_getElem hi
   generalize x.l[i]=y at hv
   have hst:=E9 (ds:=cO rules.l) hv
   rw [F.cc.aO]
   simp only [e3,e5,e6,aU,Nat.reduceAdd,Nat.reduceEqDiff,reduceIte,bg hi,aW x hi,EY hv]
   refine an (BF hdb ?_)
   rw [ME,hd1]
   simp only [aU,Nat.reduceAdd,Nat.reduceEqDiff,reduceIte]
   by_cases hdm:y.1 ∈ cO rules.l
   ·rw [if_pos hdm] at hst
    simp only [decide_eq_true hdm,Bool.not_true,aG,e6,aI hi hxb,bindO_some]
    exact hn _ _ ⟨a,by rw [hst];exact o,e0,e3,e4,e5,rfl⟩
   ·rw [if_neg hdm] at hst
    simp only [decide_eq_false hdm,Bool.not_false,aJ,e4,e5,e6,aU,Nat.reduceAdd,Nat.reduceEqDiff,reduceIte,aW x hi,EY hv]
    refine an (dF o (Nat.zero_le _) (by have h1:=tE (cO rules.l) (x.l.take i);have h2:=List.length_take_le i x.l;omega) fun a1 h1 x1 o1=>?_)
    simp only [aU,Nat.reduceAdd,Nat.reduceEqDiff,reduceIte,e6,aI hi hxb]
    exact hn _ _ ⟨a1,by rw [hst];exact o1,e0,e3,rfl,e5,rfl⟩
  ·rintro e h' ⟨a,o,e0,e3,e4,e5,e6⟩ K' hx
   rw [List.take_of_length_le (Nat.le_refl _),hx1] at o
   have hol:=tE (cO rules.l) (cA rules.l)
   have hos:∃ os,os=mP (cO rules.l) (cA rules.l):=⟨_,rfl⟩
   obtain ⟨os,hos⟩:=hos
   rw [← hos] at o hol
   have hob:os.length≤cy:=by unfold cy;omega
   rw [F.cc.aO]
   simp only [e5,e6,aU,Nat.reduceAdd,Nat.reduceEqDiff,reduceIte,aR]
   rw [hx,F.cc.aD]
   refine aC 0 os.length (Nat.zero_le _) (fun i e h2=>∃ b,(∀ c,de a=some c→h2.get c=h'.get c)∧h'.next≤h2.next∧Own lG 2 h'.next h2 b ((os.take i).map fun s=>(s,Kq (cA rules.l) s))∧e 0=aq aM 3 rules∧e 4=a∧e 7=b∧e 8 = .int .i64 (i:Int))
    ⟨.nils,fun _ _=>rfl,Nat.le_refl _,.nil,e0,e4,rfl,rfl⟩ ?_ ?_
   ·rintro i e h2 _ hi ⟨b,hfr,hnx,ob,e0,e4,e7,e8⟩ K2 hn2 hx2 hr2 hp2
    have hv:os[i]?=some os[i]:=List.getElem?_eq_getElem hi
    generalize os[i]=s at hv
    have o2:=o.agree hfr hnx
    obtain ⟨q,_,i1,i2⟩:=qv o2 hv
    obtain ⟨a5,h5,p5,o5,f5,n5,x5,b5⟩:=ob.push mE Kc hnx (bytes:=24) (by rw [hm,List.length_map,List.length_take];omega) (s,Kq (cA rules.l) s)
    rw [F.cc.dx]
    simp only [e0,e4,e7,e8,o2.len,aU,Nat.reduceAdd,Nat.reduceEqDiff,reduceIte,bg hi,i1,i2]
    refine an (dD h60 h20 ?_)
    simp only [aU,Nat.reduceAdd,Nat.reduceEqDiff,reduceIte,i2,AV.beq_refl,Bool.and_self,if_true,Jy,Jz,p5,e8,aI hi hob]
    refine hn2 _ _ ⟨a5,fun c hc=>by rw [f5 c (by have:=o.lt hc;omega) (fun hb=>by have:=ob.ge hb;have:=o.lt hc;omega)];exact hfr c hc,by omega,?_,e0,e4,rfl,rfl⟩
    rw [List.take_add_one,hv,List.map_append];exact o5
   ·rintro e h2 ⟨b,hfr,hnx,ob,e0,e4,e7,e8⟩ K2 hx2
    rw [List.take_of_length_le (Nat.le_refl _)] at ob
    have o2:=o.agree hfr hnx
    rw [F.cc.dx]
    simp only [e4,e8,o2.len,aU,Nat.reduceAdd,Nat.reduceEqDiff,reduceIte,aR]
    rw [hx2,F.cc.cw]
    simp only [bH,Nat.reduceEqDiff,reduceIte,e7]
    obtain ⟨y,hy1,hy2⟩:=ob.FX (fun v y hy=>by
     simp only [lG,List.mem_cons,List.not_mem_nil,or_false] at hy
     rcases hy with rfl|rfl<;>exact .scalar _ rfl)
    exact cD.2 ⟨b,y,rfl,by rw [hy1,hos];rfl,hy2⟩
 refine main.frozen (by simp [AV.pureL,b8 eM]) fun o h' ho=>?_
 obtain ⟨v,x,rfl,hx,hf⟩:=cD.1 ho
 exact ⟨v,_,rfl,hf,hK x hx⟩
theorem Fa{rs:List aE}{m:dJ}{s:ej}(hgo:dG rs []=some m)(hsv:dP s=true):(Cv rs).all (yh s)=true↔¬ ∃ p ∈ cA rs,p.1 ∉ bC rs∧s.rels.l.find? (lI p.1 p.2)=none:=by
 rw [List.all_eq_true]
 constructor
 ·rintro h ⟨p,hp,hd,hf⟩
  have hin:(p.1,Kq (cA rs) p.1) ∈ Cv rs:=List.mem_map.2 ⟨p.1,AQ.2 ⟨p,hp,rfl,fun hd'=>hd ((dQ rs).1 hd')⟩,rfl⟩
  have h1:=h _ hin
  rw [Dw hgo (show (p.1,p.2) ∈ cA rs from hp),EU hsv,hf] at h1
  cases h1
 ·intro h y hy
  obtain ⟨x,hx,rfl⟩:=List.mem_map.1 hy
  obtain ⟨p,hp,rfl,hd⟩:=AQ.1 hx
  rw [Dw hgo (show (p.1,p.2) ∈ cA rs from hp),EU hsv]
  cases hf:s.rels.l.find? (lI p.1 p.2) with
  |some _=>rfl
  |none=>exact absurd ⟨p,hp,fun hd'=>hd ((dQ rs).2 hd'),hf⟩ h
end
end Go.AM
namespace Go.AM
open Go Go.Proofs
noncomputable section
theorem xu:∀ {a b c:List Int},gQ a b=true→gQ b c=true→gQ a c=true
 |x :: a,y :: b,z :: c,h1,h2=>by
  rw [gQ] at h1 h2 ⊢
  by_cases e1:x=y
  ·rw [if_pos e1] at h1
   subst e1
   by_cases e2:x=z
   ·rw [if_pos e2] at h2 ⊢;exact xu h1 h2
   ·rw [if_neg e2] at h2 ⊢;exact h2
  ·rw [if_neg e1] at h1
   have q1:=of_decide_eq_true h1
   by_cases e2:y=z
   ·subst e2;rw [if_neg e1];exact h1
   ·rw [if_neg e2] at h2
    have q2:=of_decide_eq_true h2
    rw [if_neg (by omega)];exact decide_eq_true (by omega)
 |[],_,_,h1,_=>by simp [gQ] at h1
 |_ :: _,[],_,h1,_=>by simp [gQ] at h1
 |_ :: _,_ :: _,[],_,h2=>by simp [gQ] at h2
def Hq(l:List (List Int)):Prop:=l.Pairwise fun a b=>gQ a b=true
def NL(n k:Nat)(l:List (List Int)):Prop:=(∀ t ∈ l,t.length=k∧ir n t=true)∧Hq l
theorem AR:∀ {l:List (List Int)},(∀ i a b,l[i]?=some a→l[i+1]?=some b→gQ a b=true)→Hq l
 |[],_=>.nil
 |x :: l,h=>by
  have ih:Hq l:=AR fun i a b ha hb=>h (i+1) a b (by simpa using ha) (by simpa using hb)
  refine List.pairwise_cons.2 ⟨fun y hy=>?_,ih⟩
  cases l with
  |nil=>cases hy
  |cons z l=>
   have hz:=h 0 x z rfl rfl
   rcases List.mem_cons.1 hy with rfl|hy
   ·exact hz
   ·exact xu hz ((List.pairwise_cons.1 ih).1 y hy)
theorem AS{l:List (List Int)}(hs:Hq l){i:Nat}{a b:List Int}(ha:l[i]?=some a)(hb:l[i+1]?=some b):gQ a b=true:=by
 obtain ⟨h1,rfl⟩:=List.getElem?_eq_some_iff.1 ha
 obtain ⟨h2,rfl⟩:=List.getElem?_eq_some_iff.1 hb
 exact List.pairwise_iff_getElem.1 hs i (i+1) h1 h2 (Nat.lt_succ_self i)
theorem Fb{n k:Nat}{l:List (Sl Int)}:tj n k l=true↔NL n k (l.map Sl.l):=by
 constructor
 ·intro h
  refine ⟨fun t ht=>?_,AR fun i a b ha hb=>?_⟩
  ·obtain ⟨u,hu,rfl⟩:=List.mem_map.1 ht
   obtain ⟨i,hi⟩:=List.getElem?_of_mem hu
   exact Gk h hi
  ·rw [List.getElem?_map] at ha hb
   obtain ⟨p,hp,rfl⟩:=Option.map_eq_some_iff.1 ha
   obtain ⟨t,ht,rfl⟩:=Option.map_eq_some_iff.1 hb
   have:=uL h (List.getElem?_eq_some_iff.1 ht).1
   unfold j4 at this
   rw [ht] at this
   simp only [hp,Bool.and_eq_true] at this
   exact this.2.2
 ·rintro ⟨h1,h2⟩
  refine mc fun i hi=>?_
  have ht:l[i]?=some l[i]:=List.getElem?_eq_getElem hi
  generalize l[i]=t at ht
  obtain ⟨q1,q2⟩:=h1 t.l (List.mem_map_of_mem (List.mem_of_getElem? ht))
  unfold j4
  rw [ht]
  simp only [q1,q2,decide_true,Bool.true_and]
  cases i with
  |zero=>rfl
  |succ j=>
   have hj:j<l.length:=by omega
   have hp:l[j]?=some l[j]:=List.getElem?_eq_getElem hj
   generalize l[j]=p at hp
   simp only [hp]
   exact AS h2 (i:=j) (by rw [List.getElem?_map,hp];rfl) (by rw [List.getElem?_map,ht];rfl)
theorem MF{n k:Nat}{l:List (List Int)}(h:NL n k l):l.length≤n ^ k:=by
 have key:∀ i a,l[i]?=some a→i≤iL n a:=by
  intro i
  induction i with
  |zero=>intro a _;exact Nat.zero_le _
  |succ i ih=>
   intro b hb
   have hi:i<l.length:=by have:=(List.getElem?_eq_some_iff.1 hb).1;omega
   have ha:l[i]?=some l[i]:=List.getElem?_eq_getElem hi
   generalize l[i]=a at ha
   have:=ih a ha
   obtain ⟨a1,a2⟩:=h.1 a (List.mem_of_getElem? ha)
   obtain ⟨b1,b2⟩:=h.1 b (List.mem_of_getElem? hb)
   have:=Ii (by omega) a2 b2 (AS h.2 ha hb)
   omega
 cases hl:l.length with
 |zero=>exact Nat.zero_le _
 |succ m=>
  have hm:l[m]?=some (l[m]'(by omega)):=List.getElem?_eq_getElem _
  have h1:=key m _ hm
  obtain ⟨a1,a2⟩:=h.1 _ (List.mem_of_getElem? hm)
  have h2:=mH a2
  rw [a1] at h2
  omega
def QX(n:Nat)(d:NB):Prop:=dX d.1=true∧∃ k:Nat,d.2.1=(k:Int)∧k≤12∧n ^ k≤4096∧NL n k d.2.2
theorem AT{n:Nat}{r:Rel}:ki n r=true↔QX n (cY r):=by
 constructor
 ·intro h
  obtain ⟨k,h1,h2,h3,h4⟩:=uQ h
  simp only [ki,Bool.and_eq_true] at h
  exact ⟨h.1,k,h1,h2,h3,Fb.1 h4⟩
 ·rintro ⟨h0,k,h1,h2,h3,h4⟩
  have h1':r.arity=(k:Int):=h1
  have hk:r.arity.toNat=k:=by omega
  simp only [ki,Bool.and_eq_true,decide_eq_true_eq,hk]
  exact ⟨h0,by omega,by omega,h3,Fb.2 h4⟩
structure Fc (size:Int) (ds:List NB):Prop where
 lo:1≤size
 hi:size≤64
 lB:ds.length≤8
 rel:∀ d ∈ ds,QX size.toNat d
 names:(ds.map (·.1)).Nodup
theorem nU{s:ej}:dP s=true↔Fc s.size (s.rels.l.map cY):=by
 constructor
 ·intro h
  have h':=h
  simp only [dP,Bool.and_eq_true,decide_eq_true_eq] at h'
  refine ⟨h'.1,h'.2.1,by simpa using h'.2.2.1,fun d hd=>?_,?_⟩
  ·obtain ⟨r,hr,rfl⟩:=List.mem_map.1 hd
   obtain ⟨i,hi⟩:=List.getElem?_of_mem hr
   exact AT.1 (uO h hi)
  ·have:=oP h
   rw [List.map_map];exact this
 ·rintro ⟨h1,h2,h3,h4,h5⟩
  rw [List.length_map] at h3
  simp only [dP,Bool.and_eq_true,decide_eq_true_eq]
  refine ⟨h1,h2,h3,mc fun i hi=>?_⟩
  have hr:s.rels.l[i]?=some s.rels.l[i]:=List.getElem?_eq_getElem hi
  have hr':=hr
  generalize s.rels.l[i]=r at hr
  rw [mI,hr]
  simp only [Bool.and_eq_true,Bool.not_eq_true']
  refine ⟨AT.2 (h4 _ (List.mem_map_of_mem (List.mem_of_getElem? hr))),?_⟩
  rw [Bool.eq_false_iff]
  intro hany
  obtain ⟨q,hq,hqn⟩:=List.any_eq_true.1 hany
  obtain ⟨j,hj⟩:=List.getElem?_of_mem hq
  have hji:j<i:=by have:=(List.getElem?_eq_some_iff.1 hj).1;rw [List.length_take] at this;omega
  rw [List.getElem?_take_of_lt hji] at hj
  rw [List.map_map,List.Nodup,List.pairwise_iff_getElem] at h5
  have hjl:j<s.rels.l.length:=by omega
  have:=h5 j i (by simpa using hjl) (by simpa using hi) hji
  rw [List.getElem_map,List.getElem_map] at this
  rw [List.getElem?_eq_getElem hjl] at hj
  rw [List.getElem?_eq_getElem hi] at hr
  cases hj;cases hr
  simp only [beq_iff_eq] at hqn
  exact this hqn
theorem jI{s:ej}(h:dP s=true):s.small∧s.ok:=by
 have hp:=nU.1 h
 have len:∀ r ∈ s.rels.l,r.tuples.l.length≤4096∧(∀ t ∈ r.tuples.l,t.l.length≤12)∧r.name.length≤12:=fun r hr=>by
  obtain ⟨h0,k,h1,h2,h3,h4⟩:=hp.rel _ (List.mem_map_of_mem hr)
  have:=MF h4
  simp only [cY,List.length_map] at this
  refine ⟨by omega,fun t ht=>?_,?_⟩
  ·have:=(h4.1 t.l (List.mem_map_of_mem ht)).1;omega
  ·replace h0:dX r.name=true:=h0
   unfold dX at h0
   split at h0
   ·cases h0
   ·simp only [Bool.and_eq_true,decide_eq_true_eq] at h0;exact h0.1
 have hl:s.rels.l.length≤8:=by have:=hp.lB;simpa using this
 exact ⟨⟨by omega,fun r hr=>by have:=(len r hr).1;omega,fun r hr t ht=>by have:=(len r hr).2.1 t ht;omega⟩,
  ⟨by unfold cy;omega,fun r hr=>⟨by have:=(len r hr).2.2;unfold cy;omega,by have:=(len r hr).1;unfold cy;omega,fun t ht=>by have:=(len r hr).2.1 t ht;unfold cy;omega⟩⟩⟩
end
end Go.AM
namespace Go.AM
open Go Go.Proofs
noncomputable section
def kN(rs:List aE)(nms:List bG):List Rel:=nms.map fun nm=>⟨nm,(iK rs nm:Int),none⟩
def fE(rs:List aE)(nms:List bG):List NB:=nms.map fun nm=>(nm,(iK rs nm:Int),[])
theorem AU(rs:List aE)(nms:List bG):(kN rs nms).map cY=fE rs nms:=by unfold kN fE;rw [List.map_map];rfl
theorem II(s:St):eO Tryz.prog s Tryz.f55.results.toList=(match ai (some 2) (s.env 4) s.h,(some []:Option (List AV)) with|some v,some vs=>some (v :: vs)|_,_=>none):=by kernel_rfl
theorem MG(nm:bG)(k:Int):gw [.str [],.int .i64 0,.nils] [(0,1),(1,1)] [.str nm,.int .i64 k]=some (.agg (aQ ⟨nm,k,none⟩)):=rfl
set_option maxHeartbeats 1000000 in
theorem eu{rules:Sl aE}{s:ej}{m:dJ}(h60:rules.l.length≤60)(h20:∀ r ∈ rules.l,r.body.l.length≤20)(hgo:dG rules.l []=some m)(hsm:s.small){h:ag}{K:Out→ag→Bool}
  (hK:∀ a h' rs1,bJ h h'→Own aQ 3 h.next h' a (rs1++kN rules.l (cO rules.l))→rs1.map cY=s.rels.l.map cY→K (.ret (.agg [.int .i64 s.size,a])) h'=true):Sem Tryz.prog 55 [aq aM 3 rules,.agg (az s)] h K:=by
 have hm:cX=140737488355328:=rfl
 have hdl:=j9 rules.l
 refine F.yb ?_
 simp only [cU (dR s),bindO_some,ag.next_alloc]
 have g0:(ag.alloc (ag.alloc h (.cells (az s))) (.cells [.int .i64 0,.nils])).get h.next=some (.cells (az s)):=by rw [ag.bf,ag.next_alloc,if_neg (by omega)];exact aB _ _
 have g1:(ag.alloc (ag.alloc h (.cells (az s))) (.cells [.int .i64 0,.nils])).get (h.next+1)=some (.cells [.int .i64 0,.nils]):=aB _ _
 have gn:(ag.alloc (ag.alloc h (.cells (az s))) (.cells [.int .i64 0,.nils])).next=h.next+2:=rfl
 have gx:bJ h (ag.alloc (ag.alloc h (.cells (az s))) (.cells [.int .i64 0,.nils])):=(bJ.alloc _ _).trans (bJ.alloc _ _)
 generalize (ag.alloc (ag.alloc h (.cells (az s))) (.cells [.int .i64 0,.nils]))=H1 at g0 g1 gn gx ⊢
 have l0:ai (some 2) (.ptr h.next 0) H1=some (.agg (az s)):=by rw [ak g0,dU (cs:=az s) (n:=2) rfl]
 simp only [l0,bindO_some]
 refine an (fB hsm fun a h3 rs x3 o3 hrs=>?_)
 obtain ⟨ho1,ho2⟩:=kV o3
 have one2:bN [.int .i64 s.size,a]=true:=by simp only [bN,Bool.and_true] at ho1 ⊢;rw [ho1];rfl
 obtain ⟨H4,hs4,p4,po4,pn4⟩:=cP (h:=h3) (zs:=[.int .i64 0,.nils]) (cs:=[.int .i64 s.size,a]) (n:=2) rfl rfl one2
 have x4:bJ h3 H4:=⟨by omega,fun b hb=>po4 b (by omega)⟩
 have n3:=x3.next
 rw [gn] at o3 n3
 have x34:=(gx.trans x3).trans x4
 simp only [aU,Nat.reduceAdd,Nat.reduceEqDiff,reduceIte,hs4]
 refine an (cL h60 fun d hd1=>?_)
 have hdl2:d.l.length≤60:=by rw [hd1];omega
 have hdb:d.l.length≤cy:=by unfold cy;omega
 have hrl:=hsm.rels
 have hrsl:rs.length=s.rels.l.length:=by have:=congrArg List.length hrs;simpa using this
 simp only [aU,Nat.reduceAdd,Nat.reduceEqDiff,reduceIte]
 refine aC 0 d.l.length (Nat.zero_le _) (fun i e h'=>∃ a,h'.get h3.next=some (.cells [.int .i64 s.size,a])∧h'.get (h.next+1)=some (.cells [.int .i64 0,.nils])∧Own aQ 3 (h.next+2) h' a (rs++kN rules.l (d.l.take i))∧de a≠some h3.next∧(∀ b,b<h.next→h'.get b=h.get b)∧h3.next<h'.next ∧
  e 0=aq aM 3 rules∧e 4 = .ptr (h.next+1) 0∧e 5 = .ptr h3.next 0∧e 6=aq encS 1 d∧e 7 = .int .i64 (i:Int))
  ⟨a,p4,by rw [x4.get _ (by omega),x3.get _ (by omega)];exact g1,by simpa [kN] using o3.ext x4,fun hb=>by have:=o3.lt hb;omega,fun b hb=>x34.get b hb,by omega,rfl,rfl,rfl,rfl,rfl⟩ ?_ ?_
 ·rintro i e h' _ hi ⟨a,q3,q1,o,hne,hfr,hnx,e0,e4,e5,e6,e7⟩ K' hn hx hr hp
  have hv:d.l[i]?=some d.l[i]:=List.getElem?_eq_getElem hi
  generalize d.l[i]=nm at hv
  have hnm:nm ∈ bC rules.l:=(dQ _).1 (by rw [← hd1];exact List.mem_of_getElem? hv)
  have lo:ai none (.ptr h3.next 1) h'=some a:=by rw [ak q3];rfl
  have li:∀ hh,ai none (.iptr (d.l.flatMap encS) (i*1)) hh=some (.str nm):=fun hh=>gO hv
  obtain ⟨a5,h5,p5,o5,f5,n5,x5,b5⟩:=o.push ee fR (by omega) (bytes:=48) (by rw [hm,List.length_append];unfold kN;rw [List.length_map,List.length_take];omega) ⟨nm,(iK rules.l nm:Int),none⟩
  have s3:h5.get h3.next=some (.cells [.int .i64 s.size,a]):=by rw [f5 _ (by omega) hne];exact q3
  have c5:=o5.oO
  have st:bp 1 (.ptr h3.next 1) a5 h5=some (h5.set h3.next (.cells [.int .i64 s.size,a5])):=by
   rw [cT (n:=1) s3 c5.2.1 c5.1 (by simp),c5.2.2];rfl
  rw [F.eu.aO]
  simp only [e0,e5,e6,e7,aU,Nat.reduceAdd,Nat.reduceEqDiff,reduceIte,bg hi,lo,aW d hi,li]
  refine an (dD h60 h20 ?_)
  rw [Ke hgo hnm]
  simp only [aU,Nat.reduceAdd,Nat.reduceEqDiff,reduceIte,li,lo,AV.beq_refl,Bool.and_self,Bool.and_true,if_true,MG,Hj,p5,e5,e7,st,aI hi hdb]
  refine hn _ _ ⟨a5,by rw [ag.aN,if_pos rfl],by rw [ag.aN,if_neg (by omega),f5 _ (by omega) (fun hb=>by have:=o.ge hb;omega)];exact q1,?_,fun hb=>by have:=b5 _ hb;omega,fun b hb=>?_,by rw [ag.next_set];omega,e0,e4,e5,e6,rfl⟩
  ·have hl:rs++kN rules.l (d.l.take (i+1))=(rs++kN rules.l (d.l.take i))++[⟨nm,(iK rules.l nm:Int),none⟩]:=by
    rw [List.take_add_one,hv]
    unfold kN
    rw [List.map_append,← List.append_assoc]
    rfl
   rw [hl]
   exact o5.agree (fun b hb=>by rw [ag.aN,if_neg (by have:=b5 _ hb;omega)]) (by rw [ag.next_set];exact Nat.le_refl _)
  ·rw [ag.aN,if_neg (by omega),f5 b (by omega) (fun hb'=>by have:=o.ge hb';omega)]
   exact hfr b hb
 ·rintro e h' ⟨a,q3,q1,o,hne,hfr,hnx,e0,e4,e5,e6,e7⟩ K' hx
  rw [List.take_of_length_le (Nat.le_refl _),hd1] at o
  obtain ⟨ho1,ho2⟩:=kV o
  have one3:bN [.int .i64 s.size,a]=true:=by simp only [bN,Bool.and_true] at ho1 ⊢;rw [ho1];rfl
  have lo:ai (some 2) (.ptr h3.next 0) h'=some (.agg [.int .i64 s.size,a]):=by rw [ak q3];rfl
  have st:bp 2 (.ptr (h.next+1) 0) (.agg [.int .i64 s.size,a]) h'=some (h'.set (h.next+1) (.cells [.int .i64 s.size,a])):=by
   rw [cT (n:=2) (v:=.agg [.int .i64 s.size,a]) q1 rfl one3 (by simp)];rfl
  have lo2:ai (some 2) (.ptr (h.next+1) 0) (h'.set (h.next+1) (.cells [.int .i64 s.size,a]))=some (.agg [.int .i64 s.size,a]):=by rw [ak (cs:=[.int .i64 s.size,a]) (by rw [ag.aN,if_pos rfl])];rfl
  rw [F.eu.aO]
  simp only [e6,e7,aU,Nat.reduceAdd,Nat.reduceEqDiff,reduceIte,aR]
  rw [hx,F.eu.aD]
  simp only [bH,Nat.reduceEqDiff,reduceIte,e4,e5,lo,st,bindO_some,II,lo2,oneOf]
  exact hK a _ rs ⟨by rw [ag.next_set];omega,fun b hb=>by rw [ag.aN,if_neg (by omega)];exact hfr b hb⟩ ((o.nr (by omega) _).weak (by omega)) hrs
theorem BG{n:Int}{k:Nat}{a:AV}{rs:List Rel}{h:ag}(o:Own aQ 3 k h a rs)(hok:(⟨n,some rs⟩:ej).ok){K:Out→ag→Bool}(hK:K (.ret (.bool (dP ⟨n,some rs⟩))) h=true):Sem Tryz.prog 17 [.agg [.int .i64 n,a]] h K:=by
 obtain ⟨x,hx1,hx2⟩:=o.FX (fun v y hy=>by
  simp only [aQ,List.mem_cons,List.not_mem_nil,or_false] at hy
  rcases hy with rfl|rfl|rfl
  ·exact .scalar _ rfl
  ·exact .scalar _ rfl
  ·exact .dS (b8 l9 _))
 have hok2:(⟨n,x⟩:ej).ok:=by
  obtain ⟨q1,q2⟩:=hok
  exact ⟨by show x.l.length≤cy;rw [hx1];exact q1,fun r hr=>q2 r (by have:r ∈ x.l:=hr;rw [hx1] at this;exact this)⟩
 have he:dP ⟨n,x⟩=dP ⟨n,some rs⟩:=by
  rw [Bool.eq_iff_iff,nU,nU]
  show Fc n (x.l.map cY)↔Fc n (rs.map cY)
  rw [hx1]
 have hs:=bZ (s:=⟨n,x⟩) hok2 (h:=ag.empty) (K:=mR (.bool (dP ⟨n,x⟩))) (fm rfl)
 rw [← he] at hK
 have fl:=jB.cons (.scalar (.int .i64 n) rfl) (jB.cons hx2 jB.nil)
 exact Sem.M1 rfl hs (jB.cons (.agg _ _ fl.len fl.rel) .nil) hK
theorem xw{rs:List aE}{s:ej}{m:dJ}{rs':List Rel}(hg:jN rs)(hgo:dG rs []=some m)(hsv:dP s=true)(h4:¬ ∃ r ∈ s.rels.l,r.name ∈ bC rs)(hrs:rs'.map cY=s.rels.l.map cY++fE rs (cO rs)) :
  dP ⟨s.size,some rs'⟩=true↔¬ (8<s.rels.l.length+(cO rs).length∨∃ r ∈ rs,4096<s.size.toNat ^ r.args.l.length):=by
 have hsp:=nU.1 hsv
 have hlen:rs'.length=s.rels.l.length+(cO rs).length:=by have:=congrArg List.length hrs;simpa [fE] using this
 rw [nU]
 show Fc s.size (rs'.map cY)↔_
 rw [hrs]
 constructor
 ·rintro ⟨q1,q2,q3,q4,q5⟩ (hb|⟨r,hr,hb⟩)
  ·rw [List.length_append,List.length_map] at q3
   unfold fE at q3
   rw [List.length_map] at q3;omega
  ·have hm:(r.name,(iK rs r.name:Int),([]:List (List Int))) ∈ s.rels.l.map cY++fE rs (cO rs):=List.mem_append_right _ (List.mem_map.2 ⟨r.name,(dQ rs).2 (List.mem_map_of_mem hr),rfl⟩)
   obtain ⟨_,k,h1,h2,h3,_⟩:=q4 _ hm
   rw [Dv hgo hr] at h1
   have:k=r.args.l.length:=by simp only at h1;omega
   rw [this] at h3;omega
 ·intro hno
  have hd8:s.rels.l.length+(cO rs).length≤8:=Nat.le_of_not_lt fun h=>hno (.inl h)
  refine ⟨hsp.lo,hsp.hi,by rw [List.length_append,List.length_map];unfold fE;rw [List.length_map];exact hd8,fun d hd=>?_,?_⟩
  ·rcases List.mem_append.1 hd with hd|hd
   ·exact hsp.rel d hd
   ·obtain ⟨nm,hnm,rfl⟩:=List.mem_map.1 hd
    obtain ⟨_,r,hr,hrn,har⟩:=rL hgo ((dQ rs).1 hnm)
    have hat:=(fZ hgo r hr).1
    refine ⟨by rw [← hrn];exact tg hat,iK rs nm,rfl,by rw [har];exact jQ hat,?_,fun t ht=>(by cases ht),List.Pairwise.nil⟩
    rw [har]
    exact Nat.le_of_not_lt fun h=>hno (.inr ⟨r,hr,h⟩)
  ·rw [List.map_append]
   have e2:(fE rs (cO rs)).map (·.1)=cO rs:=by unfold fE;rw [List.map_map];simp [Function.comp_def]
   rw [e2]
   refine List.nodup_append.2 ⟨hsp.names,qG (lf rs),fun x hx y hy e=>?_⟩
   subst e
   rw [List.map_map] at hx
   obtain ⟨r,hr,hrn⟩:=List.mem_map.1 hx
   exact h4 ⟨r,hr,by have:=(dQ rs).1 hy;rw [← hrn] at this;exact this⟩
set_option maxHeartbeats 2000000 in
theorem bB{rules:Sl aE}{s:ej}(hok:∀ r ∈ rules.l,r.ok)(hfew:∀ r ∈ rules.l,r.lB)(hsok:s.ok){h:ag}{K:Out→ag→Bool}
  (herr:∀ e,yl rules.l s e→K (.ret (.int .i64 e)) h=true) (hyes:jo rules.l s→K (.ret (.int .i64 0)) h=true):Sem Tryz.prog 14 [aq aM 3 rules,.agg (az s)] h K:=by
 have gen:∀ R:Out→ag→Bool,(∀ e h',(yl rules.l s e∨(e=0∧jo rules.l s))→R (.ret (.int .i64 e)) h'=true)→Sem Tryz.prog 14 [aq aM 3 rules,.agg (az s)] ag.empty R:=by
  intro R fin
  refine F.xZ ?_
  simp only [cU (dR s),bindO_some,bT]
  have g0:(ag.empty.alloc (.cells (az s))).get 0=some (.cells (az s)):=aB _ _
  have gn:(ag.empty.alloc (.cells (az s))).next=1:=rfl
  generalize (ag.empty.alloc (.cells (az s)))=H at g0 gn ⊢
  have l0:ai (some 2) (.ptr 0 0) H=some (.agg (az s)):=by rw [ak g0,dU (cs:=az s) (n:=2) rfl]
  refine an (bA hok hfew fun b hb=>?_)
  simp only [aU,Nat.reduceAdd,Nat.reduceEqDiff,reduceIte]
  cases b with
  |false=>
   simp only [Bool.not_false,aJ]
   exact fin 1 _ (.inl (.inl ⟨.inl fun hg=>(by have:=hb.2 hg;cases this),rfl⟩))
  |true=>
  have hg:=hb.1 rfl
  simp only [Bool.not_true,aG,l0,bindO_some]
  refine an (bZ hsok ?_)
  simp only [aU,Nat.reduceAdd,Nat.reduceEqDiff,reduceIte]
  cases hsv:dP s with
  |false=>
   simp only [Bool.not_false,aJ]
   exact fin 1 _ (.inl (.inl ⟨.inr hsv,rfl⟩))
  |true=>
  obtain ⟨n,hn,n1,n64,h8⟩:=nR hsv
  have hnn:s.size.toNat=n:=by omega
  obtain ⟨m,hgo⟩:=hg.go
  have hgok:=fZ hgo
  have h20:∀ r ∈ rules.l,r.body.l.length≤20:=fun r hr=>(hgok r hr).2.1
  have h60:=hg.lB
  have hdl:=j9 rules.l
  simp only [Bool.not_true,aG]
  refine an (cL h60 fun d hd1=>?_)
  simp only [aU,Nat.reduceAdd,Nat.reduceEqDiff,reduceIte,l0]
  refine an (cc h60 h20 fun sy hsy=>?_)
  have hsl:sy.l.length≤1260:=by
   rw [hsy];unfold Cv;rw [List.length_map]
   have h1:=tE (cO rules.l) (cA rules.l)
   have h2:=wB h60 h20
   omega
  simp only [aU,Nat.reduceAdd,Nat.reduceEqDiff,reduceIte,l0,AV.beq_refl,Bool.and_self,if_true]
  refine an (dY hsok (by unfold cy;omega) ?_)
  rw [hsy]
  simp only [aU,Nat.reduceAdd,Nat.reduceEqDiff,reduceIte]
  have e4:Ix rules.l s→yl rules.l s 4:=fun h=>.inr ⟨hg,hsv,.inl ⟨h,rfl⟩⟩
  cases hfit:(Cv rules.l).all (yh s) with
  |false=>
   simp only [Bool.not_false,aJ]
   refine fin 4 _ (.inl (e4 (.inl ?_)))
   exact Decidable.not_not.1 fun h=>by rw [(Fa hgo hsv).2 h] at hfit;cases hfit
  |true=>
  have hnoA:=(Fa hgo hsv).1 hfit
  have hdb:d.l.length≤cy:=by rw [hd1];unfold cy;omega
  have hrb:rules.l.length≤cy:=by unfold cy;omega
  simp only [Bool.not_true,aG]
  refine aC 0 d.l.length (Nat.zero_le _) (fun i e h'=>h'.get 0=some (.cells (az s))∧1≤h'.next∧(∀ nm ∈ d.l.take i,∀ r ∈ s.rels.l,r.name≠nm)∧e 0=aq aM 3 rules∧e 3 = .ptr 0 0∧e 5=aq encS 1 d∧e 6 = .int .i64 (i:Int)) ⟨g0,by omega,fun nm hnm=>(by cases hnm),rfl,rfl,rfl,rfl⟩ ?_ ?_
  ·rintro i e h' _ hi ⟨q0,qn,hno,e0,e3,e5,e6⟩ K' hn' hx hr hp
   have hv:d.l[i]?=some d.l[i]:=List.getElem?_eq_getElem hi
   generalize d.l[i]=nm at hv
   have l0':ai (some 2) (.ptr 0 0) h'=some (.agg (az s)):=by rw [ak q0,dU (cs:=az s) (n:=2) rfl]
   rw [F.bB.aO]
   simp only [e3,e5,e6,aU,Nat.reduceAdd,Nat.reduceEqDiff,reduceIte,bg hi,l0',aW d hi,gO hv]
   refine an (dZ hsok ?_)
   simp only [aU,Nat.reduceAdd,Nat.reduceEqDiff,reduceIte]
   rcases qJ (fC nm) s.rels.l with ⟨f1,f2⟩|⟨j,r,f1,f2,f3⟩
   ·rw [f1]
    simp only [show decide ((0:Int)≤-1)=false from rfl,aG,e6,aI hi hdb,bindO_some]
    refine hn' _ _ ⟨q0,qn,fun x hx' r hr' e=>?_,e0,e3,e5,rfl⟩
    rw [List.take_add_one,hv] at hx'
    rcases List.mem_append.1 hx' with hx'|hx'
    ·exact hno x hx' r hr' e
    ·simp only [Option.toList_some,List.mem_singleton] at hx'
     rw [List.find?_eq_none] at f2
     exact f2 r hr' (by simp [fC,e,hx'])
   ·rw [f1]
    simp only [decide_eq_true (by omega:(0:Int)≤(j:Int)),aJ]
    rw [hr,F.bB.bt]
    simp only [bH,Nat.reduceEqDiff,reduceIte]
    have hrn:=List.find?_some f3
    simp only [fC,beq_iff_eq] at hrn
    exact fin 4 _ (.inl (e4 (.inr ⟨r,List.mem_of_getElem? f2,(dQ _).1 (by rw [hrn,← hd1];exact List.mem_of_getElem? hv)⟩)))
  ·rintro e h' ⟨q0,qn,hno,e0,e3,e5,e6⟩ K' hx
   rw [List.take_of_length_le (Nat.le_refl _)] at hno
   have hnoB:¬ ∃ r ∈ s.rels.l,r.name ∈ bC rules.l:=fun ⟨r,hr,hh⟩=>hno r.name (by rw [hd1];exact (dQ _).2 hh) r hr rfl
   have h4:¬ Ix rules.l s:=fun h=>h.elim hnoA hnoB
   have e5':Kp rules.l s→yl rules.l s 5:=fun h=>.inr ⟨hg,hsv,.inr ⟨h4,h,rfl⟩⟩
   rw [F.bB.aO]
   simp only [e5,e6,aU,Nat.reduceAdd,Nat.reduceEqDiff,reduceIte,aR]
   rw [hx,F.bB.aD]
   refine aC 0 rules.l.length (Nat.zero_le _) (fun i e h2=>h2.get 0=some (.cells (az s))∧1≤h2.next∧(∀ r ∈ rules.l.take i,n ^ (varsOf r).length≤65536)∧e 0=aq aM 3 rules∧e 3 = .ptr 0 0∧e 7 = .int .i64 (i:Int)) ⟨q0,qn,fun r hr=>(by cases hr),e0,e3,rfl⟩ ?_ ?_
   ·rintro i e h2 _ hi ⟨q0,qn,hsz,e0,e3,e7⟩ K2 hn2 hx2 hr2 hp2
    have hv:rules.l[i]?=some rules.l[i]:=List.getElem?_eq_getElem hi
    generalize rules.l[i]=r at hv
    have hrm:=List.mem_of_getElem? hv
    have hr12:=(hgok r hrm).2.2
    have hvb:(varsOf r).length≤cy:=by unfold cy;omega
    rw [F.bB.dx]
    simp only [e0,e7,aU,Nat.reduceAdd,Nat.reduceEqDiff,reduceIte,bg hi]
    refine iS (fun k e h3=>∃ j,k=(varsOf r).length-j∧j≤(varsOf r).length∧n ^ (j-1)≤65536∧h3.get 0=some (.cells (az s))∧1≤h3.next∧e 0=aq aM 3 rules∧e 3 = .ptr 0 0∧e 7 = .int .i64 (i:Int)∧e 8 = .int .i64 ((n ^ j:Nat):Int)∧e 9 = .int .i64 (j:Int)) ((varsOf r).length)
     ⟨0,rfl,Nat.zero_le _,by simp,q0,qn,e0,e3,e7,rfl,rfl⟩ ?_
    rintro k e h3 ⟨j,hk,hj,hpj,q0,qn,e0,e3,e7,e8,e9⟩
    have lz:ai none (.ptr 0 0) h3=some (.int .i64 (n:Int)):=by rw [ak q0,← hn];rfl
    have hn8:n ^ j≤65536*64:=by
     cases j with
     |zero=>simp
     |succ j=>rw [Nat.pow_succ];simp only [Nat.add_sub_cancel] at hpj;exact Nat.mul_le_mul hpj n64
    have out:∀ (e':Env),e' 0=aq aM 3 rules→e' 3 = .ptr 0 0→e' 7 = .int .i64 (i:Int)→e' 8 = .int .i64 ((n ^ j:Nat):Int)→(65536<n ^ j∨j=(varsOf r).length)→F.bB.rC K2 (.exit 4) ⟨e',69,[],h3⟩=true:=by
     intro e' e0 e3 e7 e8 hcase
     rw [F.bB.fY]
     simp only [e8,aU,Nat.reduceAdd,Nat.reduceEqDiff,reduceIte]
     by_cases hbg:65536<n ^ j
     ·simp only [decide_eq_true (by omega:(65536:Int)<((n ^ j:Nat):Int)),aJ]
      rw [hr2,F.bB.iE]
      simp only [bH,Nat.reduceEqDiff,reduceIte]
      exact fin 5 _ (.inl (e5' (.inr (.inr ⟨r,hrm,by rw [hnn];have:=tC n1 hj;omega⟩))))
     ·have hjv:=hcase.resolve_left hbg
      simp only [decide_eq_false (by omega:¬ (65536:Int)<((n ^ j:Nat):Int)),aG,e7,aI hi hrb,bindO_some]
      refine hn2 _ _ ⟨q0,qn,fun q hq=>?_,e0,e3,rfl⟩
      rw [List.take_add_one,hv] at hq
      rcases List.mem_append.1 hq with hq|hq
      ·exact hsz q hq
      ·simp only [Option.toList_some,List.mem_singleton] at hq
       subst hq;rw [← hjv];omega
    rw [F.bB.iF]
    simp only [e0,e7,aU,Nat.reduceAdd,Nat.reduceEqDiff,reduceIte,aW rules hi,dN fK hv]
    simp only [aM]
    refine an (bE (hfew r hrm) fun x hx1=>?_)
    simp only [aU,Nat.reduceAdd,Nat.reduceEqDiff,reduceIte,hx1,e8,e9]
    by_cases hjl:j<(varsOf r).length
    ·simp only [bg hjl,aJ,aU,Nat.reduceAdd,Nat.reduceEqDiff,reduceIte]
     by_cases hle:n ^ j≤65536
     ·have hm:((n ^ j:Nat):Int)*(n:Int)=((n ^ (j+1):Nat):Int):=by rw [Nat.pow_succ,Int.natCast_mul]
      have hmul:n ^ j*n≤65536*64:=Nat.mul_le_mul hle n64
      have hps:n ^ (j+1)=n ^ j*n:=Nat.pow_succ n j
      have hmm:aA .mul (.int .i64 ((n ^ j:Nat):Int)) (.int .i64 (n:Int))=some (.int .i64 ((n ^ (j+1):Nat):Int)):=by rw [rz (by rw [hm];omega) (by rw [hm];omega),hm]
      simp only [decide_eq_true (by omega:((n ^ j:Nat):Int)≤65536),aJ,e3,e8,e9,aU,Nat.reduceAdd,Nat.reduceEqDiff,reduceIte,lz,hmm,aI hjl hvb]
      exact cD.2 ⟨(varsOf r).length-(j+1),by omega,rfl,rfl,j+1,rfl,by omega,by simpa using hle,q0,qn,e0,e3,e7,rfl,rfl⟩
     ·simp only [decide_eq_false (by omega:¬ ((n ^ j:Nat):Int)≤65536),aG,loopK_exit]
      exact out _ e0 e3 e7 e8 (.inl (by omega))
    ·have hje:j=(varsOf r).length:=by omega
     simp only [decide_eq_false (by omega:¬ (j:Int)<((varsOf r).length:Int)),aG,loopK_exit]
     exact out _ e0 e3 e7 e8 (.inr hje)
   ·rintro e h2 ⟨q0,qn,hsz,e0,e3,e7⟩ K2 hx2
    rw [List.take_of_length_le (Nat.le_refl _)] at hsz
    have l0':ai (some 2) (.ptr 0 0) h2=some (.agg (az s)):=by rw [ak q0,dU (cs:=az s) (n:=2) rfl]
    rw [F.bB.dx]
    simp only [e0,e7,aU,Nat.reduceAdd,Nat.reduceEqDiff,reduceIte,aR]
    rw [hx2,F.bB.cw]
    simp only [aU,Nat.reduceAdd,Nat.reduceEqDiff,reduceIte,e0,e3,l0']
    refine an (eu h60 h20 hgo (jI hsv).1 fun a h4' rs1 x4 o4 hrs1=>?_)
    obtain ⟨rs',hrs'⟩:∃ rs',rs'=rs1++kN rules.l (cO rules.l):=⟨_,rfl⟩
    rw [← hrs'] at o4
    have hrs:rs'.map cY=s.rels.l.map cY++fE rules.l (cO rules.l):=by rw [hrs',List.map_append,AU,hrs1]
    simp only [aU,Nat.reduceAdd,Nat.reduceEqDiff,reduceIte]
    have hok':(⟨s.size,some rs'⟩:ej).ok:=by
     have hl:rs'.length=s.rels.l.length+(cO rules.l).length:=by have:=congrArg List.length hrs;simpa [fE] using this
     refine ⟨by show rs'.length≤cy;unfold cy;omega,fun r hr=>?_⟩
     have hd:cY r ∈ s.rels.l.map cY++fE rules.l (cO rules.l):=by rw [← hrs];exact List.mem_map_of_mem hr
     have hsok2:=(jI hsv).2
     have hsm2:=(jI hsv).1
     rcases List.mem_append.1 hd with hd|hd
     ·obtain ⟨q,hq,hqe⟩:=List.mem_map.1 hd
      unfold cY at hqe
      simp only [Prod.mk.injEq] at hqe
      have hq2:=hsok2.2 q hq
      refine ⟨by rw [← hqe.1];exact hq2.1,?_,fun t ht=>?_⟩
      ·have h1:=congrArg List.length hqe.2.2
       simp only [List.length_map] at h1
       rw [← h1];exact hq2.2.1
      ·have h1:t.l ∈ q.tuples.l.map Sl.l:=by rw [hqe.2.2];exact List.mem_map_of_mem ht
       obtain ⟨u,hu,hue⟩:=List.mem_map.1 h1
       rw [← hue];exact hq2.2.2 u hu
     ·obtain ⟨nm,hnm,hqe⟩:=List.mem_map.1 hd
      unfold cY at hqe
      simp only [Prod.mk.injEq] at hqe
      obtain ⟨_,q,hq,hqn,_⟩:=rL hgo ((dQ _).1 hnm)
      have ht0:r.tuples.l = []:=by have:=hqe.2.2;simpa using this.symm
      refine ⟨by rw [← hqe.1,← hqn];have:=EA (tg (hgok q hq).1);unfold cy;omega,by rw [ht0];exact Nat.zero_le _,fun t ht=>by rw [ht0] at ht;cases ht⟩
    refine an (BG o4 hok' ?_)
    simp only [aU,Nat.reduceAdd,Nat.reduceEqDiff,reduceIte]
    have hev:=xw hg hgo hsv hnoB hrs
    cases hvd:dP ⟨s.size,some rs'⟩ with
    |false=>
     simp only [Bool.not_false,aJ]
     refine fin 5 _ (.inl (e5' ?_))
     have:(8<s.rels.l.length+(cO rules.l).length∨∃ r ∈ rules.l,4096<s.size.toNat ^ r.args.l.length):=Decidable.not_not.1 fun h=>by rw [hev.2 h] at hvd;cases hvd
     rcases this with h|h
     ·exact .inl h
     ·exact .inr (.inl h)
    |true=>
     simp only [Bool.not_true,aG]
     have hno5:=hev.1 hvd
     refine fin 0 _ (.inr ⟨rfl,hg,hsv,h4,?_⟩)
     rintro (h|h|⟨r,hr,h⟩)
     ·exact hno5 (.inl h)
     ·exact hno5 (.inr h)
     ·rw [hnn] at h;have:=hsz r hr;omega
 have main:=gen (fun o h'=>yes (∃ e,o = .ret (.int .i64 e)∧(yl rules.l s e∨(e=0∧jo rules.l s)))) (fun e h' he=>cD.2 ⟨e,rfl,he⟩)
 refine main.frozen (by simp [AV.pureL,AV.pure,b8 eM,fU]) fun o h' ho=>?_
 obtain ⟨e,rfl,he⟩:=cD.1 ho
 refine ⟨_,_,rfl,.scalar _ rfl,?_⟩
 rcases he with he|⟨rfl,he⟩
 ·exact herr e he
 ·exact hyes he
end
end Go.AM
namespace Go.AM
open Go Go.Proofs
noncomputable section
set_option maxHeartbeats 1000000 in
theorem ym{n k:Nat}(h1:1≤n)(h2:n≤64)(hk:k≤12)(hc:n ^ k≤4096){nm:bG}{ts:Sl (Sl Int)}(hl:ts.l.length≤cy)(ht:tj n k ts.l=true){h:ag}{K:Out→ag→Bool}
  (hK:∀ h' b,bJ h h'→h.next≤b→b<h'.next→h'.get b=some (.cells ((bitsOf n k ts.l).map bv))→K (.ret (.agg [.str nm,.int .i64 (k:Int),.slice b 0 (n ^ k) 1])) h'=true):Sem Tryz.prog 162 [.int .i64 (n:Int),.str nm,.int .i64 (k:Int),aq eN 1 ts] h K:=by
 have hkb:k≤cy:=by unfold cy;omega
 refine F.uq ?_
 refine an (fG h1 h2 hkb fun v v1 v2=>?_)
 have hv:=v1 hc
 subst hv
 simp only [outK_ret,Dk (show n ^ k≤1000000 by omega),bindO2_some,ag.next_alloc]
 have ha:∀ b:Nat,gw [(.str []),(.int .i64 0),.nils] [(0,1),(1,1),(2,1)] [.str nm,.int .i64 (k:Int),.slice b 0 (n ^ k) 1]=some (.agg [.str nm,.int .i64 (k:Int),.slice b 0 (n ^ k) 1]):=fun _=>rfl
 simp only [ha,bindO_some]
 have g0:((ag.alloc h (.cells [(.str []),(.int .i64 0),.nils])).alloc (.cells ((List.replicate (n ^ k) false).map bv))).get h.next=some (.cells [(.str []),(.int .i64 0),.nils]):=by rw [ag.bf,ag.next_alloc,if_neg (by omega)];exact aB _ _
 have g1:((ag.alloc h (.cells [(.str []),(.int .i64 0),.nils])).alloc (.cells ((List.replicate (n ^ k) false).map bv))).get (h.next+1)=some (.cells ((List.replicate (n ^ k) false).map bv)):=aB _ _
 have gn:((ag.alloc h (.cells [(.str []),(.int .i64 0),.nils])).alloc (.cells ((List.replicate (n ^ k) false).map bv))).next=h.next+2:=rfl
 have gx:bJ h ((ag.alloc h (.cells [(.str []),(.int .i64 0),.nils])).alloc (.cells ((List.replicate (n ^ k) false).map bv))):=(bJ.alloc _ _).trans (bJ.alloc _ _)
 generalize ((ag.alloc h (.cells [(.str []),(.int .i64 0),.nils])).alloc (.cells ((List.replicate (n ^ k) false).map bv)))=H0 at g0 g1 gn gx ⊢
 obtain ⟨H,hs,p2,go,hn⟩:=cP (h:=H0) (zs:=[.str [],.int .i64 0,.nils]) (cs:=[.str nm,.int .i64 (k:Int),.slice (h.next+1) 0 (n ^ k) 1]) (n:=3) rfl rfl rfl
 rw [gn] at hs p2 go hn
 have p0:H.get h.next=some (.cells [(.str []),(.int .i64 0),.nils]):=by rw [go _ (by omega)];exact g0
 have p1:H.get (h.next+1)=some (.cells ((List.replicate (n ^ k) false).map bv)):=by rw [go _ (by omega)];exact g1
 have px:∀ b,b<h.next→H.get b=h.get b:=fun b hb=>by rw [go b (by omega)];exact gx.get b hb
 simp only [gn,hs,bindO_some]
 refine aC 0 ts.l.length (Nat.zero_le _) (fun i e h'=>∃ d,bitsOf n k ts.l=j5 n (ts.l.drop i) d∧d.length=n ^ k∧h'.get h.next=some (.cells [(.str []),(.int .i64 0),.nils])∧h'.get (h.next+1)=some (.cells (d.map bv))∧h'.get (h.next+2)=some (.cells [.str nm,.int .i64 (k:Int),.slice (h.next+1) 0 (n ^ k) 1])∧(∀ b,b<h.next→h'.get b=h.get b)∧h'.next=h.next+3 ∧
  e 0 = .int .i64 (n:Int)∧e 3=aq eN 1 ts∧e 8 = .ptr h.next 0∧e 9 = .ptr (h.next+2) 0∧e 10 = .int .i64 (i:Int)) ⟨_,rfl,by simp,p0,p1,p2,px,by omega,rfl,rfl,rfl,rfl,rfl⟩ ?_ ?_
 ·rintro i e h' _ hi ⟨d,hd,hdl,q0,q1,q2,qf,qn,e0,e3,e8,e9,e10⟩ K' hnx hx hr hp
  have hv:ts.l[i]?=some ts.l[i]:=List.getElem?_eq_getElem hi
  generalize ts.l[i]=t at hv
  obtain ⟨htl,htb⟩:=Gk ht hv
  have hrk:iL n t.l<n ^ k:=by have:=mH htb;rwa [htl] at this
  rw [Cc hv] at hd
  have l2:ai none (.ptr (h.next+2) 2) h'=some (.slice (h.next+1) 0 (n ^ k) 1):=by rw [ak q2];rfl
  rw [F.eC.aO]
  simp only [e0,e3,e9,e10,aU,Nat.reduceAdd,Nat.reduceEqDiff,reduceIte,bg hi,aW ts hi,iG hv,l2]
  refine an (fA h1 (by omega) (by rw [htl];exact hc) htb ?_)
  simp only [outK_ret,l2,bindO_some,AV.beq_refl,Bool.and_self,if_true,jh hrk,uF q1 (show iL n t.l<d.length by omega),aI hi hl,e10]
  exact hnx _ _ ⟨_,hd,by simpa using hdl,by rw [ag.aN,if_neg (by omega)];exact q0,by rw [ag.aN,if_pos rfl],by rw [ag.aN,if_neg (by omega)];exact q2,fun b hb=>by rw [ag.aN,if_neg (by omega)];exact qf b hb,by rw [ag.next_set];exact qn,e0,e3,e8,e9,rfl⟩
 ·rintro e h' ⟨d,hd,hdl,q0,q1,q2,qf,qn,e0,e3,e8,e9,e10⟩ K' hx
  rw [F.eC.aO]
  simp only [e3,e10,aU,Nat.reduceAdd,Nat.reduceEqDiff,reduceIte,aR]
  rw [hx,F.eC.aD]
  rw [List.drop_of_length_le (Nat.le_refl _)] at hd
  simp only [j5] at hd
  have l2:ai (some 3) (.ptr (h.next+2) 0) h'=some (.agg [.str nm,.int .i64 (k:Int),.slice (h.next+1) 0 (n ^ k) 1]):=by rw [ak q2];rfl
  have st:bp 3 (.ptr h.next 0) (.agg [.str nm,.int .i64 (k:Int),.slice (h.next+1) 0 (n ^ k) 1]) h'=some (h'.set h.next (.cells [.str nm,.int .i64 (k:Int),.slice (h.next+1) 0 (n ^ k) 1])):=by
   rw [cT (n:=3) q0 rfl rfl (by simp)];rfl
  have r0:(h'.set h.next (.cells [.str nm,.int .i64 (k:Int),.slice (h.next+1) 0 (n ^ k) 1])).get h.next=some (.cells [.str nm,.int .i64 (k:Int),.slice (h.next+1) 0 (n ^ k) 1]):=by rw [ag.aN,if_pos rfl]
  have r1:(h'.set h.next (.cells [.str nm,.int .i64 (k:Int),.slice (h.next+1) 0 (n ^ k) 1])).get (h.next+1)=some (.cells (d.map bv)):=by rw [ag.aN,if_neg (by omega)];exact q1
  have rx:bJ h (h'.set h.next (.cells [.str nm,.int .i64 (k:Int),.slice (h.next+1) 0 (n ^ k) 1])):=⟨by rw [ag.next_set];omega,fun b hb=>by rw [ag.aN,if_neg (by omega)];exact qf b hb⟩
  have rn:(h'.set h.next (.cells [.str nm,.int .i64 (k:Int),.slice (h.next+1) 0 (n ^ k) 1])).next=h.next+3:=by rw [ag.next_set];exact qn
  generalize (h'.set h.next (.cells [.str nm,.int .i64 (k:Int),.slice (h.next+1) 0 (n ^ k) 1]))=H2 at st r0 r1 rx rn
  have l3:ai (some 3) (.ptr h.next 0) H2=some (.agg [.str nm,.int .i64 (k:Int),.slice (h.next+1) 0 (n ^ k) 1]):=by rw [ak r0];rfl
  simp only [bH,Nat.reduceEqDiff,reduceIte,e8,e9,l2,st,bindO_some,Ig,l3,oneOf]
  exact hK H2 (h.next+1) rx (by omega) (by omega) (by rw [hd];exact r1)
theorem eA.nil(k0:Nat)(h:ag):eA k0 h .nils []:=⟨.nil,fun p hp=>(by cases hp),fun i j s t hi=>(by simp at hi)⟩
theorem eA.low{k0:Nat}{h:ag}{a:AV}{ts:List dc}(t:eA k0 h a ts){d:Nat}(hd:d<k0)(x:jj):eA k0 (h.set d x) a ts:=
 t.keep (fun b b1 _=>by rw [ag.aN,if_neg (by omega)]) (by rw [ag.next_set];exact Nat.le_refl _)
theorem eA.push{k0:Nat}{h:ag}{a:AV}{ts:List dc}(t:eA k0 h a ts)(hk:k0≤h.next)(hroom:(ts.length+1)*48≤cX)(q:dc)(q1:k0≤q.blk)(q2:q.blk<h.next)(q3:de a≠some q.blk)(q4:h.get q.blk=some (.cells (q.bits.map bv)))(q5:∀ p ∈ ts,p.blk≠q.blk) :
  ∃ a' h',cg 3 48 a (.slice h.next 0 1 3) (h.alloc (.cells (jC q)))=some (a',h')∧eA k0 h' a' (ts++[q])∧(∀ c,c<h.next→de a≠some c→h'.get c=h.get c)∧h.next≤h'.next∧(∀ h0,bJ h0 h→h0.next≤k0→bJ h0 h')∧(∀ c,de a'=some c→h.next≤c):=by
 obtain ⟨a',h',e1,o1,f1,n1,x1,b1⟩:=t.own.push xp E7 hk hroom q
 refine ⟨a',h',e1,⟨o1,fun p hp=>?_,fun i j s u hi hj hb=>?_⟩,f1,n1,x1,b1⟩
 ·have hp':k0≤p.blk∧p.blk<h.next∧de a≠some p.blk∧h.get p.blk=some (.cells (p.bits.map bv)):=by
   rcases List.mem_append.1 hp with hp|hp
   ·exact t.cell p hp
   ·rw [List.mem_singleton] at hp;subst hp;exact ⟨q1,q2,q3,q4⟩
  obtain ⟨d1,d2,d3,d4⟩:=hp'
  exact ⟨d1,by omega,fun hb=>by have:=b1 _ hb;omega,by rw [f1 _ d2 d3];exact d4⟩
 ·rw [List.getElem?_append] at hi hj
  split at hi<;>split at hj
  ·exact t.inj i j s u hi hj hb
  ·rename_i h1 h2
   have hu:u=q:=by
    rw [List.getElem?_singleton] at hj
    split at hj
    ·cases hj;rfl
    ·cases hj
   exact absurd (by rw [← hu];exact hb) (q5 s (List.mem_of_getElem? hi))
  ·rename_i h1 h2
   have hs:s=q:=by
    rw [List.getElem?_singleton] at hi
    split at hi
    ·cases hi;rfl
    ·cases hi
   exact absurd (by rw [← hs];exact hb.symm) (q5 u (List.mem_of_getElem? hj))
  ·rename_i h1 h2
   rw [List.getElem?_singleton] at hi hj
   split at hi
   ·split at hj
    ·omega
    ·cases hj
   ·cases hi
set_option maxHeartbeats 1000000 in
theorem GA{n k:Nat}(n1:1≤n)(n2:n≤64){a:AV}{rs:List Rel}{h:ag}(o:Own aQ 3 k h a rs)(hrl:rs.length≤1000)(hrel:∀ r ∈ rs,ki n r=true)(htup:∀ r ∈ rs,r.tuples.l.length≤cy){K:Out→ag→Bool}
  (hK:∀ b w h' ts cs,bJ h h'→h.next≤b→b<h'.next→h'.get b=some (.cells cs)→cs[2]?=some w→eA h.next h' w ts→ts.map cC=rs.map (m8 n)→K (.ret (.ptr b 0)) h'=true):Sem Tryz.prog 115 [.agg [.int .i64 (n:Int),a]] h K:=by
 have hm:cX=140737488355328:=rfl
 have hbig:rs.length≤cy:=by unfold cy;omega
 obtain ⟨ho1,ho2⟩:=kV o
 have one2:bN [.int .i64 (n:Int),a]=true:=by simp only [bN,Bool.and_true] at ho1 ⊢;rw [ho1];rfl
 refine F.C7 ?_
 simp only [cU one2,bindO_some]
 have b0:(h.alloc (.cells [.int .i64 (n:Int),a])).get h.next=some (.cells [.int .i64 (n:Int),a]):=aB _ _
 have bn:(h.alloc (.cells [.int .i64 (n:Int),a])).next=h.next+1:=rfl
 have bx:bJ h (h.alloc (.cells [.int .i64 (n:Int),a])):=bJ.alloc _ _
 generalize (h.alloc (.cells [.int .i64 (n:Int),a]))=H at b0 bn bx ⊢
 have ls:ai none (.ptr h.next 0) H=some (.int .i64 (n:Int)):=by rw [ak b0];rfl
 have lr:ai none (.ptr h.next 1) H=some a:=by rw [ak b0];rfl
 have ha:gw [(.int .i64 0),(.int .i64 0),.nils,.nils,.nils,(.bool false)] [(0,1),(1,1)] [.int .i64 (n:Int),.int .i64 (rs.length:Int)]=some (.agg [.int .i64 (n:Int),.int .i64 (rs.length:Int),.nils,.nils,.nils,.bool false]):=rfl
 simp only [aU,Nat.reduceAdd,Nat.reduceEqDiff,reduceIte,ls,lr,o.len,ha,cU (show bN [.int .i64 (n:Int),.int .i64 (rs.length:Int),.nils,.nils,.nils,.bool false]=true from rfl),bn]
 have c1:=aB H (.cells [.int .i64 (n:Int),.int .i64 (rs.length:Int),.nils,.nils,.nils,.bool false])
 have cx:=bJ.alloc H (.cells [.int .i64 (n:Int),.int .i64 (rs.length:Int),.nils,.nils,.nils,.bool false])
 have cn:(H.alloc (.cells [.int .i64 (n:Int),.int .i64 (rs.length:Int),.nils,.nils,.nils,.bool false])).next=h.next+2:=by rw [ag.next_alloc,bn]
 generalize (H.alloc (.cells [.int .i64 (n:Int),.int .i64 (rs.length:Int),.nils,.nils,.nils,.bool false]))=H1 at c1 cx cn ⊢
 rw [bn] at c1
 have c0:H1.get h.next=some (.cells [.int .i64 (n:Int),a]):=by rw [cx.get _ (by omega)];exact b0
 refine aC 0 rs.length (Nat.zero_le _) (fun i e h'=>∃ w ts,h'.get h.next=some (.cells [.int .i64 (n:Int),a])∧h'.get (h.next+1)=some (.cells [.int .i64 (n:Int),.int .i64 (rs.length:Int),w,.nils,.nils,.bool false])∧eA (h.next+2) h' w ts∧ts.map cC=(rs.take i).map (m8 n)∧bJ h h'∧h.next+2≤h'.next∧e 1 = .ptr h.next 0∧e 3 = .ptr (h.next+1) 0∧e 4 = .int .i64 (i:Int))
  ⟨.nils,[],c0,c1,.nil _ _,rfl,bx.trans cx,by omega,rfl,rfl,rfl⟩ ?_ ?_
 ·rintro i e h' _ hi ⟨w,ts,q0,q1,tA,hts,qx,qn,e1,e3,e4⟩ K' hnx hx hr hp
  have hvr:rs[i]?=some rs[i]:=List.getElem?_eq_getElem hi
  generalize rs[i]=r at hvr
  have hrm:=List.mem_of_getElem? hvr
  obtain ⟨kk,hk,k12,hkc,hkt⟩:=uQ (hrel r hrm)
  have hr3:aQ r = [.str r.name,.int .i64 (kk:Int),aq eN 1 r.tuples]:=by unfold aQ;rw [hk]
  have ls:ai none (.ptr h.next 0) h'=some (.int .i64 (n:Int)):=by rw [ak q0];rfl
  have lr:ai none (.ptr h.next 1) h'=some a:=by rw [ak q0];rfl
  have l2:ai none (.ptr (h.next+1) 2) h'=some w:=by rw [ak q1];rfl
  have ox:=o.ext qx
  obtain ⟨ba,_,hba,ia,_,la⟩:=ox.get ee hvr
  have la0:=la 0 (by omega);have la1:=la 1 (by omega);have la2:=la 2 (by omega)
  rw [hr3] at la0 la1 la2
  rw [Nat.add_zero] at la0
  have htl:ts.length=i:=by have:=congrArg List.length hts;rw [List.length_map,List.length_map,List.length_take,Nat.min_eq_left (by omega)] at this;exact this
  rw [F.ij.aO]
  simp only [e1,e3,e4,aU,Nat.reduceAdd,Nat.reduceEqDiff,reduceIte,lr,ls,o.len,bX,l2,bg hi,ia .i64,la0,la1,la2]
  refine an (ym n1 n2 k12 hkc (htup r hrm) hkt fun h3 b x3 y1 y2 y3=>?_)
  have q03:h3.get h.next=some (.cells [.int .i64 (n:Int),a]):=by rw [x3.get _ (by omega)];exact q0
  have q13:h3.get (h.next+1)=some (.cells [.int .i64 (n:Int),.int .i64 (rs.length:Int),w,.nils,.nils,.bool false]):=by rw [x3.get _ (by omega)];exact q1
  have l23:ai none (.ptr (h.next+1) 2) h3=some w:=by rw [ak q13];rfl
  have tA3:=tA.ext x3
  have hb5:(bitsOf n kk r.tuples.l).length=n ^ kk:=kH _ _ _
  obtain ⟨a5,h5,p5,t5,f5,n5,x5,b5⟩:=tA3.push (by have:=x3.next;omega) (by rw [hm];omega) ⟨r.name,kk,b,bitsOf n kk r.tuples.l⟩ (by show h.next+2≤b;omega) y2 (fun e=>by have:=tA.own.lt e;simp only at this;omega) y3 (fun p hp e=>by have:=(tA.cell p hp).2.1;simp only at e;omega)
  have row1:fc [(.str []),(.int .i64 0),.nils] [(0,3)] [.agg [.str r.name,.int .i64 (kk:Int),.slice b 0 (n ^ kk) 1]]=some (jC ⟨r.name,kk,b,bitsOf n kk r.tuples.l⟩):=by
   unfold jC;simp only [hb5];rfl
  have hne:∀ d,d<h.next+2→de w≠some d:=fun d hd hb=>by have:=tA.own.ge hb;omega
  have s1:h5.get (h.next+1)=some (.cells [.int .i64 (n:Int),.int .i64 (rs.length:Int),w,.nils,.nils,.bool false]):=by rw [f5 _ (by have:=x3.next;omega) (hne _ (by omega))];exact q13
  have c5:=t5.own.oO
  have st:bp 1 (.ptr (h.next+1) 2) a5 h5=some (h5.set (h.next+1) (.cells [.int .i64 (n:Int),.int .i64 (rs.length:Int),a5,.nils,.nils,.bool false])):=by
   rw [cT (n:=1) s1 c5.2.1 c5.1 (by simp),c5.2.2];rfl
  simp only [aU,Nat.reduceAdd,Nat.reduceEqDiff,reduceIte,l23,AV.beq_refl,Bool.and_self,if_true,row1,p5,e3,e4,bX,st,aI hi hbig]
  refine hnx _ _ ⟨a5,_,?_,by rw [ag.aN,if_pos rfl],t5.low (by omega) _,?_,(x5 h (qx.trans x3) (by omega)).set (by omega) _,by rw [ag.next_set];have:=x3.next;omega,e1,e3,rfl⟩
  ·rw [ag.aN,if_neg (by omega),f5 _ (by have:=x3.next;omega) (hne _ (by omega))];exact q03
  ·rw [List.map_append,hts,List.take_add_one,hvr,List.map_append]
   simp only [List.map_cons,List.map_nil,Option.toList_some,cC,m8]
   rw [show r.arity.toNat=kk by omega]
 ·rintro e h' ⟨w,ts,q0,q1,tA,hts,qx,qn,e1,e3,e4⟩ K' hx
  rw [List.take_of_length_le (Nat.le_refl _)] at hts
  have lr:ai none (.ptr h.next 1) h'=some a:=by rw [ak q0];rfl
  rw [F.ij.aO]
  simp only [e1,e4,aU,Nat.reduceAdd,Nat.reduceEqDiff,reduceIte,lr,o.len,aR]
  rw [hx,F.ij.aD]
  simp only [bH,Nat.reduceEqDiff,reduceIte,e3]
  exact hK (h.next+1) w h' ts _ qx (by omega) (by omega) q1 rfl ⟨tA.own.weak (by omega),fun t ht=>by obtain ⟨d1,d2,d3,d4⟩:=tA.cell t ht;exact ⟨by omega,d2,d3,d4⟩,tA.inj⟩ hts
theorem AW{n k:Nat}(n1:1≤n)(n2:n≤64){a:AV}{rs:List Rel}{h:ag}(o:Own aQ 3 k h a rs)(hrl:rs.length≤1000)(hrel:∀ r ∈ rs,ki n r=true)(htup:∀ r ∈ rs,r.tuples.l.length≤cy){K:Out→ag→Bool}
  (hK:∀ w h' ts,bJ h h'→eA h.next h' w ts→ts.map cC=rs.map (m8 n)→K (.ret w) h'=true):Sem Tryz.prog 57 [.agg [.int .i64 (n:Int),a]] h K:=by
 obtain ⟨ho1,ho2⟩:=kV o
 have one2:bN [.int .i64 (n:Int),a]=true:=by simp only [bN,Bool.and_true] at ho1 ⊢;rw [ho1];rfl
 refine F.vA ?_
 have b0:(h.alloc (.cells [.int .i64 (n:Int),a])).get h.next=some (.cells [.int .i64 (n:Int),a]):=aB _ _
 have bx:bJ h (h.alloc (.cells [.int .i64 (n:Int),a])):=bJ.alloc _ _
 have hp2:gW (some 2) [.int .i64 (n:Int),a] 0=some (.agg [.int .i64 (n:Int),a]):=rfl
 simp only [cU one2,bindO_some,ak b0,hp2]
 refine an (GA n1 n2 (o.ext bx) hrl hrel htup fun b w h' ts cs x1 y1 y2 y3 y4 tA hts=>?_)
 have lw:ai none (.ptr b 2) h'=some w:=by rw [ak y3,nH];exact y4
 simp only [aU,Nat.reduceAdd,Nat.reduceEqDiff,reduceIte,bX,lw]
 exact hK w h' ts (bx.trans x1) ⟨tA.own.weak bx.next,fun t ht=>by obtain ⟨d1,d2,d3,d4⟩:=tA.cell t ht;exact ⟨Nat.le_trans bx.next d1,d2,d3,d4⟩,tA.inj⟩ hts
end
end Go.AM
namespace Go.AM
open Go Go.Proofs
noncomputable section
def kO(rs:List aE)(s:ej)(nm:bG):Nat:=s.rels.l.length+(cO rs).idxOf nm
theorem rM{rs:List aE}{s:ej}{rs':List Rel}(hrs:rs'.map cY=s.rels.l.map cY++fE rs (cO rs)){q:Rel}(hq:q ∈ rs') :
  (∃ p ∈ s.rels.l,p.name=q.name∧p.arity=q.arity∧p.tuples.l.map Sl.l=q.tuples.l.map Sl.l)∨(q.name ∈ bC rs∧q.arity=(iK rs q.name:Int)∧q.tuples.l = []):=by
 have hd:cY q ∈ s.rels.l.map cY++fE rs (cO rs):=by rw [← hrs];exact List.mem_map_of_mem hq
 rcases List.mem_append.1 hd with hd|hd
 ·obtain ⟨p,hp,e⟩:=List.mem_map.1 hd
  unfold cY at e
  simp only [Prod.mk.injEq] at e
  exact .inl ⟨p,hp,e.1,e.2.1,e.2.2⟩
 ·obtain ⟨nm,hnm,e⟩:=List.mem_map.1 hd
  unfold cY at e
  simp only [Prod.mk.injEq] at e
  refine .inr ⟨by rw [← e.1];exact (dQ rs).1 hnm,by rw [← e.1];exact e.2.1.symm,?_⟩
  have:=e.2.2
  simpa using this.symm
theorem AY{n:Nat}:∀ {l m:List (Sl Int)} (d:List Bool),l.map Sl.l=m.map Sl.l→j5 n l d=j5 n m d
 |[],[],d,_=>rfl
 |[],_ :: _,d,h=>by simp at h
 |_ :: _,[],d,h=>by simp at h
 |t :: l,u :: m,d,h=>by
  simp only [List.map_cons,List.cons.injEq] at h
  rw [j5,j5,h.1,AY _ h.2]
theorem GB{n k:Nat}{l m:List (Sl Int)}(h:l.map Sl.l=m.map Sl.l):bitsOf n k l=bitsOf n k m:=AY _ h
section
variable {rs:List aE} {s:ej} {rs':List Rel} {n:Nat} {m:dJ}
theorem GC(ho:jo rs s)(hgo:dG rs []=some m)(hrs:rs'.map cY=s.rels.l.map cY++fE rs (cO rs)):Fc s.size (rs'.map cY):=by
 have h5:=ho.sizes
 have:=(xw ho.good hgo ho.valid (fun h=>ho.names (.inr h)) hrs).2 fun h=>h5 (h.elim .inl fun h=>.inr (.inl h))
 exact nU.1 this
theorem MH(ho:jo rs s)(hgo:dG rs []=some m)(hn:s.size=(n:Int))(hrs:rs'.map cY=s.rels.l.map cY++fE rs (cO rs)){q:Rel}(hq:q ∈ rs'):ki n q=true:=by
 have:=(GC ho hgo hrs).rel _ (List.mem_map_of_mem hq)
 rw [show s.size.toNat=n by omega] at this
 exact AT.2 this
theorem Cw(ho:jo rs s)(hgo:dG rs []=some m)(hrs:rs'.map cY=s.rels.l.map cY++fE rs (cO rs)):((rs'.map (m8 n)).map gv.name).Nodup:=by
 have:=(GC ho hgo hrs).names
 rw [List.map_map] at this ⊢
 exact this
theorem MI(ho:jo rs s)(hgo:dG rs []=some m)(hn:s.size=(n:Int))(hrs:rs'.map cY=s.rels.l.map cY++fE rs (cO rs)){r:aE}(hr:r ∈ rs):kW n r (rs'.map (m8 n)):=by
 have hp:=GC ho hgo hrs
 have hlen:rs'.length≤8:=by have:=hp.lB;simpa using this
 refine ⟨by rw [List.length_map];unfold cy;omega,fun c hc=>uV (rK ho.good hr hc),fun c hc k0=>?_⟩
 have hat:=Cp hr hc k0
 have hnn:s.size.toNat=n:=by omega
 by_cases hd:c.name ∈ bC rs
 ·obtain ⟨_,q,hq,hqn,har⟩:=rL hgo hd
  have hl:q.args.l.length=c.args.l.length:=by
   have:=nc hgo (kM hq) (by rw [hqn];exact hat)
   omega
  refine ⟨?_,fun t ht htn=>?_⟩
  ·rw [← hl,← hnn]
   exact Nat.le_of_not_lt fun h=>ho.sizes (.inr (.inl ⟨q,hq,h⟩))
  ·obtain ⟨p,hp',rfl⟩:=List.mem_map.1 ht
   replace htn:p.name=c.name:=htn
   show (bitsOf n p.arity.toNat p.tuples.l).length=_
   rw [kH]
   rcases rM hrs hp' with ⟨u,hu,hun,_⟩|⟨_,ha,_⟩
   ·exact absurd (.inr ⟨u,hu,by rw [hun,htn];exact hd⟩) ho.names
   ·rw [htn,har,hl] at ha
    congr 1;omega
 ·cases hf:s.rels.l.find? (lI c.name (c.args.l.length:Int)) with
  |none=>exact absurd (.inl ⟨_,hat,hd,hf⟩) ho.names
  |some q=>
   obtain ⟨hq,hqn,hqa⟩:=Cq hf
   obtain ⟨i,hi⟩:=List.mem_iff_getElem?.1 hq
   have hrb:=uO ho.valid hi
   rw [hnn] at hrb
   obtain ⟨k,hk,k12,hkc,hkt⟩:=uQ hrb
   have hkl:k=c.args.l.length:=by omega
   refine ⟨by rw [← hkl];exact hkc,fun t ht htn=>?_⟩
   obtain ⟨p,hp',rfl⟩:=List.mem_map.1 ht
   replace htn:p.name=c.name:=htn
   show (bitsOf n p.arity.toNat p.tuples.l).length=_
   rw [kH]
   rcases rM hrs hp' with ⟨u,hu,hun,hua,_⟩|⟨hh,_,_⟩
   ·have h1:=Cr ho.valid hu
    have h2:=Cr ho.valid hq
    rw [hun,htn] at h1
    rw [hqn,h1] at h2
    have:=Option.some.inj h2
    rw [this] at hua
    congr 1;omega
   ·exact absurd (by rw [← htn];exact hh) hd
theorem NM(ho:jo rs s)(hgo:dG rs []=some m)(hrs:rs'.map cY=s.rels.l.map cY++fE rs (cO rs)){nm:bG}(hnm:nm ∈ bC rs):∃ q,rs'[kO rs s nm]?=some q∧q.name=nm∧q.arity=(iK rs nm:Int)∧q.tuples.l = []:=by
 have hd:=(dQ rs).2 hnm
 have h1:(cO rs).idxOf nm<(cO rs).length:=List.idxOf_lt_length_of_mem hd
 have h2:(rs'.map cY)[kO rs s nm]?=some (nm,(iK rs nm:Int),[]):=by
  rw [hrs,List.getElem?_append_right (by unfold kO;rw [List.length_map];omega)]
  unfold kO fE
  rw [List.length_map,Nat.add_sub_cancel_left,List.getElem?_map,List.getElem?_eq_getElem h1,List.getElem_idxOf]
  rfl
 rw [List.getElem?_map] at h2
 obtain ⟨q,h3,h4⟩:=Option.map_eq_some_iff.1 h2
 unfold cY at h4
 simp only [Prod.mk.injEq] at h4
 exact ⟨q,h3,h4.1,h4.2.1,by simpa using h4.2.2⟩
theorem GD(ho:jo rs s)(hgo:dG rs []=some m)(hrs:rs'.map cY=s.rels.l.map cY++fE rs (cO rs)):fI n (kO rs s) rs (rs'.map (m8 n)):=by
 refine ⟨Cw ho hgo hrs,fun r hr=>?_⟩
 obtain ⟨q,h1,h2,h3,h4⟩:=NM ho hgo hrs (List.mem_map_of_mem hr:r.name ∈ bC rs)
 refine ⟨m8 n q,by rw [List.getElem?_map,h1];rfl,h2,?_⟩
 show (bitsOf n q.arity.toNat q.tuples.l).length=_
 rw [kH,h3,Dv hgo hr]
 rfl
theorem Kf(ho:jo rs s)(hgo:dG rs []=some m)(hrs:rs'.map cY=s.rels.l.map cY++fE rs (cO rs)):ez (rs'.map (m8 n))=AL n s:=by
 have hnd:=Cw (n:=n) ho hgo hrs
 funext nm k
 unfold AL
 cases hf:s.rels.l.find? (fC nm) with
 |some r=>
  have hr:=List.mem_of_find?_eq_some hf
  have hrn:=List.find?_some hf
  simp only [fC,beq_iff_eq] at hrn
  have hd:cY r ∈ rs'.map cY:=by rw [hrs];exact List.mem_append_left _ (List.mem_map_of_mem hr)
  obtain ⟨q,hq,hqe⟩:=List.mem_map.1 hd
  unfold cY at hqe
  simp only [Prod.mk.injEq] at hqe
  obtain ⟨i,hi⟩:=List.mem_iff_getElem?.1 hq
  have:=nS hnd (j:=i) (t:=m8 n q) (by rw [List.getElem?_map,hi];rfl) k
  rw [show (m8 n q).name=nm by show q.name=nm;rw [hqe.1,hrn]] at this
  rw [this]
  show (bitsOf n q.arity.toNat q.tuples.l).getD k false=_
  rw [hqe.2.1,GB hqe.2.2]
 |none=>
  unfold ez
  cases hft:(rs'.map (m8 n)).find? (fun t=>t.name==nm) with
  |none=>rfl
  |some t=>
   have ht:=List.mem_of_find?_eq_some hft
   have htn:=List.find?_some hft
   rw [beq_iff_eq] at htn
   obtain ⟨q,hq,rfl⟩:=List.mem_map.1 ht
   replace htn:q.name=nm:=htn
   rcases rM hrs hq with ⟨p,hp,hpn,_⟩|⟨_,_,ht0⟩
   ·rw [List.find?_eq_none] at hf
    exact absurd (hf p hp) (by simp [fC,hpn,htn])
   ·show (bitsOf n q.arity.toNat q.tuples.l).getD k false=false
    rw [ht0]
    exact E6 _ _
end
def wC(ts:List gv):Nat:=(ts.map fun t=>t.bits.count false).sum
theorem MJ{ts:List gv}:∀ {j:Nat} {t:gv} {i:Nat},ts[j]?=some t→t.bits[i]?=some false→wC (ts.set j ⟨t.name,t.k,t.bits.set i true⟩)<wC ts:=by
 induction ts with
 |nil=>intro j t i h _;simp at h
 |cons q ts ih=>
  intro j t i h hb
  cases j with
  |zero=>
   simp at h;subst h
   have:=yJ q.bits i hb
   unfold wC
   rw [List.set_cons_zero,List.map_cons,List.map_cons,List.sum_cons,List.sum_cons]
   simp only;omega
  |succ j=>
   rw [List.getElem?_cons_succ] at h
   have:=ih h hb
   unfold wC at this ⊢
   rw [List.set_cons_succ,List.map_cons,List.map_cons,List.sum_cons,List.sum_cons]
   omega
structure QT (n:Nat) (jx:bG→Nat) (rs:List aE) (T:List gv) (s:List gv×Bool):Prop where
 ok:fI n jx rs s.1
 le:wC s.1≤wC T
 lt:s.2=true→wC s.1<wC T
 same:s.2=false→s.1=T
theorem QY{n:Nat}{jx:bG→Nat}{rs:List aE}{T:List gv}{r:aE}(hr:r ∈ rs){vs:List Int}(ha:xk n r vs){s:List gv×Bool}(q:QT n jx rs T s):QT n jx rs T (A0 n r (jx r.name) vs s):=by
 have hok:=Gm (r:=r) (vs:=vs) (j:=jx r.name) q.ok
 unfold A0 at hok ⊢
 obtain ⟨t,ht,htn,htl⟩:=q.ok.at_ r hr
 rw [ht] at hok ⊢
 simp only at hok ⊢
 split
 ·exact q
 ·rename_i hb
  rw [if_neg hb] at hok
  split
  ·rename_i happ
   rw [if_pos happ] at hok
   have hrk:gd n r vs<t.bits.length:=by rw [htl];exact AG ha
   have hbit:t.bits[gd n r vs]?=some false:=by
    rw [List.getD_eq_getElem?_getD,List.getElem?_eq_getElem hrk] at hb
    rw [List.getElem?_eq_getElem hrk]
    simp only [Option.getD_some,Bool.not_eq_true] at hb
    rw [hb]
   have hlt:=MJ ht hbit
   have:=q.le
   exact ⟨hok,by show wC (s.1.set _ _)≤_;omega,fun _=>by show wC (s.1.set _ _)<_;omega,fun h=>by cases h⟩
  ·exact q
theorem MK{n:Nat}(n1:1≤n){jx:bG→Nat}{rs qs:List aE}(hsub:∀ r ∈ qs,r ∈ rs){T:List gv}{s:List gv×Bool}(q:QT n jx rs T s):QT n jx rs T (jP n jx qs s):=by
 unfold jP
 refine fq (P:=fun s=>QT n jx rs T s) q fun s r hr hs=>?_
 unfold eU
 exact fq (P:=fun s=>QT n jx rs T s) hs fun s i hi hs=>QY (hsub r hr) (AH n1 (List.mem_range.1 hi)) hs
end
end Go.AM
namespace Go.AM
open Go Go.Proofs
noncomputable section
theorem Kg(s:St):eO Tryz.prog s Tryz.f16.results.toList=(match ai (some 2) (s.env 4) s.h,(some []:Option (List AV)) with|some v,some vs=>some (v :: vs)|_,_=>none):=by kernel_rfl
structure Q6 (n k0:Nat) (rs:List aE) (s:ej) (lv:Lev.Lv) (T0:List gv) (ts0:List dc) (w:AV) (h0:ag) (l:Nat) (ts:List dc) (h:ag):Prop where
 run:RunT n (kO rs s) rs lv T0 l (ts.map cC)
 shape:ts.map dc.shape=ts0.map dc.shape
 tabs:eA k0 h w ts
 old:∀ b,b<h0.next→(∀ t ∈ ts0,b≠t.blk)→h.get b=h0.get b
 next:h0.next≤h.next
set_option maxHeartbeats 2000000 in
theorem Fe{n k0:Nat}{rules:Sl aE}{s:ej}{lv:Lev.Lv}{T0:List gv}{ts0:List dc}{w:AV}{h0:ag}{d:Sl bG}{y:Sl Int}{l N:Nat}{SB OB:Nat}{x3:AV}(n1:1≤n)(n64:n≤64)(hn:s.size=(n:Int))(hfew:∀ r ∈ rules.l,r.lB)(hg:jN rules.l){m:dJ}(hgo:dG rules.l []=some m)(hpow:∀ r ∈ rules.l,n ^ r.args.l.length≤4096)
  (hok0:fI n (kO rules.l s) rules.l T0) (hfit0:∀ r ∈ rules.l,kW n r T0) (hT0:ts0.map cC=T0) (hrl:s.rels.l.length≤8) (hd:d.l=cO rules.l) (hy:y.l=nu (cO rules.l) lv) (hSB:∀ h ts,Q6 n k0 rules.l s lv T0 ts0 w h0 l ts h→True)
  {e0:Env} {h:ag} {ts:List dc} (hl:Q6 n k0 rules.l s lv T0 ts0 w h0 l ts h) (g0:h0.get SB=some (.cells (az s))) (g1:SB<h0.next) (g2:∀ t ∈ ts0,SB≠t.blk) (g3:∀ t ∈ ts0,t.blk<h0.next)
  (q0:e0 0=aq aM 3 rules) (q3:e0 3 = .ptr SB 0) (q4:e0 4=x3) (q5:e0 5 = .ptr OB 0) (q6:e0 6=w) (q7:e0 7=aq encS 1 d) (q8:e0 8=aq encI 1 y) (q10:e0 10 = .int .i64 (l:Int)) (q11:e0 11 = .bool true) {K:AX→St→Bool}
  (done:∀ (e:Env) h' ts',Q6 n k0 rules.l s lv T0 ts0 w h0 (l+1) ts' h'→e 0=aq aM 3 rules→e 3 = .ptr SB 0→e 4=x3→e 5 = .ptr OB 0→e 6=w→e 7=aq encS 1 d→e 8=aq encI 1 y→e 10 = .int .i64 (l:Int)→F.bu.jd K (.exit 2) ⟨e,122,[],h'⟩=true) :
  aT (au Tryz.prog (ah Tryz.prog) F.bu.L1) ⟨e0,122,[],h⟩ (F.bu.jd K)=true:=by
 have h60:=hg.lB
 have hrb:rules.l.length≤cy:=by unfold cy;omega
 have hgok:=fZ hgo
 have hdl:=j9 rules.l
 have hdb:d.l.length≤cy:=by rw [hd];unfold cy;omega
 have hdn:d.l.Nodup:=by rw [hd];exact qG (lf _)
 have hrun0:=hl.run
 refine iS (fun mm e h'=>∃ (ts':List dc) (fl:Bool),mm=(if fl=true then wC (ts'.map cC)+1 else 0)∧oU n (kO rules.l s) (eW lv rules.l l) (ts.map cC) (ts'.map cC)∧(fl=false→jP n (kO rules.l s) (eW lv rules.l l) (ts'.map cC,false)=(ts'.map cC,false)) ∧
   ts'.map dc.shape=ts0.map dc.shape∧eA k0 h' w ts'∧(∀ b,b<h0.next→(∀ t ∈ ts0,b≠t.blk)→h'.get b=h0.get b)∧h0.next≤h'.next∧fI n (kO rules.l s) rules.l (ts'.map cC) ∧
   e 0=aq aM 3 rules∧e 3 = .ptr SB 0∧e 4=x3∧e 5 = .ptr OB 0∧e 6=w∧e 7=aq encS 1 d∧e 8=aq encI 1 y∧e 10 = .int .i64 (l:Int)∧e 11 = .bool fl) (wC (ts.map cC)+1)
  ⟨ts,true,rfl,.refl,fun h=>(by cases h),hl.shape,hl.tabs,hl.old,hl.next,?_,q0,q3,q4,q5,q6,q7,q8,q10,q11⟩ ?_
 ·have key:∀ {t:Nat} {T:List gv},RunT n (kO rules.l s) rules.l lv T0 t T→fI n (kO rules.l s) rules.l T:=by
   intro t T h
   induction h with
   |zero=>exact hok0
   |succ l T T' _ hr _ ih=>exact rJ ih hr
  exact key hrun0
 rintro mm e h' ⟨ts',fl,hmm,hre,hst,hsh,hA,hold,hnx,hok,e0',e3,e4,e5,e6,e7,e8,e10,e11⟩
 rw [F.bu.dx]
 simp only [e11,condB_bool]
 cases fl with
 |false=>
  simp only [aG,loopK_exit]
  exact done _ h' ts' ⟨.succ l _ _ hrun0 hre (hst rfl),hsh,hA,hold,hnx⟩ e0' e3 e4 e5 e6 e7 e8 e10
 |true=>
 simp only [aJ]
 have hfit:∀ (u:List dc),u.map dc.shape=ts0.map dc.shape→∀ r ∈ rules.l,kW n r (u.map cC):=fun u hu r hr=>by
  have:=hfit0 r hr
  rw [← hT0] at this
  exact this.shape hu
 refine aC 0 rules.l.length (Nat.zero_le _) (fun i e h2=>∃ (u:List dc) (c:Bool),(u.map cC,c)=jP n (kO rules.l s) (eW lv (rules.l.take i) l) (ts'.map cC,false)∧QT n (kO rules.l s) rules.l (ts'.map cC) (u.map cC,c) ∧
   u.map dc.shape=ts0.map dc.shape∧eA k0 h2 w u∧(∀ b,b<h0.next→(∀ t ∈ ts0,b≠t.blk)→h2.get b=h0.get b)∧h0.next≤h2.next ∧
   e 0=aq aM 3 rules∧e 3 = .ptr SB 0∧e 4=x3∧e 5 = .ptr OB 0∧e 6=w∧e 7=aq encS 1 d∧e 8=aq encI 1 y∧e 10 = .int .i64 (l:Int)∧e 11 = .bool c∧e 12 = .int .i64 (i:Int))
  ⟨ts',false,rfl,⟨hok,Nat.le_refl _,fun h=>(by cases h),fun _=>rfl⟩,hsh,hA,hold,hnx,e0',e3,e4,e5,e6,e7,e8,e10,rfl,rfl⟩ ?_ ?_
 ·rintro i e h2 _ hi ⟨u,c,hu,hq,hsh2,hA2,hold2,hnx2,e0',e3,e4,e5,e6,e7,e8,e10,e11,e12⟩ K2 hn2 hx2 hr2 hp2
  have hv:rules.l[i]?=some rules.l[i]:=List.getElem?_eq_getElem hi
  generalize rules.l[i]=r at hv
  have hrm:=List.mem_of_getElem? hv
  have hstep:=uJ (lv:=lv) (l:=l) hv
  have hnm:r.name ∈ d.l:=by rw [hd];exact (dQ _).2 (List.mem_map_of_mem hrm)
  have hix:d.l.idxOf r.name<d.l.length:=List.idxOf_lt_length_of_mem hnm
  have lh:∀ hh,ai none (.iptr (rules.l.flatMap aM) (i*3)) hh=some (.str r.name):=fun hh=>fh fK hv (by omega:0<3)
  have hyl:y.l.length=d.l.length:=by rw [hy,uK,hd]
  have hyv:y.l[d.l.idxOf r.name]?=some (lv r.name:Int):=by rw [hy];exact mM (by rw [hd] at hix ⊢;rw [List.getElem?_eq_getElem hix,List.getElem_idxOf])
  have i8:=aW (enc:=encI) (sz:=1) (k:=.i64) y (i:=d.l.idxOf r.name) (by omega)
  have l8:∀ hh,ai none (.iptr (y.l.flatMap encI) (d.l.idxOf r.name*1)) hh=some (.int .i64 (lv r.name:Int)):=fun hh=>fN hyv
  rw [F.bu.Eg]
  simp only [e0',e7,e12,aU,Nat.reduceAdd,Nat.reduceEqDiff,reduceIte,bg hi,aW rules hi,lh]
  refine an (Cs hdn hdb hnm ?_)
  simp only [aU,Nat.reduceAdd,Nat.reduceEqDiff,reduceIte,e0',e8,e10,e12,i8,l8,cQ]
  by_cases hlv:lv r.name=l
  ·rw [if_pos hlv] at hstep
   have gSB:h2.get SB=some (.cells (az s)):=by rw [hold2 SB g1 g2];exact g0
   have lz:ai none (.ptr SB 0) h2=some (.int .i64 (n:Int)):=by rw [ak gSB,← hn];rfl
   have lr:ai none (.ptr SB 1) h2=some (aq aQ 3 s.rels):=by rw [ak gSB];rfl
   have hadd:aA .add (.int .i64 (s.rels.l.length:Int)) (.int .i64 ((d.l.idxOf r.name:Nat):Int))=some (.int .i64 ((s.rels.l.length+d.l.idxOf r.name:Nat):Int)):=by
    rw [gH (by rw [hd] at hix ⊢;omega) (by rw [hd] at hix ⊢;omega)];rfl
   have hjx:s.rels.l.length+d.l.idxOf r.name=kO rules.l s r.name:=by unfold kO;rw [hd]
   obtain ⟨t,ht,htn,htl⟩:=hq.ok.at_ r hrm
   simp only at ht
   rw [List.getElem?_map] at ht
   obtain ⟨tb,htb,rfl⟩:=Option.map_eq_some_iff.1 ht
   simp only [decide_eq_true (by omega:(lv r.name:Int)=(l:Int)),aJ,aU,Nat.reduceAdd,Nat.reduceEqDiff,reduceIte,aW rules hi,dN fK hv,e3,e6,lz,lr,hadd]
   rw [hjx]
   refine an (ew n1 n64 (hfew r hrm) (hgok r hrm).2.2 (jQ (hgok r hrm).1) (hpow r hrm) hA2 (hfit u hsh2 r hrm) htb htl fun h3 u3 a1 a2 a3 a4 a5=>?_)
   have hfl:=xq (n:=n) (r:=r) (j:=kO rules.l s r.name) (n ^ (varsOf r).length) (u.map cC) c
   have hpass:(u3.map cC,c||(eU n r (kO rules.l s r.name) (n ^ (varsOf r).length) (u.map cC,false)).2)=jP n (kO rules.l s) (eW lv (rules.l.take (i+1)) l) (ts'.map cC,false):=by
    rw [hstep,Gl,← hu,hfl,← a1]
   have hq3:QT n (kO rules.l s) rules.l (ts'.map cC) (u3.map cC,c||(eU n r (kO rules.l s r.name) (n ^ (varsOf r).length) (u.map cC,false)).2):=by
    have:jP n (kO rules.l s) [r] (u.map cC,c)=(u3.map cC,c||(eU n r (kO rules.l s r.name) (n ^ (varsOf r).length) (u.map cC,false)).2):=by
     unfold jP
     simp only [List.foldl_cons,List.foldl_nil]
     rw [hfl,← a1]
    rw [← this]
    exact MK n1 (fun q hq=>by rw [List.mem_singleton] at hq;subst hq;exact hrm) hq
   have hsh3:u3.map dc.shape=ts0.map dc.shape:=by rw [a2,hsh2]
   have hold3:∀ b,b<h0.next→(∀ t ∈ ts0,b≠t.blk)→h3.get b=h0.get b:=fun b b1 b2=>by
    rw [a4 b (by omega) (fun t ht e=>by
     obtain ⟨p,hp,hpe⟩:=wA hsh2 ht
     unfold dc.shape at hpe
     simp only [Prod.mk.injEq] at hpe
     exact b2 p hp (by rw [e,hpe.2.2.1]))]
    exact hold2 b b1 b2
   simp only [aU,Nat.reduceAdd,Nat.reduceEqDiff,reduceIte]
   generalize (eU n r (kO rules.l s r.name) (n ^ (varsOf r).length) (u.map cC,false)).2=g at hpass hq3
   cases g with
   |true=>
    rw [Bool.or_true] at hpass hq3
    simp only [aJ,e12,aI hi hrb,bindO_some]
    exact hn2 _ _ ⟨u3,true,hpass,hq3,hsh3,a3,hold3,by omega,e0',e3,e4,e5,e6,e7,e8,e10,rfl,rfl⟩
   |false=>
    rw [Bool.or_false] at hpass hq3
    simp only [aG,e12,aI hi hrb,bindO_some]
    exact hn2 _ _ ⟨u3,c,hpass,hq3,hsh3,a3,hold3,by omega,e0',e3,e4,e5,e6,e7,e8,e10,e11,rfl⟩
  ·rw [if_neg hlv,List.append_nil] at hstep
   simp only [decide_eq_false (by omega:¬ (lv r.name:Int)=(l:Int)),aG,e12,aI hi hrb,bindO_some]
   exact hn2 _ _ ⟨u,c,by rw [hstep];exact hu,hq,hsh2,hA2,hold2,hnx2,e0',e3,e4,e5,e6,e7,e8,e10,e11,rfl⟩
 ·rintro e h2 ⟨u,c,hu,hq,hsh2,hA2,hold2,hnx2,e0',e3,e4,e5,e6,e7,e8,e10,e11,e12⟩ K2 hx2
  rw [List.take_of_length_le (Nat.le_refl _)] at hu
  rw [F.bu.Eg]
  simp only [e0',e12,aU,Nat.reduceAdd,Nat.reduceEqDiff,reduceIte,aR]
  rw [hx2,F.bu.Jv]
  have hre2:oU n (kO rules.l s) (eW lv rules.l l) (ts.map cC) (u.map cC):=by
   have:=oU.step (n:=n) (jx:=kO rules.l s) (rs:=eW lv rules.l l) _ hre
   rw [← hu] at this
   exact this
  cases c with
  |true=>
   have hlt:=hq.lt rfl
   simp only [if_true] at hmm
   refine cD.2 ⟨wC (u.map cC)+1,by simp only at hlt;omega,rfl,rfl,u,true,rfl,hre2,fun h=>(by cases h),hsh2,hA2,hold2,hnx2,hq.ok,e0',e3,e4,e5,e6,e7,e8,e10,e11⟩
  |false=>
   have hsame:=hq.same rfl
   simp only at hsame
   refine cD.2 ⟨0,by rw [hmm];simp,rfl,rfl,u,false,rfl,hre2,fun _=>?_,hsh2,hA2,hold2,hnx2,hq.ok,e0',e3,e4,e5,e6,e7,e8,e10,e11⟩
   rw [hsame,← hu,hsame]
end
end Go.AM
namespace Go.AM
open Go Go.Proofs
noncomputable section
theorem Cx{α:Type}{enc:α→List AV}{sz:Nat}(x:Sl α):bN [aq enc sz x]=true∧(aq enc sz x).dM = [aq enc sz x]:=by cases x<;>exact ⟨rfl,rfl⟩
def IJ(r:Rel):BE:=(r.name,r.arity,⟨aq eN 1 r.tuples,(Cx r.tuples).1,(Cx r.tuples).2⟩)
theorem GF(r:Rel):gE (IJ r)=aQ r:=rfl
theorem Kh{α β:Type}{enc:α→List AV}{enc':β→List AV}{sz k:Nat}{h:ag}{a:AV}{l:List α}(o:Own enc sz k h a l)(f:α→β)(hf:∀ x,enc' (f x)=enc x):Own enc' sz k h a (l.map f):=by
 cases o with
 |nil=>exact .nil
 |row b l h1 h2 h3=>
  have:(l.map f).flatMap enc'=l.flatMap enc:=by rw [List.flatMap_map];congr 1;funext x;exact hf x
  have hl:l.length=(l.map f).length:=by rw [List.length_map]
  rw [hl]
  exact .row b _ h1 h2 (by rw [h3,this])
theorem iJ.QZ{k:Nat}{h:ag}{a:AV}{l:List Rel}(o:Own aQ 3 k h a l):iJ (fun _=>False) gE aQ 3 k h a (l.map fun r=>(IJ r,r)):=
 ⟨by rw [List.map_map];exact Kh o (fun r=>IJ r) GF,fun p hp h' _=>by
  obtain ⟨r,_,rfl⟩:=List.mem_map.1 hp
  exact .dS (m7 r),fun _ _ h=>h⟩
theorem ML{α:Type}(A C:List α)(c v:α):(A++c :: C).set A.length v=A++v :: C:=by
 rw [List.set_append_right _ _ (Nat.le_refl _),Nat.sub_self];rfl
theorem Own.M8{k:Nat}{h:ag}{a:AV}{m:List BE}(o:Own gE 3 k h a m){i:Nat}{q:BE}(hp:m[i]?=some q)(v:J5) :
  ∃ b cs,cS 3 a (.int .i64 (i:Int))=some (.ptr b (i*3))∧de a=some b∧b<h.next∧ai none (.ptr b (i*3+2)) h=some q.2.2.1∧bp 1 (.ptr b (i*3+2)) v.1 h=some (h.set b (.cells cs))∧Own gE 3 k (h.set b (.cells cs)) a (m.set i (q.1,q.2.1,v)):=by
 have hg:=o.get jR hp
 cases o with
 |nil=>simp at hp
 |row b m h1 h2 h3=>
  have hmi:=(List.getElem?_eq_some_iff.1 hp).1
  have hcells:((m.flatMap gE).set (i*3+2) v.1)=(m.set i (q.1,q.2.1,v)).flatMap gE:=by
   clear h3 hg
   have:∀ (m:List BE) (i:Nat) (q:BE),m[i]?=some q→(m.flatMap gE).set (i*3+2) v.1=(m.set i (q.1,q.2.1,v)).flatMap gE:=by
    intro m
    induction m with
    |nil=>intro i q hq;simp at hq
    |cons x m ih=>
     intro i q hq
     cases i with
     |zero=>
      simp at hq;subst hq
      rw [List.set_cons_zero,List.flatMap_cons,List.flatMap_cons,List.set_append_left _ _ (by simp [gE])]
      rfl
     |succ i=>
      rw [List.getElem?_cons_succ] at hq
      rw [List.set_cons_succ,List.flatMap_cons,List.flatMap_cons,List.set_append_right _ _ (by rw [jR];omega)]
      have:(i+1)*3+2-(gE x).length=i*3+2:=by rw [jR];omega
      rw [this,ih i q hq]
   exact this m i q hp
  have hlen:(m.flatMap gE).length=m.length*3:=gq jR m
  obtain ⟨b',_,_,i3,_,i5⟩:=hg
  have hia:∀ q:IntKind,cS 3 (.slice b 0 m.length 3) (.int q (i:Int))=some (.ptr b (i*3)):=fun q=>by simp [cS,asNat,hmi]
  obtain rfl:b'=b:=by have:=i3 .i64;rw [hia .i64] at this;cases this;rfl
  have ho:=v.2
  refine ⟨b',(m.flatMap gE).set (i*3+2) v.1,hia .i64,rfl,h2,by rw [i5 2 (by omega)];rfl,?_,?_⟩
  ·rw [cT (n:=1) h3 (by rw [ho.2];rfl) (by rw [ho.2];exact ho.1) (by rw [hlen];omega),ho.2];rfl
  ·rw [hcells]
   have:m.length=(m.set i (q.1,q.2.1,v)).length:=by rw [List.length_set]
   rw [this]
   exact .row b' _ h1 (by rw [ag.next_set];exact h2) (by rw [ag.aN,if_pos rfl])
def NN:J5:=⟨.nils,rfl,rfl⟩
theorem Dx{α:Type}{l l':List α}{i:Nat}{v:α}(hv:l'[i]?=some v)(ho:∀ j,j≠i→l'[j]?=l[j]?)(hl:l'.length=l.length):l'=l.set i v:=by
 refine List.ext_getElem? fun j=>?_
 rw [List.getElem?_set]
 by_cases e:i=j
 ·subst e
  have:=(List.getElem?_eq_some_iff.1 hv).1
  rw [if_pos rfl,if_pos (by omega)];exact hv
 ·rw [if_neg e];exact ho j fun e'=>e e'.symm
set_option maxHeartbeats 4000000 in
theorem bu{rules:Sl aE}{s:ej}(hfew:∀ r ∈ rules.l,r.lB)(ho:jo rules.l s){h:ag}{K:Out→ag→Bool}
  (hK:∀ out:ej,out.size=s.size→(∃ F,mN rules.l s.size.toNat s F∧out.rels.l.map cY=s.rels.l.map cY++nx rules.l s.size.toNat F (cO rules.l))→K (.ret (.agg (az out))) h=true) :
  Sem Tryz.prog 16 [aq aM 3 rules,.agg (az s)] h K:=by
 have hm:cX=140737488355328:=rfl
 have hg:=ho.good
 have hsv:=ho.valid
 obtain ⟨n,hn,n1,n64,h8⟩:=nR hsv
 have hnn:s.size.toNat=n:=by omega
 obtain ⟨m,hgo⟩:=hg.go
 have hgok:=fZ hgo
 have h20:∀ r ∈ rules.l,r.body.l.length≤20:=fun r hr=>(hgok r hr).2.1
 have h60:=hg.lB
 have hdl:=j9 rules.l
 have hpow:∀ r ∈ rules.l,n ^ r.args.l.length≤4096:=fun r hr=>by
  rw [← hnn]
  exact Nat.le_of_not_lt fun h=>ho.sizes (.inr (.inl ⟨r,hr,h⟩))
 have gen:∀ R:Out→ag→Bool,(∀ h' a (x:Sl Rel) Fk,Fz true h' a (aq aQ 3 x)→mN rules.l n s Fk→x.l.map cY=s.rels.l.map cY++nx rules.l n Fk (cO rules.l)→R (.ret (.agg [.int .i64 s.size,a])) h'=true) →
   Sem Tryz.prog 16 [aq aM 3 rules,.agg (az s)] ag.empty R:=by
  intro R fin
  refine F.Bu ?_
  simp only [cU (dR s),bindO_some,bT,ag.next_alloc]
  have g0:((ag.alloc ag.empty (.cells (az s))).alloc (.cells [.int .i64 0,.nils])).get 0=some (.cells (az s)):=by simp [ag.bf,bT]
  have g1:((ag.alloc ag.empty (.cells (az s))).alloc (.cells [.int .i64 0,.nils])).get 1=some (.cells [.int .i64 0,.nils]):=by simp [ag.bf,bT]
  have gn:((ag.alloc ag.empty (.cells (az s))).alloc (.cells [.int .i64 0,.nils])).next=2:=rfl
  generalize ((ag.alloc ag.empty (.cells (az s))).alloc (.cells [.int .i64 0,.nils]))=H0 at g0 g1 gn ⊢
  have l0:ai (some 2) (.ptr 0 0) H0=some (.agg (az s)):=by rw [ak g0,dU (cs:=az s) (n:=2) rfl]
  simp only [l0,bindO_some]
  refine an (eu h60 h20 hgo (jI hsv).1 fun a h3 rs1 x3 o3 hrs1=>?_)
  obtain ⟨rs',hrs'⟩:∃ rs',rs'=rs1++kN rules.l (cO rules.l):=⟨_,rfl⟩
  rw [← hrs'] at o3
  have hrs:rs'.map cY=s.rels.l.map cY++fE rules.l (cO rules.l):=by rw [hrs',List.map_append,AU,hrs1]
  have hr1l:rs1.length=s.rels.l.length:=by have:=congrArg List.length hrs1;simpa using this
  have hrsl:rs'.length=s.rels.l.length+(cO rules.l).length:=by rw [hrs',List.length_append,hr1l];unfold kN;rw [List.length_map]
  obtain ⟨ho1,ho2⟩:=kV o3
  have one2:bN [.int .i64 s.size,a]=true:=by simp only [bN,Bool.and_true] at ho1 ⊢;rw [ho1];rfl
  obtain ⟨H4,hs4,p4,po4,pn4⟩:=cP (h:=h3) (zs:=[.int .i64 0,.nils]) (cs:=[.int .i64 s.size,a]) (n:=2) rfl rfl one2
  have x4:bJ h3 H4:=⟨by omega,fun b hb=>po4 b (by omega)⟩
  have n3:=x3.next
  rw [gn] at o3 n3
  have lo4:ai (some 2) (.ptr h3.next 0) H4=some (.agg [.int .i64 s.size,a]):=by rw [ak p4];rfl
  have oa:=o3.ext x4
  have htupb:∀ r ∈ rs',r.tuples.l.length≤cy:=fun r hr=>by
   rcases rM hrs hr with ⟨p,hp,_,_,e⟩|⟨_,_,e⟩
   ·have h1:=congrArg List.length e
    simp only [List.length_map] at h1
    have:=(jI hsv).1.tups p hp
    unfold cy;omega
   ·rw [e];exact Nat.zero_le _
  simp only [aU,Nat.reduceAdd,Nat.reduceEqDiff,reduceIte,hs4,lo4]
  rw [hn]
  refine an (AW n1 n64 oa (by omega) (fun r hr=>MH ho hgo hn hrs hr) htupb fun w h5 ts x5 tA hts=>?_)
  simp only [aU,Nat.reduceAdd,Nat.reduceEqDiff,reduceIte]
  refine an (cL h60 fun d hd=>?_)
  simp only [aU,Nat.reduceAdd,Nat.reduceEqDiff,reduceIte]
  refine an (aY h60 h20 (fun hb=>?_) fun y k hst hy=>?_)
  ·obtain ⟨k,hk⟩:=hg.lev
   exact absurd hk (hb k)
  have hdb:d.l.length≤cy:=by rw [hd];unfold cy;omega
  have n4:=x4.next
  have n5:=x5.next
  have p0:h5.get 0=some (.cells (az s)):=by rw [((x3.trans x4).trans x5).get 0 (by omega)];exact g0
  have p1:h5.get 1=some (.cells [.int .i64 0,.nils]):=by rw [((x3.trans x4).trans x5).get 1 (by omega)];exact g1
  have p5:h5.get h3.next=some (.cells [.int .i64 s.size,a]):=by rw [x5.get _ (by omega)];exact p4
  have htblk:∀ t ∈ ts,H4.next≤t.blk∧t.blk<h5.next:=fun t ht=>⟨(tA.cell t ht).1,(tA.cell t ht).2.1⟩
  have hok0:fI n (kO rules.l s) rules.l (rs'.map (m8 n)):=GD ho hgo hrs
  simp only [aU,Nat.reduceAdd,Nat.reduceEqDiff,reduceIte]
  refine aC 0 (d.l.length+1) (Nat.zero_le _) (fun l e h'=>∃ u,Q6 n H4.next rules.l s (Lev.iter (bO rules.l) k) (rs'.map (m8 n)) ts w h5 l u h'∧e 0=aq aM 3 rules∧e 3 = .ptr 0 0∧e 4 = .ptr 1 0∧e 5 = .ptr h3.next 0∧e 6=w∧e 7=aq encS 1 d∧e 8=aq encI 1 y∧e 10 = .int .i64 (l:Int))
   ⟨ts,⟨by rw [hts];exact .zero,rfl,tA,fun _ _ _=>rfl,Nat.le_refl _⟩,rfl,rfl,rfl,rfl,rfl,rfl,rfl,rfl⟩ ?_ ?_
  ·rintro l e h' _ hl ⟨u,hL,e0,e3,e4,e5,e6,e7,e8,e10⟩ K' hn' hx hr hp
   rw [F.bu.aO]
   simp only [e7,e10,aU,Nat.reduceAdd,Nat.reduceEqDiff,reduceIte,decide_eq_true (by omega:(l:Int)≤(d.l.length:Int)),aJ]
   refine Fe (N:=0) (x3:=.ptr 1 0) (OB:=h3.next) n1 n64 hn hfew hg hgo hpow hok0 (fun r hr=>MI ho hgo hn hrs hr) hts h8 hd hy (fun _ _ _=>trivial) hL p0 (by omega) (fun t ht=>by have:=(htblk t ht).1;omega) (fun t ht=>(htblk t ht).2) ?_ ?_ ?_ ?_ ?_ ?_ ?_ ?_ ?_ fun e' h2 u2 hL2 e0 e3 e4 e5 e6 e7 e8 e10=>?_
   ·exact e0
   ·exact e3
   ·exact e4
   ·exact e5
   ·exact e6
   ·exact e7
   ·exact e8
   ·exact e10
   ·rfl
   rw [F.bu.cw]
   simp only [aU,Nat.reduceAdd,Nat.reduceEqDiff,reduceIte,e10,aI (i:=l) (n:=62) (by rw [hd] at hl;omega) (by unfold cy;omega)]
   exact hn' _ _ ⟨u2,hL2,e0,e3,e4,e5,e6,e7,e8,rfl⟩
  ·rintro e h6 ⟨u,hL,e0,e3,e4,e5,e6,e7,e8,e10⟩ K' hx
   rw [F.bu.aO]
   simp only [e7,e10,aU,Nat.reduceAdd,Nat.reduceEqDiff,reduceIte,decide_eq_false (by omega:¬ ((d.l.length+1:Nat):Int)≤(d.l.length:Int)),aG]
   rw [hx,F.bu.aD]
   obtain ⟨hrun,hush,uA,uold,unx⟩:=hL
   have hlow:∀ b,b<H4.next→h6.get b=h5.get b:=fun b hb=>uold b (by omega) fun t ht=>by have:=(htblk t ht).1;omega
   have r0:h6.get 0=some (.cells (az s)):=by rw [hlow 0 (by omega)];exact p0
   have r1:h6.get 1=some (.cells [.int .i64 0,.nils]):=by rw [hlow 1 (by omega)];exact p1
   have r5:h6.get h3.next=some (.cells [.int .i64 s.size,a]):=by rw [hlow _ (by omega)];exact p5
   have hch:=(AI n1 (wz hst) hok0 hrun).1
   have hokU:=(AI n1 (wz hst) hok0 hrun).2
   rw [Kf ho hgo hrs] at hch
   have hN:∀ e ∈ bO rules.l,e.b ∈ cO rules.l∧e.h ∈ cO rules.l:=fun e he=>by
    obtain ⟨r,hr,c,hc,_,hin,rfl⟩:=mG he
    exact ⟨(dQ _).2 hin,(dQ _).2 (List.mem_map_of_mem hr)⟩
   have hw1:∀ e ∈ bO rules.l,e.w≤1:=fun e he=>by
    obtain ⟨r,hr,c,hc,_,hin,rfl⟩:=mG he
    exact Di r c
   have hfin:mN rules.l n s (ez (u.map cC)):=⟨k,d.l.length+1,hst,fun r hr=>by
    have:=Lev.low hN hw1 hst ((dQ _).2 (List.mem_map_of_mem hr):r.name ∈ cO rules.l)
    rw [hd];omega,hch⟩
   obtain ⟨Fk,hFk⟩:∃ Fk,Fk=ez (u.map cC):=⟨_,rfl⟩
   rw [← hFk] at hfin
   have oF0:E5 (fun _=>False) 2 h6 a (rs'.map fun r=>(IJ r,r)):=(iJ.QZ oa).keep (fun b b1 b2 _=>by rw [hlow b b2,x5.get b b2]) (by omega)
   have lr:ai none (.ptr 0 1) h6=some (aq aQ 3 s.rels):=by rw [ak r0];rfl
   have hrb:rs'.length≤cy:=by unfold cy;omega
   simp only [aU,Nat.reduceAdd,Nat.reduceEqDiff,reduceIte,e3,lr]
   have hlenA:∀ hh,bz .slice a hh=some (.int .i64 (rs'.length:Int)):=fun hh=>oa.len
   refine aC s.rels.l.length rs'.length (by omega) (fun i e h'=>∃ l,E5 (fun _=>False) 2 h' a l∧(l.map fun p=>cY p.2)=s.rels.l.map cY++nx rules.l n Fk ((cO rules.l).take (i-s.rels.l.length))++fE rules.l ((cO rules.l).drop (i-s.rels.l.length)) ∧
     (∀ j r,i≤j→rs'[j]?=some r→l[j]?=some (IJ r,r))∧(∀ b,b<h6.next→de a≠some b→h'.get b=h6.get b)∧h6.next≤h'.next∧e 3 = .ptr 0 0∧e 4 = .ptr 1 0∧e 5 = .ptr h3.next 0∧e 6=w∧e 14 = .int .i64 (i:Int))
    ⟨_,oF0,by rw [List.map_map];show rs'.map cY=_;rw [hrs];simp [nx],fun j r _ hr=>by rw [List.getElem?_map,hr];rfl,fun _ _ _=>rfl,Nat.le_refl _,e3,e4,e5,e6,rfl⟩ ?_ ?_
   ·rintro i e h' hai hi ⟨l,oF,hld,hun,hfr,hnx,e3,e4,e5,e6,e14⟩ K2 hn2 hx2 hr2 hp2
    have hOBa:de a≠some h3.next:=fun hb=>by have:=o3.lt hb;omega
    have q0:h'.get 0=some (.cells (az s)):=by rw [hfr 0 (by omega) (fun hb=>by have:=o3.ge hb;omega)];exact r0
    have q5:h'.get h3.next=some (.cells [.int .i64 s.size,a]):=by rw [hfr _ (by omega) hOBa];exact r5
    have lo:ai none (.ptr h3.next 1) h'=some a:=by rw [ak q5];rfl
    have lz:ai none (.ptr 0 0) h'=some (.int .i64 (n:Int)):=by rw [ak q0,← hn];rfl
    have hx1:i-s.rels.l.length<(cO rules.l).length:=by omega
    have hv:(cO rules.l)[i-s.rels.l.length]?=some (cO rules.l)[i-s.rels.l.length]:=List.getElem?_eq_getElem hx1
    generalize (cO rules.l)[i-s.rels.l.length]=nm at hv
    have hnm:nm ∈ bC rules.l:=(dQ _).1 (List.mem_of_getElem? hv)
    obtain ⟨hfa,rr,hrm,hrn,har⟩:=rL hgo hnm
    have hpw:=hpow rr hrm
    rw [← har] at hpw
    have hk12:iK rules.l nm≤12:=by rw [har];exact jQ (hgok rr hrm).1
    have hri:rs'[i]?=some ⟨nm,(iK rules.l nm:Int),none⟩:=by
     rw [hrs',List.getElem?_append_right (by omega),hr1l]
     unfold kN
     rw [List.getElem?_map,hv];rfl
    have hli:=hun i _ (Nat.le_refl _) hri
    have hlen:l.length=rs'.length:=by
     have:=congrArg List.length hld
     rw [List.length_map,List.length_append,List.length_append,List.length_map] at this
     unfold nx fE at this
     rw [List.length_map,List.length_map,List.length_take,List.length_drop] at this
     omega
    have hl1:(l.map (·.1))[i]?=some (IJ ⟨nm,(iK rules.l nm:Int),none⟩):=by rw [List.getElem?_map,hli];rfl
    obtain ⟨ba,_,hba,ia,_,la⟩:=oF.own.get jR hl1
    have la1:ai none (.ptr ba (i*3+1)) h'=some (.int .i64 (iK rules.l nm:Int)):=by rw [la 1 (by omega)];rfl
    have hshl:=Ct hush
    have htsl:ts.length=rs'.length:=by have:=congrArg List.length hts;simpa using this
    have huj:u[i]?=some (u[i]'(by omega)):=List.getElem?_eq_getElem _
    generalize u[i]'(by omega)=tb at huj
    have hst1:(u.map dc.shape)[i]?=some tb.shape:=by rw [List.getElem?_map,huj];rfl
    rw [hush,List.getElem?_map] at hst1
    obtain ⟨t0,ht0,hts0⟩:=Option.map_eq_some_iff.1 hst1
    have htT:(ts.map cC)[i]?=some (cC t0):=by rw [List.getElem?_map,ht0];rfl
    rw [hts,List.getElem?_map,hri] at htT
    have htT':=Option.some.inj htT
    have e1:t0.name=nm:=by have:=congrArg gv.name htT';exact this.symm
    have e2:t0.bits.length=n ^ iK rules.l nm:=by
     have:=congrArg (fun t:gv=>t.bits.length) htT'
     simp only [cC] at this
     rw [← this]
     show (bitsOf n ((iK rules.l nm:Int)).toNat []).length=_
     rw [kH];rfl
    unfold dc.shape at hts0
    simp only [Prod.mk.injEq] at hts0
    have htbn:tb.name=nm:=by rw [← hts0.1,e1]
    have htbl:tb.bits.length=n ^ iK rules.l nm:=by rw [← hts0.2.2.2,e2]
    have hbitF:∀ j,Fk nm j=tb.bits.getD j false:=fun j=>by
     have:=nS hokU.nodup (j:=i) (t:=cC tb) (by rw [List.getElem?_map,huj];rfl) j
     rw [hFk,← htbn];exact this
    have tbc:=uA.cell tb (List.mem_of_getElem? huj)
    rw [F.bu.iF]
    simp only [e3,e5,e14,aU,Nat.reduceAdd,Nat.reduceEqDiff,reduceIte,lo,hlenA,bg hi,lz,ia .i64,la1]
    refine an (bI n1 hk12 hpw fun al hal=>?_)
    have hall:al.l.length=n ^ iK rules.l nm:=by have:=congrArg List.length hal;rw [List.length_map,rG] at this;exact this
    have halb:al.l.length≤cy:=by rw [hall];unfold cy;omega
    simp only [aU,Nat.reduceAdd,Nat.reduceEqDiff,reduceIte]
    have hl1n:(l.map (·.1))[i]?=some (nm,(iK rules.l nm:Int),NN):=hl1
    have hset0:(l.map (·.1)).set i (nm,(iK rules.l nm:Int),NN)=l.map (·.1):=(Dx hl1n (fun _ _=>rfl) rfl).symm
    have hab:∀ b,de a=some b→b<h'.next:=fun b hb=>oF.own.lt hb
    refine aC 0 al.l.length (Nat.zero_le _) (fun j e h2=>∃ (tv:J5) (ts:List (Sl Int)),Own gE 3 2 h2 a ((l.map (·.1)).set i (nm,(iK rules.l nm:Int),tv)) ∧
      Own eN 1 h'.next h2 tv.1 ts∧ts.map Sl.l=uX n Fk nm (iK rules.l nm) j∧(∀ b,b<h'.next→de a≠some b→h2.get b=h'.get b)∧h'.next≤h2.next∧e 3 = .ptr 0 0∧e 4 = .ptr 1 0∧e 5 = .ptr h3.next 0∧e 6=w∧e 14 = .int .i64 (i:Int)∧e 15=aq eN 1 al∧e 16 = .int .i64 (j:Int))
     ⟨NN,[],by rw [hset0];exact oF.own,.nil,rfl,fun _ _ _=>rfl,Nat.le_refl _,e3,e4,e5,e6,e14,rfl,rfl⟩ ?_ ?_
    ·rintro j e h2 _ hj ⟨tv,tl,oR,ot,hxr,hfr2,hnx2,e3,e4,e5,e6,e14,e15,e16⟩ K3 hn3 hx3 hr3 hp3
     have hjn:j<n ^ iK rules.l nm:=by rw [← hall];exact hj
     have hjt:j<tb.bits.length:=by omega
     have uA2:eA H4.next h2 w u:=uA.keep (fun b b1 b2=>by
      have hne:de a≠some b:=fun hb=>by have:=o3.lt hb;omega
      rw [hfr2 b (by omega) hne,hfr b b2 hne]) (by omega)
     obtain ⟨bw,hbw,iw,lw⟩:=M7 tb uA2 huj
     have tbc2:=uA2.cell tb (List.mem_of_getElem? huj)
     have hbit:tb.bits[j]?=some (Fk nm j):=by rw [hbitF,List.getD_eq_getElem?_getD,List.getElem?_eq_getElem hjt];rfl
     have hsuc:=Cu n Fk nm (iK rules.l nm) j
     rw [F.bu.Eh]
     simp only [e6,e14,e15,e16,aU,Nat.reduceAdd,Nat.reduceEqDiff,reduceIte,bg hj,iw,lw,jh hjt,uE tbc2.2.2.2 hbit]
     cases hFb:Fk nm j with
     |false=>
      rw [hFb,if_neg (by simp),List.append_nil] at hsuc
      simp only [aG,e16,aI hj halb,bindO_some]
      exact hn3 _ _ ⟨tv,tl,oR,ot,by rw [hsuc];exact hxr,hfr2,hnx2,e3,e4,e5,e6,e14,e15,rfl⟩
     |true=>
      rw [hFb,if_pos rfl] at hsuc
      have q52:h2.get h3.next=some (.cells [.int .i64 s.size,a]):=by rw [hfr2 _ (by omega) hOBa];exact q5
      have lo2:ai none (.ptr h3.next 1) h2=some a:=by rw [ak q52];rfl
      have hi2:i<(l.map (·.1)).length:=by rw [List.length_map];omega
      have hli2:((l.map (·.1)).set i (nm,(iK rules.l nm:Int),tv))[i]?=some (nm,(iK rules.l nm:Int),tv):=by rw [List.getElem?_set,if_pos rfl,if_pos hi2]
      obtain ⟨bb,_,ib,hbb,_,lb2,_,_⟩:=oR.M8 hli2 tv
      have hvt:al.l[j]?=some al.l[j]:=List.getElem?_eq_getElem hj
      generalize al.l[j]=t at hvt
      have htl:t.l=dL n (iK rules.l nm) j:=by
       have h1:(al.l.map Sl.l)[j]?=some t.l:=by rw [List.getElem?_map,hvt];rfl
       rw [hal,wh n1 _ _ hjn] at h1
       exact (Option.some.inj h1).symm
      have hxl:tl.length≤j:=by have:=congrArg List.length hxr;rw [List.length_map] at this;have:=AP n Fk nm (iK rules.l nm) j;omega
      obtain ⟨a9,h9,c9,o9,f9,n9,w9,b9⟩:=ot.push uD AJ hnx2 (bytes:=24) (by rw [hm];omega) t
      have q59:h9.get h3.next=some (.cells [.int .i64 s.size,a]):=by rw [f9 _ (by omega) (fun hb=>by have:=ot.ge hb;omega)];exact q52
      have lo9:ai none (.ptr h3.next 1) h9=some a:=by rw [ak q59];rfl
      have oR9:=oR.agree (fun b hb=>f9 b (by have:=hab b hb;omega) (fun hb'=>by have:=ot.ge hb';have:=hab b hb;omega)) n9
      obtain ⟨v1,v2⟩:=kV o9
      obtain ⟨b9',cs,ib9,hb9,hbn9,_,st9,oR10⟩:=oR9.M8 hli2 ⟨a9,v1,v2⟩
      rw [List.set_set] at oR10
      obtain rfl:bb=b9':=by rw [hbb] at hb9;exact Option.some.inj hb9
      have hb9n:=hab bb hb9
      have la:∀ hh,ai none (.iptr (al.l.flatMap eN) (j*1)) hh=some (aq encI 1 t):=fun hh=>iG hvt
      simp only [aJ,e5,e14,e15,e16,aU,Nat.reduceAdd,Nat.reduceEqDiff,reduceIte,lo2,ib,lb2,aW al hj,la,J7,c9,lo9,AV.beq_refl,Bool.and_self,if_true,ib9,st9,aI hj halb]
      refine hn3 _ _ ?_
      refine ⟨⟨a9,v1,v2⟩,tl++[t],oR10,o9.agree (fun b hb=>by rw [ag.aN,if_neg (by have:=b9 b hb;omega)]) (by rw [ag.next_set];exact Nat.le_refl _),?_,fun b b1 b2=>?_,by rw [ag.next_set];omega,e3,e4,e5,e6,e14,e15,rfl⟩
      ·rw [List.map_append,hxr,hsuc]
       simp [htl]
      ·rw [ag.aN,if_neg (fun e=>b2 (by rw [e];exact hb9)),f9 b (by omega) (fun hb=>by have:=ot.ge hb;omega)]
       exact hfr2 b b1 b2
    ·rintro e h2 ⟨tv,tl,oR,ot,hxr,hfr2,hnx2,e3,e4,e5,e6,e14,e15,e16⟩ K3 hx3
     have hib:i<100:=by omega
     rw [F.bu.Eh]
     simp only [e15,e16,aU,Nat.reduceAdd,Nat.reduceEqDiff,reduceIte,aR]
     rw [hx3,F.bu.zO]
     simp only [aU,Nat.reduceAdd,Nat.reduceEqDiff,reduceIte,e14,aI (i:=i) (n:=100) hib (by unfold cy;omega)]
     obtain ⟨x,hx1',hx3'⟩:=(iJ.Gt ot l9).data
     have hxl:x.l=tl:=by rw [hx1',List.map_map];simp [Function.comp_def]
     refine hn2 _ _ ⟨l.set i ((nm,(iK rules.l nm:Int),tv),⟨nm,(iK rules.l nm:Int),x⟩),⟨by rw [List.map_set];exact oR,fun p hp g hgg=>?_,fun _ _ h=>h⟩,?_,fun q r hq hr=>?_,fun b b1 b2=>?_,by omega,e3,e4,e5,e6,rfl⟩
     ·rcases List.mem_or_eq_of_mem_set hp with hp|rfl
      ·exact oF.sj p hp g fun b b1 b2 b3 b4=>by rw [hgg b b1 (by omega) b3 b4,hfr2 b b2 b4]
      ·exact Gs (hx3' g fun b b1 b2 b3=>hgg b (by omega) b2 b3 (fun hb=>by have:=hab b hb;omega))
     ·have hd2:(l.set i ((nm,(iK rules.l nm:Int),tv),(⟨nm,(iK rules.l nm:Int),x⟩:Rel))).map (fun p=>cY p.2)=(l.map fun p=>cY p.2).set i (nm,(iK rules.l nm:Int),uX n Fk nm (iK rules.l nm) (n ^ iK rules.l nm)):=by
       rw [List.map_set]
       congr 1
       simp only [cY,hxl,hxr,hall]
      rw [hd2,hld]
      have hdr:(cO rules.l).drop (i-s.rels.l.length)=nm :: (cO rules.l).drop (i-s.rels.l.length+1):=by
       rw [List.drop_eq_getElem_cons hx1]
       rw [List.getElem?_eq_getElem hx1] at hv
       rw [Option.some.inj hv]
      have htk:(cO rules.l).take (i-s.rels.l.length+1)=(cO rules.l).take (i-s.rels.l.length)++[nm]:=by rw [List.take_add_one,hv];rfl
      have hlA:(s.rels.l.map cY++nx rules.l n Fk ((cO rules.l).take (i-s.rels.l.length))).length=i:=by
       unfold nx
       rw [List.length_append,List.length_map,List.length_map,List.length_take];omega
      have hcs:fE rules.l (nm :: (cO rules.l).drop (i-s.rels.l.length+1))=(nm,(iK rules.l nm:Int),[]) :: fE rules.l ((cO rules.l).drop (i-s.rels.l.length+1)):=rfl
      have hap:nx rules.l n Fk ((cO rules.l).take (i-s.rels.l.length)++[nm])=nx rules.l n Fk ((cO rules.l).take (i-s.rels.l.length))++[(nm,(iK rules.l nm:Int),uX n Fk nm (iK rules.l nm) (n ^ iK rules.l nm))]:=by unfold nx;rw [List.map_append];rfl
      have hsm:=ML (s.rels.l.map cY++nx rules.l n Fk ((cO rules.l).take (i-s.rels.l.length))) (fE rules.l ((cO rules.l).drop (i-s.rels.l.length+1))) (nm,(iK rules.l nm:Int),[]) (nm,(iK rules.l nm:Int),uX n Fk nm (iK rules.l nm) (n ^ iK rules.l nm))
      rw [hlA] at hsm
      rw [show i+1-s.rels.l.length=i-s.rels.l.length+1 by omega,htk,hap,hdr,hcs,hsm]
      simp
     ·rw [List.getElem?_set,if_neg (by omega)]
      exact hun q r (by omega) hr
     ·rw [hfr2 b (by omega) b2];exact hfr b b1 b2
   ·rintro e h' ⟨l,oF,hld,hun,hfr,hnx,e3,e4,e5,e6,e14⟩ K2 hx2
    have hOBa:de a≠some h3.next:=fun hb=>by have:=o3.lt hb;omega
    have q5:h'.get h3.next=some (.cells [.int .i64 s.size,a]):=by rw [hfr _ (by omega) hOBa];exact r5
    have q1:h'.get 1=some (.cells [.int .i64 0,.nils]):=by rw [hfr 1 (by omega) (fun hb=>by have:=o3.ge hb;omega)];exact r1
    have lo:ai none (.ptr h3.next 1) h'=some a:=by rw [ak q5];rfl
    have lo2:ai (some 2) (.ptr h3.next 0) h'=some (.agg [.int .i64 s.size,a]):=by rw [ak q5];rfl
    have st:bp 2 (.ptr 1 0) (.agg [.int .i64 s.size,a]) h'=some (h'.set 1 (.cells [.int .i64 s.size,a])):=by
     rw [cT (n:=2) (v:=.agg [.int .i64 s.size,a]) q1 rfl one2 (by simp)];rfl
    have lo3:ai (some 2) (.ptr 1 0) (h'.set 1 (.cells [.int .i64 s.size,a]))=some (.agg [.int .i64 s.size,a]):=by rw [ak (cs:=[.int .i64 s.size,a]) (by rw [ag.aN,if_pos rfl])];rfl
    rw [F.bu.iF]
    simp only [e5,e14,aU,Nat.reduceAdd,Nat.reduceEqDiff,reduceIte,lo,hlenA,aR]
    rw [hx2,F.bu.Ju]
    simp only [bH,Nat.reduceEqDiff,reduceIte,e4,e5,lo2,st,bindO_some,Kg,lo3,oneOf]
    obtain ⟨x,hx1,hx3⟩:=(oF.low (d:=1) (by omega) (.cells [.int .i64 s.size,a])).fz
    refine fin _ a x Fk hx3 hfin ?_
    rw [hx1,List.map_map]
    rw [show rs'.length-s.rels.l.length=(cO rules.l).length by omega,List.take_length,List.drop_length] at hld
    rw [show (l.map (cY∘fun p=>p.2))=l.map (fun p=>cY p.2) from rfl,hld]
    simp [fE]
 have main:=gen (fun o h'=>yes (∃ (a:AV) (x:Sl Rel) (Fk:Lk),o = .ret (.agg [.int .i64 s.size,a])∧Fz true h' a (aq aQ 3 x)∧mN rules.l n s Fk∧x.l.map cY=s.rels.l.map cY++nx rules.l n Fk (cO rules.l))) (fun h' a x Fk hf hF hx=>cD.2 ⟨a,x,Fk,rfl,hf,hF,hx⟩)
 refine main.frozen (by simp [AV.pureL,AV.pure,b8 eM,fU]) fun o h' ho=>?_
 obtain ⟨a,x,Fk,rfl,hf,hF,hx⟩:=cD.1 ho
 have f1:=jB.cons (.scalar (.int .i64 s.size) rfl) (jB.cons hf jB.nil)
 rw [hnn] at hK
 exact ⟨_,_,rfl,.agg _ _ f1.len f1.rel,hK ⟨s.size,x⟩ rfl ⟨Fk,hF,hx⟩⟩
end
end Go.AM