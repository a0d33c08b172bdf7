/- Parts of a proof, merged out of smaller texts: the abstract machine and what functions do. Conditions: none. -/
import Derived.Test.YtmkffehchicgaaaGreatSo15
import Derived.Test.YtmkffehchicgaaaGreatSo16
import Derived.Test.YtmkffehchicgaaaGreatSo23
set_option linter.unusedSimpArgs false
set_option linter.unusedVariables false
namespace Go.AM
open Go Go.Proofs
noncomputable section
def GJ(rs:List aJ)(s:dP):Prop:=(∃ p ∈ cm rs,p.1 ∉ bg rs∧s.rels.l.find? (jB p.1 p.2)=none)∨∃ r ∈ s.rels.l,r.name ∈ bg rs
def IX(rs:List aJ)(s:dP):Prop:=8<s.rels.l.length+(eo rs).length∨(∃ r ∈ rs,4096<s.size.toNat ^ r.args.l.length)∨∃ r ∈ rs,65536<s.size.toNat ^ (varsOf r).length
structure uT (n:Nat) (rs:List aJ) (s:dP) (D:DB):Prop where
 rel:∀ r ∈ s.rels.l,∃ b,D r.name=some (b,bitsOf n r.arity.toNat r.tuples.l)
 head:∀ r ∈ rs,∃ b,D r.name=some (b,List.replicate (n ^ r.args.l.length) false)
 only:∀ nm p,D nm=some p→nm ∈ bg rs∨∃ r ∈ s.rels.l,r.name=nm
structure ET (n P A M S B lo:Nat) (rules:Sl aJ) (ks:List bA) (lv:Lev.Lv) (D0:DB) (m:cS) (h:af):Prop where
 hP:h.get P=some (.cells [aq aM 3 rules,.map A,.map M])
 hl:dZ (bg rules.l) h M ks lv
 hks:ks.Nodup
 hgo:dO rules.l []=some m
 hA:∃ es ck,h.get A=some (.map es ck)∧ES es ck m
 hS:h.get S=some (.cells [.int .i64 (n:Int),.map B])
 hD:dm D0 h B lo
 ord:A<M∧M<P∧P<B∧B<S∧S<lo∧lo≤h.next
theorem FI{rs:List aJ}{h:af}{M:Nat}{ks:List bA}{lv:Lev.Lv}(hl:dZ (bg rs) h M ks lv)(hks:ks.Nodup):ks.length=(eo rs).length:=by
 have h1:(eo rs).Nodup:=by
  have:=mj rs
  unfold nW at this
  refine this.imp fun {a b} h e=>?_
  rw [e,kL] at h;cases h
 have h2:=Lev.mI hks (m:=eo rs) fun x hx=>(eD rs).2 ((hl.mem x).1 hx)
 have h3:=Lev.mI h1 (m:=ks) fun x hx=>(hl.mem x).2 ((eD rs).1 hx)
 omega
set_option maxHeartbeats 2000000 in
theorem ax{rules:Sl aJ}{s:dP}(hok:∀ r ∈ rules.l,r.ok)(hfew:∀ r ∈ rules.l,r.lR)(hsok:s.ok){h:af}{K:Out→af→Bool}
  (h1:(¬ jx rules.l∨cY s=false)→∀ h',(∀ b,b<h.next→h'.get b=h.get b)→K (.ret (.tuple [.nilp,.nilp,.int .i64 1])) h'=true)
  (h4:jx rules.l→cY s=true→GJ rules.l s→∀ h',(∀ b,b<h.next→h'.get b=h.get b)→K (.ret (.tuple [.nilp,.nilp,.int .i64 4])) h'=true)
  (h5:jx rules.l→cY s=true→¬ GJ rules.l s→IX rules.l s→∀ h',(∀ b,b<h.next→h'.get b=h.get b)→K (.ret (.tuple [.nilp,.nilp,.int .i64 5])) h'=true)
  (h0:jx rules.l→cY s=true→¬ GJ rules.l s→¬ IX rules.l s→∀ h' (n:Nat) P A M S B lo ks k D0 m,s.size=(n:Int)→1≤n→n≤64→Lev.cK (bD rules.l) (Lev.iter (bD rules.l) k) →
   ET n P A M S B lo rules ks (Lev.iter (bD rules.l) k) D0 m h'→uT n rules.l s D0→(∀ b,b<h.next→h'.get b=h.get b)→h.next≤A→K (.ret (.tuple [.ptr P 0,.ptr S 0,.int .i64 0])) h'=true) :
  Sem Tryz.prog 45 [aq aM 3 rules,.agg (aA s)] h K:=by
 refine F.tn ?_
 rw [F.uz]
 simp only [cI (dD s),bindO_some]
 have g0:(h.alloc (.cells (aA s))).get h.next=some (.cells (aA s)):=aI _ _
 have gx:bK h (h.alloc (.cells (aA s))):=bK.alloc _ _
 have gn:(h.alloc (.cells (aA s))).next=h.next+1:=rfl
 generalize (h.alloc (.cells (aA s)))=H0 at g0 gx gn ⊢
 refine an (GH hok hfew (fun hb h' hf=>?_) fun h' P A M ks k hg hst gP la hks hPn hMn m es ck hgo gA hmB o1 o2 o3 hfr=>?_)
 ·simp only [aQ,Nat.reduceAdd,Nat.reduceEqDiff,reduceIte,Bool.not_false]
  exact h1 (.inl hb) _ (fun b hb=>by rw [hf b (by omega),gx.get b hb])
 have p0:h'.get h.next=some (.cells (aA s)):=by rw [hfr _ (by omega)];exact g0
 have l0:aj (some 2) (.ptr h.next 0) h'=some (.agg (aA s)):=by rw [ak p0,dG (cs:=aA s) (n:=2) rfl]
 simp only [aQ,Nat.reduceAdd,Nat.reduceEqDiff,reduceIte,Bool.not_true,l0]
 refine an (dg hsok ?_)
 simp only [aQ,Nat.reduceAdd,Nat.reduceEqDiff,reduceIte]
 cases hsv:cY s with
 |false=>simp only [Bool.not_false,aD];exact h1 (.inr hsv) _ (fun b hb=>by rw [hfr b (by omega),gx.get b hb])
 |true=>
 obtain ⟨n,hn,n1,n64,h8⟩:=qD hsv
 have hnn:s.size.toNat=n:=by omega
 specialize h4 hg hsv
 specialize h5 hg hsv
 specialize h0 hg hsv
 clear h1
 have hr60:=hg.lR
 have hgok:=iq hgo
 obtain ⟨hmI,hmBi,hmN⟩:=id hmB
 have hrg:jL .map (.map A) h'=some (.ptr h'.next 0,h'.alloc (.miter (some A) ck [] ck)):=by simp only [jL,gA]
 simp only [Bool.not_true,aC,bF,aQ,Nat.reduceAdd,Nat.reduceEqDiff,reduceIte,ak gP,hrg]
 have hall:∀ p ∈ m,(p.1,p.2) ∈ cm rules.l:=fun p hp=>(iD hgo p.1 p.2).1 (qB hmN hp)
 refine uL es (fun seen e hh=>(∀ en ∈ es,en.2.2 ∈ seen→∀ p ∈ m,en.1 = .str p.1→¬ (p.1 ∉ bg rules.l∧s.rels.l.find? (jB p.1 p.2)=none))∧hh.get h'.next=some (.miter (some A) ck seen ck)∧(∀ b,b<h'.next→hh.get b=h'.get b)∧h'.next<hh.next ∧
   e 0=aq aM 3 rules∧e 3 = .ptr h.next 0∧e 7 = .ptr P 0∧e 46 = .ptr h'.next 0)
  ⟨fun en _ hen=>(by cases hen),aI _ _,fun b hb=>by rw [af.aX,if_neg (by omega)],by rw [af.next_alloc];omega,rfl,rfl,rfl,rfl⟩ ?_
 rintro seen e hh ⟨hseen,w3,wf,wn,e0,e3,e7,e46⟩ K' hnx' hex hret hpan
 rw [F.ax.aP]
 simp only [e46]
 refine y8 w3 (by rw [wf A (by omega)];exact gA) hmBi (by omega) (fun hallS=>?_) (fun en hen hns hent=>?_)
 ·
  have hno4:¬ ∃ p ∈ cm rules.l,p.1 ∉ bg rules.l∧s.rels.l.find? (jB p.1 p.2)=none:=by
   rintro ⟨p,hp,hb⟩
   have hf:=(iD hgo p.1 p.2).2 hp
   have hpm:=mV hf
   obtain ⟨en,hen,hen1,_⟩:=hmI.mem' _ hpm
   exact hseen en hen (hallS en hen) _ hpm hen1 hb
  simp only [BH,kJ,bindO_some,condB_bool,aC]
  rw [hex,F.ax.aG]
  have v0:hh.get h.next=some (.cells (aA s)):=by rw [wf _ (by omega)];exact p0
  have lr:aj none (.ptr h.next 1) hh=some (aq bw 3 s.rels):=by rw [ak v0];rfl
  simp only [aQ,Nat.reduceAdd,Nat.reduceEqDiff,reduceIte,e3,lr]
  refine aE 0 s.rels.l.length (Nat.zero_le _) (fun i e h2=>(∀ r ∈ s.rels.l.take i,r.name ∉ bg rules.l)∧(∀ b,b<h'.next→h2.get b=h'.get b)∧h'.next<h2.next∧e 0=aq aM 3 rules∧e 3 = .ptr h.next 0∧e 7 = .ptr P 0∧e 71=aq bw 3 s.rels∧e 72 = .int .i64 (s.rels.l.length:Int)∧e 73 = .int .i64 (i:Int))
   ⟨fun r hr=>(by cases hr),wf,wn,e0,e3,e7,rfl,rfl,rfl⟩ ?_ ?_
  ·rintro i e h2 _ hi ⟨hnot,wf2,wn2,e0,e3,e7,e71,e72,e73⟩ K2 hn2 hx2 hr2 hp2
   have hv:s.rels.l[i]?=some s.rels.l[i]:=List.getElem?_eq_getElem hi
   generalize s.rels.l[i]=r at hv
   obtain ⟨H,hs1,q1,qo,qn⟩:=cJ (h:=h2) (zs:=[.str [],.int .i64 0,.nils]) (cs:=bw r) (n:=3) rfl rfl (fP r)
   have pP:H.get P=some (.cells [aq aM 3 rules,.map A,.map M]):=by rw [qo _ (by omega),wf2 _ (by omega)];exact gP
   have hM:H.get M=h'.get M:=by rw [qo _ (by omega),wf2 _ (by omega)]
   obtain ⟨esL,ckL,mL,y1,y2,y3,y4,y5⟩:=la.ex
   have hlk:=nB (h:=H) (by rw [hM];exact y1) y2 r.name
   have hsome:(mL.find r.name).isSome=decide (r.name ∈ bg rules.l):=by rw [y5];by_cases hh':r.name ∈ bg rules.l<;>simp [hh']
   have ln:aj none (.ptr h2.next 0) H=some (.str r.name):=by rw [ak q1];rfl
   rw [F.ax.dc]
   simp only [e7,e71,e72,e73,aQ,Nat.reduceAdd,Nat.reduceEqDiff,reduceIte,bf hi,aT s.rels hi,c8 eR hv,hs1]
   simp only [aQ,Nat.reduceAdd,Nat.reduceEqDiff,reduceIte,bF,ak pP,ln,hlk,hsome]
   by_cases hd:r.name ∈ bg rules.l
   ·simp only [decide_eq_true hd,aD]
    rw [hr2,F.ax.gK]
    simp only [bE,Nat.reduceEqDiff,reduceIte]
    exact h4 (.inr ⟨r,List.mem_of_getElem? hv,hd⟩) _ (fun b hb=>by rw [qo b (by omega),wf2 b (by omega),hfr b (by omega),gx.get b hb])
   ·simp only [decide_eq_false hd,aC,e73,aK hi hsok.1,bindO_some]
    refine hn2 _ _ ⟨fun q hq=>?_,fun b hb=>by rw [qo b (by omega)];exact wf2 b hb,by omega,e0,e3,e7,e71,e72,rfl⟩
    rw [List.take_add_one,hv] at hq
    rcases List.mem_append.1 hq with hq|hq
    ·exact hnot q hq
    ·simp only [Option.toList_some,List.mem_singleton] at hq
     subst hq;exact hd
  ·rintro e h2 ⟨hnot,wf2,wn2,e0,e3,e7,e71,e72,e73⟩ K2 hx2
   rw [List.take_of_length_le (Nat.le_refl _)] at hnot
   have hst4:¬ GJ rules.l s:=by
    rintro (hb|⟨r,hr,hd⟩)
    ·exact hno4 hb
    ·exact hnot r hr hd
   specialize h5 hst4
   specialize h0 hst4
   have v0:h2.get h.next=some (.cells (aA s)):=by rw [wf2 _ (by omega)];exact p0
   have vP:h2.get P=some (.cells [aq aM 3 rules,.map A,.map M]):=by rw [wf2 _ (by omega)];exact gP
   have vl:dZ (bg rules.l) h2 M ks (Lev.iter (bD rules.l) k):=la.keep (wf2 _ (by omega))
   have lr:aj none (.ptr h.next 1) h2=some (aq bw 3 s.rels):=by rw [ak v0];rfl
   have ls:aj none (.ptr h.next 0) h2=some (.int .i64 (n:Int)):=by rw [ak v0,← hn];rfl
   have hkl:ks.length≤60:=by
    have:=Lev.mI hks (m:=bg rules.l) fun x hx=>(la.mem x).1 hx
    have h1:(bg rules.l).length=rules.l.length:=by simp [bg]
    omega
   have hadd:aF .add (.int .i64 (s.rels.l.length:Int)) (.int .i64 (ks.length:Int))=some (.int .i64 ((s.rels.l.length+ks.length:Nat):Int)):=by
    rw [fJ (by omega) (by omega)];rfl
   have hdk:=FI la hks
   rw [F.ax.dc]
   simp only [e72,e73,aQ,Nat.reduceAdd,Nat.reduceEqDiff,reduceIte,aR]
   rw [hx2,F.ax.cx]
   simp only [aQ,Nat.reduceAdd,Nat.reduceEqDiff,reduceIte,e3,e7,lr,bF,ak vP,vl.len,hadd]
   by_cases hbg:8<s.rels.l.length+ks.length
   ·simp only [decide_eq_true (by omega:(8:Int)<((s.rels.l.length+ks.length:Nat):Int)),aD]
    exact h5 (.inl (by rw [← hdk];exact hbg)) _ (fun b hb=>by rw [wf2 b (by omega),hfr b (by omega),gx.get b hb])
   have hagg:jo [.int .i64 0,.nilm] [(0,1),(1,1)] [.int .i64 (n:Int),.map h2.next]=some (.agg [.int .i64 (n:Int),.map h2.next]):=rfl
   simp only [decide_eq_false (by omega:¬ (8:Int)<((s.rels.l.length+ks.length:Nat):Int)),aC,ls,bindO_some,hagg,cI (show bq [.int .i64 (n:Int),.map h2.next]=true from rfl),af.next_alloc]
   have f0:((h2.alloc (.map [] 0)).alloc (.cells [.int .i64 (n:Int),.map h2.next])).get h2.next=some (.map [] 0):=by rw [af.aX,af.next_alloc,if_neg (by omega)];exact aI _ _
   have f1:((h2.alloc (.map [] 0)).alloc (.cells [.int .i64 (n:Int),.map h2.next])).get (h2.next+1)=some (.cells [.int .i64 (n:Int),.map h2.next]):=aI _ _
   have fx:bK h2 ((h2.alloc (.map [] 0)).alloc (.cells [.int .i64 (n:Int),.map h2.next])):=(bK.alloc _ _).trans (bK.alloc _ _)
   have fn:((h2.alloc (.map [] 0)).alloc (.cells [.int .i64 (n:Int),.map h2.next])).next=h2.next+1+1:=rfl
   generalize ((h2.alloc (.map [] 0)).alloc (.cells [.int .i64 (n:Int),.map h2.next]))=H2 at f0 f1 fx fn ⊢
   have uP:H2.get P=some (.cells [aq aM 3 rules,.map A,.map M]):=by rw [fx.get _ (by omega)];exact vP
   obtain ⟨esL,ckL,mL,y1,y2,y3,y4,y5⟩:=la.ex
   have uM:H2.get M=some (.map esL ckL):=by rw [fx.get _ (by omega),wf2 _ (by omega)];exact y1
   have hrg2:jL .map (.map M) H2=some (.ptr H2.next 0,H2.alloc (.miter (some M) ckL [] ckL)):=by simp only [jL,uM]
   simp only [e7,bF,aQ,Nat.reduceAdd,Nat.reduceEqDiff,reduceIte,ak uP,hrg2]
   have r3:(H2.alloc (.miter (some M) ckL [] ckL)).get (h2.next+1+1)=some (.miter (some M) ckL [] ckL):=by have:=aI H2 (.miter (some M) ckL [] ckL);rwa [fn] at this
   have rx:bK H2 (H2.alloc (.miter (some M) ckL [] ckL)):=bK.alloc _ _
   have rn:(H2.alloc (.miter (some M) ckL [] ckL)).next=h2.next+1+1+1:=by rw [af.next_alloc,fn]
   rw [fn]
   generalize (H2.alloc (.miter (some M) ckL [] ckL))=H3 at r3 rx rn ⊢
   have low:∀ b,b<h2.next→H3.get b=h2.get b:=fun b hb=>by rw [rx.get b (by omega),fx.get b hb]
   have s0:H3.get h2.next=some (.map [] 0):=by rw [rx.get _ (by omega)];exact f0
   have s1:H3.get (h2.next+1)=some (.cells [.int .i64 (n:Int),.map h2.next]):=by rw [rx.get _ (by omega)];exact f1
   have sM:H3.get M=some (.map esL ckL):=by rw [rx.get _ (by omega)];exact uM
   have sP:H3.get P=some (.cells [aq aM 3 rules,.map A,.map M]):=by rw [rx.get _ (by omega)];exact uP
   have sA:H3.get A=some (.map es ck):=by rw [low _ (by omega),wf2 _ (by omega)];exact gA
   have sB:H3.get h.next=some (.cells (aA s)):=by rw [low _ (by omega)];exact v0
   have sl:dZ (bg rules.l) H3 M ks (Lev.iter (bD rules.l) k):=la.keep (by rw [sM,y1])
   have sD:dm (fun _=>none) H3 h2.next (h2.next+1+1+1):=⟨⟨[],0,[],s0,trivial,fun nm=>rfl⟩,fun nm p hp=>(by cases hp),fun nm nm' p p' hp=>(by cases hp),by omega⟩
   refine Ah (S:=h2.next+1) (SB:=h.next) hn n1 n64 (fun r hr=>m9 (hgok r hr).1) hgo s1 sB sP sA hmB sl sD (fun es' ck' hM'=>by rw [sM] at hM';cases hM';exact r3) rn (by omega) (by omega) (by omega) (by omega) (by omega) (by omega) (by omega) (by omega) (by omega) (by omega) (by omega) e0 e3 e7 rfl rfl (fun hb h' hf=>h5 (.inr (.inl (by rw [hnn];exact hb))) h' (fun b hb=>by rw [hf b (by omega) (by omega),low b (by omega),wf2 b (by omega),hfr b (by omega),gx.get b hb])) fun e4 h4' D a1 a2 a3 a4 a5 a6 j0 j3 j7 j17=>?_
   rw [F.ax.fV]
   simp only [j0,aQ,Nat.reduceAdd,Nat.reduceEqDiff,reduceIte]
   refine Ag (s:=s) (SB:=h.next) (S:=h2.next+1) hn n1 n64 hfew hr60 (fun r hr=>(hgok r hr).2.2) (by rw [a5 _ (by omega) (by omega)];exact sB) (by omega) j3 j7 j17 rfl rfl rfl (fun hb h' hx=>h5 (.inr (.inr (by rw [hnn];exact hb))) h' (fun b hb=>by rw [hx.get b (by omega),a5 b (by omega) (by omega),low b (by omega),wf2 b (by omega),hfr b (by omega),gx.get b hb])) fun c1 e5 h6 c2 i3 i7 i17=>?_
   have c6:=c2.next
   have t0:h6.get h.next=some (.cells (aA s)):=by rw [c2.get _ (by omega),a5 _ (by omega) (by omega)];exact sB
   have t1:h6.get (h2.next+1)=some (.cells [.int .i64 (n:Int),.map h2.next]):=by rw [c2.get _ (by omega),a5 _ (by omega) (by omega)];exact s1
   have lr6:aj none (.ptr h.next 1) h6=some (aq bw 3 s.rels):=by rw [ak t0];rfl
   rw [F.ax.HN]
   simp only [aQ,Nat.reduceAdd,Nat.reduceEqDiff,reduceIte,i3,lr6]
   refine B5 (S:=h2.next+1) (SB:=h.next) hsok hsv hn n1 n64 t1 t0 (a2.ext c2) (by omega) (by omega) (by omega) (by omega) (by omega) i3 i7 i17 rfl rfl rfl fun h7 D7 d1 d2 d3 d4 d5=>?_
   have hst5:¬ IX rules.l s:=by
    rintro (hb|⟨r,hr,hb⟩|⟨r,hr,hb⟩)
    ·omega
    ·rw [hnn] at hb;have:=a1 r hr;omega
    ·rw [hnn] at hb;have:=c1 r hr;omega
   have keep:∀ b,b<h2.next→h7.get b=h2.get b:=fun b hb=>by rw [d4 b (by omega) (by omega),c2.get b (by omega),a5 b (by omega) (by omega),low b hb]
   refine h0 hst5 h7 n P A M (h2.next+1) h2.next (h2.next+1+1+1) ks k D7 m hn n1 n64 hst ⟨?_,la.keep ?_,hks,hgo,⟨es,ck,?_,hmB⟩,?_,d1,by omega⟩ ⟨fun r hr=>?_,fun r hr=>?_,fun nm p hp=>?_⟩ (fun b hb=>?_) (by omega)
   ·rw [keep _ (by omega)];exact vP
   ·rw [keep _ (by omega),wf2 _ (by omega)]
   ·rw [keep _ (by omega),wf2 _ (by omega)];exact gA
   ·rw [d4 _ (by omega) (by omega)];exact t1
   ·obtain ⟨b,_,b2⟩:=d2 r hr
    exact ⟨b,b2⟩
   ·obtain ⟨b,b2⟩:=a3 r hr
    refine ⟨b,?_⟩
    rw [d3 r.name fun q hq e=>hnot q hq (by rw [e];exact List.mem_map_of_mem hr)]
    exact b2
   ·by_cases hq:∃ q ∈ s.rels.l,q.name=nm
    ·exact .inr hq
    ·rw [d3 nm fun q hq' e=>hq ⟨q,hq',e⟩] at hp
     exact .inl (a4 nm p hp)
   ·rw [keep _ (by omega),wf2 _ (by omega),hfr _ (by omega),gx.get _ hb]
 obtain ⟨p,hpm,hn1,hn2⟩:=hmI.mem en hen
 have vf:∀ b,b<h'.next→(hh.set h'.next (.miter (some A) ck (seen++[en.2.2]) ck)).get b=h'.get b:=fun b hb=>by rw [af.aS,if_neg (by omega)];exact wf b hb
 have v3:(hh.set h'.next (.miter (some A) ck (seen++[en.2.2]) ck)).get h'.next=some (.miter (some A) ck (seen++[en.2.2]) ck):=by rw [af.aS,if_pos rfl]
 have vn:(hh.set h'.next (.miter (some A) ck (seen++[en.2.2]) ck)).next=hh.next:=af.next_set _ _ _
 simp only [BH,kJ,qt,bindO_some,condB_bool,aD,hent,e3,e7,e46,hn1,hn2]
 clear hent
 generalize (hh.set h'.next (.miter (some A) ck (seen++[en.2.2]) ck))=H at vf v3 vn ⊢
 have pP:H.get P=some (.cells [aq aM 3 rules,.map A,.map M]):=by rw [vf _ (by omega)];exact gP
 have p0':H.get h.next=some (.cells (aA s)):=by rw [vf _ (by omega)];exact p0
 have lS:aj (some 2) (.ptr h.next 0) H=some (.agg (aA s)):=by rw [ak p0',dG (cs:=aA s) (n:=2) rfl]
 obtain ⟨esL,ckL,mL,y1,y2,y3,y4,y5⟩:=la.ex
 have hlk:=nB (h:=H) (by rw [vf M (by omega)];exact y1) y2 p.1
 have hsome:(mL.find p.1).isSome=decide (p.1 ∈ bg rules.l):=by rw [y5];by_cases hh':p.1 ∈ bg rules.l<;>simp [hh']
 have fin:∀ (e':Env),(¬ (p.1 ∉ bg rules.l∧s.rels.l.find? (jB p.1 p.2)=none))→e' 0=aq aM 3 rules→e' 3 = .ptr h.next 0→e' 7 = .ptr P 0→e' 46 = .ptr h'.next 0→K' .normal ⟨e',198,[],H⟩=true:=fun e' hgood e0 e3 e7 e46=>by
  refine hnx' en hen hns _ _ ⟨fun en' hen' hse q hq hqn=>?_,v3,vf,by omega,e0,e3,e7,e46⟩
  rcases List.mem_append.1 hse with hse|hse
  ·exact hseen en' hen' hse q hq hqn
  ·rw [List.mem_singleton] at hse
   have hee:en'=en:=by
    obtain ⟨i,hi⟩:=List.mem_iff_getElem?.1 hen
    obtain ⟨j,hj⟩:=List.mem_iff_getElem?.1 hen'
    have hi':(es.map (·.2.2))[i]?=some en.2.2:=by rw [List.getElem?_map,hi];rfl
    have hj':(es.map (·.2.2))[j]?=some en.2.2:=by rw [List.getElem?_map,hj,← hse];rfl
    have hij:=kO hmBi.nodup hi' hj'
    subst hij
    rw [hi] at hj;exact (Option.some.inj hj).symm
   rw [hee,hn1] at hqn
   injection hqn with h3
   have h6:q.2=p.2:=by
    have h7:=qB hmN hq
    have h8:=qB hmN hpm
    rw [← h3,h8] at h7
    exact (Option.some.inj h7).symm
   rw [← h3,h6];exact hgood
 simp only [aQ,Nat.reduceAdd,Nat.reduceEqDiff,reduceIte,bF,ak pP,hlk,hsome]
 by_cases hd:p.1 ∈ bg rules.l
 ·simp only [decide_eq_true hd,Bool.not_true,aC]
  exact fin _ (fun hb=>hb.1 hd) e0 e3 e7 e46
 ·simp only [decide_eq_false hd,Bool.not_false,aD,aQ,Nat.reduceAdd,Nat.reduceEqDiff,reduceIte,lS]
  refine an (ze hsok ?_)
  simp only [aQ,Nat.reduceAdd,Nat.reduceEqDiff,reduceIte]
  rcases mq (jB p.1 p.2) s.rels.l with ⟨f1,f2⟩|⟨j,r,f1,f2,f3⟩
  ·rw [f1]
   simp only [show decide ((-1:Int)<0)=true from rfl,aD]
   rw [hret,F.ax.bp]
   simp only [bE,Nat.reduceEqDiff,reduceIte]
   exact h4 (.inl ⟨(p.1,p.2),hall p hpm,hd,f2⟩) _ (fun b hb=>by rw [vf b (by omega),hfr b (by omega),gx.get b hb])
  ·rw [f1]
   simp only [decide_eq_false (by omega:¬ ((j:Int)<0)),aC]
   exact fin _ (fun hb=>by rw [f3] at hb;exact absurd hb.2 (by simp)) e0 e3 e7 e46
end
end Go.AM
namespace Go.AM
open Go Go.Proofs
noncomputable section
theorem nZ{α β:Type}{enc:α→List AV}{enc':β→List AV}{h:af}:∀ {l:List (α×β)},(∀ p ∈ l,lf true h (enc p.1) (enc' p.2))→lf true h (l.flatMap fun p=>enc p.1) (l.flatMap fun p=>enc' p.2)
 |[],_=>.nil
 |p :: l,hp=>by
  rw [List.flatMap_cons,List.flatMap_cons]
  exact lf.append (hp p List.mem_cons_self) (nZ fun q hq=>hp q (List.mem_cons_of_mem _ hq))
structure iS {α β:Type} (X:Nat→Prop) (enc:α→List AV) (enc':β→List AV) (sz k:Nat) (h:af) (a:AV) (l:List (α×β)):Prop where
 own:Own enc sz k h a (l.map (·.1))
 tV:∀ p ∈ l,∀ h',(∀ b,k≤b→b<h.next→¬ X b→dQ a≠some b→h'.get b=h.get b)→lf true h' (enc p.1) (enc' p.2)
 av:∀ b,dQ a=some b→¬ X b
section
variable {α β:Type} {X:Nat→Prop} {enc:α→List AV} {enc':β→List AV} {sz k:Nat} {h h':af} {a:AV} {l:List (α×β)}
theorem iS.nil:iS X enc enc' sz k h .nils []:=⟨.nil,fun p hp=>(by cases hp),fun b hb=>(by cases hb)⟩
theorem Own.agree{α:Type}{enc:α→List AV}{sz k:Nat}{h h':af}{a:AV}{l:List α}(o:Own enc sz k h a l)(hb:∀ b,dQ a=some b→h'.get b=h.get b)(hn:h.next≤h'.next):Own enc sz k h' a l:=by
 cases o with
 |nil=>exact .nil
 |row b l h1 h2 h3=>exact .row b _ h1 (Nat.lt_of_lt_of_le h2 hn) (by rw [hb b rfl];exact h3)
theorem iS.keep(o:iS X enc enc' sz k h a l)(hb:∀ b,k≤b→b<h.next→¬ X b→h'.get b=h.get b)(hn:h.next≤h'.next):iS X enc enc' sz k h' a l:=
 ⟨o.own.agree (fun b e=>hb b (o.own.ge e) (o.own.lt e) (o.av b e)) hn,fun p hp h2 hh=>o.tV p hp h2 fun b b1 b2 b3 b4=>by rw [hh b b1 (Nat.lt_of_lt_of_le b2 hn) b3 b4,hb b b1 b2 b3],o.av⟩
theorem iS.ext(o:iS X enc enc' sz k h a l)(hx:bK h h'):iS X enc enc' sz k h' a l:=o.keep (fun b _ b2 _=>hx.get b b2) hx.next
theorem iS.low(o:iS X enc enc' sz k h a l){d:Nat}(hd:d<k)(x:iL):iS X enc enc' sz k (h.set d x) a l:=
 o.keep (fun b b1 _ _=>by rw [af.aS,if_neg (by omega)]) (by rw [af.next_set];exact Nat.le_refl _)
theorem iS.PM(o:iS X enc enc' sz k h a l){d:Nat}(hd:X d)(x:iL):iS X enc enc' sz k (h.set d x) a l:=
 o.keep (fun b b1 _ b3=>by rw [af.aS,if_neg (fun e=>b3 (by rw [e];exact hd))]) (by rw [af.next_set];exact Nat.le_refl _)
theorem iS.weak(o:iS X enc enc' sz k h a l){j:Nat}(hj:j≤k):iS X enc enc' sz j h a l:=
 ⟨o.own.weak hj,fun p hp h2 hh=>o.tV p hp h2 fun b b1 b2 b3 b4=>hh b (Nat.le_trans hj b1) b2 b3 b4,o.av⟩
theorem iS.PN(o:iS (fun _=>False) enc enc' sz k h a l)(hx:bK h h'){Y:Nat→Prop}(hY:∀ b,Y b→h.next≤b):iS Y enc enc' sz k h' a l:=
 ⟨o.own.ext hx,fun p hp h2 hh=>o.tV p hp h2 fun b b1 b2 _ b4=>by rw [hh b b1 (Nat.lt_of_lt_of_le b2 hx.next) (fun y=>by have:=hY b y;omega) b4,hx.get b b2],fun b e y=>by have:=hY b y;have:=o.own.lt e;omega⟩
theorem iS.push(o:iS X enc enc' sz k h a l)(he:∀ x,(enc x).length=sz)(h1:∀ x,bq (enc x)=true)(hk:k≤h.next){bytes:Nat}(hroom:(l.length+1)*bytes≤cZ)(v:α)(w:β)(hX:∀ b,X b→b<h.next)
  (hf:∀ h',(∀ b,k≤b→b<h.next→¬ X b→dQ a≠some b→h'.get b=h.get b)→lf true h' (enc v) (enc' w)) :
  ∃ a' h',cq sz bytes a (.slice h.next 0 1 sz) (h.alloc (.cells (enc v)))=some (a',h')∧iS X enc enc' sz k h' a' (l++[(v,w)])∧(∀ c,c<h.next→dQ a≠some c→h'.get c=h.get c)∧h.next≤h'.next∧(∀ h0,bK h0 h→h0.next≤k→bK h0 h')∧∀ c,dQ a'=some c→h.next≤c:=by
 obtain ⟨a',h',e1,o1,f1,n1,x1,b1⟩:=o.own.push he h1 hk (bytes:=bytes) (by simpa using hroom) v
 refine ⟨a',h',e1,⟨by rw [List.map_append];exact o1,fun p hp h2 hh=>?_,fun b e x=>by have:=b1 b e;have:=hX b x;omega⟩,f1,n1,x1,b1⟩
 have hag:∀ b,k≤b→b<h.next→¬ X b→dQ a≠some b→h2.get b=h.get b:=fun b c1 c2 c3 c4=>by
  rw [hh b c1 (by omega) c3 (fun e=>by have:=b1 b e;omega),f1 b c2 c4]
 rcases List.mem_append.1 hp with hp|hp
 ·exact o.tV p hp h2 hag
 ·rw [List.mem_singleton] at hp;subst hp
  exact hf h2 hag
theorem iS.data(o:iS X enc enc' sz k h a l):∃ x:Sl β,x.l=l.map (·.2)∧∀ h2,(∀ b,k≤b→b<h.next→¬ X b→h2.get b=h.get b)→Fz true h2 a (aq enc' sz x):=by
 obtain ⟨ow,fr,av⟩:=o
 generalize hm:l.map (·.1)=m at ow
 cases ow with
 |nil=>
  have:l = []:=by simpa using hm
  subst this
  exact ⟨none,rfl,fun h2 _=>.ez rfl⟩
 |row b m h1 h2 h3=>
  subst hm
  refine ⟨some (l.map (·.2)),rfl,fun g hg=>?_⟩
  have fl:lf true g (l.flatMap fun p=>enc p.1) (l.flatMap fun p=>enc' p.2):=nZ fun p hp=>fr p hp g fun c c1 c2 c3 c4=>hg c c1 c2 c3
  have e1:(l.map (·.1)).flatMap enc=l.flatMap fun p=>enc p.1:=by rw [List.flatMap_map]
  have e2:(l.map (·.2)).flatMap enc'=l.flatMap fun p=>enc' p.2:=by rw [List.flatMap_map]
  have:aq enc' sz (some (l.map (·.2))) = .islice (l.flatMap fun p=>enc' p.2) 0 l.length sz:=by simp only [aq,e2,List.length_map]
  rw [this,List.length_map]
  exact .slice b 0 l.length sz _ _ (by rw [hg b h1 h2 (av b rfl),h3,e1]) fl.len fl.rel
theorem iS.fz(o:iS X enc enc' sz k h a l):∃ x:Sl β,x.l=l.map (·.2)∧Fz true h a (aq enc' sz x):=by
 obtain ⟨x,h1,h2⟩:=o.data
 exact ⟨x,h1,h2 h fun _ _ _ _=>rfl⟩
end
def Pj:={ v:AV // bq [v]=true∧v.dh = [v] }
abbrev Iw:=bA×Int×Pj
def lM(r:Iw):List AV:=[.str r.1,.int .i64 r.2.1,r.2.2.1]
theorem uU(r:Iw):(lM r).length=3:=rfl
theorem uV(r:Iw):bq (lM r)=true:=by
 have:=r.2.2.2.1
 unfold lM
 simp only [bq,Bool.and_true] at this ⊢
 rw [this];rfl
theorem qG{α:Type}{enc:α→List AV}{sz k:Nat}{h:af}{a:AV}{l:List α}(o:Own enc sz k h a l):bq [a]=true∧a.dh = [a]:=by cases o<;>exact ⟨rfl,rfl⟩
theorem Ix(r:Iw):fE [.str [],.int .i64 0,.nils] [(0,3)] [.agg (lM r)]=some (lM r):=by
 have ho:=uV r
 have hf:mM [.str [],.int .i64 0,.nils] [(0,3)] [.agg (lM r)]=some (lM r):=by
  have hc:AV.dh (.agg (lM r))=lM r:=rfl
  have hp:gQ [.str [],.int .i64 0,.nils] 0 (lM r)=lM r:=rfl
  simp only [mM,hc,hp,ho,uU]
  rfl
 unfold fE
 rw [hf]
 simp only [ho,if_true]
abbrev Iy(X:Nat→Prop)(k:Nat)(h:af)(a:AV)(l:List (Iw×Rel)):Prop:=iS X lM bw 3 k h a l
theorem Iz{h:af}{nm:bA}{k:Int}{v:Pj}{x:Sl (Sl Int)}(hf:Fz true h v.1 (aq ey 1 x)):lf true h (lM (nm,k,v)) (bw ⟨nm,k,x⟩):=
 .cons (.scalar _ rfl) (.cons (.scalar _ rfl) (.cons hf .nil))
end
end Go.AM
namespace Go.AM
open Go Go.Proofs
noncomputable section
theorem KS(d:TypeId){α:Type}{enc:α→List AV}{sz:Nat}(x:Sl α):gO (.slice d) (aq enc sz x) .nils=some (.bool (match x with|none=>true|some _=>false)):=by cases x<;>rfl
theorem Lu(y:Sl Int):fE [.nils] [(0,1)] [aq encI 1 y]=some (ey y):=by cases y<;>rfl
theorem DH(y:Sl Int):bq (ey y)=true:=by cases y<;>rfl
theorem iS.IA{α:Type}{enc:α→List AV}{sz k:Nat}{h:af}{a:AV}{l:List α}(o:Own enc sz k h a l)(hf:∀ v,AV.pureL (enc v)=true):iS (fun _=>False) enc enc sz k h a (l.map fun v=>(v,v)):=
 ⟨by rw [List.map_map];simpa [Function.comp_def] using o,fun p hp h' _=>by
  obtain ⟨v,_,rfl⟩:=List.mem_map.1 hp
  exact .ez (hf v),fun _ _ h=>h⟩
theorem B6{t:Sl Int}(ht:t.l.length≤1000000){h:af}{K:Out→af→Bool}(hK:∀ y:Sl Int,y.l=t.l→K (.ret (aq encI 1 y)) h=true):Sem Tryz.prog 111 [aq encI 1 t] h K:=by
 have main:Sem Tryz.prog 111 [aq encI 1 t] af.empty (fun o h'=>yes (∃ v,∃ y:Sl Int,o = .ret v∧y.l=t.l∧Fz true h' v (aq encI 1 y))):=by
  refine F.lD ?_
  rw [F.lX]
  simp only [KS,aQ,Nat.reduceAdd,Nat.reduceEqDiff,reduceIte]
  cases t with
  |none=>simp only [aD];exact cz.2 ⟨_,none,rfl,rfl,.ez rfl⟩
  |some l=>
   obtain ⟨b,h',a1,a2,_,_,_⟩:=A0 (wZ lu (some l) (af.empty.alloc (.cells []))) ht
   simp only [aC,A2,bindO_some,a1,bindO2_some]
   exact cz.2 ⟨_,some l,rfl,rfl,qC a2⟩
 refine main.frozen (by simp [AV.pureL,cj jQ]) fun o h' ho=>?_
 obtain ⟨v,y,rfl,hy,hf⟩:=cz.1 ho
 exact ⟨v,_,rfl,hf,hK y hy⟩
theorem GK(s:St):eL Tryz.prog s Tryz.f48.results.toList=(match aj (some 2) (s.env 2) s.h,(some []:Option (List AV)) with|some v,some vs=>some (v :: vs)|_,_=>none):=by kernel_rfl
set_option maxHeartbeats 2000000 in
theorem cG{s:dP}(hs:s.small){h:af}{K:Out→af→Bool}(hK:∀ a h' l,bK h h'→Iy (fun _=>False) h.next h' a l→(l.map fun p=>eM p.2)=s.rels.l.map eM→K (.ret (.agg [.int .i64 s.size,a])) h'=true):Sem Tryz.prog 48 [.agg (aA s)] h K:=by
 have hm:cZ=140737488355328:=rfl
 have hbig:=hs.Qr
 refine F.yB ?_
 rw [F.z7]
 simp only [cI (dD s),bindO_some,af.next_alloc]
 have g0:(af.alloc (af.alloc h (.cells (aA s))) (.cells [.int .i64 0,.nils])).get h.next=some (.cells (aA s)):=by rw [af.aX,af.next_alloc,if_neg (by omega)];exact aI _ _
 have g1:(af.alloc (af.alloc h (.cells (aA s))) (.cells [.int .i64 0,.nils])).get (h.next+1)=some (.cells [.int .i64 0,.nils]):=aI _ _
 have gn:(af.alloc (af.alloc h (.cells (aA s))) (.cells [.int .i64 0,.nils])).next=h.next+2:=rfl
 have gx:bK h (af.alloc (af.alloc h (.cells (aA s))) (.cells [.int .i64 0,.nils])):=(bK.alloc _ _).trans (bK.alloc _ _)
 generalize (af.alloc (af.alloc h (.cells (aA s))) (.cells [.int .i64 0,.nils]))=H1 at g0 g1 gn gx ⊢
 have lz:aj none (.ptr h.next 0) H1=some (.int .i64 s.size):=by rw [ak g0];rfl
 have ha:jo [.int .i64 0,.nils] [(0,1)] [.int .i64 s.size]=some (.agg [.int .i64 s.size,.nils]):=rfl
 obtain ⟨H2,hs2,p2,po,pn⟩:=cJ (h:=H1) (zs:=[.int .i64 0,.nils]) (cs:=[.int .i64 s.size,.nils]) (n:=2) rfl rfl rfl
 rw [gn] at p2 po pn hs2
 have p0:H2.get h.next=some (.cells (aA s)):=by rw [po _ (by omega)];exact g0
 have p1:H2.get (h.next+1)=some (.cells [.int .i64 0,.nils]):=by rw [po _ (by omega)];exact g1
 have px:bK h H2:=⟨by omega,fun b hb=>by rw [po _ (by omega)];exact gx.get b hb⟩
 have lr:aj none (.ptr h.next 1) H2=some (aq bw 3 s.rels):=by rw [ak p0];rfl
 simp only [aQ,Nat.reduceAdd,Nat.reduceEqDiff,reduceIte,lz,ha,gn,hs2,lr]
 refine aE 0 s.rels.l.length (Nat.zero_le _) (fun i e h'=>∃ a l,h'.get (h.next+1)=some (.cells [.int .i64 0,.nils])∧h'.get (h.next+2)=some (.cells [.int .i64 s.size,a])∧Iy (fun _=>False) (h.next+3) h' a l∧(l.map fun p=>eM p.2)=(s.rels.l.take i).map eM∧bK h h'∧h.next+3≤h'.next ∧
  e 2 = .ptr (h.next+1) 0∧e 3 = .ptr (h.next+2) 0∧e 13=aq bw 3 s.rels∧e 14 = .int .i64 (s.rels.l.length:Int)∧e 15 = .int .i64 (i:Int)) ⟨_,[],p1,p2,.nil,rfl,px,by omega,rfl,rfl,rfl,rfl,rfl⟩ ?_ ?_
 ·rintro i e h' _ hi ⟨a,l,q1,q2,o,hl,qx,qn,e2,e3,e13,e14,e15⟩ K' hn hx' hr hp
  have hv:s.rels.l[i]?=some s.rels.l[i]:=List.getElem?_eq_getElem hi
  generalize s.rels.l[i]=r at hv
  have hrm:=List.mem_of_getElem? hv
  have hll:l.length=i:=by have:=congrArg List.length hl;rw [List.length_map,List.length_map,List.length_take,Nat.min_eq_left (by omega)] at this;exact this
  obtain ⟨H3,hs3,p3,po3,pn3⟩:=cJ (h:=h') (zs:=[.str [],.int .i64 0,.nils]) (cs:=bw r) (n:=3) rfl rfl (fP r)
  have hag:jo [.str [],.int .i64 0,.nils] [(0,1),(1,1)] [.str r.name,.int .i64 r.arity]=some (.agg [.str r.name,.int .i64 r.arity,.nils]):=rfl
  have l0:aj none (.ptr h'.next 0) H3=some (.str r.name):=by rw [ak p3];rfl
  have l1:aj none (.ptr h'.next 1) H3=some (.int .i64 r.arity):=by rw [ak p3];rfl
  obtain ⟨H4,hs4,p4,po4,pn4⟩:=cJ (h:=H3) (zs:=[.str [],.int .i64 0,.nils]) (cs:=[.str r.name,.int .i64 r.arity,.nils]) (n:=3) rfl rfl rfl
  rw [pn3] at hs4 p4 po4 pn4
  have x4:bK h' H4:=⟨by omega,fun b hb=>by rw [po4 b (by omega),po3 b (by omega)]⟩
  have l2:aj none (.ptr h'.next 2) H4=some (aq ey 1 r.tuples):=by rw [ak (show H4.get h'.next=some (.cells (bw r)) by rw [po4 _ (by omega)];exact p3)];rfl
  have htl:=hs.tups r hrm
  have hbt:r.tuples.l.length≤cy:=by unfold cy;omega
  rw [F.cG.aP]
  simp only [e13,e14,e15,aQ,Nat.reduceAdd,Nat.reduceEqDiff,reduceIte,bf hi,aT s.rels hi,c8 eR hv,hs3]
  simp only [aQ,Nat.reduceAdd,Nat.reduceEqDiff,reduceIte,l0,l1,hag,pn3,hs4,l2]
  refine aE 0 r.tuples.l.length (Nat.zero_le _) (fun j e h2=>∃ tv ts,h2.get (h'.next+1)=some (.cells [.str r.name,.int .i64 r.arity,tv])∧Own ey 1 (h'.next+2) h2 tv ts∧ts.map Sl.l=(r.tuples.l.take j).map Sl.l∧bK h' h2∧h'.next+2≤h2.next ∧
   e 2 = .ptr (h.next+1) 0∧e 3 = .ptr (h.next+2) 0∧e 13=aq bw 3 s.rels∧e 14 = .int .i64 (s.rels.l.length:Int)∧e 15 = .int .i64 (i:Int)∧e 6 = .ptr (h'.next+1) 0∧e 25=aq ey 1 r.tuples∧e 26 = .int .i64 (r.tuples.l.length:Int)∧e 27 = .int .i64 (j:Int))
   ⟨_,[],p4,.nil,rfl,x4,by omega,e2,e3,e13,e14,e15,rfl,rfl,rfl,rfl⟩ ?_ ?_
  ·rintro j e h2 _ hj ⟨tv,ts,q6,ot,hts,x2,qn2,e2,e3,e13,e14,e15,e6,e25,e26,e27⟩ K2 hnn hx2 hr2 hp2
   have hvt:r.tuples.l[j]?=some r.tuples.l[j]:=List.getElem?_eq_getElem hj
   generalize r.tuples.l[j]=t at hvt
   have htsl:ts.length=j:=by have:=congrArg List.length hts;rw [List.length_map,List.length_map,List.length_take,Nat.min_eq_left (by omega)] at this;exact this
   have lt:aj none (.ptr (h'.next+1) 2) h2=some tv:=by rw [ak q6];rfl
   rw [F.cG.dc]
   simp only [e6,e25,e26,e27,aQ,Nat.reduceAdd,Nat.reduceEqDiff,reduceIte,bf hj,aT r.tuples hj,iC hvt,lt]
   refine an (B6 (by have:=hs.tup r hrm t (List.mem_of_getElem? hvt);omega) fun y hy=>?_)
   obtain ⟨a5,h5,c5,o5,f5,n5,w5,b5⟩:=ot.push yR DH qn2 (bytes:=24) (by rw [hm];omega) y
   have hne:dQ tv≠some (h'.next+1):=fun hb=>by have:=ot.ge hb;omega
   have s6:h5.get (h'.next+1)=some (.cells [.str r.name,.int .i64 r.arity,tv]):=by rw [f5 _ (by omega) hne];exact q6
   have c6:=o5.pV
   have st:bH 1 (.ptr (h'.next+1) 2) a5 h5=some (h5.set (h'.next+1) (.cells [.str r.name,.int .i64 r.arity,a5])):=by
    rw [dr (n:=1) s6 c6.2.1 c6.1 (by simp),c6.2.2];rfl
   simp only [aQ,Nat.reduceAdd,Nat.reduceEqDiff,reduceIte,lt,AV.beq_refl,Bool.and_self,if_true,Lu,c5,e6,e27,st,aK hj hbt]
   refine hnn _ _ ⟨a5,ts++[y],by rw [af.aS,if_pos rfl],o5.mF (by omega) _,?_,(w5 h' x2 (by omega)).set (by omega) _,by rw [af.next_set];omega,e2,e3,e13,e14,e15,e6,e25,e26,rfl⟩
   rw [List.map_append,hts,List.take_add_one,hvt,List.map_append]
   simp [hy]
  ·rintro e h2 ⟨tv,ts,q6,ot,hts,x2,qn2,e2,e3,e13,e14,e15,e6,e25,e26,e27⟩ K2 hx2
   rw [List.take_of_length_le (Nat.le_refl _)] at hts
   have o2:=o.ext x2
   obtain ⟨ho1,ho2⟩:=qG ot
   have lq:aj (some 3) (.ptr (h'.next+1) 0) h2=some (.agg (lM (r.name,r.arity,⟨tv,ho1,ho2⟩))):=by rw [ak q6];rfl
   have lo:aj none (.ptr (h.next+2) 1) h2=some a:=by rw [ak (show h2.get (h.next+2)=some (.cells [.int .i64 s.size,a]) by rw [x2.get _ (by omega)];exact q2)];rfl
   obtain ⟨x,hx1,hx3⟩:=(iS.IA ot mW).data
   have hxl:x.l=ts:=by rw [hx1,List.map_map];simp [Function.comp_def]
   obtain ⟨a5,h5,c5,o5,f5,n5,w5,b5⟩:=o2.push uU uV (by omega) (bytes:=48) (by have:=hs.rels;rw [hm];omega) (r.name,r.arity,⟨tv,ho1,ho2⟩) ⟨r.name,r.arity,x⟩ (fun _ h=>h.elim)
    (fun g hg=>Iz (hx3 g fun b b1 b2 _=>hg b (by omega) b2 (fun h=>h) (fun hb=>by have:=o.own.lt hb;omega)))
   have hne:dQ a≠some (h.next+2):=fun hb=>by have:=o.own.ge hb;omega
   have hne1:dQ a≠some (h.next+1):=fun hb=>by have:=o.own.ge hb;omega
   have s2:h5.get (h.next+2)=some (.cells [.int .i64 s.size,a]):=by rw [f5 _ (by omega) hne,x2.get _ (by omega)];exact q2
   have s1:h5.get (h.next+1)=some (.cells [.int .i64 0,.nils]):=by rw [f5 _ (by omega) hne1,x2.get _ (by omega)];exact q1
   have c6:=o5.own.pV
   have st:bH 1 (.ptr (h.next+2) 1) a5 h5=some (h5.set (h.next+2) (.cells [.int .i64 s.size,a5])):=by
    rw [dr (n:=1) s2 c6.2.1 c6.1 (by simp),c6.2.2];rfl
   rw [F.cG.dc]
   simp only [e26,e27,aQ,Nat.reduceAdd,Nat.reduceEqDiff,reduceIte,aR]
   rw [hx2,F.cG.cx]
   simp only [aQ,Nat.reduceAdd,Nat.reduceEqDiff,reduceIte,e3,e6,e15,lo,lq,Ix,c5,st,aK hi hbig]
   refine hn _ _ ⟨a5,_,?_,?_,o5.low (by omega) _,?_,(w5 h (qx.trans x2) (by omega)).set (by omega) _,by rw [af.next_set];omega,e2,e3,e13,e14,rfl⟩
   ·rw [af.aS,if_neg (by omega)];exact s1
   ·rw [af.aS,if_pos rfl]
   ·rw [List.map_append,hl,List.take_add_one,hv,List.map_append]
    simp [eM,hxl,hts]
 ·rintro e h' ⟨a,l,q1,q2,o,hl,qx,qn,e2,e3,e13,e14,e15⟩ K' hx'
  rw [List.take_of_length_le (Nat.le_refl _)] at hl
  have lo:aj (some 2) (.ptr (h.next+2) 0) h'=some (.agg [.int .i64 s.size,a]):=by rw [ak q2];rfl
  have c:=o.own.pV
  have one2:bq [.int .i64 s.size,a]=true:=by
   have:=c.1;rw [c.2.2] at this;simp only [bq,Bool.and_true] at this ⊢;rw [this];rfl
  have st:bH 2 (.ptr (h.next+1) 0) (.agg [.int .i64 s.size,a]) h'=some (h'.set (h.next+1) (.cells [.int .i64 s.size,a])):=by
   rw [dr (n:=2) (v:=.agg [.int .i64 s.size,a]) q1 rfl one2 (by simp)];rfl
  have lo2:aj (some 2) (.ptr (h.next+1) 0) (h'.set (h.next+1) (.cells [.int .i64 s.size,a]))=some (.agg [.int .i64 s.size,a]):=by rw [ak (cs:=[.int .i64 s.size,a]) (by rw [af.aS,if_pos rfl])];rfl
  rw [F.cG.aP]
  simp only [e14,e15,aQ,Nat.reduceAdd,Nat.reduceEqDiff,reduceIte,aR]
  rw [hx',F.cG.aG]
  simp only [bE,Nat.reduceEqDiff,reduceIte,e2,e3,lo,st,bindO_some,GK,lo2,oneOf]
  exact hK a _ l (qx.set (by omega) _) ((o.low (by omega) _).weak (by omega)) hl
end
end Go.AM
namespace Go.AM
open Go Go.Proofs
noncomputable section
def EU(n:Nat)(s:dP):Lk:=fun nm k=>match s.rels.l.find? (fZ nm) with|some r=>(bitsOf n r.arity.toNat r.tuples.l).getD k false|none=>false
def iJ(rs:List aJ)(n:Nat)(s:dP)(F:Lk):Prop:=∃ k t,Lev.cK (bD rs) (Lev.iter (bD rs) k)∧(∀ r ∈ rs,Lev.iter (bD rs) k r.name<t)∧fT n rs (Lev.iter (bD rs) k) (EU n s) t F
theorem iJ.unique{rs:List aJ}{n:Nat}{s:dP}{A B:Lk}(h:iJ rs n s A)(g:iJ rs n s B):A=B:=by
 obtain ⟨j,t,h1,h2,h3⟩:=h
 obtain ⟨k,u,g1,g2,g3⟩:=g
 rw [Lev.Am h1 g1] at h2 h3
 exact h3.same g3 h2 g2
theorem Be{rs:List aJ}{k:Nat}(h:Lev.cK (bD rs) (Lev.iter (bD rs) k)):A9 rs (Lev.iter (bD rs) k):=by
 intro r hr c hc k0 ⟨q,hq,hqn⟩
 have he:ec r c ∈ bD rs:=by
  refine List.mem_flatMap.2 ⟨r,hr,List.mem_flatMap.2 ⟨c,hc,?_⟩⟩
  unfold jw
  rw [if_pos ⟨k0,by rw [← hqn];exact List.mem_map_of_mem hq⟩]
  exact List.mem_singleton.2 rfl
 have:=h _ he
 unfold ec at this
 exact this
theorem EV{rs:List aJ}(h60:rs.length≤60)(h20:∀ r ∈ rs,r.body.l.length≤20){k:Nat}(h:Lev.cK (bD rs) (Lev.iter (bD rs) k))(x:bA):Lev.iter (bD rs) k x≤1000000:=by
 have hN:∀ e ∈ bD rs,e.b ∈ bg rs∧e.h ∈ bg rs:=fun e he=>by
  obtain ⟨r,hr,c,hc,_,hin,rfl⟩:=pI he
  exact ⟨hin,List.mem_map_of_mem hr⟩
 rw [Lev.Am h (Lev.settle hN h)]
 have:=rX h60 h20 (bg rs).length x
 have h1:(bg rs).length=rs.length:=by simp [bg]
 rw [h1] at this ⊢
 omega
def mH(rs:List aJ)(nm:bA):Nat:=match rs.find? (fun r=>r.name==nm) with|some r=>r.args.l.length|none=>0
theorem pZ{rs:List aJ}{m:cS}(hgo:dO rs []=some m){x:bA}{j k:Int}(h1:(x,j) ∈ cm rs)(h2:(x,k) ∈ cm rs):j=k:=by
 have a:=(iD hgo x j).2 h1
 have b:=(iD hgo x k).2 h2
 rw [a] at b;exact Option.some.inj b
theorem B7{rs:List aJ}{m:cS}(hgo:dO rs []=some m){r:aJ}(hr:r ∈ rs):mH rs r.name=r.args.l.length:=by
 unfold mH
 cases hf:rs.find? (fun q=>q.name==r.name) with
 |none=>
  rw [List.find?_eq_none] at hf
  exact absurd (hf r hr) (by simp)
 |some q=>
  have hq:=List.mem_of_find?_eq_some hf
  have hqn:=List.find?_some hf
  rw [beq_iff_eq] at hqn
  have:=pZ hgo (kS hq) (by rw [hqn];exact kS hr)
  simp only;omega
theorem GL{rs:List aJ}{r:aJ}(hr:r ∈ rs){c:dI}(hc:c ∈ r.body.l)(k0:c.kind=0):(c.name,(c.args.l.length:Int)) ∈ cm rs:=by
 refine List.mem_flatMap.2 ⟨r,hr,List.mem_cons_of_mem _ ?_⟩
 unfold dw
 exact List.mem_map.2 ⟨c,List.mem_filter.2 ⟨hc,by simpa using k0⟩,rfl⟩
structure Pk (c:dI):Prop where
 kinds:c.kind=0∨c.kind=1∨c.kind=2
 two:c.kind=1∨c.kind=2→c.args.l.length=2
 arity:c.args.l.length≤12
theorem zq{c:dI}(h:eZ c=true):Pk c:=by
 unfold eZ at h
 by_cases k0:c.kind=0
 ·rw [if_pos k0] at h
  exact ⟨.inl k0,fun h'=>by omega,m9 h⟩
 ·rw [if_neg k0] at h
  by_cases k12:c.kind=1∨c.kind=2
  ·rw [if_pos k12] at h
   simp only [Bool.and_eq_true,decide_eq_true_eq] at h
   exact ⟨.inr k12,fun _=>h.2.1,by omega⟩
  ·rw [if_neg k12] at h;cases h
theorem GM{rs:List aJ}(hg:jx rs){r:aJ}(hr:r ∈ rs):gI r=true:=by
 have:=((qE rs).1 hg).2.1
 rw [List.all_eq_true] at this
 exact this r hr
theorem uW{rs:List aJ}(hg:jx rs){r:aJ}(hr:r ∈ rs){c:dI}(hc:c ∈ r.body.l):eZ c=true:=by
 have:=GM hg hr
 unfold gI at this
 simp only [Bool.and_eq_true] at this
 have h5:=this.2.2.2.1
 rw [List.all_eq_true] at h5
 exact h5 c hc
theorem GN{s:dP}{nm:bA}{k:Int}{r:Rel}(h:s.rels.l.find? (jB nm k)=some r):r ∈ s.rels.l∧r.name=nm∧r.arity=k:=by
 have h1:=List.mem_of_find?_eq_some h
 have h2:=List.find?_some h
 simp only [jB,Bool.and_eq_true,beq_iff_eq,decide_eq_true_eq] at h2
 exact ⟨h1,h2.1,by first|exact h2.2|exact h2.2.symm⟩
theorem GO{n:Nat}{rs:List aJ}{s:dP}{m:cS}{D0:DB}(hgo:dO rs []=some m)(hsv:cY s=true)(hn:s.size=(n:Int))(h4:¬ GJ rs s)(h5:¬ IX rs s)(sd:uT n rs s D0){r:aJ}(hr:r ∈ rs){c:dI}(hc:c ∈ r.body.l)(k0:c.kind=0) :
  n ^ c.args.l.length≤4096∧∃ p,D0 c.name=some p∧p.2.length=n ^ c.args.l.length:=by
 have hnn:s.size.toNat=n:=by omega
 have hat:=GL hr hc k0
 by_cases hd:c.name ∈ bg rs
 ·obtain ⟨q,hq,hqn⟩:=List.mem_map.1 hd
  have hl:q.args.l.length=c.args.l.length:=by
   have:=pZ hgo (kS hq) (by rw [hqn];exact hat)
   omega
  obtain ⟨b,hb⟩:=sd.head q hq
  rw [hqn] at hb
  refine ⟨?_,_,hb,by rw [List.length_replicate,hl]⟩
  rw [← hl,← hnn]
  exact Nat.le_of_not_lt fun h=>h5 (.inr (.inl ⟨q,hq,h⟩))
 ·cases hf:s.rels.l.find? (jB c.name (c.args.l.length:Int)) with
  |none=>exact absurd (.inl ⟨_,hat,hd,hf⟩) h4
  |some q=>
   obtain ⟨hq,hqn,hqa⟩:=GN hf
   obtain ⟨i,hi⟩:=List.mem_iff_getElem?.1 hq
   have hrb:=zg hsv hi
   rw [hnn] at hrb
   obtain ⟨k,hk,k12,hkc,hkt⟩:=B1 hrb
   obtain ⟨b,hb⟩:=sd.rel q hq
   have hkl:k=c.args.l.length:=by omega
   rw [hqn] at hb
   exact ⟨by rw [← hkl];exact hkc,_,hb,by rw [EF];congr 1;omega⟩
theorem lN{n:Nat}{rs:List aJ}{s:dP}{D0:DB}(hn:s.size=(n:Int))(h5:¬ IX rs s)(sd:uT n rs s D0){r:aJ}(hr:r ∈ rs):n ^ r.args.l.length≤4096∧∃ p,D0 r.name=some p∧p.2.length=n ^ r.args.l.length:=by
 have hnn:s.size.toNat=n:=by omega
 obtain ⟨b,hb⟩:=sd.head r hr
 refine ⟨?_,_,hb,List.length_replicate⟩
 rw [← hnn]
 exact Nat.le_of_not_lt fun h=>h5 (.inr (.inl ⟨r,hr,h⟩))
theorem DI{n:Nat}{rs:List aJ}{s:dP}{m:cS}{D0:DB}(hg:jx rs)(hgo:dO rs []=some m)(hsv:cY s=true)(hn:s.size=(n:Int))(h4:¬ GJ rs s)(h5:¬ IX rs s)(sd:uT n rs s D0){r:aJ}(hr:r ∈ rs)(D:DB)(hd:dK D D0):yW n D r:=
 ⟨fun c hc k0=>by
  obtain ⟨a,p0,b1,b2⟩:=GO hgo hsv hn h4 h5 sd hr hc k0
  obtain ⟨p,c1,_,c3⟩:=hd.get b1
  exact ⟨a,p,c1,by rw [c3];exact b2⟩,fun c hc=>(zq (uW hg hr hc)).two,fun c hc=>(zq (uW hg hr hc)).kinds,fun c hc=>(zq (uW hg hr hc)).arity⟩
theorem IB(N k:Nat):(List.replicate N false).getD k false=false:=by
 rw [List.getD_eq_getElem?_getD,List.getElem?_replicate];split<;>rfl
theorem EW{n:Nat}{rs:List aJ}{s:dP}{D0:DB}(hsv:cY s=true)(h4:¬ GJ rs s)(sd:uT n rs s D0):cN D0=EU n s:=by
 funext nm k
 unfold EU
 cases hf:s.rels.l.find? (fZ nm) with
 |some r=>
  have hr:=List.mem_of_find?_eq_some hf
  have hn:=List.find?_some hf
  simp only [fZ,beq_iff_eq] at hn
  obtain ⟨b,hb⟩:=sd.rel r hr
  rw [hn] at hb
  unfold cN
  rw [hb]
 |none=>
  unfold cN
  cases hp:D0 nm with
  |none=>rfl
  |some p=>
   rcases sd.only nm p hp with hh|⟨r,hr,hrn⟩
   ·obtain ⟨r,hr,hrn⟩:=List.mem_map.1 hh
    obtain ⟨b,hb⟩:=sd.head r hr
    rw [hrn,hp] at hb
    cases hb
    exact IB _ _
   ·rw [List.find?_eq_none] at hf
    exact absurd (hf r hr) (by simp [fZ,hrn])
theorem zu{rules:Sl aJ}{s:dP}(hfew:∀ r ∈ rules.l,r.lR)(hg:jx rules.l)(hsv:cY s=true)(h4:¬ GJ rules.l s)(h5:¬ IX rules.l s){n P A M S B lo k:Nat}{ks:List bA}{D0:DB}{m:cS}{h:af}(hn:s.size=(n:Int))(n1:1≤n)(n64:n≤64)
  (hst:Lev.cK (bD rules.l) (Lev.iter (bD rules.l) k)) (sh:ET n P A M S B lo rules ks (Lev.iter (bD rules.l) k) D0 m h) (sd:uT n rules.l s D0) {ng:FuncId} {na nb:List AV}
  (note:∀ (i:Int) (r:aJ) (k:Int) (hd:Sl Int) (cs:Sl (Sl Int)) (ls:Sl Int) (y:AV) (h:af) (K:Out→af→Bool),(∀ h',bK h h'→K (.ret (.tuple [])) h'=true)→Sem Tryz.prog ng (na++([.agg (bx i r k (aq encI 1 hd) (aq ey 1 cs) (aq encI 1 ls)),y]++nb)) h K)
  {K:Out→af→Bool} (hK:∀ h' D' F,iJ rules.l n s F→cN D'=F→dK D' D0→ET n P A M S B lo rules ks (Lev.iter (bD rules.l) k) D' m h'→(∀ b,b<lo→h'.get b=h.get b)→h.next≤h'.next→K (.ret (.tuple [])) h'=true) :
  Sem Tryz.prog 46 [.ptr P 0,.ptr S 0,.func ng na nb] h K:=by
 obtain ⟨hP,hl,hks,hgo,⟨es,ck,hA,hmB⟩,hS,hD,o1,o2,o3,o4,o5,o6⟩:=sh
 have hgok:=iq hgo
 have hrow:∀ nm p,D0 nm=some p→lo≤p.1:=fun nm p hp=>(hD.blk nm p hp).1
 have o:Im S n D0 rules.l ng na nb:=
  ⟨n1,n64,hfew,fun r hr=>(hgok r hr).2.2,fun nm p hp=>by have:=hrow nm p hp;omega,fun r hr D hd=>DI hg hgo hsv hn h4 h5 sd hr D hd,fun r hr=>⟨(lN hn h5 sd hr).1,m9 (hgok r hr).1,(lN hn h5 sd hr).2⟩,note,hg.lR⟩
 refine Gs o hP (by omega) hl hks (by omega) (fun r hr=>List.mem_map_of_mem hr) (EV hg.lR (fun r hr=>(hgok r hr).2.1) hst) hS (by omega) hD (fun nm p hp=>by have:=hrow nm p hp;omega) fun h' D' T hT hrun hdim hbit hfr hnx=>?_
 have keep:∀ b,b<lo→h'.get b=h.get b:=fun b hb=>hfr b (by omega) fun nm p hp=>by have:=hrow nm p hp;omega
 have hlen:ku n rules.l D0:=fun r hr p hp=>by
  obtain ⟨_,q,h1,h2⟩:=lN hn h5 sd hr
  rw [h1] at hp;cases hp;exact h2
 have hch:=(GG n1 (Be hst) hlen (fun r hr=>by obtain ⟨_,q,h1,_⟩:=lN hn h5 sd hr;exact ⟨q,h1⟩) hrun).1
 rw [EW hsv h4 sd] at hch
 refine hK h' D' (cN D') ⟨k,T+1,hst,fun r hr=>by have:=hT r.name (List.mem_map_of_mem hr);omega,hch⟩ rfl hdim ⟨by rw [keep _ (by omega)];exact hP,hl.keep (keep _ (by omega)),hks,hgo,⟨es,ck,by rw [keep _ (by omega)];exact hA,hmB⟩,by rw [keep _ (by omega)];exact hS,hbit,by omega⟩ keep hnx
theorem IC{h:af}{K:Out→af→Bool}{i:Int}{r:aJ}{k:Int}{hd:Sl Int}{cs:Sl (Sl Int)}{ls:Sl Int}{y:AV}(hK:∀ h',bK h h'→K (.ret (.tuple [])) h'=true):Sem Tryz.prog 47 ([]++([.agg (bx i r k (aq encI 1 hd) (aq ey 1 cs) (aq encI 1 ls)),y]++[])) h K:=by
 refine F.wD ?_
 rw [F.yI]
 simp only [cI (uK i r k hd cs ls),bindO_some]
 exact hK _ (bK.alloc _ _)
end
end Go.AM
namespace Go.AM
open Go Go.Proofs
noncomputable section
end
end Go.AM
namespace Go.AM
open Go Go.Proofs
noncomputable section
end
end Go.AM
namespace Go.AM
open Go Go.Proofs
noncomputable section
end
end Go.AM
namespace Go.AM
open Go Go.Proofs
noncomputable section
end
end Go.AM
namespace Go.AM
open Go Go.Proofs
noncomputable section
def tS(n:Nat)(F:Lk)(nm:bA)(k i:Nat):List (List Int):=((List.range i).filter (F nm)).map (kq n k)
theorem GP(n:Nat)(F:Lk)(nm:bA)(k i:Nat):tS n F nm k (i+1)=tS n F nm k i++if F nm i=true then [kq n k i] else []:=by
 unfold tS
 rw [List.range_succ,List.filter_append,List.map_append]
 by_cases h:F nm i=true<;>simp [h]
theorem ID(n:Nat)(F:Lk)(nm:bA)(k i:Nat):(tS n F nm k i).length≤i:=by
 unfold tS
 rw [List.length_map]
 have:=List.length_filter_le (F nm) (List.range i)
 simpa using this
def wG(rs:List aJ)(n:Nat)(F:Lk)(nms:List bA):List (bA×Int×List (List Int)):=nms.map fun nm=>(nm,(mH rs nm:Int),tS n F nm (mH rs nm) (n ^ mH rs nm))
def tT(rs:List aJ)(s:dP)(e:Int):Prop:=((¬ jx rs∨cY s=false)∧e=1)∨(jx rs∧cY s=true∧((GJ rs s∧e=4)∨(¬ GJ rs s∧IX rs s∧e=5)))
structure iK (rs:List aJ) (s:dP):Prop where
 good:jx rs
 valid:cY s=true
 names:¬ GJ rs s
 sizes:¬ IX rs s
theorem xe(s:St):eL Tryz.prog s Tryz.f13.results.toList=(match aj (some 2) (s.env 4) s.h,(some [s.env 5]:Option (List AV)) with|some v,some vs=>some (v :: vs)|_,_=>none):=by kernel_rfl
theorem B8{rs:List aJ}{m:cS}(hgo:dO rs []=some m){nm:bA}(h:nm ∈ bg rs):m.find nm=some (mH rs nm:Int)∧∃ r ∈ rs,r.name=nm∧mH rs nm=r.args.l.length:=by
 obtain ⟨r,hr,hrn⟩:=List.mem_map.1 h
 have:=B7 hgo hr
 rw [← hrn]
 refine ⟨?_,r,hr,rfl,this⟩
 rw [this]
 exact (iD hgo _ _).2 (kS hr)
theorem EX{rs:List aJ}{h:af}{M:Nat}{ks:List bA}{lv:Lev.Lv}(hl:dZ (bg rs) h M ks lv)(hks:ks.Nodup):mQ ks=eo rs:=by
 obtain ⟨h1,h2⟩:=BV hks
 exact rq h1 (mj rs) fun x=>by rw [h2,hl.mem,eD]
theorem GQ{D:DB}{nm:bA}{p:Nat×List Bool}(hp:D nm=some p){i:Nat}(hi:i<p.2.length):p.2[i]?=some (cN D nm i):=by
 unfold cN;rw [hp]
 simp only
 rw [List.getD_eq_getElem?_getD,List.getElem?_eq_getElem hi];rfl
set_option maxHeartbeats 4000000 in
theorem cU{rules:Sl aJ}{s:dP}(hok:∀ r ∈ rules.l,r.ok)(hfew:∀ r ∈ rules.l,r.lR)(hsok:s.ok)(hsm:cY s=true→s.small){h:af}{K:Out→af→Bool}
  (herr:∀ e,tT rules.l s e→K (.ret (.tuple [.agg (aA ⟨0,none⟩),.int .i64 e])) h=true)
  (hyes:iK rules.l s→∀ out:dP,out.size=s.size→(∃ Fk,iJ rules.l s.size.toNat s Fk∧out.rels.l.map eM=s.rels.l.map eM++wG rules.l s.size.toNat Fk (eo rules.l))→K (.ret (.tuple [.agg (aA out),.int .i64 0])) h=true) :
  Sem Tryz.prog 13 [aq aM 3 rules,.agg (aA s)] h K:=by
 have hm:cZ=140737488355328:=rfl
 have gen:∀ R:Out→af→Bool,(∀ e h',tT rules.l s e→R (.ret (.tuple [.agg (aA ⟨0,none⟩),.int .i64 e])) h'=true) →
   (iK rules.l s→∀ h' a (x:Sl Rel) Fk,Fz true h' a (aq bw 3 x)→iJ rules.l s.size.toNat s Fk→x.l.map eM=s.rels.l.map eM++wG rules.l s.size.toNat Fk (eo rules.l)→R (.ret (.tuple [.agg [.int .i64 s.size,a],.int .i64 0])) h'=true) →
   Sem Tryz.prog 13 [aq aM 3 rules,.agg (aA s)] af.empty R:=by
  intro R rerr ryes
  refine F.zS ?_
  rw [F.BP]
  simp only [cI (dD s),bindO_some,bM,af.next_alloc]
  have g0:((af.alloc af.empty (.cells (aA s))).alloc (.cells [.int .i64 0,.nils])).get 0=some (.cells (aA s)):=by simp [af.aX,bM]
  have g1:((af.alloc af.empty (.cells (aA s))).alloc (.cells [.int .i64 0,.nils])).get 1=some (.cells [.int .i64 0,.nils]):=by simp [af.aX,bM]
  have gn:((af.alloc af.empty (.cells (aA s))).alloc (.cells [.int .i64 0,.nils])).next=2:=rfl
  generalize ((af.alloc af.empty (.cells (aA s))).alloc (.cells [.int .i64 0,.nils]))=H0 at g0 g1 gn ⊢
  have l0:aj (some 2) (.ptr 0 0) H0=some (.agg (aA s)):=by rw [ak g0,dG (cs:=aA s) (n:=2) rfl]
  have hz:jo [.int .i64 0,.nils] [] []=some (.agg [.int .i64 0,.nils]):=rfl
  have bad:∀ (e:Int) (h':af) (v:AV) (en:Env),e≠0→tT rules.l s e→(∀ b,b<2→h'.get b=H0.get b)→en 4 = .ptr 1 0→en 5 = .int .i64 e →
    (ag (jo [.int .i64 0,.nils] [] []) fun x10=>ag (bH 2 (.ptr 1 0) x10 h') fun h11=>ag (match aj (some 2) (en 4) h11,(some [en 5]:Option (List AV)) with|some v,some vs=>some (v :: vs)|_,_=>none) fun vs=>R (.ret (oneOf vs)) h11)=true:=by
   intro e h' v en he hb hf e4 e5
   have q1:h'.get 1=some (.cells [.int .i64 0,.nils]):=by rw [hf 1 (by omega)];exact g1
   have st:bH 2 (.ptr 1 0) (.agg [.int .i64 0,.nils]) h'=some (h'.set 1 (.cells [.int .i64 0,.nils])):=by
    rw [dr (n:=2) (v:=.agg [.int .i64 0,.nils]) q1 rfl rfl (by simp)];rfl
   have lo2:aj (some 2) (.ptr 1 0) (h'.set 1 (.cells [.int .i64 0,.nils]))=some (.agg [.int .i64 0,.nils]):=by rw [ak (cs:=[.int .i64 0,.nils]) (by rw [af.aS,if_pos rfl])];rfl
   simp only [hz,bindO_some,st,e4,e5,lo2,oneOf]
   exact rerr e _ hb
  simp only [l0,bindO_some]
  refine an (ax hok hfew hsok (fun hb h' hf=>?_) (fun a1 a2 a3 h' hf=>?_) (fun a1 a2 a3 a4 h' hf=>?_) fun a1 a2 a3 a4 h' n P A M S B lo ks k D0 m hn n1 n64 hst sh sd hf hA2=>?_)
  ·simp only [aQ,Nat.reduceAdd,Nat.reduceEqDiff,reduceIte,ct]
   simp only [show (!decide ((1:Int)=0))=true from rfl,aD,xe]
   exact bad 1 h' .nilp _ (by omega) (.inl ⟨hb,rfl⟩) (by rw [← gn];exact hf) rfl rfl
  ·simp only [aQ,Nat.reduceAdd,Nat.reduceEqDiff,reduceIte,ct]
   simp only [show (!decide ((4:Int)=0))=true from rfl,aD,xe]
   exact bad 4 h' .nilp _ (by omega) (.inr ⟨a1,a2,.inl ⟨a3,rfl⟩⟩) (by rw [← gn];exact hf) rfl rfl
  ·simp only [aQ,Nat.reduceAdd,Nat.reduceEqDiff,reduceIte,ct]
   simp only [show (!decide ((5:Int)=0))=true from rfl,aD,xe]
   exact bad 5 h' .nilp _ (by omega) (.inr ⟨a1,a2,.inr ⟨a3,a4,rfl⟩⟩) (by rw [← gn];exact hf) rfl rfl
  have hnn:s.size.toNat=n:=by omega
  have hsml:=hsm a2
  obtain ⟨_,_,_,_,h8⟩:=qD a2
  specialize ryes ⟨a1,a2,a3,a4⟩
  rw [hnn] at ryes
  clear rerr bad
  simp only [aQ,Nat.reduceAdd,Nat.reduceEqDiff,reduceIte,ct]
  simp only [decide_true,Bool.not_true,aC]
  refine an (zu hfew a1 a2 a3 a4 hn n1 n64 hst sh sd (fun _ _ _ _ _ _ _ _ _ hk=>IC hk) fun h3 D' Fk hF hDF hdim sh3 keep3 hn3=>?_)
  obtain ⟨hP,hl,hks,hgo,⟨es,ck,hA,hmB⟩,hS,hD,o1,o2,o3,o4,o5,o6⟩:=sh3
  rw [gn] at hA2
  have p0:h3.get 0=some (.cells (aA s)):=by rw [keep3 0 (by omega),hf 0 (by omega)];exact g0
  have p1:h3.get 1=some (.cells [.int .i64 0,.nils]):=by rw [keep3 1 (by omega),hf 1 (by omega)];exact g1
  have l3:aj (some 2) (.ptr 0 0) h3=some (.agg (aA s)):=by rw [ak p0,dG (cs:=aA s) (n:=2) rfl]
  simp only [aQ,Nat.reduceAdd,Nat.reduceEqDiff,reduceIte,l3]
  refine an (cG hsml fun a h4 l x4 o4' hl4=>?_)
  obtain ⟨ho1,ho2⟩:=qG o4'.own
  have one2:bq [.int .i64 s.size,a]=true:=by simp only [bq,Bool.and_true] at ho1 ⊢;rw [ho1];rfl
  obtain ⟨H5,hs5,p5,po5,pn5⟩:=cJ (h:=h4) (zs:=[.int .i64 0,.nils]) (cs:=[.int .i64 s.size,a]) (n:=2) rfl rfl one2
  have x5:bK h4 H5:=⟨by omega,fun b hb=>po5 b (by omega)⟩
  have x35:bK h3 H5:=x4.trans x5
  have hn4:=x4.next
  have hP5:H5.get P=some (.cells [aq aM 3 rules,.map A,.map M]):=by rw [x35.get _ (by omega)];exact hP
  simp only [aQ,Nat.reduceAdd,Nat.reduceEqDiff,reduceIte,hs5,bF,ak hP5]
  refine an (keys_map ?_)
  simp only [aQ,Nat.reduceAdd,Nat.reduceEqDiff,reduceIte]
  have gB:(H5.alloc (.box (.map M))).get H5.next=some (.box (.map M)):=aI _ _
  have xB:bK H5 (H5.alloc (.box (.map M))):=bK.alloc _ _
  generalize (H5.alloc (.box (.map M)))=H6 at gB xB ⊢
  have hgok:=iq hgo
  have l5:dZ (bg rules.l) H6 M ks (Lev.iter (bD rules.l) k):=hl.keep ((x35.trans xB).get M (by omega))
  obtain ⟨es2,ck2,gM,hents,hkb,hel⟩:=l5.PK hks fun s hs=>by
   obtain ⟨r,hr,rfl⟩:=List.mem_map.1 ((l5.mem s).1 hs)
   have:=Db (rY (hgok r hr).1)
   omega
  have hk60:=FI hl hks
  have hd60:=mY rules.l
  have hr60:=a1.lR
  refine an (EB gB gM hents (by omega) fun av h7 x7 oa=>?_)
  rw [hkb,EX hl hks] at oa
  have hb7:=x7.next
  have hb6:=xB.next
  have x47:bK h4 h7:=(x5.trans xB).trans x7
  have oo:=o4'.PN x47 (Y:=fun b=>b=h4.next) (fun b hb=>by omega)
  have q5:h7.get h4.next=some (.cells [.int .i64 s.size,a]):=by rw [(xB.trans x7).get _ (by omega)];exact p5
  have x37:bK h3 h7:=x4.trans x47
  simp only [aQ,Nat.reduceAdd,Nat.reduceEqDiff,reduceIte,oa.len]
  have hdl:(eo rules.l).length≤cy:=by unfold cy;omega
  have hll:l.length≤8:=by have:=congrArg List.length hl4;rw [List.length_map,List.length_map] at this;omega
  refine aE 0 (eo rules.l).length (Nat.zero_le _) (fun i e h'=>∃ a l,h'.get h4.next=some (.cells [.int .i64 s.size,a])∧Iy (fun b=>b=h4.next) h3.next h' a l∧(l.map fun p=>eM p.2)=s.rels.l.map eM++wG rules.l n Fk ((eo rules.l).take i)∧l.length≤8+i∧(∀ b,b<h3.next→h'.get b=h3.get b)∧Own encS 1 H6.next h' av (eo rules.l)∧(∀ b,dQ av=some b→dQ a≠some b)∧h7.next≤h'.next ∧
   e 3 = .ptr 0 0∧e 4 = .ptr 1 0∧e 6 = .ptr P 0∧e 7 = .ptr S 0∧e 9 = .ptr h4.next 0∧e 38=av∧e 39 = .int .i64 ((eo rules.l).length:Int)∧e 40 = .int .i64 (i:Int))
   ⟨a,l,q5,oo,by rw [hl4];simp [wG],by omega,fun b hb=>x37.get b hb,oa,fun b hb hb'=>by have:=oa.ge hb;have:=o4'.own.lt hb';have:=x5.next;omega,Nat.le_refl _,rfl,rfl,rfl,rfl,rfl,rfl,rfl,rfl⟩ ?_ ?_
  ·rintro i e h' _ hi ⟨a,l,q5,o,hl5,hlen,hfr,oa',sepA,hnx,e3,e4,e6,e7,e9,e38,e39,e40⟩ K' hnn' hx hr hp
   have hv:(eo rules.l)[i]?=some (eo rules.l)[i]:=List.getElem?_eq_getElem hi
   generalize (eo rules.l)[i]=nm at hv
   have hnm:nm ∈ bg rules.l:=(eD _).1 (List.mem_of_getElem? hv)
   obtain ⟨hfa,r,hrm,hrn,har⟩:=B8 hgo hnm
   obtain ⟨hpow,p0',hp0,hp0l⟩:=lN hn a4 sd hrm
   rw [hrn] at hp0
   obtain ⟨p,hpD,_,hpl⟩:=hdim.get hp0
   rw [hp0l,← har] at hpl
   rw [← har] at hpow
   have hk12:mH rules.l nm≤12:=by rw [har];exact m9 (hgok r hrm).1
   obtain ⟨_,hpn,_,hprow⟩:=hD.blk nm p hpD
   obtain ⟨q,_,i1,i2⟩:=pE oa' hv
   have pP:h'.get P=some (.cells [aq aM 3 rules,.map A,.map M]):=by rw [hfr _ (by omega)];exact hP
   have pA:h'.get A=some (.map es ck):=by rw [hfr _ (by omega)];exact hA
   have hlk:cV .string (.int .i64 0) false (.map A) (.str nm) h'=some (.int .i64 (mH rules.l nm:Int)):=by rw [pG pA hmB.1,hfa];rfl
   have hag:jo [.str [],.int .i64 0,.nils] [(0,1),(1,1)] [.str nm,.int .i64 (mH rules.l nm:Int)]=some (.agg [.str nm,.int .i64 (mH rules.l nm:Int),.nils]):=rfl
   obtain ⟨H8,hs8,p8,po8,pn8⟩:=cJ (h:=h') (zs:=[.str [],.int .i64 0,.nils]) (cs:=[.str nm,.int .i64 (mH rules.l nm:Int),.nils]) (n:=3) rfl rfl rfl
   have x8:bK h' H8:=⟨by omega,fun b hb=>po8 b (by omega)⟩
   have pS:H8.get S=some (.cells [.int .i64 (n:Int),.map B]):=by rw [x8.get _ (by omega),hfr _ (by omega)];exact hS
   have hD8:dm D' H8 B lo:=hD.ext ⟨by omega,fun b hb=>by rw [x8.get _ (by omega),hfr b hb]⟩
   rw [F.cU.aP]
   simp only [e6,e7,e38,e39,e40,aQ,Nat.reduceAdd,Nat.reduceEqDiff,reduceIte,bf hi,i1,i2,bF,ak pP,hlk,hag,hs8]
   simp only [aQ,Nat.reduceAdd,Nat.reduceEqDiff,reduceIte,bF,ak pS,hD8.look hpD]
   have hrowlen:∀ hh,bR .slice (.slice p.1 0 p.2.length 1) hh=some (.int .i64 (p.2.length:Int)):=fun _=>rfl
   simp only [hrowlen,bindO_some]
   have hbp:p.2.length≤cy:=by rw [hpl];unfold cy;omega
   refine aE 0 p.2.length (Nat.zero_le _) (fun j e h2=>∃ tv ts,h2.get h'.next=some (.cells [.str nm,.int .i64 (mH rules.l nm:Int),tv])∧Own ey 1 (h'.next+1) h2 tv ts∧ts.map Sl.l=tS n Fk nm (mH rules.l nm) j∧bK h' h2∧h'.next+1≤h2.next ∧
    e 3 = .ptr 0 0∧e 4 = .ptr 1 0∧e 6 = .ptr P 0∧e 7 = .ptr S 0∧e 9 = .ptr h4.next 0∧e 38=av∧e 39 = .int .i64 ((eo rules.l).length:Int)∧e 40 = .int .i64 (i:Int)∧e 12 = .ptr h'.next 0∧e 57 = .slice p.1 0 p.2.length 1∧e 58 = .int .i64 (p.2.length:Int)∧e 59 = .int .i64 (j:Int))
    ⟨_,[],p8,.nil,rfl,x8,by omega,e3,e4,e6,e7,e9,e38,e39,e40,rfl,rfl,rfl,rfl⟩ ?_ ?_
   ·rintro j e h2 _ hj ⟨tv,ts,q6,ot,hts,x2,qn2,e3,e4,e6,e7,e9,e38,e39,e40,e12,e57,e58,e59⟩ K2 hnn2 hx2 hr2 hp2
    have htsl:ts.length≤j:=by have:=congrArg List.length hts;rw [List.length_map] at this;have:=ID n Fk nm (mH rules.l nm) j;omega
    have hrow2:h2.get p.1=some (.cells (p.2.map bv)):=by rw [x2.get _ (by omega),hfr _ hpn];exact hprow
    have hbit:=GQ hpD hj
    rw [hDF] at hbit
    have hsuc:=GP n Fk nm (mH rules.l nm) j
    rw [F.cU.dc]
    simp only [e57,e58,e59,aQ,Nat.reduceAdd,Nat.reduceEqDiff,reduceIte,bf hj,j9 hj,BY hrow2 hbit]
    cases hFb:Fk nm j with
    |false=>
     rw [hFb,if_neg (by simp),List.append_nil] at hsuc
     simp only [aC,e59,aK hj hbp,bindO_some]
     exact hnn2 _ _ ⟨tv,ts,q6,ot,by rw [hsuc];exact hts,x2,qn2,e3,e4,e6,e7,e9,e38,e39,e40,e12,e57,e58,rfl⟩
    |true=>
     rw [hFb,if_pos rfl] at hsuc
     have w0:h2.get 0=some (.cells (aA s)):=by rw [x2.get _ (by omega),hfr 0 (by omega)];exact p0
     have lz:aj none (.ptr 0 0) h2=some (.int .i64 (n:Int)):=by rw [ak w0,← hn];rfl
     have la:aj none (.ptr h'.next 1) h2=some (.int .i64 (mH rules.l nm:Int)):=by rw [ak q6];rfl
     have lt:aj none (.ptr h'.next 2) h2=some tv:=by rw [ak q6];rfl
     simp only [aD,e3,e12,e59,aQ,Nat.reduceAdd,Nat.reduceEqDiff,reduceIte,lz,la]
     refine an (eU n1 n64 hk12 hpow (by rw [← hpl];exact hj) fun t ht=>?_)
     obtain ⟨a9,h9,c9,o9,f9,n9,w9,b9⟩:=ot.push yR DH qn2 (bytes:=24) (by rw [hm];omega) t
     have hne:dQ tv≠some h'.next:=fun hb=>by have:=ot.ge hb;omega
     have s6:h9.get h'.next=some (.cells [.str nm,.int .i64 (mH rules.l nm:Int),tv]):=by rw [f9 _ (by omega) hne];exact q6
     have c6:=o9.pV
     have st:bH 1 (.ptr h'.next 2) a9 h9=some (h9.set h'.next (.cells [.str nm,.int .i64 (mH rules.l nm:Int),a9])):=by
      rw [dr (n:=1) s6 c6.2.1 c6.1 (by simp),c6.2.2];rfl
     simp only [aQ,Nat.reduceAdd,Nat.reduceEqDiff,reduceIte,e12,lt,Lu,c9,st,e59,aK hj hbp]
     refine hnn2 _ _ ⟨a9,ts++[t],by rw [af.aS,if_pos rfl],o9.mF (by omega) _,?_,(w9 h' x2 (by omega)).set (Nat.le_refl _) _,by rw [af.next_set];omega,e3,e4,e6,e7,e9,e38,e39,e40,e12,e57,e58,rfl⟩
     rw [List.map_append,hts,hsuc]
     simp [ht]
   ·rintro e h2 ⟨tv,ts,q6,ot,hts,x2,qn2,e3,e4,e6,e7,e9,e38,e39,e40,e12,e57,e58,e59⟩ K2 hx2
    have oe:=o.ext x2
    obtain ⟨hv1,hv2⟩:=qG ot
    have lq:aj (some 3) (.ptr h'.next 0) h2=some (.agg (lM (nm,(mH rules.l nm:Int),⟨tv,hv1,hv2⟩))):=by rw [ak q6];rfl
    have q52:h2.get h4.next=some (.cells [.int .i64 s.size,a]):=by rw [x2.get _ (by omega)];exact q5
    have lo:aj none (.ptr h4.next 1) h2=some a:=by rw [ak q52];rfl
    obtain ⟨x,hx1,hx3⟩:=(iS.IA ot mW).data
    have hxl:x.l=ts:=by rw [hx1,List.map_map];simp [Function.comp_def]
    obtain ⟨a9,h9,c9,o9,f9,n9,w9,b9⟩:=oe.push uU uV (by omega) (bytes:=48) (by rw [hm];omega) (nm,(mH rules.l nm:Int),⟨tv,hv1,hv2⟩) ⟨nm,(mH rules.l nm:Int),x⟩ (fun b hb=>by omega)
     (fun g hg=>Iz (hx3 g fun b b1 b2 _=>hg b (by omega) b2 (by omega) (fun hb=>by have:=o.own.lt hb;omega)))
    have hne:dQ a≠some h4.next:=fun hb=>oe.av _ hb rfl
    have s5:h9.get h4.next=some (.cells [.int .i64 s.size,a]):=by rw [f9 _ (by omega) hne];exact q52
    have c6:=o9.own.pV
    have st:bH 1 (.ptr h4.next 1) a9 h9=some (h9.set h4.next (.cells [.int .i64 s.size,a9])):=by
     rw [dr (n:=1) s5 c6.2.1 c6.1 (by simp),c6.2.2];rfl
    rw [F.cU.dc]
    simp only [e58,e59,aQ,Nat.reduceAdd,Nat.reduceEqDiff,reduceIte,aR]
    rw [hx2,F.cU.cx]
    simp only [aQ,Nat.reduceAdd,Nat.reduceEqDiff,reduceIte,e9,e12,e40,lo,lq,Ix,c9,st,aK hi hdl]
    refine hnn' _ _ ⟨a9,_,by rw [af.aS,if_pos rfl],o9.PM rfl _,?_,by simp;omega,fun b hb=>?_,?_,fun b hb hb'=>by have:=oa'.lt hb;have:=b9 b hb';omega,by rw [af.next_set];omega,e3,e4,e6,e7,e9,e38,e39,rfl⟩
    ·rw [List.map_append,hl5,List.take_add_one,hv]
     unfold wG
     rw [List.map_append,← List.append_assoc]
     simp only [Option.toList_some,List.map_cons,List.map_nil,eM,hxl,hts,hpl]
    ·rw [af.aS,if_neg (by omega),f9 b (by omega) (fun hb'=>by have:=oe.own.ge hb';omega),x2.get b (by omega)]
     exact hfr b hb
    ·have hane:∀ b,dQ av=some b→(h9.set h4.next (.cells [.int .i64 s.size,a9])).get b=h'.get b:=fun b hb=>by
      have b1:=oa'.ge hb
      have b2:=oa'.lt hb
      rw [af.aS,if_neg (by omega),f9 b (by omega) ?_,x2.get b b2]
      intro hb'
      exact sepA b hb hb'
     exact oa'.agree hane (by rw [af.next_set];omega)
  ·rintro e h' ⟨a,l,q5,o,hl5,hlen,hfr,oa',sepA,hnx,e3,e4,e6,e7,e9,e38,e39,e40⟩ K' hx
   rw [List.take_of_length_le (Nat.le_refl _)] at hl5
   obtain ⟨ho1,ho2⟩:=qG o.own
   have one3:bq [.int .i64 s.size,a]=true:=by simp only [bq,Bool.and_true] at ho1 ⊢;rw [ho1];rfl
   have q1:h'.get 1=some (.cells [.int .i64 0,.nils]):=by rw [hfr 1 (by omega)];exact p1
   have lo:aj (some 2) (.ptr h4.next 0) h'=some (.agg [.int .i64 s.size,a]):=by rw [ak q5];rfl
   have st:bH 2 (.ptr 1 0) (.agg [.int .i64 s.size,a]) h'=some (h'.set 1 (.cells [.int .i64 s.size,a])):=by
    rw [dr (n:=2) (v:=.agg [.int .i64 s.size,a]) q1 rfl one3 (by simp)];rfl
   have lo2:aj (some 2) (.ptr 1 0) (h'.set 1 (.cells [.int .i64 s.size,a]))=some (.agg [.int .i64 s.size,a]):=by rw [ak (cs:=[.int .i64 s.size,a]) (by rw [af.aS,if_pos rfl])];rfl
   rw [F.cU.aP]
   simp only [e39,e40,aQ,Nat.reduceAdd,Nat.reduceEqDiff,reduceIte,aR]
   rw [hx,F.cU.aG]
   simp only [bE,Nat.reduceEqDiff,reduceIte,e4,e9,lo,st,bindO_some,xe,lo2,oneOf]
   obtain ⟨x,hx1,hx2⟩:=(o.low (d:=1) (by omega) (.cells [.int .i64 s.size,a])).fz
   exact ryes _ a x Fk hx2 hF (by rw [hx1,List.map_map];exact hl5)
 have main:=gen (fun o h'=>yes ((∃ e,tT rules.l s e∧o = .ret (.tuple [.agg (aA ⟨0,none⟩),.int .i64 e]))∨(iK rules.l s∧∃ (a:AV) (x:Sl Rel) (Fk:Lk),o = .ret (.tuple [.agg [.int .i64 s.size,a],.int .i64 0])∧Fz true h' a (aq bw 3 x)∧iJ rules.l s.size.toNat s Fk∧x.l.map eM=s.rels.l.map eM++wG rules.l s.size.toNat Fk (eo rules.l))))
  (fun e h' he=>cz.2 (.inl ⟨e,he,rfl⟩)) (fun hr h' a x Fk hf hF hx=>cz.2 (.inr ⟨hr,a,x,Fk,rfl,hf,hF,hx⟩))
 refine main.frozen (by simp [AV.pureL,AV.pure,cj eC,eT]) fun o h' ho=>?_
 rcases cz.1 ho with ⟨e,he,rfl⟩|⟨hr,a,x,Fk,rfl,hf,hF,hx⟩
 ·exact ⟨_,_,rfl,.ez (by rfl),herr e he⟩
 ·have f1:=lf.cons (.scalar (.int .i64 s.size) rfl) (lf.cons hf lf.nil)
  have f2:=lf.cons (Fz.agg _ _ f1.len f1.rel) (lf.cons (.scalar (.int .i64 0) rfl) lf.nil)
  exact ⟨_,_,rfl,.tuple _ _ f2.len f2.rel,hyes hr ⟨s.size,x⟩ rfl ⟨Fk,hF,hx⟩⟩
end
end Go.AM
namespace Go.AM
open Go Go.Proofs
noncomputable section
theorem Ai{x:Sl bA}{s:bA}(hl:x.l.length≤cy){h:af}{K:Out→af→Bool}(hK:K (.ret (.bool (x.l.any fun x=>x==s))) h=true):Sem Tryz.prog 73 [aq encS 1 x,.str s] h K:=by
 refine F.nV ?_
 rw [F.oR]
 refine aE 0 x.l.length (Nat.zero_le _) (fun i e h'=>h'=h∧e 0=aq encS 1 x∧e 1 = .str s∧e 5 = .int .i64 (i:Int)∧((x.l.take i).any fun x=>x==s)=false) ⟨rfl,rfl,rfl,rfl,rfl⟩ ?_ ?_
 ·rintro i e h' _ hi ⟨rfl,e0,e1,e5,ht⟩ K' hn hx hr hp
  have hv:x.l[i]?=some x.l[i]:=List.getElem?_eq_getElem hi
  generalize x.l[i]=t at hv
  rw [F.cM.aP]
  simp only [e0,e1,e5,aQ,Nat.reduceAdd,Nat.reduceEqDiff,reduceIte,bf hi,aT x hi,gC hv]
  cases hq:(t==s) with
  |true=>
   simp only [aD]
   rw [hr,F.cM.bp]
   have:(x.l.any fun x=>x==s)=true:=List.any_eq_true.2 ⟨t,List.mem_of_getElem? hv,hq⟩
   rw [this] at hK
   simp only [bE,Nat.reduceEqDiff,reduceIte]
   exact hK
  |false=>
   simp only [aC,e5,aK hi hl,bindO_some]
   exact hn _ _ ⟨rfl,e0,e1,rfl,tF hv ht hq⟩
 ·rintro e h' ⟨rfl,e0,e1,e5,ht⟩ K' hx
  rw [List.take_of_length_le (Nat.le_refl _)] at ht
  rw [F.cM.aP]
  simp only [e0,e5,aQ,Nat.reduceAdd,Nat.reduceEqDiff,reduceIte,aR]
  rw [hx,F.cM.aG]
  rw [ht] at hK
  exact hK
theorem IE(y:bA×Int):bq (kg y)=true:=rfl
def IY(l:List (bA×Int))(x:bA):Int:=match l.find? (fun p=>p.1==x) with|some p=>p.2|none=>-1
theorem uX{rs:List aJ}(h60:rs.length≤60)(h20:∀ r ∈ rs,r.body.l.length≤20):(cm rs).length≤1260:=by
 have:∀ rs:List aJ,(∀ r ∈ rs,r.body.l.length≤20)→(cm rs).length≤rs.length*21:=by
  intro rs
  induction rs with
  |nil=>intro _;simp [cm]
  |cons r rs ih=>
   intro h
   have h1:=ih fun q hq=>h q (List.mem_cons_of_mem _ hq)
   have h2:=h r List.mem_cons_self
   have h3:=mG r.body.l
   unfold cm at h1 ⊢
   rw [List.flatMap_cons,List.length_append,List.length_cons]
   have:(rZ r).length=1+(dw r.body.l).length:=by unfold rZ;rw [List.length_cons];omega
   omega
 have:=this rs h20
 omega
theorem dA{rules:Sl aJ}(h60:rules.l.length≤60)(h20:∀ r ∈ rules.l,r.body.l.length≤20){s:bA}{h:af}{K:Out→af→Bool}(hK:K (.ret (.int .i64 (IY (cm rules.l) s))) h=true):Sem Tryz.prog 74 [aq aM 3 rules,.str s] h K:=by
 have hal:=uX h60 h20
 refine F.wA ?_
 rw [F.yF]
 refine an (cp h60 h20 fun x hx1=>?_)
 simp only [aQ,Nat.reduceAdd,Nat.reduceEqDiff,reduceIte]
 have hxb:x.l.length≤cy:=by rw [hx1];unfold cy;omega
 rw [← hx1] at hK
 refine aE 0 x.l.length (Nat.zero_le _) (fun i e h'=>h'=h∧e 1 = .str s∧e 5=aq kg 2 x∧e 6 = .int .i64 (i:Int)∧∀ p ∈ x.l.take i,p.1≠s) ⟨rfl,rfl,rfl,rfl,fun p hp=>(by cases hp)⟩ ?_ ?_
 ·rintro i e h' _ hi ⟨rfl,e1,e5,e6,hno⟩ K' hn hx hr hp
  have hv:x.l[i]?=some x.l[i]:=List.getElem?_eq_getElem hi
  generalize x.l[i]=p at hv
  rw [F.dA.aP]
  simp only [e1,e5,e6,aQ,Nat.reduceAdd,Nat.reduceEqDiff,reduceIte,bf hi,aT x hi,DD hv,EN hv,nJ]
  by_cases hq:p.1=s
  ·simp only [decide_eq_true hq,aD]
   rw [hr,F.dA.bp]
   simp only [bE,Nat.reduceEqDiff,reduceIte]
   have:x.l.find? (fun p=>p.1==s)=some p:=by
    rw [List.find?_eq_some_iff_getElem]
    refine ⟨by simp [hq],i,hi,(List.getElem?_eq_some_iff.1 hv).2,fun j hj=>?_⟩
    have:=hno _ (List.mem_take_iff_getElem.2 ⟨j,by omega,rfl⟩)
    simp [this]
   unfold IY at hK
   rw [this] at hK
   exact hK
  ·simp only [decide_eq_false hq,aC,e6,aK hi hxb,bindO_some]
   refine hn _ _ ⟨rfl,e1,e5,rfl,fun q hq'=>?_⟩
   rw [List.take_add_one,hv] at hq'
   rcases List.mem_append.1 hq' with hq'|hq'
   ·exact hno q hq'
   ·simp only [Option.toList_some,List.mem_singleton] at hq'
    subst hq';exact hq
 ·rintro e h' ⟨rfl,e1,e5,e6,hno⟩ K' hx
  rw [List.take_of_length_le (Nat.le_refl _)] at hno
  rw [F.dA.aP]
  simp only [e5,e6,aQ,Nat.reduceAdd,Nat.reduceEqDiff,reduceIte,aR]
  rw [hx,F.dA.aG]
  have:x.l.find? (fun p=>p.1==s)=none:=by
   rw [List.find?_eq_none]
   intro q hq;simp [hno q hq]
  unfold IY at hK
  rw [this] at hK
  exact hK
theorem B9{rs:List aJ}{m:cS}(hgo:dO rs []=some m){x:bA}{k:Int}(h:(x,k) ∈ cm rs):IY (cm rs) x=k:=by
 unfold IY
 cases hf:(cm rs).find? (fun p=>p.1==x) with
 |none=>
  rw [List.find?_eq_none] at hf
  exact absurd (hf _ h) (by simp)
 |some p=>
  have h1:=List.mem_of_find?_eq_some hf
  have h2:=List.find?_some hf
  rw [beq_iff_eq] at h2
  simp only
  exact pZ hgo (x:=x) (by rw [← h2];exact h1) h
theorem IF{rs:List aJ}{m:cS}(hgo:dO rs []=some m){x:bA}(h:x ∈ bg rs):IY (cm rs) x=(mH rs x:Int):=by
 obtain ⟨r,hr,hrn⟩:=List.mem_map.1 h
 rw [← hrn,B9 hgo (kS hr),B7 hgo hr]
def lP(ds:List bA)(ys:List (bA×Int)):List bA:=ys.foldl (fun o y=>if y.1 ∈ ds then o else dM o y.1) []
theorem DJ{ds:List bA}{ys:List (bA×Int)}{i:Nat}{y:bA×Int}(hy:ys[i]?=some y):lP ds (ys.take (i+1))=if y.1 ∈ ds then lP ds (ys.take i) else dM (lP ds (ys.take i)) y.1:=by
 unfold lP;rw [List.take_add_one,hy];simp
theorem zw{ds:List bA}{x:bA}:∀ {ys:List (bA×Int)},x ∈ lP ds ys↔∃ y ∈ ys,y.1=x∧x ∉ ds:=by
 have key:∀ (ys:List (bA×Int)) (o:List bA),x ∈ ys.foldl (fun o y=>if y.1 ∈ ds then o else dM o y.1) o↔(x ∈ o∨∃ y ∈ ys,y.1=x∧x ∉ ds):=by
  intro ys
  induction ys with
  |nil=>intro o;simp
  |cons y ys ih=>
   intro o
   rw [List.foldl_cons,ih]
   by_cases hd:y.1 ∈ ds
   ·rw [if_pos hd]
    constructor
    ·rintro (h|⟨z,hz,h1,h2⟩)
     ·exact .inl h
     ·exact .inr ⟨z,List.mem_cons_of_mem _ hz,h1,h2⟩
    ·rintro (h|⟨z,hz,h1,h2⟩)
     ·exact .inl h
     ·rcases List.mem_cons.1 hz with rfl|hz
      ·exact absurd (h1▸hd) h2
      ·exact .inr ⟨z,hz,h1,h2⟩
   ·rw [if_neg hd,nK]
    constructor
    ·rintro ((h|h)|⟨z,hz,h1,h2⟩)
     ·exact .inl h
     ·exact .inr ⟨y,List.mem_cons_self,h.symm,by rw [h];exact hd⟩
     ·exact .inr ⟨z,List.mem_cons_of_mem _ hz,h1,h2⟩
    ·rintro (h|⟨z,hz,h1,h2⟩)
     ·exact .inl (.inl h)
     ·rcases List.mem_cons.1 hz with rfl|hz
      ·exact .inl (.inr h1.symm)
      ·exact .inr ⟨z,hz,h1,h2⟩
 intro ys
 unfold lP
 rw [key];simp
theorem si(ds:List bA):∀ (ys:List (bA×Int)),(lP ds ys).length≤ys.length:=by
 have key:∀ (ys:List (bA×Int)) (o:List bA),(ys.foldl (fun o y=>if y.1 ∈ ds then o else dM o y.1) o).length≤o.length+ys.length:=by
  intro ys
  induction ys with
  |nil=>intro o;simp
  |cons y ys ih=>
   intro o
   rw [List.foldl_cons]
   have h1:=ih (if y.1 ∈ ds then o else dM o y.1)
   have h2:(if y.1 ∈ ds then o else dM o y.1).length≤o.length+1:=by
    split
    ·omega
    ·exact r6 o y.1
   rw [List.length_cons];omega
 intro ys
 have:=key ys []
 simpa [lP] using this
def Bf(rs:List aJ):List (bA×Int):=(lP (eo rs) (cm rs)).map fun s=>(s,IY (cm rs) s)
theorem KT{l:List bA}{s:bA}:(l.any fun x=>x==s)=decide (s ∈ l):=by
 rw [Bool.eq_iff_iff,List.any_eq_true,decide_eq_true_iff]
 constructor
 ·rintro ⟨x,hx,e⟩;rw [beq_iff_eq] at e;rw [← e];exact hx
 ·intro h;exact ⟨s,h,by simp⟩
set_option maxHeartbeats 1000000 in
theorem b7{rules:Sl aJ}(h60:rules.l.length≤60)(h20:∀ r ∈ rules.l,r.body.l.length≤20){h:af}{K:Out→af→Bool}(hK:∀ x:Sl (bA×Int),x.l=Bf rules.l→K (.ret (aq kg 2 x)) h=true):Sem Tryz.prog 53 [aq aM 3 rules] h K:=by
 have hm:cZ=140737488355328:=rfl
 have hal:=uX h60 h20
 have hdl:=mY rules.l
 have main:Sem Tryz.prog 53 [aq aM 3 rules] af.empty (fun o h'=>yes (∃ v,∃ x:Sl (bA×Int),o = .ret v∧x.l=Bf rules.l∧Fz true h' v (aq kg 2 x))):=by
  refine F.tB ?_
  rw [F.uG]
  refine an (cO h60 fun d hd1=>?_)
  simp only [aQ,Nat.reduceAdd,Nat.reduceEqDiff,reduceIte]
  refine an (cp h60 h20 fun x hx1=>?_)
  simp only [aQ,Nat.reduceAdd,Nat.reduceEqDiff,reduceIte]
  have hxl:x.l.length≤1260:=by rw [hx1];exact hal
  have hxb:x.l.length≤cy:=by unfold cy;omega
  have hdb:d.l.length≤cy:=by rw [hd1];unfold cy;omega
  refine aE 0 x.l.length (Nat.zero_le _) (fun i e h'=>∃ a,Own encS 1 0 h' a (lP (eo rules.l) (x.l.take i))∧e 0=aq aM 3 rules∧e 3=aq encS 1 d∧e 4=a∧e 5=aq kg 2 x∧e 6 = .int .i64 (i:Int)) ⟨.nils,.nil,rfl,rfl,rfl,rfl,rfl⟩ ?_ ?_
  ·rintro i e h' _ hi ⟨a,o,e0,e3,e4,e5,e6⟩ K' hn hx hr hp
   have hv:x.l[i]?=some x.l[i]:=List.getElem?_eq_getElem hi
   generalize x.l[i]=y at hv
   have hst:=DJ (ds:=eo rules.l) hv
   rw [F.b7.aP]
   simp only [e3,e5,e6,aQ,Nat.reduceAdd,Nat.reduceEqDiff,reduceIte,bf hi,aT x hi,DD hv]
   refine an (Ai hdb ?_)
   rw [KT,hd1]
   simp only [aQ,Nat.reduceAdd,Nat.reduceEqDiff,reduceIte]
   by_cases hdm:y.1 ∈ eo rules.l
   ·rw [if_pos hdm] at hst
    simp only [decide_eq_true hdm,Bool.not_true,aC,e6,aK hi hxb,bindO_some]
    exact hn _ _ ⟨a,by rw [hst];exact o,e0,e3,e4,e5,rfl⟩
   ·rw [if_neg hdm] at hst
    simp only [decide_eq_false hdm,Bool.not_false,aD,e4,e5,e6,aQ,Nat.reduceAdd,Nat.reduceEqDiff,reduceIte,aT x hi,DD hv]
    refine an (dH o (Nat.zero_le _) (by have h1:=si (eo rules.l) (x.l.take i);have h2:=List.length_take_le i x.l;omega) fun a1 h1 x1 o1=>?_)
    simp only [aQ,Nat.reduceAdd,Nat.reduceEqDiff,reduceIte,e6,aK hi hxb]
    exact hn _ _ ⟨a1,by rw [hst];exact o1,e0,e3,rfl,e5,rfl⟩
  ·rintro e h' ⟨a,o,e0,e3,e4,e5,e6⟩ K' hx
   rw [List.take_of_length_le (Nat.le_refl _),hx1] at o
   have hol:=si (eo rules.l) (cm rules.l)
   have hos:∃ os,os=lP (eo rules.l) (cm rules.l):=⟨_,rfl⟩
   obtain ⟨os,hos⟩:=hos
   rw [← hos] at o hol
   have hob:os.length≤cy:=by unfold cy;omega
   rw [F.b7.aP]
   simp only [e5,e6,aQ,Nat.reduceAdd,Nat.reduceEqDiff,reduceIte,aR]
   rw [hx,F.b7.aG]
   refine aE 0 os.length (Nat.zero_le _) (fun i e h2=>∃ b,(∀ c,dQ a=some c→h2.get c=h'.get c)∧h'.next≤h2.next∧Own kg 2 h'.next h2 b ((os.take i).map fun s=>(s,IY (cm rules.l) s))∧e 0=aq aM 3 rules∧e 4=a∧e 7=b∧e 8 = .int .i64 (i:Int))
    ⟨.nils,fun _ _=>rfl,Nat.le_refl _,.nil,e0,e4,rfl,rfl⟩ ?_ ?_
   ·rintro i e h2 _ hi ⟨b,hfr,hnx,ob,e0,e4,e7,e8⟩ K2 hn2 hx2 hr2 hp2
    have hv:os[i]?=some os[i]:=List.getElem?_eq_getElem hi
    generalize os[i]=s at hv
    have o2:=o.agree hfr hnx
    obtain ⟨q,_,i1,i2⟩:=pE o2 hv
    obtain ⟨a5,h5,p5,o5,f5,n5,x5,b5⟩:=ob.push lG IE hnx (bytes:=24) (by rw [hm,List.length_map,List.length_take];omega) (s,IY (cm rules.l) s)
    rw [F.b7.dc]
    simp only [e0,e4,e7,e8,o2.len,aQ,Nat.reduceAdd,Nat.reduceEqDiff,reduceIte,bf hi,i1,i2]
    refine an (dA h60 h20 ?_)
    simp only [aQ,Nat.reduceAdd,Nat.reduceEqDiff,reduceIte,i2,AV.beq_refl,Bool.and_self,if_true,HR,HS,p5,e8,aK hi hob]
    refine hn2 _ _ ⟨a5,fun c hc=>by rw [f5 c (by have:=o.lt hc;omega) (fun hb=>by have:=ob.ge hb;have:=o.lt hc;omega)];exact hfr c hc,by omega,?_,e0,e4,rfl,rfl⟩
    rw [List.take_add_one,hv,List.map_append];exact o5
   ·rintro e h2 ⟨b,hfr,hnx,ob,e0,e4,e7,e8⟩ K2 hx2
    rw [List.take_of_length_le (Nat.le_refl _)] at ob
    have o2:=o.agree hfr hnx
    rw [F.b7.dc]
    simp only [e4,e8,o2.len,aQ,Nat.reduceAdd,Nat.reduceEqDiff,reduceIte,aR]
    rw [hx2,F.b7.cx]
    simp only [bE,Nat.reduceEqDiff,reduceIte,e7]
    obtain ⟨y,hy1,hy2⟩:=ob.Ez (fun v y hy=>by
     simp only [kg,List.mem_cons,List.not_mem_nil,or_false] at hy
     rcases hy with rfl|rfl<;>exact .scalar _ rfl)
    exact cz.2 ⟨b,y,rfl,by rw [hy1,hos];rfl,hy2⟩
 refine main.frozen (by simp [AV.pureL,cj eC]) fun o h' ho=>?_
 obtain ⟨v,x,rfl,hx,hf⟩:=cz.1 ho
 exact ⟨v,_,rfl,hf,hK x hx⟩
theorem DK{rs:List aJ}{m:cS}{s:dP}(hgo:dO rs []=some m)(hsv:cY s=true):(Bf rs).all (wF s)=true↔¬ ∃ p ∈ cm rs,p.1 ∉ bg rs∧s.rels.l.find? (jB p.1 p.2)=none:=by
 rw [List.all_eq_true]
 constructor
 ·rintro h ⟨p,hp,hd,hf⟩
  have hin:(p.1,IY (cm rs) p.1) ∈ Bf rs:=List.mem_map.2 ⟨p.1,zw.2 ⟨p,hp,rfl,fun hd'=>hd ((eD rs).1 hd')⟩,rfl⟩
  have h1:=h _ hin
  rw [B9 hgo (show (p.1,p.2) ∈ cm rs from hp),Dw hsv,hf] at h1
  cases h1
 ·intro h y hy
  obtain ⟨x,hx,rfl⟩:=List.mem_map.1 hy
  obtain ⟨p,hp,rfl,hd⟩:=zw.1 hx
  rw [B9 hgo (show (p.1,p.2) ∈ cm rs from hp),Dw hsv]
  cases hf:s.rels.l.find? (jB p.1 p.2) with
  |some _=>rfl
  |none=>exact absurd ⟨p,hp,fun hd'=>hd ((eD rs).2 hd'),hf⟩ h
end
end Go.AM
namespace Go.AM
open Go Go.Proofs
noncomputable section
theorem mz:∀ {a b c:List Int},ee a b=true→ee b c=true→ee a c=true
 |x :: a,y :: b,z :: c,h1,h2=>by
  rw [ee] at h1 h2 ⊢
  by_cases e1:x=y
  ·rw [if_pos e1] at h1
   subst e1
   by_cases e2:x=z
   ·rw [if_pos e2] at h2 ⊢;exact mz h1 h2
   ·rw [if_neg e2] at h2 ⊢;exact h2
  ·rw [if_neg e1] at h1
   have q1:=of_decide_eq_true h1
   by_cases e2:y=z
   ·subst e2;rw [if_neg e1];exact h1
   ·rw [if_neg e2] at h2
    have q2:=of_decide_eq_true h2
    rw [if_neg (by omega)];exact decide_eq_true (by omega)
 |[],_,_,h1,_=>by simp [ee] at h1
 |_ :: _,[],_,h1,_=>by simp [ee] at h1
 |_ :: _,_ :: _,[],_,h2=>by simp [ee] at h2
def Bg(l:List (List Int)):Prop:=l.Pairwise fun a b=>ee a b=true
def KU(n k:Nat)(l:List (List Int)):Prop:=(∀ t ∈ l,t.length=k∧gd n t=true)∧Bg l
theorem zx:∀ {l:List (List Int)},(∀ i a b,l[i]?=some a→l[i+1]?=some b→ee a b=true)→Bg l
 |[],_=>.nil
 |x :: l,h=>by
  have ih:Bg l:=zx fun i a b ha hb=>h (i+1) a b (by simpa using ha) (by simpa using hb)
  refine List.pairwise_cons.2 ⟨fun y hy=>?_,ih⟩
  cases l with
  |nil=>cases hy
  |cons z l=>
   have hz:=h 0 x z rfl rfl
   rcases List.mem_cons.1 hy with rfl|hy
   ·exact hz
   ·exact mz hz ((List.pairwise_cons.1 ih).1 y hy)
theorem zy{l:List (List Int)}(hs:Bg l){i:Nat}{a b:List Int}(ha:l[i]?=some a)(hb:l[i+1]?=some b):ee a b=true:=by
 obtain ⟨h1,rfl⟩:=List.getElem?_eq_some_iff.1 ha
 obtain ⟨h2,rfl⟩:=List.getElem?_eq_some_iff.1 hb
 exact List.pairwise_iff_getElem.1 hs i (i+1) h1 h2 (Nat.lt_succ_self i)
theorem DL{n k:Nat}{l:List (Sl Int)}:tJ n k l=true↔KU n k (l.map Sl.l):=by
 constructor
 ·intro h
  refine ⟨fun t ht=>?_,zx fun i a b ha hb=>?_⟩
  ·obtain ⟨u,hu,rfl⟩:=List.mem_map.1 ht
   obtain ⟨i,hi⟩:=List.getElem?_of_mem hu
   exact Iv h hi
  ·rw [List.getElem?_map] at ha hb
   obtain ⟨p,hp,rfl⟩:=Option.map_eq_some_iff.1 ha
   obtain ⟨t,ht,rfl⟩:=Option.map_eq_some_iff.1 hb
   have:=tN h (List.getElem?_eq_some_iff.1 ht).1
   unfold jy at this
   rw [ht] at this
   simp only [hp,Bool.and_eq_true] at this
   exact this.2.2
 ·rintro ⟨h1,h2⟩
  refine kQ fun i hi=>?_
  have ht:l[i]?=some l[i]:=List.getElem?_eq_getElem hi
  generalize l[i]=t at ht
  obtain ⟨q1,q2⟩:=h1 t.l (List.mem_map_of_mem (List.mem_of_getElem? ht))
  unfold jy
  rw [ht]
  simp only [q1,q2,decide_true,Bool.true_and]
  cases i with
  |zero=>rfl
  |succ j=>
   have hj:j<l.length:=by omega
   have hp:l[j]?=some l[j]:=List.getElem?_eq_getElem hj
   generalize l[j]=p at hp
   simp only [hp]
   exact zy h2 (i:=j) (by rw [List.getElem?_map,hp];rfl) (by rw [List.getElem?_map,ht];rfl)
theorem KV{n k:Nat}{l:List (List Int)}(h:KU n k l):l.length≤n ^ k:=by
 have key:∀ i a,l[i]?=some a→i≤jH n a:=by
  intro i
  induction i with
  |zero=>intro a _;exact Nat.zero_le _
  |succ i ih=>
   intro b hb
   have hi:i<l.length:=by have:=(List.getElem?_eq_some_iff.1 hb).1;omega
   have ha:l[i]?=some l[i]:=List.getElem?_eq_getElem hi
   generalize l[i]=a at ha
   have:=ih a ha
   obtain ⟨a1,a2⟩:=h.1 a (List.mem_of_getElem? ha)
   obtain ⟨b1,b2⟩:=h.1 b (List.mem_of_getElem? hb)
   have:=A3 (by omega) a2 b2 (zy h.2 ha hb)
   omega
 cases hl:l.length with
 |zero=>exact Nat.zero_le _
 |succ m=>
  have hm:l[m]?=some (l[m]'(by omega)):=List.getElem?_eq_getElem _
  have h1:=key m _ hm
  obtain ⟨a1,a2⟩:=h.1 _ (List.mem_of_getElem? hm)
  have h2:=pK a2
  rw [a1] at h2
  omega
def Pm(n:Nat)(d:HZ):Prop:=dB d.1=true∧∃ k:Nat,d.2.1=(k:Int)∧k≤12∧n ^ k≤4096∧KU n k d.2.2
theorem DM{n:Nat}{r:Rel}:kj n r=true↔Pm n (eM r):=by
 constructor
 ·intro h
  obtain ⟨k,h1,h2,h3,h4⟩:=B1 h
  simp only [kj,Bool.and_eq_true] at h
  exact ⟨h.1,k,h1,h2,h3,DL.1 h4⟩
 ·rintro ⟨h0,k,h1,h2,h3,h4⟩
  have h1':r.arity=(k:Int):=h1
  have hk:r.arity.toNat=k:=by omega
  simp only [kj,Bool.and_eq_true,decide_eq_true_eq,hk]
  exact ⟨h0,by omega,by omega,h3,DL.2 h4⟩
structure DN (size:Int) (ds:List HZ):Prop where
 lo:1≤size
 hi:size≤64
 lR:ds.length≤8
 rel:∀ d ∈ ds,Pm size.toNat d
 names:(ds.map (·.1)).Nodup
theorem iT{s:dP}:cY s=true↔DN s.size (s.rels.l.map eM):=by
 constructor
 ·intro h
  have h':=h
  simp only [cY,Bool.and_eq_true,decide_eq_true_eq] at h'
  refine ⟨h'.1,h'.2.1,by simpa using h'.2.2.1,fun d hd=>?_,?_⟩
  ·obtain ⟨r,hr,rfl⟩:=List.mem_map.1 hd
   obtain ⟨i,hi⟩:=List.getElem?_of_mem hr
   exact DM.1 (zg h hi)
  ·have:=r8 h
   rw [List.map_map];exact this
 ·rintro ⟨h1,h2,h3,h4,h5⟩
  rw [List.length_map] at h3
  simp only [cY,Bool.and_eq_true,decide_eq_true_eq]
  refine ⟨h1,h2,h3,kQ fun i hi=>?_⟩
  have hr:s.rels.l[i]?=some s.rels.l[i]:=List.getElem?_eq_getElem hi
  have hr':=hr
  generalize s.rels.l[i]=r at hr
  rw [lI,hr]
  simp only [Bool.and_eq_true,Bool.not_eq_true']
  refine ⟨DM.2 (h4 _ (List.mem_map_of_mem (List.mem_of_getElem? hr))),?_⟩
  rw [Bool.eq_false_iff]
  intro hany
  obtain ⟨q,hq,hqn⟩:=List.any_eq_true.1 hany
  obtain ⟨j,hj⟩:=List.getElem?_of_mem hq
  have hji:j<i:=by have:=(List.getElem?_eq_some_iff.1 hj).1;rw [List.length_take] at this;omega
  rw [List.getElem?_take_of_lt hji] at hj
  rw [List.map_map,List.Nodup,List.pairwise_iff_getElem] at h5
  have hjl:j<s.rels.l.length:=by omega
  have:=h5 j i (by simpa using hjl) (by simpa using hi) hji
  rw [List.getElem_map,List.getElem_map] at this
  rw [List.getElem?_eq_getElem hjl] at hj
  rw [List.getElem?_eq_getElem hi] at hr
  cases hj;cases hr
  simp only [beq_iff_eq] at hqn
  exact this hqn
theorem jV{s:dP}(h:cY s=true):s.small∧s.ok:=by
 have hp:=iT.1 h
 have len:∀ r ∈ s.rels.l,r.tuples.l.length≤4096∧(∀ t ∈ r.tuples.l,t.l.length≤12)∧r.name.length≤12:=fun r hr=>by
  obtain ⟨h0,k,h1,h2,h3,h4⟩:=hp.rel _ (List.mem_map_of_mem hr)
  have:=KV h4
  simp only [eM,List.length_map] at this
  refine ⟨by omega,fun t ht=>?_,?_⟩
  ·have:=(h4.1 t.l (List.mem_map_of_mem ht)).1;omega
  ·replace h0:dB r.name=true:=h0
   unfold dB at h0
   split at h0
   ·cases h0
   ·simp only [Bool.and_eq_true,decide_eq_true_eq] at h0;exact h0.1
 have hl:s.rels.l.length≤8:=by have:=hp.lR;simpa using this
 exact ⟨⟨by omega,fun r hr=>by have:=(len r hr).1;omega,fun r hr t ht=>by have:=(len r hr).2.1 t ht;omega⟩,
  ⟨by unfold cy;omega,fun r hr=>⟨by have:=(len r hr).2.2;unfold cy;omega,by have:=(len r hr).1;unfold cy;omega,fun t ht=>by have:=(len r hr).2.1 t ht;unfold cy;omega⟩⟩⟩
end
end Go.AM
namespace Go.AM
open Go Go.Proofs
noncomputable section
def lQ(rs:List aJ)(nms:List bA):List Rel:=nms.map fun nm=>⟨nm,(mH rs nm:Int),none⟩
def jd(rs:List aJ)(nms:List bA):List HZ:=nms.map fun nm=>(nm,(mH rs nm:Int),[])
theorem sj(rs:List aJ)(nms:List bA):(lQ rs nms).map eM=jd rs nms:=by unfold lQ jd;rw [List.map_map];rfl
theorem GR(s:St):eL Tryz.prog s Tryz.f55.results.toList=(match aj (some 2) (s.env 4) s.h,(some []:Option (List AV)) with|some v,some vs=>some (v :: vs)|_,_=>none):=by kernel_rfl
theorem KW(nm:bA)(k:Int):jo [.str [],.int .i64 0,.nils] [(0,1),(1,1)] [.str nm,.int .i64 k]=some (.agg (bw ⟨nm,k,none⟩)):=rfl
set_option maxHeartbeats 1000000 in
theorem eH{rules:Sl aJ}{s:dP}{m:cS}(h60:rules.l.length≤60)(h20:∀ r ∈ rules.l,r.body.l.length≤20)(hgo:dO rules.l []=some m)(hsm:s.small){h:af}{K:Out→af→Bool}
  (hK:∀ a h' rs1,bK h h'→Own bw 3 h.next h' a (rs1++lQ rules.l (eo rules.l))→rs1.map eM=s.rels.l.map eM→K (.ret (.agg [.int .i64 s.size,a])) h'=true):Sem Tryz.prog 55 [aq aM 3 rules,.agg (aA s)] h K:=by
 have hm:cZ=140737488355328:=rfl
 have hdl:=mY rules.l
 refine F.wB ?_
 rw [F.yG]
 simp only [cI (dD s),bindO_some,af.next_alloc]
 have g0:(af.alloc (af.alloc h (.cells (aA s))) (.cells [.int .i64 0,.nils])).get h.next=some (.cells (aA s)):=by rw [af.aX,af.next_alloc,if_neg (by omega)];exact aI _ _
 have g1:(af.alloc (af.alloc h (.cells (aA s))) (.cells [.int .i64 0,.nils])).get (h.next+1)=some (.cells [.int .i64 0,.nils]):=aI _ _
 have gn:(af.alloc (af.alloc h (.cells (aA s))) (.cells [.int .i64 0,.nils])).next=h.next+2:=rfl
 have gx:bK h (af.alloc (af.alloc h (.cells (aA s))) (.cells [.int .i64 0,.nils])):=(bK.alloc _ _).trans (bK.alloc _ _)
 generalize (af.alloc (af.alloc h (.cells (aA s))) (.cells [.int .i64 0,.nils]))=H1 at g0 g1 gn gx ⊢
 have l0:aj (some 2) (.ptr h.next 0) H1=some (.agg (aA s)):=by rw [ak g0,dG (cs:=aA s) (n:=2) rfl]
 simp only [l0,bindO_some]
 refine an (eY hsm fun a h3 rs x3 o3 hrs=>?_)
 obtain ⟨ho1,ho2⟩:=qG o3
 have one2:bq [.int .i64 s.size,a]=true:=by simp only [bq,Bool.and_true] at ho1 ⊢;rw [ho1];rfl
 obtain ⟨H4,hs4,p4,po4,pn4⟩:=cJ (h:=h3) (zs:=[.int .i64 0,.nils]) (cs:=[.int .i64 s.size,a]) (n:=2) rfl rfl one2
 have x4:bK h3 H4:=⟨by omega,fun b hb=>po4 b (by omega)⟩
 have n3:=x3.next
 rw [gn] at o3 n3
 have x34:=(gx.trans x3).trans x4
 simp only [aQ,Nat.reduceAdd,Nat.reduceEqDiff,reduceIte,hs4]
 refine an (cO h60 fun d hd1=>?_)
 have hdl2:d.l.length≤60:=by rw [hd1];omega
 have hdb:d.l.length≤cy:=by unfold cy;omega
 have hrl:=hsm.rels
 have hrsl:rs.length=s.rels.l.length:=by have:=congrArg List.length hrs;simpa using this
 simp only [aQ,Nat.reduceAdd,Nat.reduceEqDiff,reduceIte]
 refine aE 0 d.l.length (Nat.zero_le _) (fun i e h'=>∃ a,h'.get h3.next=some (.cells [.int .i64 s.size,a])∧h'.get (h.next+1)=some (.cells [.int .i64 0,.nils])∧Own bw 3 (h.next+2) h' a (rs++lQ rules.l (d.l.take i))∧dQ a≠some h3.next∧(∀ b,b<h.next→h'.get b=h.get b)∧h3.next<h'.next ∧
  e 0=aq aM 3 rules∧e 4 = .ptr (h.next+1) 0∧e 5 = .ptr h3.next 0∧e 6=aq encS 1 d∧e 7 = .int .i64 (i:Int))
  ⟨a,p4,by rw [x4.get _ (by omega),x3.get _ (by omega)];exact g1,by simpa [lQ] using o3.ext x4,fun hb=>by have:=o3.lt hb;omega,fun b hb=>x34.get b hb,by omega,rfl,rfl,rfl,rfl,rfl⟩ ?_ ?_
 ·rintro i e h' _ hi ⟨a,q3,q1,o,hne,hfr,hnx,e0,e4,e5,e6,e7⟩ K' hn hx hr hp
  have hv:d.l[i]?=some d.l[i]:=List.getElem?_eq_getElem hi
  generalize d.l[i]=nm at hv
  have hnm:nm ∈ bg rules.l:=(eD _).1 (by rw [← hd1];exact List.mem_of_getElem? hv)
  have lo:aj none (.ptr h3.next 1) h'=some a:=by rw [ak q3];rfl
  have li:∀ hh,aj none (.iptr (d.l.flatMap encS) (i*1)) hh=some (.str nm):=fun hh=>gC hv
  obtain ⟨a5,h5,p5,o5,f5,n5,x5,b5⟩:=o.push eR fP (by omega) (bytes:=48) (by rw [hm,List.length_append];unfold lQ;rw [List.length_map,List.length_take];omega) ⟨nm,(mH rules.l nm:Int),none⟩
  have s3:h5.get h3.next=some (.cells [.int .i64 s.size,a]):=by rw [f5 _ (by omega) hne];exact q3
  have c5:=o5.pV
  have st:bH 1 (.ptr h3.next 1) a5 h5=some (h5.set h3.next (.cells [.int .i64 s.size,a5])):=by
   rw [dr (n:=1) s3 c5.2.1 c5.1 (by simp),c5.2.2];rfl
  rw [F.eH.aP]
  simp only [e0,e5,e6,e7,aQ,Nat.reduceAdd,Nat.reduceEqDiff,reduceIte,bf hi,lo,aT d hi,li]
  refine an (dA h60 h20 ?_)
  rw [IF hgo hnm]
  simp only [aQ,Nat.reduceAdd,Nat.reduceEqDiff,reduceIte,li,lo,AV.beq_refl,Bool.and_self,Bool.and_true,if_true,KW,FG,p5,e5,e7,st,aK hi hdb]
  refine hn _ _ ⟨a5,by rw [af.aS,if_pos rfl],by rw [af.aS,if_neg (by omega),f5 _ (by omega) (fun hb=>by have:=o.ge hb;omega)];exact q1,?_,fun hb=>by have:=b5 _ hb;omega,fun b hb=>?_,by rw [af.next_set];omega,e0,e4,e5,e6,rfl⟩
  ·have hl:rs++lQ rules.l (d.l.take (i+1))=(rs++lQ rules.l (d.l.take i))++[⟨nm,(mH rules.l nm:Int),none⟩]:=by
    rw [List.take_add_one,hv]
    unfold lQ
    rw [List.map_append,← List.append_assoc]
    rfl
   rw [hl]
   exact o5.agree (fun b hb=>by rw [af.aS,if_neg (by have:=b5 _ hb;omega)]) (by rw [af.next_set];exact Nat.le_refl _)
  ·rw [af.aS,if_neg (by omega),f5 b (by omega) (fun hb'=>by have:=o.ge hb';omega)]
   exact hfr b hb
 ·rintro e h' ⟨a,q3,q1,o,hne,hfr,hnx,e0,e4,e5,e6,e7⟩ K' hx
  rw [List.take_of_length_le (Nat.le_refl _),hd1] at o
  obtain ⟨ho1,ho2⟩:=qG o
  have one3:bq [.int .i64 s.size,a]=true:=by simp only [bq,Bool.and_true] at ho1 ⊢;rw [ho1];rfl
  have lo:aj (some 2) (.ptr h3.next 0) h'=some (.agg [.int .i64 s.size,a]):=by rw [ak q3];rfl
  have st:bH 2 (.ptr (h.next+1) 0) (.agg [.int .i64 s.size,a]) h'=some (h'.set (h.next+1) (.cells [.int .i64 s.size,a])):=by
   rw [dr (n:=2) (v:=.agg [.int .i64 s.size,a]) q1 rfl one3 (by simp)];rfl
  have lo2:aj (some 2) (.ptr (h.next+1) 0) (h'.set (h.next+1) (.cells [.int .i64 s.size,a]))=some (.agg [.int .i64 s.size,a]):=by rw [ak (cs:=[.int .i64 s.size,a]) (by rw [af.aS,if_pos rfl])];rfl
  rw [F.eH.aP]
  simp only [e6,e7,aQ,Nat.reduceAdd,Nat.reduceEqDiff,reduceIte,aR]
  rw [hx,F.eH.aG]
  simp only [bE,Nat.reduceEqDiff,reduceIte,e4,e5,lo,st,bindO_some,GR,lo2,oneOf]
  exact hK a _ rs ⟨by rw [af.next_set];omega,fun b hb=>by rw [af.aS,if_neg (by omega)];exact hfr b hb⟩ ((o.mF (by omega) _).weak (by omega)) hrs
theorem Aj{n:Int}{k:Nat}{a:AV}{rs:List Rel}{h:af}(o:Own bw 3 k h a rs)(hok:(⟨n,some rs⟩:dP).ok){K:Out→af→Bool}(hK:K (.ret (.bool (cY ⟨n,some rs⟩))) h=true):Sem Tryz.prog 17 [.agg [.int .i64 n,a]] h K:=by
 obtain ⟨x,hx1,hx2⟩:=o.Ez (fun v y hy=>by
  simp only [bw,List.mem_cons,List.not_mem_nil,or_false] at hy
  rcases hy with rfl|rfl|rfl
  ·exact .scalar _ rfl
  ·exact .scalar _ rfl
  ·exact .ez (cj mW _))
 have hok2:(⟨n,x⟩:dP).ok:=by
  obtain ⟨q1,q2⟩:=hok
  exact ⟨by show x.l.length≤cy;rw [hx1];exact q1,fun r hr=>q2 r (by have:r ∈ x.l:=hr;rw [hx1] at this;exact this)⟩
 have he:cY ⟨n,x⟩=cY ⟨n,some rs⟩:=by
  rw [Bool.eq_iff_iff,iT,iT]
  show DN n (x.l.map eM)↔DN n (rs.map eM)
  rw [hx1]
 have hs:=bU (s:=⟨n,x⟩) hok2 (h:=af.empty) (K:=lU (.bool (cY ⟨n,x⟩))) (eV rfl)
 rw [← he] at hK
 have fl:=lf.cons (.scalar (.int .i64 n) rfl) (lf.cons hx2 lf.nil)
 exact Sem.Lr rfl hs (lf.cons (.agg _ _ fl.len fl.rel) .nil) hK
theorem vL{rs:List aJ}{s:dP}{m:cS}{rs':List Rel}(hg:jx rs)(hgo:dO rs []=some m)(hsv:cY s=true)(h4:¬ ∃ r ∈ s.rels.l,r.name ∈ bg rs)(hrs:rs'.map eM=s.rels.l.map eM++jd rs (eo rs)) :
  cY ⟨s.size,some rs'⟩=true↔¬ (8<s.rels.l.length+(eo rs).length∨∃ r ∈ rs,4096<s.size.toNat ^ r.args.l.length):=by
 have hsp:=iT.1 hsv
 have hlen:rs'.length=s.rels.l.length+(eo rs).length:=by have:=congrArg List.length hrs;simpa [jd] using this
 rw [iT]
 show DN s.size (rs'.map eM)↔_
 rw [hrs]
 constructor
 ·rintro ⟨q1,q2,q3,q4,q5⟩ (hb|⟨r,hr,hb⟩)
  ·rw [List.length_append,List.length_map] at q3
   unfold jd at q3
   rw [List.length_map] at q3;omega
  ·have hm:(r.name,(mH rs r.name:Int),([]:List (List Int))) ∈ s.rels.l.map eM++jd rs (eo rs):=List.mem_append_right _ (List.mem_map.2 ⟨r.name,(eD rs).2 (List.mem_map_of_mem hr),rfl⟩)
   obtain ⟨_,k,h1,h2,h3,_⟩:=q4 _ hm
   rw [B7 hgo hr] at h1
   have:k=r.args.l.length:=by simp only at h1;omega
   rw [this] at h3;omega
 ·intro hno
  have hd8:s.rels.l.length+(eo rs).length≤8:=Nat.le_of_not_lt fun h=>hno (.inl h)
  refine ⟨hsp.lo,hsp.hi,by rw [List.length_append,List.length_map];unfold jd;rw [List.length_map];exact hd8,fun d hd=>?_,?_⟩
  ·rcases List.mem_append.1 hd with hd|hd
   ·exact hsp.rel d hd
   ·obtain ⟨nm,hnm,rfl⟩:=List.mem_map.1 hd
    obtain ⟨_,r,hr,hrn,har⟩:=B8 hgo ((eD rs).1 hnm)
    have hat:=(iq hgo r hr).1
    refine ⟨by rw [← hrn];exact rY hat,mH rs nm,rfl,by rw [har];exact m9 hat,?_,fun t ht=>(by cases ht),List.Pairwise.nil⟩
    rw [har]
    exact Nat.le_of_not_lt fun h=>hno (.inr ⟨r,hr,h⟩)
  ·rw [List.map_append]
   have e2:(jd rs (eo rs)).map (·.1)=eo rs:=by unfold jd;rw [List.map_map];simp [Function.comp_def]
   rw [e2]
   refine List.nodup_append.2 ⟨hsp.names,vF (mj rs),fun x hx y hy e=>?_⟩
   subst e
   rw [List.map_map] at hx
   obtain ⟨r,hr,hrn⟩:=List.mem_map.1 hx
   exact h4 ⟨r,hr,by have:=(eD rs).1 hy;rw [← hrn] at this;exact this⟩
set_option maxHeartbeats 2000000 in
theorem bz{rules:Sl aJ}{s:dP}(hok:∀ r ∈ rules.l,r.ok)(hfew:∀ r ∈ rules.l,r.lR)(hsok:s.ok){h:af}{K:Out→af→Bool}
  (herr:∀ e,tT rules.l s e→K (.ret (.int .i64 e)) h=true) (hyes:iK rules.l s→K (.ret (.int .i64 0)) h=true):Sem Tryz.prog 14 [aq aM 3 rules,.agg (aA s)] h K:=by
 have gen:∀ R:Out→af→Bool,(∀ e h',(tT rules.l s e∨(e=0∧iK rules.l s))→R (.ret (.int .i64 e)) h'=true)→Sem Tryz.prog 14 [aq aM 3 rules,.agg (aA s)] af.empty R:=by
  intro R fin
  refine F.wz ?_
  rw [F.yE]
  simp only [cI (dD s),bindO_some,bM]
  have g0:(af.empty.alloc (.cells (aA s))).get 0=some (.cells (aA s)):=aI _ _
  have gn:(af.empty.alloc (.cells (aA s))).next=1:=rfl
  generalize (af.empty.alloc (.cells (aA s)))=H at g0 gn ⊢
  have l0:aj (some 2) (.ptr 0 0) H=some (.agg (aA s)):=by rw [ak g0,dG (cs:=aA s) (n:=2) rfl]
  refine an (bt hok hfew fun b hb=>?_)
  simp only [aQ,Nat.reduceAdd,Nat.reduceEqDiff,reduceIte]
  cases b with
  |false=>
   simp only [Bool.not_false,aD]
   exact fin 1 _ (.inl (.inl ⟨.inl fun hg=>(by have:=hb.2 hg;cases this),rfl⟩))
  |true=>
  have hg:=hb.1 rfl
  simp only [Bool.not_true,aC,l0,bindO_some]
  refine an (bU hsok ?_)
  simp only [aQ,Nat.reduceAdd,Nat.reduceEqDiff,reduceIte]
  cases hsv:cY s with
  |false=>
   simp only [Bool.not_false,aD]
   exact fin 1 _ (.inl (.inl ⟨.inr hsv,rfl⟩))
  |true=>
  obtain ⟨n,hn,n1,n64,h8⟩:=qD hsv
  have hnn:s.size.toNat=n:=by omega
  obtain ⟨m,hgo⟩:=hg.go
  have hgok:=iq hgo
  have h20:∀ r ∈ rules.l,r.body.l.length≤20:=fun r hr=>(hgok r hr).2.1
  have h60:=hg.lR
  have hdl:=mY rules.l
  simp only [Bool.not_true,aC]
  refine an (cO h60 fun d hd1=>?_)
  simp only [aQ,Nat.reduceAdd,Nat.reduceEqDiff,reduceIte,l0]
  refine an (b7 h60 h20 fun sy hsy=>?_)
  have hsl:sy.l.length≤1260:=by
   rw [hsy];unfold Bf;rw [List.length_map]
   have h1:=si (eo rules.l) (cm rules.l)
   have h2:=uX h60 h20
   omega
  simp only [aQ,Nat.reduceAdd,Nat.reduceEqDiff,reduceIte,l0,AV.beq_refl,Bool.and_self,if_true]
  refine an (dS hsok (by unfold cy;omega) ?_)
  rw [hsy]
  simp only [aQ,Nat.reduceAdd,Nat.reduceEqDiff,reduceIte]
  have e4:GJ rules.l s→tT rules.l s 4:=fun h=>.inr ⟨hg,hsv,.inl ⟨h,rfl⟩⟩
  cases hfit:(Bf rules.l).all (wF s) with
  |false=>
   simp only [Bool.not_false,aD]
   refine fin 4 _ (.inl (e4 (.inl ?_)))
   exact Decidable.not_not.1 fun h=>by rw [(DK hgo hsv).2 h] at hfit;cases hfit
  |true=>
  have hnoA:=(DK hgo hsv).1 hfit
  have hdb:d.l.length≤cy:=by rw [hd1];unfold cy;omega
  have hrb:rules.l.length≤cy:=by unfold cy;omega
  simp only [Bool.not_true,aC]
  refine aE 0 d.l.length (Nat.zero_le _) (fun i e h'=>h'.get 0=some (.cells (aA s))∧1≤h'.next∧(∀ nm ∈ d.l.take i,∀ r ∈ s.rels.l,r.name≠nm)∧e 0=aq aM 3 rules∧e 3 = .ptr 0 0∧e 5=aq encS 1 d∧e 6 = .int .i64 (i:Int)) ⟨g0,by omega,fun nm hnm=>(by cases hnm),rfl,rfl,rfl,rfl⟩ ?_ ?_
  ·rintro i e h' _ hi ⟨q0,qn,hno,e0,e3,e5,e6⟩ K' hn' hx hr hp
   have hv:d.l[i]?=some d.l[i]:=List.getElem?_eq_getElem hi
   generalize d.l[i]=nm at hv
   have l0':aj (some 2) (.ptr 0 0) h'=some (.agg (aA s)):=by rw [ak q0,dG (cs:=aA s) (n:=2) rfl]
   rw [F.bz.aP]
   simp only [e3,e5,e6,aQ,Nat.reduceAdd,Nat.reduceEqDiff,reduceIte,bf hi,l0',aT d hi,gC hv]
   refine an (dU hsok ?_)
   simp only [aQ,Nat.reduceAdd,Nat.reduceEqDiff,reduceIte]
   rcases mq (fZ nm) s.rels.l with ⟨f1,f2⟩|⟨j,r,f1,f2,f3⟩
   ·rw [f1]
    simp only [show decide ((0:Int)≤-1)=false from rfl,aC,e6,aK hi hdb,bindO_some]
    refine hn' _ _ ⟨q0,qn,fun x hx' r hr' e=>?_,e0,e3,e5,rfl⟩
    rw [List.take_add_one,hv] at hx'
    rcases List.mem_append.1 hx' with hx'|hx'
    ·exact hno x hx' r hr' e
    ·simp only [Option.toList_some,List.mem_singleton] at hx'
     rw [List.find?_eq_none] at f2
     exact f2 r hr' (by simp [fZ,e,hx'])
   ·rw [f1]
    simp only [decide_eq_true (by omega:(0:Int)≤(j:Int)),aD]
    rw [hr,F.bz.bp]
    simp only [bE,Nat.reduceEqDiff,reduceIte]
    have hrn:=List.find?_some f3
    simp only [fZ,beq_iff_eq] at hrn
    exact fin 4 _ (.inl (e4 (.inr ⟨r,List.mem_of_getElem? f2,(eD _).1 (by rw [hrn,← hd1];exact List.mem_of_getElem? hv)⟩)))
  ·rintro e h' ⟨q0,qn,hno,e0,e3,e5,e6⟩ K' hx
   rw [List.take_of_length_le (Nat.le_refl _)] at hno
   have hnoB:¬ ∃ r ∈ s.rels.l,r.name ∈ bg rules.l:=fun ⟨r,hr,hh⟩=>hno r.name (by rw [hd1];exact (eD _).2 hh) r hr rfl
   have h4:¬ GJ rules.l s:=fun h=>h.elim hnoA hnoB
   have e5':IX rules.l s→tT rules.l s 5:=fun h=>.inr ⟨hg,hsv,.inr ⟨h4,h,rfl⟩⟩
   rw [F.bz.aP]
   simp only [e5,e6,aQ,Nat.reduceAdd,Nat.reduceEqDiff,reduceIte,aR]
   rw [hx,F.bz.aG]
   refine aE 0 rules.l.length (Nat.zero_le _) (fun i e h2=>h2.get 0=some (.cells (aA s))∧1≤h2.next∧(∀ r ∈ rules.l.take i,n ^ (varsOf r).length≤65536)∧e 0=aq aM 3 rules∧e 3 = .ptr 0 0∧e 7 = .int .i64 (i:Int)) ⟨q0,qn,fun r hr=>(by cases hr),e0,e3,rfl⟩ ?_ ?_
   ·rintro i e h2 _ hi ⟨q0,qn,hsz,e0,e3,e7⟩ K2 hn2 hx2 hr2 hp2
    have hv:rules.l[i]?=some rules.l[i]:=List.getElem?_eq_getElem hi
    generalize rules.l[i]=r at hv
    have hrm:=List.mem_of_getElem? hv
    have hr12:=(hgok r hrm).2.2
    have hvb:(varsOf r).length≤cy:=by unfold cy;omega
    rw [F.bz.dc]
    simp only [e0,e7,aQ,Nat.reduceAdd,Nat.reduceEqDiff,reduceIte,bf hi]
    refine iZ (fun k e h3=>∃ j,k=(varsOf r).length-j∧j≤(varsOf r).length∧n ^ (j-1)≤65536∧h3.get 0=some (.cells (aA s))∧1≤h3.next∧e 0=aq aM 3 rules∧e 3 = .ptr 0 0∧e 7 = .int .i64 (i:Int)∧e 8 = .int .i64 ((n ^ j:Nat):Int)∧e 9 = .int .i64 (j:Int)) ((varsOf r).length)
     ⟨0,rfl,Nat.zero_le _,by simp,q0,qn,e0,e3,e7,rfl,rfl⟩ ?_
    rintro k e h3 ⟨j,hk,hj,hpj,q0,qn,e0,e3,e7,e8,e9⟩
    have lz:aj none (.ptr 0 0) h3=some (.int .i64 (n:Int)):=by rw [ak q0,← hn];rfl
    have hn8:n ^ j≤65536*64:=by
     cases j with
     |zero=>simp
     |succ j=>rw [Nat.pow_succ];simp only [Nat.add_sub_cancel] at hpj;exact Nat.mul_le_mul hpj n64
    have out:∀ (e':Env),e' 0=aq aM 3 rules→e' 3 = .ptr 0 0→e' 7 = .int .i64 (i:Int)→e' 8 = .int .i64 ((n ^ j:Nat):Int)→(65536<n ^ j∨j=(varsOf r).length)→F.bz.tU K2 (.exit 4) ⟨e',69,[],h3⟩=true:=by
     intro e' e0 e3 e7 e8 hcase
     rw [F.bz.fV]
     simp only [e8,aQ,Nat.reduceAdd,Nat.reduceEqDiff,reduceIte]
     by_cases hbg:65536<n ^ j
     ·simp only [decide_eq_true (by omega:(65536:Int)<((n ^ j:Nat):Int)),aD]
      rw [hr2,F.bz.gK]
      simp only [bE,Nat.reduceEqDiff,reduceIte]
      exact fin 5 _ (.inl (e5' (.inr (.inr ⟨r,hrm,by rw [hnn];have:=sg n1 hj;omega⟩))))
     ·have hjv:=hcase.resolve_left hbg
      simp only [decide_eq_false (by omega:¬ (65536:Int)<((n ^ j:Nat):Int)),aC,e7,aK hi hrb,bindO_some]
      refine hn2 _ _ ⟨q0,qn,fun q hq=>?_,e0,e3,rfl⟩
      rw [List.take_add_one,hv] at hq
      rcases List.mem_append.1 hq with hq|hq
      ·exact hsz q hq
      ·simp only [Option.toList_some,List.mem_singleton] at hq
       subst hq;rw [← hjv];omega
    rw [F.bz.jF]
    simp only [e0,e7,aQ,Nat.reduceAdd,Nat.reduceEqDiff,reduceIte,aT rules hi,c8 eP hv]
    simp only [aM]
    refine an (bC (hfew r hrm) fun x hx1=>?_)
    simp only [aQ,Nat.reduceAdd,Nat.reduceEqDiff,reduceIte,hx1,e8,e9]
    by_cases hjl:j<(varsOf r).length
    ·simp only [bf hjl,aD,aQ,Nat.reduceAdd,Nat.reduceEqDiff,reduceIte]
     by_cases hle:n ^ j≤65536
     ·have hm:((n ^ j:Nat):Int)*(n:Int)=((n ^ (j+1):Nat):Int):=by rw [Nat.pow_succ,Int.natCast_mul]
      have hmul:n ^ j*n≤65536*64:=Nat.mul_le_mul hle n64
      have hps:n ^ (j+1)=n ^ j*n:=Nat.pow_succ n j
      have hmm:aF .mul (.int .i64 ((n ^ j:Nat):Int)) (.int .i64 (n:Int))=some (.int .i64 ((n ^ (j+1):Nat):Int)):=by rw [qs (by rw [hm];omega) (by rw [hm];omega),hm]
      simp only [decide_eq_true (by omega:((n ^ j:Nat):Int)≤65536),aD,e3,e8,e9,aQ,Nat.reduceAdd,Nat.reduceEqDiff,reduceIte,lz,hmm,aK hjl hvb]
      exact cz.2 ⟨(varsOf r).length-(j+1),by omega,rfl,rfl,j+1,rfl,by omega,by simpa using hle,q0,qn,e0,e3,e7,rfl,rfl⟩
     ·simp only [decide_eq_false (by omega:¬ ((n ^ j:Nat):Int)≤65536),aC,loopK_exit]
      exact out _ e0 e3 e7 e8 (.inl (by omega))
    ·have hje:j=(varsOf r).length:=by omega
     simp only [decide_eq_false (by omega:¬ (j:Int)<((varsOf r).length:Int)),aC,loopK_exit]
     exact out _ e0 e3 e7 e8 (.inr hje)
   ·rintro e h2 ⟨q0,qn,hsz,e0,e3,e7⟩ K2 hx2
    rw [List.take_of_length_le (Nat.le_refl _)] at hsz
    have l0':aj (some 2) (.ptr 0 0) h2=some (.agg (aA s)):=by rw [ak q0,dG (cs:=aA s) (n:=2) rfl]
    rw [F.bz.dc]
    simp only [e0,e7,aQ,Nat.reduceAdd,Nat.reduceEqDiff,reduceIte,aR]
    rw [hx2,F.bz.cx]
    simp only [aQ,Nat.reduceAdd,Nat.reduceEqDiff,reduceIte,e0,e3,l0']
    refine an (eH h60 h20 hgo (jV hsv).1 fun a h4' rs1 x4 o4 hrs1=>?_)
    obtain ⟨rs',hrs'⟩:∃ rs',rs'=rs1++lQ rules.l (eo rules.l):=⟨_,rfl⟩
    rw [← hrs'] at o4
    have hrs:rs'.map eM=s.rels.l.map eM++jd rules.l (eo rules.l):=by rw [hrs',List.map_append,sj,hrs1]
    simp only [aQ,Nat.reduceAdd,Nat.reduceEqDiff,reduceIte]
    have hok':(⟨s.size,some rs'⟩:dP).ok:=by
     have hl:rs'.length=s.rels.l.length+(eo rules.l).length:=by have:=congrArg List.length hrs;simpa [jd] using this
     refine ⟨by show rs'.length≤cy;unfold cy;omega,fun r hr=>?_⟩
     have hd:eM r ∈ s.rels.l.map eM++jd rules.l (eo rules.l):=by rw [← hrs];exact List.mem_map_of_mem hr
     have hsok2:=(jV hsv).2
     have hsm2:=(jV hsv).1
     rcases List.mem_append.1 hd with hd|hd
     ·obtain ⟨q,hq,hqe⟩:=List.mem_map.1 hd
      unfold eM at hqe
      simp only [Prod.mk.injEq] at hqe
      have hq2:=hsok2.2 q hq
      refine ⟨by rw [← hqe.1];exact hq2.1,?_,fun t ht=>?_⟩
      ·have h1:=congrArg List.length hqe.2.2
       simp only [List.length_map] at h1
       rw [← h1];exact hq2.2.1
      ·have h1:t.l ∈ q.tuples.l.map Sl.l:=by rw [hqe.2.2];exact List.mem_map_of_mem ht
       obtain ⟨u,hu,hue⟩:=List.mem_map.1 h1
       rw [← hue];exact hq2.2.2 u hu
     ·obtain ⟨nm,hnm,hqe⟩:=List.mem_map.1 hd
      unfold eM at hqe
      simp only [Prod.mk.injEq] at hqe
      obtain ⟨_,q,hq,hqn,_⟩:=B8 hgo ((eD _).1 hnm)
      have ht0:r.tuples.l = []:=by have:=hqe.2.2;simpa using this.symm
      refine ⟨by rw [← hqe.1,← hqn];have:=Db (rY (hgok q hq).1);unfold cy;omega,by rw [ht0];exact Nat.zero_le _,fun t ht=>by rw [ht0] at ht;cases ht⟩
    refine an (Aj o4 hok' ?_)
    simp only [aQ,Nat.reduceAdd,Nat.reduceEqDiff,reduceIte]
    have hev:=vL hg hgo hsv hnoB hrs
    cases hvd:cY ⟨s.size,some rs'⟩ with
    |false=>
     simp only [Bool.not_false,aD]
     refine fin 5 _ (.inl (e5' ?_))
     have:(8<s.rels.l.length+(eo rules.l).length∨∃ r ∈ rules.l,4096<s.size.toNat ^ r.args.l.length):=Decidable.not_not.1 fun h=>by rw [hev.2 h] at hvd;cases hvd
     rcases this with h|h
     ·exact .inl h
     ·exact .inr (.inl h)
    |true=>
     simp only [Bool.not_true,aC]
     have hno5:=hev.1 hvd
     refine fin 0 _ (.inr ⟨rfl,hg,hsv,h4,?_⟩)
     rintro (h|h|⟨r,hr,h⟩)
     ·exact hno5 (.inl h)
     ·exact hno5 (.inr h)
     ·rw [hnn] at h;have:=hsz r hr;omega
 have main:=gen (fun o h'=>yes (∃ e,o = .ret (.int .i64 e)∧(tT rules.l s e∨(e=0∧iK rules.l s)))) (fun e h' he=>cz.2 ⟨e,rfl,he⟩)
 refine main.frozen (by simp [AV.pureL,AV.pure,cj eC,eT]) fun o h' ho=>?_
 obtain ⟨e,rfl,he⟩:=cz.1 ho
 refine ⟨_,_,rfl,.scalar _ rfl,?_⟩
 rcases he with he|⟨rfl,he⟩
 ·exact herr e he
 ·exact hyes he
end
end Go.AM
namespace Go.AM
open Go Go.Proofs
noncomputable section
end
end Go.AM
namespace Go.AM
open Go Go.Proofs
noncomputable section
section
variable {rs:List aJ} {s:dP} {rs':List Rel} {n:Nat} {m:cS}
theorem Mg(ho:iK rs s)(hgo:dO rs []=some m)(hrs:rs'.map eM=s.rels.l.map eM++jd rs (eo rs)):DN s.size (rs'.map eM):=by
 have h5:=ho.sizes
 have:=(vL ho.good hgo ho.valid (fun h=>ho.names (.inr h)) hrs).2 fun h=>h5 (h.elim .inl fun h=>.inr (.inl h))
 exact iT.1 this
end
end
end Go.AM
namespace Go.AM
open Go Go.Proofs
noncomputable section
end
end Go.AM
namespace Go.AM
open Go Go.Proofs
noncomputable section
end
end Go.AM