/- Parts of a proof, merged out of smaller texts: the abstract machine and what functions do. Conditions: none. -/
import Derived.Test.YtmkffehchicgaaaGreatLe15
import Derived.Test.YtmkffehchicgaaaGreatLe22
set_option linter.unusedSimpArgs false
set_option linter.unusedVariables false
namespace Go.AM
open Go Go.Proofs
noncomputable section
def Ic(rs:List aK)(s:dJ):Prop:=(∃ p ∈ cC rs,p.1 ∉ bA rs∧s.rels.l.find? (kI p.1 p.2)=none)∨∃ r ∈ s.rels.l,r.name ∈ bA rs
def J9(rs:List aK)(s:dJ):Prop:=8<s.rels.l.length+(ej rs).length∨(∃ r ∈ rs,4096<s.size.toNat ^ r.args.l.length)∨∃ r ∈ rs,65536<s.size.toNat ^ (varsOf r).length
structure vT (n:Nat) (rs:List aK) (s:dJ) (D:DB):Prop where
 rel:∀ r ∈ s.rels.l,∃ b,D r.name=some (b,bitsOf n r.arity.toNat r.tuples.l)
 head:∀ r ∈ rs,∃ b,D r.name=some (b,List.replicate (n ^ r.args.l.length) false)
 only:∀ nm p,D nm=some p→nm ∈ bA rs∨∃ r ∈ s.rels.l,r.name=nm
structure F8 (n P A M S B lo:Nat) (rules:Sl aK) (ks:List bI) (lv:Lev.Lv) (D0:DB) (m:dN) (h:ag):Prop where
 hP:h.get P=some (.cells [an aM 3 rules,.map A,.map M])
 hl:eU (bA rules.l) h M ks lv
 hks:ks.Nodup
 hgo:dU rules.l []=some m
 hA:∃ es ck,h.get A=some (.map es ck)∧F6 es ck m
 hS:h.get S=some (.cells [.int .i64 (n:Int),.map B])
 hD:ei D0 h B lo
 ord:A<M∧M<P∧P<B∧B<S∧S<lo∧lo≤h.next
theorem GW{rs:List aK}{h:ag}{M:Nat}{ks:List bI}{lv:Lev.Lv}(hl:eU (bA rs) h M ks lv)(hks:ks.Nodup):ks.length=(ej rs).length:=by
 have h1:(ej rs).Nodup:=by
  have:=mX rs
  unfold oT at this
  refine this.imp fun {a b} h e=>?_
  rw [e,lU] at h;cases h
 have h2:=Lev.nk hks (m:=ej rs) fun x hx=>(ez rs).2 ((hl.mem x).1 hx)
 have h3:=Lev.nk h1 (m:=ks) fun x hx=>(hl.mem x).2 ((ez rs).1 hx)
 omega
set_option maxHeartbeats 2000000 in
theorem ay{rules:Sl aK}{s:dJ}(hok:∀ r ∈ rules.l,r.ok)(hfew:∀ r ∈ rules.l,r.kX)(hsok:s.ok){h:ag}{K:Out→ag→Bool}
  (h1:(¬ jW rules.l∨cT s=false)→∀ h',(∀ b,b<h.next→h'.get b=h.get b)→K (.ret (.tuple [.nilp,.nilp,.int .i64 1])) h'=true)
  (h4:jW rules.l→cT s=true→Ic rules.l s→∀ h',(∀ b,b<h.next→h'.get b=h.get b)→K (.ret (.tuple [.nilp,.nilp,.int .i64 4])) h'=true)
  (h5:jW rules.l→cT s=true→¬ Ic rules.l s→J9 rules.l s→∀ h',(∀ b,b<h.next→h'.get b=h.get b)→K (.ret (.tuple [.nilp,.nilp,.int .i64 5])) h'=true)
  (h0:jW rules.l→cT s=true→¬ Ic rules.l s→¬ J9 rules.l s→∀ h' (n:Nat) P A M S B lo ks k D0 m,s.size=(n:Int)→1≤n→n≤64→Lev.dc (bQ rules.l) (Lev.iter (bQ rules.l) k) →
   F8 n P A M S B lo rules ks (Lev.iter (bQ rules.l) k) D0 m h'→vT n rules.l s D0→(∀ b,b<h.next→h'.get b=h.get b)→h.next≤A→K (.ret (.tuple [.ptr P 0,.ptr S 0,.int .i64 0])) h'=true) :
  Sem Tryz.prog 45 [an aM 3 rules,.agg (az s)] h K:=by
 refine F.uk ?_
 simp only [cY (dw s),bindO_some]
 have g0:(h.alloc (.cells (az s))).get h.next=some (.cells (az s)):=aC _ _
 have gx:bT h (h.alloc (.cells (az s))):=bT.alloc _ _
 have gn:(h.alloc (.cells (az s))).next=h.next+1:=rfl
 generalize (h.alloc (.cells (az s)))=H0 at g0 gx gn ⊢
 refine ak (Ia hok hfew (fun hb h' hf=>?_) fun h' P A M ks k hg hst gP la hks hPn hMn m es ck hgo gA hmB o1 o2 o3 hfr=>?_)
 ·simp only [aV,Nat.reduceAdd,Nat.reduceEqDiff,reduceIte,Bool.not_false]
  exact h1 (.inl hb) _ (fun b hb=>by rw [hf b (by omega),gx.get b hb])
 have p0:h'.get h.next=some (.cells (az s)):=by rw [hfr _ (by omega)];exact g0
 have l0:ai (some 2) (.ptr h.next 0) h'=some (.agg (az s)):=by rw [au p0,dA (cs:=az s) (n:=2) rfl]
 simp only [aV,Nat.reduceAdd,Nat.reduceEqDiff,reduceIte,Bool.not_true,l0]
 refine ak (dF hsok ?_)
 simp only [aV,Nat.reduceAdd,Nat.reduceEqDiff,reduceIte]
 cases hsv:cT s with
 |false=>simp only [Bool.not_false,aI];exact h1 (.inr hsv) _ (fun b hb=>by rw [hfr b (by omega),gx.get b hb])
 |true=>
 obtain ⟨n,hn,n1,n64,h8⟩:=nK hsv
 have hnn:s.size.toNat=n:=by omega
 specialize h4 hg hsv
 specialize h5 hg hsv
 specialize h0 hg hsv
 clear h1
 have hr60:=hg.kX
 have hgok:=g9 hgo
 obtain ⟨hmI,hmBi,hmN⟩:=id hmB
 have hrg:jB .map (.map A) h'=some (.ptr h'.next 0,h'.alloc (.miter (some A) ck [] ck)):=by simp only [jB,gA]
 simp only [Bool.not_true,aG,cm,aV,Nat.reduceAdd,Nat.reduceEqDiff,reduceIte,au gP,hrg]
 have hall:∀ p ∈ m,(p.1,p.2) ∈ cC rules.l:=fun p hp=>(jg hgo p.1 p.2).1 (rA hmN hp)
 refine vL es (fun seen e hh=>(∀ en ∈ es,en.2.2 ∈ seen→∀ p ∈ m,en.1 = .str p.1→¬ (p.1 ∉ bA rules.l∧s.rels.l.find? (kI p.1 p.2)=none))∧hh.get h'.next=some (.miter (some A) ck seen ck)∧(∀ b,b<h'.next→hh.get b=h'.get b)∧h'.next<hh.next ∧
   e 0=an aM 3 rules∧e 3 = .ptr h.next 0∧e 7 = .ptr P 0∧e 46 = .ptr h'.next 0)
  ⟨fun en _ hen=>(by cases hen),aC _ _,fun b hb=>by rw [ag.aW,if_neg (by omega)],by rw [ag.next_alloc];omega,rfl,rfl,rfl,rfl⟩ ?_
 rintro seen e hh ⟨hseen,w3,wf,wn,e0,e3,e7,e46⟩ K' hnx' hex hret hpan
 rw [F.ay.aN]
 simp only [e46]
 refine Ae w3 (by rw [wf A (by omega)];exact gA) hmBi (by omega) (fun hallS=>?_) (fun en hen hns hent=>?_)
 ·
  have hno4:¬ ∃ p ∈ cC rules.l,p.1 ∉ bA rules.l∧s.rels.l.find? (kI p.1 p.2)=none:=by
   rintro ⟨p,hp,hb⟩
   have hf:=(jg hgo p.1 p.2).2 hp
   have hpm:=nF hf
   obtain ⟨en,hen,hen1,_⟩:=hmI.mem' _ hpm
   exact hseen en hen (hallS en hen) _ hpm hen1 hb
  simp only [CD,lT,bindO_some,condB_bool,aG]
  rw [hex,F.ay.aD]
  have v0:hh.get h.next=some (.cells (az s)):=by rw [wf _ (by omega)];exact p0
  have lr:ai none (.ptr h.next 1) hh=some (an bt 3 s.rels):=by rw [au v0];rfl
  simp only [aV,Nat.reduceAdd,Nat.reduceEqDiff,reduceIte,e3,lr]
  refine aB 0 s.rels.l.length (Nat.zero_le _) (fun i e h2=>(∀ r ∈ s.rels.l.take i,r.name ∉ bA rules.l)∧(∀ b,b<h'.next→h2.get b=h'.get b)∧h'.next<h2.next∧e 0=an aM 3 rules∧e 3 = .ptr h.next 0∧e 7 = .ptr P 0∧e 71=an bt 3 s.rels∧e 72 = .int .i64 (s.rels.l.length:Int)∧e 73 = .int .i64 (i:Int))
   ⟨fun r hr=>(by cases hr),wf,wn,e0,e3,e7,rfl,rfl,rfl⟩ ?_ ?_
  ·rintro i e h2 _ hi ⟨hnot,wf2,wn2,e0,e3,e7,e71,e72,e73⟩ K2 hn2 hx2 hr2 hp2
   have hv:s.rels.l[i]?=some s.rels.l[i]:=List.getElem?_eq_getElem hi
   generalize s.rels.l[i]=r at hv
   obtain ⟨H,hs1,q1,qo,qn⟩:=cO (h:=h2) (zs:=[.str [],.int .i64 0,.nils]) (cs:=bt r) (n:=3) rfl rfl (gz r)
   have pP:H.get P=some (.cells [an aM 3 rules,.map A,.map M]):=by rw [qo _ (by omega),wf2 _ (by omega)];exact gP
   have hM:H.get M=h'.get M:=by rw [qo _ (by omega),wf2 _ (by omega)]
   obtain ⟨esL,ckL,mL,y1,y2,y3,y4,y5⟩:=la.ex
   have hlk:=ox (h:=H) (by rw [hM];exact y1) y2 r.name
   have hsome:(mL.find r.name).isSome=decide (r.name ∈ bA rules.l):=by rw [y5];by_cases hh':r.name ∈ bA rules.l<;>simp [hh']
   have ln:ai none (.ptr h2.next 0) H=some (.str r.name):=by rw [au q1];rfl
   rw [F.ay.cP]
   simp only [e7,e71,e72,e73,aV,Nat.reduceAdd,Nat.reduceEqDiff,reduceIte,aY hi,aP s.rels hi,dQ fA hv,hs1]
   simp only [aV,Nat.reduceAdd,Nat.reduceEqDiff,reduceIte,cm,au pP,ln,hlk,hsome]
   by_cases hd:r.name ∈ bA rules.l
   ·simp only [decide_eq_true hd,aI]
    rw [hr2,F.ay.fY]
    simp only [bu,Nat.reduceEqDiff,reduceIte]
    exact h4 (.inr ⟨r,List.mem_of_getElem? hv,hd⟩) _ (fun b hb=>by rw [qo b (by omega),wf2 b (by omega),hfr b (by omega),gx.get b hb])
   ·simp only [decide_eq_false hd,aG,e73,aE hi hsok.1,bindO_some]
    refine hn2 _ _ ⟨fun q hq=>?_,fun b hb=>by rw [qo b (by omega)];exact wf2 b hb,by omega,e0,e3,e7,e71,e72,rfl⟩
    rw [List.take_add_one,hv] at hq
    rcases List.mem_append.1 hq with hq|hq
    ·exact hnot q hq
    ·simp only [Option.toList_some,List.mem_singleton] at hq
     subst hq;exact hd
  ·rintro e h2 ⟨hnot,wf2,wn2,e0,e3,e7,e71,e72,e73⟩ K2 hx2
   rw [List.take_of_length_le (Nat.le_refl _)] at hnot
   have hst4:¬ Ic rules.l s:=by
    rintro (hb|⟨r,hr,hd⟩)
    ·exact hno4 hb
    ·exact hnot r hr hd
   specialize h5 hst4
   specialize h0 hst4
   have v0:h2.get h.next=some (.cells (az s)):=by rw [wf2 _ (by omega)];exact p0
   have vP:h2.get P=some (.cells [an aM 3 rules,.map A,.map M]):=by rw [wf2 _ (by omega)];exact gP
   have vl:eU (bA rules.l) h2 M ks (Lev.iter (bQ rules.l) k):=la.keep (wf2 _ (by omega))
   have lr:ai none (.ptr h.next 1) h2=some (an bt 3 s.rels):=by rw [au v0];rfl
   have ls:ai none (.ptr h.next 0) h2=some (.int .i64 (n:Int)):=by rw [au v0,← hn];rfl
   have hkl:ks.length≤60:=by
    have:=Lev.nk hks (m:=bA rules.l) fun x hx=>(la.mem x).1 hx
    have h1:(bA rules.l).length=rules.l.length:=by simp [bA]
    omega
   have hadd:aA .add (.int .i64 (s.rels.l.length:Int)) (.int .i64 (ks.length:Int))=some (.int .i64 ((s.rels.l.length+ks.length:Nat):Int)):=by
    rw [g8 (by omega) (by omega)];rfl
   have hdk:=GW la hks
   rw [F.ay.cP]
   simp only [e72,e73,aV,Nat.reduceAdd,Nat.reduceEqDiff,reduceIte,aR]
   rw [hx2,F.ay.b8]
   simp only [aV,Nat.reduceAdd,Nat.reduceEqDiff,reduceIte,e3,e7,lr,cm,au vP,vl.len,hadd]
   by_cases hbg:8<s.rels.l.length+ks.length
   ·simp only [decide_eq_true (by omega:(8:Int)<((s.rels.l.length+ks.length:Nat):Int)),aI]
    exact h5 (.inl (by rw [← hdk];exact hbg)) _ (fun b hb=>by rw [wf2 b (by omega),hfr b (by omega),gx.get b hb])
   have hagg:gQ [.int .i64 0,.nilm] [(0,1),(1,1)] [.int .i64 (n:Int),.map h2.next]=some (.agg [.int .i64 (n:Int),.map h2.next]):=rfl
   simp only [decide_eq_false (by omega:¬ (8:Int)<((s.rels.l.length+ks.length:Nat):Int)),aG,ls,bindO_some,hagg,cY (show bL [.int .i64 (n:Int),.map h2.next]=true from rfl),ag.next_alloc]
   have f0:((h2.alloc (.map [] 0)).alloc (.cells [.int .i64 (n:Int),.map h2.next])).get h2.next=some (.map [] 0):=by rw [ag.aW,ag.next_alloc,if_neg (by omega)];exact aC _ _
   have f1:((h2.alloc (.map [] 0)).alloc (.cells [.int .i64 (n:Int),.map h2.next])).get (h2.next+1)=some (.cells [.int .i64 (n:Int),.map h2.next]):=aC _ _
   have fx:bT h2 ((h2.alloc (.map [] 0)).alloc (.cells [.int .i64 (n:Int),.map h2.next])):=(bT.alloc _ _).trans (bT.alloc _ _)
   have fn:((h2.alloc (.map [] 0)).alloc (.cells [.int .i64 (n:Int),.map h2.next])).next=h2.next+1+1:=rfl
   generalize ((h2.alloc (.map [] 0)).alloc (.cells [.int .i64 (n:Int),.map h2.next]))=H2 at f0 f1 fx fn ⊢
   have uP:H2.get P=some (.cells [an aM 3 rules,.map A,.map M]):=by rw [fx.get _ (by omega)];exact vP
   obtain ⟨esL,ckL,mL,y1,y2,y3,y4,y5⟩:=la.ex
   have uM:H2.get M=some (.map esL ckL):=by rw [fx.get _ (by omega),wf2 _ (by omega)];exact y1
   have hrg2:jB .map (.map M) H2=some (.ptr H2.next 0,H2.alloc (.miter (some M) ckL [] ckL)):=by simp only [jB,uM]
   simp only [e7,cm,aV,Nat.reduceAdd,Nat.reduceEqDiff,reduceIte,au uP,hrg2]
   have r3:(H2.alloc (.miter (some M) ckL [] ckL)).get (h2.next+1+1)=some (.miter (some M) ckL [] ckL):=by have:=aC H2 (.miter (some M) ckL [] ckL);rwa [fn] at this
   have rx:bT H2 (H2.alloc (.miter (some M) ckL [] ckL)):=bT.alloc _ _
   have rn:(H2.alloc (.miter (some M) ckL [] ckL)).next=h2.next+1+1+1:=by rw [ag.next_alloc,fn]
   rw [fn]
   generalize (H2.alloc (.miter (some M) ckL [] ckL))=H3 at r3 rx rn ⊢
   have low:∀ b,b<h2.next→H3.get b=h2.get b:=fun b hb=>by rw [rx.get b (by omega),fx.get b hb]
   have s0:H3.get h2.next=some (.map [] 0):=by rw [rx.get _ (by omega)];exact f0
   have s1:H3.get (h2.next+1)=some (.cells [.int .i64 (n:Int),.map h2.next]):=by rw [rx.get _ (by omega)];exact f1
   have sM:H3.get M=some (.map esL ckL):=by rw [rx.get _ (by omega)];exact uM
   have sP:H3.get P=some (.cells [an aM 3 rules,.map A,.map M]):=by rw [rx.get _ (by omega)];exact uP
   have sA:H3.get A=some (.map es ck):=by rw [low _ (by omega),wf2 _ (by omega)];exact gA
   have sB:H3.get h.next=some (.cells (az s)):=by rw [low _ (by omega)];exact v0
   have sl:eU (bA rules.l) H3 M ks (Lev.iter (bQ rules.l) k):=la.keep (by rw [sM,y1])
   have sD:ei (fun _=>none) H3 h2.next (h2.next+1+1+1):=⟨⟨[],0,[],s0,trivial,fun nm=>rfl⟩,fun nm p hp=>(by cases hp),fun nm nm' p p' hp=>(by cases hp),by omega⟩
   refine Bh (S:=h2.next+1) (SB:=h.next) hn n1 n64 (fun r hr=>nN (hgok r hr).1) hgo s1 sB sP sA hmB sl sD (fun es' ck' hM'=>by rw [sM] at hM';cases hM';exact r3) rn (by omega) (by omega) (by omega) (by omega) (by omega) (by omega) (by omega) (by omega) (by omega) (by omega) (by omega) e0 e3 e7 rfl rfl (fun hb h' hf=>h5 (.inr (.inl (by rw [hnn];exact hb))) h' (fun b hb=>by rw [hf b (by omega) (by omega),low b (by omega),wf2 b (by omega),hfr b (by omega),gx.get b hb])) fun e4 h4' D a1 a2 a3 a4 a5 a6 j0 j3 j7 j17=>?_
   rw [F.ay.fV]
   simp only [j0,aV,Nat.reduceAdd,Nat.reduceEqDiff,reduceIte]
   refine Bg (s:=s) (SB:=h.next) (S:=h2.next+1) hn n1 n64 hfew hr60 (fun r hr=>(hgok r hr).2.2) (by rw [a5 _ (by omega) (by omega)];exact sB) (by omega) j3 j7 j17 rfl rfl rfl (fun hb h' hx=>h5 (.inr (.inr (by rw [hnn];exact hb))) h' (fun b hb=>by rw [hx.get b (by omega),a5 b (by omega) (by omega),low b (by omega),wf2 b (by omega),hfr b (by omega),gx.get b hb])) fun c1 e5 h6 c2 i3 i7 i17=>?_
   have c6:=c2.next
   have t0:h6.get h.next=some (.cells (az s)):=by rw [c2.get _ (by omega),a5 _ (by omega) (by omega)];exact sB
   have t1:h6.get (h2.next+1)=some (.cells [.int .i64 (n:Int),.map h2.next]):=by rw [c2.get _ (by omega),a5 _ (by omega) (by omega)];exact s1
   have lr6:ai none (.ptr h.next 1) h6=some (an bt 3 s.rels):=by rw [au t0];rfl
   rw [F.ay.Jd]
   simp only [aV,Nat.reduceAdd,Nat.reduceEqDiff,reduceIte,i3,lr6]
   refine C8 (S:=h2.next+1) (SB:=h.next) hsok hsv hn n1 n64 t1 t0 (a2.ext c2) (by omega) (by omega) (by omega) (by omega) (by omega) i3 i7 i17 rfl rfl rfl fun h7 D7 d1 d2 d3 d4 d5=>?_
   have hst5:¬ J9 rules.l s:=by
    rintro (hb|⟨r,hr,hb⟩|⟨r,hr,hb⟩)
    ·omega
    ·rw [hnn] at hb;have:=a1 r hr;omega
    ·rw [hnn] at hb;have:=c1 r hr;omega
   have keep:∀ b,b<h2.next→h7.get b=h2.get b:=fun b hb=>by rw [d4 b (by omega) (by omega),c2.get b (by omega),a5 b (by omega) (by omega),low b hb]
   refine h0 hst5 h7 n P A M (h2.next+1) h2.next (h2.next+1+1+1) ks k D7 m hn n1 n64 hst ⟨?_,la.keep ?_,hks,hgo,⟨es,ck,?_,hmB⟩,?_,d1,by omega⟩ ⟨fun r hr=>?_,fun r hr=>?_,fun nm p hp=>?_⟩ (fun b hb=>?_) (by omega)
   ·rw [keep _ (by omega)];exact vP
   ·rw [keep _ (by omega),wf2 _ (by omega)]
   ·rw [keep _ (by omega),wf2 _ (by omega)];exact gA
   ·rw [d4 _ (by omega) (by omega)];exact t1
   ·obtain ⟨b,_,b2⟩:=d2 r hr
    exact ⟨b,b2⟩
   ·obtain ⟨b,b2⟩:=a3 r hr
    refine ⟨b,?_⟩
    rw [d3 r.name fun q hq e=>hnot q hq (by rw [e];exact List.mem_map_of_mem hr)]
    exact b2
   ·by_cases hq:∃ q ∈ s.rels.l,q.name=nm
    ·exact .inr hq
    ·rw [d3 nm fun q hq' e=>hq ⟨q,hq',e⟩] at hp
     exact .inl (a4 nm p hp)
   ·rw [keep _ (by omega),wf2 _ (by omega),hfr _ (by omega),gx.get _ hb]
 obtain ⟨p,hpm,hn1,hn2⟩:=hmI.mem en hen
 have vf:∀ b,b<h'.next→(hh.set h'.next (.miter (some A) ck (seen++[en.2.2]) ck)).get b=h'.get b:=fun b hb=>by rw [ag.aO,if_neg (by omega)];exact wf b hb
 have v3:(hh.set h'.next (.miter (some A) ck (seen++[en.2.2]) ck)).get h'.next=some (.miter (some A) ck (seen++[en.2.2]) ck):=by rw [ag.aO,if_pos rfl]
 have vn:(hh.set h'.next (.miter (some A) ck (seen++[en.2.2]) ck)).next=hh.next:=ag.next_set _ _ _
 simp only [CD,lT,rq,bindO_some,condB_bool,aI,hent,e3,e7,e46,hn1,hn2]
 clear hent
 generalize (hh.set h'.next (.miter (some A) ck (seen++[en.2.2]) ck))=H at vf v3 vn ⊢
 have pP:H.get P=some (.cells [an aM 3 rules,.map A,.map M]):=by rw [vf _ (by omega)];exact gP
 have p0':H.get h.next=some (.cells (az s)):=by rw [vf _ (by omega)];exact p0
 have lS:ai (some 2) (.ptr h.next 0) H=some (.agg (az s)):=by rw [au p0',dA (cs:=az s) (n:=2) rfl]
 obtain ⟨esL,ckL,mL,y1,y2,y3,y4,y5⟩:=la.ex
 have hlk:=ox (h:=H) (by rw [vf M (by omega)];exact y1) y2 p.1
 have hsome:(mL.find p.1).isSome=decide (p.1 ∈ bA rules.l):=by rw [y5];by_cases hh':p.1 ∈ bA rules.l<;>simp [hh']
 have fin:∀ (e':Env),(¬ (p.1 ∉ bA rules.l∧s.rels.l.find? (kI p.1 p.2)=none))→e' 0=an aM 3 rules→e' 3 = .ptr h.next 0→e' 7 = .ptr P 0→e' 46 = .ptr h'.next 0→K' .normal ⟨e',198,[],H⟩=true:=fun e' hgood e0 e3 e7 e46=>by
  refine hnx' en hen hns _ _ ⟨fun en' hen' hse q hq hqn=>?_,v3,vf,by omega,e0,e3,e7,e46⟩
  rcases List.mem_append.1 hse with hse|hse
  ·exact hseen en' hen' hse q hq hqn
  ·rw [List.mem_singleton] at hse
   have hee:en'=en:=by
    obtain ⟨i,hi⟩:=List.mem_iff_getElem?.1 hen
    obtain ⟨j,hj⟩:=List.mem_iff_getElem?.1 hen'
    have hi':(es.map (·.2.2))[i]?=some en.2.2:=by rw [List.getElem?_map,hi];rfl
    have hj':(es.map (·.2.2))[j]?=some en.2.2:=by rw [List.getElem?_map,hj,← hse];rfl
    have hij:=kH hmBi.nodup hi' hj'
    subst hij
    rw [hi] at hj;exact (Option.some.inj hj).symm
   rw [hee,hn1] at hqn
   injection hqn with h3
   have h6:q.2=p.2:=by
    have h7:=rA hmN hq
    have h8:=rA hmN hpm
    rw [← h3,h8] at h7
    exact (Option.some.inj h7).symm
   rw [← h3,h6];exact hgood
 simp only [aV,Nat.reduceAdd,Nat.reduceEqDiff,reduceIte,cm,au pP,hlk,hsome]
 by_cases hd:p.1 ∈ bA rules.l
 ·simp only [decide_eq_true hd,Bool.not_true,aG]
  exact fin _ (fun hb=>hb.1 hd) e0 e3 e7 e46
 ·simp only [decide_eq_false hd,Bool.not_false,aI,aV,Nat.reduceAdd,Nat.reduceEqDiff,reduceIte,lS]
  refine ak (FV hsok ?_)
  simp only [aV,Nat.reduceAdd,Nat.reduceEqDiff,reduceIte]
  rcases mY (kI p.1 p.2) s.rels.l with ⟨f1,f2⟩|⟨j,r,f1,f2,f3⟩
  ·rw [f1]
   simp only [show decide ((-1:Int)<0)=true from rfl,aI]
   rw [hret,F.ay.bq]
   simp only [bu,Nat.reduceEqDiff,reduceIte]
   exact h4 (.inl ⟨(p.1,p.2),hall p hpm,hd,f2⟩) _ (fun b hb=>by rw [vf b (by omega),hfr b (by omega),gx.get b hb])
  ·rw [f1]
   simp only [decide_eq_false (by omega:¬ ((j:Int)<0)),aG]
   exact fin _ (fun hb=>by rw [f3] at hb;exact absurd hb.2 (by simp)) e0 e3 e7 e46
end
end Go.AM
namespace Go.AM
open Go Go.Proofs
noncomputable section
theorem oW{α β:Type}{enc:α→List AV}{enc':β→List AV}{h:ag}:∀ {l:List (α×β)},(∀ p ∈ l,iQ true h (enc p.1) (enc' p.2))→iQ true h (l.flatMap fun p=>enc p.1) (l.flatMap fun p=>enc' p.2)
 |[],_=>.nil
 |p :: l,hp=>by
  rw [List.flatMap_cons,List.flatMap_cons]
  exact iQ.append (hp p List.mem_cons_self) (oW fun q hq=>hp q (List.mem_cons_of_mem _ hq))
structure jz {α β:Type} (X:Nat→Prop) (enc:α→List AV) (enc':β→List AV) (sz k:Nat) (h:ag) (a:AV) (l:List (α×β)):Prop where
 own:Own enc sz k h a (l.map (·.1))
 tD:∀ p ∈ l,∀ h',(∀ b,k≤b→b<h.next→¬ X b→dV a≠some b→h'.get b=h.get b)→iQ true h' (enc p.1) (enc' p.2)
 av:∀ b,dV a=some b→¬ X b
section
variable {α β:Type} {X:Nat→Prop} {enc:α→List AV} {enc':β→List AV} {sz k:Nat} {h h':ag} {a:AV} {l:List (α×β)}
theorem jz.nil:jz X enc enc' sz k h .nils []:=⟨.nil,fun p hp=>(by cases hp),fun b hb=>(by cases hb)⟩
theorem Own.agree{α:Type}{enc:α→List AV}{sz k:Nat}{h h':ag}{a:AV}{l:List α}(o:Own enc sz k h a l)(hb:∀ b,dV a=some b→h'.get b=h.get b)(hn:h.next≤h'.next):Own enc sz k h' a l:=by
 cases o with
 |nil=>exact .nil
 |row b l h1 h2 h3=>exact .row b _ h1 (Nat.lt_of_lt_of_le h2 hn) (by rw [hb b rfl];exact h3)
theorem jz.keep(o:jz X enc enc' sz k h a l)(hb:∀ b,k≤b→b<h.next→¬ X b→h'.get b=h.get b)(hn:h.next≤h'.next):jz X enc enc' sz k h' a l:=
 ⟨o.own.agree (fun b e=>hb b (o.own.ge e) (o.own.lt e) (o.av b e)) hn,fun p hp h2 hh=>o.tD p hp h2 fun b b1 b2 b3 b4=>by rw [hh b b1 (Nat.lt_of_lt_of_le b2 hn) b3 b4,hb b b1 b2 b3],o.av⟩
theorem jz.ext(o:jz X enc enc' sz k h a l)(hx:bT h h'):jz X enc enc' sz k h' a l:=o.keep (fun b _ b2 _=>hx.get b b2) hx.next
theorem jz.low(o:jz X enc enc' sz k h a l){d:Nat}(hd:d<k)(x:jl):jz X enc enc' sz k (h.set d x) a l:=
 o.keep (fun b b1 _ _=>by rw [ag.aO,if_neg (by omega)]) (by rw [ag.next_set];exact Nat.le_refl _)
theorem jz.QS(o:jz X enc enc' sz k h a l){d:Nat}(hd:X d)(x:jl):jz X enc enc' sz k (h.set d x) a l:=
 o.keep (fun b b1 _ b3=>by rw [ag.aO,if_neg (fun e=>b3 (by rw [e];exact hd))]) (by rw [ag.next_set];exact Nat.le_refl _)
theorem jz.weak(o:jz X enc enc' sz k h a l){j:Nat}(hj:j≤k):jz X enc enc' sz j h a l:=
 ⟨o.own.weak hj,fun p hp h2 hh=>o.tD p hp h2 fun b b1 b2 b3 b4=>hh b (Nat.le_trans hj b1) b2 b3 b4,o.av⟩
theorem jz.QT(o:jz (fun _=>False) enc enc' sz k h a l)(hx:bT h h'){Y:Nat→Prop}(hY:∀ b,Y b→h.next≤b):jz Y enc enc' sz k h' a l:=
 ⟨o.own.ext hx,fun p hp h2 hh=>o.tD p hp h2 fun b b1 b2 _ b4=>by rw [hh b b1 (Nat.lt_of_lt_of_le b2 hx.next) (fun y=>by have:=hY b y;omega) b4,hx.get b b2],fun b e y=>by have:=hY b y;have:=o.own.lt e;omega⟩
theorem jz.push(o:jz X enc enc' sz k h a l)(he:∀ x,(enc x).length=sz)(h1:∀ x,bL (enc x)=true)(hk:k≤h.next){bytes:Nat}(hroom:(l.length+1)*bytes≤cX)(v:α)(w:β)(hX:∀ b,X b→b<h.next)
  (hf:∀ h',(∀ b,k≤b→b<h.next→¬ X b→dV a≠some b→h'.get b=h.get b)→iQ true h' (enc v) (enc' w)) :
  ∃ a' h',bW sz bytes a (.slice h.next 0 1 sz) (h.alloc (.cells (enc v)))=some (a',h')∧jz X enc enc' sz k h' a' (l++[(v,w)])∧(∀ c,c<h.next→dV a≠some c→h'.get c=h.get c)∧h.next≤h'.next∧(∀ h0,bT h0 h→h0.next≤k→bT h0 h')∧∀ c,dV a'=some c→h.next≤c:=by
 obtain ⟨a',h',e1,o1,f1,n1,x1,b1⟩:=o.own.push he h1 hk (bytes:=bytes) (by simpa using hroom) v
 refine ⟨a',h',e1,⟨by rw [List.map_append];exact o1,fun p hp h2 hh=>?_,fun b e x=>by have:=b1 b e;have:=hX b x;omega⟩,f1,n1,x1,b1⟩
 have hag:∀ b,k≤b→b<h.next→¬ X b→dV a≠some b→h2.get b=h.get b:=fun b c1 c2 c3 c4=>by
  rw [hh b c1 (by omega) c3 (fun e=>by have:=b1 b e;omega),f1 b c2 c4]
 rcases List.mem_append.1 hp with hp|hp
 ·exact o.tD p hp h2 hag
 ·rw [List.mem_singleton] at hp;subst hp
  exact hf h2 hag
theorem jz.data(o:jz X enc enc' sz k h a l):∃ x:Sl β,x.l=l.map (·.2)∧∀ h2,(∀ b,k≤b→b<h.next→¬ X b→h2.get b=h.get b)→Fz true h2 a (an enc' sz x):=by
 obtain ⟨ow,fr,av⟩:=o
 generalize hm:l.map (·.1)=m at ow
 cases ow with
 |nil=>
  have:l = []:=by simpa using hm
  subst this
  exact ⟨none,rfl,fun h2 _=>.cU rfl⟩
 |row b m h1 h2 h3=>
  subst hm
  refine ⟨some (l.map (·.2)),rfl,fun g hg=>?_⟩
  have fl:iQ true g (l.flatMap fun p=>enc p.1) (l.flatMap fun p=>enc' p.2):=oW fun p hp=>fr p hp g fun c c1 c2 c3 c4=>hg c c1 c2 c3
  have e1:(l.map (·.1)).flatMap enc=l.flatMap fun p=>enc p.1:=by rw [List.flatMap_map]
  have e2:(l.map (·.2)).flatMap enc'=l.flatMap fun p=>enc' p.2:=by rw [List.flatMap_map]
  have:an enc' sz (some (l.map (·.2))) = .islice (l.flatMap fun p=>enc' p.2) 0 l.length sz:=by simp only [an,e2,List.length_map]
  rw [this,List.length_map]
  exact .slice b 0 l.length sz _ _ (by rw [hg b h1 h2 (av b rfl),h3,e1]) fl.len fl.rel
theorem jz.fz(o:jz X enc enc' sz k h a l):∃ x:Sl β,x.l=l.map (·.2)∧Fz true h a (an enc' sz x):=by
 obtain ⟨x,h1,h2⟩:=o.data
 exact ⟨x,h1,h2 h fun _ _ _ _=>rfl⟩
end
def Qw:={ v:AV // bL [v]=true∧v.dK = [v] }
abbrev JL:=bI×Int×Qw
def mJ(r:JL):List AV:=[.str r.1,.int .i64 r.2.1,r.2.2.1]
theorem vU(r:JL):(mJ r).length=3:=rfl
theorem vV(r:JL):bL (mJ r)=true:=by
 have:=r.2.2.2.1
 unfold mJ
 simp only [bL,Bool.and_true] at this ⊢
 rw [this];rfl
theorem rG{α:Type}{enc:α→List AV}{sz k:Nat}{h:ag}{a:AV}{l:List α}(o:Own enc sz k h a l):bL [a]=true∧a.dK = [a]:=by cases o<;>exact ⟨rfl,rfl⟩
theorem JM(r:JL):eF [.str [],.int .i64 0,.nils] [(0,3)] [.agg (mJ r)]=some (mJ r):=by
 have ho:=vV r
 have hf:nu [.str [],.int .i64 0,.nils] [(0,3)] [.agg (mJ r)]=some (mJ r):=by
  have hc:AV.dK (.agg (mJ r))=mJ r:=rfl
  have hp:gX [.str [],.int .i64 0,.nils] 0 (mJ r)=mJ r:=rfl
  simp only [nu,hc,hp,ho,vU]
  rfl
 unfold eF
 rw [hf]
 simp only [ho,if_true]
abbrev JN(X:Nat→Prop)(k:Nat)(h:ag)(a:AV)(l:List (JL×Rel)):Prop:=jz X mJ bt 3 k h a l
theorem JO{h:ag}{nm:bI}{k:Int}{v:Qw}{x:Sl (Sl Int)}(hf:Fz true h v.1 (an er 1 x)):iQ true h (mJ (nm,k,v)) (bt ⟨nm,k,x⟩):=
 .cons (.scalar _ rfl) (.cons (.scalar _ rfl) (.cons hf .nil))
end
end Go.AM
namespace Go.AM
open Go Go.Proofs
noncomputable section
theorem Mk(d:TypeId){α:Type}{enc:α→List AV}{sz:Nat}(x:Sl α):fH (.slice d) (an enc sz x) .nils=some (.bool (match x with|none=>true|some _=>false)):=by cases x<;>rfl
theorem GX(y:Sl Int):eF [.nils] [(0,1)] [an encI 1 y]=some (er y):=by cases y<;>rfl
theorem uK(y:Sl Int):bL (er y)=true:=by cases y<;>rfl
theorem jz.JP{α:Type}{enc:α→List AV}{sz k:Nat}{h:ag}{a:AV}{l:List α}(o:Own enc sz k h a l)(hf:∀ v,AV.pureL (enc v)=true):jz (fun _=>False) enc enc sz k h a (l.map fun v=>(v,v)):=
 ⟨by rw [List.map_map];simpa [Function.comp_def] using o,fun p hp h' _=>by
  obtain ⟨v,_,rfl⟩:=List.mem_map.1 hp
  exact .cU (hf v),fun _ _ h=>h⟩
theorem Da{t:Sl Int}(ht:t.l.length≤1000000){h:ag}{K:Out→ag→Bool}(hK:∀ y:Sl Int,y.l=t.l→K (.ret (an encI 1 y)) h=true):Sem Tryz.prog 111 [an encI 1 t] h K:=by
 have main:Sem Tryz.prog 111 [an encI 1 t] ag.empty (fun o h'=>yes (∃ v,∃ y:Sl Int,o = .ret v∧y.l=t.l∧Fz true h' v (an encI 1 y))):=by
  refine F.mB ?_
  simp only [Mk,aV,Nat.reduceAdd,Nat.reduceEqDiff,reduceIte]
  cases t with
  |none=>simp only [aI];exact cw.2 ⟨_,none,rfl,rfl,.cU rfl⟩
  |some l=>
   obtain ⟨b,h',a1,a2,_,_,_⟩:=rB (uz kT (some l) (ag.empty.alloc (.cells []))) ht
   simp only [aG,rD,bindO_some,a1,bindO2_some]
   exact cw.2 ⟨_,some l,rfl,rfl,lN a2⟩
 refine main.frozen (by simp [AV.pureL,bE gi]) fun o h' ho=>?_
 obtain ⟨v,y,rfl,hy,hf⟩:=cw.1 ho
 exact ⟨v,_,rfl,hf,hK y hy⟩
theorem Ie(s:St):eC Tryz.prog s Tryz.f48.results.toList=(match ai (some 2) (s.env 2) s.h,(some []:Option (List AV)) with|some v,some vs=>some (v :: vs)|_,_=>none):=by kernel_rfl
set_option maxHeartbeats 2000000 in
theorem cN{s:dJ}(hs:s.small){h:ag}{K:Out→ag→Bool}(hK:∀ a h' l,bT h h'→JN (fun _=>False) h.next h' a l→(l.map fun p=>cJ p.2)=s.rels.l.map cJ→K (.ret (.agg [.int .i64 s.size,a])) h'=true):Sem Tryz.prog 48 [.agg (az s)] h K:=by
 have hm:cX=140737488355328:=rfl
 have hbig:=hs.Rq
 refine F.zJ ?_
 simp only [cY (dw s),bindO_some,ag.next_alloc]
 have g0:(ag.alloc (ag.alloc h (.cells (az s))) (.cells [.int .i64 0,.nils])).get h.next=some (.cells (az s)):=by rw [ag.aW,ag.next_alloc,if_neg (by omega)];exact aC _ _
 have g1:(ag.alloc (ag.alloc h (.cells (az s))) (.cells [.int .i64 0,.nils])).get (h.next+1)=some (.cells [.int .i64 0,.nils]):=aC _ _
 have gn:(ag.alloc (ag.alloc h (.cells (az s))) (.cells [.int .i64 0,.nils])).next=h.next+2:=rfl
 have gx:bT h (ag.alloc (ag.alloc h (.cells (az s))) (.cells [.int .i64 0,.nils])):=(bT.alloc _ _).trans (bT.alloc _ _)
 generalize (ag.alloc (ag.alloc h (.cells (az s))) (.cells [.int .i64 0,.nils]))=H1 at g0 g1 gn gx ⊢
 have lz:ai none (.ptr h.next 0) H1=some (.int .i64 s.size):=by rw [au g0];rfl
 have ha:gQ [.int .i64 0,.nils] [(0,1)] [.int .i64 s.size]=some (.agg [.int .i64 s.size,.nils]):=rfl
 obtain ⟨H2,hs2,p2,po,pn⟩:=cO (h:=H1) (zs:=[.int .i64 0,.nils]) (cs:=[.int .i64 s.size,.nils]) (n:=2) rfl rfl rfl
 rw [gn] at p2 po pn hs2
 have p0:H2.get h.next=some (.cells (az s)):=by rw [po _ (by omega)];exact g0
 have p1:H2.get (h.next+1)=some (.cells [.int .i64 0,.nils]):=by rw [po _ (by omega)];exact g1
 have px:bT h H2:=⟨by omega,fun b hb=>by rw [po _ (by omega)];exact gx.get b hb⟩
 have lr:ai none (.ptr h.next 1) H2=some (an bt 3 s.rels):=by rw [au p0];rfl
 simp only [aV,Nat.reduceAdd,Nat.reduceEqDiff,reduceIte,lz,ha,gn,hs2,lr]
 refine aB 0 s.rels.l.length (Nat.zero_le _) (fun i e h'=>∃ a l,h'.get (h.next+1)=some (.cells [.int .i64 0,.nils])∧h'.get (h.next+2)=some (.cells [.int .i64 s.size,a])∧JN (fun _=>False) (h.next+3) h' a l∧(l.map fun p=>cJ p.2)=(s.rels.l.take i).map cJ∧bT h h'∧h.next+3≤h'.next ∧
  e 2 = .ptr (h.next+1) 0∧e 3 = .ptr (h.next+2) 0∧e 13=an bt 3 s.rels∧e 14 = .int .i64 (s.rels.l.length:Int)∧e 15 = .int .i64 (i:Int)) ⟨_,[],p1,p2,.nil,rfl,px,by omega,rfl,rfl,rfl,rfl,rfl⟩ ?_ ?_
 ·rintro i e h' _ hi ⟨a,l,q1,q2,o,hl,qx,qn,e2,e3,e13,e14,e15⟩ K' hn hx' hr hp
  have hv:s.rels.l[i]?=some s.rels.l[i]:=List.getElem?_eq_getElem hi
  generalize s.rels.l[i]=r at hv
  have hrm:=List.mem_of_getElem? hv
  have hll:l.length=i:=by have:=congrArg List.length hl;rw [List.length_map,List.length_map,List.length_take,Nat.min_eq_left (by omega)] at this;exact this
  obtain ⟨H3,hs3,p3,po3,pn3⟩:=cO (h:=h') (zs:=[.str [],.int .i64 0,.nils]) (cs:=bt r) (n:=3) rfl rfl (gz r)
  have hag:gQ [.str [],.int .i64 0,.nils] [(0,1),(1,1)] [.str r.name,.int .i64 r.arity]=some (.agg [.str r.name,.int .i64 r.arity,.nils]):=rfl
  have l0:ai none (.ptr h'.next 0) H3=some (.str r.name):=by rw [au p3];rfl
  have l1:ai none (.ptr h'.next 1) H3=some (.int .i64 r.arity):=by rw [au p3];rfl
  obtain ⟨H4,hs4,p4,po4,pn4⟩:=cO (h:=H3) (zs:=[.str [],.int .i64 0,.nils]) (cs:=[.str r.name,.int .i64 r.arity,.nils]) (n:=3) rfl rfl rfl
  rw [pn3] at hs4 p4 po4 pn4
  have x4:bT h' H4:=⟨by omega,fun b hb=>by rw [po4 b (by omega),po3 b (by omega)]⟩
  have l2:ai none (.ptr h'.next 2) H4=some (an er 1 r.tuples):=by rw [au (show H4.get h'.next=some (.cells (bt r)) by rw [po4 _ (by omega)];exact p3)];rfl
  have htl:=hs.tups r hrm
  have hbt:r.tuples.l.length≤cz:=by unfold cz;omega
  rw [F.cN.aN]
  simp only [e13,e14,e15,aV,Nat.reduceAdd,Nat.reduceEqDiff,reduceIte,aY hi,aP s.rels hi,dQ fA hv,hs3]
  simp only [aV,Nat.reduceAdd,Nat.reduceEqDiff,reduceIte,l0,l1,hag,pn3,hs4,l2]
  refine aB 0 r.tuples.l.length (Nat.zero_le _) (fun j e h2=>∃ tv ts,h2.get (h'.next+1)=some (.cells [.str r.name,.int .i64 r.arity,tv])∧Own er 1 (h'.next+2) h2 tv ts∧ts.map Sl.l=(r.tuples.l.take j).map Sl.l∧bT h' h2∧h'.next+2≤h2.next ∧
   e 2 = .ptr (h.next+1) 0∧e 3 = .ptr (h.next+2) 0∧e 13=an bt 3 s.rels∧e 14 = .int .i64 (s.rels.l.length:Int)∧e 15 = .int .i64 (i:Int)∧e 6 = .ptr (h'.next+1) 0∧e 25=an er 1 r.tuples∧e 26 = .int .i64 (r.tuples.l.length:Int)∧e 27 = .int .i64 (j:Int))
   ⟨_,[],p4,.nil,rfl,x4,by omega,e2,e3,e13,e14,e15,rfl,rfl,rfl,rfl⟩ ?_ ?_
  ·rintro j e h2 _ hj ⟨tv,ts,q6,ot,hts,x2,qn2,e2,e3,e13,e14,e15,e6,e25,e26,e27⟩ K2 hnn hx2 hr2 hp2
   have hvt:r.tuples.l[j]?=some r.tuples.l[j]:=List.getElem?_eq_getElem hj
   generalize r.tuples.l[j]=t at hvt
   have htsl:ts.length=j:=by have:=congrArg List.length hts;rw [List.length_map,List.length_map,List.length_take,Nat.min_eq_left (by omega)] at this;exact this
   have lt:ai none (.ptr (h'.next+1) 2) h2=some tv:=by rw [au q6];rfl
   rw [F.cN.cP]
   simp only [e6,e25,e26,e27,aV,Nat.reduceAdd,Nat.reduceEqDiff,reduceIte,aY hj,aP r.tuples hj,fJ hvt,lt]
   refine ak (Da (by have:=hs.tup r hrm t (List.mem_of_getElem? hvt);omega) fun y hy=>?_)
   obtain ⟨a5,h5,c5,o5,f5,n5,w5,b5⟩:=ot.push qu uK qn2 (bytes:=24) (by rw [hm];omega) y
   have hne:dV tv≠some (h'.next+1):=fun hb=>by have:=ot.ge hb;omega
   have s6:h5.get (h'.next+1)=some (.cells [.str r.name,.int .i64 r.arity,tv]):=by rw [f5 _ (by omega) hne];exact q6
   have c6:=o5.nj
   have st:bg 1 (.ptr (h'.next+1) 2) a5 h5=some (h5.set (h'.next+1) (.cells [.str r.name,.int .i64 r.arity,a5])):=by
    rw [cZ (n:=1) s6 c6.2.1 c6.1 (by simp),c6.2.2];rfl
   simp only [aV,Nat.reduceAdd,Nat.reduceEqDiff,reduceIte,lt,AV.beq_refl,Bool.and_self,if_true,GX,c5,e6,e27,st,aE hj hbt]
   refine hnn _ _ ⟨a5,ts++[y],by rw [ag.aO,if_pos rfl],o5.lp (by omega) _,?_,(w5 h' x2 (by omega)).set (by omega) _,by rw [ag.next_set];omega,e2,e3,e13,e14,e15,e6,e25,e26,rfl⟩
   rw [List.map_append,hts,List.take_add_one,hvt,List.map_append]
   simp [hy]
  ·rintro e h2 ⟨tv,ts,q6,ot,hts,x2,qn2,e2,e3,e13,e14,e15,e6,e25,e26,e27⟩ K2 hx2
   rw [List.take_of_length_le (Nat.le_refl _)] at hts
   have o2:=o.ext x2
   obtain ⟨ho1,ho2⟩:=rG ot
   have lq:ai (some 3) (.ptr (h'.next+1) 0) h2=some (.agg (mJ (r.name,r.arity,⟨tv,ho1,ho2⟩))):=by rw [au q6];rfl
   have lo:ai none (.ptr (h.next+2) 1) h2=some a:=by rw [au (show h2.get (h.next+2)=some (.cells [.int .i64 s.size,a]) by rw [x2.get _ (by omega)];exact q2)];rfl
   obtain ⟨x,hx1,hx3⟩:=(jz.JP ot kD).data
   have hxl:x.l=ts:=by rw [hx1,List.map_map];simp [Function.comp_def]
   obtain ⟨a5,h5,c5,o5,f5,n5,w5,b5⟩:=o2.push vU vV (by omega) (bytes:=48) (by have:=hs.rels;rw [hm];omega) (r.name,r.arity,⟨tv,ho1,ho2⟩) ⟨r.name,r.arity,x⟩ (fun _ h=>h.elim)
    (fun g hg=>JO (hx3 g fun b b1 b2 _=>hg b (by omega) b2 (fun h=>h) (fun hb=>by have:=o.own.lt hb;omega)))
   have hne:dV a≠some (h.next+2):=fun hb=>by have:=o.own.ge hb;omega
   have hne1:dV a≠some (h.next+1):=fun hb=>by have:=o.own.ge hb;omega
   have s2:h5.get (h.next+2)=some (.cells [.int .i64 s.size,a]):=by rw [f5 _ (by omega) hne,x2.get _ (by omega)];exact q2
   have s1:h5.get (h.next+1)=some (.cells [.int .i64 0,.nils]):=by rw [f5 _ (by omega) hne1,x2.get _ (by omega)];exact q1
   have c6:=o5.own.nj
   have st:bg 1 (.ptr (h.next+2) 1) a5 h5=some (h5.set (h.next+2) (.cells [.int .i64 s.size,a5])):=by
    rw [cZ (n:=1) s2 c6.2.1 c6.1 (by simp),c6.2.2];rfl
   rw [F.cN.cP]
   simp only [e26,e27,aV,Nat.reduceAdd,Nat.reduceEqDiff,reduceIte,aR]
   rw [hx2,F.cN.b8]
   simp only [aV,Nat.reduceAdd,Nat.reduceEqDiff,reduceIte,e3,e6,e15,lo,lq,JM,c5,st,aE hi hbig]
   refine hn _ _ ⟨a5,_,?_,?_,o5.low (by omega) _,?_,(w5 h (qx.trans x2) (by omega)).set (by omega) _,by rw [ag.next_set];omega,e2,e3,e13,e14,rfl⟩
   ·rw [ag.aO,if_neg (by omega)];exact s1
   ·rw [ag.aO,if_pos rfl]
   ·rw [List.map_append,hl,List.take_add_one,hv,List.map_append]
    simp [cJ,hxl,hts]
 ·rintro e h' ⟨a,l,q1,q2,o,hl,qx,qn,e2,e3,e13,e14,e15⟩ K' hx'
  rw [List.take_of_length_le (Nat.le_refl _)] at hl
  have lo:ai (some 2) (.ptr (h.next+2) 0) h'=some (.agg [.int .i64 s.size,a]):=by rw [au q2];rfl
  have c:=o.own.nj
  have one2:bL [.int .i64 s.size,a]=true:=by
   have:=c.1;rw [c.2.2] at this;simp only [bL,Bool.and_true] at this ⊢;rw [this];rfl
  have st:bg 2 (.ptr (h.next+1) 0) (.agg [.int .i64 s.size,a]) h'=some (h'.set (h.next+1) (.cells [.int .i64 s.size,a])):=by
   rw [cZ (n:=2) (v:=.agg [.int .i64 s.size,a]) q1 rfl one2 (by simp)];rfl
  have lo2:ai (some 2) (.ptr (h.next+1) 0) (h'.set (h.next+1) (.cells [.int .i64 s.size,a]))=some (.agg [.int .i64 s.size,a]):=by rw [au (cs:=[.int .i64 s.size,a]) (by rw [ag.aO,if_pos rfl])];rfl
  rw [F.cN.aN]
  simp only [e14,e15,aV,Nat.reduceAdd,Nat.reduceEqDiff,reduceIte,aR]
  rw [hx',F.cN.aD]
  simp only [bu,Nat.reduceEqDiff,reduceIte,e2,e3,lo,st,bindO_some,Ie,lo2,oneOf]
  exact hK a _ l (qx.set (by omega) _) ((o.low (by omega) _).weak (by omega)) hl
end
end Go.AM
namespace Go.AM
open Go Go.Proofs
noncomputable section
def qK(n:Nat)(s:dJ):Lk:=fun nm k=>match s.rels.l.find? (dX nm) with|some r=>(bitsOf n r.arity.toNat r.tuples.l).getD k false|none=>false
def As(rs:List aK)(n:Nat)(s:dJ)(F:Lk):Prop:=∃ k t,Lev.dc (bQ rs) (Lev.iter (bQ rs) k)∧(∀ r ∈ rs,Lev.iter (bQ rs) k r.name<t)∧iw n rs (Lev.iter (bQ rs) k) (qK n s) t F
theorem B9{rs:List aK}{k:Nat}(h:Lev.dc (bQ rs) (Lev.iter (bQ rs) k)):Ao rs (Lev.iter (bQ rs) k):=by
 intro r hr c hc k0 ⟨q,hq,hqn⟩
 have he:eS r c ∈ bQ rs:=by
  refine List.mem_flatMap.2 ⟨r,hr,List.mem_flatMap.2 ⟨c,hc,?_⟩⟩
  unfold jV
  rw [if_pos ⟨k0,by rw [← hqn];exact List.mem_map_of_mem hq⟩]
  exact List.mem_singleton.2 rfl
 have:=h _ he
 unfold eS at this
 exact this
theorem F9{rs:List aK}(h60:rs.length≤60)(h20:∀ r ∈ rs,r.body.l.length≤20){k:Nat}(h:Lev.dc (bQ rs) (Lev.iter (bQ rs) k))(x:bI):Lev.iter (bQ rs) k x≤1000000:=by
 have hN:∀ e ∈ bQ rs,e.b ∈ bA rs∧e.h ∈ bA rs:=fun e he=>by
  obtain ⟨r,hr,c,hc,_,hin,rfl⟩:=qt he
  exact ⟨hin,List.mem_map_of_mem hr⟩
 rw [Lev.G5 h (Lev.settle hN h)]
 have:=sY h60 h20 (bA rs).length x
 have h1:(bA rs).length=rs.length:=by simp [bA]
 rw [h1] at this ⊢
 omega
def l7(rs:List aK)(nm:bI):Nat:=match rs.find? (fun r=>r.name==nm) with|some r=>r.args.l.length|none=>0
theorem iY{rs:List aK}{m:dN}(hgo:dU rs []=some m){x:bI}{j k:Int}(h1:(x,j) ∈ cC rs)(h2:(x,k) ∈ cC rs):j=k:=by
 have a:=(jg hgo x j).2 h1
 have b:=(jg hgo x k).2 h2
 rw [a] at b;exact Option.some.inj b
theorem Db{rs:List aK}{m:dN}(hgo:dU rs []=some m){r:aK}(hr:r ∈ rs):l7 rs r.name=r.args.l.length:=by
 unfold l7
 cases hf:rs.find? (fun q=>q.name==r.name) with
 |none=>
  rw [List.find?_eq_none] at hf
  exact absurd (hf r hr) (by simp)
 |some q=>
  have hq:=List.mem_of_find?_eq_some hf
  have hqn:=List.find?_some hf
  rw [beq_iff_eq] at hqn
  have:=iY hgo (iB hq) (by rw [hqn];exact iB hr)
  simp only;omega
theorem l8{rs:List aK}{r:aK}(hr:r ∈ rs){c:eN}(hc:c ∈ r.body.l)(k0:c.kind=0):(c.name,(c.args.l.length:Int)) ∈ cC rs:=by
 refine List.mem_flatMap.2 ⟨r,hr,List.mem_cons_of_mem _ ?_⟩
 unfold dY
 exact List.mem_map.2 ⟨c,List.mem_filter.2 ⟨hc,by simpa using k0⟩,rfl⟩
structure ML (c:eN):Prop where
 kinds:c.kind=0∨c.kind=1∨c.kind=2
 two:c.kind=1∨c.kind=2→c.args.l.length=2
 arity:c.args.l.length≤12
theorem uL{c:eN}(h:fO c=true):ML c:=by
 unfold fO at h
 by_cases k0:c.kind=0
 ·rw [if_pos k0] at h
  exact ⟨.inl k0,fun h'=>by omega,nN h⟩
 ·rw [if_neg k0] at h
  by_cases k12:c.kind=1∨c.kind=2
  ·rw [if_pos k12] at h
   simp only [Bool.and_eq_true,decide_eq_true_eq] at h
   exact ⟨.inr k12,fun _=>h.2.1,by omega⟩
  ·rw [if_neg k12] at h;cases h
theorem Ig{rs:List aK}(hg:jW rs){r:aK}(hr:r ∈ rs):iD r=true:=by
 have:=((rF rs).1 hg).2.1
 rw [List.all_eq_true] at this
 exact this r hr
theorem rH{rs:List aK}(hg:jW rs){r:aK}(hr:r ∈ rs){c:eN}(hc:c ∈ r.body.l):fO c=true:=by
 have:=Ig hg hr
 unfold iD at this
 simp only [Bool.and_eq_true] at this
 have h5:=this.2.2.2.1
 rw [List.all_eq_true] at h5
 exact h5 c hc
theorem rI{s:dJ}{nm:bI}{k:Int}{r:Rel}(h:s.rels.l.find? (kI nm k)=some r):r ∈ s.rels.l∧r.name=nm∧r.arity=k:=by
 have h1:=List.mem_of_find?_eq_some h
 have h2:=List.find?_some h
 simp only [kI,Bool.and_eq_true,beq_iff_eq,decide_eq_true_eq] at h2
 exact ⟨h1,h2.1,by first|exact h2.2|exact h2.2.symm⟩
theorem Ih{n:Nat}{rs:List aK}{s:dJ}{m:dN}{D0:DB}(hgo:dU rs []=some m)(hsv:cT s=true)(hn:s.size=(n:Int))(h4:¬ Ic rs s)(h5:¬ J9 rs s)(sd:vT n rs s D0){r:aK}(hr:r ∈ rs){c:eN}(hc:c ∈ r.body.l)(k0:c.kind=0) :
  n ^ c.args.l.length≤4096∧∃ p,D0 c.name=some p∧p.2.length=n ^ c.args.l.length:=by
 have hnn:s.size.toNat=n:=by omega
 have hat:=l8 hr hc k0
 by_cases hd:c.name ∈ bA rs
 ·obtain ⟨q,hq,hqn⟩:=List.mem_map.1 hd
  have hl:q.args.l.length=c.args.l.length:=by
   have:=iY hgo (iB hq) (by rw [hqn];exact hat)
   omega
  obtain ⟨b,hb⟩:=sd.head q hq
  rw [hqn] at hb
  refine ⟨?_,_,hb,by rw [List.length_replicate,hl]⟩
  rw [← hl,← hnn]
  exact Nat.le_of_not_lt fun h=>h5 (.inr (.inl ⟨q,hq,h⟩))
 ·cases hf:s.rels.l.find? (kI c.name (c.args.l.length:Int)) with
  |none=>exact absurd (.inl ⟨_,hat,hd,hf⟩) h4
  |some q=>
   obtain ⟨hq,hqn,hqa⟩:=rI hf
   obtain ⟨i,hi⟩:=List.mem_iff_getElem?.1 hq
   have hrb:=qF hsv hi
   rw [hnn] at hrb
   obtain ⟨k,hk,k12,hkc,hkt⟩:=uE hrb
   obtain ⟨b,hb⟩:=sd.rel q hq
   have hkl:k=c.args.l.length:=by omega
   rw [hqn] at hb
   exact ⟨by rw [← hkl];exact hkc,_,hb,by rw [oI];congr 1;omega⟩
theorem mK{n:Nat}{rs:List aK}{s:dJ}{D0:DB}(hn:s.size=(n:Int))(h5:¬ J9 rs s)(sd:vT n rs s D0){r:aK}(hr:r ∈ rs):n ^ r.args.l.length≤4096∧∃ p,D0 r.name=some p∧p.2.length=n ^ r.args.l.length:=by
 have hnn:s.size.toNat=n:=by omega
 obtain ⟨b,hb⟩:=sd.head r hr
 refine ⟨?_,_,hb,List.length_replicate⟩
 rw [← hnn]
 exact Nat.le_of_not_lt fun h=>h5 (.inr (.inl ⟨r,hr,h⟩))
theorem JQ{n:Nat}{rs:List aK}{s:dJ}{m:dN}{D0:DB}(hg:jW rs)(hgo:dU rs []=some m)(hsv:cT s=true)(hn:s.size=(n:Int))(h4:¬ Ic rs s)(h5:¬ J9 rs s)(sd:vT n rs s D0){r:aK}(hr:r ∈ rs)(D:DB)(hd:eu D D0):BT n D r:=
 ⟨fun c hc k0=>by
  obtain ⟨a,p0,b1,b2⟩:=Ih hgo hsv hn h4 h5 sd hr hc k0
  obtain ⟨p,c1,_,c3⟩:=hd.get b1
  exact ⟨a,p,c1,by rw [c3];exact b2⟩,fun c hc=>(uL (rH hg hr hc)).two,fun c hc=>(uL (rH hg hr hc)).kinds,fun c hc=>(uL (rH hg hr hc)).arity⟩
theorem JR(N k:Nat):(List.replicate N false).getD k false=false:=by
 rw [List.getD_eq_getElem?_getD,List.getElem?_replicate];split<;>rfl
theorem nO{s:dJ}(hsv:cT s=true){r:Rel}(hr:r ∈ s.rels.l):s.rels.l.find? (dX r.name)=some r:=mZ (jG hsv) r hr
theorem Ga{n:Nat}{rs:List aK}{s:dJ}{D0:DB}(hsv:cT s=true)(h4:¬ Ic rs s)(sd:vT n rs s D0):eG D0=qK n s:=by
 funext nm k
 unfold qK
 cases hf:s.rels.l.find? (dX nm) with
 |some r=>
  have hr:=List.mem_of_find?_eq_some hf
  have hn:=List.find?_some hf
  simp only [dX,beq_iff_eq] at hn
  obtain ⟨b,hb⟩:=sd.rel r hr
  rw [hn] at hb
  unfold eG
  rw [hb]
 |none=>
  unfold eG
  cases hp:D0 nm with
  |none=>rfl
  |some p=>
   rcases sd.only nm p hp with hh|⟨r,hr,hrn⟩
   ·obtain ⟨r,hr,hrn⟩:=List.mem_map.1 hh
    obtain ⟨b,hb⟩:=sd.head r hr
    rw [hrn,hp] at hb
    cases hb
    exact JR _ _
   ·rw [List.find?_eq_none] at hf
    exact absurd (hf r hr) (by simp [dX,hrn])
theorem Gb{rules:Sl aK}{s:dJ}(hfew:∀ r ∈ rules.l,r.kX)(hg:jW rules.l)(hsv:cT s=true)(h4:¬ Ic rules.l s)(h5:¬ J9 rules.l s){n P A M S B lo k:Nat}{ks:List bI}{D0:DB}{m:dN}{h:ag}(hn:s.size=(n:Int))(n1:1≤n)(n64:n≤64)
  (hst:Lev.dc (bQ rules.l) (Lev.iter (bQ rules.l) k)) (sh:F8 n P A M S B lo rules ks (Lev.iter (bQ rules.l) k) D0 m h) (sd:vT n rules.l s D0) {ng:FuncId} {na nb:List AV}
  (note:∀ (i:Int) (r:aK) (k:Int) (hd:Sl Int) (cs:Sl (Sl Int)) (ls:Sl Int) (y:AV) (h:ag) (K:Out→ag→Bool),(∀ h',bT h h'→K (.ret (.tuple [])) h'=true)→Sem Tryz.prog ng (na++([.agg (bV i r k (an encI 1 hd) (an er 1 cs) (an encI 1 ls)),y]++nb)) h K)
  {K:Out→ag→Bool} (hK:∀ h' D' F,As rules.l n s F→eG D'=F→eu D' D0→F8 n P A M S B lo rules ks (Lev.iter (bQ rules.l) k) D' m h'→(∀ b,b<lo→h'.get b=h.get b)→h.next≤h'.next→K (.ret (.tuple [])) h'=true) :
  Sem Tryz.prog 46 [.ptr P 0,.ptr S 0,.func ng na nb] h K:=by
 obtain ⟨hP,hl,hks,hgo,⟨es,ck,hA,hmB⟩,hS,hD,o1,o2,o3,o4,o5,o6⟩:=sh
 have hgok:=g9 hgo
 have hrow:∀ nm p,D0 nm=some p→lo≤p.1:=fun nm p hp=>(hD.blk nm p hp).1
 have o:JB S n D0 rules.l ng na nb:=
  ⟨n1,n64,hfew,fun r hr=>(hgok r hr).2.2,fun nm p hp=>by have:=hrow nm p hp;omega,fun r hr D hd=>JQ hg hgo hsv hn h4 h5 sd hr D hd,fun r hr=>⟨(mK hn h5 sd hr).1,nN (hgok r hr).1,(mK hn h5 sd hr).2⟩,note,hg.kX⟩
 refine HM o hP (by omega) hl hks (by omega) (fun r hr=>List.mem_map_of_mem hr) (F9 hg.kX (fun r hr=>(hgok r hr).2.1) hst) hS (by omega) hD (fun nm p hp=>by have:=hrow nm p hp;omega) fun h' D' T hT hrun hdim hbit hfr hnx=>?_
 have keep:∀ b,b<lo→h'.get b=h.get b:=fun b hb=>hfr b (by omega) fun nm p hp=>by have:=hrow nm p hp;omega
 have hlen:lE n rules.l D0:=fun r hr p hp=>by
  obtain ⟨_,q,h1,h2⟩:=mK hn h5 sd hr
  rw [h1] at hp;cases hp;exact h2
 have hch:=(H9 n1 (B9 hst) hlen (fun r hr=>by obtain ⟨_,q,h1,_⟩:=mK hn h5 sd hr;exact ⟨q,h1⟩) hrun).1
 rw [Ga hsv h4 sd] at hch
 refine hK h' D' (eG D') ⟨k,T+1,hst,fun r hr=>by have:=hT r.name (List.mem_map_of_mem hr);omega,hch⟩ rfl hdim ⟨by rw [keep _ (by omega)];exact hP,hl.keep (keep _ (by omega)),hks,hgo,⟨es,ck,by rw [keep _ (by omega)];exact hA,hmB⟩,by rw [keep _ (by omega)];exact hS,hbit,by omega⟩ keep hnx
theorem JS{h:ag}{K:Out→ag→Bool}{i:Int}{r:aK}{k:Int}{hd:Sl Int}{cs:Sl (Sl Int)}{ls:Sl Int}{y:AV}(hK:∀ h',bT h h'→K (.ret (.tuple [])) h'=true):Sem Tryz.prog 47 ([]++([.agg (bV i r k (an encI 1 hd) (an er 1 cs) (an encI 1 ls)),y]++[])) h K:=by
 refine F.xP ?_
 simp only [cY (vK i r k hd cs ls),bindO_some]
 exact hK _ (bT.alloc _ _)
end
end Go.AM
namespace Go.AM
open Go Go.Proofs
noncomputable section
theorem Gc{o:List bI}{s:bI}(h:o.Nodup):(vJ o s).Nodup:=by
 unfold vJ
 split
 ·exact h
 ·rename_i hn
  refine List.nodup_append.2 ⟨h,by simp,fun a ha b hb e=>?_⟩
  rw [List.mem_singleton] at hb
  subst hb;subst e
  exact hn (List.any_eq_true.2 ⟨a,ha,beq_self_eq_true a⟩)
theorem uN:∀ {l o:List bI},o.Nodup→(ey o l).Nodup
 |[],o,h=>h
 |s :: l,o,h=>uN (l:=l) (Gc h)
theorem Au(r:aK):(varsOf r).Nodup:=by rw [td];exact uN List.nodup_nil
theorem Ii{x:Sl bI}{s:bI}(hn:x.l.Nodup)(hx:x.l.length≤cz)(hs:s ∈ x.l){h:ag}{K:Out→ag→Bool}(hK:K (.ret (.int .i64 ((x.l.idxOf s:Nat):Int))) h=true):Sem Tryz.prog 58 [an encS 1 x,.str s] h K:=by
 refine dm hx (fun i hi=>?_) fun hno=>absurd hs hno
 have h1:x.l.idxOf s<x.l.length:=List.idxOf_lt_length_of_mem hs
 have h2:x.l[x.l.idxOf s]?=some s:=by rw [List.getElem?_eq_getElem h1,List.getElem_idxOf]
 rw [kH hn hi h2]
 exact hK
theorem Av{all xs:Sl bI}{at_:Sl Int}(hn:all.l.Nodup)(hal:all.l.length≤cz)(hxl:xs.l.length≤1000000)(hin:∀ s ∈ xs.l,s ∈ all.l)(hat:at_.l.length=all.l.length) :
  Sem Tryz.prog 78 [an encS 1 all,an encS 1 xs,an encI 1 at_] ag.empty (fun o h'=>yes (∃ v,o = .ret v∧Fz false h' v (an encI 1 (some (bw at_.l (placesOf all.l xs.l)))))):=by
 have hxb:xs.l.length≤cz:=by unfold cz;omega
 refine F.vC ?_
 simp only [aV,Nat.reduceAdd,Nat.reduceEqDiff,reduceIte,ry hxl,bG]
 have g0:=aC ag.empty (.cells ((List.replicate xs.l.length (0:Int)).map iv))
 rw [bG] at g0
 generalize ag.empty.alloc (.cells ((List.replicate xs.l.length (0:Int)).map iv))=H at g0 ⊢
 refine aB 0 xs.l.length (Nat.zero_le _) (fun i e h'=>∃ d:List Int,d.length=xs.l.length∧d.take i=(bw at_.l (placesOf all.l xs.l)).take i∧h'.get 0=some (.cells (d.map iv)) ∧
  e 0=an encS 1 all∧e 1=an encS 1 xs∧e 2=an encI 1 at_∧e 7 = .slice 0 0 xs.l.length 1∧e 8 = .int .i64 (i:Int)) ⟨List.replicate xs.l.length 0,by simp,rfl,g0,rfl,rfl,rfl,rfl,rfl⟩ ?_ ?_
 ·rintro i e h' _ hi ⟨d,dl,dt,q0,e0,e1,e2,e7,e8⟩ K' hn' hx hr hp
  have hv:xs.l[i]?=some xs.l[i]:=List.getElem?_eq_getElem hi
  generalize xs.l[i]=s at hv
  have hsm:=hin s (List.mem_of_getElem? hv)
  have hix:all.l.idxOf s<at_.l.length:=by rw [hat];exact List.idxOf_lt_length_of_mem hsm
  have hw:at_.l[all.l.idxOf s]?=some (at_.l.getD (all.l.idxOf s) 0):=by rw [List.getD_eq_getElem?_getD,List.getElem?_eq_getElem hix];rfl
  have hpk:(bw at_.l (placesOf all.l xs.l))[i]?=some (at_.l.getD (all.l.idxOf s) 0):=by unfold bw placesOf;rw [List.map_map,List.getElem?_map,hv];rfl
  rw [F.ep.aN]
  simp only [e0,e1,e2,e7,e8,aV,Nat.reduceAdd,Nat.reduceEqDiff,reduceIte,aY hi,aP xs hi,fW hv]
  refine ak (Ii hn hal hsm ?_)
  simp only [aV,Nat.reduceAdd,Nat.reduceEqDiff,reduceIte,e2,e7,e8,aP at_ hix,fF hw,jT hi,mC q0 (show i<d.length by omega),aE hi hxb]
  refine hn' _ _ ⟨d.set i (at_.l.getD (all.l.idxOf s) 0),by simp [dl],?_,by rw [ag.aO,if_pos rfl],e0,e1,e2,e7,rfl⟩
  rw [List.take_add_one,List.take_add_one,hpk,List.take_set_of_le (Nat.le_refl _),dt,List.getElem?_set,if_pos rfl,if_pos (by omega)]
 ·rintro e h' ⟨d,dl,dt,q0,e0,e1,e2,e7,e8⟩ K' hx
  rw [F.ep.aN]
  simp only [e1,e8,aV,Nat.reduceAdd,Nat.reduceEqDiff,reduceIte,aR]
  rw [hx,F.ep.aD]
  simp only [bu,Nat.reduceEqDiff,reduceIte,e7]
  have hd:d=bw at_.l (placesOf all.l xs.l):=by
   have h2:(bw at_.l (placesOf all.l xs.l)).length=xs.l.length:=by unfold bw placesOf;simp
   rw [List.take_of_length_le (by omega),List.take_of_length_le (by omega)] at dt
   exact dt
  subst hd
  refine cw.2 ⟨_,rfl,?_⟩
  have:=lN (old:=false) q0
  rwa [dl] at this
theorem ep{all xs:Sl bI}{at_:Sl Int}(hn:all.l.Nodup)(hal:all.l.length≤cz)(hxl:xs.l.length≤1000000)(hin:∀ s ∈ xs.l,s ∈ all.l)(hat:at_.l.length=all.l.length){h:ag}{K:Out→ag→Bool}
  (hK:K (.ret (an encI 1 (some (bw at_.l (placesOf all.l xs.l))))) h=true):Sem Tryz.prog 78 [an encS 1 all,an encS 1 xs,an encI 1 at_] h K:=
 (Av hn hal hxl hin hat).Ks (iQ.cons (.cU (bE gj _)) (iQ.cons (.cU (bE gj _)) (iQ.cons (.cU (bE gi _)) .nil))) fun o h' ho=>by
  obtain ⟨v,rfl,hf⟩:=cw.1 ho
  exact ⟨_,_,rfl,hf,hK⟩
theorem fq{n:Nat}(h1:1≤n){x:Sl Int}{k:Nat}(hk:x.l.length=k)(hx:k≤12)(hc:n ^ k≤4096)(hb:gI n x.l=true){h:ag}{K:Out→ag→Bool}
  (hK:K (.ret (.int .i64 ((gy n x.l:Nat):Int))) h=true):Sem Tryz.prog 77 [.int .i64 (n:Int),an encI 1 x] h K:=by
 subst hk
 have hbig:x.l.length≤cz:=by unfold cz;omega
 refine F.zP ?_
 refine aB 0 x.l.length (Nat.zero_le _) (fun i e h'=>h'=h∧e 0 = .int .i64 (n:Int)∧e 5 = .int .i64 ((gy n (x.l.take i):Nat):Int)∧e 1=an encI 1 x∧e 6 = .int .i64 (i:Int)) ⟨rfl,rfl,rfl,rfl,rfl⟩ ?_ ?_
 ·rintro i e h' _ hi ⟨rfl,e0,e5,e1,e6⟩ K' hn hx' hr hp
  have hv:x.l[i]?=some x.l[i]:=List.getElem?_eq_getElem hi
  rw [F.fq.aN]
  simp only [e0,e1,e5,e6,aV,Nat.reduceAdd,Nat.reduceEqDiff,reduceIte,aY hi,aP x hi,fF hv,(kY hb h1 hc hv).1,(kY hb h1 hc hv).2,aE hi hbig]
  exact hn _ _ ⟨rfl,e0,rfl,e1,rfl⟩
 ·rintro e h' ⟨rfl,e0,e5,e1,e6⟩ K' hx'
  rw [F.fq.aN]
  simp only [e1,e6,aV,Nat.reduceAdd,Nat.reduceEqDiff,reduceIte,aR]
  rw [hx',F.fq.aD]
  simp only [e5,bu,Nat.reduceEqDiff,reduceIte]
  rw [List.take_of_length_le (Nat.le_refl _)]
  exact hK
theorem tu(t:BZ):AV.pureL (iH t)=true:=by simp [iH,vO,AV.pureL,AV.pure,bE BE]
theorem JT{x:Sl BZ}{j:Nat}{t:BZ}(ht:x.l[j]?=some t){h:ag}:ai none (.iptr (x.l.flatMap iH) (j*3)) h=some (.str t.name):=eZ (enc:=iH) (fun _=>rfl) ht (by omega:0<3)
theorem JU{x:Sl BZ}{j:Nat}{t:BZ}(ht:x.l[j]?=some t){h:ag}:ai none (.iptr (x.l.flatMap iH) (j*3+2)) h=some (an AG 1 (some t.bits)):=eZ (enc:=iH) (fun _=>rfl) ht (by omega:2<3)
theorem Ij{l:List Bool}{i:Nat}{v:Bool}(hv:l[i]?=some v){h:ag}:ai none (.iptr (l.flatMap AG) (i*1)) h=some (.bool v):=by
 rw [nZ (enc:=AG) (fun _=>rfl) hv];rfl
theorem fK{n:Nat}(n1:1≤n){x:Sl BZ}(hxl:x.l.length≤cz){nm:bI}{t:Sl Int}{k:Nat}(htl:t.l.length=k)(hk:k≤12)(hc:n ^ k≤4096)(hb:gI n t.l=true)(hbits:∀ q ∈ x.l,q.name=nm→q.bits.length=n ^ k){h:ag}{K:Out→ag→Bool}
  (hK:K (.ret (.bool (fG x.l nm (gy n t.l)))) h=true):Sem Tryz.prog 120 [an iH 3 x,.int .i64 (n:Int),.str nm,an encI 1 t] h K:=by
 refine F.CR ?_
 refine aB 0 x.l.length (Nat.zero_le _) (fun i e h'=>h'=h∧(∀ q ∈ x.l.take i,q.name≠nm)∧e 0=an iH 3 x∧e 1 = .int .i64 (n:Int)∧e 2 = .str nm∧e 3=an encI 1 t∧e 9 = .int .i64 (i:Int)) ⟨rfl,fun q hq=>(by cases hq),rfl,rfl,rfl,rfl,rfl⟩ ?_ ?_
 ·rintro i e h' _ hi ⟨rfl,hno,e0,e1,e2,e3,e9⟩ K' hn hx hr hp
  have hv:x.l[i]?=some x.l[i]:=List.getElem?_eq_getElem hi
  generalize x.l[i]=q at hv
  rw [F.fK.aN]
  simp only [e0,e1,e2,e3,e9,aV,Nat.reduceAdd,Nat.reduceEqDiff,reduceIte,aY hi,aP x hi,JT hv,mW]
  by_cases hq:q.name=nm
  ·have hbl:=hbits q (List.mem_of_getElem? hv) hq
   have hrk:gy n t.l<q.bits.length:=by have:=kE hb;rw [htl] at this;omega
   have hbit:q.bits[gy n t.l]?=some (q.bits.getD (gy n t.l) false):=by rw [List.getD_eq_getElem?_getD,List.getElem?_eq_getElem hrk];rfl
   have hlk:fG x.l nm (gy n t.l)=q.bits.getD (gy n t.l) false:=by
    have:x.l.find? (fun t=>t.name==nm)=some q:=by
     rw [List.find?_eq_some_iff_getElem]
     refine ⟨by simp [hq],i,hi,(List.getElem?_eq_some_iff.1 hv).2,fun j hj=>?_⟩
     have hm:x.l[j]'(by omega) ∈ x.l.take i:=List.mem_take_iff_getElem.2 ⟨j,by omega,rfl⟩
     have:=hno _ hm
     simp [this]
    unfold fG
    rw [this]
   have hlb:∀ hh,ai none (.iptr (x.l.flatMap iH) (i*3+2)) hh=some (an AG 1 (some q.bits)):=fun hh=>JU hv
   simp only [decide_eq_true hq,aI,hlb,aV,Nat.reduceAdd,Nat.reduceEqDiff,reduceIte]
   refine ak (fq n1 htl hk hc hb ?_)
   simp only [aV,Nat.reduceAdd,Nat.reduceEqDiff,reduceIte,hlb,AV.beq_refl,Bool.and_self,Bool.and_true,if_true,aP (enc:=AG) (sz:=1) (some q.bits) (show gy n t.l<(Sl.l (some q.bits)).length from hrk)]
   rw [show Sl.l (some q.bits)=q.bits from rfl]
   simp only [Ij hbit,bindO_some]
   rw [hr,F.fK.bq]
   simp only [bu,Nat.reduceEqDiff,reduceIte]
   rw [← hlk];exact hK
  ·simp only [decide_eq_false hq,aG,e9,aE hi hxl,bindO_some]
   refine hn _ _ ⟨rfl,fun p hp'=>?_,e0,e1,e2,e3,rfl⟩
   rw [List.take_add_one,hv] at hp'
   rcases List.mem_append.1 hp' with hp'|hp'
   ·exact hno p hp'
   ·simp only [Option.toList_some,List.mem_singleton] at hp'
    subst hp';exact hq
 ·rintro e h' ⟨rfl,hno,e0,e1,e2,e3,e9⟩ K' hx
  rw [List.take_of_length_le (Nat.le_refl _)] at hno
  rw [F.fK.aN]
  simp only [e0,e9,aV,Nat.reduceAdd,Nat.reduceEqDiff,reduceIte,aR]
  rw [hx,F.fK.aD]
  have:fG x.l nm (gy n t.l)=false:=by
   unfold fG
   have hf:x.l.find? (fun t=>t.name==nm)=none:=by
    rw [List.find?_eq_none]
    intro q hq;simp [hno q hq]
   rw [hf]
  rw [this] at hK
  exact hK
structure uO (n:Nat) (r:aK) (ts:List BZ):Prop where
 len:ts.length≤cz
 conds:∀ c ∈ r.body.l,ML c
 rel:∀ c ∈ r.body.l,c.kind=0→n ^ c.args.l.length≤4096∧∀ q ∈ ts,q.name=c.name→q.bits.length=n ^ c.args.l.length
set_option maxHeartbeats 1000000 in
theorem cI{n:Nat}(n1:1≤n){r:aK}(hf:r.kX)(hk:(varsOf r).length≤12){all:Sl bI}(hall:all.l=varsOf r){vs:Sl Int}(hvs:Am n r vs.l){x:Sl BZ}(hx:uO n r x.l){h:ag}{K:Out→ag→Bool}
  (hK:K (.ret (.bool (j4 n (fG x.l) r vs.l))) h=true):Sem Tryz.prog 65 [.agg (aM r),an encS 1 all,an encI 1 vs,an iH 3 x,.int .i64 (n:Int)] h K:=by
 refine Sem.data (r:=.bool (j4 n (fG x.l) r vs.l)) ?_ (by simp [AV.pureL,AV.pure,ef,bE gj,bE gi,bE tu]) hK
 clear hK
 have hbb:r.body.l.length≤cz:=by have:=hf.2.1;unfold cz;omega
 refine F.uw ?_
 simp only [cY (iz r),bindO_some,bG]
 have g0:(ag.empty.alloc (.cells (aM r))).get 0=some (.cells (aM r)):=aC _ _
 have gn:(ag.empty.alloc (.cells (aM r))).next=1:=rfl
 generalize (ag.empty.alloc (.cells (aM r)))=H0 at g0 gn ⊢
 refine aB 0 r.body.l.length (Nat.zero_le _) (fun i e h'=>h'.get 0=some (.cells (aM r))∧1≤h'.next∧(r.body.l.take i).all (fun c=>dD n (fG x.l) c (bw vs.l (bz r c)))=true ∧
  e 1=an encS 1 all∧e 2=an encI 1 vs∧e 3=an iH 3 x∧e 4 = .int .i64 (n:Int)∧e 5 = .ptr 0 0∧e 11 = .int .i64 (i:Int)) ⟨g0,by omega,rfl,rfl,rfl,rfl,rfl,rfl,rfl⟩ ?_ ?_
 ·rintro i e h' _ hi ⟨q0,qn,ht,e1,e2,e3,e4,e5,e11⟩ K' hn hx' hr hp
  have hv:r.body.l[i]?=some r.body.l[i]:=List.getElem?_eq_getElem hi
  generalize r.body.l[i]=c at hv
  have hcm:=List.mem_of_getElem? hv
  have hcf:=hx.conds c hcm
  have lb:ai none (.ptr 0 2) h'=some (an b6 4 r.body):=by rw [au q0];rfl
  obtain ⟨H,hs1,g1,go,gn1⟩:=cO (h:=h') (zs:=[.int .i64 0,.bool false,.str [],.nils]) (cs:=b6 c) (n:=4) rfl rfl (gN c)
  have la:ai none (.ptr h'.next 3) H=some (an encS 1 c.args):=by rw [au g1];rfl
  have lk:ai none (.ptr h'.next 0) H=some (.int .i64 c.kind):=by rw [au g1];rfl
  have ln:ai none (.ptr h'.next 2) H=some (.str c.name):=by rw [au g1];rfl
  have lg:ai none (.ptr h'.next 1) H=some (.bool c.neg):=by rw [au g1];rfl
  have p0:H.get 0=some (.cells (aM r)):=by rw [go 0 (by omega)];exact q0
  have hplen:(bz r c).length=c.args.l.length:=by unfold bz placesOf;simp
  have hpl:∀ p ∈ bz r c,p<vs.l.length:=by rw [hvs.1];exact jM (lY hcm)
  have hvl:=iW vs.l (bz r c)
  have hin:=kG hvs.2 hpl
  have step:∀ (b:Bool) (e':Env),dD n (fG x.l) c (bw vs.l (bz r c)) = !(b==c.neg)→e' 1=an encS 1 all→e' 2=an encI 1 vs→e' 3=an iH 3 x→e' 4 = .int .i64 (n:Int)→e' 5 = .ptr 0 0→e' 11 = .int .i64 ((i+1:Nat):Int)→b≠c.neg→K' .normal ⟨e',64,[],H⟩=true:=fun b e' hcv e1 e2 e3 e4 e5 e11 hb=>by
   refine hn _ _ ⟨p0,by omega,gJ hv ht ?_,e1,e2,e3,e4,e5,e11⟩
   rw [hcv];simp [hb]
  have stop:∀ (b:Bool),dD n (fG x.l) c (bw vs.l (bz r c)) = !(b==c.neg)→b=c.neg→j4 n (fG x.l) r vs.l=false:=fun b hcv hb=>by
   unfold j4
   exact all_false hv (by rw [hcv];simp [hb])
  rw [F.cI.aN]
  simp only [e1,e2,e5,e11,aV,Nat.reduceAdd,Nat.reduceEqDiff,reduceIte,lb,aY hi,aP r.body hi,dQ gL hv,hs1]
  simp only [aV,Nat.reduceAdd,Nat.reduceEqDiff,reduceIte,la]
  have hval:=fun {K} hk=>ep (all:=all) (xs:=c.args) (at_:=vs) (h:=H) (K:=K) (by rw [hall];exact Au r) (by rw [hall];unfold cz;omega) (by have:=hcf.arity;omega) (by rw [hall];exact lY hcm) (by rw [hall,hvs.1]) hk
  refine ak (hval ?_)
  rw [show placesOf all.l c.args.l=bz r c by rw [hall];rfl]
  simp only [aV,Nat.reduceAdd,Nat.reduceEqDiff,reduceIte,lk,cQ]
  by_cases k0:c.kind=0
  ·obtain ⟨hpow,hbits⟩:=hx.rel c hcm k0
   simp only [decide_eq_true k0,aI,aV,Nat.reduceAdd,Nat.reduceEqDiff,reduceIte,ln,e3,e4]
   refine ak (fK n1 hx.len (t:=some (bw vs.l (bz r c))) (k:=c.args.l.length) (by show (bw vs.l (bz r c)).length=_;rw [hvl,hplen]) hcf.arity hpow hin hbits ?_)
   rw [show Sl.l (some (bw vs.l (bz r c)))=bw vs.l (bz r c) from rfl]
   have hcv:dD n (fG x.l) c (bw vs.l (bz r c)) = !(fG x.l c.name (gy n (bw vs.l (bz r c)))==c.neg):=by unfold dD;rw [if_pos k0];rfl
   simp only [aV,Nat.reduceAdd,Nat.reduceEqDiff,reduceIte,lg]
   cases hb:(fG x.l c.name (gy n (bw vs.l (bz r c)))==c.neg) with
   |true=>
    simp only [aI]
    rw [hr,F.cI.bq]
    simp only [bu,Nat.reduceEqDiff,reduceIte]
    rw [stop _ hcv (by simpa using hb)]
    exact de rfl
   |false=>
    simp only [aG,e11,aE hi hbb,bindO_some]
    exact step _ _ hcv e1 e2 e3 e4 e5 rfl (by simpa using hb)
  ·have h2:(bw vs.l (bz r c)).length=2:=by rw [hvl,hplen];exact hcf.two (hcf.kinds.resolve_left k0)
   have v0:(bw vs.l (bz r c))[0]?=some ((bw vs.l (bz r c)).getD 0 0):=by rw [List.getD_eq_getElem?_getD,List.getElem?_eq_getElem (by omega:0<(bw vs.l (bz r c)).length)];rfl
   have v1:(bw vs.l (bz r c))[1]?=some ((bw vs.l (bz r c)).getD 1 0):=by rw [List.getD_eq_getElem?_getD,List.getElem?_eq_getElem (by omega:1<(bw vs.l (bz r c)).length)];rfl
   have i0:cL 1 (an encI 1 (some (bw vs.l (bz r c)))) (.int .i64 0)=some (.iptr ((bw vs.l (bz r c)).flatMap encI) (0*1)):=aP (enc:=encI) (sz:=1) (k:=.i64) (some (bw vs.l (bz r c))) (i:=0) (by show 0<(bw vs.l (bz r c)).length;omega)
   have i1:cL 1 (an encI 1 (some (bw vs.l (bz r c)))) (.int .i64 1)=some (.iptr ((bw vs.l (bz r c)).flatMap encI) (1*1)):=aP (enc:=encI) (sz:=1) (k:=.i64) (some (bw vs.l (bz r c))) (i:=1) (by show 1<(bw vs.l (bz r c)).length;omega)
   have g0':∀ hh,ai none (.iptr ((bw vs.l (bz r c)).flatMap encI) (0*1)) hh=some (.int .i64 ((bw vs.l (bz r c)).getD 0 0)):=fun hh=>fF (x:=some (bw vs.l (bz r c))) v0
   have g1':∀ hh,ai none (.iptr ((bw vs.l (bz r c)).flatMap encI) (1*1)) hh=some (.int .i64 ((bw vs.l (bz r c)).getD 1 0)):=fun hh=>fF (x:=some (bw vs.l (bz r c))) v1
   simp only [decide_eq_false k0,aG]
   by_cases k1:c.kind=1
   ·have hcv:dD n (fG x.l) c (bw vs.l (bz r c)) = !(decide ((bw vs.l (bz r c)).getD 0 0=(bw vs.l (bz r c)).getD 1 0)==c.neg):=by unfold dD;rw [if_neg k0,if_pos k1];rfl
    simp only [decide_eq_true k1,aI,i0,i1,g0',g1',aV,Nat.reduceAdd,Nat.reduceEqDiff,reduceIte,lg,cQ]
    cases hb:(decide ((bw vs.l (bz r c)).getD 0 0=(bw vs.l (bz r c)).getD 1 0)==c.neg) with
    |true=>
     simp only [aI]
     rw [hr,F.cI.bq]
     simp only [bu,Nat.reduceEqDiff,reduceIte]
     rw [stop _ hcv (by simpa using hb)]
     exact de rfl
    |false=>
     simp only [aG,e11,aE hi hbb,bindO_some]
     exact step _ _ hcv e1 e2 e3 e4 e5 rfl (by simpa using hb)
   ·have hcv:dD n (fG x.l) c (bw vs.l (bz r c)) = !(decide ((bw vs.l (bz r c)).getD 0 0<(bw vs.l (bz r c)).getD 1 0)==c.neg):=by unfold dD;rw [if_neg k0,if_neg k1];rfl
    simp only [decide_eq_false k1,aG,i0,i1,g0',g1',aV,Nat.reduceAdd,Nat.reduceEqDiff,reduceIte,lg]
    cases hb:(decide ((bw vs.l (bz r c)).getD 0 0<(bw vs.l (bz r c)).getD 1 0)==c.neg) with
    |true=>
     simp only [aI]
     rw [hr,F.cI.bq]
     simp only [bu,Nat.reduceEqDiff,reduceIte]
     rw [stop _ hcv (by simpa using hb)]
     exact de rfl
    |false=>
     simp only [aG,e11,aE hi hbb,bindO_some]
     exact step _ _ hcv e1 e2 e3 e4 e5 rfl (by simpa using hb)
 ·rintro e h' ⟨q0,qn,ht,e1,e2,e3,e4,e5,e11⟩ K' hx'
  rw [List.take_of_length_le (Nat.le_refl _)] at ht
  have lb:ai none (.ptr 0 2) h'=some (an b6 4 r.body):=by rw [au q0];rfl
  rw [F.cI.aN]
  simp only [e5,e11,aV,Nat.reduceAdd,Nat.reduceEqDiff,reduceIte,lb,aR]
  rw [hx',F.cI.aD]
  have:j4 n (fG x.l) r vs.l=true:=ht
  rw [this]
  exact de rfl
end
end Go.AM
namespace Go.AM
open Go Go.Proofs
noncomputable section
theorem tA{n:Nat}(n1:1≤n)(m Q:Nat):∀ z,fm n (m+z) (Q*n ^ z)=fm n m Q++List.replicate z 0
 |0=>by simp
 |z+1=>by
  have h1:Q*n ^ (z+1)/n=Q*n ^ z:=by rw [Nat.pow_succ,← Nat.mul_assoc,Nat.mul_div_cancel _ n1]
  have h2:Q*n ^ (z+1)%n=0:=by rw [Nat.pow_succ,← Nat.mul_assoc,Nat.mul_mod_left]
  rw [← Nat.add_assoc,fm,h1,h2,tA n1 m Q z,List.append_assoc,List.replicate_succ']
  rfl
theorem Ik{n:Nat}(n1:1≤n)(k:Nat):fm n k 0=List.replicate k 0:=by
 have:=tA n1 0 0 k
 simpa [fm] using this
end
end Go.AM
namespace Go.AM
open Go Go.Proofs
noncomputable section
end
end Go.AM
namespace Go.AM
open Go Go.Proofs
noncomputable section
theorem eL{V n k i:Nat}(n1:1≤n)(n64:n≤64)(hk:k≤12)(hi:i<n ^ k){h:ag}(hV:h.get V=some (.cells ((fm n k i).map iv))){K:Out→ag→Bool}
  (hyes:i+1<n ^ k→∀ h',h'.get V=some (.cells ((fm n k (i+1)).map iv))→(∀ b,b≠V→h'.get b=h.get b)→h'.next=h.next→K (.ret (.bool true)) h'=true)
  (hno:i+1=n ^ k→∀ h',(∀ b,b≠V→h'.get b=h.get b)→h'.next=h.next→K (.ret (.bool false)) h'=true):Sem Tryz.prog 63 [.slice V 0 k 1,.int .i64 (n:Int)] h K:=by
 have hl:∀ h,bx .slice (.slice V 0 k 1) h=some (.int .i64 (k:Int)):=fun _=>rfl
 have hsub:aA .sub (.int .i64 (k:Int)) (.int .i64 1)=some (.int .i64 ((k:Int)-1)):=og (by omega) (by omega)
 refine F.zK ?_
 simp only [hl,bindO_some,hsub]
 refine iR (fun m e h'=>∃ q z,m+z=k∧h'.get V=some (.cells ((fm n m q++List.replicate z (0:Int)).map iv))∧i+1=(q+1)*n ^ z∧(∀ b,b≠V→h'.get b=h.get b)∧h'.next=h.next∧e 0 = .slice V 0 k 1∧e 1 = .int .i64 (n:Int)∧e 5 = .int .i64 ((m:Int)-1)) k
  ⟨i,0,rfl,by simpa using hV,by simp,fun _ _=>rfl,rfl,rfl,rfl,rfl⟩ ?_
 rintro m e h' ⟨q,z,hmz,hc,hq,hfr,hnx,e0,e1,e5⟩
 rw [F.eL.aN]
 cases m with
 |zero=>
  simp only [e5,mU,bindO_some,condB_bool,decide_eq_false (by omega:¬ (0:Int)≤((0:Nat):Int)-1),aG,loopK_exit]
  rw [F.eL.aD]
  refine hno ?_ h' hfr hnx
  rw [show z=k by omega] at hq
  have:n ^ k≤(q+1)*n ^ k:=Nat.le_mul_of_pos_left _ (by omega)
  omega
 |succ m=>
  have e5':((m+1:Nat):Int)-1=(m:Int):=by omega
  rw [e5'] at e5
  have hmk:m<k:=by omega
  have hcl:(fm n (m+1) q++List.replicate z (0:Int)).length=k:=by rw [List.length_append,gO,List.length_replicate];omega
  have hsp:fm n (m+1) q++List.replicate z (0:Int)=fm n m (q/n)++(((q%n:Nat):Int) :: List.replicate z 0):=by rw [fm,List.append_assoc];rfl
  have hv:(fm n (m+1) q++List.replicate z (0:Int))[m]?=some ((q%n:Nat):Int):=by
   rw [hsp,List.getElem?_append_right (by rw [gO];exact Nat.le_refl _),gO,Nat.sub_self];rfl
  have hset:∀ v:Int,(fm n (m+1) q++List.replicate z (0:Int)).set m v=fm n m (q/n)++(v :: List.replicate z 0):=fun v=>by
   rw [hsp,List.set_append_right _ _ (by rw [gO];exact Nat.le_refl _),gO,Nat.sub_self];rfl
  have hmod:q%n<n:=Nat.mod_lt _ n1
  have hadd:aA .add (.int .i64 ((q%n:Nat):Int)) (.int .i64 1)=some (.int .i64 ((q%n+1:Nat):Int)):=by rw [g8 (by omega) (by omega)];rfl
  have g1:(h'.set V (.cells (((fm n (m+1) q++List.replicate z (0:Int)).set m ((q%n+1:Nat):Int)).map iv))).get V=some (.cells (((fm n (m+1) q++List.replicate z (0:Int)).set m ((q%n+1:Nat):Int)).map iv)):=by rw [ag.aO,if_pos rfl]
  have hv1:((fm n (m+1) q++List.replicate z (0:Int)).set m ((q%n+1:Nat):Int))[m]?=some ((q%n+1:Nat):Int):=by rw [List.getElem?_set,if_pos rfl,if_pos (by omega)]
  simp only [e0,e1,e5,aV,Nat.reduceAdd,Nat.reduceEqDiff,reduceIte,decide_eq_true (by omega:(0:Int)≤(m:Int)),aI,jT hmk,jU hc hv,hadd,mC hc (show m<(fm n (m+1) q++List.replicate z (0:Int)).length by omega),jU g1 hv1]
  by_cases hlt:q%n+1<n
  ·simp only [decide_eq_true (by omega:((q%n+1:Nat):Int)<(n:Int)),aI,loopK_ret]
   rw [F.eL.bq]
   simp only [bu,Nat.reduceEqDiff,reduceIte]
   have hdm:=Nat.div_add_mod q n
   have hq1:(q+1)/n=q/n∧(q+1)%n=q%n+1:=by
    have h3:q+1=q%n+1+n*(q/n):=by omega
    rw [h3]
    exact ⟨by rw [Nat.add_mul_div_left _ _ n1,Nat.div_eq_of_lt hlt,Nat.zero_add],by rw [Nat.add_mul_mod_self_left,Nat.mod_eq_of_lt hlt]⟩
   have htup:fm n k (i+1)=fm n m (q/n)++(((q%n+1:Nat):Int) :: List.replicate z 0):=by
    rw [hq,← hmz,tA n1,fm,hq1.1,hq1.2,List.append_assoc];rfl
   refine hyes ?_ _ (by rw [ag.aO,if_pos rfl,hset,htup]) (fun b hb=>by rw [ag.aO,if_neg hb];exact hfr b hb) (by rw [ag.next_set];exact hnx)
   refine Nat.lt_of_le_of_ne hi fun he=>?_
   rw [hq,← hmz,Nat.pow_add] at he
   have h4:q+1=n ^ (m+1):=Nat.eq_of_mul_eq_mul_right (Nat.pow_pos n1) he
   have h5:(q+1)%n=0:=by rw [h4,Nat.pow_succ,Nat.mul_mod_left]
   omega
  ·have hs1:aA .sub (.int .i64 (m:Int)) (.int .i64 1)=some (.int .i64 ((m:Int)-1)):=og (by omega) (by omega)
   simp only [decide_eq_false (by omega:¬ ((q%n+1:Nat):Int)<(n:Int)),aG,mC g1 (show m<((fm n (m+1) q++List.replicate z (0:Int)).set m ((q%n+1:Nat):Int)).length by rw [List.length_set];omega),hs1,bindO_some,e5]
   have hdm:=Nat.div_add_mod q n
   refine cw.2 ⟨m,by omega,rfl,rfl,q/n,z+1,by omega,?_,?_,fun b hb=>?_,?_,e0,e1,rfl⟩
   ·rw [ag.aO,if_pos rfl,List.set_set,hset];rfl
   ·have h3:q+1=(q/n+1)*n:=by rw [Nat.succ_mul,Nat.mul_comm];omega
    rw [hq,h3,Nat.pow_succ,Nat.mul_assoc,Nat.mul_comm n]
   ·simp only [ag.aO,if_neg hb];exact hfr b hb
   ·simp only [ag.next_set];exact hnx
theorem cc{r:aK}(hf:r.kX){all:Sl bI}(hall:all.l=varsOf r)(hal:all.l.length≤cz){vs t:Sl Int}(hvs:vs.l.length=(varsOf r).length)(htl:t.l.length≤cz){h:ag}{K:Out→ag→Bool}
  (hK:K (.ret (.bool (decide (bw vs.l (placesOf (varsOf r) r.args.l)=t.l)))) h=true):Sem Tryz.prog 64 [.agg (aM r),an encS 1 all,an encI 1 vs,an encI 1 t] h K:=by
 refine Sem.data (r:=.bool (decide (bw vs.l (placesOf (varsOf r) r.args.l)=t.l))) ?_ (by simp [AV.pureL,AV.pure,ef,bE gj,bE gi]) hK
 clear hK
 refine F.xJ ?_
 simp only [cY (iz r),bindO_some,bG]
 have g0:(ag.empty.alloc (.cells (aM r))).get 0=some (.cells (aM r)):=aC _ _
 generalize (ag.empty.alloc (.cells (aM r)))=H0 at g0 ⊢
 have la:ai none (.ptr 0 1) H0=some (an encS 1 r.args):=by rw [au g0];rfl
 have hpl:(bw vs.l (placesOf (varsOf r) r.args.l)).length=r.args.l.length:=by rw [iW];unfold placesOf;simp
 simp only [aV,Nat.reduceAdd,Nat.reduceEqDiff,reduceIte,la,cQ]
 by_cases hlen:¬ r.args.l.length=t.l.length
 ·simp only [decide_eq_false (show ¬ ((r.args.l.length:Nat):Int)=((t.l.length:Nat):Int) by omega),Bool.not_false,aI]
  rw [decide_eq_false (fun he=>hlen (by rw [← hpl,he]))]
  exact de rfl
 replace hlen:=Classical.not_not.1 hlen
 simp only [decide_eq_true (show ((r.args.l.length:Nat):Int)=((t.l.length:Nat):Int) by omega),Bool.not_true,aG]
 have hval:∀ (i:Nat) (s:bI),r.args.l[i]?=some s→(bw vs.l (placesOf (varsOf r) r.args.l))[i]?=some (vs.l.getD ((varsOf r).idxOf s) 0):=fun i s hs=>by
  unfold bw placesOf
  rw [List.map_map,List.getElem?_map,hs];rfl
 refine aB 0 t.l.length (Nat.zero_le _) (fun i e h'=>h'=H0∧(bw vs.l (placesOf (varsOf r) r.args.l)).take i=t.l.take i∧e 1=an encS 1 all∧e 2=an encI 1 vs∧e 3=an encI 1 t∧e 4 = .ptr 0 0∧e 9 = .int .i64 (i:Int)) ⟨rfl,rfl,rfl,rfl,rfl,rfl,rfl⟩ ?_ ?_
 ·rintro i e h' _ hi ⟨rfl,ht,e1,e2,e3,e4,e9⟩ K' hn hx hr hp
  have hv:r.args.l[i]?=some r.args.l[i]:=List.getElem?_eq_getElem (by omega)
  generalize r.args.l[i]=s at hv
  have hu:t.l[i]?=some t.l[i]:=List.getElem?_eq_getElem hi
  generalize t.l[i]=u at hu
  have hsm:s ∈ varsOf r:=lX s (List.mem_of_getElem? hv)
  have hil:=List.idxOf_lt_length_iff.2 hsm
  have hw:vs.l[(varsOf r).idxOf s]?=some (vs.l.getD ((varsOf r).idxOf s) 0):=by rw [List.getD_eq_getElem?_getD,List.getElem?_eq_getElem (by omega)];rfl
  rw [F.cc.aN]
  simp only [e3,e9,aV,Nat.reduceAdd,Nat.reduceEqDiff,reduceIte,aY hi]
  refine aB 0 all.l.length (Nat.zero_le _) (fun k e h''=>h''=h'∧((varsOf r).idxOf s<k→vs.l.getD ((varsOf r).idxOf s) 0=u)∧e 1=an encS 1 all∧e 2=an encI 1 vs∧e 3=an encI 1 t∧e 4 = .ptr 0 0∧e 9 = .int .i64 (i:Int)∧e 10 = .int .i64 (k:Int)) ⟨rfl,fun h=>absurd h (by omega),e1,e2,e3,e4,e9,rfl⟩ ?_ ?_
  ·rintro k e h'' _ hk ⟨rfl,hq,e1,e2,e3,e4,e9,e10⟩ K2 hn2 hx2 hr2 hp2
   have hvk:all.l[k]?=some all.l[k]:=List.getElem?_eq_getElem hk
   generalize all.l[k]=c at hvk
   rw [F.cc.cP]
   simp only [e1,e2,e3,e4,e9,e10,aV,Nat.reduceAdd,Nat.reduceEqDiff,reduceIte,la,aY hk,aP all hk,fW hvk,aP r.args (show i<r.args.l.length by omega),fW hv]
   have hkv:(varsOf r)[k]?=some c:=by rw [← hall];exact hvk
   cases hc:(c==s) with
   |true=>
    obtain rfl:=eq_of_beq hc
    have hki:(varsOf r).idxOf c=k:=by
     obtain ⟨q1,q2⟩:=List.getElem?_eq_some_iff.1 hkv
     rw [← q2];exact (Au r).idxOf_getElem k q1
    rw [hki] at hw
    simp only [aI,e2,e3,e9,aV,Nat.reduceAdd,Nat.reduceEqDiff,reduceIte,aP vs (show k<vs.l.length by rw [hvs,← hall];exact hk),fF hw,aP t hi,fF hu,cQ]
    by_cases he:vs.l.getD k 0=u
    ·simp only [decide_eq_true he,Bool.not_true,aG,e10,aE hk hal,bindO_some]
     exact hn2 _ _ ⟨rfl,fun _=>by rw [hki];exact he,e1,e2,e3,e4,e9,rfl⟩
    ·simp only [decide_eq_false he,Bool.not_false,aI]
     rw [hr2,F.cc.fY,hr,F.cc.bq]
     simp only [bu,Nat.reduceEqDiff,reduceIte]
     rw [decide_eq_false (fun h5=>he ?_)]
     ·exact de rfl
     ·have:=hval i c hv
      rw [h5,hu,hki] at this
      exact (Option.some.inj this).symm
   |false=>
    simp only [aG,e10,aE hk hal,bindO_some]
    refine hn2 _ _ ⟨rfl,fun h6=>?_,e1,e2,e3,e4,e9,rfl⟩
    by_cases h7:(varsOf r).idxOf s<k
    ·exact hq h7
    ·have h8:(varsOf r).idxOf s=k:=by omega
     have h9:(varsOf r)[k]?=some s:=by rw [← h8,List.getElem?_eq_getElem hil,List.getElem_idxOf hil]
     rw [hkv] at h9
     cases h9
     simp at hc
  ·rintro e h'' ⟨rfl,hq,e1,e2,e3,e4,e9,e10⟩ K2 hx2
   rw [F.cc.cP]
   simp only [e1,e10,aV,Nat.reduceAdd,Nat.reduceEqDiff,reduceIte,aR]
   rw [hx2,F.cc.b8]
   simp only [bu,Nat.reduceEqDiff,reduceIte,e9,aE hi htl,bindO_some]
   refine hn _ _ ⟨rfl,?_,e1,e2,e3,e4,rfl⟩
   rw [List.take_add_one,List.take_add_one,ht,hval i s hv,hu,hq (by rw [hall];exact hil)]
 ·rintro e h' ⟨rfl,ht,e1,e2,e3,e4,e9⟩ K' hx
  rw [F.cc.aN]
  simp only [e3,e9,aV,Nat.reduceAdd,Nat.reduceEqDiff,reduceIte,aR]
  rw [hx,F.cc.aD]
  rw [List.take_of_length_le (by omega),List.take_of_length_le (Nat.le_refl _)] at ht
  rw [decide_eq_true ht]
  exact de rfl
theorem Bi{r:aK}(hf:r.kX){all:Sl bI}(hall:all.l=varsOf r)(hal:all.l.length≤cz){vs:List Int}{t:Sl Int}(hvs:vs.length=(varsOf r).length)(htl:t.l.length≤cz){V:Nat}{h:ag}(hV:h.get V=some (.cells (vs.map iv))){K:Out→ag→Bool}
  (hK:K (.ret (.bool (decide (bw vs (placesOf (varsOf r) r.args.l)=t.l)))) h=true):Sem Tryz.prog 64 [.agg (aM r),an encS 1 all,.slice V 0 vs.length 1,an encI 1 t] h K:=
 Sem.Ed rfl (cc hf hall hal (vs:=some vs) hvs htl (h:=ag.empty) (K:=mu (.bool (decide (bw vs (placesOf (varsOf r) r.args.l)=t.l)))) (de rfl))
  (iQ.cons (.cU (by simpa [AV.pure] using ef r)) (iQ.cons (.cU (bE gj _)) (iQ.cons (lN hV) (iQ.cons (.cU (bE gi _)) .nil)))) hK
theorem xS{n:Nat}(n1:1≤n){r:aK}(hf:r.kX)(hk:(varsOf r).length≤12){all:Sl bI}(hall:all.l=varsOf r){vs:List Int}(hvs:Am n r vs){x:Sl BZ}(hx:uO n r x.l){V:Nat}{h:ag}(hV:h.get V=some (.cells (vs.map iv))){K:Out→ag→Bool}
  (hK:K (.ret (.bool (j4 n (fG x.l) r vs))) h=true):Sem Tryz.prog 65 [.agg (aM r),an encS 1 all,.slice V 0 vs.length 1,an iH 3 x,.int .i64 (n:Int)] h K:=
 Sem.Ed rfl (cI n1 hf hk hall (vs:=some vs) hvs hx (h:=ag.empty) (K:=mu (.bool (j4 n (fG x.l) r vs))) (de rfl))
  (iQ.cons (.cU (by simpa [AV.pure] using ef r)) (iQ.cons (.cU (bE gj _)) (iQ.cons (lN hV) (iQ.cons (.cU (bE tu _)) (iQ.cons (.scalar _ rfl) .nil))))) hK
end
end Go.AM
namespace Go.AM
open Go Go.Proofs
noncomputable section
def vW(n:Nat)(F:Lk)(nm:bI)(k i:Nat):List (List Int):=((List.range i).filter (F nm)).map (fm n k)
theorem Il(n:Nat)(F:Lk)(nm:bI)(k i:Nat):vW n F nm k (i+1)=vW n F nm k i++if F nm i=true then [fm n k i] else []:=by
 unfold vW
 rw [List.range_succ,List.filter_append,List.map_append]
 by_cases h:F nm i=true<;>simp [h]
theorem JV(n:Nat)(F:Lk)(nm:bI)(k i:Nat):(vW n F nm k i).length≤i:=by
 unfold vW
 rw [List.length_map]
 have:=List.length_filter_le (F nm) (List.range i)
 simpa using this
def vX(rs:List aK)(n:Nat)(F:Lk)(nms:List bI):List (bI×Int×List (List Int)):=nms.map fun nm=>(nm,(l7 rs nm:Int),vW n F nm (l7 rs nm) (n ^ l7 rs nm))
def Bj(rs:List aK)(s:dJ)(e:Int):Prop:=((¬ jW rs∨cT s=false)∧e=1)∨(jW rs∧cT s=true∧((Ic rs s∧e=4)∨(¬ Ic rs s∧J9 rs s∧e=5)))
structure j5 (rs:List aK) (s:dJ):Prop where
 good:jW rs
 valid:cT s=true
 names:¬ Ic rs s
 sizes:¬ J9 rs s
theorem yq(s:St):eC Tryz.prog s Tryz.f13.results.toList=(match ai (some 2) (s.env 4) s.h,(some [s.env 5]:Option (List AV)) with|some v,some vs=>some (v :: vs)|_,_=>none):=by kernel_rfl
theorem oN{rs:List aK}{m:dN}(hgo:dU rs []=some m){nm:bI}(h:nm ∈ bA rs):m.find nm=some (l7 rs nm:Int)∧∃ r ∈ rs,r.name=nm∧l7 rs nm=r.args.l.length:=by
 obtain ⟨r,hr,hrn⟩:=List.mem_map.1 h
 have:=Db hgo hr
 rw [← hrn]
 refine ⟨?_,r,hr,rfl,this⟩
 rw [this]
 exact (jg hgo _ _).2 (iB hr)
theorem Gd{rs:List aK}{h:ag}{M:Nat}{ks:List bI}{lv:Lev.Lv}(hl:eU (bA rs) h M ks lv)(hks:ks.Nodup):nA ks=ej rs:=by
 obtain ⟨h1,h2⟩:=CT hks
 exact r6 h1 (mX rs) fun x=>by rw [h2,hl.mem,ez]
theorem Im{D:DB}{nm:bI}{p:Nat×List Bool}(hp:D nm=some p){i:Nat}(hi:i<p.2.length):p.2[i]?=some (eG D nm i):=by
 unfold eG;rw [hp]
 simp only
 rw [List.getD_eq_getElem?_getD,List.getElem?_eq_getElem hi];rfl
set_option maxHeartbeats 4000000 in
theorem dh{rules:Sl aK}{s:dJ}(hok:∀ r ∈ rules.l,r.ok)(hfew:∀ r ∈ rules.l,r.kX)(hsok:s.ok)(hsm:cT s=true→s.small){h:ag}{K:Out→ag→Bool}
  (herr:∀ e,Bj rules.l s e→K (.ret (.tuple [.agg (az ⟨0,none⟩),.int .i64 e])) h=true)
  (hyes:j5 rules.l s→∀ out:dJ,out.size=s.size→(∃ Fk,As rules.l s.size.toNat s Fk∧out.rels.l.map cJ=s.rels.l.map cJ++vX rules.l s.size.toNat Fk (ej rules.l))→K (.ret (.tuple [.agg (az out),.int .i64 0])) h=true) :
  Sem Tryz.prog 13 [an aM 3 rules,.agg (az s)] h K:=by
 have hm:cX=140737488355328:=rfl
 have gen:∀ R:Out→ag→Bool,(∀ e h',Bj rules.l s e→R (.ret (.tuple [.agg (az ⟨0,none⟩),.int .i64 e])) h'=true) →
   (j5 rules.l s→∀ h' a (x:Sl Rel) Fk,Fz true h' a (an bt 3 x)→As rules.l s.size.toNat s Fk→x.l.map cJ=s.rels.l.map cJ++vX rules.l s.size.toNat Fk (ej rules.l)→R (.ret (.tuple [.agg [.int .i64 s.size,a],.int .i64 0])) h'=true) →
   Sem Tryz.prog 13 [an aM 3 rules,.agg (az s)] ag.empty R:=by
  intro R rerr ryes
  refine F.AW ?_
  simp only [cY (dw s),bindO_some,bG,ag.next_alloc]
  have g0:((ag.alloc ag.empty (.cells (az s))).alloc (.cells [.int .i64 0,.nils])).get 0=some (.cells (az s)):=by simp [ag.aW,bG]
  have g1:((ag.alloc ag.empty (.cells (az s))).alloc (.cells [.int .i64 0,.nils])).get 1=some (.cells [.int .i64 0,.nils]):=by simp [ag.aW,bG]
  have gn:((ag.alloc ag.empty (.cells (az s))).alloc (.cells [.int .i64 0,.nils])).next=2:=rfl
  generalize ((ag.alloc ag.empty (.cells (az s))).alloc (.cells [.int .i64 0,.nils]))=H0 at g0 g1 gn ⊢
  have l0:ai (some 2) (.ptr 0 0) H0=some (.agg (az s)):=by rw [au g0,dA (cs:=az s) (n:=2) rfl]
  have hz:gQ [.int .i64 0,.nils] [] []=some (.agg [.int .i64 0,.nils]):=rfl
  have bad:∀ (e:Int) (h':ag) (v:AV) (en:Env),e≠0→Bj rules.l s e→(∀ b,b<2→h'.get b=H0.get b)→en 4 = .ptr 1 0→en 5 = .int .i64 e →
    (af (gQ [.int .i64 0,.nils] [] []) fun x10=>af (bg 2 (.ptr 1 0) x10 h') fun h11=>af (match ai (some 2) (en 4) h11,(some [en 5]:Option (List AV)) with|some v,some vs=>some (v :: vs)|_,_=>none) fun vs=>R (.ret (oneOf vs)) h11)=true:=by
   intro e h' v en he hb hf e4 e5
   have q1:h'.get 1=some (.cells [.int .i64 0,.nils]):=by rw [hf 1 (by omega)];exact g1
   have st:bg 2 (.ptr 1 0) (.agg [.int .i64 0,.nils]) h'=some (h'.set 1 (.cells [.int .i64 0,.nils])):=by
    rw [cZ (n:=2) (v:=.agg [.int .i64 0,.nils]) q1 rfl rfl (by simp)];rfl
   have lo2:ai (some 2) (.ptr 1 0) (h'.set 1 (.cells [.int .i64 0,.nils]))=some (.agg [.int .i64 0,.nils]):=by rw [au (cs:=[.int .i64 0,.nils]) (by rw [ag.aO,if_pos rfl])];rfl
   simp only [hz,bindO_some,st,e4,e5,lo2,oneOf]
   exact rerr e _ hb
  simp only [l0,bindO_some]
  refine ak (ay hok hfew hsok (fun hb h' hf=>?_) (fun a1 a2 a3 h' hf=>?_) (fun a1 a2 a3 a4 h' hf=>?_) fun a1 a2 a3 a4 h' n P A M S B lo ks k D0 m hn n1 n64 hst sh sd hf hA2=>?_)
  ·simp only [aV,Nat.reduceAdd,Nat.reduceEqDiff,reduceIte,cQ]
   simp only [show (!decide ((1:Int)=0))=true from rfl,aI,yq]
   exact bad 1 h' .nilp _ (by omega) (.inl ⟨hb,rfl⟩) (by rw [← gn];exact hf) rfl rfl
  ·simp only [aV,Nat.reduceAdd,Nat.reduceEqDiff,reduceIte,cQ]
   simp only [show (!decide ((4:Int)=0))=true from rfl,aI,yq]
   exact bad 4 h' .nilp _ (by omega) (.inr ⟨a1,a2,.inl ⟨a3,rfl⟩⟩) (by rw [← gn];exact hf) rfl rfl
  ·simp only [aV,Nat.reduceAdd,Nat.reduceEqDiff,reduceIte,cQ]
   simp only [show (!decide ((5:Int)=0))=true from rfl,aI,yq]
   exact bad 5 h' .nilp _ (by omega) (.inr ⟨a1,a2,.inr ⟨a3,a4,rfl⟩⟩) (by rw [← gn];exact hf) rfl rfl
  have hnn:s.size.toNat=n:=by omega
  have hsml:=hsm a2
  obtain ⟨_,_,_,_,h8⟩:=nK a2
  specialize ryes ⟨a1,a2,a3,a4⟩
  rw [hnn] at ryes
  clear rerr bad
  simp only [aV,Nat.reduceAdd,Nat.reduceEqDiff,reduceIte,cQ]
  simp only [decide_true,Bool.not_true,aG]
  refine ak (Gb hfew a1 a2 a3 a4 hn n1 n64 hst sh sd (fun _ _ _ _ _ _ _ _ _ hk=>JS hk) fun h3 D' Fk hF hDF hdim sh3 keep3 hn3=>?_)
  obtain ⟨hP,hl,hks,hgo,⟨es,ck,hA,hmB⟩,hS,hD,o1,o2,o3,o4,o5,o6⟩:=sh3
  rw [gn] at hA2
  have p0:h3.get 0=some (.cells (az s)):=by rw [keep3 0 (by omega),hf 0 (by omega)];exact g0
  have p1:h3.get 1=some (.cells [.int .i64 0,.nils]):=by rw [keep3 1 (by omega),hf 1 (by omega)];exact g1
  have l3:ai (some 2) (.ptr 0 0) h3=some (.agg (az s)):=by rw [au p0,dA (cs:=az s) (n:=2) rfl]
  simp only [aV,Nat.reduceAdd,Nat.reduceEqDiff,reduceIte,l3]
  refine ak (cN hsml fun a h4 l x4 o4' hl4=>?_)
  obtain ⟨ho1,ho2⟩:=rG o4'.own
  have one2:bL [.int .i64 s.size,a]=true:=by simp only [bL,Bool.and_true] at ho1 ⊢;rw [ho1];rfl
  obtain ⟨H5,hs5,p5,po5,pn5⟩:=cO (h:=h4) (zs:=[.int .i64 0,.nils]) (cs:=[.int .i64 s.size,a]) (n:=2) rfl rfl one2
  have x5:bT h4 H5:=⟨by omega,fun b hb=>po5 b (by omega)⟩
  have x35:bT h3 H5:=x4.trans x5
  have hn4:=x4.next
  have hP5:H5.get P=some (.cells [an aM 3 rules,.map A,.map M]):=by rw [x35.get _ (by omega)];exact hP
  simp only [aV,Nat.reduceAdd,Nat.reduceEqDiff,reduceIte,hs5,cm,au hP5]
  refine ak (keys_map ?_)
  simp only [aV,Nat.reduceAdd,Nat.reduceEqDiff,reduceIte]
  have gB:(H5.alloc (.box (.map M))).get H5.next=some (.box (.map M)):=aC _ _
  have xB:bT H5 (H5.alloc (.box (.map M))):=bT.alloc _ _
  generalize (H5.alloc (.box (.map M)))=H6 at gB xB ⊢
  have hgok:=g9 hgo
  have l5:eU (bA rules.l) H6 M ks (Lev.iter (bQ rules.l) k):=hl.keep ((x35.trans xB).get M (by omega))
  obtain ⟨es2,ck2,gM,hents,hkb,hel⟩:=l5.QO hks fun s hs=>by
   obtain ⟨r,hr,rfl⟩:=List.mem_map.1 ((l5.mem s).1 hs)
   have:=Eh (sZ (hgok r hr).1)
   omega
  have hk60:=GW hl hks
  have hd60:=nG rules.l
  have hr60:=a1.kX
  refine ak (FI gB gM hents (by omega) fun av h7 x7 oa=>?_)
  rw [hkb,Gd hl hks] at oa
  have hb7:=x7.next
  have hb6:=xB.next
  have x47:bT h4 h7:=(x5.trans xB).trans x7
  have oo:=o4'.QT x47 (Y:=fun b=>b=h4.next) (fun b hb=>by omega)
  have q5:h7.get h4.next=some (.cells [.int .i64 s.size,a]):=by rw [(xB.trans x7).get _ (by omega)];exact p5
  have x37:bT h3 h7:=x4.trans x47
  simp only [aV,Nat.reduceAdd,Nat.reduceEqDiff,reduceIte,oa.len]
  have hdl:(ej rules.l).length≤cz:=by unfold cz;omega
  have hll:l.length≤8:=by have:=congrArg List.length hl4;rw [List.length_map,List.length_map] at this;omega
  refine aB 0 (ej rules.l).length (Nat.zero_le _) (fun i e h'=>∃ a l,h'.get h4.next=some (.cells [.int .i64 s.size,a])∧JN (fun b=>b=h4.next) h3.next h' a l∧(l.map fun p=>cJ p.2)=s.rels.l.map cJ++vX rules.l n Fk ((ej rules.l).take i)∧l.length≤8+i∧(∀ b,b<h3.next→h'.get b=h3.get b)∧Own encS 1 H6.next h' av (ej rules.l)∧(∀ b,dV av=some b→dV a≠some b)∧h7.next≤h'.next ∧
   e 3 = .ptr 0 0∧e 4 = .ptr 1 0∧e 6 = .ptr P 0∧e 7 = .ptr S 0∧e 9 = .ptr h4.next 0∧e 38=av∧e 39 = .int .i64 ((ej rules.l).length:Int)∧e 40 = .int .i64 (i:Int))
   ⟨a,l,q5,oo,by rw [hl4];simp [vX],by omega,fun b hb=>x37.get b hb,oa,fun b hb hb'=>by have:=oa.ge hb;have:=o4'.own.lt hb';have:=x5.next;omega,Nat.le_refl _,rfl,rfl,rfl,rfl,rfl,rfl,rfl,rfl⟩ ?_ ?_
  ·rintro i e h' _ hi ⟨a,l,q5,o,hl5,hlen,hfr,oa',sepA,hnx,e3,e4,e6,e7,e9,e38,e39,e40⟩ K' hnn' hx hr hp
   have hv:(ej rules.l)[i]?=some (ej rules.l)[i]:=List.getElem?_eq_getElem hi
   generalize (ej rules.l)[i]=nm at hv
   have hnm:nm ∈ bA rules.l:=(ez _).1 (List.mem_of_getElem? hv)
   obtain ⟨hfa,r,hrm,hrn,har⟩:=oN hgo hnm
   obtain ⟨hpow,p0',hp0,hp0l⟩:=mK hn a4 sd hrm
   rw [hrn] at hp0
   obtain ⟨p,hpD,_,hpl⟩:=hdim.get hp0
   rw [hp0l,← har] at hpl
   rw [← har] at hpow
   have hk12:l7 rules.l nm≤12:=by rw [har];exact nN (hgok r hrm).1
   obtain ⟨_,hpn,_,hprow⟩:=hD.blk nm p hpD
   obtain ⟨q,_,i1,i2⟩:=qi oa' hv
   have pP:h'.get P=some (.cells [an aM 3 rules,.map A,.map M]):=by rw [hfr _ (by omega)];exact hP
   have pA:h'.get A=some (.map es ck):=by rw [hfr _ (by omega)];exact hA
   have hlk:dB .string (.int .i64 0) false (.map A) (.str nm) h'=some (.int .i64 (l7 rules.l nm:Int)):=by rw [qp pA hmB.1,hfa];rfl
   have hag:gQ [.str [],.int .i64 0,.nils] [(0,1),(1,1)] [.str nm,.int .i64 (l7 rules.l nm:Int)]=some (.agg [.str nm,.int .i64 (l7 rules.l nm:Int),.nils]):=rfl
   obtain ⟨H8,hs8,p8,po8,pn8⟩:=cO (h:=h') (zs:=[.str [],.int .i64 0,.nils]) (cs:=[.str nm,.int .i64 (l7 rules.l nm:Int),.nils]) (n:=3) rfl rfl rfl
   have x8:bT h' H8:=⟨by omega,fun b hb=>po8 b (by omega)⟩
   have pS:H8.get S=some (.cells [.int .i64 (n:Int),.map B]):=by rw [x8.get _ (by omega),hfr _ (by omega)];exact hS
   have hD8:ei D' H8 B lo:=hD.ext ⟨by omega,fun b hb=>by rw [x8.get _ (by omega),hfr b hb]⟩
   rw [F.dh.aN]
   simp only [e6,e7,e38,e39,e40,aV,Nat.reduceAdd,Nat.reduceEqDiff,reduceIte,aY hi,i1,i2,cm,au pP,hlk,hag,hs8]
   simp only [aV,Nat.reduceAdd,Nat.reduceEqDiff,reduceIte,cm,au pS,hD8.look hpD]
   have hrowlen:∀ hh,bx .slice (.slice p.1 0 p.2.length 1) hh=some (.int .i64 (p.2.length:Int)):=fun _=>rfl
   simp only [hrowlen,bindO_some]
   have hbp:p.2.length≤cz:=by rw [hpl];unfold cz;omega
   refine aB 0 p.2.length (Nat.zero_le _) (fun j e h2=>∃ tv ts,h2.get h'.next=some (.cells [.str nm,.int .i64 (l7 rules.l nm:Int),tv])∧Own er 1 (h'.next+1) h2 tv ts∧ts.map Sl.l=vW n Fk nm (l7 rules.l nm) j∧bT h' h2∧h'.next+1≤h2.next ∧
    e 3 = .ptr 0 0∧e 4 = .ptr 1 0∧e 6 = .ptr P 0∧e 7 = .ptr S 0∧e 9 = .ptr h4.next 0∧e 38=av∧e 39 = .int .i64 ((ej rules.l).length:Int)∧e 40 = .int .i64 (i:Int)∧e 12 = .ptr h'.next 0∧e 57 = .slice p.1 0 p.2.length 1∧e 58 = .int .i64 (p.2.length:Int)∧e 59 = .int .i64 (j:Int))
    ⟨_,[],p8,.nil,rfl,x8,by omega,e3,e4,e6,e7,e9,e38,e39,e40,rfl,rfl,rfl,rfl⟩ ?_ ?_
   ·rintro j e h2 _ hj ⟨tv,ts,q6,ot,hts,x2,qn2,e3,e4,e6,e7,e9,e38,e39,e40,e12,e57,e58,e59⟩ K2 hnn2 hx2 hr2 hp2
    have htsl:ts.length≤j:=by have:=congrArg List.length hts;rw [List.length_map] at this;have:=JV n Fk nm (l7 rules.l nm) j;omega
    have hrow2:h2.get p.1=some (.cells (p.2.map bv)):=by rw [x2.get _ (by omega),hfr _ hpn];exact hprow
    have hbit:=Im hpD hj
    rw [hDF] at hbit
    have hsuc:=Il n Fk nm (l7 rules.l nm) j
    rw [F.dh.cP]
    simp only [e57,e58,e59,aV,Nat.reduceAdd,Nat.reduceEqDiff,reduceIte,aY hj,jT hj,CY hrow2 hbit]
    cases hFb:Fk nm j with
    |false=>
     rw [hFb,if_neg (by simp),List.append_nil] at hsuc
     simp only [aG,e59,aE hj hbp,bindO_some]
     exact hnn2 _ _ ⟨tv,ts,q6,ot,by rw [hsuc];exact hts,x2,qn2,e3,e4,e6,e7,e9,e38,e39,e40,e12,e57,e58,rfl⟩
    |true=>
     rw [hFb,if_pos rfl] at hsuc
     have w0:h2.get 0=some (.cells (az s)):=by rw [x2.get _ (by omega),hfr 0 (by omega)];exact p0
     have lz:ai none (.ptr 0 0) h2=some (.int .i64 (n:Int)):=by rw [au w0,← hn];rfl
     have la:ai none (.ptr h'.next 1) h2=some (.int .i64 (l7 rules.l nm:Int)):=by rw [au q6];rfl
     have lt:ai none (.ptr h'.next 2) h2=some tv:=by rw [au q6];rfl
     simp only [aI,e3,e12,e59,aV,Nat.reduceAdd,Nat.reduceEqDiff,reduceIte,lz,la]
     refine ak (fc n1 n64 hk12 hpow (by rw [← hpl];exact hj) fun t ht=>?_)
     obtain ⟨a9,h9,c9,o9,f9,n9,w9,b9⟩:=ot.push qu uK qn2 (bytes:=24) (by rw [hm];omega) t
     have hne:dV tv≠some h'.next:=fun hb=>by have:=ot.ge hb;omega
     have s6:h9.get h'.next=some (.cells [.str nm,.int .i64 (l7 rules.l nm:Int),tv]):=by rw [f9 _ (by omega) hne];exact q6
     have c6:=o9.nj
     have st:bg 1 (.ptr h'.next 2) a9 h9=some (h9.set h'.next (.cells [.str nm,.int .i64 (l7 rules.l nm:Int),a9])):=by
      rw [cZ (n:=1) s6 c6.2.1 c6.1 (by simp),c6.2.2];rfl
     simp only [aV,Nat.reduceAdd,Nat.reduceEqDiff,reduceIte,e12,lt,GX,c9,st,e59,aE hj hbp]
     refine hnn2 _ _ ⟨a9,ts++[t],by rw [ag.aO,if_pos rfl],o9.lp (by omega) _,?_,(w9 h' x2 (by omega)).set (Nat.le_refl _) _,by rw [ag.next_set];omega,e3,e4,e6,e7,e9,e38,e39,e40,e12,e57,e58,rfl⟩
     rw [List.map_append,hts,hsuc]
     simp [ht]
   ·rintro e h2 ⟨tv,ts,q6,ot,hts,x2,qn2,e3,e4,e6,e7,e9,e38,e39,e40,e12,e57,e58,e59⟩ K2 hx2
    have oe:=o.ext x2
    obtain ⟨hv1,hv2⟩:=rG ot
    have lq:ai (some 3) (.ptr h'.next 0) h2=some (.agg (mJ (nm,(l7 rules.l nm:Int),⟨tv,hv1,hv2⟩))):=by rw [au q6];rfl
    have q52:h2.get h4.next=some (.cells [.int .i64 s.size,a]):=by rw [x2.get _ (by omega)];exact q5
    have lo:ai none (.ptr h4.next 1) h2=some a:=by rw [au q52];rfl
    obtain ⟨x,hx1,hx3⟩:=(jz.JP ot kD).data
    have hxl:x.l=ts:=by rw [hx1,List.map_map];simp [Function.comp_def]
    obtain ⟨a9,h9,c9,o9,f9,n9,w9,b9⟩:=oe.push vU vV (by omega) (bytes:=48) (by rw [hm];omega) (nm,(l7 rules.l nm:Int),⟨tv,hv1,hv2⟩) ⟨nm,(l7 rules.l nm:Int),x⟩ (fun b hb=>by omega)
     (fun g hg=>JO (hx3 g fun b b1 b2 _=>hg b (by omega) b2 (by omega) (fun hb=>by have:=o.own.lt hb;omega)))
    have hne:dV a≠some h4.next:=fun hb=>oe.av _ hb rfl
    have s5:h9.get h4.next=some (.cells [.int .i64 s.size,a]):=by rw [f9 _ (by omega) hne];exact q52
    have c6:=o9.own.nj
    have st:bg 1 (.ptr h4.next 1) a9 h9=some (h9.set h4.next (.cells [.int .i64 s.size,a9])):=by
     rw [cZ (n:=1) s5 c6.2.1 c6.1 (by simp),c6.2.2];rfl
    rw [F.dh.cP]
    simp only [e58,e59,aV,Nat.reduceAdd,Nat.reduceEqDiff,reduceIte,aR]
    rw [hx2,F.dh.b8]
    simp only [aV,Nat.reduceAdd,Nat.reduceEqDiff,reduceIte,e9,e12,e40,lo,lq,JM,c9,st,aE hi hdl]
    refine hnn' _ _ ⟨a9,_,by rw [ag.aO,if_pos rfl],o9.QS rfl _,?_,by simp;omega,fun b hb=>?_,?_,fun b hb hb'=>by have:=oa'.lt hb;have:=b9 b hb';omega,by rw [ag.next_set];omega,e3,e4,e6,e7,e9,e38,e39,rfl⟩
    ·rw [List.map_append,hl5,List.take_add_one,hv]
     unfold vX
     rw [List.map_append,← List.append_assoc]
     simp only [Option.toList_some,List.map_cons,List.map_nil,cJ,hxl,hts,hpl]
    ·rw [ag.aO,if_neg (by omega),f9 b (by omega) (fun hb'=>by have:=oe.own.ge hb';omega),x2.get b (by omega)]
     exact hfr b hb
    ·have hane:∀ b,dV av=some b→(h9.set h4.next (.cells [.int .i64 s.size,a9])).get b=h'.get b:=fun b hb=>by
      have b1:=oa'.ge hb
      have b2:=oa'.lt hb
      rw [ag.aO,if_neg (by omega),f9 b (by omega) ?_,x2.get b b2]
      intro hb'
      exact sepA b hb hb'
     exact oa'.agree hane (by rw [ag.next_set];omega)
  ·rintro e h' ⟨a,l,q5,o,hl5,hlen,hfr,oa',sepA,hnx,e3,e4,e6,e7,e9,e38,e39,e40⟩ K' hx
   rw [List.take_of_length_le (Nat.le_refl _)] at hl5
   obtain ⟨ho1,ho2⟩:=rG o.own
   have one3:bL [.int .i64 s.size,a]=true:=by simp only [bL,Bool.and_true] at ho1 ⊢;rw [ho1];rfl
   have q1:h'.get 1=some (.cells [.int .i64 0,.nils]):=by rw [hfr 1 (by omega)];exact p1
   have lo:ai (some 2) (.ptr h4.next 0) h'=some (.agg [.int .i64 s.size,a]):=by rw [au q5];rfl
   have st:bg 2 (.ptr 1 0) (.agg [.int .i64 s.size,a]) h'=some (h'.set 1 (.cells [.int .i64 s.size,a])):=by
    rw [cZ (n:=2) (v:=.agg [.int .i64 s.size,a]) q1 rfl one3 (by simp)];rfl
   have lo2:ai (some 2) (.ptr 1 0) (h'.set 1 (.cells [.int .i64 s.size,a]))=some (.agg [.int .i64 s.size,a]):=by rw [au (cs:=[.int .i64 s.size,a]) (by rw [ag.aO,if_pos rfl])];rfl
   rw [F.dh.aN]
   simp only [e39,e40,aV,Nat.reduceAdd,Nat.reduceEqDiff,reduceIte,aR]
   rw [hx,F.dh.aD]
   simp only [bu,Nat.reduceEqDiff,reduceIte,e4,e9,lo,st,bindO_some,yq,lo2,oneOf]
   obtain ⟨x,hx1,hx2⟩:=(o.low (d:=1) (by omega) (.cells [.int .i64 s.size,a])).fz
   exact ryes _ a x Fk hx2 hF (by rw [hx1,List.map_map];exact hl5)
 have main:=gen (fun o h'=>yes ((∃ e,Bj rules.l s e∧o = .ret (.tuple [.agg (az ⟨0,none⟩),.int .i64 e]))∨(j5 rules.l s∧∃ (a:AV) (x:Sl Rel) (Fk:Lk),o = .ret (.tuple [.agg [.int .i64 s.size,a],.int .i64 0])∧Fz true h' a (an bt 3 x)∧As rules.l s.size.toNat s Fk∧x.l.map cJ=s.rels.l.map cJ++vX rules.l s.size.toNat Fk (ej rules.l))))
  (fun e h' he=>cw.2 (.inl ⟨e,he,rfl⟩)) (fun hr h' a x Fk hf hF hx=>cw.2 (.inr ⟨hr,a,x,Fk,rfl,hf,hF,hx⟩))
 refine main.frozen (by simp [AV.pureL,AV.pure,bE ef,eT]) fun o h' ho=>?_
 rcases cw.1 ho with ⟨e,he,rfl⟩|⟨hr,a,x,Fk,rfl,hf,hF,hx⟩
 ·exact ⟨_,_,rfl,.cU (by rfl),herr e he⟩
 ·have f1:=iQ.cons (.scalar (.int .i64 s.size) rfl) (iQ.cons hf iQ.nil)
  have f2:=iQ.cons (Fz.agg _ _ f1.len f1.rel) (iQ.cons (.scalar (.int .i64 0) rfl) iQ.nil)
  exact ⟨_,_,rfl,.tuple _ _ f2.len f2.rel,hyes hr ⟨s.size,x⟩ rfl ⟨Fk,hF,hx⟩⟩
end
end Go.AM
namespace Go.AM
open Go Go.Proofs
noncomputable section
theorem Bk{x:Sl bI}{s:bI}(hl:x.l.length≤cz){h:ag}{K:Out→ag→Bool}(hK:K (.ret (.bool (x.l.any fun x=>x==s))) h=true):Sem Tryz.prog 73 [an encS 1 x,.str s] h K:=by
 refine F.oS ?_
 refine aB 0 x.l.length (Nat.zero_le _) (fun i e h'=>h'=h∧e 0=an encS 1 x∧e 1 = .str s∧e 5 = .int .i64 (i:Int)∧((x.l.take i).any fun x=>x==s)=false) ⟨rfl,rfl,rfl,rfl,rfl⟩ ?_ ?_
 ·rintro i e h' _ hi ⟨rfl,e0,e1,e5,ht⟩ K' hn hx hr hp
  have hv:x.l[i]?=some x.l[i]:=List.getElem?_eq_getElem hi
  generalize x.l[i]=t at hv
  rw [F.cR.aN]
  simp only [e0,e1,e5,aV,Nat.reduceAdd,Nat.reduceEqDiff,reduceIte,aY hi,aP x hi,fW hv]
  cases hq:(t==s) with
  |true=>
   simp only [aI]
   rw [hr,F.cR.bq]
   have:(x.l.any fun x=>x==s)=true:=List.any_eq_true.2 ⟨t,List.mem_of_getElem? hv,hq⟩
   rw [this] at hK
   simp only [bu,Nat.reduceEqDiff,reduceIte]
   exact hK
  |false=>
   simp only [aG,e5,aE hi hl,bindO_some]
   exact hn _ _ ⟨rfl,e0,e1,rfl,qj hv ht hq⟩
 ·rintro e h' ⟨rfl,e0,e1,e5,ht⟩ K' hx
  rw [List.take_of_length_le (Nat.le_refl _)] at ht
  rw [F.cR.aN]
  simp only [e0,e5,aV,Nat.reduceAdd,Nat.reduceEqDiff,reduceIte,aR]
  rw [hx,F.cR.aD]
  rw [ht] at hK
  exact hK
theorem JW(y:bI×Int):bL (lf y)=true:=rfl
def Ka(l:List (bI×Int))(x:bI):Int:=match l.find? (fun p=>p.1==x) with|some p=>p.2|none=>-1
theorem vY{rs:List aK}(h60:rs.length≤60)(h20:∀ r ∈ rs,r.body.l.length≤20):(cC rs).length≤1260:=by
 have:∀ rs:List aK,(∀ r ∈ rs,r.body.l.length≤20)→(cC rs).length≤rs.length*21:=by
  intro rs
  induction rs with
  |nil=>intro _;simp [cC]
  |cons r rs ih=>
   intro h
   have h1:=ih fun q hq=>h q (List.mem_cons_of_mem _ hq)
   have h2:=h r List.mem_cons_self
   have h3:=ni r.body.l
   unfold cC at h1 ⊢
   rw [List.flatMap_cons,List.length_append,List.length_cons]
   have:(tg r).length=1+(dY r.body.l).length:=by unfold tg;rw [List.length_cons];omega
   omega
 have:=this rs h20
 omega
theorem dH{rules:Sl aK}(h60:rules.l.length≤60)(h20:∀ r ∈ rules.l,r.body.l.length≤20){s:bI}{h:ag}{K:Out→ag→Bool}(hK:K (.ret (.int .i64 (Ka (cC rules.l) s))) h=true):Sem Tryz.prog 74 [an aM 3 rules,.str s] h K:=by
 have hal:=vY h60 h20
 refine F.xL ?_
 refine ak (cy h60 h20 fun x hx1=>?_)
 simp only [aV,Nat.reduceAdd,Nat.reduceEqDiff,reduceIte]
 have hxb:x.l.length≤cz:=by rw [hx1];unfold cz;omega
 rw [← hx1] at hK
 refine aB 0 x.l.length (Nat.zero_le _) (fun i e h'=>h'=h∧e 1 = .str s∧e 5=an lf 2 x∧e 6 = .int .i64 (i:Int)∧∀ p ∈ x.l.take i,p.1≠s) ⟨rfl,rfl,rfl,rfl,fun p hp=>(by cases hp)⟩ ?_ ?_
 ·rintro i e h' _ hi ⟨rfl,e1,e5,e6,hno⟩ K' hn hx hr hp
  have hv:x.l[i]?=some x.l[i]:=List.getElem?_eq_getElem hi
  generalize x.l[i]=p at hv
  rw [F.dH.aN]
  simp only [e1,e5,e6,aV,Nat.reduceAdd,Nat.reduceEqDiff,reduceIte,aY hi,aP x hi,EL hv,F7 hv,mW]
  by_cases hq:p.1=s
  ·simp only [decide_eq_true hq,aI]
   rw [hr,F.dH.bq]
   simp only [bu,Nat.reduceEqDiff,reduceIte]
   have:x.l.find? (fun p=>p.1==s)=some p:=by
    rw [List.find?_eq_some_iff_getElem]
    refine ⟨by simp [hq],i,hi,(List.getElem?_eq_some_iff.1 hv).2,fun j hj=>?_⟩
    have:=hno _ (List.mem_take_iff_getElem.2 ⟨j,by omega,rfl⟩)
    simp [this]
   unfold Ka at hK
   rw [this] at hK
   exact hK
  ·simp only [decide_eq_false hq,aG,e6,aE hi hxb,bindO_some]
   refine hn _ _ ⟨rfl,e1,e5,rfl,fun q hq'=>?_⟩
   rw [List.take_add_one,hv] at hq'
   rcases List.mem_append.1 hq' with hq'|hq'
   ·exact hno q hq'
   ·simp only [Option.toList_some,List.mem_singleton] at hq'
    subst hq';exact hq
 ·rintro e h' ⟨rfl,e1,e5,e6,hno⟩ K' hx
  rw [List.take_of_length_le (Nat.le_refl _)] at hno
  rw [F.dH.aN]
  simp only [e5,e6,aV,Nat.reduceAdd,Nat.reduceEqDiff,reduceIte,aR]
  rw [hx,F.dH.aD]
  have:x.l.find? (fun p=>p.1==s)=none:=by
   rw [List.find?_eq_none]
   intro q hq;simp [hno q hq]
  unfold Ka at hK
  rw [this] at hK
  exact hK
theorem Dc{rs:List aK}{m:dN}(hgo:dU rs []=some m){x:bI}{k:Int}(h:(x,k) ∈ cC rs):Ka (cC rs) x=k:=by
 unfold Ka
 cases hf:(cC rs).find? (fun p=>p.1==x) with
 |none=>
  rw [List.find?_eq_none] at hf
  exact absurd (hf _ h) (by simp)
 |some p=>
  have h1:=List.mem_of_find?_eq_some hf
  have h2:=List.find?_some hf
  rw [beq_iff_eq] at h2
  simp only
  exact iY hgo (x:=x) (by rw [← h2];exact h1) h
theorem JX{rs:List aK}{m:dN}(hgo:dU rs []=some m){x:bI}(h:x ∈ bA rs):Ka (cC rs) x=(l7 rs x:Int):=by
 obtain ⟨r,hr,hrn⟩:=List.mem_map.1 h
 rw [← hrn,Dc hgo (iB hr),Db hgo hr]
def mM(ds:List bI)(ys:List (bI×Int)):List bI:=ys.foldl (fun o y=>if y.1 ∈ ds then o else eE o y.1) []
theorem EM{ds:List bI}{ys:List (bI×Int)}{i:Nat}{y:bI×Int}(hy:ys[i]?=some y):mM ds (ys.take (i+1))=if y.1 ∈ ds then mM ds (ys.take i) else eE (mM ds (ys.take i)) y.1:=by
 unfold mM;rw [List.take_add_one,hy];simp
theorem Aw{ds:List bI}{x:bI}:∀ {ys:List (bI×Int)},x ∈ mM ds ys↔∃ y ∈ ys,y.1=x∧x ∉ ds:=by
 have key:∀ (ys:List (bI×Int)) (o:List bI),x ∈ ys.foldl (fun o y=>if y.1 ∈ ds then o else eE o y.1) o↔(x ∈ o∨∃ y ∈ ys,y.1=x∧x ∉ ds):=by
  intro ys
  induction ys with
  |nil=>intro o;simp
  |cons y ys ih=>
   intro o
   rw [List.foldl_cons,ih]
   by_cases hd:y.1 ∈ ds
   ·rw [if_pos hd]
    constructor
    ·rintro (h|⟨z,hz,h1,h2⟩)
     ·exact .inl h
     ·exact .inr ⟨z,List.mem_cons_of_mem _ hz,h1,h2⟩
    ·rintro (h|⟨z,hz,h1,h2⟩)
     ·exact .inl h
     ·rcases List.mem_cons.1 hz with rfl|hz
      ·exact absurd (h1▸hd) h2
      ·exact .inr ⟨z,hz,h1,h2⟩
   ·rw [if_neg hd,oF]
    constructor
    ·rintro ((h|h)|⟨z,hz,h1,h2⟩)
     ·exact .inl h
     ·exact .inr ⟨y,List.mem_cons_self,h.symm,by rw [h];exact hd⟩
     ·exact .inr ⟨z,List.mem_cons_of_mem _ hz,h1,h2⟩
    ·rintro (h|⟨z,hz,h1,h2⟩)
     ·exact .inl (.inl h)
     ·rcases List.mem_cons.1 hz with rfl|hz
      ·exact .inl (.inr h1.symm)
      ·exact .inr ⟨z,hz,h1,h2⟩
 intro ys
 unfold mM
 rw [key];simp
theorem tB(ds:List bI):∀ (ys:List (bI×Int)),(mM ds ys).length≤ys.length:=by
 have key:∀ (ys:List (bI×Int)) (o:List bI),(ys.foldl (fun o y=>if y.1 ∈ ds then o else eE o y.1) o).length≤o.length+ys.length:=by
  intro ys
  induction ys with
  |nil=>intro o;simp
  |cons y ys ih=>
   intro o
   rw [List.foldl_cons]
   have h1:=ih (if y.1 ∈ ds then o else eE o y.1)
   have h2:(if y.1 ∈ ds then o else eE o y.1).length≤o.length+1:=by
    split
    ·omega
    ·exact tj o y.1
   rw [List.length_cons];omega
 intro ys
 have:=key ys []
 simpa [mM] using this
def Ca(rs:List aK):List (bI×Int):=(mM (ej rs) (cC rs)).map fun s=>(s,Ka (cC rs) s)
theorem Ml{l:List bI}{s:bI}:(l.any fun x=>x==s)=decide (s ∈ l):=by
 rw [Bool.eq_iff_iff,List.any_eq_true,decide_eq_true_iff]
 constructor
 ·rintro ⟨x,hx,e⟩;rw [beq_iff_eq] at e;rw [← e];exact hx
 ·intro h;exact ⟨s,h,by simp⟩
set_option maxHeartbeats 1000000 in
theorem cg{rules:Sl aK}(h60:rules.l.length≤60)(h20:∀ r ∈ rules.l,r.body.l.length≤20){h:ag}{K:Out→ag→Bool}(hK:∀ x:Sl (bI×Int),x.l=Ca rules.l→K (.ret (an lf 2 x)) h=true):Sem Tryz.prog 53 [an aM 3 rules] h K:=by
 have hm:cX=140737488355328:=rfl
 have hal:=vY h60 h20
 have hdl:=nG rules.l
 have main:Sem Tryz.prog 53 [an aM 3 rules] ag.empty (fun o h'=>yes (∃ v,∃ x:Sl (bI×Int),o = .ret v∧x.l=Ca rules.l∧Fz true h' v (an lf 2 x))):=by
  refine F.uv ?_
  refine ak (cS h60 fun d hd1=>?_)
  simp only [aV,Nat.reduceAdd,Nat.reduceEqDiff,reduceIte]
  refine ak (cy h60 h20 fun x hx1=>?_)
  simp only [aV,Nat.reduceAdd,Nat.reduceEqDiff,reduceIte]
  have hxl:x.l.length≤1260:=by rw [hx1];exact hal
  have hxb:x.l.length≤cz:=by unfold cz;omega
  have hdb:d.l.length≤cz:=by rw [hd1];unfold cz;omega
  refine aB 0 x.l.length (Nat.zero_le _) (fun i e h'=>∃ a,Own encS 1 0 h' a (mM (ej rules.l) (x.l.take i))∧e 0=an aM 3 rules∧e 3=an encS 1 d∧e 4=a∧e 5=an lf 2 x∧e 6 = .int .i64 (i:Int)) ⟨.nils,.nil,rfl,rfl,rfl,rfl,rfl⟩ ?_ ?_
  ·rintro i e h' _ hi ⟨a,o,e0,e3,e4,e5,e6⟩ K' hn hx hr hp
   have hv:x.l[i]?=some x.l[i]:=List.getElem?_eq_getElem hi
   generalize x.l[i]=y at hv
   have hst:=EM (ds:=ej rules.l) hv
   rw [F.cg.aN]
   simp only [e3,e5,e6,aV,Nat.reduceAdd,Nat.reduceEqDiff,reduceIte,aY hi,aP x hi,EL hv]
   refine ak (Bk hdb ?_)
   rw [Ml,hd1]
   simp only [aV,Nat.reduceAdd,Nat.reduceEqDiff,reduceIte]
   by_cases hdm:y.1 ∈ ej rules.l
   ·rw [if_pos hdm] at hst
    simp only [decide_eq_true hdm,Bool.not_true,aG,e6,aE hi hxb,bindO_some]
    exact hn _ _ ⟨a,by rw [hst];exact o,e0,e3,e4,e5,rfl⟩
   ·rw [if_neg hdm] at hst
    simp only [decide_eq_false hdm,Bool.not_false,aI,e4,e5,e6,aV,Nat.reduceAdd,Nat.reduceEqDiff,reduceIte,aP x hi,EL hv]
    refine ak (dI o (Nat.zero_le _) (by have h1:=tB (ej rules.l) (x.l.take i);have h2:=List.length_take_le i x.l;omega) fun a1 h1 x1 o1=>?_)
    simp only [aV,Nat.reduceAdd,Nat.reduceEqDiff,reduceIte,e6,aE hi hxb]
    exact hn _ _ ⟨a1,by rw [hst];exact o1,e0,e3,rfl,e5,rfl⟩
  ·rintro e h' ⟨a,o,e0,e3,e4,e5,e6⟩ K' hx
   rw [List.take_of_length_le (Nat.le_refl _),hx1] at o
   have hol:=tB (ej rules.l) (cC rules.l)
   have hos:∃ os,os=mM (ej rules.l) (cC rules.l):=⟨_,rfl⟩
   obtain ⟨os,hos⟩:=hos
   rw [← hos] at o hol
   have hob:os.length≤cz:=by unfold cz;omega
   rw [F.cg.aN]
   simp only [e5,e6,aV,Nat.reduceAdd,Nat.reduceEqDiff,reduceIte,aR]
   rw [hx,F.cg.aD]
   refine aB 0 os.length (Nat.zero_le _) (fun i e h2=>∃ b,(∀ c,dV a=some c→h2.get c=h'.get c)∧h'.next≤h2.next∧Own lf 2 h'.next h2 b ((os.take i).map fun s=>(s,Ka (cC rules.l) s))∧e 0=an aM 3 rules∧e 4=a∧e 7=b∧e 8 = .int .i64 (i:Int))
    ⟨.nils,fun _ _=>rfl,Nat.le_refl _,.nil,e0,e4,rfl,rfl⟩ ?_ ?_
   ·rintro i e h2 _ hi ⟨b,hfr,hnx,ob,e0,e4,e7,e8⟩ K2 hn2 hx2 hr2 hp2
    have hv:os[i]?=some os[i]:=List.getElem?_eq_getElem hi
    generalize os[i]=s at hv
    have o2:=o.agree hfr hnx
    obtain ⟨q,_,i1,i2⟩:=qi o2 hv
    obtain ⟨a5,h5,p5,o5,f5,n5,x5,b5⟩:=ob.push mE JW hnx (bytes:=24) (by rw [hm,List.length_map,List.length_take];omega) (s,Ka (cC rules.l) s)
    rw [F.cg.cP]
    simp only [e0,e4,e7,e8,o2.len,aV,Nat.reduceAdd,Nat.reduceEqDiff,reduceIte,aY hi,i1,i2]
    refine ak (dH h60 h20 ?_)
    simp only [aV,Nat.reduceAdd,Nat.reduceEqDiff,reduceIte,i2,AV.beq_refl,Bool.and_self,if_true,Jh,Ji,p5,e8,aE hi hob]
    refine hn2 _ _ ⟨a5,fun c hc=>by rw [f5 c (by have:=o.lt hc;omega) (fun hb=>by have:=ob.ge hb;have:=o.lt hc;omega)];exact hfr c hc,by omega,?_,e0,e4,rfl,rfl⟩
    rw [List.take_add_one,hv,List.map_append];exact o5
   ·rintro e h2 ⟨b,hfr,hnx,ob,e0,e4,e7,e8⟩ K2 hx2
    rw [List.take_of_length_le (Nat.le_refl _)] at ob
    have o2:=o.agree hfr hnx
    rw [F.cg.cP]
    simp only [e4,e8,o2.len,aV,Nat.reduceAdd,Nat.reduceEqDiff,reduceIte,aR]
    rw [hx2,F.cg.b8]
    simp only [bu,Nat.reduceEqDiff,reduceIte,e7]
    obtain ⟨y,hy1,hy2⟩:=ob.Bb (fun v y hy=>by
     simp only [lf,List.mem_cons,List.not_mem_nil,or_false] at hy
     rcases hy with rfl|rfl<;>exact .scalar _ rfl)
    exact cw.2 ⟨b,y,rfl,by rw [hy1,hos];rfl,hy2⟩
 refine main.frozen (by simp [AV.pureL,bE ef]) fun o h' ho=>?_
 obtain ⟨v,x,rfl,hx,hf⟩:=cw.1 ho
 exact ⟨v,_,rfl,hf,hK x hx⟩
theorem EN{rs:List aK}{m:dN}{s:dJ}(hgo:dU rs []=some m)(hsv:cT s=true):(Ca rs).all (xR s)=true↔¬ ∃ p ∈ cC rs,p.1 ∉ bA rs∧s.rels.l.find? (kI p.1 p.2)=none:=by
 rw [List.all_eq_true]
 constructor
 ·rintro h ⟨p,hp,hd,hf⟩
  have hin:(p.1,Ka (cC rs) p.1) ∈ Ca rs:=List.mem_map.2 ⟨p.1,Aw.2 ⟨p,hp,rfl,fun hd'=>hd ((ez rs).1 hd')⟩,rfl⟩
  have h1:=h _ hin
  rw [Dc hgo (show (p.1,p.2) ∈ cC rs from hp),ED hsv,hf] at h1
  cases h1
 ·intro h y hy
  obtain ⟨x,hx,rfl⟩:=List.mem_map.1 hy
  obtain ⟨p,hp,rfl,hd⟩:=Aw.1 hx
  rw [Dc hgo (show (p.1,p.2) ∈ cC rs from hp),ED hsv]
  cases hf:s.rels.l.find? (kI p.1 p.2) with
  |some _=>rfl
  |none=>exact absurd ⟨p,hp,fun hd'=>hd ((ez rs).2 hd'),hf⟩ h
end
end Go.AM
namespace Go.AM
open Go Go.Proofs
noncomputable section
theorem qL:∀ {a b c:List Int},eV a b=true→eV b c=true→eV a c=true
 |x :: a,y :: b,z :: c,h1,h2=>by
  rw [eV] at h1 h2 ⊢
  by_cases e1:x=y
  ·rw [if_pos e1] at h1
   subst e1
   by_cases e2:x=z
   ·rw [if_pos e2] at h2 ⊢;exact qL h1 h2
   ·rw [if_neg e2] at h2 ⊢;exact h2
  ·rw [if_neg e1] at h1
   have q1:=of_decide_eq_true h1
   by_cases e2:y=z
   ·subst e2;rw [if_neg e1];exact h1
   ·rw [if_neg e2] at h2
    have q2:=of_decide_eq_true h2
    rw [if_neg (by omega)];exact decide_eq_true (by omega)
 |[],_,_,h1,_=>by simp [eV] at h1
 |_ :: _,[],_,h1,_=>by simp [eV] at h1
 |_ :: _,_ :: _,[],_,h2=>by simp [eV] at h2
def lF(l:List (List Int)):Prop:=l.Pairwise fun a b=>eV a b=true
def Mm(n k:Nat)(l:List (List Int)):Prop:=(∀ t ∈ l,t.length=k∧gI n t=true)∧lF l
theorem Ax:∀ {l:List (List Int)},(∀ i a b,l[i]?=some a→l[i+1]?=some b→eV a b=true)→lF l
 |[],_=>.nil
 |x :: l,h=>by
  have ih:lF l:=Ax fun i a b ha hb=>h (i+1) a b (by simpa using ha) (by simpa using hb)
  refine List.pairwise_cons.2 ⟨fun y hy=>?_,ih⟩
  cases l with
  |nil=>cases hy
  |cons z l=>
   have hz:=h 0 x z rfl rfl
   rcases List.mem_cons.1 hy with rfl|hy
   ·exact hz
   ·exact qL hz ((List.pairwise_cons.1 ih).1 y hy)
theorem Ay{l:List (List Int)}(hs:lF l){i:Nat}{a b:List Int}(ha:l[i]?=some a)(hb:l[i+1]?=some b):eV a b=true:=by
 obtain ⟨h1,rfl⟩:=List.getElem?_eq_some_iff.1 ha
 obtain ⟨h2,rfl⟩:=List.getElem?_eq_some_iff.1 hb
 exact List.pairwise_iff_getElem.1 hs i (i+1) h1 h2 (Nat.lt_succ_self i)
theorem EO{n k:Nat}{l:List (Sl Int)}:tc n k l=true↔Mm n k (l.map Sl.l):=by
 constructor
 ·intro h
  refine ⟨fun t ht=>?_,Ax fun i a b ha hb=>?_⟩
  ·obtain ⟨u,hu,rfl⟩:=List.mem_map.1 ht
   obtain ⟨i,hi⟩:=List.getElem?_of_mem hu
   exact JK h hi
  ·rw [List.getElem?_map] at ha hb
   obtain ⟨p,hp,rfl⟩:=Option.map_eq_some_iff.1 ha
   obtain ⟨t,ht,rfl⟩:=Option.map_eq_some_iff.1 hb
   have:=qD h (List.getElem?_eq_some_iff.1 ht).1
   unfold jL at this
   rw [ht] at this
   simp only [hp,Bool.and_eq_true] at this
   exact this.2.2
 ·rintro ⟨h1,h2⟩
  refine lZ fun i hi=>?_
  have ht:l[i]?=some l[i]:=List.getElem?_eq_getElem hi
  generalize l[i]=t at ht
  obtain ⟨q1,q2⟩:=h1 t.l (List.mem_map_of_mem (List.mem_of_getElem? ht))
  unfold jL
  rw [ht]
  simp only [q1,q2,decide_true,Bool.true_and]
  cases i with
  |zero=>rfl
  |succ j=>
   have hj:j<l.length:=by omega
   have hp:l[j]?=some l[j]:=List.getElem?_eq_getElem hj
   generalize l[j]=p at hp
   simp only [hp]
   exact Ay h2 (i:=j) (by rw [List.getElem?_map,hp];rfl) (by rw [List.getElem?_map,ht];rfl)
theorem Mn{n k:Nat}{l:List (List Int)}(h:Mm n k l):l.length≤n ^ k:=by
 have key:∀ i a,l[i]?=some a→i≤gy n a:=by
  intro i
  induction i with
  |zero=>intro a _;exact Nat.zero_le _
  |succ i ih=>
   intro b hb
   have hi:i<l.length:=by have:=(List.getElem?_eq_some_iff.1 hb).1;omega
   have ha:l[i]?=some l[i]:=List.getElem?_eq_getElem hi
   generalize l[i]=a at ha
   have:=ih a ha
   obtain ⟨a1,a2⟩:=h.1 a (List.mem_of_getElem? ha)
   obtain ⟨b1,b2⟩:=h.1 b (List.mem_of_getElem? hb)
   have:=B1 (by omega) a2 b2 (Ay h.2 ha hb)
   omega
 cases hl:l.length with
 |zero=>exact Nat.zero_le _
 |succ m=>
  have hm:l[m]?=some (l[m]'(by omega)):=List.getElem?_eq_getElem _
  have h1:=key m _ hm
  obtain ⟨a1,a2⟩:=h.1 _ (List.mem_of_getElem? hm)
  have h2:=kE a2
  rw [a1] at h2
  omega
def Qx(n:Nat)(d:FL):Prop:=dZ d.1=true∧∃ k:Nat,d.2.1=(k:Int)∧k≤12∧n ^ k≤4096∧Mm n k d.2.2
theorem EP{n:Nat}{r:Rel}:lB n r=true↔Qx n (cJ r):=by
 constructor
 ·intro h
  obtain ⟨k,h1,h2,h3,h4⟩:=uE h
  simp only [lB,Bool.and_eq_true] at h
  exact ⟨h.1,k,h1,h2,h3,EO.1 h4⟩
 ·rintro ⟨h0,k,h1,h2,h3,h4⟩
  have h1':r.arity=(k:Int):=h1
  have hk:r.arity.toNat=k:=by omega
  simp only [lB,Bool.and_eq_true,decide_eq_true_eq,hk]
  exact ⟨h0,by omega,by omega,h3,EO.2 h4⟩
structure ER (size:Int) (ds:List FL):Prop where
 lo:1≤size
 hi:size≤64
 kX:ds.length≤8
 rel:∀ d ∈ ds,Qx size.toNat d
 names:(ds.map (·.1)).Nodup
theorem fX{s:dJ}:cT s=true↔ER s.size (s.rels.l.map cJ):=by
 constructor
 ·intro h
  have h':=h
  simp only [cT,Bool.and_eq_true,decide_eq_true_eq] at h'
  refine ⟨h'.1,h'.2.1,by simpa using h'.2.2.1,fun d hd=>?_,?_⟩
  ·obtain ⟨r,hr,rfl⟩:=List.mem_map.1 hd
   obtain ⟨i,hi⟩:=List.getElem?_of_mem hr
   exact EP.1 (qF h hi)
  ·have:=jG h
   rw [List.map_map];exact this
 ·rintro ⟨h1,h2,h3,h4,h5⟩
  rw [List.length_map] at h3
  simp only [cT,Bool.and_eq_true,decide_eq_true_eq]
  refine ⟨h1,h2,h3,lZ fun i hi=>?_⟩
  have hr:s.rels.l[i]?=some s.rels.l[i]:=List.getElem?_eq_getElem hi
  have hr':=hr
  generalize s.rels.l[i]=r at hr
  rw [mG,hr]
  simp only [Bool.and_eq_true,Bool.not_eq_true']
  refine ⟨EP.2 (h4 _ (List.mem_map_of_mem (List.mem_of_getElem? hr))),?_⟩
  rw [Bool.eq_false_iff]
  intro hany
  obtain ⟨q,hq,hqn⟩:=List.any_eq_true.1 hany
  obtain ⟨j,hj⟩:=List.getElem?_of_mem hq
  have hji:j<i:=by have:=(List.getElem?_eq_some_iff.1 hj).1;rw [List.length_take] at this;omega
  rw [List.getElem?_take_of_lt hji] at hj
  rw [List.map_map,List.Nodup,List.pairwise_iff_getElem] at h5
  have hjl:j<s.rels.l.length:=by omega
  have:=h5 j i (by simpa using hjl) (by simpa using hi) hji
  rw [List.getElem_map,List.getElem_map] at this
  rw [List.getElem?_eq_getElem hjl] at hj
  rw [List.getElem?_eq_getElem hi] at hr
  cases hj;cases hr
  simp only [beq_iff_eq] at hqn
  exact this hqn
theorem kJ{s:dJ}(h:cT s=true):s.small∧s.ok:=by
 have hp:=fX.1 h
 have len:∀ r ∈ s.rels.l,r.tuples.l.length≤4096∧(∀ t ∈ r.tuples.l,t.l.length≤12)∧r.name.length≤12:=fun r hr=>by
  obtain ⟨h0,k,h1,h2,h3,h4⟩:=hp.rel _ (List.mem_map_of_mem hr)
  have:=Mn h4
  simp only [cJ,List.length_map] at this
  refine ⟨by omega,fun t ht=>?_,?_⟩
  ·have:=(h4.1 t.l (List.mem_map_of_mem ht)).1;omega
  ·replace h0:dZ r.name=true:=h0
   unfold dZ at h0
   split at h0
   ·cases h0
   ·simp only [Bool.and_eq_true,decide_eq_true_eq] at h0;exact h0.1
 have hl:s.rels.l.length≤8:=by have:=hp.kX;simpa using this
 exact ⟨⟨by omega,fun r hr=>by have:=(len r hr).1;omega,fun r hr t ht=>by have:=(len r hr).2.1 t ht;omega⟩,
  ⟨by unfold cz;omega,fun r hr=>⟨by have:=(len r hr).2.2;unfold cz;omega,by have:=(len r hr).1;unfold cz;omega,fun t ht=>by have:=(len r hr).2.1 t ht;unfold cz;omega⟩⟩⟩
end
end Go.AM
namespace Go.AM
open Go Go.Proofs
noncomputable section
def j6(rs:List aK)(nms:List bI):List Rel:=nms.map fun nm=>⟨nm,(l7 rs nm:Int),none⟩
def gh(rs:List aK)(nms:List bI):List FL:=nms.map fun nm=>(nm,(l7 rs nm:Int),[])
theorem kK(rs:List aK)(nms:List bI):(j6 rs nms).map cJ=gh rs nms:=by unfold j6 gh;rw [List.map_map];rfl
theorem Io(s:St):eC Tryz.prog s Tryz.f55.results.toList=(match ai (some 2) (s.env 4) s.h,(some []:Option (List AV)) with|some v,some vs=>some (v :: vs)|_,_=>none):=by kernel_rfl
theorem Mo(nm:bI)(k:Int):gQ [.str [],.int .i64 0,.nils] [(0,1),(1,1)] [.str nm,.int .i64 k]=some (.agg (bt ⟨nm,k,none⟩)):=rfl
set_option maxHeartbeats 1000000 in
theorem eM{rules:Sl aK}{s:dJ}{m:dN}(h60:rules.l.length≤60)(h20:∀ r ∈ rules.l,r.body.l.length≤20)(hgo:dU rules.l []=some m)(hsm:s.small){h:ag}{K:Out→ag→Bool}
  (hK:∀ a h' rs1,bT h h'→Own bt 3 h.next h' a (rs1++j6 rules.l (ej rules.l))→rs1.map cJ=s.rels.l.map cJ→K (.ret (.agg [.int .i64 s.size,a])) h'=true):Sem Tryz.prog 55 [an aM 3 rules,.agg (az s)] h K:=by
 have hm:cX=140737488355328:=rfl
 have hdl:=nG rules.l
 refine F.xM ?_
 simp only [cY (dw s),bindO_some,ag.next_alloc]
 have g0:(ag.alloc (ag.alloc h (.cells (az s))) (.cells [.int .i64 0,.nils])).get h.next=some (.cells (az s)):=by rw [ag.aW,ag.next_alloc,if_neg (by omega)];exact aC _ _
 have g1:(ag.alloc (ag.alloc h (.cells (az s))) (.cells [.int .i64 0,.nils])).get (h.next+1)=some (.cells [.int .i64 0,.nils]):=aC _ _
 have gn:(ag.alloc (ag.alloc h (.cells (az s))) (.cells [.int .i64 0,.nils])).next=h.next+2:=rfl
 have gx:bT h (ag.alloc (ag.alloc h (.cells (az s))) (.cells [.int .i64 0,.nils])):=(bT.alloc _ _).trans (bT.alloc _ _)
 generalize (ag.alloc (ag.alloc h (.cells (az s))) (.cells [.int .i64 0,.nils]))=H1 at g0 g1 gn gx ⊢
 have l0:ai (some 2) (.ptr h.next 0) H1=some (.agg (az s)):=by rw [au g0,dA (cs:=az s) (n:=2) rfl]
 simp only [l0,bindO_some]
 refine ak (eW hsm fun a h3 rs x3 o3 hrs=>?_)
 obtain ⟨ho1,ho2⟩:=rG o3
 have one2:bL [.int .i64 s.size,a]=true:=by simp only [bL,Bool.and_true] at ho1 ⊢;rw [ho1];rfl
 obtain ⟨H4,hs4,p4,po4,pn4⟩:=cO (h:=h3) (zs:=[.int .i64 0,.nils]) (cs:=[.int .i64 s.size,a]) (n:=2) rfl rfl one2
 have x4:bT h3 H4:=⟨by omega,fun b hb=>po4 b (by omega)⟩
 have n3:=x3.next
 rw [gn] at o3 n3
 have x34:=(gx.trans x3).trans x4
 simp only [aV,Nat.reduceAdd,Nat.reduceEqDiff,reduceIte,hs4]
 refine ak (cS h60 fun d hd1=>?_)
 have hdl2:d.l.length≤60:=by rw [hd1];omega
 have hdb:d.l.length≤cz:=by unfold cz;omega
 have hrl:=hsm.rels
 have hrsl:rs.length=s.rels.l.length:=by have:=congrArg List.length hrs;simpa using this
 simp only [aV,Nat.reduceAdd,Nat.reduceEqDiff,reduceIte]
 refine aB 0 d.l.length (Nat.zero_le _) (fun i e h'=>∃ a,h'.get h3.next=some (.cells [.int .i64 s.size,a])∧h'.get (h.next+1)=some (.cells [.int .i64 0,.nils])∧Own bt 3 (h.next+2) h' a (rs++j6 rules.l (d.l.take i))∧dV a≠some h3.next∧(∀ b,b<h.next→h'.get b=h.get b)∧h3.next<h'.next ∧
  e 0=an aM 3 rules∧e 4 = .ptr (h.next+1) 0∧e 5 = .ptr h3.next 0∧e 6=an encS 1 d∧e 7 = .int .i64 (i:Int))
  ⟨a,p4,by rw [x4.get _ (by omega),x3.get _ (by omega)];exact g1,by simpa [j6] using o3.ext x4,fun hb=>by have:=o3.lt hb;omega,fun b hb=>x34.get b hb,by omega,rfl,rfl,rfl,rfl,rfl⟩ ?_ ?_
 ·rintro i e h' _ hi ⟨a,q3,q1,o,hne,hfr,hnx,e0,e4,e5,e6,e7⟩ K' hn hx hr hp
  have hv:d.l[i]?=some d.l[i]:=List.getElem?_eq_getElem hi
  generalize d.l[i]=nm at hv
  have hnm:nm ∈ bA rules.l:=(ez _).1 (by rw [← hd1];exact List.mem_of_getElem? hv)
  have lo:ai none (.ptr h3.next 1) h'=some a:=by rw [au q3];rfl
  have li:∀ hh,ai none (.iptr (d.l.flatMap encS) (i*1)) hh=some (.str nm):=fun hh=>fW hv
  obtain ⟨a5,h5,p5,o5,f5,n5,x5,b5⟩:=o.push fA gz (by omega) (bytes:=48) (by rw [hm,List.length_append];unfold j6;rw [List.length_map,List.length_take];omega) ⟨nm,(l7 rules.l nm:Int),none⟩
  have s3:h5.get h3.next=some (.cells [.int .i64 s.size,a]):=by rw [f5 _ (by omega) hne];exact q3
  have c5:=o5.nj
  have st:bg 1 (.ptr h3.next 1) a5 h5=some (h5.set h3.next (.cells [.int .i64 s.size,a5])):=by
   rw [cZ (n:=1) s3 c5.2.1 c5.1 (by simp),c5.2.2];rfl
  rw [F.eM.aN]
  simp only [e0,e5,e6,e7,aV,Nat.reduceAdd,Nat.reduceEqDiff,reduceIte,aY hi,lo,aP d hi,li]
  refine ak (dH h60 h20 ?_)
  rw [JX hgo hnm]
  simp only [aV,Nat.reduceAdd,Nat.reduceEqDiff,reduceIte,li,lo,AV.beq_refl,Bool.and_self,Bool.and_true,if_true,Mo,GU,p5,e5,e7,st,aE hi hdb]
  refine hn _ _ ⟨a5,by rw [ag.aO,if_pos rfl],by rw [ag.aO,if_neg (by omega),f5 _ (by omega) (fun hb=>by have:=o.ge hb;omega)];exact q1,?_,fun hb=>by have:=b5 _ hb;omega,fun b hb=>?_,by rw [ag.next_set];omega,e0,e4,e5,e6,rfl⟩
  ·have hl:rs++j6 rules.l (d.l.take (i+1))=(rs++j6 rules.l (d.l.take i))++[⟨nm,(l7 rules.l nm:Int),none⟩]:=by
    rw [List.take_add_one,hv]
    unfold j6
    rw [List.map_append,← List.append_assoc]
    rfl
   rw [hl]
   exact o5.agree (fun b hb=>by rw [ag.aO,if_neg (by have:=b5 _ hb;omega)]) (by rw [ag.next_set];exact Nat.le_refl _)
  ·rw [ag.aO,if_neg (by omega),f5 b (by omega) (fun hb'=>by have:=o.ge hb';omega)]
   exact hfr b hb
 ·rintro e h' ⟨a,q3,q1,o,hne,hfr,hnx,e0,e4,e5,e6,e7⟩ K' hx
  rw [List.take_of_length_le (Nat.le_refl _),hd1] at o
  obtain ⟨ho1,ho2⟩:=rG o
  have one3:bL [.int .i64 s.size,a]=true:=by simp only [bL,Bool.and_true] at ho1 ⊢;rw [ho1];rfl
  have lo:ai (some 2) (.ptr h3.next 0) h'=some (.agg [.int .i64 s.size,a]):=by rw [au q3];rfl
  have st:bg 2 (.ptr (h.next+1) 0) (.agg [.int .i64 s.size,a]) h'=some (h'.set (h.next+1) (.cells [.int .i64 s.size,a])):=by
   rw [cZ (n:=2) (v:=.agg [.int .i64 s.size,a]) q1 rfl one3 (by simp)];rfl
  have lo2:ai (some 2) (.ptr (h.next+1) 0) (h'.set (h.next+1) (.cells [.int .i64 s.size,a]))=some (.agg [.int .i64 s.size,a]):=by rw [au (cs:=[.int .i64 s.size,a]) (by rw [ag.aO,if_pos rfl])];rfl
  rw [F.eM.aN]
  simp only [e6,e7,aV,Nat.reduceAdd,Nat.reduceEqDiff,reduceIte,aR]
  rw [hx,F.eM.aD]
  simp only [bu,Nat.reduceEqDiff,reduceIte,e4,e5,lo,st,bindO_some,Io,lo2,oneOf]
  exact hK a _ rs ⟨by rw [ag.next_set];omega,fun b hb=>by rw [ag.aO,if_neg (by omega)];exact hfr b hb⟩ ((o.lp (by omega) _).weak (by omega)) hrs
theorem Bl{n:Int}{k:Nat}{a:AV}{rs:List Rel}{h:ag}(o:Own bt 3 k h a rs)(hok:(⟨n,some rs⟩:dJ).ok){K:Out→ag→Bool}(hK:K (.ret (.bool (cT ⟨n,some rs⟩))) h=true):Sem Tryz.prog 17 [.agg [.int .i64 n,a]] h K:=by
 obtain ⟨x,hx1,hx2⟩:=o.Bb (fun v y hy=>by
  simp only [bt,List.mem_cons,List.not_mem_nil,or_false] at hy
  rcases hy with rfl|rfl|rfl
  ·exact .scalar _ rfl
  ·exact .scalar _ rfl
  ·exact .cU (bE kD _))
 have hok2:(⟨n,x⟩:dJ).ok:=by
  obtain ⟨q1,q2⟩:=hok
  exact ⟨by show x.l.length≤cz;rw [hx1];exact q1,fun r hr=>q2 r (by have:r ∈ x.l:=hr;rw [hx1] at this;exact this)⟩
 have he:cT ⟨n,x⟩=cT ⟨n,some rs⟩:=by
  rw [Bool.eq_iff_iff,fX,fX]
  show ER n (x.l.map cJ)↔ER n (rs.map cJ)
  rw [hx1]
 have hs:=bZ (s:=⟨n,x⟩) hok2 (h:=ag.empty) (K:=mu (.bool (cT ⟨n,x⟩))) (de rfl)
 rw [← he] at hK
 have fl:=iQ.cons (.scalar (.int .i64 n) rfl) (iQ.cons hx2 iQ.nil)
 exact Sem.Ed rfl hs (iQ.cons (.agg _ _ fl.len fl.rel) .nil) hK
theorem wW{rs:List aK}{s:dJ}{m:dN}{rs':List Rel}(hg:jW rs)(hgo:dU rs []=some m)(hsv:cT s=true)(h4:¬ ∃ r ∈ s.rels.l,r.name ∈ bA rs)(hrs:rs'.map cJ=s.rels.l.map cJ++gh rs (ej rs)) :
  cT ⟨s.size,some rs'⟩=true↔¬ (8<s.rels.l.length+(ej rs).length∨∃ r ∈ rs,4096<s.size.toNat ^ r.args.l.length):=by
 have hsp:=fX.1 hsv
 have hlen:rs'.length=s.rels.l.length+(ej rs).length:=by have:=congrArg List.length hrs;simpa [gh] using this
 rw [fX]
 show ER s.size (rs'.map cJ)↔_
 rw [hrs]
 constructor
 ·rintro ⟨q1,q2,q3,q4,q5⟩ (hb|⟨r,hr,hb⟩)
  ·rw [List.length_append,List.length_map] at q3
   unfold gh at q3
   rw [List.length_map] at q3;omega
  ·have hm:(r.name,(l7 rs r.name:Int),([]:List (List Int))) ∈ s.rels.l.map cJ++gh rs (ej rs):=List.mem_append_right _ (List.mem_map.2 ⟨r.name,(ez rs).2 (List.mem_map_of_mem hr),rfl⟩)
   obtain ⟨_,k,h1,h2,h3,_⟩:=q4 _ hm
   rw [Db hgo hr] at h1
   have:k=r.args.l.length:=by simp only at h1;omega
   rw [this] at h3;omega
 ·intro hno
  have hd8:s.rels.l.length+(ej rs).length≤8:=Nat.le_of_not_lt fun h=>hno (.inl h)
  refine ⟨hsp.lo,hsp.hi,by rw [List.length_append,List.length_map];unfold gh;rw [List.length_map];exact hd8,fun d hd=>?_,?_⟩
  ·rcases List.mem_append.1 hd with hd|hd
   ·exact hsp.rel d hd
   ·obtain ⟨nm,hnm,rfl⟩:=List.mem_map.1 hd
    obtain ⟨_,r,hr,hrn,har⟩:=oN hgo ((ez rs).1 hnm)
    have hat:=(g9 hgo r hr).1
    refine ⟨by rw [← hrn];exact sZ hat,l7 rs nm,rfl,by rw [har];exact nN hat,?_,fun t ht=>(by cases ht),List.Pairwise.nil⟩
    rw [har]
    exact Nat.le_of_not_lt fun h=>hno (.inr ⟨r,hr,h⟩)
  ·rw [List.map_append]
   have e2:(gh rs (ej rs)).map (·.1)=ej rs:=by unfold gh;rw [List.map_map];simp [Function.comp_def]
   rw [e2]
   refine List.nodup_append.2 ⟨hsp.names,wQ (mX rs),fun x hx y hy e=>?_⟩
   subst e
   rw [List.map_map] at hx
   obtain ⟨r,hr,hrn⟩:=List.mem_map.1 hx
   exact h4 ⟨r,hr,by have:=(ez rs).1 hy;rw [← hrn] at this;exact this⟩
set_option maxHeartbeats 2000000 in
theorem bC{rules:Sl aK}{s:dJ}(hok:∀ r ∈ rules.l,r.ok)(hfew:∀ r ∈ rules.l,r.kX)(hsok:s.ok){h:ag}{K:Out→ag→Bool}
  (herr:∀ e,Bj rules.l s e→K (.ret (.int .i64 e)) h=true) (hyes:j5 rules.l s→K (.ret (.int .i64 0)) h=true):Sem Tryz.prog 14 [an aM 3 rules,.agg (az s)] h K:=by
 have gen:∀ R:Out→ag→Bool,(∀ e h',(Bj rules.l s e∨(e=0∧j5 rules.l s))→R (.ret (.int .i64 e)) h'=true)→Sem Tryz.prog 14 [an aM 3 rules,.agg (az s)] ag.empty R:=by
  intro R fin
  refine F.xK ?_
  simp only [cY (dw s),bindO_some,bG]
  have g0:(ag.empty.alloc (.cells (az s))).get 0=some (.cells (az s)):=aC _ _
  have gn:(ag.empty.alloc (.cells (az s))).next=1:=rfl
  generalize (ag.empty.alloc (.cells (az s)))=H at g0 gn ⊢
  have l0:ai (some 2) (.ptr 0 0) H=some (.agg (az s)):=by rw [au g0,dA (cs:=az s) (n:=2) rfl]
  refine ak (bB hok hfew fun b hb=>?_)
  simp only [aV,Nat.reduceAdd,Nat.reduceEqDiff,reduceIte]
  cases b with
  |false=>
   simp only [Bool.not_false,aI]
   exact fin 1 _ (.inl (.inl ⟨.inl fun hg=>(by have:=hb.2 hg;cases this),rfl⟩))
  |true=>
  have hg:=hb.1 rfl
  simp only [Bool.not_true,aG,l0,bindO_some]
  refine ak (bZ hsok ?_)
  simp only [aV,Nat.reduceAdd,Nat.reduceEqDiff,reduceIte]
  cases hsv:cT s with
  |false=>
   simp only [Bool.not_false,aI]
   exact fin 1 _ (.inl (.inl ⟨.inr hsv,rfl⟩))
  |true=>
  obtain ⟨n,hn,n1,n64,h8⟩:=nK hsv
  have hnn:s.size.toNat=n:=by omega
  obtain ⟨m,hgo⟩:=hg.go
  have hgok:=g9 hgo
  have h20:∀ r ∈ rules.l,r.body.l.length≤20:=fun r hr=>(hgok r hr).2.1
  have h60:=hg.kX
  have hdl:=nG rules.l
  simp only [Bool.not_true,aG]
  refine ak (cS h60 fun d hd1=>?_)
  simp only [aV,Nat.reduceAdd,Nat.reduceEqDiff,reduceIte,l0]
  refine ak (cg h60 h20 fun sy hsy=>?_)
  have hsl:sy.l.length≤1260:=by
   rw [hsy];unfold Ca;rw [List.length_map]
   have h1:=tB (ej rules.l) (cC rules.l)
   have h2:=vY h60 h20
   omega
  simp only [aV,Nat.reduceAdd,Nat.reduceEqDiff,reduceIte,l0,AV.beq_refl,Bool.and_self,if_true]
  refine ak (ec hsok (by unfold cz;omega) ?_)
  rw [hsy]
  simp only [aV,Nat.reduceAdd,Nat.reduceEqDiff,reduceIte]
  have e4:Ic rules.l s→Bj rules.l s 4:=fun h=>.inr ⟨hg,hsv,.inl ⟨h,rfl⟩⟩
  cases hfit:(Ca rules.l).all (xR s) with
  |false=>
   simp only [Bool.not_false,aI]
   refine fin 4 _ (.inl (e4 (.inl ?_)))
   exact Decidable.not_not.1 fun h=>by rw [(EN hgo hsv).2 h] at hfit;cases hfit
  |true=>
  have hnoA:=(EN hgo hsv).1 hfit
  have hdb:d.l.length≤cz:=by rw [hd1];unfold cz;omega
  have hrb:rules.l.length≤cz:=by unfold cz;omega
  simp only [Bool.not_true,aG]
  refine aB 0 d.l.length (Nat.zero_le _) (fun i e h'=>h'.get 0=some (.cells (az s))∧1≤h'.next∧(∀ nm ∈ d.l.take i,∀ r ∈ s.rels.l,r.name≠nm)∧e 0=an aM 3 rules∧e 3 = .ptr 0 0∧e 5=an encS 1 d∧e 6 = .int .i64 (i:Int)) ⟨g0,by omega,fun nm hnm=>(by cases hnm),rfl,rfl,rfl,rfl⟩ ?_ ?_
  ·rintro i e h' _ hi ⟨q0,qn,hno,e0,e3,e5,e6⟩ K' hn' hx hr hp
   have hv:d.l[i]?=some d.l[i]:=List.getElem?_eq_getElem hi
   generalize d.l[i]=nm at hv
   have l0':ai (some 2) (.ptr 0 0) h'=some (.agg (az s)):=by rw [au q0,dA (cs:=az s) (n:=2) rfl]
   rw [F.bC.aN]
   simp only [e3,e5,e6,aV,Nat.reduceAdd,Nat.reduceEqDiff,reduceIte,aY hi,l0',aP d hi,fW hv]
   refine ak (dS hsok ?_)
   simp only [aV,Nat.reduceAdd,Nat.reduceEqDiff,reduceIte]
   rcases mY (dX nm) s.rels.l with ⟨f1,f2⟩|⟨j,r,f1,f2,f3⟩
   ·rw [f1]
    simp only [show decide ((0:Int)≤-1)=false from rfl,aG,e6,aE hi hdb,bindO_some]
    refine hn' _ _ ⟨q0,qn,fun x hx' r hr' e=>?_,e0,e3,e5,rfl⟩
    rw [List.take_add_one,hv] at hx'
    rcases List.mem_append.1 hx' with hx'|hx'
    ·exact hno x hx' r hr' e
    ·simp only [Option.toList_some,List.mem_singleton] at hx'
     rw [List.find?_eq_none] at f2
     exact f2 r hr' (by simp [dX,e,hx'])
   ·rw [f1]
    simp only [decide_eq_true (by omega:(0:Int)≤(j:Int)),aI]
    rw [hr,F.bC.bq]
    simp only [bu,Nat.reduceEqDiff,reduceIte]
    have hrn:=List.find?_some f3
    simp only [dX,beq_iff_eq] at hrn
    exact fin 4 _ (.inl (e4 (.inr ⟨r,List.mem_of_getElem? f2,(ez _).1 (by rw [hrn,← hd1];exact List.mem_of_getElem? hv)⟩)))
  ·rintro e h' ⟨q0,qn,hno,e0,e3,e5,e6⟩ K' hx
   rw [List.take_of_length_le (Nat.le_refl _)] at hno
   have hnoB:¬ ∃ r ∈ s.rels.l,r.name ∈ bA rules.l:=fun ⟨r,hr,hh⟩=>hno r.name (by rw [hd1];exact (ez _).2 hh) r hr rfl
   have h4:¬ Ic rules.l s:=fun h=>h.elim hnoA hnoB
   have e5':J9 rules.l s→Bj rules.l s 5:=fun h=>.inr ⟨hg,hsv,.inr ⟨h4,h,rfl⟩⟩
   rw [F.bC.aN]
   simp only [e5,e6,aV,Nat.reduceAdd,Nat.reduceEqDiff,reduceIte,aR]
   rw [hx,F.bC.aD]
   refine aB 0 rules.l.length (Nat.zero_le _) (fun i e h2=>h2.get 0=some (.cells (az s))∧1≤h2.next∧(∀ r ∈ rules.l.take i,n ^ (varsOf r).length≤65536)∧e 0=an aM 3 rules∧e 3 = .ptr 0 0∧e 7 = .int .i64 (i:Int)) ⟨q0,qn,fun r hr=>(by cases hr),e0,e3,rfl⟩ ?_ ?_
   ·rintro i e h2 _ hi ⟨q0,qn,hsz,e0,e3,e7⟩ K2 hn2 hx2 hr2 hp2
    have hv:rules.l[i]?=some rules.l[i]:=List.getElem?_eq_getElem hi
    generalize rules.l[i]=r at hv
    have hrm:=List.mem_of_getElem? hv
    have hr12:=(hgok r hrm).2.2
    have hvb:(varsOf r).length≤cz:=by unfold cz;omega
    rw [F.bC.cP]
    simp only [e0,e7,aV,Nat.reduceAdd,Nat.reduceEqDiff,reduceIte,aY hi]
    refine iR (fun k e h3=>∃ j,k=(varsOf r).length-j∧j≤(varsOf r).length∧n ^ (j-1)≤65536∧h3.get 0=some (.cells (az s))∧1≤h3.next∧e 0=an aM 3 rules∧e 3 = .ptr 0 0∧e 7 = .int .i64 (i:Int)∧e 8 = .int .i64 ((n ^ j:Nat):Int)∧e 9 = .int .i64 (j:Int)) ((varsOf r).length)
     ⟨0,rfl,Nat.zero_le _,by simp,q0,qn,e0,e3,e7,rfl,rfl⟩ ?_
    rintro k e h3 ⟨j,hk,hj,hpj,q0,qn,e0,e3,e7,e8,e9⟩
    have lz:ai none (.ptr 0 0) h3=some (.int .i64 (n:Int)):=by rw [au q0,← hn];rfl
    have hn8:n ^ j≤65536*64:=by
     cases j with
     |zero=>simp
     |succ j=>rw [Nat.pow_succ];simp only [Nat.add_sub_cancel] at hpj;exact Nat.mul_le_mul hpj n64
    have out:∀ (e':Env),e' 0=an aM 3 rules→e' 3 = .ptr 0 0→e' 7 = .int .i64 (i:Int)→e' 8 = .int .i64 ((n ^ j:Nat):Int)→(65536<n ^ j∨j=(varsOf r).length)→F.bC.sR K2 (.exit 4) ⟨e',69,[],h3⟩=true:=by
     intro e' e0 e3 e7 e8 hcase
     rw [F.bC.fV]
     simp only [e8,aV,Nat.reduceAdd,Nat.reduceEqDiff,reduceIte]
     by_cases hbg:65536<n ^ j
     ·simp only [decide_eq_true (by omega:(65536:Int)<((n ^ j:Nat):Int)),aI]
      rw [hr2,F.bC.fY]
      simp only [bu,Nat.reduceEqDiff,reduceIte]
      exact fin 5 _ (.inl (e5' (.inr (.inr ⟨r,hrm,by rw [hnn];have:=tr n1 hj;omega⟩))))
     ·have hjv:=hcase.resolve_left hbg
      simp only [decide_eq_false (by omega:¬ (65536:Int)<((n ^ j:Nat):Int)),aG,e7,aE hi hrb,bindO_some]
      refine hn2 _ _ ⟨q0,qn,fun q hq=>?_,e0,e3,rfl⟩
      rw [List.take_add_one,hv] at hq
      rcases List.mem_append.1 hq with hq|hq
      ·exact hsz q hq
      ·simp only [Option.toList_some,List.mem_singleton] at hq
       subst hq;rw [← hjv];omega
    rw [F.bC.ju]
    simp only [e0,e7,aV,Nat.reduceAdd,Nat.reduceEqDiff,reduceIte,aP rules hi,dQ fe hv]
    simp only [aM]
    refine ak (bF (hfew r hrm) fun x hx1=>?_)
    simp only [aV,Nat.reduceAdd,Nat.reduceEqDiff,reduceIte,hx1,e8,e9]
    by_cases hjl:j<(varsOf r).length
    ·simp only [aY hjl,aI,aV,Nat.reduceAdd,Nat.reduceEqDiff,reduceIte]
     by_cases hle:n ^ j≤65536
     ·have hm:((n ^ j:Nat):Int)*(n:Int)=((n ^ (j+1):Nat):Int):=by rw [Nat.pow_succ,Int.natCast_mul]
      have hmul:n ^ j*n≤65536*64:=Nat.mul_le_mul hle n64
      have hps:n ^ (j+1)=n ^ j*n:=Nat.pow_succ n j
      have hmm:aA .mul (.int .i64 ((n ^ j:Nat):Int)) (.int .i64 (n:Int))=some (.int .i64 ((n ^ (j+1):Nat):Int)):=by rw [ri (by rw [hm];omega) (by rw [hm];omega),hm]
      simp only [decide_eq_true (by omega:((n ^ j:Nat):Int)≤65536),aI,e3,e8,e9,aV,Nat.reduceAdd,Nat.reduceEqDiff,reduceIte,lz,hmm,aE hjl hvb]
      exact cw.2 ⟨(varsOf r).length-(j+1),by omega,rfl,rfl,j+1,rfl,by omega,by simpa using hle,q0,qn,e0,e3,e7,rfl,rfl⟩
     ·simp only [decide_eq_false (by omega:¬ ((n ^ j:Nat):Int)≤65536),aG,loopK_exit]
      exact out _ e0 e3 e7 e8 (.inl (by omega))
    ·have hje:j=(varsOf r).length:=by omega
     simp only [decide_eq_false (by omega:¬ (j:Int)<((varsOf r).length:Int)),aG,loopK_exit]
     exact out _ e0 e3 e7 e8 (.inr hje)
   ·rintro e h2 ⟨q0,qn,hsz,e0,e3,e7⟩ K2 hx2
    rw [List.take_of_length_le (Nat.le_refl _)] at hsz
    have l0':ai (some 2) (.ptr 0 0) h2=some (.agg (az s)):=by rw [au q0,dA (cs:=az s) (n:=2) rfl]
    rw [F.bC.cP]
    simp only [e0,e7,aV,Nat.reduceAdd,Nat.reduceEqDiff,reduceIte,aR]
    rw [hx2,F.bC.b8]
    simp only [aV,Nat.reduceAdd,Nat.reduceEqDiff,reduceIte,e0,e3,l0']
    refine ak (eM h60 h20 hgo (kJ hsv).1 fun a h4' rs1 x4 o4 hrs1=>?_)
    obtain ⟨rs',hrs'⟩:∃ rs',rs'=rs1++j6 rules.l (ej rules.l):=⟨_,rfl⟩
    rw [← hrs'] at o4
    have hrs:rs'.map cJ=s.rels.l.map cJ++gh rules.l (ej rules.l):=by rw [hrs',List.map_append,kK,hrs1]
    simp only [aV,Nat.reduceAdd,Nat.reduceEqDiff,reduceIte]
    have hok':(⟨s.size,some rs'⟩:dJ).ok:=by
     have hl:rs'.length=s.rels.l.length+(ej rules.l).length:=by have:=congrArg List.length hrs;simpa [gh] using this
     refine ⟨by show rs'.length≤cz;unfold cz;omega,fun r hr=>?_⟩
     have hd:cJ r ∈ s.rels.l.map cJ++gh rules.l (ej rules.l):=by rw [← hrs];exact List.mem_map_of_mem hr
     have hsok2:=(kJ hsv).2
     have hsm2:=(kJ hsv).1
     rcases List.mem_append.1 hd with hd|hd
     ·obtain ⟨q,hq,hqe⟩:=List.mem_map.1 hd
      unfold cJ at hqe
      simp only [Prod.mk.injEq] at hqe
      have hq2:=hsok2.2 q hq
      refine ⟨by rw [← hqe.1];exact hq2.1,?_,fun t ht=>?_⟩
      ·have h1:=congrArg List.length hqe.2.2
       simp only [List.length_map] at h1
       rw [← h1];exact hq2.2.1
      ·have h1:t.l ∈ q.tuples.l.map Sl.l:=by rw [hqe.2.2];exact List.mem_map_of_mem ht
       obtain ⟨u,hu,hue⟩:=List.mem_map.1 h1
       rw [← hue];exact hq2.2.2 u hu
     ·obtain ⟨nm,hnm,hqe⟩:=List.mem_map.1 hd
      unfold cJ at hqe
      simp only [Prod.mk.injEq] at hqe
      obtain ⟨_,q,hq,hqn,_⟩:=oN hgo ((ez _).1 hnm)
      have ht0:r.tuples.l = []:=by have:=hqe.2.2;simpa using this.symm
      refine ⟨by rw [← hqe.1,← hqn];have:=Eh (sZ (hgok q hq).1);unfold cz;omega,by rw [ht0];exact Nat.zero_le _,fun t ht=>by rw [ht0] at ht;cases ht⟩
    refine ak (Bl o4 hok' ?_)
    simp only [aV,Nat.reduceAdd,Nat.reduceEqDiff,reduceIte]
    have hev:=wW hg hgo hsv hnoB hrs
    cases hvd:cT ⟨s.size,some rs'⟩ with
    |false=>
     simp only [Bool.not_false,aI]
     refine fin 5 _ (.inl (e5' ?_))
     have:(8<s.rels.l.length+(ej rules.l).length∨∃ r ∈ rules.l,4096<s.size.toNat ^ r.args.l.length):=Decidable.not_not.1 fun h=>by rw [hev.2 h] at hvd;cases hvd
     rcases this with h|h
     ·exact .inl h
     ·exact .inr (.inl h)
    |true=>
     simp only [Bool.not_true,aG]
     have hno5:=hev.1 hvd
     refine fin 0 _ (.inr ⟨rfl,hg,hsv,h4,?_⟩)
     rintro (h|h|⟨r,hr,h⟩)
     ·exact hno5 (.inl h)
     ·exact hno5 (.inr h)
     ·rw [hnn] at h;have:=hsz r hr;omega
 have main:=gen (fun o h'=>yes (∃ e,o = .ret (.int .i64 e)∧(Bj rules.l s e∨(e=0∧j5 rules.l s)))) (fun e h' he=>cw.2 ⟨e,rfl,he⟩)
 refine main.frozen (by simp [AV.pureL,AV.pure,bE ef,eT]) fun o h' ho=>?_
 obtain ⟨e,rfl,he⟩:=cw.1 ho
 refine ⟨_,_,rfl,.scalar _ rfl,?_⟩
 rcases he with he|⟨rfl,he⟩
 ·exact herr e he
 ·exact hyes he
end
end Go.AM
namespace Go.AM
open Go Go.Proofs
noncomputable section
end
end Go.AM
namespace Go.AM
open Go Go.Proofs
noncomputable section
theorem Cb{rs:List aK}{s:dJ}{rs':List Rel}(hrs:rs'.map cJ=s.rels.l.map cJ++gh rs (ej rs)){q:Rel}(hq:q ∈ rs') :
  (∃ p ∈ s.rels.l,p.name=q.name∧p.arity=q.arity∧p.tuples.l.map Sl.l=q.tuples.l.map Sl.l)∨(q.name ∈ bA rs∧q.arity=(l7 rs q.name:Int)∧q.tuples.l = []):=by
 have hd:cJ q ∈ s.rels.l.map cJ++gh rs (ej rs):=by rw [← hrs];exact List.mem_map_of_mem hq
 rcases List.mem_append.1 hd with hd|hd
 ·obtain ⟨p,hp,e⟩:=List.mem_map.1 hd
  unfold cJ at e
  simp only [Prod.mk.injEq] at e
  exact .inl ⟨p,hp,e.1,e.2.1,e.2.2⟩
 ·obtain ⟨nm,hnm,e⟩:=List.mem_map.1 hd
  unfold cJ at e
  simp only [Prod.mk.injEq] at e
  refine .inr ⟨by rw [← e.1];exact (ez rs).1 hnm,by rw [← e.1];exact e.2.1.symm,?_⟩
  have:=e.2.2
  simpa using this.symm
section
variable {rs:List aK} {s:dJ} {rs':List Rel} {n:Nat} {m:dN}
theorem Ge(ho:j5 rs s)(hgo:dU rs []=some m)(hrs:rs'.map cJ=s.rels.l.map cJ++gh rs (ej rs)):ER s.size (rs'.map cJ):=by
 have h5:=ho.sizes
 have:=(wW ho.good hgo ho.valid (fun h=>ho.names (.inr h)) hrs).2 fun h=>h5 (h.elim .inl fun h=>.inr (.inl h))
 exact fX.1 this
theorem GY(ho:j5 rs s)(hgo:dU rs []=some m)(hn:s.size=(n:Int))(hrs:rs'.map cJ=s.rels.l.map cJ++gh rs (ej rs)){r:aK}(hr:r ∈ rs):uO n r (rs'.map (sg n)):=by
 have hp:=Ge ho hgo hrs
 have hlen:rs'.length≤8:=by have:=hp.kX;simpa using this
 refine ⟨by rw [List.length_map];unfold cz;omega,fun c hc=>uL (rH ho.good hr hc),fun c hc k0=>?_⟩
 have hat:=l8 hr hc k0
 have hnn:s.size.toNat=n:=by omega
 by_cases hd:c.name ∈ bA rs
 ·obtain ⟨_,q,hq,hqn,har⟩:=oN hgo hd
  have hl:q.args.l.length=c.args.l.length:=by
   have:=iY hgo (iB hq) (by rw [hqn];exact hat)
   omega
  refine ⟨?_,fun t ht htn=>?_⟩
  ·rw [← hl,← hnn]
   exact Nat.le_of_not_lt fun h=>ho.sizes (.inr (.inl ⟨q,hq,h⟩))
  ·obtain ⟨p,hp',rfl⟩:=List.mem_map.1 ht
   replace htn:p.name=c.name:=htn
   show (bitsOf n p.arity.toNat p.tuples.l).length=_
   rw [oI]
   rcases Cb hrs hp' with ⟨u,hu,hun,_⟩|⟨_,ha,_⟩
   ·exact absurd (.inr ⟨u,hu,by rw [hun,htn];exact hd⟩) ho.names
   ·rw [htn,har,hl] at ha
    congr 1;omega
 ·cases hf:s.rels.l.find? (kI c.name (c.args.l.length:Int)) with
  |none=>exact absurd (.inl ⟨_,hat,hd,hf⟩) ho.names
  |some q=>
   obtain ⟨hq,hqn,hqa⟩:=rI hf
   obtain ⟨i,hi⟩:=List.mem_iff_getElem?.1 hq
   have hrb:=qF ho.valid hi
   rw [hnn] at hrb
   obtain ⟨k,hk,k12,hkc,hkt⟩:=uE hrb
   have hkl:k=c.args.l.length:=by omega
   refine ⟨by rw [← hkl];exact hkc,fun t ht htn=>?_⟩
   obtain ⟨p,hp',rfl⟩:=List.mem_map.1 ht
   replace htn:p.name=c.name:=htn
   show (bitsOf n p.arity.toNat p.tuples.l).length=_
   rw [oI]
   rcases Cb hrs hp' with ⟨u,hu,hun,hua,_⟩|⟨hh,_,_⟩
   ·have h1:=nO ho.valid hu
    have h2:=nO ho.valid hq
    rw [hun,htn] at h1
    rw [hqn,h1] at h2
    have:=Option.some.inj h2
    rw [this] at hua
    congr 1;omega
   ·exact absurd (by rw [← htn];exact hh) hd
end
end
end Go.AM
namespace Go.AM
open Go Go.Proofs
noncomputable section
end
end Go.AM
namespace Go.AM
open Go Go.Proofs
noncomputable section
end
end Go.AM