/- Parts of a proof, merged out of smaller texts: the abstract machine and what functions do. Conditions: none. -/
import Derived.Test.YtmkffehchicgaaaGreatCh15
import Derived.Test.YtmkffehchicgaaaGreatCh16
import Derived.Test.YtmkffehchicgaaaGreatCh23
set_option linter.unusedSimpArgs false
set_option linter.unusedVariables false
namespace Go.AM
open Go Go.Proofs
noncomputable section
def Js(rs:List aB)(s:dw):Prop:=(∃ p ∈ cB rs,p.1 ∉ aY rs∧s.rels.l.find? (jX p.1 p.2)=none)∨∃ r ∈ s.rels.l,r.name ∈ aY rs
def LG(rs:List aB)(s:dw):Prop:=8<s.rels.l.length+(cU rs).length∨(∃ r ∈ rs,4096<s.size.toNat ^ r.args.l.length)∨∃ r ∈ rs,65536<s.size.toNat ^ (varsOf r).length
structure xb (n:Nat) (rs:List aB) (s:dw) (D:DB):Prop where
 rel:∀ r ∈ s.rels.l,∃ b,D r.name=some (b,bitsOf n r.arity.toNat r.tuples.l)
 head:∀ r ∈ rs,∃ b,D r.name=some (b,List.replicate (n ^ r.args.l.length) false)
 only:∀ nm p,D nm=some p→nm ∈ aY rs∨∃ r ∈ s.rels.l,r.name=nm
structure Hy (n P A M S B lo:Nat) (rules:Sl aB) (ks:List bC) (lv:Lev.Lv) (D0:DB) (m:dF) (h:ag):Prop where
 hP:h.get P=some (.cells [aq aL 3 rules,.map A,.map M])
 hl:fC (aY rules.l) h M ks lv
 hks:ks.Nodup
 hgo:dc rules.l []=some m
 hA:∃ es ck,h.get A=some (.map es ck)∧Hx es ck m
 hS:h.get S=some (.cells [.int .i64 (n:Int),.map B])
 hD:ef D0 h B lo
 ord:A<M∧M<P∧P<B∧B<S∧S<lo∧lo≤h.next
theorem NM{rs:List aB}{h:ag}{M:Nat}{ks:List bC}{lv:Lev.Lv}(hl:fC (aY rs) h M ks lv)(hks:ks.Nodup):ks.length=(cU rs).length:=by
 have h1:(cU rs).Nodup:=by
  have:=nE rs
  unfold xM at this
  refine this.imp fun {a b} h e=>?_
  rw [e,wG] at h;cases h
 have h2:=Lev.nR hks (m:=cU rs) fun x hx=>(dx rs).2 ((hl.mem x).1 hx)
 have h3:=Lev.nR h1 (m:=ks) fun x hx=>(hl.mem x).2 ((dx rs).1 hx)
 omega
set_option maxHeartbeats 2000000 in
theorem az{rules:Sl aB}{s:dw}(hok:∀ r ∈ rules.l,r.ok)(hfew:∀ r ∈ rules.l,r.kH)(hsok:s.ok){h:ag}{K:Out→ag→Bool}
  (h1:(¬ j9 rules.l∨di s=false)→∀ h',(∀ b,b<h.next→h'.get b=h.get b)→K (.ret (.tuple [.nilp,.nilp,.int .i64 1])) h'=true)
  (h4:j9 rules.l→di s=true→Js rules.l s→∀ h',(∀ b,b<h.next→h'.get b=h.get b)→K (.ret (.tuple [.nilp,.nilp,.int .i64 4])) h'=true)
  (h5:j9 rules.l→di s=true→¬ Js rules.l s→LG rules.l s→∀ h',(∀ b,b<h.next→h'.get b=h.get b)→K (.ret (.tuple [.nilp,.nilp,.int .i64 5])) h'=true)
  (h0:j9 rules.l→di s=true→¬ Js rules.l s→¬ LG rules.l s→∀ h' (n:Nat) P A M S B lo ks k D0 m,s.size=(n:Int)→1≤n→n≤64→Lev.de (bM rules.l) (Lev.iter (bM rules.l) k) →
   Hy n P A M S B lo rules ks (Lev.iter (bM rules.l) k) D0 m h'→xb n rules.l s D0→(∀ b,b<h.next→h'.get b=h.get b)→h.next≤A→K (.ret (.tuple [.ptr P 0,.ptr S 0,.int .i64 0])) h'=true) :
  Sem Tryz.prog 45 [aq aL 3 rules,.agg (aA s)] h K:=by
 refine F.u7 ?_
 rw [F.wk]
 simp only [cA (cR s),bindO_some]
 have g0:(h.alloc (.cells (aA s))).get h.next=some (.cells (aA s)):=aI _ _
 have gx:bR h (h.alloc (.cells (aA s))):=bR.alloc _ _
 have gn:(h.alloc (.cells (aA s))).next=h.next+1:=rfl
 generalize (h.alloc (.cells (aA s)))=H0 at g0 gx gn ⊢
 refine ak (Jq hok hfew (fun hb h' hf=>?_) fun h' P A M ks k hg hst gP la hks hPn hMn m es ck hgo gA hmB o1 o2 o3 hfr=>?_)
 ·simp only [aQ,Nat.reduceAdd,Nat.reduceEqDiff,reduceIte,Bool.not_false]
  exact h1 (.inl hb) _ (fun b hb=>by rw [hf b (by omega),gx.get b hb])
 have p0:h'.get h.next=some (.cells (aA s)):=by rw [hfr _ (by omega)];exact g0
 have l0:ai (some 2) (.ptr h.next 0) h'=some (.agg (aA s)):=by rw [an p0,c8 (cs:=aA s) (n:=2) rfl]
 simp only [aQ,Nat.reduceAdd,Nat.reduceEqDiff,reduceIte,Bool.not_true,l0]
 refine ak (dY hsok ?_)
 simp only [aQ,Nat.reduceAdd,Nat.reduceEqDiff,reduceIte]
 cases hsv:di s with
 |false=>simp only [Bool.not_false,aC];exact h1 (.inr hsv) _ (fun b hb=>by rw [hfr b (by omega),gx.get b hb])
 |true=>
 obtain ⟨n,hn,n1,n64,h8⟩:=oA hsv
 have hnn:s.size.toNat=n:=by omega
 specialize h4 hg hsv
 specialize h5 hg hsv
 specialize h0 hg hsv
 clear h1
 have hr60:=hg.kH
 have hgok:=fU hgo
 obtain ⟨hmI,hmBi,hmN⟩:=id hmB
 have hrg:kV .map (.map A) h'=some (.ptr h'.next 0,h'.alloc (.miter (some A) ck [] ck)):=by simp only [kV,gA]
 simp only [Bool.not_true,aD,bS,aQ,Nat.reduceAdd,Nat.reduceEqDiff,reduceIte,an gP,hrg]
 have hall:∀ p ∈ m,(p.1,p.2) ∈ cB rules.l:=fun p hp=>(jr hgo p.1 p.2).1 (sw hmN hp)
 refine wM es (fun seen e hh=>(∀ en ∈ es,en.2.2 ∈ seen→∀ p ∈ m,en.1 = .str p.1→¬ (p.1 ∉ aY rules.l∧s.rels.l.find? (jX p.1 p.2)=none))∧hh.get h'.next=some (.miter (some A) ck seen ck)∧(∀ b,b<h'.next→hh.get b=h'.get b)∧h'.next<hh.next ∧
   e 0=aq aL 3 rules∧e 3 = .ptr h.next 0∧e 7 = .ptr P 0∧e 46 = .ptr h'.next 0)
  ⟨fun en _ hen=>(by cases hen),aI _ _,fun b hb=>by rw [ag.aV,if_neg (by omega)],by rw [ag.next_alloc];omega,rfl,rfl,rfl,rfl⟩ ?_
 rintro seen e hh ⟨hseen,w3,wf,wn,e0,e3,e7,e46⟩ K' hnx' hex hret hpan
 rw [F.az.aN]
 simp only [e46]
 refine Bh w3 (by rw [wf A (by omega)];exact gA) hmBi (by omega) (fun hallS=>?_) (fun en hen hns hent=>?_)
 ·
  have hno4:¬ ∃ p ∈ cB rules.l,p.1 ∉ aY rules.l∧s.rels.l.find? (jX p.1 p.2)=none:=by
   rintro ⟨p,hp,hb⟩
   have hf:=(jr hgo p.1 p.2).2 hp
   have hpm:=ou hf
   obtain ⟨en,hen,hen1,_⟩:=hmI.mem' _ hpm
   exact hseen en hen (hallS en hen) _ hpm hen1 hb
  simp only [DK,mE,bindO_some,condB_bool,aD]
  rw [hex,F.az.aG]
  have v0:hh.get h.next=some (.cells (aA s)):=by rw [wf _ (by omega)];exact p0
  have lr:ai none (.ptr h.next 1) hh=some (aq bA 3 s.rels):=by rw [an v0];rfl
  simp only [aQ,Nat.reduceAdd,Nat.reduceEqDiff,reduceIte,e3,lr]
  refine aE 0 s.rels.l.length (Nat.zero_le _) (fun i e h2=>(∀ r ∈ s.rels.l.take i,r.name ∉ aY rules.l)∧(∀ b,b<h'.next→h2.get b=h'.get b)∧h'.next<h2.next∧e 0=aq aL 3 rules∧e 3 = .ptr h.next 0∧e 7 = .ptr P 0∧e 71=aq bA 3 s.rels∧e 72 = .int .i64 (s.rels.l.length:Int)∧e 73 = .int .i64 (i:Int))
   ⟨fun r hr=>(by cases hr),wf,wn,e0,e3,e7,rfl,rfl,rfl⟩ ?_ ?_
  ·rintro i e h2 _ hi ⟨hnot,wf2,wn2,e0,e3,e7,e71,e72,e73⟩ K2 hn2 hx2 hr2 hp2
   have hv:s.rels.l[i]?=some s.rels.l[i]:=List.getElem?_eq_getElem hi
   generalize s.rels.l[i]=r at hv
   obtain ⟨H,hs1,q1,qo,qn⟩:=cL (h:=h2) (zs:=[.str [],.int .i64 0,.nils]) (cs:=bA r) (n:=3) rfl rfl (iD r)
   have pP:H.get P=some (.cells [aq aL 3 rules,.map A,.map M]):=by rw [qo _ (by omega),wf2 _ (by omega)];exact gP
   have hM:H.get M=h'.get M:=by rw [qo _ (by omega),wf2 _ (by omega)]
   obtain ⟨esL,ckL,mL,y1,y2,y3,y4,y5⟩:=la.ex
   have hlk:=pe (h:=H) (by rw [hM];exact y1) y2 r.name
   have hsome:(mL.find r.name).isSome=decide (r.name ∈ aY rules.l):=by rw [y5];by_cases hh':r.name ∈ aY rules.l<;>simp [hh']
   have ln:ai none (.ptr h2.next 0) H=some (.str r.name):=by rw [an q1];rfl
   rw [F.az.dS]
   simp only [e7,e71,e72,e73,aQ,Nat.reduceAdd,Nat.reduceEqDiff,reduceIte,bf hi,aS s.rels hi,cZ fN hv,hs1]
   simp only [aQ,Nat.reduceAdd,Nat.reduceEqDiff,reduceIte,bS,an pP,ln,hlk,hsome]
   by_cases hd:r.name ∈ aY rules.l
   ·simp only [decide_eq_true hd,aC]
    rw [hr2,F.az.iR]
    simp only [bt,Nat.reduceEqDiff,reduceIte]
    exact h4 (.inr ⟨r,List.mem_of_getElem? hv,hd⟩) _ (fun b hb=>by rw [qo b (by omega),wf2 b (by omega),hfr b (by omega),gx.get b hb])
   ·simp only [decide_eq_false hd,aD,e73,aK hi hsok.1,bindO_some]
    refine hn2 _ _ ⟨fun q hq=>?_,fun b hb=>by rw [qo b (by omega)];exact wf2 b hb,by omega,e0,e3,e7,e71,e72,rfl⟩
    rw [List.take_add_one,hv] at hq
    rcases List.mem_append.1 hq with hq|hq
    ·exact hnot q hq
    ·simp only [Option.toList_some,List.mem_singleton] at hq
     subst hq;exact hd
  ·rintro e h2 ⟨hnot,wf2,wn2,e0,e3,e7,e71,e72,e73⟩ K2 hx2
   rw [List.take_of_length_le (Nat.le_refl _)] at hnot
   have hst4:¬ Js rules.l s:=by
    rintro (hb|⟨r,hr,hd⟩)
    ·exact hno4 hb
    ·exact hnot r hr hd
   specialize h5 hst4
   specialize h0 hst4
   have v0:h2.get h.next=some (.cells (aA s)):=by rw [wf2 _ (by omega)];exact p0
   have vP:h2.get P=some (.cells [aq aL 3 rules,.map A,.map M]):=by rw [wf2 _ (by omega)];exact gP
   have vl:fC (aY rules.l) h2 M ks (Lev.iter (bM rules.l) k):=la.keep (wf2 _ (by omega))
   have lr:ai none (.ptr h.next 1) h2=some (aq bA 3 s.rels):=by rw [an v0];rfl
   have ls:ai none (.ptr h.next 0) h2=some (.int .i64 (n:Int)):=by rw [an v0,← hn];rfl
   have hkl:ks.length≤60:=by
    have:=Lev.nR hks (m:=aY rules.l) fun x hx=>(la.mem x).1 hx
    have h1:(aY rules.l).length=rules.l.length:=by simp [aY]
    omega
   have hadd:aJ .add (.int .i64 (s.rels.l.length:Int)) (.int .i64 (ks.length:Int))=some (.int .i64 ((s.rels.l.length+ks.length:Nat):Int)):=by
    rw [gB (by omega) (by omega)];rfl
   have hdk:=NM la hks
   rw [F.az.dS]
   simp only [e72,e73,aQ,Nat.reduceAdd,Nat.reduceEqDiff,reduceIte,aT]
   rw [hx2,F.az.cG]
   simp only [aQ,Nat.reduceAdd,Nat.reduceEqDiff,reduceIte,e3,e7,lr,bS,an vP,vl.len,hadd]
   by_cases hbg:8<s.rels.l.length+ks.length
   ·simp only [decide_eq_true (by omega:(8:Int)<((s.rels.l.length+ks.length:Nat):Int)),aC]
    exact h5 (.inl (by rw [← hdk];exact hbg)) _ (fun b hb=>by rw [wf2 b (by omega),hfr b (by omega),gx.get b hb])
   have hagg:kJ [.int .i64 0,.nilm] [(0,1),(1,1)] [.int .i64 (n:Int),.map h2.next]=some (.agg [.int .i64 (n:Int),.map h2.next]):=rfl
   simp only [decide_eq_false (by omega:¬ (8:Int)<((s.rels.l.length+ks.length:Nat):Int)),aD,ls,bindO_some,hagg,cA (show br [.int .i64 (n:Int),.map h2.next]=true from rfl),ag.next_alloc]
   have f0:((h2.alloc (.map [] 0)).alloc (.cells [.int .i64 (n:Int),.map h2.next])).get h2.next=some (.map [] 0):=by rw [ag.aV,ag.next_alloc,if_neg (by omega)];exact aI _ _
   have f1:((h2.alloc (.map [] 0)).alloc (.cells [.int .i64 (n:Int),.map h2.next])).get (h2.next+1)=some (.cells [.int .i64 (n:Int),.map h2.next]):=aI _ _
   have fx:bR h2 ((h2.alloc (.map [] 0)).alloc (.cells [.int .i64 (n:Int),.map h2.next])):=(bR.alloc _ _).trans (bR.alloc _ _)
   have fn:((h2.alloc (.map [] 0)).alloc (.cells [.int .i64 (n:Int),.map h2.next])).next=h2.next+1+1:=rfl
   generalize ((h2.alloc (.map [] 0)).alloc (.cells [.int .i64 (n:Int),.map h2.next]))=H2 at f0 f1 fx fn ⊢
   have uP:H2.get P=some (.cells [aq aL 3 rules,.map A,.map M]):=by rw [fx.get _ (by omega)];exact vP
   obtain ⟨esL,ckL,mL,y1,y2,y3,y4,y5⟩:=la.ex
   have uM:H2.get M=some (.map esL ckL):=by rw [fx.get _ (by omega),wf2 _ (by omega)];exact y1
   have hrg2:kV .map (.map M) H2=some (.ptr H2.next 0,H2.alloc (.miter (some M) ckL [] ckL)):=by simp only [kV,uM]
   simp only [e7,bS,aQ,Nat.reduceAdd,Nat.reduceEqDiff,reduceIte,an uP,hrg2]
   have r3:(H2.alloc (.miter (some M) ckL [] ckL)).get (h2.next+1+1)=some (.miter (some M) ckL [] ckL):=by have:=aI H2 (.miter (some M) ckL [] ckL);rwa [fn] at this
   have rx:bR H2 (H2.alloc (.miter (some M) ckL [] ckL)):=bR.alloc _ _
   have rn:(H2.alloc (.miter (some M) ckL [] ckL)).next=h2.next+1+1+1:=by rw [ag.next_alloc,fn]
   rw [fn]
   generalize (H2.alloc (.miter (some M) ckL [] ckL))=H3 at r3 rx rn ⊢
   have low:∀ b,b<h2.next→H3.get b=h2.get b:=fun b hb=>by rw [rx.get b (by omega),fx.get b hb]
   have s0:H3.get h2.next=some (.map [] 0):=by rw [rx.get _ (by omega)];exact f0
   have s1:H3.get (h2.next+1)=some (.cells [.int .i64 (n:Int),.map h2.next]):=by rw [rx.get _ (by omega)];exact f1
   have sM:H3.get M=some (.map esL ckL):=by rw [rx.get _ (by omega)];exact uM
   have sP:H3.get P=some (.cells [aq aL 3 rules,.map A,.map M]):=by rw [rx.get _ (by omega)];exact uP
   have sA:H3.get A=some (.map es ck):=by rw [low _ (by omega),wf2 _ (by omega)];exact gA
   have sB:H3.get h.next=some (.cells (aA s)):=by rw [low _ (by omega)];exact v0
   have sl:fC (aY rules.l) H3 M ks (Lev.iter (bM rules.l) k):=la.keep (by rw [sM,y1])
   have sD:ef (fun _=>none) H3 h2.next (h2.next+1+1+1):=⟨⟨[],0,[],s0,trivial,fun nm=>rfl⟩,fun nm p hp=>(by cases hp),fun nm nm' p p' hp=>(by cases hp),by omega⟩
   refine Ch (S:=h2.next+1) (SB:=h.next) hn n1 n64 (fun r hr=>lF (hgok r hr).1) hgo s1 sB sP sA hmB sl sD (fun es' ck' hM'=>by rw [sM] at hM';cases hM';exact r3) rn (by omega) (by omega) (by omega) (by omega) (by omega) (by omega) (by omega) (by omega) (by omega) (by omega) (by omega) e0 e3 e7 rfl rfl (fun hb h' hf=>h5 (.inr (.inl (by rw [hnn];exact hb))) h' (fun b hb=>by rw [hf b (by omega) (by omega),low b (by omega),wf2 b (by omega),hfr b (by omega),gx.get b hb])) fun e4 h4' D a1 a2 a3 a4 a5 a6 j0 j3 j7 j17=>?_
   rw [F.az.gw]
   simp only [j0,aQ,Nat.reduceAdd,Nat.reduceEqDiff,reduceIte]
   refine Cg (s:=s) (SB:=h.next) (S:=h2.next+1) hn n1 n64 hfew hr60 (fun r hr=>(hgok r hr).2.2) (by rw [a5 _ (by omega) (by omega)];exact sB) (by omega) j3 j7 j17 rfl rfl rfl (fun hb h' hx=>h5 (.inr (.inr (by rw [hnn];exact hb))) h' (fun b hb=>by rw [hx.get b (by omega),a5 b (by omega) (by omega),low b (by omega),wf2 b (by omega),hfr b (by omega),gx.get b hb])) fun c1 e5 h6 c2 i3 i7 i17=>?_
   have c6:=c2.next
   have t0:h6.get h.next=some (.cells (aA s)):=by rw [c2.get _ (by omega),a5 _ (by omega) (by omega)];exact sB
   have t1:h6.get (h2.next+1)=some (.cells [.int .i64 (n:Int),.map h2.next]):=by rw [c2.get _ (by omega),a5 _ (by omega) (by omega)];exact s1
   have lr6:ai none (.ptr h.next 1) h6=some (aq bA 3 s.rels):=by rw [an t0];rfl
   rw [F.az.Kw]
   simp only [aQ,Nat.reduceAdd,Nat.reduceEqDiff,reduceIte,i3,lr6]
   refine Ef (S:=h2.next+1) (SB:=h.next) hsok hsv hn n1 n64 t1 t0 (a2.ext c2) (by omega) (by omega) (by omega) (by omega) (by omega) i3 i7 i17 rfl rfl rfl fun h7 D7 d1 d2 d3 d4 d5=>?_
   have hst5:¬ LG rules.l s:=by
    rintro (hb|⟨r,hr,hb⟩|⟨r,hr,hb⟩)
    ·omega
    ·rw [hnn] at hb;have:=a1 r hr;omega
    ·rw [hnn] at hb;have:=c1 r hr;omega
   have keep:∀ b,b<h2.next→h7.get b=h2.get b:=fun b hb=>by rw [d4 b (by omega) (by omega),c2.get b (by omega),a5 b (by omega) (by omega),low b hb]
   refine h0 hst5 h7 n P A M (h2.next+1) h2.next (h2.next+1+1+1) ks k D7 m hn n1 n64 hst ⟨?_,la.keep ?_,hks,hgo,⟨es,ck,?_,hmB⟩,?_,d1,by omega⟩ ⟨fun r hr=>?_,fun r hr=>?_,fun nm p hp=>?_⟩ (fun b hb=>?_) (by omega)
   ·rw [keep _ (by omega)];exact vP
   ·rw [keep _ (by omega),wf2 _ (by omega)]
   ·rw [keep _ (by omega),wf2 _ (by omega)];exact gA
   ·rw [d4 _ (by omega) (by omega)];exact t1
   ·obtain ⟨b,_,b2⟩:=d2 r hr
    exact ⟨b,b2⟩
   ·obtain ⟨b,b2⟩:=a3 r hr
    refine ⟨b,?_⟩
    rw [d3 r.name fun q hq e=>hnot q hq (by rw [e];exact List.mem_map_of_mem hr)]
    exact b2
   ·by_cases hq:∃ q ∈ s.rels.l,q.name=nm
    ·exact .inr hq
    ·rw [d3 nm fun q hq' e=>hq ⟨q,hq',e⟩] at hp
     exact .inl (a4 nm p hp)
   ·rw [keep _ (by omega),wf2 _ (by omega),hfr _ (by omega),gx.get _ hb]
 obtain ⟨p,hpm,hn1,hn2⟩:=hmI.mem en hen
 have vf:∀ b,b<h'.next→(hh.set h'.next (.miter (some A) ck (seen++[en.2.2]) ck)).get b=h'.get b:=fun b hb=>by rw [ag.aO,if_neg (by omega)];exact wf b hb
 have v3:(hh.set h'.next (.miter (some A) ck (seen++[en.2.2]) ck)).get h'.next=some (.miter (some A) ck (seen++[en.2.2]) ck):=by rw [ag.aO,if_pos rfl]
 have vn:(hh.set h'.next (.miter (some A) ck (seen++[en.2.2]) ck)).next=hh.next:=ag.next_set _ _ _
 simp only [DK,mE,se,bindO_some,condB_bool,aC,hent,e3,e7,e46,hn1,hn2]
 clear hent
 generalize (hh.set h'.next (.miter (some A) ck (seen++[en.2.2]) ck))=H at vf v3 vn ⊢
 have pP:H.get P=some (.cells [aq aL 3 rules,.map A,.map M]):=by rw [vf _ (by omega)];exact gP
 have p0':H.get h.next=some (.cells (aA s)):=by rw [vf _ (by omega)];exact p0
 have lS:ai (some 2) (.ptr h.next 0) H=some (.agg (aA s)):=by rw [an p0',c8 (cs:=aA s) (n:=2) rfl]
 obtain ⟨esL,ckL,mL,y1,y2,y3,y4,y5⟩:=la.ex
 have hlk:=pe (h:=H) (by rw [vf M (by omega)];exact y1) y2 p.1
 have hsome:(mL.find p.1).isSome=decide (p.1 ∈ aY rules.l):=by rw [y5];by_cases hh':p.1 ∈ aY rules.l<;>simp [hh']
 have fin:∀ (e':Env),(¬ (p.1 ∉ aY rules.l∧s.rels.l.find? (jX p.1 p.2)=none))→e' 0=aq aL 3 rules→e' 3 = .ptr h.next 0→e' 7 = .ptr P 0→e' 46 = .ptr h'.next 0→K' .normal ⟨e',198,[],H⟩=true:=fun e' hgood e0 e3 e7 e46=>by
  refine hnx' en hen hns _ _ ⟨fun en' hen' hse q hq hqn=>?_,v3,vf,by omega,e0,e3,e7,e46⟩
  rcases List.mem_append.1 hse with hse|hse
  ·exact hseen en' hen' hse q hq hqn
  ·rw [List.mem_singleton] at hse
   have hee:en'=en:=by
    obtain ⟨i,hi⟩:=List.mem_iff_getElem?.1 hen
    obtain ⟨j,hj⟩:=List.mem_iff_getElem?.1 hen'
    have hi':(es.map (·.2.2))[i]?=some en.2.2:=by rw [List.getElem?_map,hi];rfl
    have hj':(es.map (·.2.2))[j]?=some en.2.2:=by rw [List.getElem?_map,hj,← hse];rfl
    have hij:=lD hmBi.nodup hi' hj'
    subst hij
    rw [hi] at hj;exact (Option.some.inj hj).symm
   rw [hee,hn1] at hqn
   injection hqn with h3
   have h6:q.2=p.2:=by
    have h7:=sw hmN hq
    have h8:=sw hmN hpm
    rw [← h3,h8] at h7
    exact (Option.some.inj h7).symm
   rw [← h3,h6];exact hgood
 simp only [aQ,Nat.reduceAdd,Nat.reduceEqDiff,reduceIte,bS,an pP,hlk,hsome]
 by_cases hd:p.1 ∈ aY rules.l
 ·simp only [decide_eq_true hd,Bool.not_true,aD]
  exact fin _ (fun hb=>hb.1 hd) e0 e3 e7 e46
 ·simp only [decide_eq_false hd,Bool.not_false,aC,aQ,Nat.reduceAdd,Nat.reduceEqDiff,reduceIte,lS]
  refine ak (Hi hsok ?_)
  simp only [aQ,Nat.reduceAdd,Nat.reduceEqDiff,reduceIte]
  rcases lX (jX p.1 p.2) s.rels.l with ⟨f1,f2⟩|⟨j,r,f1,f2,f3⟩
  ·rw [f1]
   simp only [show decide ((-1:Int)<0)=true from rfl,aC]
   rw [hret,F.az.aZ]
   simp only [bt,Nat.reduceEqDiff,reduceIte]
   exact h4 (.inl ⟨(p.1,p.2),hall p hpm,hd,f2⟩) _ (fun b hb=>by rw [vf b (by omega),hfr b (by omega),gx.get b hb])
  ·rw [f1]
   simp only [decide_eq_false (by omega:¬ ((j:Int)<0)),aD]
   exact fin _ (fun hb=>by rw [f3] at hb;exact absurd hb.2 (by simp)) e0 e3 e7 e46
end
end Go.AM
namespace Go.AM
open Go Go.Proofs
noncomputable section
theorem qd{α β:Type}{enc:α→List AV}{enc':β→List AV}{h:ag}:∀ {l:List (α×β)},(∀ p ∈ l,jB true h (enc p.1) (enc' p.2))→jB true h (l.flatMap fun p=>enc p.1) (l.flatMap fun p=>enc' p.2)
 |[],_=>.nil
 |p :: l,hp=>by
  rw [List.flatMap_cons,List.flatMap_cons]
  exact jB.append (hp p List.mem_cons_self) (qd fun q hq=>hp q (List.mem_cons_of_mem _ hq))
structure rP {α β:Type} (X:Nat→Prop) (enc:α→List AV) (enc':β→List AV) (sz k:Nat) (h:ag) (a:AV) (l:List (α×β)):Prop where
 own:Own enc sz k h a (l.map (·.1))
 vp:∀ p ∈ l,∀ h',(∀ b,k≤b→b<h.next→¬ X b→ep a≠some b→h'.get b=h.get b)→jB true h' (enc p.1) (enc' p.2)
 av:∀ b,ep a=some b→¬ X b
section
variable {α β:Type} {X:Nat→Prop} {enc:α→List AV} {enc':β→List AV} {sz k:Nat} {h h':ag} {a:AV} {l:List (α×β)}
theorem Own.agree{α:Type}{enc:α→List AV}{sz k:Nat}{h h':ag}{a:AV}{l:List α}(o:Own enc sz k h a l)(hb:∀ b,ep a=some b→h'.get b=h.get b)(hn:h.next≤h'.next):Own enc sz k h' a l:=by
 cases o with
 |nil=>exact .nil
 |row b l h1 h2 h3=>exact .row b _ h1 (Nat.lt_of_lt_of_le h2 hn) (by rw [hb b rfl];exact h3)
theorem rP.keep(o:rP X enc enc' sz k h a l)(hb:∀ b,k≤b→b<h.next→¬ X b→h'.get b=h.get b)(hn:h.next≤h'.next):rP X enc enc' sz k h' a l:=
 ⟨o.own.agree (fun b e=>hb b (o.own.ge e) (o.own.lt e) (o.av b e)) hn,fun p hp h2 hh=>o.vp p hp h2 fun b b1 b2 b3 b4=>by rw [hh b b1 (Nat.lt_of_lt_of_le b2 hn) b3 b4,hb b b1 b2 b3],o.av⟩
theorem rP.low(o:rP X enc enc' sz k h a l){d:Nat}(hd:d<k)(x:jG):rP X enc enc' sz k (h.set d x) a l:=
 o.keep (fun b b1 _ _=>by rw [ag.aO,if_neg (by omega)]) (by rw [ag.next_set];exact Nat.le_refl _)
theorem rP.data(o:rP X enc enc' sz k h a l):∃ x:Sl β,x.l=l.map (·.2)∧∀ h2,(∀ b,k≤b→b<h.next→¬ X b→h2.get b=h.get b)→Fz true h2 a (aq enc' sz x):=by
 obtain ⟨ow,fr,av⟩:=o
 generalize hm:l.map (·.1)=m at ow
 cases ow with
 |nil=>
  have:l = []:=by simpa using hm
  subst this
  exact ⟨none,rfl,fun h2 _=>.dD rfl⟩
 |row b m h1 h2 h3=>
  subst hm
  refine ⟨some (l.map (·.2)),rfl,fun g hg=>?_⟩
  have fl:jB true g (l.flatMap fun p=>enc p.1) (l.flatMap fun p=>enc' p.2):=qd fun p hp=>fr p hp g fun c c1 c2 c3 c4=>hg c c1 c2 c3
  have e1:(l.map (·.1)).flatMap enc=l.flatMap fun p=>enc p.1:=by rw [List.flatMap_map]
  have e2:(l.map (·.2)).flatMap enc'=l.flatMap fun p=>enc' p.2:=by rw [List.flatMap_map]
  have:aq enc' sz (some (l.map (·.2))) = .islice (l.flatMap fun p=>enc' p.2) 0 l.length sz:=by simp only [aq,e2,List.length_map]
  rw [this,List.length_map]
  exact .slice b 0 l.length sz _ _ (by rw [hg b h1 h2 (av b rfl),h3,e1]) fl.len fl.rel
theorem rP.fz(o:rP X enc enc' sz k h a l):∃ x:Sl β,x.l=l.map (·.2)∧Fz true h a (aq enc' sz x):=by
 obtain ⟨x,h1,h2⟩:=o.data
 exact ⟨x,h1,h2 h fun _ _ _ _=>rfl⟩
end
def Lg:={ v:AV // br [v]=true∧v.dP = [v] }
abbrev F7:=bC×Int×Lg
def mq(r:F7):List AV:=[.str r.1,.int .i64 r.2.1,r.2.2.1]
theorem oE(r:F7):(mq r).length=3:=rfl
theorem sI{α:Type}{enc:α→List AV}{sz k:Nat}{h:ag}{a:AV}{l:List α}(o:Own enc sz k h a l):br [a]=true∧a.dP = [a]:=by cases o<;>exact ⟨rfl,rfl⟩
abbrev Om(X:Nat→Prop)(k:Nat)(h:ag)(a:AV)(l:List (F7×Rel)):Prop:=rP X mq bA 3 k h a l
theorem O2{h:ag}{nm:bC}{k:Int}{v:Lg}{x:Sl (Sl Int)}(hf:Fz true h v.1 (aq eE 1 x)):jB true h (mq (nm,k,v)) (bA ⟨nm,k,x⟩):=
 .cons (.scalar _ rfl) (.cons (.scalar _ rfl) (.cons hf .nil))
end
end Go.AM
namespace Go.AM
open Go Go.Proofs
noncomputable section
theorem Sj(y:Sl Int):fR [.nils] [(0,1)] [aq encI 1 y]=some (eE y):=by cases y<;>rfl
theorem Lh(y:Sl Int):br (eE y)=true:=by cases y<;>rfl
theorem rP.O3{α:Type}{enc:α→List AV}{sz k:Nat}{h:ag}{a:AV}{l:List α}(o:Own enc sz k h a l)(hf:∀ v,AV.pureL (enc v)=true):rP (fun _=>False) enc enc sz k h a (l.map fun v=>(v,v)):=
 ⟨by rw [List.map_map];simpa [Function.comp_def] using o,fun p hp h' _=>by
  obtain ⟨v,_,rfl⟩:=List.mem_map.1 hp
  exact .dD (hf v),fun _ _ h=>h⟩
end
end Go.AM
namespace Go.AM
open Go Go.Proofs
noncomputable section
def rQ(n:Nat)(s:dw):Lk:=fun nm k=>match s.rels.l.find? (dU nm) with|some r=>(bitsOf n r.arity.toNat r.tuples.l).getD k false|none=>false
def fW(rs:List aB)(n:Nat)(s:dw)(F:Lk):Prop:=∃ k t,Lev.de (bM rs) (Lev.iter (bM rs) k)∧(∀ r ∈ rs,Lev.iter (bM rs) k r.name<t)∧gE n rs (Lev.iter (bM rs) k) (rQ n s) t F
theorem fW.unique{rs:List aB}{n:Nat}{s:dw}{A B:Lk}(h:fW rs n s A)(g:fW rs n s B):A=B:=by
 obtain ⟨j,t,h1,h2,h3⟩:=h
 obtain ⟨k,u,g1,g2,g3⟩:=g
 rw [Lev.Cl h1 g1] at h2 h3
 exact h3.same g3 h2 g2
theorem sJ{rs:List aB}{k:Nat}(h:Lev.de (bM rs) (Lev.iter (bM rs) k)):Br rs (Lev.iter (bM rs) k):=by
 intro r hr c hc k0 ⟨q,hq,hqn⟩
 have he:eU r c ∈ bM rs:=by
  refine List.mem_flatMap.2 ⟨r,hr,List.mem_flatMap.2 ⟨c,hc,?_⟩⟩
  unfold kD
  rw [if_pos ⟨k0,by rw [← hqn];exact List.mem_map_of_mem hq⟩]
  exact List.mem_singleton.2 rfl
 have:=h _ he
 unfold eU at this
 exact this
theorem Hz{rs:List aB}(h60:rs.length≤60)(h20:∀ r ∈ rs,r.body.l.length≤20){k:Nat}(h:Lev.de (bM rs) (Lev.iter (bM rs) k))(x:bC):Lev.iter (bM rs) k x≤1000000:=by
 have hN:∀ e ∈ bM rs,e.b ∈ aY rs∧e.h ∈ aY rs:=fun e he=>by
  obtain ⟨r,hr,c,hc,_,hin,rfl⟩:=mZ he
  exact ⟨hin,List.mem_map_of_mem hr⟩
 rw [Lev.Cl h (Lev.settle hN h)]
 have:=ue h60 h20 (aY rs).length x
 have h1:(aY rs).length=rs.length:=by simp [aY]
 rw [h1] at this ⊢
 omega
def ju(rs:List aB)(nm:bC):Nat:=match rs.find? (fun r=>r.name==nm) with|some r=>r.args.l.length|none=>0
theorem kg{rs:List aB}{m:dF}(hgo:dc rs []=some m){x:bC}{j k:Int}(h1:(x,j) ∈ cB rs)(h2:(x,k) ∈ cB rs):j=k:=by
 have a:=(jr hgo x j).2 h1
 have b:=(jr hgo x k).2 h2
 rw [a] at b;exact Option.some.inj b
theorem Bx{rs:List aB}{m:dF}(hgo:dc rs []=some m){r:aB}(hr:r ∈ rs):ju rs r.name=r.args.l.length:=by
 unfold ju
 cases hf:rs.find? (fun q=>q.name==r.name) with
 |none=>
  rw [List.find?_eq_none] at hf
  exact absurd (hf r hr) (by simp)
 |some q=>
  have hq:=List.mem_of_find?_eq_some hf
  have hqn:=List.find?_some hf
  rw [beq_iff_eq] at hqn
  have:=kg hgo (jt hq) (by rw [hqn];exact jt hr)
  simp only;omega
theorem oG{rs:List aB}{r:aB}(hr:r ∈ rs){c:dO}(hc:c ∈ r.body.l)(k0:c.kind=0):(c.name,(c.args.l.length:Int)) ∈ cB rs:=by
 refine List.mem_flatMap.2 ⟨r,hr,List.mem_cons_of_mem _ ?_⟩
 unfold dW
 exact List.mem_map.2 ⟨c,List.mem_filter.2 ⟨hc,by simpa using k0⟩,rfl⟩
structure On (c:dO):Prop where
 kinds:c.kind=0∨c.kind=1∨c.kind=2
 two:c.kind=1∨c.kind=2→c.args.l.length=2
 arity:c.args.l.length≤12
theorem vE{c:dO}(h:fT c=true):On c:=by
 unfold fT at h
 by_cases k0:c.kind=0
 ·rw [if_pos k0] at h
  exact ⟨.inl k0,fun h'=>by omega,lF h⟩
 ·rw [if_neg k0] at h
  by_cases k12:c.kind=1∨c.kind=2
  ·rw [if_pos k12] at h
   simp only [Bool.and_eq_true,decide_eq_true_eq] at h
   exact ⟨.inr k12,fun _=>h.2.1,by omega⟩
  ·rw [if_neg k12] at h;cases h
theorem Jt{rs:List aB}(hg:j9 rs){r:aB}(hr:r ∈ rs):iP r=true:=by
 have:=((sF rs).1 hg).2.1
 rw [List.all_eq_true] at this
 exact this r hr
theorem sK{rs:List aB}(hg:j9 rs){r:aB}(hr:r ∈ rs){c:dO}(hc:c ∈ r.body.l):fT c=true:=by
 have:=Jt hg hr
 unfold iP at this
 simp only [Bool.and_eq_true] at this
 have h5:=this.2.2.2.1
 rw [List.all_eq_true] at h5
 exact h5 c hc
theorem sL{s:dw}{nm:bC}{k:Int}{r:Rel}(h:s.rels.l.find? (jX nm k)=some r):r ∈ s.rels.l∧r.name=nm∧r.arity=k:=by
 have h1:=List.mem_of_find?_eq_some h
 have h2:=List.find?_some h
 simp only [jX,Bool.and_eq_true,beq_iff_eq,decide_eq_true_eq] at h2
 exact ⟨h1,h2.1,by first|exact h2.2|exact h2.2.symm⟩
theorem Ju{n:Nat}{rs:List aB}{s:dw}{m:dF}{D0:DB}(hgo:dc rs []=some m)(hsv:di s=true)(hn:s.size=(n:Int))(h4:¬ Js rs s)(h5:¬ LG rs s)(sd:xb n rs s D0){r:aB}(hr:r ∈ rs){c:dO}(hc:c ∈ r.body.l)(k0:c.kind=0) :
  n ^ c.args.l.length≤4096∧∃ p,D0 c.name=some p∧p.2.length=n ^ c.args.l.length:=by
 have hnn:s.size.toNat=n:=by omega
 have hat:=oG hr hc k0
 by_cases hd:c.name ∈ aY rs
 ·obtain ⟨q,hq,hqn⟩:=List.mem_map.1 hd
  have hl:q.args.l.length=c.args.l.length:=by
   have:=kg hgo (jt hq) (by rw [hqn];exact hat)
   omega
  obtain ⟨b,hb⟩:=sd.head q hq
  rw [hqn] at hb
  refine ⟨?_,_,hb,by rw [List.length_replicate,hl]⟩
  rw [← hl,← hnn]
  exact Nat.le_of_not_lt fun h=>h5 (.inr (.inl ⟨q,hq,h⟩))
 ·cases hf:s.rels.l.find? (jX c.name (c.args.l.length:Int)) with
  |none=>exact absurd (.inl ⟨_,hat,hd,hf⟩) h4
  |some q=>
   obtain ⟨hq,hqn,hqa⟩:=sL hf
   obtain ⟨i,hi⟩:=List.mem_iff_getElem?.1 hq
   have hrb:=rI hsv hi
   rw [hnn] at hrb
   obtain ⟨k,hk,k12,hkc,hkt⟩:=sC hrb
   obtain ⟨b,hb⟩:=sd.rel q hq
   have hkl:k=c.args.l.length:=by omega
   rw [hqn] at hb
   exact ⟨by rw [← hkl];exact hkc,_,hb,by rw [jV];congr 1;omega⟩
theorem pT{n:Nat}{rs:List aB}{s:dw}{D0:DB}(hn:s.size=(n:Int))(h5:¬ LG rs s)(sd:xb n rs s D0){r:aB}(hr:r ∈ rs):n ^ r.args.l.length≤4096∧∃ p,D0 r.name=some p∧p.2.length=n ^ r.args.l.length:=by
 have hnn:s.size.toNat=n:=by omega
 obtain ⟨b,hb⟩:=sd.head r hr
 refine ⟨?_,_,hb,List.length_replicate⟩
 rw [← hnn]
 exact Nat.le_of_not_lt fun h=>h5 (.inr (.inl ⟨r,hr,h⟩))
theorem F8{n:Nat}{rs:List aB}{s:dw}{m:dF}{D0:DB}(hg:j9 rs)(hgo:dc rs []=some m)(hsv:di s=true)(hn:s.size=(n:Int))(h4:¬ Js rs s)(h5:¬ LG rs s)(sd:xb n rs s D0){r:aB}(hr:r ∈ rs)(D:DB)(hd:eu D D0):Bc n D r:=
 ⟨fun c hc k0=>by
  obtain ⟨a,p0,b1,b2⟩:=Ju hgo hsv hn h4 h5 sd hr hc k0
  obtain ⟨p,c1,_,c3⟩:=hd.get b1
  exact ⟨a,p,c1,by rw [c3];exact b2⟩,fun c hc=>(vE (sK hg hr hc)).two,fun c hc=>(vE (sK hg hr hc)).kinds,fun c hc=>(vE (sK hg hr hc)).arity⟩
theorem F9(N k:Nat):(List.replicate N false).getD k false=false:=by
 rw [List.getD_eq_getElem?_getD,List.getElem?_replicate];split<;>rfl
theorem oI{s:dw}(hsv:di s=true){r:Rel}(hr:r ∈ s.rels.l):s.rels.l.find? (dU r.name)=some r:=nG (jY hsv) r hr
theorem HA{n:Nat}{rs:List aB}{s:dw}{D0:DB}(hsv:di s=true)(h4:¬ Js rs s)(sd:xb n rs s D0):dB D0=rQ n s:=by
 funext nm k
 unfold rQ
 cases hf:s.rels.l.find? (dU nm) with
 |some r=>
  have hr:=List.mem_of_find?_eq_some hf
  have hn:=List.find?_some hf
  simp only [dU,beq_iff_eq] at hn
  obtain ⟨b,hb⟩:=sd.rel r hr
  rw [hn] at hb
  unfold dB
  rw [hb]
 |none=>
  unfold dB
  cases hp:D0 nm with
  |none=>rfl
  |some p=>
   rcases sd.only nm p hp with hh|⟨r,hr,hrn⟩
   ·obtain ⟨r,hr,hrn⟩:=List.mem_map.1 hh
    obtain ⟨b,hb⟩:=sd.head r hr
    rw [hrn,hp] at hb
    cases hb
    exact F9 _ _
   ·rw [List.find?_eq_none] at hf
    exact absurd (hf r hr) (by simp [dU,hrn])
theorem HB{rules:Sl aB}{s:dw}(hfew:∀ r ∈ rules.l,r.kH)(hg:j9 rules.l)(hsv:di s=true)(h4:¬ Js rules.l s)(h5:¬ LG rules.l s){n P A M S B lo k:Nat}{ks:List bC}{D0:DB}{m:dF}{h:ag}(hn:s.size=(n:Int))(n1:1≤n)(n64:n≤64)
  (hst:Lev.de (bM rules.l) (Lev.iter (bM rules.l) k)) (sh:Hy n P A M S B lo rules ks (Lev.iter (bM rules.l) k) D0 m h) (sd:xb n rules.l s D0) {ng:FuncId} {na nb:List AV}
  (note:∀ (i:Int) (r:aB) (k:Int) (hd:Sl Int) (cs:Sl (Sl Int)) (ls:Sl Int) (y:AV) (h:ag) (K:Out→ag→Bool),(∀ h',bR h h'→K (.ret (.tuple [])) h'=true)→Sem Tryz.prog ng (na++([.agg (bI i r k (aq encI 1 hd) (aq eE 1 cs) (aq encI 1 ls)),y]++nb)) h K)
  {K:Out→ag→Bool} (hK:∀ h' D' F,fW rules.l n s F→dB D'=F→eu D' D0→Hy n P A M S B lo rules ks (Lev.iter (bM rules.l) k) D' m h'→(∀ b,b<lo→h'.get b=h.get b)→h.next≤h'.next→K (.ret (.tuple [])) h'=true) :
  Sem Tryz.prog 46 [.ptr P 0,.ptr S 0,.func ng na nb] h K:=by
 obtain ⟨hP,hl,hks,hgo,⟨es,ck,hA,hmB⟩,hS,hD,o1,o2,o3,o4,o5,o6⟩:=sh
 have hgok:=fU hgo
 have hrow:∀ nm p,D0 nm=some p→lo≤p.1:=fun nm p hp=>(hD.blk nm p hp).1
 have o:KY S n D0 rules.l ng na nb:=
  ⟨n1,n64,hfew,fun r hr=>(hgok r hr).2.2,fun nm p hp=>by have:=hrow nm p hp;omega,fun r hr D hd=>F8 hg hgo hsv hn h4 h5 sd hr D hd,fun r hr=>⟨(pT hn h5 sd hr).1,lF (hgok r hr).1,(pT hn h5 sd hr).2⟩,note,hg.kH⟩
 refine I9 o hP (by omega) hl hks (by omega) (fun r hr=>List.mem_map_of_mem hr) (Hz hg.kH (fun r hr=>(hgok r hr).2.1) hst) hS (by omega) hD (fun nm p hp=>by have:=hrow nm p hp;omega) fun h' D' T hT hrun hdim hbit hfr hnx=>?_
 have keep:∀ b,b<lo→h'.get b=h.get b:=fun b hb=>hfr b (by omega) fun nm p hp=>by have:=hrow nm p hp;omega
 have hlen:mj n rules.l D0:=fun r hr p hp=>by
  obtain ⟨_,q,h1,h2⟩:=pT hn h5 sd hr
  rw [h1] at hp;cases hp;exact h2
 have hch:=(Jn n1 (sJ hst) hlen (fun r hr=>by obtain ⟨_,q,h1,_⟩:=pT hn h5 sd hr;exact ⟨q,h1⟩) hrun).1
 rw [HA hsv h4 sd] at hch
 refine hK h' D' (dB D') ⟨k,T+1,hst,fun r hr=>by have:=hT r.name (List.mem_map_of_mem hr);omega,hch⟩ rfl hdim ⟨by rw [keep _ (by omega)];exact hP,hl.keep (keep _ (by omega)),hks,hgo,⟨es,ck,by rw [keep _ (by omega)];exact hA,hmB⟩,by rw [keep _ (by omega)];exact hS,hbit,by omega⟩ keep hnx
end
end Go.AM
namespace Go.AM
open Go Go.Proofs
noncomputable section
theorem HC{o:List bC}{s:bC}(h:o.Nodup):(wJ o s).Nodup:=by
 unfold wJ
 split
 ·exact h
 ·rename_i hn
  refine List.nodup_append.2 ⟨h,by simp,fun a ha b hb e=>?_⟩
  rw [List.mem_singleton] at hb
  subst hb;subst e
  exact hn (List.any_eq_true.2 ⟨a,ha,beq_self_eq_true a⟩)
theorem vF:∀ {l o:List bC},o.Nodup→(eA o l).Nodup
 |[],o,h=>h
 |s :: l,o,h=>vF (l:=l) (HC h)
theorem pU(r:aB):(varsOf r).Nodup:=by rw [uf];exact vF List.nodup_nil
theorem C9{x:Sl bC}{s:bC}(hn:x.l.Nodup)(hx:x.l.length≤cm)(hs:s ∈ x.l){h:ag}{K:Out→ag→Bool}(hK:K (.ret (.int .i64 ((x.l.idxOf s:Nat):Int))) h=true):Sem Tryz.prog 58 [aq encS 1 x,.str s] h K:=by
 refine dL hx (fun i hi=>?_) fun hno=>absurd hs hno
 have h1:x.l.idxOf s<x.l.length:=List.idxOf_lt_length_of_mem hs
 have h2:x.l[x.l.idxOf s]?=some s:=by rw [List.getElem?_eq_getElem h1,List.getElem_idxOf]
 rw [lD hn hi h2]
 exact hK
theorem rR{all xs:Sl bC}{at_:Sl Int}(hn:all.l.Nodup)(hal:all.l.length≤cm)(hxl:xs.l.length≤1000000)(hin:∀ s ∈ xs.l,s ∈ all.l)(hat:at_.l.length=all.l.length) :
  Sem Tryz.prog 78 [aq encS 1 all,aq encS 1 xs,aq encI 1 at_] ag.empty (fun o h'=>yes (∃ v,o = .ret v∧Fz false h' v (aq encI 1 (some (aR at_.l (placesOf all.l xs.l)))))):=by
 have hxb:xs.l.length≤cm:=by unfold cm;omega
 refine F.wE ?_
 rw [F.yT]
 simp only [aQ,Nat.reduceAdd,Nat.reduceEqDiff,reduceIte,sr hxl,bp]
 have g0:=aI ag.empty (.cells ((List.replicate xs.l.length (0:Int)).map iv))
 rw [bp] at g0
 generalize ag.empty.alloc (.cells ((List.replicate xs.l.length (0:Int)).map iv))=H at g0 ⊢
 refine aE 0 xs.l.length (Nat.zero_le _) (fun i e h'=>∃ d:List Int,d.length=xs.l.length∧d.take i=(aR at_.l (placesOf all.l xs.l)).take i∧h'.get 0=some (.cells (d.map iv)) ∧
  e 0=aq encS 1 all∧e 1=aq encS 1 xs∧e 2=aq encI 1 at_∧e 7 = .slice 0 0 xs.l.length 1∧e 8 = .int .i64 (i:Int)) ⟨List.replicate xs.l.length 0,by simp,rfl,g0,rfl,rfl,rfl,rfl,rfl⟩ ?_ ?_
 ·rintro i e h' _ hi ⟨d,dl,dt,q0,e0,e1,e2,e7,e8⟩ K' hn' hx hr hp
  have hv:xs.l[i]?=some xs.l[i]:=List.getElem?_eq_getElem hi
  generalize xs.l[i]=s at hv
  have hsm:=hin s (List.mem_of_getElem? hv)
  have hix:all.l.idxOf s<at_.l.length:=by rw [hat];exact List.idxOf_lt_length_of_mem hsm
  have hw:at_.l[all.l.idxOf s]?=some (at_.l.getD (all.l.idxOf s) 0):=by rw [List.getD_eq_getElem?_getD,List.getElem?_eq_getElem hix];rfl
  have hpk:(aR at_.l (placesOf all.l xs.l))[i]?=some (at_.l.getD (all.l.idxOf s) 0):=by unfold aR placesOf;rw [List.map_map,List.getElem?_map,hv];rfl
  rw [F.eo.aN]
  simp only [e0,e1,e2,e7,e8,aQ,Nat.reduceAdd,Nat.reduceEqDiff,reduceIte,bf hi,aS xs hi,iq hv]
  refine ak (C9 hn hal hsm ?_)
  simp only [aQ,Nat.reduceAdd,Nat.reduceEqDiff,reduceIte,e2,e7,e8,aS at_ hix,eT hw,jy hi,mV q0 (show i<d.length by omega),aK hi hxb]
  refine hn' _ _ ⟨d.set i (at_.l.getD (all.l.idxOf s) 0),by simp [dl],?_,by rw [ag.aO,if_pos rfl],e0,e1,e2,e7,rfl⟩
  rw [List.take_add_one,List.take_add_one,hpk,List.take_set_of_le (Nat.le_refl _),dt,List.getElem?_set,if_pos rfl,if_pos (by omega)]
 ·rintro e h' ⟨d,dl,dt,q0,e0,e1,e2,e7,e8⟩ K' hx
  rw [F.eo.aN]
  simp only [e1,e8,aQ,Nat.reduceAdd,Nat.reduceEqDiff,reduceIte,aT]
  rw [hx,F.eo.aG]
  simp only [bt,Nat.reduceEqDiff,reduceIte,e7]
  have hd:d=aR at_.l (placesOf all.l xs.l):=by
   have h2:(aR at_.l (placesOf all.l xs.l)).length=xs.l.length:=by unfold aR placesOf;simp
   rw [List.take_of_length_le (by omega),List.take_of_length_le (by omega)] at dt
   exact dt
  subst hd
  refine cw.2 ⟨_,rfl,?_⟩
  have:=nD (old:=false) q0
  rwa [dl] at this
theorem eo{all xs:Sl bC}{at_:Sl Int}(hn:all.l.Nodup)(hal:all.l.length≤cm)(hxl:xs.l.length≤1000000)(hin:∀ s ∈ xs.l,s ∈ all.l)(hat:at_.l.length=all.l.length){h:ag}{K:Out→ag→Bool}
  (hK:K (.ret (aq encI 1 (some (aR at_.l (placesOf all.l xs.l))))) h=true):Sem Tryz.prog 78 [aq encS 1 all,aq encS 1 xs,aq encI 1 at_] h K:=
 (rR hn hal hxl hin hat).L7 (jB.cons (.dD (bF gH _)) (jB.cons (.dD (bF gH _)) (jB.cons (.dD (bF iL _)) .nil))) fun o h' ho=>by
  obtain ⟨v,rfl,hf⟩:=cw.1 ho
  exact ⟨_,_,rfl,hf,hK⟩
theorem By{all xs:Sl bC}{vs:List Int}{V:Nat}(hn:all.l.Nodup)(hal:all.l.length≤cm)(hxl:xs.l.length≤1000000)(hin:∀ s ∈ xs.l,s ∈ all.l)(hat:vs.length=all.l.length){h:ag}(hV:h.get V=some (.cells (vs.map iv))){K:Out→ag→Bool}
  (hK:K (.ret (aq encI 1 (some (aR vs (placesOf all.l xs.l))))) h=true):Sem Tryz.prog 78 [aq encS 1 all,aq encS 1 xs,.slice V 0 vs.length 1] h K:=
 (rR (at_:=some vs) hn hal hxl hin hat).L7 (jB.cons (.dD (bF gH _)) (jB.cons (.dD (bF gH _)) (jB.cons (nD hV) .nil))) fun o h' ho=>by
  obtain ⟨v,rfl,hf⟩:=cw.1 ho
  exact ⟨_,_,rfl,hf,hK⟩
theorem fM{n:Nat}(h1:1≤n){x:Sl Int}{k:Nat}(hk:x.l.length=k)(hx:k≤12)(hc:n ^ k≤4096)(hb:gQ n x.l=true){h:ag}{K:Out→ag→Bool}
  (hK:K (.ret (.int .i64 ((gY n x.l:Nat):Int))) h=true):Sem Tryz.prog 77 [.int .i64 (n:Int),aq encI 1 x] h K:=by
 subst hk
 have hbig:x.l.length≤cm:=by unfold cm;omega
 refine F.AW ?_
 rw [F.Cb]
 refine aE 0 x.l.length (Nat.zero_le _) (fun i e h'=>h'=h∧e 0 = .int .i64 (n:Int)∧e 5 = .int .i64 ((gY n (x.l.take i):Nat):Int)∧e 1=aq encI 1 x∧e 6 = .int .i64 (i:Int)) ⟨rfl,rfl,rfl,rfl,rfl⟩ ?_ ?_
 ·rintro i e h' _ hi ⟨rfl,e0,e5,e1,e6⟩ K' hn hx' hr hp
  have hv:x.l[i]?=some x.l[i]:=List.getElem?_eq_getElem hi
  rw [F.fM.aN]
  simp only [e0,e1,e5,e6,aQ,Nat.reduceAdd,Nat.reduceEqDiff,reduceIte,bf hi,aS x hi,eT hv,(lU hb h1 hc hv).1,(lU hb h1 hc hv).2,aK hi hbig]
  exact hn _ _ ⟨rfl,e0,rfl,e1,rfl⟩
 ·rintro e h' ⟨rfl,e0,e5,e1,e6⟩ K' hx'
  rw [F.fM.aN]
  simp only [e1,e6,aQ,Nat.reduceAdd,Nat.reduceEqDiff,reduceIte,aT]
  rw [hx',F.fM.aG]
  simp only [e5,bt,Nat.reduceEqDiff,reduceIte]
  rw [List.take_of_length_le (Nat.le_refl _)]
  exact hK
theorem uq(t:gq):AV.pureL (g8 t)=true:=by simp [g8,wO,AV.pureL,AV.pure,bF CA]
theorem Li{x:Sl gq}{j:Nat}{t:gq}(ht:x.l[j]?=some t){h:ag}:ai none (.iptr (x.l.flatMap g8) (j*3)) h=some (.str t.name):=eM (enc:=g8) (fun _=>rfl) ht (by omega:0<3)
theorem Lj{x:Sl gq}{j:Nat}{t:gq}(ht:x.l[j]?=some t){h:ag}:ai none (.iptr (x.l.flatMap g8) (j*3+2)) h=some (aq BO 1 (some t.bits)):=eM (enc:=g8) (fun _=>rfl) ht (by omega:2<3)
theorem Jv{l:List Bool}{i:Nat}{v:Bool}(hv:l[i]?=some v){h:ag}:ai none (.iptr (l.flatMap BO) (i*1)) h=some (.bool v):=by
 rw [oW (enc:=BO) (fun _=>rfl) hv];rfl
theorem gz{n:Nat}(n1:1≤n){x:Sl gq}(hxl:x.l.length≤cm){nm:bC}{t:Sl Int}{k:Nat}(htl:t.l.length=k)(hk:k≤12)(hc:n ^ k≤4096)(hb:gQ n t.l=true)(hbits:∀ q ∈ x.l,q.name=nm→q.bits.length=n ^ k){h:ag}{K:Out→ag→Bool}
  (hK:K (.ret (.bool (cY x.l nm (gY n t.l)))) h=true):Sem Tryz.prog 120 [aq g8 3 x,.int .i64 (n:Int),.str nm,aq encI 1 t] h K:=by
 refine F.DY ?_
 rw [F.Fm]
 refine aE 0 x.l.length (Nat.zero_le _) (fun i e h'=>h'=h∧(∀ q ∈ x.l.take i,q.name≠nm)∧e 0=aq g8 3 x∧e 1 = .int .i64 (n:Int)∧e 2 = .str nm∧e 3=aq encI 1 t∧e 9 = .int .i64 (i:Int)) ⟨rfl,fun q hq=>(by cases hq),rfl,rfl,rfl,rfl,rfl⟩ ?_ ?_
 ·rintro i e h' _ hi ⟨rfl,hno,e0,e1,e2,e3,e9⟩ K' hn hx hr hp
  have hv:x.l[i]?=some x.l[i]:=List.getElem?_eq_getElem hi
  generalize x.l[i]=q at hv
  rw [F.gz.aN]
  simp only [e0,e1,e2,e3,e9,aQ,Nat.reduceAdd,Nat.reduceEqDiff,reduceIte,bf hi,aS x hi,Li hv,nC]
  by_cases hq:q.name=nm
  ·have hbl:=hbits q (List.mem_of_getElem? hv) hq
   have hrk:gY n t.l<q.bits.length:=by have:=lC hb;rw [htl] at this;omega
   have hbit:q.bits[gY n t.l]?=some (q.bits.getD (gY n t.l) false):=by rw [List.getD_eq_getElem?_getD,List.getElem?_eq_getElem hrk];rfl
   have hlk:cY x.l nm (gY n t.l)=q.bits.getD (gY n t.l) false:=by
    have:x.l.find? (fun t=>t.name==nm)=some q:=by
     rw [List.find?_eq_some_iff_getElem]
     refine ⟨by simp [hq],i,hi,(List.getElem?_eq_some_iff.1 hv).2,fun j hj=>?_⟩
     have hm:x.l[j]'(by omega) ∈ x.l.take i:=List.mem_take_iff_getElem.2 ⟨j,by omega,rfl⟩
     have:=hno _ hm
     simp [this]
    unfold cY
    rw [this]
   have hlb:∀ hh,ai none (.iptr (x.l.flatMap g8) (i*3+2)) hh=some (aq BO 1 (some q.bits)):=fun hh=>Lj hv
   simp only [decide_eq_true hq,aC,hlb,aQ,Nat.reduceAdd,Nat.reduceEqDiff,reduceIte]
   refine ak (fM n1 htl hk hc hb ?_)
   simp only [aQ,Nat.reduceAdd,Nat.reduceEqDiff,reduceIte,hlb,AV.beq_refl,Bool.and_self,Bool.and_true,if_true,aS (enc:=BO) (sz:=1) (some q.bits) (show gY n t.l<(Sl.l (some q.bits)).length from hrk)]
   rw [show Sl.l (some q.bits)=q.bits from rfl]
   simp only [Jv hbit,bindO_some]
   rw [hr,F.gz.aZ]
   simp only [bt,Nat.reduceEqDiff,reduceIte]
   rw [← hlk];exact hK
  ·simp only [decide_eq_false hq,aD,e9,aK hi hxl,bindO_some]
   refine hn _ _ ⟨rfl,fun p hp'=>?_,e0,e1,e2,e3,rfl⟩
   rw [List.take_add_one,hv] at hp'
   rcases List.mem_append.1 hp' with hp'|hp'
   ·exact hno p hp'
   ·simp only [Option.toList_some,List.mem_singleton] at hp'
    subst hp';exact hq
 ·rintro e h' ⟨rfl,hno,e0,e1,e2,e3,e9⟩ K' hx
  rw [List.take_of_length_le (Nat.le_refl _)] at hno
  rw [F.gz.aN]
  simp only [e0,e9,aQ,Nat.reduceAdd,Nat.reduceEqDiff,reduceIte,aT]
  rw [hx,F.gz.aG]
  have:cY x.l nm (gY n t.l)=false:=by
   unfold cY
   have hf:x.l.find? (fun t=>t.name==nm)=none:=by
    rw [List.find?_eq_none]
    intro q hq;simp [hno q hq]
   rw [hf]
  rw [this] at hK
  exact hK
structure jw (n:Nat) (r:aB) (ts:List gq):Prop where
 len:ts.length≤cm
 conds:∀ c ∈ r.body.l,On c
 rel:∀ c ∈ r.body.l,c.kind=0→n ^ c.args.l.length≤4096∧∀ q ∈ ts,q.name=c.name→q.bits.length=n ^ c.args.l.length
set_option maxHeartbeats 1000000 in
theorem cN{n:Nat}(n1:1≤n){r:aB}(hf:r.kH)(hk:(varsOf r).length≤12){all:Sl bC}(hall:all.l=varsOf r){vs:Sl Int}(hvs:ux n r vs.l){x:Sl gq}(hx:jw n r x.l){h:ag}{K:Out→ag→Bool}
  (hK:K (.ret (.bool (kj n (cY x.l) r vs.l))) h=true):Sem Tryz.prog 65 [.agg (aL r),aq encS 1 all,aq encI 1 vs,aq g8 3 x,.int .i64 (n:Int)] h K:=by
 refine Sem.data (r:=.bool (kj n (cY x.l) r vs.l)) ?_ (by simp [AV.pureL,AV.pure,dR,bF gH,bF iL,bF uq]) hK
 clear hK
 have hbb:r.body.l.length≤cm:=by have:=hf.2.1;unfold cm;omega
 refine F.vi ?_
 rw [F.wF]
 simp only [cA (ij r),bindO_some,bp]
 have g0:(ag.empty.alloc (.cells (aL r))).get 0=some (.cells (aL r)):=aI _ _
 have gn:(ag.empty.alloc (.cells (aL r))).next=1:=rfl
 generalize (ag.empty.alloc (.cells (aL r)))=H0 at g0 gn ⊢
 refine aE 0 r.body.l.length (Nat.zero_le _) (fun i e h'=>h'.get 0=some (.cells (aL r))∧1≤h'.next∧(r.body.l.take i).all (fun c=>cX n (cY x.l) c (aR vs.l (aU r c)))=true ∧
  e 1=aq encS 1 all∧e 2=aq encI 1 vs∧e 3=aq g8 3 x∧e 4 = .int .i64 (n:Int)∧e 5 = .ptr 0 0∧e 11 = .int .i64 (i:Int)) ⟨g0,by omega,rfl,rfl,rfl,rfl,rfl,rfl,rfl⟩ ?_ ?_
 ·rintro i e h' _ hi ⟨q0,qn,ht,e1,e2,e3,e4,e5,e11⟩ K' hn hx' hr hp
  have hv:r.body.l[i]?=some r.body.l[i]:=List.getElem?_eq_getElem hi
  generalize r.body.l[i]=c at hv
  have hcm:=List.mem_of_getElem? hv
  have hcf:=hx.conds c hcm
  have lb:ai none (.ptr 0 2) h'=some (aq bO 4 r.body):=by rw [an q0];rfl
  obtain ⟨H,hs1,g1,go,gn1⟩:=cL (h:=h') (zs:=[.int .i64 0,.bool false,.str [],.nils]) (cs:=bO c) (n:=4) rfl rfl (gm c)
  have la:ai none (.ptr h'.next 3) H=some (aq encS 1 c.args):=by rw [an g1];rfl
  have lk:ai none (.ptr h'.next 0) H=some (.int .i64 c.kind):=by rw [an g1];rfl
  have ln:ai none (.ptr h'.next 2) H=some (.str c.name):=by rw [an g1];rfl
  have lg:ai none (.ptr h'.next 1) H=some (.bool c.neg):=by rw [an g1];rfl
  have p0:H.get 0=some (.cells (aL r)):=by rw [go 0 (by omega)];exact q0
  have hplen:(aU r c).length=c.args.l.length:=by unfold aU placesOf;simp
  have hpl:∀ p ∈ aU r c,p<vs.l.length:=by rw [hvs.1];exact ir (jq hcm)
  have hvl:=fV vs.l (aU r c)
  have hin:=iN hvs.2 hpl
  have step:∀ (b:Bool) (e':Env),cX n (cY x.l) c (aR vs.l (aU r c)) = !(b==c.neg)→e' 1=aq encS 1 all→e' 2=aq encI 1 vs→e' 3=aq g8 3 x→e' 4 = .int .i64 (n:Int)→e' 5 = .ptr 0 0→e' 11 = .int .i64 ((i+1:Nat):Int)→b≠c.neg→K' .normal ⟨e',64,[],H⟩=true:=fun b e' hcv e1 e2 e3 e4 e5 e11 hb=>by
   refine hn _ _ ⟨p0,by omega,ic hv ht ?_,e1,e2,e3,e4,e5,e11⟩
   rw [hcv];simp [hb]
  have stop:∀ (b:Bool),cX n (cY x.l) c (aR vs.l (aU r c)) = !(b==c.neg)→b=c.neg→kj n (cY x.l) r vs.l=false:=fun b hcv hb=>by
   unfold kj
   exact all_false hv (by rw [hcv];simp [hb])
  rw [F.cN.aN]
  simp only [e1,e2,e5,e11,aQ,Nat.reduceAdd,Nat.reduceEqDiff,reduceIte,lb,bf hi,aS r.body hi,cZ gl hv,hs1]
  simp only [aQ,Nat.reduceAdd,Nat.reduceEqDiff,reduceIte,la]
  have hval:=fun {K} hk=>eo (all:=all) (xs:=c.args) (at_:=vs) (h:=H) (K:=K) (by rw [hall];exact pU r) (by rw [hall];unfold cm;omega) (by have:=hcf.arity;omega) (by rw [hall];exact jq hcm) (by rw [hall,hvs.1]) hk
  refine ak (hval ?_)
  rw [show placesOf all.l c.args.l=aU r c by rw [hall];rfl]
  simp only [aQ,Nat.reduceAdd,Nat.reduceEqDiff,reduceIte,lk,ct]
  by_cases k0:c.kind=0
  ·obtain ⟨hpow,hbits⟩:=hx.rel c hcm k0
   simp only [decide_eq_true k0,aC,aQ,Nat.reduceAdd,Nat.reduceEqDiff,reduceIte,ln,e3,e4]
   refine ak (gz n1 hx.len (t:=some (aR vs.l (aU r c))) (k:=c.args.l.length) (by show (aR vs.l (aU r c)).length=_;rw [hvl,hplen]) hcf.arity hpow hin hbits ?_)
   rw [show Sl.l (some (aR vs.l (aU r c)))=aR vs.l (aU r c) from rfl]
   have hcv:cX n (cY x.l) c (aR vs.l (aU r c)) = !(cY x.l c.name (gY n (aR vs.l (aU r c)))==c.neg):=by unfold cX;rw [if_pos k0];rfl
   simp only [aQ,Nat.reduceAdd,Nat.reduceEqDiff,reduceIte,lg]
   cases hb:(cY x.l c.name (gY n (aR vs.l (aU r c)))==c.neg) with
   |true=>
    simp only [aC]
    rw [hr,F.cN.aZ]
    simp only [bt,Nat.reduceEqDiff,reduceIte]
    rw [stop _ hcv (by simpa using hb)]
    exact cK rfl
   |false=>
    simp only [aD,e11,aK hi hbb,bindO_some]
    exact step _ _ hcv e1 e2 e3 e4 e5 rfl (by simpa using hb)
  ·have h2:(aR vs.l (aU r c)).length=2:=by rw [hvl,hplen];exact hcf.two (hcf.kinds.resolve_left k0)
   have v0:(aR vs.l (aU r c))[0]?=some ((aR vs.l (aU r c)).getD 0 0):=by rw [List.getD_eq_getElem?_getD,List.getElem?_eq_getElem (by omega:0<(aR vs.l (aU r c)).length)];rfl
   have v1:(aR vs.l (aU r c))[1]?=some ((aR vs.l (aU r c)).getD 1 0):=by rw [List.getD_eq_getElem?_getD,List.getElem?_eq_getElem (by omega:1<(aR vs.l (aU r c)).length)];rfl
   have i0:cS 1 (aq encI 1 (some (aR vs.l (aU r c)))) (.int .i64 0)=some (.iptr ((aR vs.l (aU r c)).flatMap encI) (0*1)):=aS (enc:=encI) (sz:=1) (k:=.i64) (some (aR vs.l (aU r c))) (i:=0) (by show 0<(aR vs.l (aU r c)).length;omega)
   have i1:cS 1 (aq encI 1 (some (aR vs.l (aU r c)))) (.int .i64 1)=some (.iptr ((aR vs.l (aU r c)).flatMap encI) (1*1)):=aS (enc:=encI) (sz:=1) (k:=.i64) (some (aR vs.l (aU r c))) (i:=1) (by show 1<(aR vs.l (aU r c)).length;omega)
   have g0':∀ hh,ai none (.iptr ((aR vs.l (aU r c)).flatMap encI) (0*1)) hh=some (.int .i64 ((aR vs.l (aU r c)).getD 0 0)):=fun hh=>eT (x:=some (aR vs.l (aU r c))) v0
   have g1':∀ hh,ai none (.iptr ((aR vs.l (aU r c)).flatMap encI) (1*1)) hh=some (.int .i64 ((aR vs.l (aU r c)).getD 1 0)):=fun hh=>eT (x:=some (aR vs.l (aU r c))) v1
   simp only [decide_eq_false k0,aD]
   by_cases k1:c.kind=1
   ·have hcv:cX n (cY x.l) c (aR vs.l (aU r c)) = !(decide ((aR vs.l (aU r c)).getD 0 0=(aR vs.l (aU r c)).getD 1 0)==c.neg):=by unfold cX;rw [if_neg k0,if_pos k1];rfl
    simp only [decide_eq_true k1,aC,i0,i1,g0',g1',aQ,Nat.reduceAdd,Nat.reduceEqDiff,reduceIte,lg,ct]
    cases hb:(decide ((aR vs.l (aU r c)).getD 0 0=(aR vs.l (aU r c)).getD 1 0)==c.neg) with
    |true=>
     simp only [aC]
     rw [hr,F.cN.aZ]
     simp only [bt,Nat.reduceEqDiff,reduceIte]
     rw [stop _ hcv (by simpa using hb)]
     exact cK rfl
    |false=>
     simp only [aD,e11,aK hi hbb,bindO_some]
     exact step _ _ hcv e1 e2 e3 e4 e5 rfl (by simpa using hb)
   ·have hcv:cX n (cY x.l) c (aR vs.l (aU r c)) = !(decide ((aR vs.l (aU r c)).getD 0 0<(aR vs.l (aU r c)).getD 1 0)==c.neg):=by unfold cX;rw [if_neg k0,if_neg k1];rfl
    simp only [decide_eq_false k1,aD,i0,i1,g0',g1',aQ,Nat.reduceAdd,Nat.reduceEqDiff,reduceIte,lg]
    cases hb:(decide ((aR vs.l (aU r c)).getD 0 0<(aR vs.l (aU r c)).getD 1 0)==c.neg) with
    |true=>
     simp only [aC]
     rw [hr,F.cN.aZ]
     simp only [bt,Nat.reduceEqDiff,reduceIte]
     rw [stop _ hcv (by simpa using hb)]
     exact cK rfl
    |false=>
     simp only [aD,e11,aK hi hbb,bindO_some]
     exact step _ _ hcv e1 e2 e3 e4 e5 rfl (by simpa using hb)
 ·rintro e h' ⟨q0,qn,ht,e1,e2,e3,e4,e5,e11⟩ K' hx'
  rw [List.take_of_length_le (Nat.le_refl _)] at ht
  have lb:ai none (.ptr 0 2) h'=some (aq bO 4 r.body):=by rw [an q0];rfl
  rw [F.cN.aN]
  simp only [e5,e11,aQ,Nat.reduceAdd,Nat.reduceEqDiff,reduceIte,lb,aT]
  rw [hx',F.cN.aG]
  have:kj n (cY x.l) r vs.l=true:=ht
  rw [this]
  exact cK rfl
end
end Go.AM
namespace Go.AM
open Go Go.Proofs
noncomputable section
theorem ur{n:Nat}(n1:1≤n)(m Q:Nat):∀ z,dA n (m+z) (Q*n ^ z)=dA n m Q++List.replicate z 0
 |0=>by simp
 |z+1=>by
  have h1:Q*n ^ (z+1)/n=Q*n ^ z:=by rw [Nat.pow_succ,← Nat.mul_assoc,Nat.mul_div_cancel _ n1]
  have h2:Q*n ^ (z+1)%n=0:=by rw [Nat.pow_succ,← Nat.mul_assoc,Nat.mul_mod_left]
  rw [← Nat.add_assoc,dA,h1,h2,ur n1 m Q z,List.append_assoc,List.replicate_succ']
  rfl
theorem Jw{n:Nat}(n1:1≤n)(k:Nat):dA n k 0=List.replicate k 0:=by
 have:=ur n1 0 0 k
 simpa [dA] using this
theorem fB{V n k i:Nat}(n1:1≤n)(n64:n≤64)(hk:k≤12)(hi:i<n ^ k){h:ag}(hV:h.get V=some (.cells ((dA n k i).map iv))){K:Out→ag→Bool}
  (hyes:i+1<n ^ k→∀ h',h'.get V=some (.cells ((dA n k (i+1)).map iv))→(∀ b,b≠V→h'.get b=h.get b)→h'.next=h.next→K (.ret (.bool true)) h'=true)
  (hno:i+1=n ^ k→∀ h',(∀ b,b≠V→h'.get b=h.get b)→h'.next=h.next→K (.ret (.bool false)) h'=true):Sem Tryz.prog 76 [.slice V 0 k 1,.int .i64 (n:Int)] h K:=by
 have hl:∀ h,bQ .slice (.slice V 0 k 1) h=some (.int .i64 (k:Int)):=fun _=>rfl
 have hsub:aJ .sub (.int .i64 (k:Int)) (.int .i64 1)=some (.int .i64 ((k:Int)-1)):=zl (by omega) (by omega)
 refine F.AU ?_
 rw [F.Ca]
 simp only [hl,bindO_some,hsub]
 refine jb (fun m e h'=>∃ q z,m+z=k∧h'.get V=some (.cells ((dA n m q++List.replicate z (0:Int)).map iv))∧i+1=(q+1)*n ^ z∧(∀ b,b≠V→h'.get b=h.get b)∧h'.next=h.next∧e 0 = .slice V 0 k 1∧e 1 = .int .i64 (n:Int)∧e 5 = .int .i64 ((m:Int)-1)) k
  ⟨i,0,rfl,by simpa using hV,by simp,fun _ _=>rfl,rfl,rfl,rfl,rfl⟩ ?_
 rintro m e h' ⟨q,z,hmz,hc,hq,hfr,hnx,e0,e1,e5⟩
 rw [F.fB.aN]
 cases m with
 |zero=>
  simp only [e5,r9,bindO_some,condB_bool,decide_eq_false (by omega:¬ (0:Int)≤((0:Nat):Int)-1),aD,loopK_exit]
  rw [F.fB.aG]
  refine hno ?_ h' hfr hnx
  rw [show z=k by omega] at hq
  have:n ^ k≤(q+1)*n ^ k:=Nat.le_mul_of_pos_left _ (by omega)
  omega
 |succ m=>
  have e5':((m+1:Nat):Int)-1=(m:Int):=by omega
  rw [e5'] at e5
  have hmk:m<k:=by omega
  have hcl:(dA n (m+1) q++List.replicate z (0:Int)).length=k:=by rw [List.length_append,iI,List.length_replicate];omega
  have hsp:dA n (m+1) q++List.replicate z (0:Int)=dA n m (q/n)++(((q%n:Nat):Int) :: List.replicate z 0):=by rw [dA,List.append_assoc];rfl
  have hv:(dA n (m+1) q++List.replicate z (0:Int))[m]?=some ((q%n:Nat):Int):=by
   rw [hsp,List.getElem?_append_right (by rw [iI];exact Nat.le_refl _),iI,Nat.sub_self];rfl
  have hset:∀ v:Int,(dA n (m+1) q++List.replicate z (0:Int)).set m v=dA n m (q/n)++(v :: List.replicate z 0):=fun v=>by
   rw [hsp,List.set_append_right _ _ (by rw [iI];exact Nat.le_refl _),iI,Nat.sub_self];rfl
  have hmod:q%n<n:=Nat.mod_lt _ n1
  have hadd:aJ .add (.int .i64 ((q%n:Nat):Int)) (.int .i64 1)=some (.int .i64 ((q%n+1:Nat):Int)):=by rw [gB (by omega) (by omega)];rfl
  have g1:(h'.set V (.cells (((dA n (m+1) q++List.replicate z (0:Int)).set m ((q%n+1:Nat):Int)).map iv))).get V=some (.cells (((dA n (m+1) q++List.replicate z (0:Int)).set m ((q%n+1:Nat):Int)).map iv)):=by rw [ag.aO,if_pos rfl]
  have hv1:((dA n (m+1) q++List.replicate z (0:Int)).set m ((q%n+1:Nat):Int))[m]?=some ((q%n+1:Nat):Int):=by rw [List.getElem?_set,if_pos rfl,if_pos (by omega)]
  simp only [e0,e1,e5,aQ,Nat.reduceAdd,Nat.reduceEqDiff,reduceIte,decide_eq_true (by omega:(0:Int)≤(m:Int)),aC,jy hmk,kC hc hv,hadd,mV hc (show m<(dA n (m+1) q++List.replicate z (0:Int)).length by omega),kC g1 hv1]
  by_cases hlt:q%n+1<n
  ·simp only [decide_eq_true (by omega:((q%n+1:Nat):Int)<(n:Int)),aC,loopK_ret]
   rw [F.fB.aZ]
   simp only [bt,Nat.reduceEqDiff,reduceIte]
   have hdm:=Nat.div_add_mod q n
   have hq1:(q+1)/n=q/n∧(q+1)%n=q%n+1:=by
    have h3:q+1=q%n+1+n*(q/n):=by omega
    rw [h3]
    exact ⟨by rw [Nat.add_mul_div_left _ _ n1,Nat.div_eq_of_lt hlt,Nat.zero_add],by rw [Nat.add_mul_mod_self_left,Nat.mod_eq_of_lt hlt]⟩
   have htup:dA n k (i+1)=dA n m (q/n)++(((q%n+1:Nat):Int) :: List.replicate z 0):=by
    rw [hq,← hmz,ur n1,dA,hq1.1,hq1.2,List.append_assoc];rfl
   refine hyes ?_ _ (by rw [ag.aO,if_pos rfl,hset,htup]) (fun b hb=>by rw [ag.aO,if_neg hb];exact hfr b hb) (by rw [ag.next_set];exact hnx)
   refine Nat.lt_of_le_of_ne hi fun he=>?_
   rw [hq,← hmz,Nat.pow_add] at he
   have h4:q+1=n ^ (m+1):=Nat.eq_of_mul_eq_mul_right (Nat.pow_pos n1) he
   have h5:(q+1)%n=0:=by rw [h4,Nat.pow_succ,Nat.mul_mod_left]
   omega
  ·have hs1:aJ .sub (.int .i64 (m:Int)) (.int .i64 1)=some (.int .i64 ((m:Int)-1)):=zl (by omega) (by omega)
   simp only [decide_eq_false (by omega:¬ ((q%n+1:Nat):Int)<(n:Int)),aD,mV g1 (show m<((dA n (m+1) q++List.replicate z (0:Int)).set m ((q%n+1:Nat):Int)).length by rw [List.length_set];omega),hs1,bindO_some,e5]
   have hdm:=Nat.div_add_mod q n
   refine cw.2 ⟨m,by omega,rfl,rfl,q/n,z+1,by omega,?_,?_,fun b hb=>?_,?_,e0,e1,rfl⟩
   ·rw [ag.aO,if_pos rfl,List.set_set,hset];rfl
   ·have h3:q+1=(q/n+1)*n:=by rw [Nat.succ_mul,Nat.mul_comm];omega
    rw [hq,h3,Nat.pow_succ,Nat.mul_assoc,Nat.mul_comm n]
   ·simp only [ag.aO,if_neg hb];exact hfr b hb
   ·simp only [ag.next_set];exact hnx
structure dh where
 name:bC
 k:Nat
 blk:Nat
 bits:List Bool
def jP(t:dh):List AV:=[.str t.name,.int .i64 (t.k:Int),.slice t.blk 0 t.bits.length 1]
theorem yc(t:dh):(jP t).length=3:=rfl
theorem Ga(t:dh):br (jP t)=true:=rfl
def cD(t:dh):gq:=⟨t.name,t.k,t.bits⟩
structure eB (k0:Nat) (h:ag) (a:AV) (ts:List dh):Prop where
 own:Own jP 3 k0 h a ts
 cell:∀ t ∈ ts,k0≤t.blk∧t.blk<h.next∧ep a≠some t.blk∧h.get t.blk=some (.cells (t.bits.map bv))
 inj:∀ (i j:Nat) (s t:dh),ts[i]?=some s→ts[j]?=some t→s.blk=t.blk→i=j
theorem eB.keep{k0:Nat}{h h':ag}{a:AV}{ts:List dh}(t:eB k0 h a ts)(hb:∀ b,k0≤b→b<h.next→h'.get b=h.get b)(hn:h.next≤h'.next):eB k0 h' a ts:=
 ⟨t.own.agree (fun b e=>hb b (t.own.ge e) (t.own.lt e)) hn,fun q hq=>by
  obtain ⟨h1,h2,h3,h4⟩:=t.cell q hq
  exact ⟨h1,by omega,h3,by rw [hb _ h1 h2];exact h4⟩,t.inj⟩
theorem eB.ext{k0:Nat}{h h':ag}{a:AV}{ts:List dh}(t:eB k0 h a ts)(hx:bR h h'):eB k0 h' a ts:=t.keep (fun b _ b2=>hx.get b b2) hx.next
theorem eB.vp{k0:Nat}{h:ag}{a:AV}{ts:List dh}(t:eB k0 h a ts):∃ x:Sl gq,x.l=ts.map cD∧Fz true h a (aq g8 3 x):=by
 obtain ⟨o,hc,_⟩:=t
 cases o with
 |nil=>exact ⟨none,rfl,.scalar _ rfl⟩
 |row b ts h1 h2 h3=>
  refine ⟨some (ts.map cD),rfl,?_⟩
  have key:∀ l:List dh,(∀ t ∈ l,h.get t.blk=some (.cells (t.bits.map bv)))→jB true h (l.flatMap jP) ((l.map cD).flatMap g8):=by
   intro l
   induction l with
   |nil=>intro _;exact .nil
   |cons t l ih=>
    intro hl
    rw [List.flatMap_cons,List.map_cons,List.flatMap_cons]
    exact jB.append (jB.cons (.scalar _ rfl) (jB.cons (.scalar _ rfl) (jB.cons (FR (hl t List.mem_cons_self)) .nil))) (ih fun q hq=>hl q (List.mem_cons_of_mem _ hq))
  have fl:=key ts fun t ht=>(hc t ht).2.2.2
  have:aq g8 3 (some (ts.map cD)) = .islice ((ts.map cD).flatMap g8) 0 ts.length 3:=by simp only [aq,List.length_map]
  rw [this]
  exact .slice b 0 ts.length 3 _ _ h3 fl.len fl.rel
def dh.put(t:dh)(i:Nat):dh:=⟨t.name,t.k,t.blk,t.bits.set i true⟩
theorem Gb{α:Type}{enc:α→List AV}:∀ {l:List α} {j:Nat} {t t':α},l[j]?=some t→enc t'=enc t→(l.set j t').flatMap enc=l.flatMap enc
 |[],j,t,t',h,_=>by simp at h
 |q :: l,0,t,t',h,e=>by simp at h;subst h;simp [e]
 |q :: l,j+1,t,t',h,e=>by
  rw [List.getElem?_cons_succ] at h
  rw [List.set_cons_succ,List.flatMap_cons,List.flatMap_cons,Gb h e]
theorem eB.put{k0:Nat}{h:ag}{a:AV}{ts:List dh}(t:eB k0 h a ts){j:Nat}{q:dh}(hq:ts[j]?=some q)(i:Nat):eB k0 (h.set q.blk (.cells ((q.bits.set i true).map bv))) a (ts.set j (q.put i)):=by
 have hqm:=List.mem_of_getElem? hq
 obtain ⟨c1,c2,c3,c4⟩:=t.cell q hqm
 have hj:=(List.getElem?_eq_some_iff.1 hq).1
 refine ⟨?_,fun p hp=>?_,fun x y s u hx hy hb=>?_⟩
 ·have o:=t.own
  have he:jP (q.put i)=jP q:=by simp [jP,dh.put]
  generalize hts:ts.set j (q.put i)=ts'
  have hfl:ts'.flatMap jP=ts.flatMap jP:=by rw [← hts];exact Gb hq he
  have hlen:ts'.length=ts.length:=by rw [← hts,List.length_set]
  cases o with
  |nil=>simp at hj
  |row b ts h1 h2 h3=>
   rw [← hlen]
   refine .row b ts' h1 (by rw [ag.next_set];exact h2) ?_
   rw [ag.aO,if_neg (fun e=>c3 (by rw [← e];rfl)),h3,hfl]
 ·obtain ⟨x,hx⟩:=List.mem_iff_getElem?.1 hp
  rw [List.getElem?_set] at hx
  by_cases e:j=x
  ·rw [if_pos e,if_pos (by omega)] at hx
   cases hx
   exact ⟨c1,by rw [ag.next_set];exact c2,c3,by rw [ag.aO];exact if_pos rfl⟩
  ·rw [if_neg e] at hx
   obtain ⟨d1,d2,d3,d4⟩:=t.cell p (List.mem_of_getElem? hx)
   exact ⟨d1,by rw [ag.next_set];exact d2,d3,by rw [ag.aO,if_neg (fun e'=>e (t.inj j x q p hq hx e'.symm))];exact d4⟩
 ·have key:∀ (x:Nat) (s:dh),(ts.set j (q.put i))[x]?=some s→∃ s',ts[x]?=some s'∧s'.blk=s.blk:=fun x s hx=>by
   rw [List.getElem?_set] at hx
   by_cases e:j=x
   ·rw [if_pos e,if_pos (by omega)] at hx
    cases hx
    exact ⟨q,by rw [← e];exact hq,rfl⟩
   ·rw [if_neg e] at hx;exact ⟨s,hx,rfl⟩
  obtain ⟨s',a1,a2⟩:=key x s hx
  obtain ⟨u',b1,b2⟩:=key y u hy
  exact t.inj x y s' u' a1 b1 (by rw [a2,b2,hb])
theorem Jx(ts:List dh)(j:Nat)(q:dh):(ts.set j q).map cD=(ts.map cD).set j (cD q):=by rw [List.map_set]
def dh.shape(t:dh):bC×Nat×Nat×Nat:=(t.name,t.k,t.blk,t.bits.length)
theorem Jy{ts:List dh}{j:Nat}{q:dh}(hq:ts[j]?=some q)(i:Nat):(ts.set j (q.put i)).map dh.shape=ts.map dh.shape:=by
 rw [List.map_set]
 refine List.ext_getElem? fun x=>?_
 rw [List.getElem?_set]
 by_cases e:j=x
 ·have hj:=(List.getElem?_eq_some_iff.1 hq).1
  rw [if_pos e,if_pos (by rw [List.length_map];omega),List.getElem?_map,← e,hq]
  simp [dh.shape,dh.put]
 ·rw [if_neg e]
theorem xd{ts ts':List dh}(h:ts'.map dh.shape=ts.map dh.shape){q:dh}(hq:q ∈ ts'):∃ p ∈ ts,p.shape=q.shape:=by
 have:q.shape ∈ ts'.map dh.shape:=List.mem_map_of_mem hq
 rw [h] at this
 obtain ⟨p,hp,e⟩:=List.mem_map.1 this
 exact ⟨p,hp,e⟩
theorem Jz{ts ts':List dh}(h:ts'.map dh.shape=ts.map dh.shape){j:Nat}{q:dh}(hq:ts[j]?=some q):∃ p,ts'[j]?=some p∧p.shape=q.shape:=by
 have h1:(ts'.map dh.shape)[j]?=some q.shape:=by rw [h,List.getElem?_map,hq];rfl
 rw [List.getElem?_map] at h1
 obtain ⟨p,h2,h3⟩:=Option.map_eq_some_iff.1 h1
 exact ⟨p,h2,h3⟩
theorem Da{ts ts':List dh}(h:ts'.map dh.shape=ts.map dh.shape):ts'.length=ts.length:=by have:=congrArg List.length h;simpa using this
theorem jw.shape{n:Nat}{r:aB}{ts ts':List dh}(f:jw n r (ts.map cD))(h:ts'.map dh.shape=ts.map dh.shape):jw n r (ts'.map cD):=
 ⟨by have:=f.len;rw [List.length_map] at this ⊢;rw [Da h];exact this,f.conds,fun c hc k0=>by
  obtain ⟨h1,h2⟩:=f.rel c hc k0
  refine ⟨h1,fun q hq hn=>?_⟩
  obtain ⟨t,ht,rfl⟩:=List.mem_map.1 hq
  obtain ⟨p,hp,e⟩:=xd h ht
  unfold dh.shape at e
  simp only [Prod.mk.injEq] at e
  have:=h2 (cD p) (List.mem_map_of_mem hp) (by show p.name=_;rw [e.1];exact hn)
  show t.bits.length=_
  rw [← e.2.2.2];exact this⟩
end
end Go.AM
namespace Go.AM
open Go Go.Proofs
noncomputable section
theorem yX{n:Nat}(n1:1≤n){r:aB}(hf:r.kH)(hk:(varsOf r).length≤12){all:Sl bC}(hall:all.l=varsOf r){vs:List Int}(hvs:ux n r vs){k0:Nat}{a:AV}{ts:List dh}{h:ag}(ht:eB k0 h a ts)(hx:jw n r (ts.map cD)){V:Nat}(hV:h.get V=some (.cells (vs.map iv))){K:Out→ag→Bool}
  (hK:K (.ret (.bool (kj n (cY (ts.map cD)) r vs))) h=true):Sem Tryz.prog 65 [.agg (aL r),aq encS 1 all,.slice V 0 vs.length 1,a,.int .i64 (n:Int)] h K:=by
 obtain ⟨x,hx1,hx2⟩:=ht.vp
 have hfit:jw n r x.l:=by rw [hx1];exact hx
 have hs:=cN n1 hf hk hall (vs:=some vs) hvs hfit (h:=ag.empty) (K:=mS (.bool (kj n (cY x.l) r vs))) (cK rfl)
 have hlk:cY x.l=cY (ts.map cD):=by rw [hx1]
 rw [← hlk] at hK
 exact Sem.KE rfl hs (jB.cons (.dD (by simpa [AV.pure] using dR r)) (jB.cons (.dD (bF gH _)) (jB.cons (nD hV) (jB.cons hx2 (jB.cons (.scalar _ rfl) .nil))))) hK
theorem yd{n:Nat}{r:aB}{j:Nat}:∀ (m:Nat) (ts:List gq) (f:Bool),eV n r j m (ts,f)=((eV n r j m (ts,false)).1,f||(eV n r j m (ts,false)).2)
 |0,ts,f=>by simp [eV]
 |m+1,ts,f=>by
  rw [rN,rN,yd m ts f]
  generalize eV n r j m (ts,false)=s
  obtain ⟨u,g⟩:=s
  unfold BK
  simp only
  cases u[j]? with
  |none=>rfl
  |some t=>
   simp only
   split
   ·rfl
   ·split
    ·simp
    ·rfl
theorem Oo(t:dh){k0:Nat}{h:ag}{a:AV}{ts:List dh}(hA:eB k0 h a ts){j:Nat}(hj:ts[j]?=some t):∃ b,b<h.next∧cS 3 a (.int .i64 (j:Int))=some (.ptr b (j*3))∧ai none (.ptr b (j*3+2)) h=some (.slice t.blk 0 t.bits.length 1):=by
 obtain ⟨b,_,h2,h3,_,h5⟩:=hA.own.get yc hj
 exact ⟨b,h2,h3 .i64,by rw [h5 2 (by omega)];rfl⟩
set_option maxHeartbeats 2000000 in
theorem fh{n:Nat}(n1:1≤n)(n64:n≤64){r:aB}(hf:r.kH)(hk:(varsOf r).length≤12)(h12:r.args.l.length≤12)(hpow:n ^ r.args.l.length≤4096){k0:Nat}{a:AV}{ts:List dh}{h:ag}(hA:eB k0 h a ts)(hx:jw n r (ts.map cD)){j:Nat}{t0:dh}(hj:ts[j]?=some t0)(ht0:t0.bits.length=n ^ r.args.l.length){K:Out→ag→Bool}
  (hK:∀ h' ts',(ts'.map cD,(eV n r j (n ^ (varsOf r).length) (ts.map cD,false)).2)=eV n r j (n ^ (varsOf r).length) (ts.map cD,false)→ts'.map dh.shape=ts.map dh.shape→eB k0 h' a ts'→(∀ b,b<h.next→(∀ t ∈ ts,b≠t.blk)→h'.get b=h.get b)→h.next≤h'.next →
   K (.ret (.bool (eV n r j (n ^ (varsOf r).length) (ts.map cD,false)).2)) h'=true) :
  Sem Tryz.prog 59 [.agg (aL r),a,.int .i64 (j:Int),.int .i64 (n:Int)] h K:=by
 refine F.yS ?_
 rw [F.AT]
 simp only [cA (ij r),bindO_some]
 have g0:(h.alloc (.cells (aL r))).get h.next=some (.cells (aL r)):=aI _ _
 have gx:bR h (h.alloc (.cells (aL r))):=bR.alloc _ _
 have gn:(h.alloc (.cells (aL r))).next=h.next+1:=rfl
 generalize (h.alloc (.cells (aL r)))=H0 at g0 gx gn ⊢
 simp only [an g0,aL,lM,bindO_some]
 refine ak (bH hf fun x hx1=>?_)
 have hxl:x.l.length≤1000000:=by rw [hx1];omega
 simp only [aQ,Nat.reduceAdd,Nat.reduceEqDiff,reduceIte,sr hxl]
 have gV:(H0.alloc (.cells ((List.replicate x.l.length (0:Int)).map iv))).get H0.next=some (.cells ((List.replicate x.l.length (0:Int)).map iv)):=aI _ _
 have xV:bR H0 (H0.alloc (.cells ((List.replicate x.l.length (0:Int)).map iv))):=bR.alloc _ _
 have nV:(H0.alloc (.cells ((List.replicate x.l.length (0:Int)).map iv))).next=H0.next+1:=rfl
 generalize (H0.alloc (.cells ((List.replicate x.l.length (0:Int)).map iv)))=H1 at gV xV nV ⊢
 rw [hx1] at gV ⊢
 rw [gn] at gV nV
 have xx:=gx.trans xV
 have hpos:0<n ^ (varsOf r).length:=Nat.pow_pos n1
 refine jb (fun m e h'=>∃ (i:Nat) (ts':List dh) (fl:Bool),m=n ^ (varsOf r).length-i∧i<n ^ (varsOf r).length∧(ts'.map cD,fl)=eV n r j i (ts.map cD,false)∧ts'.map dh.shape=ts.map dh.shape∧eB k0 h' a ts' ∧
   h'.get h.next=some (.cells (aL r))∧h'.get (h.next+1)=some (.cells ((dA n (varsOf r).length i).map iv))∧(∀ b,b<h.next→(∀ t ∈ ts,b≠t.blk)→h'.get b=h.get b)∧h.next+2≤h'.next ∧
   e 1=a∧e 2 = .int .i64 (j:Int)∧e 3 = .int .i64 (n:Int)∧e 4 = .ptr h.next 0∧e 9=aq encS 1 x∧e 10 = .slice (h.next+1) 0 (varsOf r).length 1∧e 11 = .bool fl) (n ^ (varsOf r).length)
  ⟨0,ts,false,rfl,hpos,rfl,rfl,hA.ext xx,by rw [xV.get _ (by omega)];exact g0,by rw [Jw n1];exact gV,fun b hb _=>xx.get b hb,by omega,rfl,rfl,rfl,rfl,rfl,by rw [gn];rfl,rfl⟩ ?_
 rintro m e h' ⟨i,ts',fl,hm,hi,hst,hsh,hA',q0,qV,hfr,hnx,e1,e2,e3,e4,e9,e10,e11⟩
 have ha:ux n r (dA n (varsOf r).length i):=Bv n1 hi
 obtain ⟨t,htj,hts⟩:=Jz hsh hj
 unfold dh.shape at hts
 simp only [Prod.mk.injEq] at hts
 have htl:t.bits.length=n ^ r.args.l.length:=by rw [hts.2.2.2,ht0]
 have hrk:=Bu ha
 have hrkt:fZ n r (dA n (varsOf r).length i)<t.bits.length:=by rw [htl];exact hrk
 obtain ⟨ba,hba,ia,la⟩:=Oo t hA' htj
 obtain ⟨c1,c2,c3,c4⟩:=hA'.cell t (List.mem_of_getElem? htj)
 have hbit:t.bits[fZ n r (dA n (varsOf r).length i)]?=some (t.bits.getD (fZ n r (dA n (varsOf r).length i)) false):=by rw [List.getD_eq_getElem?_getD,List.getElem?_eq_getElem hrkt];rfl
 have l4:ai none (.ptr h.next 1) h'=some (aq encS 1 r.args):=by rw [an q0];rfl
 have lr:ai (some 3) (.ptr h.next 0) h'=some (.agg (aL r)):=by rw [an q0];simp only [aL,lM]
 have hplen:(placesOf (varsOf r) r.args.l).length=r.args.l.length:=by unfold placesOf;simp
 have hpl:∀ p ∈ placesOf (varsOf r) r.args.l,p<(dA n (varsOf r).length i).length:=by rw [ha.1];exact ir iM
 have hvl:=fV (dA n (varsOf r).length i) (placesOf (varsOf r) r.args.l)
 have hin:=iN ha.2 hpl
 have hVl:(dA n (varsOf r).length i).length=(varsOf r).length:=iI _ _ _
 have hval:=fun {K} hk=>By (all:=x) (xs:=r.args) (vs:=dA n (varsOf r).length i) (V:=h.next+1) (h:=h') (K:=K) (by rw [hx1];exact pU r) (by unfold cm;omega) (by omega) (by rw [hx1];exact iM) (by rw [hx1];exact hVl) qV hk
 rw [hVl] at hval
 have hdo:∀ (ts2:List dh) (f2:Bool),(ts2.map cD,f2)=BK n r j (dA n (varsOf r).length i) (ts'.map cD,fl)→(ts2.map cD,f2)=eV n r j (i+1) (ts.map cD,false):=fun ts2 f2 h2=>by rw [rN,← hst];exact h2
 have hdoT:BK n r j (dA n (varsOf r).length i) (ts'.map cD,fl)=if t.bits.getD (fZ n r (dA n (varsOf r).length i)) false=true then (ts'.map cD,fl) else if kj n (cY (ts'.map cD)) r (dA n (varsOf r).length i)=true then ((ts'.map cD).set j ⟨t.name,t.k,t.bits.set (fZ n r (dA n (varsOf r).length i)) true⟩,true) else (ts'.map cD,fl):=by
  unfold BK
  have:(ts'.map cD)[j]?=some (cD t):=by rw [List.getElem?_map,htj];rfl
  simp only [this]
  rfl
 have adv:∀ (h2:ag) (ts2:List dh) (f2:Bool) (e':Env) (R:Out→ag→Bool),(ts2.map cD,f2)=BK n r j (dA n (varsOf r).length i) (ts'.map cD,fl)→ts2.map dh.shape=ts.map dh.shape→eB k0 h2 a ts2→h2.get h.next=some (.cells (aL r))→h2.get (h.next+1)=some (.cells ((dA n (varsOf r).length i).map iv)) →
   (∀ b,b<h.next→(∀ t ∈ ts,b≠t.blk)→h2.get b=h.get b)→h.next+2≤h2.next →
   (∀ (h3:ag) (i':Nat),i+1<n ^ (varsOf r).length→h3.get (h.next+1)=some (.cells ((dA n (varsOf r).length (i+1)).map iv))→(∀ b,b≠h.next+1→h3.get b=h2.get b)→h3.next=h2.next→R (.ret (.bool true)) h3=true) →
   (∀ (h3:ag),i+1=n ^ (varsOf r).length→(∀ b,b≠h.next+1→h3.get b=h2.get b)→h3.next=h2.next→R (.ret (.bool false)) h3=true) →
   ah Tryz.prog 76 [.slice (h.next+1) 0 (varsOf r).length 1,.int .i64 (n:Int)] h2 R=true:=fun h2 ts2 f2 e' R _ _ _ _ w1 _ _ hy hn=>ak (fB n1 n64 hk hi w1 (fun p h3 a1 a2 a3=>hy h3 0 p a1 a2 a3) fun p h3 a2 a3=>hn h3 p a2 a3)
 have keepT:∀ {h2 h3:ag} {ts2:List dh},ts2.map dh.shape=ts.map dh.shape→eB k0 h2 a ts2→(∀ b,b≠h.next+1→h3.get b=h2.get b)→h3.next=h2.next→eB k0 h3 a ts2:=fun {h2 h3 ts2} hs2 hA2 hb hn=>by
  have hne:∀ q ∈ ts2,q.blk≠h.next+1:=fun q hq=>by
   obtain ⟨p,hp,e⟩:=xd hs2 hq
   unfold dh.shape at e
   simp only [Prod.mk.injEq] at e
   have:=(hA.cell p hp).2.1
   omega
  have hbl:∀ b,ep a=some b→b≠h.next+1:=fun b e=>by have:=hA.own.lt e;omega
  exact ⟨hA2.own.agree (fun b e=>hb b (hbl b e)) (by omega),fun q hq=>by
   obtain ⟨d1,d2,d3,d4⟩:=hA2.cell q hq
   exact ⟨d1,by omega,d3,by rw [hb _ (hne q hq)];exact d4⟩,hA2.inj⟩
 have fin:∀ (h2 h3:ag) (ts2:List dh) (f2:Bool),(ts2.map cD,f2)=BK n r j (dA n (varsOf r).length i) (ts'.map cD,fl)→ts2.map dh.shape=ts.map dh.shape→eB k0 h2 a ts2→(∀ b,b<h.next→(∀ t ∈ ts,b≠t.blk)→h2.get b=h.get b)→h.next+2≤h2.next →
   i+1=n ^ (varsOf r).length→(∀ b,b≠h.next+1→h3.get b=h2.get b)→h3.next=h2.next→K (.ret (.bool f2)) h3=true:=fun h2 h3 ts2 f2 hd hs2 hA2 hf2 hn2 hlast hb hn=>by
  have h5:=hdo ts2 f2 hd
  rw [hlast] at h5
  have h6:=hK h3 ts2 (by rw [← h5]) hs2 (keepT hs2 hA2 hb hn) (fun b b1 b2=>by rw [hb b (by omega)];exact hf2 b b1 b2) (by omega)
  rw [← h5] at h6
  exact h6
 rw [F.fh.aN]
 simp only [e1,e2,e3,e4,e9,e10,aQ,Nat.reduceAdd,Nat.reduceEqDiff,reduceIte,l4]
 refine ak (hval ?_)
 rw [hx1]
 simp only [aQ,Nat.reduceAdd,Nat.reduceEqDiff,reduceIte,e3]
 refine ak (fM n1 (x:=some (aR (dA n (varsOf r).length i) (placesOf (varsOf r) r.args.l))) (k:=r.args.l.length) (by show (aR (dA n (varsOf r).length i) (placesOf (varsOf r) r.args.l)).length=_;rw [hvl,hplen]) h12 hpow hin ?_)
 rw [show gY n (Sl.l (some (aR (dA n (varsOf r).length i) (placesOf (varsOf r) r.args.l))))=fZ n r (dA n (varsOf r).length i) from rfl]
 simp only [aQ,Nat.reduceAdd,Nat.reduceEqDiff,reduceIte,e1,e2,ia,la,jy hrkt,zq c4 hbit]
 cases hb:t.bits.getD (fZ n r (dA n (varsOf r).length i)) false with
 |true=>
  rw [hb,if_pos rfl] at hdoT
  simp only [Bool.not_true,aD,e3,e10]
  refine adv h' ts' fl e _ hdoT.symm hsh hA' q0 qV hfr hnx (fun h3 i' hlt a1 a2 a3=>?_) fun h3 hlast a2 a3=>?_
  ·simp only [aQ,Nat.reduceAdd,Nat.reduceEqDiff,reduceIte,Bool.not_true,aD]
   refine cw.2 ⟨n ^ (varsOf r).length-(i+1),by omega,rfl,rfl,i+1,ts',fl,rfl,hlt,hdo _ _ hdoT.symm,hsh,keepT hsh hA' a2 a3,by rw [a2 _ (by omega)];exact q0,a1,fun b b1 b2=>by rw [a2 b (by omega)];exact hfr b b1 b2,by show h.next+2≤h3.next;omega,e1,e2,e3,e4,e9,e10,e11⟩
  ·simp only [aQ,Nat.reduceAdd,Nat.reduceEqDiff,reduceIte,Bool.not_false,aC,loopK_ret]
   rw [F.fh.aZ]
   simp only [bt,Nat.reduceEqDiff,reduceIte,e11]
   exact fin h' h3 ts' fl hdoT.symm hsh hA' hfr hnx hlast a2 a3
 |false=>
  rw [hb,if_neg (by simp)] at hdoT
  simp only [Bool.not_false,aC,aQ,Nat.reduceAdd,Nat.reduceEqDiff,reduceIte,lr,e1,e3,e9,e10]
  have happ:=fun {K} hk=>yX n1 hf hk hx1 ha hA' (hx.shape hsh) qV (h:=h') (K:=K)
  rw [hVl] at happ
  refine ak (happ hk ?_)
  simp only [aQ,Nat.reduceAdd,Nat.reduceEqDiff,reduceIte]
  cases hap:kj n (cY (ts'.map cD)) r (dA n (varsOf r).length i) with
  |false=>
   rw [hap,if_neg (by simp)] at hdoT
   simp only [aD,e3,e10]
   refine adv h' ts' fl e _ hdoT.symm hsh hA' q0 qV hfr hnx (fun h3 i' hlt a1 a2 a3=>?_) fun h3 hlast a2 a3=>?_
   ·simp only [aQ,Nat.reduceAdd,Nat.reduceEqDiff,reduceIte,Bool.not_true,aD]
    refine cw.2 ⟨n ^ (varsOf r).length-(i+1),by omega,rfl,rfl,i+1,ts',fl,rfl,hlt,hdo _ _ hdoT.symm,hsh,keepT hsh hA' a2 a3,by rw [a2 _ (by omega)];exact q0,a1,fun b b1 b2=>by rw [a2 b (by omega)];exact hfr b b1 b2,by show h.next+2≤h3.next;omega,e1,e2,e3,e4,e9,e10,e11⟩
   ·simp only [aQ,Nat.reduceAdd,Nat.reduceEqDiff,reduceIte,Bool.not_false,aC,loopK_ret]
    rw [F.fh.aZ]
    simp only [bt,Nat.reduceEqDiff,reduceIte,e11]
    exact fin h' h3 ts' fl hdoT.symm hsh hA' hfr hnx hlast a2 a3
  |true=>
   rw [hap,if_pos rfl] at hdoT
   have hst1:=rB (v:=true) c4 hrkt
   have hput:=hA'.put htj (fZ n r (dA n (varsOf r).length i))
   have hps:(ts'.set j (t.put (fZ n r (dA n (varsOf r).length i)))).map dh.shape=ts.map dh.shape:=by rw [Jy htj,hsh]
   have hd2:((ts'.set j (t.put (fZ n r (dA n (varsOf r).length i)))).map cD,true)=BK n r j (dA n (varsOf r).length i) (ts'.map cD,fl):=by rw [hdoT,Jx];rfl
   have hbk:t.blk<h.next:=by
    obtain ⟨_,d2,_,_⟩:=hA.cell t0 (List.mem_of_getElem? hj)
    rw [hts.2.2.1];exact d2
   simp only [aC,aQ,Nat.reduceAdd,Nat.reduceEqDiff,reduceIte,e1,e2,ia,la,jy hrkt,hst1,e3,e10]
   have w0:(h'.set t.blk (.cells ((t.bits.set (fZ n r (dA n (varsOf r).length i)) true).map bv))).get h.next=some (.cells (aL r)):=by rw [ag.aO,if_neg (by omega)];exact q0
   have w1:(h'.set t.blk (.cells ((t.bits.set (fZ n r (dA n (varsOf r).length i)) true).map bv))).get (h.next+1)=some (.cells ((dA n (varsOf r).length i).map iv)):=by rw [ag.aO,if_neg (by omega)];exact qV
   have wf:∀ b,b<h.next→(∀ t ∈ ts,b≠t.blk)→(h'.set t.blk (.cells ((t.bits.set (fZ n r (dA n (varsOf r).length i)) true).map bv))).get b=h.get b:=fun b b1 b2=>by
    rw [ag.aO,if_neg (by rw [hts.2.2.1];exact b2 t0 (List.mem_of_getElem? hj))];exact hfr b b1 b2
   have wn:(h'.set t.blk (.cells ((t.bits.set (fZ n r (dA n (varsOf r).length i)) true).map bv))).next=h'.next:=ag.next_set _ _ _
   generalize (h'.set t.blk (.cells ((t.bits.set (fZ n r (dA n (varsOf r).length i)) true).map bv)))=H2 at hput w0 w1 wf wn ⊢
   refine adv H2 _ true e _ hd2 hps hput w0 w1 wf (by omega) (fun h3 i' hlt a1 a2 a3=>?_) fun h3 hlast a2 a3=>?_
   ·simp only [aQ,Nat.reduceAdd,Nat.reduceEqDiff,reduceIte,Bool.not_true,aD]
    refine cw.2 ⟨n ^ (varsOf r).length-(i+1),by omega,rfl,rfl,i+1,_,true,rfl,hlt,hdo _ _ hd2,hps,keepT hps hput a2 a3,by rw [a2 _ (by omega)];exact w0,a1,fun b b1 b2=>by rw [a2 b (by omega)];exact wf b b1 b2,by show h.next+2≤h3.next;omega,e1,e2,e3,e4,e9,e10,rfl⟩
   ·simp only [aQ,Nat.reduceAdd,Nat.reduceEqDiff,reduceIte,Bool.not_false,aC,loopK_ret]
    rw [F.fh.aZ]
    simp only [bt,Nat.reduceEqDiff,reduceIte]
    exact fin H2 h3 _ true hd2 hps hput wf (by omega) hlast a2 a3
end
end Go.AM
namespace Go.AM
open Go Go.Proofs
noncomputable section
end
end Go.AM
namespace Go.AM
open Go Go.Proofs
noncomputable section
def uu(n:Nat)(F:Lk)(nm:bC)(k i:Nat):List (List Int):=((List.range i).filter (F nm)).map (dA n k)
theorem JA(n:Nat)(F:Lk)(nm:bC)(k i:Nat):uu n F nm k (i+1)=uu n F nm k i++if F nm i=true then [dA n k i] else []:=by
 unfold uu
 rw [List.range_succ,List.filter_append,List.map_append]
 by_cases h:F nm i=true<;>simp [h]
theorem Ll(n:Nat)(F:Lk)(nm:bC)(k i:Nat):(uu n F nm k i).length≤i:=by
 unfold uu
 rw [List.length_map]
 have:=List.length_filter_le (F nm) (List.range i)
 simpa using this
def oJ(rs:List aB)(n:Nat)(F:Lk)(nms:List bC):List (bC×Int×List (List Int)):=nms.map fun nm=>(nm,(ju rs nm:Int),uu n F nm (ju rs nm) (n ^ ju rs nm))
def uv(rs:List aB)(s:dw)(e:Int):Prop:=((¬ j9 rs∨di s=false)∧e=1)∨(j9 rs∧di s=true∧((Js rs s∧e=4)∨(¬ Js rs s∧LG rs s∧e=5)))
structure fI (rs:List aB) (s:dw):Prop where
 good:j9 rs
 valid:di s=true
 names:¬ Js rs s
 sizes:¬ LG rs s
theorem sN{rs:List aB}{m:dF}(hgo:dc rs []=some m){nm:bC}(h:nm ∈ aY rs):m.find nm=some (ju rs nm:Int)∧∃ r ∈ rs,r.name=nm∧ju rs nm=r.args.l.length:=by
 obtain ⟨r,hr,hrn⟩:=List.mem_map.1 h
 have:=Bx hgo hr
 rw [← hrn]
 refine ⟨?_,r,hr,rfl,this⟩
 rw [this]
 exact (jr hgo _ _).2 (jt hr)
end
end Go.AM
namespace Go.AM
open Go Go.Proofs
noncomputable section
theorem nQ{x:Sl bC}{s:bC}(hl:x.l.length≤cm){h:ag}{K:Out→ag→Bool}(hK:K (.ret (.bool (x.l.any fun x=>x==s))) h=true):Sem Tryz.prog 73 [aq encS 1 x,.str s] h K:=by
 refine F.p7 ?_
 rw [F.qR]
 refine aE 0 x.l.length (Nat.zero_le _) (fun i e h'=>h'=h∧e 0=aq encS 1 x∧e 1 = .str s∧e 5 = .int .i64 (i:Int)∧((x.l.take i).any fun x=>x==s)=false) ⟨rfl,rfl,rfl,rfl,rfl⟩ ?_ ?_
 ·rintro i e h' _ hi ⟨rfl,e0,e1,e5,ht⟩ K' hn hx hr hp
  have hv:x.l[i]?=some x.l[i]:=List.getElem?_eq_getElem hi
  generalize x.l[i]=t at hv
  rw [F.dr.aN]
  simp only [e0,e1,e5,aQ,Nat.reduceAdd,Nat.reduceEqDiff,reduceIte,bf hi,aS x hi,iq hv]
  cases hq:(t==s) with
  |true=>
   simp only [aC]
   rw [hr,F.dr.aZ]
   have:(x.l.any fun x=>x==s)=true:=List.any_eq_true.2 ⟨t,List.mem_of_getElem? hv,hq⟩
   rw [this] at hK
   simp only [bt,Nat.reduceEqDiff,reduceIte]
   exact hK
  |false=>
   simp only [aD,e5,aK hi hl,bindO_some]
   exact hn _ _ ⟨rfl,e0,e1,rfl,ru hv ht hq⟩
 ·rintro e h' ⟨rfl,e0,e1,e5,ht⟩ K' hx
  rw [List.take_of_length_le (Nat.le_refl _)] at ht
  rw [F.dr.aN]
  simp only [e0,e5,aQ,Nat.reduceAdd,Nat.reduceEqDiff,reduceIte,aT]
  rw [hx,F.dr.aG]
  rw [ht] at hK
  exact hK
theorem Lm(y:bC×Int):br (me y)=true:=rfl
def LH(l:List (bC×Int))(x:bC):Int:=match l.find? (fun p=>p.1==x) with|some p=>p.2|none=>-1
theorem xe{rs:List aB}(h60:rs.length≤60)(h20:∀ r ∈ rs,r.body.l.length≤20):(cB rs).length≤1260:=by
 have:∀ rs:List aB,(∀ r ∈ rs,r.body.l.length≤20)→(cB rs).length≤rs.length*21:=by
  intro rs
  induction rs with
  |nil=>intro _;simp [cB]
  |cons r rs ih=>
   intro h
   have h1:=ih fun q hq=>h q (List.mem_cons_of_mem _ hq)
   have h2:=h r List.mem_cons_self
   have h3:=nO r.body.l
   unfold cB at h1 ⊢
   rw [List.flatMap_cons,List.length_append,List.length_cons]
   have:(ug r).length=1+(dW r.body.l).length:=by unfold ug;rw [List.length_cons];omega
   omega
 have:=this rs h20
 omega
theorem dN{rules:Sl aB}(h60:rules.l.length≤60)(h20:∀ r ∈ rules.l,r.body.l.length≤20){s:bC}{h:ag}{K:Out→ag→Bool}(hK:K (.ret (.int .i64 (LH (cB rules.l) s))) h=true):Sem Tryz.prog 74 [aq aL 3 rules,.str s] h K:=by
 have hal:=xe h60 h20
 refine F.yQ ?_
 rw [F.AR]
 refine ak (cC h60 h20 fun x hx1=>?_)
 simp only [aQ,Nat.reduceAdd,Nat.reduceEqDiff,reduceIte]
 have hxb:x.l.length≤cm:=by rw [hx1];unfold cm;omega
 rw [← hx1] at hK
 refine aE 0 x.l.length (Nat.zero_le _) (fun i e h'=>h'=h∧e 1 = .str s∧e 5=aq me 2 x∧e 6 = .int .i64 (i:Int)∧∀ p ∈ x.l.take i,p.1≠s) ⟨rfl,rfl,rfl,rfl,fun p hp=>(by cases hp)⟩ ?_ ?_
 ·rintro i e h' _ hi ⟨rfl,e1,e5,e6,hno⟩ K' hn hx hr hp
  have hv:x.l[i]?=some x.l[i]:=List.getElem?_eq_getElem hi
  generalize x.l[i]=p at hv
  rw [F.dN.aN]
  simp only [e1,e5,e6,aQ,Nat.reduceAdd,Nat.reduceEqDiff,reduceIte,bf hi,aS x hi,FY hv,Ho hv,nC]
  by_cases hq:p.1=s
  ·simp only [decide_eq_true hq,aC]
   rw [hr,F.dN.aZ]
   simp only [bt,Nat.reduceEqDiff,reduceIte]
   have:x.l.find? (fun p=>p.1==s)=some p:=by
    rw [List.find?_eq_some_iff_getElem]
    refine ⟨by simp [hq],i,hi,(List.getElem?_eq_some_iff.1 hv).2,fun j hj=>?_⟩
    have:=hno _ (List.mem_take_iff_getElem.2 ⟨j,by omega,rfl⟩)
    simp [this]
   unfold LH at hK
   rw [this] at hK
   exact hK
  ·simp only [decide_eq_false hq,aD,e6,aK hi hxb,bindO_some]
   refine hn _ _ ⟨rfl,e1,e5,rfl,fun q hq'=>?_⟩
   rw [List.take_add_one,hv] at hq'
   rcases List.mem_append.1 hq' with hq'|hq'
   ·exact hno q hq'
   ·simp only [Option.toList_some,List.mem_singleton] at hq'
    subst hq';exact hq
 ·rintro e h' ⟨rfl,e1,e5,e6,hno⟩ K' hx
  rw [List.take_of_length_le (Nat.le_refl _)] at hno
  rw [F.dN.aN]
  simp only [e5,e6,aQ,Nat.reduceAdd,Nat.reduceEqDiff,reduceIte,aT]
  rw [hx,F.dN.aG]
  have:x.l.find? (fun p=>p.1==s)=none:=by
   rw [List.find?_eq_none]
   intro q hq;simp [hno q hq]
  unfold LH at hK
  rw [this] at hK
  exact hK
theorem Eg{rs:List aB}{m:dF}(hgo:dc rs []=some m){x:bC}{k:Int}(h:(x,k) ∈ cB rs):LH (cB rs) x=k:=by
 unfold LH
 cases hf:(cB rs).find? (fun p=>p.1==x) with
 |none=>
  rw [List.find?_eq_none] at hf
  exact absurd (hf _ h) (by simp)
 |some p=>
  have h1:=List.mem_of_find?_eq_some hf
  have h2:=List.find?_some hf
  rw [beq_iff_eq] at h2
  simp only
  exact kg hgo (x:=x) (by rw [← h2];exact h1) h
theorem Gc{rs:List aB}{m:dF}(hgo:dc rs []=some m){x:bC}(h:x ∈ aY rs):LH (cB rs) x=(ju rs x:Int):=by
 obtain ⟨r,hr,hrn⟩:=List.mem_map.1 h
 rw [← hrn,Eg hgo (jt hr),Bx hgo hr]
def nj(ds:List bC)(ys:List (bC×Int)):List bC:=ys.foldl (fun o y=>if y.1 ∈ ds then o else eD o y.1) []
theorem Gd{ds:List bC}{ys:List (bC×Int)}{i:Nat}{y:bC×Int}(hy:ys[i]?=some y):nj ds (ys.take (i+1))=if y.1 ∈ ds then nj ds (ys.take i) else eD (nj ds (ys.take i)) y.1:=by
 unfold nj;rw [List.take_add_one,hy];simp
theorem Bz{ds:List bC}{x:bC}:∀ {ys:List (bC×Int)},x ∈ nj ds ys↔∃ y ∈ ys,y.1=x∧x ∉ ds:=by
 have key:∀ (ys:List (bC×Int)) (o:List bC),x ∈ ys.foldl (fun o y=>if y.1 ∈ ds then o else eD o y.1) o↔(x ∈ o∨∃ y ∈ ys,y.1=x∧x ∉ ds):=by
  intro ys
  induction ys with
  |nil=>intro o;simp
  |cons y ys ih=>
   intro o
   rw [List.foldl_cons,ih]
   by_cases hd:y.1 ∈ ds
   ·rw [if_pos hd]
    constructor
    ·rintro (h|⟨z,hz,h1,h2⟩)
     ·exact .inl h
     ·exact .inr ⟨z,List.mem_cons_of_mem _ hz,h1,h2⟩
    ·rintro (h|⟨z,hz,h1,h2⟩)
     ·exact .inl h
     ·rcases List.mem_cons.1 hz with rfl|hz
      ·exact absurd (h1▸hd) h2
      ·exact .inr ⟨z,hz,h1,h2⟩
   ·rw [if_neg hd,pI]
    constructor
    ·rintro ((h|h)|⟨z,hz,h1,h2⟩)
     ·exact .inl h
     ·exact .inr ⟨y,List.mem_cons_self,h.symm,by rw [h];exact hd⟩
     ·exact .inr ⟨z,List.mem_cons_of_mem _ hz,h1,h2⟩
    ·rintro (h|⟨z,hz,h1,h2⟩)
     ·exact .inl (.inl h)
     ·rcases List.mem_cons.1 hz with rfl|hz
      ·exact .inl (.inr h1.symm)
      ·exact .inr ⟨z,hz,h1,h2⟩
 intro ys
 unfold nj
 rw [key];simp
theorem uw(ds:List bC):∀ (ys:List (bC×Int)),(nj ds ys).length≤ys.length:=by
 have key:∀ (ys:List (bC×Int)) (o:List bC),(ys.foldl (fun o y=>if y.1 ∈ ds then o else eD o y.1) o).length≤o.length+ys.length:=by
  intro ys
  induction ys with
  |nil=>intro o;simp
  |cons y ys ih=>
   intro o
   rw [List.foldl_cons]
   have h1:=ih (if y.1 ∈ ds then o else eD o y.1)
   have h2:(if y.1 ∈ ds then o else eD o y.1).length≤o.length+1:=by
    split
    ·omega
    ·exact uh o y.1
   rw [List.length_cons];omega
 intro ys
 have:=key ys []
 simpa [nj] using this
def Db(rs:List aB):List (bC×Int):=(nj (cU rs) (cB rs)).map fun s=>(s,LH (cB rs) s)
theorem Eh{l:List bC}{s:bC}:(l.any fun x=>x==s)=decide (s ∈ l):=by
 rw [Bool.eq_iff_iff,List.any_eq_true,decide_eq_true_iff]
 constructor
 ·rintro ⟨x,hx,e⟩;rw [beq_iff_eq] at e;rw [← e];exact hx
 ·intro h;exact ⟨s,h,by simp⟩
set_option maxHeartbeats 1000000 in
theorem cq{rules:Sl aB}(h60:rules.l.length≤60)(h20:∀ r ∈ rules.l,r.body.l.length≤20){h:ag}{K:Out→ag→Bool}(hK:∀ x:Sl (bC×Int),x.l=Db rules.l→K (.ret (aq me 2 x)) h=true):Sem Tryz.prog 53 [aq aL 3 rules] h K:=by
 have hm:dm=140737488355328:=rfl
 have hal:=xe h60 h20
 have hdl:=kG rules.l
 have main:Sem Tryz.prog 53 [aq aL 3 rules] ag.empty (fun o h'=>yes (∃ v,∃ x:Sl (bC×Int),o = .ret v∧x.l=Db rules.l∧Fz true h' v (aq me 2 x))):=by
  refine F.vh ?_
  rw [F.wD]
  refine ak (cM h60 fun d hd1=>?_)
  simp only [aQ,Nat.reduceAdd,Nat.reduceEqDiff,reduceIte]
  refine ak (cC h60 h20 fun x hx1=>?_)
  simp only [aQ,Nat.reduceAdd,Nat.reduceEqDiff,reduceIte]
  have hxl:x.l.length≤1260:=by rw [hx1];exact hal
  have hxb:x.l.length≤cm:=by unfold cm;omega
  have hdb:d.l.length≤cm:=by rw [hd1];unfold cm;omega
  refine aE 0 x.l.length (Nat.zero_le _) (fun i e h'=>∃ a,Own encS 1 0 h' a (nj (cU rules.l) (x.l.take i))∧e 0=aq aL 3 rules∧e 3=aq encS 1 d∧e 4=a∧e 5=aq me 2 x∧e 6 = .int .i64 (i:Int)) ⟨.nils,.nil,rfl,rfl,rfl,rfl,rfl⟩ ?_ ?_
  ·rintro i e h' _ hi ⟨a,o,e0,e3,e4,e5,e6⟩ K' hn hx hr hp
   have hv:x.l[i]?=some x.l[i]:=List.getElem?_eq_getElem hi
   generalize x.l[i]=y at hv
   have hst:=Gd (ds:=cU rules.l) hv
   rw [F.cq.aN]
   simp only [e3,e5,e6,aQ,Nat.reduceAdd,Nat.reduceEqDiff,reduceIte,bf hi,aS x hi,FY hv]
   refine ak (nQ hdb ?_)
   rw [Eh,hd1]
   simp only [aQ,Nat.reduceAdd,Nat.reduceEqDiff,reduceIte]
   by_cases hdm:y.1 ∈ cU rules.l
   ·rw [if_pos hdm] at hst
    simp only [decide_eq_true hdm,Bool.not_true,aD,e6,aK hi hxb,bindO_some]
    exact hn _ _ ⟨a,by rw [hst];exact o,e0,e3,e4,e5,rfl⟩
   ·rw [if_neg hdm] at hst
    simp only [decide_eq_false hdm,Bool.not_false,aC,e4,e5,e6,aQ,Nat.reduceAdd,Nat.reduceEqDiff,reduceIte,aS x hi,FY hv]
    refine ak (ej o (Nat.zero_le _) (by have h1:=uw (cU rules.l) (x.l.take i);have h2:=List.length_take_le i x.l;omega) fun a1 h1 x1 o1=>?_)
    simp only [aQ,Nat.reduceAdd,Nat.reduceEqDiff,reduceIte,e6,aK hi hxb]
    exact hn _ _ ⟨a1,by rw [hst];exact o1,e0,e3,rfl,e5,rfl⟩
  ·rintro e h' ⟨a,o,e0,e3,e4,e5,e6⟩ K' hx
   rw [List.take_of_length_le (Nat.le_refl _),hx1] at o
   have hol:=uw (cU rules.l) (cB rules.l)
   have hos:∃ os,os=nj (cU rules.l) (cB rules.l):=⟨_,rfl⟩
   obtain ⟨os,hos⟩:=hos
   rw [← hos] at o hol
   have hob:os.length≤cm:=by unfold cm;omega
   rw [F.cq.aN]
   simp only [e5,e6,aQ,Nat.reduceAdd,Nat.reduceEqDiff,reduceIte,aT]
   rw [hx,F.cq.aG]
   refine aE 0 os.length (Nat.zero_le _) (fun i e h2=>∃ b,(∀ c,ep a=some c→h2.get c=h'.get c)∧h'.next≤h2.next∧Own me 2 h'.next h2 b ((os.take i).map fun s=>(s,LH (cB rules.l) s))∧e 0=aq aL 3 rules∧e 4=a∧e 7=b∧e 8 = .int .i64 (i:Int))
    ⟨.nils,fun _ _=>rfl,Nat.le_refl _,.nil,e0,e4,rfl,rfl⟩ ?_ ?_
   ·rintro i e h2 _ hi ⟨b,hfr,hnx,ob,e0,e4,e7,e8⟩ K2 hn2 hx2 hr2 hp2
    have hv:os[i]?=some os[i]:=List.getElem?_eq_getElem hi
    generalize os[i]=s at hv
    have o2:=o.agree hfr hnx
    obtain ⟨q,_,i1,i2⟩:=vm o2 hv
    obtain ⟨a5,h5,p5,o5,f5,n5,x5,b5⟩:=ob.push mX Lm hnx (bytes:=24) (by rw [hm,List.length_map,List.length_take];omega) (s,LH (cB rules.l) s)
    rw [F.cq.dS]
    simp only [e0,e4,e7,e8,o2.len,aQ,Nat.reduceAdd,Nat.reduceEqDiff,reduceIte,bf hi,i1,i2]
    refine ak (dN h60 h20 ?_)
    simp only [aQ,Nat.reduceAdd,Nat.reduceEqDiff,reduceIte,i2,AV.beq_refl,Bool.and_self,if_true,KC,KD,p5,e8,aK hi hob]
    refine hn2 _ _ ⟨a5,fun c hc=>by rw [f5 c (by have:=o.lt hc;omega) (fun hb=>by have:=ob.ge hb;have:=o.lt hc;omega)];exact hfr c hc,by omega,?_,e0,e4,rfl,rfl⟩
    rw [List.take_add_one,hv,List.map_append];exact o5
   ·rintro e h2 ⟨b,hfr,hnx,ob,e0,e4,e7,e8⟩ K2 hx2
    rw [List.take_of_length_le (Nat.le_refl _)] at ob
    have o2:=o.agree hfr hnx
    rw [F.cq.dS]
    simp only [e4,e8,o2.len,aQ,Nat.reduceAdd,Nat.reduceEqDiff,reduceIte,aT]
    rw [hx2,F.cq.cG]
    simp only [bt,Nat.reduceEqDiff,reduceIte,e7]
    obtain ⟨y,hy1,hy2⟩:=ob.Ft (fun v y hy=>by
     simp only [me,List.mem_cons,List.not_mem_nil,or_false] at hy
     rcases hy with rfl|rfl<;>exact .scalar _ rfl)
    exact cw.2 ⟨b,y,rfl,by rw [hy1,hos];rfl,hy2⟩
 refine main.frozen (by simp [AV.pureL,bF dR]) fun o h' ho=>?_
 obtain ⟨v,x,rfl,hx,hf⟩:=cw.1 ho
 exact ⟨v,_,rfl,hf,hK x hx⟩
theorem Ge{rs:List aB}{m:dF}{s:dw}(hgo:dc rs []=some m)(hsv:di s=true):(Db rs).all (yW s)=true↔¬ ∃ p ∈ cB rs,p.1 ∉ aY rs∧s.rels.l.find? (jX p.1 p.2)=none:=by
 rw [List.all_eq_true]
 constructor
 ·rintro h ⟨p,hp,hd,hf⟩
  have hin:(p.1,LH (cB rs) p.1) ∈ Db rs:=List.mem_map.2 ⟨p.1,Bz.2 ⟨p,hp,rfl,fun hd'=>hd ((dx rs).1 hd')⟩,rfl⟩
  have h1:=h _ hin
  rw [Eg hgo (show (p.1,p.2) ∈ cB rs from hp),FT hsv,hf] at h1
  cases h1
 ·intro h y hy
  obtain ⟨x,hx,rfl⟩:=List.mem_map.1 hy
  obtain ⟨p,hp,rfl,hd⟩:=Bz.1 hx
  rw [Eg hgo (show (p.1,p.2) ∈ cB rs from hp),FT hsv]
  cases hf:s.rels.l.find? (jX p.1 p.2) with
  |some _=>rfl
  |none=>exact absurd ⟨p,hp,fun hd'=>hd ((dx rs).2 hd'),hf⟩ h
end
end Go.AM
namespace Go.AM
open Go Go.Proofs
noncomputable section
theorem ye:∀ {a b c:List Int},gj a b=true→gj b c=true→gj a c=true
 |x :: a,y :: b,z :: c,h1,h2=>by
  rw [gj] at h1 h2 ⊢
  by_cases e1:x=y
  ·rw [if_pos e1] at h1
   subst e1
   by_cases e2:x=z
   ·rw [if_pos e2] at h2 ⊢;exact ye h1 h2
   ·rw [if_neg e2] at h2 ⊢;exact h2
  ·rw [if_neg e1] at h1
   have q1:=of_decide_eq_true h1
   by_cases e2:y=z
   ·subst e2;rw [if_neg e1];exact h1
   ·rw [if_neg e2] at h2
    have q2:=of_decide_eq_true h2
    rw [if_neg (by omega)];exact decide_eq_true (by omega)
 |[],_,_,h1,_=>by simp [gj] at h1
 |_ :: _,[],_,h1,_=>by simp [gj] at h1
 |_ :: _,_ :: _,[],_,h2=>by simp [gj] at h2
def Gf(l:List (List Int)):Prop:=l.Pairwise fun a b=>gj a b=true
def NN(n k:Nat)(l:List (List Int)):Prop:=(∀ t ∈ l,t.length=k∧gQ n t=true)∧Gf l
theorem BA:∀ {l:List (List Int)},(∀ i a b,l[i]?=some a→l[i+1]?=some b→gj a b=true)→Gf l
 |[],_=>.nil
 |x :: l,h=>by
  have ih:Gf l:=BA fun i a b ha hb=>h (i+1) a b (by simpa using ha) (by simpa using hb)
  refine List.pairwise_cons.2 ⟨fun y hy=>?_,ih⟩
  cases l with
  |nil=>cases hy
  |cons z l=>
   have hz:=h 0 x z rfl rfl
   rcases List.mem_cons.1 hy with rfl|hy
   ·exact hz
   ·exact ye hz ((List.pairwise_cons.1 ih).1 y hy)
theorem BB{l:List (List Int)}(hs:Gf l){i:Nat}{a b:List Int}(ha:l[i]?=some a)(hb:l[i+1]?=some b):gj a b=true:=by
 obtain ⟨h1,rfl⟩:=List.getElem?_eq_some_iff.1 ha
 obtain ⟨h2,rfl⟩:=List.getElem?_eq_some_iff.1 hb
 exact List.pairwise_iff_getElem.1 hs i (i+1) h1 h2 (Nat.lt_succ_self i)
theorem Gg{n k:Nat}{l:List (Sl Int)}:sZ n k l=true↔NN n k (l.map Sl.l):=by
 constructor
 ·intro h
  refine ⟨fun t ht=>?_,BA fun i a b ha hb=>?_⟩
  ·obtain ⟨u,hu,rfl⟩:=List.mem_map.1 ht
   obtain ⟨i,hi⟩:=List.getElem?_of_mem hu
   exact Hs h hi
  ·rw [List.getElem?_map] at ha hb
   obtain ⟨p,hp,rfl⟩:=Option.map_eq_some_iff.1 ha
   obtain ⟨t,ht,rfl⟩:=Option.map_eq_some_iff.1 hb
   have:=rG h (List.getElem?_eq_some_iff.1 ht).1
   unfold ke at this
   rw [ht] at this
   simp only [hp,Bool.and_eq_true] at this
   exact this.2.2
 ·rintro ⟨h1,h2⟩
  refine mG fun i hi=>?_
  have ht:l[i]?=some l[i]:=List.getElem?_eq_getElem hi
  generalize l[i]=t at ht
  obtain ⟨q1,q2⟩:=h1 t.l (List.mem_map_of_mem (List.mem_of_getElem? ht))
  unfold ke
  rw [ht]
  simp only [q1,q2,decide_true,Bool.true_and]
  cases i with
  |zero=>rfl
  |succ j=>
   have hj:j<l.length:=by omega
   have hp:l[j]?=some l[j]:=List.getElem?_eq_getElem hj
   generalize l[j]=p at hp
   simp only [hp]
   exact BB h2 (i:=j) (by rw [List.getElem?_map,hp];rfl) (by rw [List.getElem?_map,ht];rfl)
theorem NO{n k:Nat}{l:List (List Int)}(h:NN n k l):l.length≤n ^ k:=by
 have key:∀ i a,l[i]?=some a→i≤gY n a:=by
  intro i
  induction i with
  |zero=>intro a _;exact Nat.zero_le _
  |succ i ih=>
   intro b hb
   have hi:i<l.length:=by have:=(List.getElem?_eq_some_iff.1 hb).1;omega
   have ha:l[i]?=some l[i]:=List.getElem?_eq_getElem hi
   generalize l[i]=a at ha
   have:=ih a ha
   obtain ⟨a1,a2⟩:=h.1 a (List.mem_of_getElem? ha)
   obtain ⟨b1,b2⟩:=h.1 b (List.mem_of_getElem? hb)
   have:=CX (by omega) a2 b2 (BB h.2 ha hb)
   omega
 cases hl:l.length with
 |zero=>exact Nat.zero_le _
 |succ m=>
  have hm:l[m]?=some (l[m]'(by omega)):=List.getElem?_eq_getElem _
  have h1:=key m _ hm
  obtain ⟨a1,a2⟩:=h.1 _ (List.mem_of_getElem? hm)
  have h2:=lC a2
  rw [a1] at h2
  omega
def Sk(n:Nat)(d:I5):Prop:=ec d.1=true∧∃ k:Nat,d.2.1=(k:Int)∧k≤12∧n ^ k≤4096∧NN n k d.2.2
theorem BC{n:Nat}{r:Rel}:kM n r=true↔Sk n (cQ r):=by
 constructor
 ·intro h
  obtain ⟨k,h1,h2,h3,h4⟩:=sC h
  simp only [kM,Bool.and_eq_true] at h
  exact ⟨h.1,k,h1,h2,h3,Gg.1 h4⟩
 ·rintro ⟨h0,k,h1,h2,h3,h4⟩
  have h1':r.arity=(k:Int):=h1
  have hk:r.arity.toNat=k:=by omega
  simp only [kM,Bool.and_eq_true,decide_eq_true_eq,hk]
  exact ⟨h0,by omega,by omega,h3,Gg.2 h4⟩
structure Gh (size:Int) (ds:List I5):Prop where
 lo:1≤size
 hi:size≤64
 kH:ds.length≤8
 rel:∀ d ∈ ds,Sk size.toNat d
 names:(ds.map (·.1)).Nodup
theorem iJ{s:dw}:di s=true↔Gh s.size (s.rels.l.map cQ):=by
 constructor
 ·intro h
  have h':=h
  simp only [di,Bool.and_eq_true,decide_eq_true_eq] at h'
  refine ⟨h'.1,h'.2.1,by simpa using h'.2.2.1,fun d hd=>?_,?_⟩
  ·obtain ⟨r,hr,rfl⟩:=List.mem_map.1 hd
   obtain ⟨i,hi⟩:=List.getElem?_of_mem hr
   exact BC.1 (rI h hi)
  ·have:=jY h
   rw [List.map_map];exact this
 ·rintro ⟨h1,h2,h3,h4,h5⟩
  rw [List.length_map] at h3
  simp only [di,Bool.and_eq_true,decide_eq_true_eq]
  refine ⟨h1,h2,h3,mG fun i hi=>?_⟩
  have hr:s.rels.l[i]?=some s.rels.l[i]:=List.getElem?_eq_getElem hi
  have hr':=hr
  generalize s.rels.l[i]=r at hr
  rw [m6,hr]
  simp only [Bool.and_eq_true,Bool.not_eq_true']
  refine ⟨BC.2 (h4 _ (List.mem_map_of_mem (List.mem_of_getElem? hr))),?_⟩
  rw [Bool.eq_false_iff]
  intro hany
  obtain ⟨q,hq,hqn⟩:=List.any_eq_true.1 hany
  obtain ⟨j,hj⟩:=List.getElem?_of_mem hq
  have hji:j<i:=by have:=(List.getElem?_eq_some_iff.1 hj).1;rw [List.length_take] at this;omega
  rw [List.getElem?_take_of_lt hji] at hj
  rw [List.map_map,List.Nodup,List.pairwise_iff_getElem] at h5
  have hjl:j<s.rels.l.length:=by omega
  have:=h5 j i (by simpa using hjl) (by simpa using hi) hji
  rw [List.getElem_map,List.getElem_map] at this
  rw [List.getElem?_eq_getElem hjl] at hj
  rw [List.getElem?_eq_getElem hi] at hr
  cases hj;cases hr
  simp only [beq_iff_eq] at hqn
  exact this hqn
theorem jZ{s:dw}(h:di s=true):s.small∧s.ok:=by
 have hp:=iJ.1 h
 have len:∀ r ∈ s.rels.l,r.tuples.l.length≤4096∧(∀ t ∈ r.tuples.l,t.l.length≤12)∧r.name.length≤12:=fun r hr=>by
  obtain ⟨h0,k,h1,h2,h3,h4⟩:=hp.rel _ (List.mem_map_of_mem hr)
  have:=NO h4
  simp only [cQ,List.length_map] at this
  refine ⟨by omega,fun t ht=>?_,?_⟩
  ·have:=(h4.1 t.l (List.mem_map_of_mem ht)).1;omega
  ·replace h0:ec r.name=true:=h0
   unfold ec at h0
   split at h0
   ·cases h0
   ·simp only [Bool.and_eq_true,decide_eq_true_eq] at h0;exact h0.1
 have hl:s.rels.l.length≤8:=by have:=hp.kH;simpa using this
 exact ⟨⟨by omega,fun r hr=>by have:=(len r hr).1;omega,fun r hr t ht=>by have:=(len r hr).2.1 t ht;omega⟩,
  ⟨by unfold cm;omega,fun r hr=>⟨by have:=(len r hr).2.2;unfold cm;omega,by have:=(len r hr).1;unfold cm;omega,fun t ht=>by have:=(len r hr).2.1 t ht;unfold cm;omega⟩⟩⟩
end
end Go.AM
namespace Go.AM
open Go Go.Proofs
noncomputable section
def jF(rs:List aB)(nms:List bC):List Rel:=nms.map fun nm=>⟨nm,(ju rs nm:Int),none⟩
def eH(rs:List aB)(nms:List bC):List I5:=nms.map fun nm=>(nm,(ju rs nm:Int),[])
theorem lG(rs:List aB)(nms:List bC):(jF rs nms).map cQ=eH rs nms:=by unfold jF eH;rw [List.map_map];rfl
theorem JB(s:St):eL Tryz.prog s Tryz.f55.results.toList=(match ai (some 2) (s.env 4) s.h,(some []:Option (List AV)) with|some v,some vs=>some (v :: vs)|_,_=>none):=by kernel_rfl
theorem NP(nm:bC)(k:Int):kJ [.str [],.int .i64 0,.nils] [(0,1),(1,1)] [.str nm,.int .i64 k]=some (.agg (bA ⟨nm,k,none⟩)):=rfl
set_option maxHeartbeats 1000000 in
theorem ff{rules:Sl aB}{s:dw}{m:dF}(h60:rules.l.length≤60)(h20:∀ r ∈ rules.l,r.body.l.length≤20)(hgo:dc rules.l []=some m)(hsm:s.small){h:ag}{K:Out→ag→Bool}
  (hK:∀ a h' rs1,bR h h'→Own bA 3 h.next h' a (rs1++jF rules.l (cU rules.l))→rs1.map cQ=s.rels.l.map cQ→K (.ret (.agg [.int .i64 s.size,a])) h'=true):Sem Tryz.prog 55 [aq aL 3 rules,.agg (aA s)] h K:=by
 have hm:dm=140737488355328:=rfl
 have hdl:=kG rules.l
 refine F.yR ?_
 rw [F.AS]
 simp only [cA (cR s),bindO_some,ag.next_alloc]
 have g0:(ag.alloc (ag.alloc h (.cells (aA s))) (.cells [.int .i64 0,.nils])).get h.next=some (.cells (aA s)):=by rw [ag.aV,ag.next_alloc,if_neg (by omega)];exact aI _ _
 have g1:(ag.alloc (ag.alloc h (.cells (aA s))) (.cells [.int .i64 0,.nils])).get (h.next+1)=some (.cells [.int .i64 0,.nils]):=aI _ _
 have gn:(ag.alloc (ag.alloc h (.cells (aA s))) (.cells [.int .i64 0,.nils])).next=h.next+2:=rfl
 have gx:bR h (ag.alloc (ag.alloc h (.cells (aA s))) (.cells [.int .i64 0,.nils])):=(bR.alloc _ _).trans (bR.alloc _ _)
 generalize (ag.alloc (ag.alloc h (.cells (aA s))) (.cells [.int .i64 0,.nils]))=H1 at g0 g1 gn gx ⊢
 have l0:ai (some 2) (.ptr h.next 0) H1=some (.agg (aA s)):=by rw [an g0,c8 (cs:=aA s) (n:=2) rfl]
 simp only [l0,bindO_some]
 refine ak (fS hsm fun a h3 rs x3 o3 hrs=>?_)
 obtain ⟨ho1,ho2⟩:=sI o3
 have one2:br [.int .i64 s.size,a]=true:=by simp only [br,Bool.and_true] at ho1 ⊢;rw [ho1];rfl
 obtain ⟨H4,hs4,p4,po4,pn4⟩:=cL (h:=h3) (zs:=[.int .i64 0,.nils]) (cs:=[.int .i64 s.size,a]) (n:=2) rfl rfl one2
 have x4:bR h3 H4:=⟨by omega,fun b hb=>po4 b (by omega)⟩
 have n3:=x3.next
 rw [gn] at o3 n3
 have x34:=(gx.trans x3).trans x4
 simp only [aQ,Nat.reduceAdd,Nat.reduceEqDiff,reduceIte,hs4]
 refine ak (cM h60 fun d hd1=>?_)
 have hdl2:d.l.length≤60:=by rw [hd1];omega
 have hdb:d.l.length≤cm:=by unfold cm;omega
 have hrl:=hsm.rels
 have hrsl:rs.length=s.rels.l.length:=by have:=congrArg List.length hrs;simpa using this
 simp only [aQ,Nat.reduceAdd,Nat.reduceEqDiff,reduceIte]
 refine aE 0 d.l.length (Nat.zero_le _) (fun i e h'=>∃ a,h'.get h3.next=some (.cells [.int .i64 s.size,a])∧h'.get (h.next+1)=some (.cells [.int .i64 0,.nils])∧Own bA 3 (h.next+2) h' a (rs++jF rules.l (d.l.take i))∧ep a≠some h3.next∧(∀ b,b<h.next→h'.get b=h.get b)∧h3.next<h'.next ∧
  e 0=aq aL 3 rules∧e 4 = .ptr (h.next+1) 0∧e 5 = .ptr h3.next 0∧e 6=aq encS 1 d∧e 7 = .int .i64 (i:Int))
  ⟨a,p4,by rw [x4.get _ (by omega),x3.get _ (by omega)];exact g1,by simpa [jF] using o3.ext x4,fun hb=>by have:=o3.lt hb;omega,fun b hb=>x34.get b hb,by omega,rfl,rfl,rfl,rfl,rfl⟩ ?_ ?_
 ·rintro i e h' _ hi ⟨a,q3,q1,o,hne,hfr,hnx,e0,e4,e5,e6,e7⟩ K' hn hx hr hp
  have hv:d.l[i]?=some d.l[i]:=List.getElem?_eq_getElem hi
  generalize d.l[i]=nm at hv
  have hnm:nm ∈ aY rules.l:=(dx _).1 (by rw [← hd1];exact List.mem_of_getElem? hv)
  have lo:ai none (.ptr h3.next 1) h'=some a:=by rw [an q3];rfl
  have li:∀ hh,ai none (.iptr (d.l.flatMap encS) (i*1)) hh=some (.str nm):=fun hh=>iq hv
  obtain ⟨a5,h5,p5,o5,f5,n5,x5,b5⟩:=o.push fN iD (by omega) (bytes:=48) (by rw [hm,List.length_append];unfold jF;rw [List.length_map,List.length_take];omega) ⟨nm,(ju rules.l nm:Int),none⟩
  have s3:h5.get h3.next=some (.cells [.int .i64 s.size,a]):=by rw [f5 _ (by omega) hne];exact q3
  have c5:=o5.Bn
  have st:bL 1 (.ptr h3.next 1) a5 h5=some (h5.set h3.next (.cells [.int .i64 s.size,a5])):=by
   rw [dV (n:=1) s3 c5.2.1 c5.1 (by simp),c5.2.2];rfl
  rw [F.ff.aN]
  simp only [e0,e5,e6,e7,aQ,Nat.reduceAdd,Nat.reduceEqDiff,reduceIte,bf hi,lo,aS d hi,li]
  refine ak (dN h60 h20 ?_)
  rw [Gc hgo hnm]
  simp only [aQ,Nat.reduceAdd,Nat.reduceEqDiff,reduceIte,li,lo,AV.beq_refl,Bool.and_self,Bool.and_true,if_true,NP,Ip,p5,e5,e7,st,aK hi hdb]
  refine hn _ _ ⟨a5,by rw [ag.aO,if_pos rfl],by rw [ag.aO,if_neg (by omega),f5 _ (by omega) (fun hb=>by have:=o.ge hb;omega)];exact q1,?_,fun hb=>by have:=b5 _ hb;omega,fun b hb=>?_,by rw [ag.next_set];omega,e0,e4,e5,e6,rfl⟩
  ·have hl:rs++jF rules.l (d.l.take (i+1))=(rs++jF rules.l (d.l.take i))++[⟨nm,(ju rules.l nm:Int),none⟩]:=by
    rw [List.take_add_one,hv]
    unfold jF
    rw [List.map_append,← List.append_assoc]
    rfl
   rw [hl]
   exact o5.agree (fun b hb=>by rw [ag.aO,if_neg (by have:=b5 _ hb;omega)]) (by rw [ag.next_set];exact Nat.le_refl _)
  ·rw [ag.aO,if_neg (by omega),f5 b (by omega) (fun hb'=>by have:=o.ge hb';omega)]
   exact hfr b hb
 ·rintro e h' ⟨a,q3,q1,o,hne,hfr,hnx,e0,e4,e5,e6,e7⟩ K' hx
  rw [List.take_of_length_le (Nat.le_refl _),hd1] at o
  obtain ⟨ho1,ho2⟩:=sI o
  have one3:br [.int .i64 s.size,a]=true:=by simp only [br,Bool.and_true] at ho1 ⊢;rw [ho1];rfl
  have lo:ai (some 2) (.ptr h3.next 0) h'=some (.agg [.int .i64 s.size,a]):=by rw [an q3];rfl
  have st:bL 2 (.ptr (h.next+1) 0) (.agg [.int .i64 s.size,a]) h'=some (h'.set (h.next+1) (.cells [.int .i64 s.size,a])):=by
   rw [dV (n:=2) (v:=.agg [.int .i64 s.size,a]) q1 rfl one3 (by simp)];rfl
  have lo2:ai (some 2) (.ptr (h.next+1) 0) (h'.set (h.next+1) (.cells [.int .i64 s.size,a]))=some (.agg [.int .i64 s.size,a]):=by rw [an (cs:=[.int .i64 s.size,a]) (by rw [ag.aO,if_pos rfl])];rfl
  rw [F.ff.aN]
  simp only [e6,e7,aQ,Nat.reduceAdd,Nat.reduceEqDiff,reduceIte,aT]
  rw [hx,F.ff.aG]
  simp only [bt,Nat.reduceEqDiff,reduceIte,e4,e5,lo,st,bindO_some,JB,lo2,oneOf]
  exact hK a _ rs ⟨by rw [ag.next_set];omega,fun b hb=>by rw [ag.aO,if_neg (by omega)];exact hfr b hb⟩ ((o.pH (by omega) _).weak (by omega)) hrs
theorem Ci{n:Int}{k:Nat}{a:AV}{rs:List Rel}{h:ag}(o:Own bA 3 k h a rs)(hok:(⟨n,some rs⟩:dw).ok){K:Out→ag→Bool}(hK:K (.ret (.bool (di ⟨n,some rs⟩))) h=true):Sem Tryz.prog 17 [.agg [.int .i64 n,a]] h K:=by
 obtain ⟨x,hx1,hx2⟩:=o.Ft (fun v y hy=>by
  simp only [bA,List.mem_cons,List.not_mem_nil,or_false] at hy
  rcases hy with rfl|rfl|rfl
  ·exact .scalar _ rfl
  ·exact .scalar _ rfl
  ·exact .dD (bF ov _))
 have hok2:(⟨n,x⟩:dw).ok:=by
  obtain ⟨q1,q2⟩:=hok
  exact ⟨by show x.l.length≤cm;rw [hx1];exact q1,fun r hr=>q2 r (by have:r ∈ x.l:=hr;rw [hx1] at this;exact this)⟩
 have he:di ⟨n,x⟩=di ⟨n,some rs⟩:=by
  rw [Bool.eq_iff_iff,iJ,iJ]
  show Gh n (x.l.map cQ)↔Gh n (rs.map cQ)
  rw [hx1]
 have hs:=bZ (s:=⟨n,x⟩) hok2 (h:=ag.empty) (K:=mS (.bool (di ⟨n,x⟩))) (cK rfl)
 rw [← he] at hK
 have fl:=jB.cons (.scalar (.int .i64 n) rfl) (jB.cons hx2 jB.nil)
 exact Sem.KE rfl hs (jB.cons (.agg _ _ fl.len fl.rel) .nil) hK
theorem yf{rs:List aB}{s:dw}{m:dF}{rs':List Rel}(hg:j9 rs)(hgo:dc rs []=some m)(hsv:di s=true)(h4:¬ ∃ r ∈ s.rels.l,r.name ∈ aY rs)(hrs:rs'.map cQ=s.rels.l.map cQ++eH rs (cU rs)) :
  di ⟨s.size,some rs'⟩=true↔¬ (8<s.rels.l.length+(cU rs).length∨∃ r ∈ rs,4096<s.size.toNat ^ r.args.l.length):=by
 have hsp:=iJ.1 hsv
 have hlen:rs'.length=s.rels.l.length+(cU rs).length:=by have:=congrArg List.length hrs;simpa [eH] using this
 rw [iJ]
 show Gh s.size (rs'.map cQ)↔_
 rw [hrs]
 constructor
 ·rintro ⟨q1,q2,q3,q4,q5⟩ (hb|⟨r,hr,hb⟩)
  ·rw [List.length_append,List.length_map] at q3
   unfold eH at q3
   rw [List.length_map] at q3;omega
  ·have hm:(r.name,(ju rs r.name:Int),([]:List (List Int))) ∈ s.rels.l.map cQ++eH rs (cU rs):=List.mem_append_right _ (List.mem_map.2 ⟨r.name,(dx rs).2 (List.mem_map_of_mem hr),rfl⟩)
   obtain ⟨_,k,h1,h2,h3,_⟩:=q4 _ hm
   rw [Bx hgo hr] at h1
   have:k=r.args.l.length:=by simp only at h1;omega
   rw [this] at h3;omega
 ·intro hno
  have hd8:s.rels.l.length+(cU rs).length≤8:=Nat.le_of_not_lt fun h=>hno (.inl h)
  refine ⟨hsp.lo,hsp.hi,by rw [List.length_append,List.length_map];unfold eH;rw [List.length_map];exact hd8,fun d hd=>?_,?_⟩
  ·rcases List.mem_append.1 hd with hd|hd
   ·exact hsp.rel d hd
   ·obtain ⟨nm,hnm,rfl⟩:=List.mem_map.1 hd
    obtain ⟨_,r,hr,hrn,har⟩:=sN hgo ((dx rs).1 hnm)
    have hat:=(fU hgo r hr).1
    refine ⟨by rw [← hrn];exact A6 hat,ju rs nm,rfl,by rw [har];exact lF hat,?_,fun t ht=>(by cases ht),List.Pairwise.nil⟩
    rw [har]
    exact Nat.le_of_not_lt fun h=>hno (.inr ⟨r,hr,h⟩)
  ·rw [List.map_append]
   have e2:(eH rs (cU rs)).map (·.1)=cU rs:=by unfold eH;rw [List.map_map];simp [Function.comp_def]
   rw [e2]
   refine List.nodup_append.2 ⟨hsp.names,rF (nE rs),fun x hx y hy e=>?_⟩
   subst e
   rw [List.map_map] at hx
   obtain ⟨r,hr,hrn⟩:=List.mem_map.1 hx
   exact h4 ⟨r,hr,by have:=(dx rs).1 hy;rw [← hrn] at this;exact this⟩
set_option maxHeartbeats 2000000 in
theorem bG{rules:Sl aB}{s:dw}(hok:∀ r ∈ rules.l,r.ok)(hfew:∀ r ∈ rules.l,r.kH)(hsok:s.ok){h:ag}{K:Out→ag→Bool}
  (herr:∀ e,uv rules.l s e→K (.ret (.int .i64 e)) h=true) (hyes:fI rules.l s→K (.ret (.int .i64 0)) h=true):Sem Tryz.prog 14 [aq aL 3 rules,.agg (aA s)] h K:=by
 have gen:∀ R:Out→ag→Bool,(∀ e h',(uv rules.l s e∨(e=0∧fI rules.l s))→R (.ret (.int .i64 e)) h'=true)→Sem Tryz.prog 14 [aq aL 3 rules,.agg (aA s)] ag.empty R:=by
  intro R fin
  refine F.yP ?_
  rw [F.AQ]
  simp only [cA (cR s),bindO_some,bp]
  have g0:(ag.empty.alloc (.cells (aA s))).get 0=some (.cells (aA s)):=aI _ _
  have gn:(ag.empty.alloc (.cells (aA s))).next=1:=rfl
  generalize (ag.empty.alloc (.cells (aA s)))=H at g0 gn ⊢
  have l0:ai (some 2) (.ptr 0 0) H=some (.agg (aA s)):=by rw [an g0,c8 (cs:=aA s) (n:=2) rfl]
  refine ak (bE hok hfew fun b hb=>?_)
  simp only [aQ,Nat.reduceAdd,Nat.reduceEqDiff,reduceIte]
  cases b with
  |false=>
   simp only [Bool.not_false,aC]
   exact fin 1 _ (.inl (.inl ⟨.inl fun hg=>(by have:=hb.2 hg;cases this),rfl⟩))
  |true=>
  have hg:=hb.1 rfl
  simp only [Bool.not_true,aD,l0,bindO_some]
  refine ak (bZ hsok ?_)
  simp only [aQ,Nat.reduceAdd,Nat.reduceEqDiff,reduceIte]
  cases hsv:di s with
  |false=>
   simp only [Bool.not_false,aC]
   exact fin 1 _ (.inl (.inl ⟨.inr hsv,rfl⟩))
  |true=>
  obtain ⟨n,hn,n1,n64,h8⟩:=oA hsv
  have hnn:s.size.toNat=n:=by omega
  obtain ⟨m,hgo⟩:=hg.go
  have hgok:=fU hgo
  have h20:∀ r ∈ rules.l,r.body.l.length≤20:=fun r hr=>(hgok r hr).2.1
  have h60:=hg.kH
  have hdl:=kG rules.l
  simp only [Bool.not_true,aD]
  refine ak (cM h60 fun d hd1=>?_)
  simp only [aQ,Nat.reduceAdd,Nat.reduceEqDiff,reduceIte,l0]
  refine ak (cq h60 h20 fun sy hsy=>?_)
  have hsl:sy.l.length≤1260:=by
   rw [hsy];unfold Db;rw [List.length_map]
   have h1:=uw (cU rules.l) (cB rules.l)
   have h2:=xe h60 h20
   omega
  simp only [aQ,Nat.reduceAdd,Nat.reduceEqDiff,reduceIte,l0,AV.beq_refl,Bool.and_self,if_true]
  refine ak (eG hsok (by unfold cm;omega) ?_)
  rw [hsy]
  simp only [aQ,Nat.reduceAdd,Nat.reduceEqDiff,reduceIte]
  have e4:Js rules.l s→uv rules.l s 4:=fun h=>.inr ⟨hg,hsv,.inl ⟨h,rfl⟩⟩
  cases hfit:(Db rules.l).all (yW s) with
  |false=>
   simp only [Bool.not_false,aC]
   refine fin 4 _ (.inl (e4 (.inl ?_)))
   exact Decidable.not_not.1 fun h=>by rw [(Ge hgo hsv).2 h] at hfit;cases hfit
  |true=>
  have hnoA:=(Ge hgo hsv).1 hfit
  have hdb:d.l.length≤cm:=by rw [hd1];unfold cm;omega
  have hrb:rules.l.length≤cm:=by unfold cm;omega
  simp only [Bool.not_true,aD]
  refine aE 0 d.l.length (Nat.zero_le _) (fun i e h'=>h'.get 0=some (.cells (aA s))∧1≤h'.next∧(∀ nm ∈ d.l.take i,∀ r ∈ s.rels.l,r.name≠nm)∧e 0=aq aL 3 rules∧e 3 = .ptr 0 0∧e 5=aq encS 1 d∧e 6 = .int .i64 (i:Int)) ⟨g0,by omega,fun nm hnm=>(by cases hnm),rfl,rfl,rfl,rfl⟩ ?_ ?_
  ·rintro i e h' _ hi ⟨q0,qn,hno,e0,e3,e5,e6⟩ K' hn' hx hr hp
   have hv:d.l[i]?=some d.l[i]:=List.getElem?_eq_getElem hi
   generalize d.l[i]=nm at hv
   have l0':ai (some 2) (.ptr 0 0) h'=some (.agg (aA s)):=by rw [an q0,c8 (cs:=aA s) (n:=2) rfl]
   rw [F.bG.aN]
   simp only [e3,e5,e6,aQ,Nat.reduceAdd,Nat.reduceEqDiff,reduceIte,bf hi,l0',aS d hi,iq hv]
   refine ak (ey hsok ?_)
   simp only [aQ,Nat.reduceAdd,Nat.reduceEqDiff,reduceIte]
   rcases lX (dU nm) s.rels.l with ⟨f1,f2⟩|⟨j,r,f1,f2,f3⟩
   ·rw [f1]
    simp only [show decide ((0:Int)≤-1)=false from rfl,aD,e6,aK hi hdb,bindO_some]
    refine hn' _ _ ⟨q0,qn,fun x hx' r hr' e=>?_,e0,e3,e5,rfl⟩
    rw [List.take_add_one,hv] at hx'
    rcases List.mem_append.1 hx' with hx'|hx'
    ·exact hno x hx' r hr' e
    ·simp only [Option.toList_some,List.mem_singleton] at hx'
     rw [List.find?_eq_none] at f2
     exact f2 r hr' (by simp [dU,e,hx'])
   ·rw [f1]
    simp only [decide_eq_true (by omega:(0:Int)≤(j:Int)),aC]
    rw [hr,F.bG.aZ]
    simp only [bt,Nat.reduceEqDiff,reduceIte]
    have hrn:=List.find?_some f3
    simp only [dU,beq_iff_eq] at hrn
    exact fin 4 _ (.inl (e4 (.inr ⟨r,List.mem_of_getElem? f2,(dx _).1 (by rw [hrn,← hd1];exact List.mem_of_getElem? hv)⟩)))
  ·rintro e h' ⟨q0,qn,hno,e0,e3,e5,e6⟩ K' hx
   rw [List.take_of_length_le (Nat.le_refl _)] at hno
   have hnoB:¬ ∃ r ∈ s.rels.l,r.name ∈ aY rules.l:=fun ⟨r,hr,hh⟩=>hno r.name (by rw [hd1];exact (dx _).2 hh) r hr rfl
   have h4:¬ Js rules.l s:=fun h=>h.elim hnoA hnoB
   have e5':LG rules.l s→uv rules.l s 5:=fun h=>.inr ⟨hg,hsv,.inr ⟨h4,h,rfl⟩⟩
   rw [F.bG.aN]
   simp only [e5,e6,aQ,Nat.reduceAdd,Nat.reduceEqDiff,reduceIte,aT]
   rw [hx,F.bG.aG]
   refine aE 0 rules.l.length (Nat.zero_le _) (fun i e h2=>h2.get 0=some (.cells (aA s))∧1≤h2.next∧(∀ r ∈ rules.l.take i,n ^ (varsOf r).length≤65536)∧e 0=aq aL 3 rules∧e 3 = .ptr 0 0∧e 7 = .int .i64 (i:Int)) ⟨q0,qn,fun r hr=>(by cases hr),e0,e3,rfl⟩ ?_ ?_
   ·rintro i e h2 _ hi ⟨q0,qn,hsz,e0,e3,e7⟩ K2 hn2 hx2 hr2 hp2
    have hv:rules.l[i]?=some rules.l[i]:=List.getElem?_eq_getElem hi
    generalize rules.l[i]=r at hv
    have hrm:=List.mem_of_getElem? hv
    have hr12:=(hgok r hrm).2.2
    have hvb:(varsOf r).length≤cm:=by unfold cm;omega
    rw [F.bG.dS]
    simp only [e0,e7,aQ,Nat.reduceAdd,Nat.reduceEqDiff,reduceIte,bf hi]
    refine jb (fun k e h3=>∃ j,k=(varsOf r).length-j∧j≤(varsOf r).length∧n ^ (j-1)≤65536∧h3.get 0=some (.cells (aA s))∧1≤h3.next∧e 0=aq aL 3 rules∧e 3 = .ptr 0 0∧e 7 = .int .i64 (i:Int)∧e 8 = .int .i64 ((n ^ j:Nat):Int)∧e 9 = .int .i64 (j:Int)) ((varsOf r).length)
     ⟨0,rfl,Nat.zero_le _,by simp,q0,qn,e0,e3,e7,rfl,rfl⟩ ?_
    rintro k e h3 ⟨j,hk,hj,hpj,q0,qn,e0,e3,e7,e8,e9⟩
    have lz:ai none (.ptr 0 0) h3=some (.int .i64 (n:Int)):=by rw [an q0,← hn];rfl
    have hn8:n ^ j≤65536*64:=by
     cases j with
     |zero=>simp
     |succ j=>rw [Nat.pow_succ];simp only [Nat.add_sub_cancel] at hpj;exact Nat.mul_le_mul hpj n64
    have out:∀ (e':Env),e' 0=aq aL 3 rules→e' 3 = .ptr 0 0→e' 7 = .int .i64 (i:Int)→e' 8 = .int .i64 ((n ^ j:Nat):Int)→(65536<n ^ j∨j=(varsOf r).length)→F.bG.sq K2 (.exit 4) ⟨e',69,[],h3⟩=true:=by
     intro e' e0 e3 e7 e8 hcase
     rw [F.bG.gw]
     simp only [e8,aQ,Nat.reduceAdd,Nat.reduceEqDiff,reduceIte]
     by_cases hbg:65536<n ^ j
     ·simp only [decide_eq_true (by omega:(65536:Int)<((n ^ j:Nat):Int)),aC]
      rw [hr2,F.bG.iR]
      simp only [bt,Nat.reduceEqDiff,reduceIte]
      exact fin 5 _ (.inl (e5' (.inr (.inr ⟨r,hrm,by rw [hnn];have:=uo n1 hj;omega⟩))))
     ·have hjv:=hcase.resolve_left hbg
      simp only [decide_eq_false (by omega:¬ (65536:Int)<((n ^ j:Nat):Int)),aD,e7,aK hi hrb,bindO_some]
      refine hn2 _ _ ⟨q0,qn,fun q hq=>?_,e0,e3,rfl⟩
      rw [List.take_add_one,hv] at hq
      rcases List.mem_append.1 hq with hq|hq
      ·exact hsz q hq
      ·simp only [Option.toList_some,List.mem_singleton] at hq
       subst hq;rw [← hjv];omega
    rw [F.bG.iS]
    simp only [e0,e7,aQ,Nat.reduceAdd,Nat.reduceEqDiff,reduceIte,aS rules hi,cZ eN hv]
    simp only [aL]
    refine ak (bH (hfew r hrm) fun x hx1=>?_)
    simp only [aQ,Nat.reduceAdd,Nat.reduceEqDiff,reduceIte,hx1,e8,e9]
    by_cases hjl:j<(varsOf r).length
    ·simp only [bf hjl,aC,aQ,Nat.reduceAdd,Nat.reduceEqDiff,reduceIte]
     by_cases hle:n ^ j≤65536
     ·have hm:((n ^ j:Nat):Int)*(n:Int)=((n ^ (j+1):Nat):Int):=by rw [Nat.pow_succ,Int.natCast_mul]
      have hmul:n ^ j*n≤65536*64:=Nat.mul_le_mul hle n64
      have hps:n ^ (j+1)=n ^ j*n:=Nat.pow_succ n j
      have hmm:aJ .mul (.int .i64 ((n ^ j:Nat):Int)) (.int .i64 (n:Int))=some (.int .i64 ((n ^ (j+1):Nat):Int)):=by rw [r8 (by rw [hm];omega) (by rw [hm];omega),hm]
      simp only [decide_eq_true (by omega:((n ^ j:Nat):Int)≤65536),aC,e3,e8,e9,aQ,Nat.reduceAdd,Nat.reduceEqDiff,reduceIte,lz,hmm,aK hjl hvb]
      exact cw.2 ⟨(varsOf r).length-(j+1),by omega,rfl,rfl,j+1,rfl,by omega,by simpa using hle,q0,qn,e0,e3,e7,rfl,rfl⟩
     ·simp only [decide_eq_false (by omega:¬ ((n ^ j:Nat):Int)≤65536),aD,loopK_exit]
      exact out _ e0 e3 e7 e8 (.inl (by omega))
    ·have hje:j=(varsOf r).length:=by omega
     simp only [decide_eq_false (by omega:¬ (j:Int)<((varsOf r).length:Int)),aD,loopK_exit]
     exact out _ e0 e3 e7 e8 (.inr hje)
   ·rintro e h2 ⟨q0,qn,hsz,e0,e3,e7⟩ K2 hx2
    rw [List.take_of_length_le (Nat.le_refl _)] at hsz
    have l0':ai (some 2) (.ptr 0 0) h2=some (.agg (aA s)):=by rw [an q0,c8 (cs:=aA s) (n:=2) rfl]
    rw [F.bG.dS]
    simp only [e0,e7,aQ,Nat.reduceAdd,Nat.reduceEqDiff,reduceIte,aT]
    rw [hx2,F.bG.cG]
    simp only [aQ,Nat.reduceAdd,Nat.reduceEqDiff,reduceIte,e0,e3,l0']
    refine ak (ff h60 h20 hgo (jZ hsv).1 fun a h4' rs1 x4 o4 hrs1=>?_)
    obtain ⟨rs',hrs'⟩:∃ rs',rs'=rs1++jF rules.l (cU rules.l):=⟨_,rfl⟩
    rw [← hrs'] at o4
    have hrs:rs'.map cQ=s.rels.l.map cQ++eH rules.l (cU rules.l):=by rw [hrs',List.map_append,lG,hrs1]
    simp only [aQ,Nat.reduceAdd,Nat.reduceEqDiff,reduceIte]
    have hok':(⟨s.size,some rs'⟩:dw).ok:=by
     have hl:rs'.length=s.rels.l.length+(cU rules.l).length:=by have:=congrArg List.length hrs;simpa [eH] using this
     refine ⟨by show rs'.length≤cm;unfold cm;omega,fun r hr=>?_⟩
     have hd:cQ r ∈ s.rels.l.map cQ++eH rules.l (cU rules.l):=by rw [← hrs];exact List.mem_map_of_mem hr
     have hsok2:=(jZ hsv).2
     have hsm2:=(jZ hsv).1
     rcases List.mem_append.1 hd with hd|hd
     ·obtain ⟨q,hq,hqe⟩:=List.mem_map.1 hd
      unfold cQ at hqe
      simp only [Prod.mk.injEq] at hqe
      have hq2:=hsok2.2 q hq
      refine ⟨by rw [← hqe.1];exact hq2.1,?_,fun t ht=>?_⟩
      ·have h1:=congrArg List.length hqe.2.2
       simp only [List.length_map] at h1
       rw [← h1];exact hq2.2.1
      ·have h1:t.l ∈ q.tuples.l.map Sl.l:=by rw [hqe.2.2];exact List.mem_map_of_mem ht
       obtain ⟨u,hu,hue⟩:=List.mem_map.1 h1
       rw [← hue];exact hq2.2.2 u hu
     ·obtain ⟨nm,hnm,hqe⟩:=List.mem_map.1 hd
      unfold cQ at hqe
      simp only [Prod.mk.injEq] at hqe
      obtain ⟨_,q,hq,hqn,_⟩:=sN hgo ((dx _).1 hnm)
      have ht0:r.tuples.l = []:=by have:=hqe.2.2;simpa using this.symm
      refine ⟨by rw [← hqe.1,← hqn];have:=KH (A6 (hgok q hq).1);unfold cm;omega,by rw [ht0];exact Nat.zero_le _,fun t ht=>by rw [ht0] at ht;cases ht⟩
    refine ak (Ci o4 hok' ?_)
    simp only [aQ,Nat.reduceAdd,Nat.reduceEqDiff,reduceIte]
    have hev:=yf hg hgo hsv hnoB hrs
    cases hvd:di ⟨s.size,some rs'⟩ with
    |false=>
     simp only [Bool.not_false,aC]
     refine fin 5 _ (.inl (e5' ?_))
     have:(8<s.rels.l.length+(cU rules.l).length∨∃ r ∈ rules.l,4096<s.size.toNat ^ r.args.l.length):=Decidable.not_not.1 fun h=>by rw [hev.2 h] at hvd;cases hvd
     rcases this with h|h
     ·exact .inl h
     ·exact .inr (.inl h)
    |true=>
     simp only [Bool.not_true,aD]
     have hno5:=hev.1 hvd
     refine fin 0 _ (.inr ⟨rfl,hg,hsv,h4,?_⟩)
     rintro (h|h|⟨r,hr,h⟩)
     ·exact hno5 (.inl h)
     ·exact hno5 (.inr h)
     ·rw [hnn] at h;have:=hsz r hr;omega
 have main:=gen (fun o h'=>yes (∃ e,o = .ret (.int .i64 e)∧(uv rules.l s e∨(e=0∧fI rules.l s)))) (fun e h' he=>cw.2 ⟨e,rfl,he⟩)
 refine main.frozen (by simp [AV.pureL,AV.pure,bF dR,er]) fun o h' ho=>?_
 obtain ⟨e,rfl,he⟩:=cw.1 ho
 refine ⟨_,_,rfl,.scalar _ rfl,?_⟩
 rcases he with he|⟨rfl,he⟩
 ·exact herr e he
 ·exact hyes he
end
end Go.AM
namespace Go.AM
open Go Go.Proofs
noncomputable section
set_option maxHeartbeats 1000000 in
theorem yY{n k:Nat}(h1:1≤n)(h2:n≤64)(hk:k≤12)(hc:n ^ k≤4096){nm:bC}{ts:Sl (Sl Int)}(hl:ts.l.length≤cm)(ht:sZ n k ts.l=true){h:ag}{K:Out→ag→Bool}
  (hK:∀ h' b,bR h h'→h.next≤b→b<h'.next→h'.get b=some (.cells ((bitsOf n k ts.l).map bv))→K (.ret (.agg [.str nm,.int .i64 (k:Int),.slice b 0 (n ^ k) 1])) h'=true):Sem Tryz.prog 162 [.int .i64 (n:Int),.str nm,.int .i64 (k:Int),aq eE 1 ts] h K:=by
 have hkb:k≤cm:=by unfold cm;omega
 refine F.nB ?_
 rw [F.oo]
 refine ak (fL h1 h2 hkb fun v v1 v2=>?_)
 have hv:=v1 hc
 subst hv
 simp only [outK_ret,zu (show n ^ k≤1000000 by omega),bindO2_some,ag.next_alloc]
 have ha:∀ b:Nat,kJ [(.str []),(.int .i64 0),.nils] [(0,1),(1,1),(2,1)] [.str nm,.int .i64 (k:Int),.slice b 0 (n ^ k) 1]=some (.agg [.str nm,.int .i64 (k:Int),.slice b 0 (n ^ k) 1]):=fun _=>rfl
 simp only [ha,bindO_some]
 have g0:((ag.alloc h (.cells [(.str []),(.int .i64 0),.nils])).alloc (.cells ((List.replicate (n ^ k) false).map bv))).get h.next=some (.cells [(.str []),(.int .i64 0),.nils]):=by rw [ag.aV,ag.next_alloc,if_neg (by omega)];exact aI _ _
 have g1:((ag.alloc h (.cells [(.str []),(.int .i64 0),.nils])).alloc (.cells ((List.replicate (n ^ k) false).map bv))).get (h.next+1)=some (.cells ((List.replicate (n ^ k) false).map bv)):=aI _ _
 have gn:((ag.alloc h (.cells [(.str []),(.int .i64 0),.nils])).alloc (.cells ((List.replicate (n ^ k) false).map bv))).next=h.next+2:=rfl
 have gx:bR h ((ag.alloc h (.cells [(.str []),(.int .i64 0),.nils])).alloc (.cells ((List.replicate (n ^ k) false).map bv))):=(bR.alloc _ _).trans (bR.alloc _ _)
 generalize ((ag.alloc h (.cells [(.str []),(.int .i64 0),.nils])).alloc (.cells ((List.replicate (n ^ k) false).map bv)))=H0 at g0 g1 gn gx ⊢
 obtain ⟨H,hs,p2,go,hn⟩:=cL (h:=H0) (zs:=[.str [],.int .i64 0,.nils]) (cs:=[.str nm,.int .i64 (k:Int),.slice (h.next+1) 0 (n ^ k) 1]) (n:=3) rfl rfl rfl
 rw [gn] at hs p2 go hn
 have p0:H.get h.next=some (.cells [(.str []),(.int .i64 0),.nils]):=by rw [go _ (by omega)];exact g0
 have p1:H.get (h.next+1)=some (.cells ((List.replicate (n ^ k) false).map bv)):=by rw [go _ (by omega)];exact g1
 have px:∀ b,b<h.next→H.get b=h.get b:=fun b hb=>by rw [go b (by omega)];exact gx.get b hb
 simp only [gn,hs,bindO_some]
 refine aE 0 ts.l.length (Nat.zero_le _) (fun i e h'=>∃ d,bitsOf n k ts.l=iB n (ts.l.drop i) d∧d.length=n ^ k∧h'.get h.next=some (.cells [(.str []),(.int .i64 0),.nils])∧h'.get (h.next+1)=some (.cells (d.map bv))∧h'.get (h.next+2)=some (.cells [.str nm,.int .i64 (k:Int),.slice (h.next+1) 0 (n ^ k) 1])∧(∀ b,b<h.next→h'.get b=h.get b)∧h'.next=h.next+3 ∧
  e 0 = .int .i64 (n:Int)∧e 3=aq eE 1 ts∧e 8 = .ptr h.next 0∧e 9 = .ptr (h.next+2) 0∧e 10 = .int .i64 (i:Int)) ⟨_,rfl,by simp,p0,p1,p2,px,by omega,rfl,rfl,rfl,rfl,rfl⟩ ?_ ?_
 ·rintro i e h' _ hi ⟨d,hd,hdl,q0,q1,q2,qf,qn,e0,e3,e8,e9,e10⟩ K' hnx hx hr hp
  have hv:ts.l[i]?=some ts.l[i]:=List.getElem?_eq_getElem hi
  generalize ts.l[i]=t at hv
  obtain ⟨htl,htb⟩:=Hs ht hv
  have hrk:gY n t.l<n ^ k:=by have:=lC htb;rwa [htl] at this
  rw [wL hv] at hd
  have l2:ai none (.ptr (h.next+2) 2) h'=some (.slice (h.next+1) 0 (n ^ k) 1):=by rw [an q2];rfl
  rw [F.dz.aN]
  simp only [e0,e3,e9,e10,aQ,Nat.reduceAdd,Nat.reduceEqDiff,reduceIte,bf hi,aS ts hi,iT hv,l2]
  refine ak (fK h1 (by omega) (by rw [htl];exact hc) htb ?_)
  simp only [outK_ret,l2,bindO_some,AV.beq_refl,Bool.and_self,if_true,jy hrk,rB q1 (show gY n t.l<d.length by omega),aK hi hl,e10]
  exact hnx _ _ ⟨_,hd,by simpa using hdl,by rw [ag.aO,if_neg (by omega)];exact q0,by rw [ag.aO,if_pos rfl],by rw [ag.aO,if_neg (by omega)];exact q2,fun b hb=>by rw [ag.aO,if_neg (by omega)];exact qf b hb,by rw [ag.next_set];exact qn,e0,e3,e8,e9,rfl⟩
 ·rintro e h' ⟨d,hd,hdl,q0,q1,q2,qf,qn,e0,e3,e8,e9,e10⟩ K' hx
  rw [F.dz.aN]
  simp only [e3,e10,aQ,Nat.reduceAdd,Nat.reduceEqDiff,reduceIte,aT]
  rw [hx,F.dz.aG]
  rw [List.drop_of_length_le (Nat.le_refl _)] at hd
  simp only [iB] at hd
  have l2:ai (some 3) (.ptr (h.next+2) 0) h'=some (.agg [.str nm,.int .i64 (k:Int),.slice (h.next+1) 0 (n ^ k) 1]):=by rw [an q2];rfl
  have st:bL 3 (.ptr h.next 0) (.agg [.str nm,.int .i64 (k:Int),.slice (h.next+1) 0 (n ^ k) 1]) h'=some (h'.set h.next (.cells [.str nm,.int .i64 (k:Int),.slice (h.next+1) 0 (n ^ k) 1])):=by
   rw [dV (n:=3) q0 rfl rfl (by simp)];rfl
  have r0:(h'.set h.next (.cells [.str nm,.int .i64 (k:Int),.slice (h.next+1) 0 (n ^ k) 1])).get h.next=some (.cells [.str nm,.int .i64 (k:Int),.slice (h.next+1) 0 (n ^ k) 1]):=by rw [ag.aO,if_pos rfl]
  have r1:(h'.set h.next (.cells [.str nm,.int .i64 (k:Int),.slice (h.next+1) 0 (n ^ k) 1])).get (h.next+1)=some (.cells (d.map bv)):=by rw [ag.aO,if_neg (by omega)];exact q1
  have rx:bR h (h'.set h.next (.cells [.str nm,.int .i64 (k:Int),.slice (h.next+1) 0 (n ^ k) 1])):=⟨by rw [ag.next_set];omega,fun b hb=>by rw [ag.aO,if_neg (by omega)];exact qf b hb⟩
  have rn:(h'.set h.next (.cells [.str nm,.int .i64 (k:Int),.slice (h.next+1) 0 (n ^ k) 1])).next=h.next+3:=by rw [ag.next_set];exact qn
  generalize (h'.set h.next (.cells [.str nm,.int .i64 (k:Int),.slice (h.next+1) 0 (n ^ k) 1]))=H2 at st r0 r1 rx rn
  have l3:ai (some 3) (.ptr h.next 0) H2=some (.agg [.str nm,.int .i64 (k:Int),.slice (h.next+1) 0 (n ^ k) 1]):=by rw [an r0];rfl
  simp only [bt,Nat.reduceEqDiff,reduceIte,e8,e9,l2,st,bindO_some,CU,l3,oneOf]
  exact hK H2 (h.next+1) rx (by omega) (by omega) (by rw [hd];exact r1)
theorem eB.nil(k0:Nat)(h:ag):eB k0 h .nils []:=⟨.nil,fun p hp=>(by cases hp),fun i j s t hi=>(by simp at hi)⟩
theorem eB.low{k0:Nat}{h:ag}{a:AV}{ts:List dh}(t:eB k0 h a ts){d:Nat}(hd:d<k0)(x:jG):eB k0 (h.set d x) a ts:=
 t.keep (fun b b1 _=>by rw [ag.aO,if_neg (by omega)]) (by rw [ag.next_set];exact Nat.le_refl _)
theorem eB.push{k0:Nat}{h:ag}{a:AV}{ts:List dh}(t:eB k0 h a ts)(hk:k0≤h.next)(hroom:(ts.length+1)*48≤dm)(q:dh)(q1:k0≤q.blk)(q2:q.blk<h.next)(q3:ep a≠some q.blk)(q4:h.get q.blk=some (.cells (q.bits.map bv)))(q5:∀ p ∈ ts,p.blk≠q.blk) :
  ∃ a' h',cz 3 48 a (.slice h.next 0 1 3) (h.alloc (.cells (jP q)))=some (a',h')∧eB k0 h' a' (ts++[q])∧(∀ c,c<h.next→ep a≠some c→h'.get c=h.get c)∧h.next≤h'.next∧(∀ h0,bR h0 h→h0.next≤k0→bR h0 h')∧(∀ c,ep a'=some c→h.next≤c):=by
 obtain ⟨a',h',e1,o1,f1,n1,x1,b1⟩:=t.own.push yc Ga hk hroom q
 refine ⟨a',h',e1,⟨o1,fun p hp=>?_,fun i j s u hi hj hb=>?_⟩,f1,n1,x1,b1⟩
 ·have hp':k0≤p.blk∧p.blk<h.next∧ep a≠some p.blk∧h.get p.blk=some (.cells (p.bits.map bv)):=by
   rcases List.mem_append.1 hp with hp|hp
   ·exact t.cell p hp
   ·rw [List.mem_singleton] at hp;subst hp;exact ⟨q1,q2,q3,q4⟩
  obtain ⟨d1,d2,d3,d4⟩:=hp'
  exact ⟨d1,by omega,fun hb=>by have:=b1 _ hb;omega,by rw [f1 _ d2 d3];exact d4⟩
 ·rw [List.getElem?_append] at hi hj
  split at hi<;>split at hj
  ·exact t.inj i j s u hi hj hb
  ·rename_i h1 h2
   have hu:u=q:=by
    rw [List.getElem?_singleton] at hj
    split at hj
    ·cases hj;rfl
    ·cases hj
   exact absurd (by rw [← hu];exact hb) (q5 s (List.mem_of_getElem? hi))
  ·rename_i h1 h2
   have hs:s=q:=by
    rw [List.getElem?_singleton] at hi
    split at hi
    ·cases hi;rfl
    ·cases hi
   exact absurd (by rw [← hs];exact hb.symm) (q5 u (List.mem_of_getElem? hj))
  ·rename_i h1 h2
   rw [List.getElem?_singleton] at hi hj
   split at hi
   ·split at hj
    ·omega
    ·cases hj
   ·cases hi
set_option maxHeartbeats 1000000 in
theorem HD{n k:Nat}(n1:1≤n)(n2:n≤64){a:AV}{rs:List Rel}{h:ag}(o:Own bA 3 k h a rs)(hrl:rs.length≤1000)(hrel:∀ r ∈ rs,kM n r=true)(htup:∀ r ∈ rs,r.tuples.l.length≤cm){K:Out→ag→Bool}
  (hK:∀ b w h' ts cs,bR h h'→h.next≤b→b<h'.next→h'.get b=some (.cells cs)→cs[2]?=some w→eB h.next h' w ts→ts.map cD=rs.map (jg n)→K (.ret (.ptr b 0)) h'=true):Sem Tryz.prog 115 [.agg [.int .i64 (n:Int),a]] h K:=by
 have hm:dm=140737488355328:=rfl
 have hbig:rs.length≤cm:=by unfold cm;omega
 obtain ⟨ho1,ho2⟩:=sI o
 have one2:br [.int .i64 (n:Int),a]=true:=by simp only [br,Bool.and_true] at ho1 ⊢;rw [ho1];rfl
 refine F.u9 ?_
 rw [F.xK]
 simp only [cA one2,bindO_some]
 have b0:(h.alloc (.cells [.int .i64 (n:Int),a])).get h.next=some (.cells [.int .i64 (n:Int),a]):=aI _ _
 have bn:(h.alloc (.cells [.int .i64 (n:Int),a])).next=h.next+1:=rfl
 have bx:bR h (h.alloc (.cells [.int .i64 (n:Int),a])):=bR.alloc _ _
 generalize (h.alloc (.cells [.int .i64 (n:Int),a]))=H at b0 bn bx ⊢
 have ls:ai none (.ptr h.next 0) H=some (.int .i64 (n:Int)):=by rw [an b0];rfl
 have lr:ai none (.ptr h.next 1) H=some a:=by rw [an b0];rfl
 have ha:kJ [(.int .i64 0),(.int .i64 0),.nils,.nils,.nils,(.bool false)] [(0,1),(1,1)] [.int .i64 (n:Int),.int .i64 (rs.length:Int)]=some (.agg [.int .i64 (n:Int),.int .i64 (rs.length:Int),.nils,.nils,.nils,.bool false]):=rfl
 simp only [aQ,Nat.reduceAdd,Nat.reduceEqDiff,reduceIte,ls,lr,o.len,ha,cA (show br [.int .i64 (n:Int),.int .i64 (rs.length:Int),.nils,.nils,.nils,.bool false]=true from rfl),bn]
 have c1:=aI H (.cells [.int .i64 (n:Int),.int .i64 (rs.length:Int),.nils,.nils,.nils,.bool false])
 have cx:=bR.alloc H (.cells [.int .i64 (n:Int),.int .i64 (rs.length:Int),.nils,.nils,.nils,.bool false])
 have cn:(H.alloc (.cells [.int .i64 (n:Int),.int .i64 (rs.length:Int),.nils,.nils,.nils,.bool false])).next=h.next+2:=by rw [ag.next_alloc,bn]
 generalize (H.alloc (.cells [.int .i64 (n:Int),.int .i64 (rs.length:Int),.nils,.nils,.nils,.bool false]))=H1 at c1 cx cn ⊢
 rw [bn] at c1
 have c0:H1.get h.next=some (.cells [.int .i64 (n:Int),a]):=by rw [cx.get _ (by omega)];exact b0
 refine aE 0 rs.length (Nat.zero_le _) (fun i e h'=>∃ w ts,h'.get h.next=some (.cells [.int .i64 (n:Int),a])∧h'.get (h.next+1)=some (.cells [.int .i64 (n:Int),.int .i64 (rs.length:Int),w,.nils,.nils,.bool false])∧eB (h.next+2) h' w ts∧ts.map cD=(rs.take i).map (jg n)∧bR h h'∧h.next+2≤h'.next∧e 1 = .ptr h.next 0∧e 3 = .ptr (h.next+1) 0∧e 4 = .int .i64 (i:Int))
  ⟨.nils,[],c0,c1,.nil _ _,rfl,bx.trans cx,by omega,rfl,rfl,rfl⟩ ?_ ?_
 ·rintro i e h' _ hi ⟨w,ts,q0,q1,tA,hts,qx,qn,e1,e3,e4⟩ K' hnx hx hr hp
  have hvr:rs[i]?=some rs[i]:=List.getElem?_eq_getElem hi
  generalize rs[i]=r at hvr
  have hrm:=List.mem_of_getElem? hvr
  obtain ⟨kk,hk,k12,hkc,hkt⟩:=sC (hrel r hrm)
  have hr3:bA r = [.str r.name,.int .i64 (kk:Int),aq eE 1 r.tuples]:=by unfold bA;rw [hk]
  have ls:ai none (.ptr h.next 0) h'=some (.int .i64 (n:Int)):=by rw [an q0];rfl
  have lr:ai none (.ptr h.next 1) h'=some a:=by rw [an q0];rfl
  have l2:ai none (.ptr (h.next+1) 2) h'=some w:=by rw [an q1];rfl
  have ox:=o.ext qx
  obtain ⟨ba,_,hba,ia,_,la⟩:=ox.get fN hvr
  have la0:=la 0 (by omega);have la1:=la 1 (by omega);have la2:=la 2 (by omega)
  rw [hr3] at la0 la1 la2
  rw [Nat.add_zero] at la0
  have htl:ts.length=i:=by have:=congrArg List.length hts;rw [List.length_map,List.length_map,List.length_take,Nat.min_eq_left (by omega)] at this;exact this
  rw [F.gy.aN]
  simp only [e1,e3,e4,aQ,Nat.reduceAdd,Nat.reduceEqDiff,reduceIte,lr,ls,o.len,bS,l2,bf hi,ia .i64,la0,la1,la2]
  refine ak (yY n1 n2 k12 hkc (htup r hrm) hkt fun h3 b x3 y1 y2 y3=>?_)
  have q03:h3.get h.next=some (.cells [.int .i64 (n:Int),a]):=by rw [x3.get _ (by omega)];exact q0
  have q13:h3.get (h.next+1)=some (.cells [.int .i64 (n:Int),.int .i64 (rs.length:Int),w,.nils,.nils,.bool false]):=by rw [x3.get _ (by omega)];exact q1
  have l23:ai none (.ptr (h.next+1) 2) h3=some w:=by rw [an q13];rfl
  have tA3:=tA.ext x3
  have hb5:(bitsOf n kk r.tuples.l).length=n ^ kk:=jV _ _ _
  obtain ⟨a5,h5,p5,t5,f5,n5,x5,b5⟩:=tA3.push (by have:=x3.next;omega) (by rw [hm];omega) ⟨r.name,kk,b,bitsOf n kk r.tuples.l⟩ (by show h.next+2≤b;omega) y2 (fun e=>by have:=tA.own.lt e;simp only at this;omega) y3 (fun p hp e=>by have:=(tA.cell p hp).2.1;simp only at e;omega)
  have row1:fR [(.str []),(.int .i64 0),.nils] [(0,3)] [.agg [.str r.name,.int .i64 (kk:Int),.slice b 0 (n ^ kk) 1]]=some (jP ⟨r.name,kk,b,bitsOf n kk r.tuples.l⟩):=by
   unfold jP;simp only [hb5];rfl
  have hne:∀ d,d<h.next+2→ep w≠some d:=fun d hd hb=>by have:=tA.own.ge hb;omega
  have s1:h5.get (h.next+1)=some (.cells [.int .i64 (n:Int),.int .i64 (rs.length:Int),w,.nils,.nils,.bool false]):=by rw [f5 _ (by have:=x3.next;omega) (hne _ (by omega))];exact q13
  have c5:=t5.own.Bn
  have st:bL 1 (.ptr (h.next+1) 2) a5 h5=some (h5.set (h.next+1) (.cells [.int .i64 (n:Int),.int .i64 (rs.length:Int),a5,.nils,.nils,.bool false])):=by
   rw [dV (n:=1) s1 c5.2.1 c5.1 (by simp),c5.2.2];rfl
  simp only [aQ,Nat.reduceAdd,Nat.reduceEqDiff,reduceIte,l23,AV.beq_refl,Bool.and_self,if_true,row1,p5,e3,e4,bS,st,aK hi hbig]
  refine hnx _ _ ⟨a5,_,?_,by rw [ag.aO,if_pos rfl],t5.low (by omega) _,?_,(x5 h (qx.trans x3) (by omega)).set (by omega) _,by rw [ag.next_set];have:=x3.next;omega,e1,e3,rfl⟩
  ·rw [ag.aO,if_neg (by omega),f5 _ (by have:=x3.next;omega) (hne _ (by omega))];exact q03
  ·rw [List.map_append,hts,List.take_add_one,hvr,List.map_append]
   simp only [List.map_cons,List.map_nil,Option.toList_some,cD,jg]
   rw [show r.arity.toNat=kk by omega]
 ·rintro e h' ⟨w,ts,q0,q1,tA,hts,qx,qn,e1,e3,e4⟩ K' hx
  rw [List.take_of_length_le (Nat.le_refl _)] at hts
  have lr:ai none (.ptr h.next 1) h'=some a:=by rw [an q0];rfl
  rw [F.gy.aN]
  simp only [e1,e4,aQ,Nat.reduceAdd,Nat.reduceEqDiff,reduceIte,lr,o.len,aT]
  rw [hx,F.gy.aG]
  simp only [bt,Nat.reduceEqDiff,reduceIte,e3]
  exact hK (h.next+1) w h' ts _ qx (by omega) (by omega) q1 rfl ⟨tA.own.weak (by omega),fun t ht=>by obtain ⟨d1,d2,d3,d4⟩:=tA.cell t ht;exact ⟨by omega,d2,d3,d4⟩,tA.inj⟩ hts
theorem BD{n k:Nat}(n1:1≤n)(n2:n≤64){a:AV}{rs:List Rel}{h:ag}(o:Own bA 3 k h a rs)(hrl:rs.length≤1000)(hrel:∀ r ∈ rs,kM n r=true)(htup:∀ r ∈ rs,r.tuples.l.length≤cm){K:Out→ag→Bool}
  (hK:∀ w h' ts,bR h h'→eB h.next h' w ts→ts.map cD=rs.map (jg n)→K (.ret w) h'=true):Sem Tryz.prog 57 [.agg [.int .i64 (n:Int),a]] h K:=by
 obtain ⟨ho1,ho2⟩:=sI o
 have one2:br [.int .i64 (n:Int),a]=true:=by simp only [br,Bool.and_true] at ho1 ⊢;rw [ho1];rfl
 refine F.om ?_
 rw [F.p8]
 have b0:(h.alloc (.cells [.int .i64 (n:Int),a])).get h.next=some (.cells [.int .i64 (n:Int),a]):=aI _ _
 have bx:bR h (h.alloc (.cells [.int .i64 (n:Int),a])):=bR.alloc _ _
 have hp2:hG (some 2) [.int .i64 (n:Int),a] 0=some (.agg [.int .i64 (n:Int),a]):=rfl
 simp only [cA one2,bindO_some,an b0,hp2]
 refine ak (HD n1 n2 (o.ext bx) hrl hrel htup fun b w h' ts cs x1 y1 y2 y3 y4 tA hts=>?_)
 have lw:ai none (.ptr b 2) h'=some w:=by rw [an y3,nZ];exact y4
 simp only [aQ,Nat.reduceAdd,Nat.reduceEqDiff,reduceIte,bS,lw]
 exact hK w h' ts (bx.trans x1) ⟨tA.own.weak bx.next,fun t ht=>by obtain ⟨d1,d2,d3,d4⟩:=tA.cell t ht;exact ⟨Nat.le_trans bx.next d1,d2,d3,d4⟩,tA.inj⟩ hts
end
end Go.AM
namespace Go.AM
open Go Go.Proofs
noncomputable section
def lH(rs:List aB)(s:dw)(nm:bC):Nat:=s.rels.l.length+(cU rs).idxOf nm
theorem sO{rs:List aB}{s:dw}{rs':List Rel}(hrs:rs'.map cQ=s.rels.l.map cQ++eH rs (cU rs)){q:Rel}(hq:q ∈ rs') :
  (∃ p ∈ s.rels.l,p.name=q.name∧p.arity=q.arity∧p.tuples.l.map Sl.l=q.tuples.l.map Sl.l)∨(q.name ∈ aY rs∧q.arity=(ju rs q.name:Int)∧q.tuples.l = []):=by
 have hd:cQ q ∈ s.rels.l.map cQ++eH rs (cU rs):=by rw [← hrs];exact List.mem_map_of_mem hq
 rcases List.mem_append.1 hd with hd|hd
 ·obtain ⟨p,hp,e⟩:=List.mem_map.1 hd
  unfold cQ at e
  simp only [Prod.mk.injEq] at e
  exact .inl ⟨p,hp,e.1,e.2.1,e.2.2⟩
 ·obtain ⟨nm,hnm,e⟩:=List.mem_map.1 hd
  unfold cQ at e
  simp only [Prod.mk.injEq] at e
  refine .inr ⟨by rw [← e.1];exact (dx rs).1 hnm,by rw [← e.1];exact e.2.1.symm,?_⟩
  have:=e.2.2
  simpa using this.symm
theorem BE{n:Nat}:∀ {l m:List (Sl Int)} (d:List Bool),l.map Sl.l=m.map Sl.l→iB n l d=iB n m d
 |[],[],d,_=>rfl
 |[],_ :: _,d,h=>by simp at h
 |_ :: _,[],d,h=>by simp at h
 |t :: l,u :: m,d,h=>by
  simp only [List.map_cons,List.cons.injEq] at h
  rw [iB,iB,h.1,BE _ h.2]
theorem HE{n k:Nat}{l m:List (Sl Int)}(h:l.map Sl.l=m.map Sl.l):bitsOf n k l=bitsOf n k m:=BE _ h
section
variable {rs:List aB} {s:dw} {rs':List Rel} {n:Nat} {m:dF}
theorem Ei(ho:fI rs s)(hgo:dc rs []=some m)(hrs:rs'.map cQ=s.rels.l.map cQ++eH rs (cU rs)):Gh s.size (rs'.map cQ):=by
 have h5:=ho.sizes
 have:=(yf ho.good hgo ho.valid (fun h=>ho.names (.inr h)) hrs).2 fun h=>h5 (h.elim .inl fun h=>.inr (.inl h))
 exact iJ.1 this
theorem NQ(ho:fI rs s)(hgo:dc rs []=some m)(hn:s.size=(n:Int))(hrs:rs'.map cQ=s.rels.l.map cQ++eH rs (cU rs)){q:Rel}(hq:q ∈ rs'):kM n q=true:=by
 have:=(Ei ho hgo hrs).rel _ (List.mem_map_of_mem hq)
 rw [show s.size.toNat=n by omega] at this
 exact BC.2 this
theorem Dc(ho:fI rs s)(hgo:dc rs []=some m)(hrs:rs'.map cQ=s.rels.l.map cQ++eH rs (cU rs)):((rs'.map (jg n)).map gq.name).Nodup:=by
 have:=(Ei ho hgo hrs).names
 rw [List.map_map] at this ⊢
 exact this
theorem Ej(ho:fI rs s)(hgo:dc rs []=some m)(hn:s.size=(n:Int))(hrs:rs'.map cQ=s.rels.l.map cQ++eH rs (cU rs)){r:aB}(hr:r ∈ rs):jw n r (rs'.map (jg n)):=by
 have hp:=Ei ho hgo hrs
 have hlen:rs'.length≤8:=by have:=hp.kH;simpa using this
 refine ⟨by rw [List.length_map];unfold cm;omega,fun c hc=>vE (sK ho.good hr hc),fun c hc k0=>?_⟩
 have hat:=oG hr hc k0
 have hnn:s.size.toNat=n:=by omega
 by_cases hd:c.name ∈ aY rs
 ·obtain ⟨_,q,hq,hqn,har⟩:=sN hgo hd
  have hl:q.args.l.length=c.args.l.length:=by
   have:=kg hgo (jt hq) (by rw [hqn];exact hat)
   omega
  refine ⟨?_,fun t ht htn=>?_⟩
  ·rw [← hl,← hnn]
   exact Nat.le_of_not_lt fun h=>ho.sizes (.inr (.inl ⟨q,hq,h⟩))
  ·obtain ⟨p,hp',rfl⟩:=List.mem_map.1 ht
   replace htn:p.name=c.name:=htn
   show (bitsOf n p.arity.toNat p.tuples.l).length=_
   rw [jV]
   rcases sO hrs hp' with ⟨u,hu,hun,_⟩|⟨_,ha,_⟩
   ·exact absurd (.inr ⟨u,hu,by rw [hun,htn];exact hd⟩) ho.names
   ·rw [htn,har,hl] at ha
    congr 1;omega
 ·cases hf:s.rels.l.find? (jX c.name (c.args.l.length:Int)) with
  |none=>exact absurd (.inl ⟨_,hat,hd,hf⟩) ho.names
  |some q=>
   obtain ⟨hq,hqn,hqa⟩:=sL hf
   obtain ⟨i,hi⟩:=List.mem_iff_getElem?.1 hq
   have hrb:=rI ho.valid hi
   rw [hnn] at hrb
   obtain ⟨k,hk,k12,hkc,hkt⟩:=sC hrb
   have hkl:k=c.args.l.length:=by omega
   refine ⟨by rw [← hkl];exact hkc,fun t ht htn=>?_⟩
   obtain ⟨p,hp',rfl⟩:=List.mem_map.1 ht
   replace htn:p.name=c.name:=htn
   show (bitsOf n p.arity.toNat p.tuples.l).length=_
   rw [jV]
   rcases sO hrs hp' with ⟨u,hu,hun,hua,_⟩|⟨hh,_,_⟩
   ·have h1:=oI ho.valid hu
    have h2:=oI ho.valid hq
    rw [hun,htn] at h1
    rw [hqn,h1] at h2
    have:=Option.some.inj h2
    rw [this] at hua
    congr 1;omega
   ·exact absurd (by rw [← htn];exact hh) hd
theorem O4(ho:fI rs s)(hgo:dc rs []=some m)(hrs:rs'.map cQ=s.rels.l.map cQ++eH rs (cU rs)){nm:bC}(hnm:nm ∈ aY rs):∃ q,rs'[lH rs s nm]?=some q∧q.name=nm∧q.arity=(ju rs nm:Int)∧q.tuples.l = []:=by
 have hd:=(dx rs).2 hnm
 have h1:(cU rs).idxOf nm<(cU rs).length:=List.idxOf_lt_length_of_mem hd
 have h2:(rs'.map cQ)[lH rs s nm]?=some (nm,(ju rs nm:Int),[]):=by
  rw [hrs,List.getElem?_append_right (by unfold lH;rw [List.length_map];omega)]
  unfold lH eH
  rw [List.length_map,Nat.add_sub_cancel_left,List.getElem?_map,List.getElem?_eq_getElem h1,List.getElem_idxOf]
  rfl
 rw [List.getElem?_map] at h2
 obtain ⟨q,h3,h4⟩:=Option.map_eq_some_iff.1 h2
 unfold cQ at h4
 simp only [Prod.mk.injEq] at h4
 exact ⟨q,h3,h4.1,h4.2.1,by simpa using h4.2.2⟩
theorem HF(ho:fI rs s)(hgo:dc rs []=some m)(hrs:rs'.map cQ=s.rels.l.map cQ++eH rs (cU rs)):fH n (lH rs s) rs (rs'.map (jg n)):=by
 refine ⟨Dc ho hgo hrs,fun r hr=>?_⟩
 obtain ⟨q,h1,h2,h3,h4⟩:=O4 ho hgo hrs (List.mem_map_of_mem hr:r.name ∈ aY rs)
 refine ⟨jg n q,by rw [List.getElem?_map,h1];rfl,h2,?_⟩
 show (bitsOf n q.arity.toNat q.tuples.l).length=_
 rw [jV,h3,Bx hgo hr]
 rfl
theorem Ln(ho:fI rs s)(hgo:dc rs []=some m)(hrs:rs'.map cQ=s.rels.l.map cQ++eH rs (cU rs)):cY (rs'.map (jg n))=rQ n s:=by
 have hnd:=Dc (n:=n) ho hgo hrs
 funext nm k
 unfold rQ
 cases hf:s.rels.l.find? (dU nm) with
 |some r=>
  have hr:=List.mem_of_find?_eq_some hf
  have hrn:=List.find?_some hf
  simp only [dU,beq_iff_eq] at hrn
  have hd:cQ r ∈ rs'.map cQ:=by rw [hrs];exact List.mem_append_left _ (List.mem_map_of_mem hr)
  obtain ⟨q,hq,hqe⟩:=List.mem_map.1 hd
  unfold cQ at hqe
  simp only [Prod.mk.injEq] at hqe
  obtain ⟨i,hi⟩:=List.mem_iff_getElem?.1 hq
  have:=oC hnd (j:=i) (t:=jg n q) (by rw [List.getElem?_map,hi];rfl) k
  rw [show (jg n q).name=nm by show q.name=nm;rw [hqe.1,hrn]] at this
  rw [this]
  show (bitsOf n q.arity.toNat q.tuples.l).getD k false=_
  rw [hqe.2.1,HE hqe.2.2]
 |none=>
  unfold cY
  cases hft:(rs'.map (jg n)).find? (fun t=>t.name==nm) with
  |none=>rfl
  |some t=>
   have ht:=List.mem_of_find?_eq_some hft
   have htn:=List.find?_some hft
   rw [beq_iff_eq] at htn
   obtain ⟨q,hq,rfl⟩:=List.mem_map.1 ht
   replace htn:q.name=nm:=htn
   rcases sO hrs hq with ⟨p,hp,hpn,_⟩|⟨_,_,ht0⟩
   ·rw [List.find?_eq_none] at hf
    exact absurd (hf p hp) (by simp [dU,hpn,htn])
   ·show (bitsOf n q.arity.toNat q.tuples.l).getD k false=false
    rw [ht0]
    exact F9 _ _
end
def xg(ts:List gq):Nat:=(ts.map fun t=>t.bits.count false).sum
theorem NR{ts:List gq}:∀ {j:Nat} {t:gq} {i:Nat},ts[j]?=some t→t.bits[i]?=some false→xg (ts.set j ⟨t.name,t.k,t.bits.set i true⟩)<xg ts:=by
 induction ts with
 |nil=>intro j t i h _;simp at h
 |cons q ts ih=>
  intro j t i h hb
  cases j with
  |zero=>
   simp at h;subst h
   have:=zx q.bits i hb
   unfold xg
   rw [List.set_cons_zero,List.map_cons,List.map_cons,List.sum_cons,List.sum_cons]
   simp only;omega
  |succ j=>
   rw [List.getElem?_cons_succ] at h
   have:=ih h hb
   unfold xg at this ⊢
   rw [List.set_cons_succ,List.map_cons,List.map_cons,List.sum_cons,List.sum_cons]
   omega
structure QT (n:Nat) (jx:bC→Nat) (rs:List aB) (T:List gq) (s:List gq×Bool):Prop where
 ok:fH n jx rs s.1
 le:xg s.1≤xg T
 lt:s.2=true→xg s.1<xg T
 same:s.2=false→s.1=T
theorem Sm{n:Nat}{jx:bC→Nat}{rs:List aB}{T:List gq}{r:aB}(hr:r ∈ rs){vs:List Int}(ha:ux n r vs){s:List gq×Bool}(q:QT n jx rs T s):QT n jx rs T (BK n r (jx r.name) vs s):=by
 have hok:=Hu (r:=r) (vs:=vs) (j:=jx r.name) q.ok
 unfold BK at hok ⊢
 obtain ⟨t,ht,htn,htl⟩:=q.ok.at_ r hr
 rw [ht] at hok ⊢
 simp only at hok ⊢
 split
 ·exact q
 ·rename_i hb
  rw [if_neg hb] at hok
  split
  ·rename_i happ
   rw [if_pos happ] at hok
   have hrk:fZ n r vs<t.bits.length:=by rw [htl];exact Bu ha
   have hbit:t.bits[fZ n r vs]?=some false:=by
    rw [List.getD_eq_getElem?_getD,List.getElem?_eq_getElem hrk] at hb
    rw [List.getElem?_eq_getElem hrk]
    simp only [Option.getD_some,Bool.not_eq_true] at hb
    rw [hb]
   have hlt:=NR ht hbit
   have:=q.le
   exact ⟨hok,by show xg (s.1.set _ _)≤_;omega,fun _=>by show xg (s.1.set _ _)<_;omega,fun h=>by cases h⟩
  ·exact q
theorem NS{n:Nat}(n1:1≤n){jx:bC→Nat}{rs qs:List aB}(hsub:∀ r ∈ qs,r ∈ rs){T:List gq}{s:List gq×Bool}(q:QT n jx rs T s):QT n jx rs T (kf n jx qs s):=by
 unfold kf
 refine fo (P:=fun s=>QT n jx rs T s) q fun s r hr hs=>?_
 unfold eV
 exact fo (P:=fun s=>QT n jx rs T s) hs fun s i hi hs=>Sm (hsub r hr) (Bv n1 (List.mem_range.1 hi)) hs
end
end Go.AM
namespace Go.AM
open Go Go.Proofs
noncomputable section
theorem Lo(s:St):eL Tryz.prog s Tryz.f16.results.toList=(match ai (some 2) (s.env 4) s.h,(some []:Option (List AV)) with|some v,some vs=>some (v :: vs)|_,_=>none):=by kernel_rfl
structure SA (n k0:Nat) (rs:List aB) (s:dw) (lv:Lev.Lv) (T0:List gq) (ts0:List dh) (w:AV) (h0:ag) (l:Nat) (ts:List dh) (h:ag):Prop where
 run:RunT n (lH rs s) rs lv T0 l (ts.map cD)
 shape:ts.map dh.shape=ts0.map dh.shape
 tabs:eB k0 h w ts
 old:∀ b,b<h0.next→(∀ t ∈ ts0,b≠t.blk)→h.get b=h0.get b
 next:h0.next≤h.next
set_option maxHeartbeats 2000000 in
theorem Gi{n k0:Nat}{rules:Sl aB}{s:dw}{lv:Lev.Lv}{T0:List gq}{ts0:List dh}{w:AV}{h0:ag}{d:Sl bC}{y:Sl Int}{l N:Nat}{SB OB:Nat}{x3:AV}(n1:1≤n)(n64:n≤64)(hn:s.size=(n:Int))(hfew:∀ r ∈ rules.l,r.kH)(hg:j9 rules.l){m:dF}(hgo:dc rules.l []=some m)(hpow:∀ r ∈ rules.l,n ^ r.args.l.length≤4096)
  (hok0:fH n (lH rules.l s) rules.l T0) (hfit0:∀ r ∈ rules.l,jw n r T0) (hT0:ts0.map cD=T0) (hrl:s.rels.l.length≤8) (hd:d.l=cU rules.l) (hy:y.l=nP (cU rules.l) lv) (hSB:∀ h ts,SA n k0 rules.l s lv T0 ts0 w h0 l ts h→True)
  {e0:Env} {h:ag} {ts:List dh} (hl:SA n k0 rules.l s lv T0 ts0 w h0 l ts h) (g0:h0.get SB=some (.cells (aA s))) (g1:SB<h0.next) (g2:∀ t ∈ ts0,SB≠t.blk) (g3:∀ t ∈ ts0,t.blk<h0.next)
  (q0:e0 0=aq aL 3 rules) (q3:e0 3 = .ptr SB 0) (q4:e0 4=x3) (q5:e0 5 = .ptr OB 0) (q6:e0 6=w) (q7:e0 7=aq encS 1 d) (q8:e0 8=aq encI 1 y) (q10:e0 10 = .int .i64 (l:Int)) (q11:e0 11 = .bool true) {K:AX→St→Bool}
  (done:∀ (e:Env) h' ts',SA n k0 rules.l s lv T0 ts0 w h0 (l+1) ts' h'→e 0=aq aL 3 rules→e 3 = .ptr SB 0→e 4=x3→e 5 = .ptr OB 0→e 6=w→e 7=aq encS 1 d→e 8=aq encI 1 y→e 10 = .int .i64 (l:Int)→F.bB.jT K (.exit 2) ⟨e,122,[],h'⟩=true) :
  bT (au Tryz.prog (ah Tryz.prog) F.bB.L1) ⟨e0,122,[],h⟩ (F.bB.jT K)=true:=by
 have h60:=hg.kH
 have hrb:rules.l.length≤cm:=by unfold cm;omega
 have hgok:=fU hgo
 have hdl:=kG rules.l
 have hdb:d.l.length≤cm:=by rw [hd];unfold cm;omega
 have hdn:d.l.Nodup:=by rw [hd];exact rF (nE _)
 have hrun0:=hl.run
 refine jb (fun mm e h'=>∃ (ts':List dh) (fl:Bool),mm=(if fl=true then xg (ts'.map cD)+1 else 0)∧pR n (lH rules.l s) (eX lv rules.l l) (ts.map cD) (ts'.map cD)∧(fl=false→kf n (lH rules.l s) (eX lv rules.l l) (ts'.map cD,false)=(ts'.map cD,false)) ∧
   ts'.map dh.shape=ts0.map dh.shape∧eB k0 h' w ts'∧(∀ b,b<h0.next→(∀ t ∈ ts0,b≠t.blk)→h'.get b=h0.get b)∧h0.next≤h'.next∧fH n (lH rules.l s) rules.l (ts'.map cD) ∧
   e 0=aq aL 3 rules∧e 3 = .ptr SB 0∧e 4=x3∧e 5 = .ptr OB 0∧e 6=w∧e 7=aq encS 1 d∧e 8=aq encI 1 y∧e 10 = .int .i64 (l:Int)∧e 11 = .bool fl) (xg (ts.map cD)+1)
  ⟨ts,true,rfl,.refl,fun h=>(by cases h),hl.shape,hl.tabs,hl.old,hl.next,?_,q0,q3,q4,q5,q6,q7,q8,q10,q11⟩ ?_
 ·have key:∀ {t:Nat} {T:List gq},RunT n (lH rules.l s) rules.l lv T0 t T→fH n (lH rules.l s) rules.l T:=by
   intro t T h
   induction h with
   |zero=>exact hok0
   |succ l T T' _ hr _ ih=>exact sH ih hr
  exact key hrun0
 rintro mm e h' ⟨ts',fl,hmm,hre,hst,hsh,hA,hold,hnx,hok,e0',e3,e4,e5,e6,e7,e8,e10,e11⟩
 rw [F.bB.dS]
 simp only [e11,condB_bool]
 cases fl with
 |false=>
  simp only [aD,loopK_exit]
  exact done _ h' ts' ⟨.succ l _ _ hrun0 hre (hst rfl),hsh,hA,hold,hnx⟩ e0' e3 e4 e5 e6 e7 e8 e10
 |true=>
 simp only [aC]
 have hfit:∀ (u:List dh),u.map dh.shape=ts0.map dh.shape→∀ r ∈ rules.l,jw n r (u.map cD):=fun u hu r hr=>by
  have:=hfit0 r hr
  rw [← hT0] at this
  exact this.shape hu
 refine aE 0 rules.l.length (Nat.zero_le _) (fun i e h2=>∃ (u:List dh) (c:Bool),(u.map cD,c)=kf n (lH rules.l s) (eX lv (rules.l.take i) l) (ts'.map cD,false)∧QT n (lH rules.l s) rules.l (ts'.map cD) (u.map cD,c) ∧
   u.map dh.shape=ts0.map dh.shape∧eB k0 h2 w u∧(∀ b,b<h0.next→(∀ t ∈ ts0,b≠t.blk)→h2.get b=h0.get b)∧h0.next≤h2.next ∧
   e 0=aq aL 3 rules∧e 3 = .ptr SB 0∧e 4=x3∧e 5 = .ptr OB 0∧e 6=w∧e 7=aq encS 1 d∧e 8=aq encI 1 y∧e 10 = .int .i64 (l:Int)∧e 11 = .bool c∧e 12 = .int .i64 (i:Int))
  ⟨ts',false,rfl,⟨hok,Nat.le_refl _,fun h=>(by cases h),fun _=>rfl⟩,hsh,hA,hold,hnx,e0',e3,e4,e5,e6,e7,e8,e10,rfl,rfl⟩ ?_ ?_
 ·rintro i e h2 _ hi ⟨u,c,hu,hq,hsh2,hA2,hold2,hnx2,e0',e3,e4,e5,e6,e7,e8,e10,e11,e12⟩ K2 hn2 hx2 hr2 hp2
  have hv:rules.l[i]?=some rules.l[i]:=List.getElem?_eq_getElem hi
  generalize rules.l[i]=r at hv
  have hrm:=List.mem_of_getElem? hv
  have hstep:=vu (lv:=lv) (l:=l) hv
  have hnm:r.name ∈ d.l:=by rw [hd];exact (dx _).2 (List.mem_map_of_mem hrm)
  have hix:d.l.idxOf r.name<d.l.length:=List.idxOf_lt_length_of_mem hnm
  have lh:∀ hh,ai none (.iptr (rules.l.flatMap aL) (i*3)) hh=some (.str r.name):=fun hh=>eM eN hv (by omega:0<3)
  have hyl:y.l.length=d.l.length:=by rw [hy,vw,hd]
  have hyv:y.l[d.l.idxOf r.name]?=some (lv r.name:Int):=by rw [hy];exact m9 (by rw [hd] at hix ⊢;rw [List.getElem?_eq_getElem hix,List.getElem_idxOf])
  have i8:=aS (enc:=encI) (sz:=1) (k:=.i64) y (i:=d.l.idxOf r.name) (by omega)
  have l8:∀ hh,ai none (.iptr (y.l.flatMap encI) (d.l.idxOf r.name*1)) hh=some (.int .i64 (lv r.name:Int)):=fun hh=>eT hyv
  rw [F.bB.Ff]
  simp only [e0',e7,e12,aQ,Nat.reduceAdd,Nat.reduceEqDiff,reduceIte,bf hi,aS rules hi,lh]
  refine ak (C9 hdn hdb hnm ?_)
  simp only [aQ,Nat.reduceAdd,Nat.reduceEqDiff,reduceIte,e0',e8,e10,e12,i8,l8,ct]
  by_cases hlv:lv r.name=l
  ·rw [if_pos hlv] at hstep
   have gSB:h2.get SB=some (.cells (aA s)):=by rw [hold2 SB g1 g2];exact g0
   have lz:ai none (.ptr SB 0) h2=some (.int .i64 (n:Int)):=by rw [an gSB,← hn];rfl
   have lr:ai none (.ptr SB 1) h2=some (aq bA 3 s.rels):=by rw [an gSB];rfl
   have hadd:aJ .add (.int .i64 (s.rels.l.length:Int)) (.int .i64 ((d.l.idxOf r.name:Nat):Int))=some (.int .i64 ((s.rels.l.length+d.l.idxOf r.name:Nat):Int)):=by
    rw [gB (by rw [hd] at hix ⊢;omega) (by rw [hd] at hix ⊢;omega)];rfl
   have hjx:s.rels.l.length+d.l.idxOf r.name=lH rules.l s r.name:=by unfold lH;rw [hd]
   obtain ⟨t,ht,htn,htl⟩:=hq.ok.at_ r hrm
   simp only at ht
   rw [List.getElem?_map] at ht
   obtain ⟨tb,htb,rfl⟩:=Option.map_eq_some_iff.1 ht
   simp only [decide_eq_true (by omega:(lv r.name:Int)=(l:Int)),aC,aQ,Nat.reduceAdd,Nat.reduceEqDiff,reduceIte,aS rules hi,cZ eN hv,e3,e6,lz,lr,hadd]
   rw [hjx]
   refine ak (fh n1 n64 (hfew r hrm) (hgok r hrm).2.2 (lF (hgok r hrm).1) (hpow r hrm) hA2 (hfit u hsh2 r hrm) htb htl fun h3 u3 a1 a2 a3 a4 a5=>?_)
   have hfl:=yd (n:=n) (r:=r) (j:=lH rules.l s r.name) (n ^ (varsOf r).length) (u.map cD) c
   have hpass:(u3.map cD,c||(eV n r (lH rules.l s r.name) (n ^ (varsOf r).length) (u.map cD,false)).2)=kf n (lH rules.l s) (eX lv (rules.l.take (i+1)) l) (ts'.map cD,false):=by
    rw [hstep,Ht,← hu,hfl,← a1]
   have hq3:QT n (lH rules.l s) rules.l (ts'.map cD) (u3.map cD,c||(eV n r (lH rules.l s r.name) (n ^ (varsOf r).length) (u.map cD,false)).2):=by
    have:kf n (lH rules.l s) [r] (u.map cD,c)=(u3.map cD,c||(eV n r (lH rules.l s r.name) (n ^ (varsOf r).length) (u.map cD,false)).2):=by
     unfold kf
     simp only [List.foldl_cons,List.foldl_nil]
     rw [hfl,← a1]
    rw [← this]
    exact NS n1 (fun q hq=>by rw [List.mem_singleton] at hq;subst hq;exact hrm) hq
   have hsh3:u3.map dh.shape=ts0.map dh.shape:=by rw [a2,hsh2]
   have hold3:∀ b,b<h0.next→(∀ t ∈ ts0,b≠t.blk)→h3.get b=h0.get b:=fun b b1 b2=>by
    rw [a4 b (by omega) (fun t ht e=>by
     obtain ⟨p,hp,hpe⟩:=xd hsh2 ht
     unfold dh.shape at hpe
     simp only [Prod.mk.injEq] at hpe
     exact b2 p hp (by rw [e,hpe.2.2.1]))]
    exact hold2 b b1 b2
   simp only [aQ,Nat.reduceAdd,Nat.reduceEqDiff,reduceIte]
   generalize (eV n r (lH rules.l s r.name) (n ^ (varsOf r).length) (u.map cD,false)).2=g at hpass hq3
   cases g with
   |true=>
    rw [Bool.or_true] at hpass hq3
    simp only [aC,e12,aK hi hrb,bindO_some]
    exact hn2 _ _ ⟨u3,true,hpass,hq3,hsh3,a3,hold3,by omega,e0',e3,e4,e5,e6,e7,e8,e10,rfl,rfl⟩
   |false=>
    rw [Bool.or_false] at hpass hq3
    simp only [aD,e12,aK hi hrb,bindO_some]
    exact hn2 _ _ ⟨u3,c,hpass,hq3,hsh3,a3,hold3,by omega,e0',e3,e4,e5,e6,e7,e8,e10,e11,rfl⟩
  ·rw [if_neg hlv,List.append_nil] at hstep
   simp only [decide_eq_false (by omega:¬ (lv r.name:Int)=(l:Int)),aD,e12,aK hi hrb,bindO_some]
   exact hn2 _ _ ⟨u,c,by rw [hstep];exact hu,hq,hsh2,hA2,hold2,hnx2,e0',e3,e4,e5,e6,e7,e8,e10,e11,rfl⟩
 ·rintro e h2 ⟨u,c,hu,hq,hsh2,hA2,hold2,hnx2,e0',e3,e4,e5,e6,e7,e8,e10,e11,e12⟩ K2 hx2
  rw [List.take_of_length_le (Nat.le_refl _)] at hu
  rw [F.bB.Ff]
  simp only [e0',e12,aQ,Nat.reduceAdd,Nat.reduceEqDiff,reduceIte,aT]
  rw [hx2,F.bB.Ky]
  have hre2:pR n (lH rules.l s) (eX lv rules.l l) (ts.map cD) (u.map cD):=by
   have:=pR.step (n:=n) (jx:=lH rules.l s) (rs:=eX lv rules.l l) _ hre
   rw [← hu] at this
   exact this
  cases c with
  |true=>
   have hlt:=hq.lt rfl
   simp only [if_true] at hmm
   refine cw.2 ⟨xg (u.map cD)+1,by simp only at hlt;omega,rfl,rfl,u,true,rfl,hre2,fun h=>(by cases h),hsh2,hA2,hold2,hnx2,hq.ok,e0',e3,e4,e5,e6,e7,e8,e10,e11⟩
  |false=>
   have hsame:=hq.same rfl
   simp only at hsame
   refine cw.2 ⟨0,by rw [hmm];simp,rfl,rfl,u,false,rfl,hre2,fun _=>?_,hsh2,hA2,hold2,hnx2,hq.ok,e0',e3,e4,e5,e6,e7,e8,e10,e11⟩
   rw [hsame,← hu,hsame]
end
end Go.AM
namespace Go.AM
open Go Go.Proofs
noncomputable section
theorem Dd{α:Type}{enc:α→List AV}{sz:Nat}(x:Sl α):br [aq enc sz x]=true∧(aq enc sz x).dP = [aq enc sz x]:=by cases x<;>exact ⟨rfl,rfl⟩
def JC(r:Rel):F7:=(r.name,r.arity,⟨aq eE 1 r.tuples,(Dd r.tuples).1,(Dd r.tuples).2⟩)
theorem HG(r:Rel):mq (JC r)=bA r:=rfl
theorem Lq{α β:Type}{enc:α→List AV}{enc':β→List AV}{sz k:Nat}{h:ag}{a:AV}{l:List α}(o:Own enc sz k h a l)(f:α→β)(hf:∀ x,enc' (f x)=enc x):Own enc' sz k h a (l.map f):=by
 cases o with
 |nil=>exact .nil
 |row b l h1 h2 h3=>
  have:(l.map f).flatMap enc'=l.flatMap enc:=by rw [List.flatMap_map];congr 1;funext x;exact hf x
  have hl:l.length=(l.map f).length:=by rw [List.length_map]
  rw [hl]
  exact .row b _ h1 h2 (by rw [h3,this])
theorem rP.Sn{k:Nat}{h:ag}{a:AV}{l:List Rel}(o:Own bA 3 k h a l):rP (fun _=>False) mq bA 3 k h a (l.map fun r=>(JC r,r)):=
 ⟨by rw [List.map_map];exact Lq o (fun r=>JC r) HG,fun p hp h' _=>by
  obtain ⟨r,_,rfl⟩:=List.mem_map.1 hp
  exact .dD (nF r),fun _ _ h=>h⟩
theorem NT{α:Type}(A C:List α)(c v:α):(A++c :: C).set A.length v=A++v :: C:=by
 rw [List.set_append_right _ _ (Nat.le_refl _),Nat.sub_self];rfl
theorem Own.Oq{k:Nat}{h:ag}{a:AV}{m:List F7}(o:Own mq 3 k h a m){i:Nat}{q:F7}(hp:m[i]?=some q)(v:Lg) :
  ∃ b cs,cS 3 a (.int .i64 (i:Int))=some (.ptr b (i*3))∧ep a=some b∧b<h.next∧ai none (.ptr b (i*3+2)) h=some q.2.2.1∧bL 1 (.ptr b (i*3+2)) v.1 h=some (h.set b (.cells cs))∧Own mq 3 k (h.set b (.cells cs)) a (m.set i (q.1,q.2.1,v)):=by
 have hg:=o.get oE hp
 cases o with
 |nil=>simp at hp
 |row b m h1 h2 h3=>
  have hmi:=(List.getElem?_eq_some_iff.1 hp).1
  have hcells:((m.flatMap mq).set (i*3+2) v.1)=(m.set i (q.1,q.2.1,v)).flatMap mq:=by
   clear h3 hg
   have:∀ (m:List F7) (i:Nat) (q:F7),m[i]?=some q→(m.flatMap mq).set (i*3+2) v.1=(m.set i (q.1,q.2.1,v)).flatMap mq:=by
    intro m
    induction m with
    |nil=>intro i q hq;simp at hq
    |cons x m ih=>
     intro i q hq
     cases i with
     |zero=>
      simp at hq;subst hq
      rw [List.set_cons_zero,List.flatMap_cons,List.flatMap_cons,List.set_append_left _ _ (by simp [mq])]
      rfl
     |succ i=>
      rw [List.getElem?_cons_succ] at hq
      rw [List.set_cons_succ,List.flatMap_cons,List.flatMap_cons,List.set_append_right _ _ (by rw [oE];omega)]
      have:(i+1)*3+2-(mq x).length=i*3+2:=by rw [oE];omega
      rw [this,ih i q hq]
   exact this m i q hp
  have hlen:(m.flatMap mq).length=m.length*3:=gK oE m
  obtain ⟨b',_,_,i3,_,i5⟩:=hg
  have hia:∀ q:IntKind,cS 3 (.slice b 0 m.length 3) (.int q (i:Int))=some (.ptr b (i*3)):=fun q=>by simp [cS,asNat,hmi]
  obtain rfl:b'=b:=by have:=i3 .i64;rw [hia .i64] at this;cases this;rfl
  have ho:=v.2
  refine ⟨b',(m.flatMap mq).set (i*3+2) v.1,hia .i64,rfl,h2,by rw [i5 2 (by omega)];rfl,?_,?_⟩
  ·rw [dV (n:=1) h3 (by rw [ho.2];rfl) (by rw [ho.2];exact ho.1) (by rw [hlen];omega),ho.2];rfl
  ·rw [hcells]
   have:m.length=(m.set i (q.1,q.2.1,v)).length:=by rw [List.length_set]
   rw [this]
   exact .row b' _ h1 (by rw [ag.next_set];exact h2) (by rw [ag.aO,if_pos rfl])
def O5:Lg:=⟨.nils,rfl,rfl⟩
theorem Ek{α:Type}{l l':List α}{i:Nat}{v:α}(hv:l'[i]?=some v)(ho:∀ j,j≠i→l'[j]?=l[j]?)(hl:l'.length=l.length):l'=l.set i v:=by
 refine List.ext_getElem? fun j=>?_
 rw [List.getElem?_set]
 by_cases e:i=j
 ·subst e
  have:=(List.getElem?_eq_some_iff.1 hv).1
  rw [if_pos rfl,if_pos (by omega)];exact hv
 ·rw [if_neg e];exact ho j fun e'=>e e'.symm
set_option maxHeartbeats 4000000 in
theorem bB{rules:Sl aB}{s:dw}(hfew:∀ r ∈ rules.l,r.kH)(ho:fI rules.l s){h:ag}{K:Out→ag→Bool}
  (hK:∀ out:dw,out.size=s.size→(∃ F,fW rules.l s.size.toNat s F∧out.rels.l.map cQ=s.rels.l.map cQ++oJ rules.l s.size.toNat F (cU rules.l))→K (.ret (.agg (aA out))) h=true) :
  Sem Tryz.prog 16 [aq aL 3 rules,.agg (aA s)] h K:=by
 have hm:dm=140737488355328:=rfl
 have hg:=ho.good
 have hsv:=ho.valid
 obtain ⟨n,hn,n1,n64,h8⟩:=oA hsv
 have hnn:s.size.toNat=n:=by omega
 obtain ⟨m,hgo⟩:=hg.go
 have hgok:=fU hgo
 have h20:∀ r ∈ rules.l,r.body.l.length≤20:=fun r hr=>(hgok r hr).2.1
 have h60:=hg.kH
 have hdl:=kG rules.l
 have hpow:∀ r ∈ rules.l,n ^ r.args.l.length≤4096:=fun r hr=>by
  rw [← hnn]
  exact Nat.le_of_not_lt fun h=>ho.sizes (.inr (.inl ⟨r,hr,h⟩))
 have gen:∀ R:Out→ag→Bool,(∀ h' a (x:Sl Rel) Fk,Fz true h' a (aq bA 3 x)→fW rules.l n s Fk→x.l.map cQ=s.rels.l.map cQ++oJ rules.l n Fk (cU rules.l)→R (.ret (.agg [.int .i64 s.size,a])) h'=true) →
   Sem Tryz.prog 16 [aq aL 3 rules,.agg (aA s)] ag.empty R:=by
  intro R fin
  refine F.B9 ?_
  rw [F.DX]
  simp only [cA (cR s),bindO_some,bp,ag.next_alloc]
  have g0:((ag.alloc ag.empty (.cells (aA s))).alloc (.cells [.int .i64 0,.nils])).get 0=some (.cells (aA s)):=by simp [ag.aV,bp]
  have g1:((ag.alloc ag.empty (.cells (aA s))).alloc (.cells [.int .i64 0,.nils])).get 1=some (.cells [.int .i64 0,.nils]):=by simp [ag.aV,bp]
  have gn:((ag.alloc ag.empty (.cells (aA s))).alloc (.cells [.int .i64 0,.nils])).next=2:=rfl
  generalize ((ag.alloc ag.empty (.cells (aA s))).alloc (.cells [.int .i64 0,.nils]))=H0 at g0 g1 gn ⊢
  have l0:ai (some 2) (.ptr 0 0) H0=some (.agg (aA s)):=by rw [an g0,c8 (cs:=aA s) (n:=2) rfl]
  simp only [l0,bindO_some]
  refine ak (ff h60 h20 hgo (jZ hsv).1 fun a h3 rs1 x3 o3 hrs1=>?_)
  obtain ⟨rs',hrs'⟩:∃ rs',rs'=rs1++jF rules.l (cU rules.l):=⟨_,rfl⟩
  rw [← hrs'] at o3
  have hrs:rs'.map cQ=s.rels.l.map cQ++eH rules.l (cU rules.l):=by rw [hrs',List.map_append,lG,hrs1]
  have hr1l:rs1.length=s.rels.l.length:=by have:=congrArg List.length hrs1;simpa using this
  have hrsl:rs'.length=s.rels.l.length+(cU rules.l).length:=by rw [hrs',List.length_append,hr1l];unfold jF;rw [List.length_map]
  obtain ⟨ho1,ho2⟩:=sI o3
  have one2:br [.int .i64 s.size,a]=true:=by simp only [br,Bool.and_true] at ho1 ⊢;rw [ho1];rfl
  obtain ⟨H4,hs4,p4,po4,pn4⟩:=cL (h:=h3) (zs:=[.int .i64 0,.nils]) (cs:=[.int .i64 s.size,a]) (n:=2) rfl rfl one2
  have x4:bR h3 H4:=⟨by omega,fun b hb=>po4 b (by omega)⟩
  have n3:=x3.next
  rw [gn] at o3 n3
  have lo4:ai (some 2) (.ptr h3.next 0) H4=some (.agg [.int .i64 s.size,a]):=by rw [an p4];rfl
  have oa:=o3.ext x4
  have htupb:∀ r ∈ rs',r.tuples.l.length≤cm:=fun r hr=>by
   rcases sO hrs hr with ⟨p,hp,_,_,e⟩|⟨_,_,e⟩
   ·have h1:=congrArg List.length e
    simp only [List.length_map] at h1
    have:=(jZ hsv).1.tups p hp
    unfold cm;omega
   ·rw [e];exact Nat.zero_le _
  simp only [aQ,Nat.reduceAdd,Nat.reduceEqDiff,reduceIte,hs4,lo4]
  rw [hn]
  refine ak (BD n1 n64 oa (by omega) (fun r hr=>NQ ho hgo hn hrs hr) htupb fun w h5 ts x5 tA hts=>?_)
  simp only [aQ,Nat.reduceAdd,Nat.reduceEqDiff,reduceIte]
  refine ak (cM h60 fun d hd=>?_)
  simp only [aQ,Nat.reduceAdd,Nat.reduceEqDiff,reduceIte]
  refine ak (bh h60 h20 (fun hb=>?_) fun y k hst hy=>?_)
  ·obtain ⟨k,hk⟩:=hg.lev
   exact absurd hk (hb k)
  have hdb:d.l.length≤cm:=by rw [hd];unfold cm;omega
  have n4:=x4.next
  have n5:=x5.next
  have p0:h5.get 0=some (.cells (aA s)):=by rw [((x3.trans x4).trans x5).get 0 (by omega)];exact g0
  have p1:h5.get 1=some (.cells [.int .i64 0,.nils]):=by rw [((x3.trans x4).trans x5).get 1 (by omega)];exact g1
  have p5:h5.get h3.next=some (.cells [.int .i64 s.size,a]):=by rw [x5.get _ (by omega)];exact p4
  have htblk:∀ t ∈ ts,H4.next≤t.blk∧t.blk<h5.next:=fun t ht=>⟨(tA.cell t ht).1,(tA.cell t ht).2.1⟩
  have hok0:fH n (lH rules.l s) rules.l (rs'.map (jg n)):=HF ho hgo hrs
  simp only [aQ,Nat.reduceAdd,Nat.reduceEqDiff,reduceIte]
  refine aE 0 (d.l.length+1) (Nat.zero_le _) (fun l e h'=>∃ u,SA n H4.next rules.l s (Lev.iter (bM rules.l) k) (rs'.map (jg n)) ts w h5 l u h'∧e 0=aq aL 3 rules∧e 3 = .ptr 0 0∧e 4 = .ptr 1 0∧e 5 = .ptr h3.next 0∧e 6=w∧e 7=aq encS 1 d∧e 8=aq encI 1 y∧e 10 = .int .i64 (l:Int))
   ⟨ts,⟨by rw [hts];exact .zero,rfl,tA,fun _ _ _=>rfl,Nat.le_refl _⟩,rfl,rfl,rfl,rfl,rfl,rfl,rfl,rfl⟩ ?_ ?_
  ·rintro l e h' _ hl ⟨u,hL,e0,e3,e4,e5,e6,e7,e8,e10⟩ K' hn' hx hr hp
   rw [F.bB.aN]
   simp only [e7,e10,aQ,Nat.reduceAdd,Nat.reduceEqDiff,reduceIte,decide_eq_true (by omega:(l:Int)≤(d.l.length:Int)),aC]
   refine Gi (N:=0) (x3:=.ptr 1 0) (OB:=h3.next) n1 n64 hn hfew hg hgo hpow hok0 (fun r hr=>Ej ho hgo hn hrs hr) hts h8 hd hy (fun _ _ _=>trivial) hL p0 (by omega) (fun t ht=>by have:=(htblk t ht).1;omega) (fun t ht=>(htblk t ht).2) ?_ ?_ ?_ ?_ ?_ ?_ ?_ ?_ ?_ fun e' h2 u2 hL2 e0 e3 e4 e5 e6 e7 e8 e10=>?_
   ·exact e0
   ·exact e3
   ·exact e4
   ·exact e5
   ·exact e6
   ·exact e7
   ·exact e8
   ·exact e10
   ·rfl
   rw [F.bB.cG]
   simp only [aQ,Nat.reduceAdd,Nat.reduceEqDiff,reduceIte,e10,aK (i:=l) (n:=62) (by rw [hd] at hl;omega) (by unfold cm;omega)]
   exact hn' _ _ ⟨u2,hL2,e0,e3,e4,e5,e6,e7,e8,rfl⟩
  ·rintro e h6 ⟨u,hL,e0,e3,e4,e5,e6,e7,e8,e10⟩ K' hx
   rw [F.bB.aN]
   simp only [e7,e10,aQ,Nat.reduceAdd,Nat.reduceEqDiff,reduceIte,decide_eq_false (by omega:¬ ((d.l.length+1:Nat):Int)≤(d.l.length:Int)),aD]
   rw [hx,F.bB.aG]
   obtain ⟨hrun,hush,uA,uold,unx⟩:=hL
   have hlow:∀ b,b<H4.next→h6.get b=h5.get b:=fun b hb=>uold b (by omega) fun t ht=>by have:=(htblk t ht).1;omega
   have r0:h6.get 0=some (.cells (aA s)):=by rw [hlow 0 (by omega)];exact p0
   have r1:h6.get 1=some (.cells [.int .i64 0,.nils]):=by rw [hlow 1 (by omega)];exact p1
   have r5:h6.get h3.next=some (.cells [.int .i64 s.size,a]):=by rw [hlow _ (by omega)];exact p5
   have hch:=(Bw n1 (sJ hst) hok0 hrun).1
   have hokU:=(Bw n1 (sJ hst) hok0 hrun).2
   rw [Ln ho hgo hrs] at hch
   have hN:∀ e ∈ bM rules.l,e.b ∈ cU rules.l∧e.h ∈ cU rules.l:=fun e he=>by
    obtain ⟨r,hr,c,hc,_,hin,rfl⟩:=mZ he
    exact ⟨(dx _).2 hin,(dx _).2 (List.mem_map_of_mem hr)⟩
   have hw1:∀ e ∈ bM rules.l,e.w≤1:=fun e he=>by
    obtain ⟨r,hr,c,hc,_,hin,rfl⟩:=mZ he
    exact D6 r c
   have hfin:fW rules.l n s (cY (u.map cD)):=⟨k,d.l.length+1,hst,fun r hr=>by
    have:=Lev.low hN hw1 hst ((dx _).2 (List.mem_map_of_mem hr):r.name ∈ cU rules.l)
    rw [hd];omega,hch⟩
   obtain ⟨Fk,hFk⟩:∃ Fk,Fk=cY (u.map cD):=⟨_,rfl⟩
   rw [← hFk] at hfin
   have oF0:Om (fun _=>False) 2 h6 a (rs'.map fun r=>(JC r,r)):=(rP.Sn oa).keep (fun b b1 b2 _=>by rw [hlow b b2,x5.get b b2]) (by omega)
   have lr:ai none (.ptr 0 1) h6=some (aq bA 3 s.rels):=by rw [an r0];rfl
   have hrb:rs'.length≤cm:=by unfold cm;omega
   simp only [aQ,Nat.reduceAdd,Nat.reduceEqDiff,reduceIte,e3,lr]
   have hlenA:∀ hh,bQ .slice a hh=some (.int .i64 (rs'.length:Int)):=fun hh=>oa.len
   refine aE s.rels.l.length rs'.length (by omega) (fun i e h'=>∃ l,Om (fun _=>False) 2 h' a l∧(l.map fun p=>cQ p.2)=s.rels.l.map cQ++oJ rules.l n Fk ((cU rules.l).take (i-s.rels.l.length))++eH rules.l ((cU rules.l).drop (i-s.rels.l.length)) ∧
     (∀ j r,i≤j→rs'[j]?=some r→l[j]?=some (JC r,r))∧(∀ b,b<h6.next→ep a≠some b→h'.get b=h6.get b)∧h6.next≤h'.next∧e 3 = .ptr 0 0∧e 4 = .ptr 1 0∧e 5 = .ptr h3.next 0∧e 6=w∧e 14 = .int .i64 (i:Int))
    ⟨_,oF0,by rw [List.map_map];show rs'.map cQ=_;rw [hrs];simp [oJ],fun j r _ hr=>by rw [List.getElem?_map,hr];rfl,fun _ _ _=>rfl,Nat.le_refl _,e3,e4,e5,e6,rfl⟩ ?_ ?_
   ·rintro i e h' hai hi ⟨l,oF,hld,hun,hfr,hnx,e3,e4,e5,e6,e14⟩ K2 hn2 hx2 hr2 hp2
    have hOBa:ep a≠some h3.next:=fun hb=>by have:=o3.lt hb;omega
    have q0:h'.get 0=some (.cells (aA s)):=by rw [hfr 0 (by omega) (fun hb=>by have:=o3.ge hb;omega)];exact r0
    have q5:h'.get h3.next=some (.cells [.int .i64 s.size,a]):=by rw [hfr _ (by omega) hOBa];exact r5
    have lo:ai none (.ptr h3.next 1) h'=some a:=by rw [an q5];rfl
    have lz:ai none (.ptr 0 0) h'=some (.int .i64 (n:Int)):=by rw [an q0,← hn];rfl
    have hx1:i-s.rels.l.length<(cU rules.l).length:=by omega
    have hv:(cU rules.l)[i-s.rels.l.length]?=some (cU rules.l)[i-s.rels.l.length]:=List.getElem?_eq_getElem hx1
    generalize (cU rules.l)[i-s.rels.l.length]=nm at hv
    have hnm:nm ∈ aY rules.l:=(dx _).1 (List.mem_of_getElem? hv)
    obtain ⟨hfa,rr,hrm,hrn,har⟩:=sN hgo hnm
    have hpw:=hpow rr hrm
    rw [← har] at hpw
    have hk12:ju rules.l nm≤12:=by rw [har];exact lF (hgok rr hrm).1
    have hri:rs'[i]?=some ⟨nm,(ju rules.l nm:Int),none⟩:=by
     rw [hrs',List.getElem?_append_right (by omega),hr1l]
     unfold jF
     rw [List.getElem?_map,hv];rfl
    have hli:=hun i _ (Nat.le_refl _) hri
    have hlen:l.length=rs'.length:=by
     have:=congrArg List.length hld
     rw [List.length_map,List.length_append,List.length_append,List.length_map] at this
     unfold oJ eH at this
     rw [List.length_map,List.length_map,List.length_take,List.length_drop] at this
     omega
    have hl1:(l.map (·.1))[i]?=some (JC ⟨nm,(ju rules.l nm:Int),none⟩):=by rw [List.getElem?_map,hli];rfl
    obtain ⟨ba,_,hba,ia,_,la⟩:=oF.own.get oE hl1
    have la1:ai none (.ptr ba (i*3+1)) h'=some (.int .i64 (ju rules.l nm:Int)):=by rw [la 1 (by omega)];rfl
    have hshl:=Da hush
    have htsl:ts.length=rs'.length:=by have:=congrArg List.length hts;simpa using this
    have huj:u[i]?=some (u[i]'(by omega)):=List.getElem?_eq_getElem _
    generalize u[i]'(by omega)=tb at huj
    have hst1:(u.map dh.shape)[i]?=some tb.shape:=by rw [List.getElem?_map,huj];rfl
    rw [hush,List.getElem?_map] at hst1
    obtain ⟨t0,ht0,hts0⟩:=Option.map_eq_some_iff.1 hst1
    have htT:(ts.map cD)[i]?=some (cD t0):=by rw [List.getElem?_map,ht0];rfl
    rw [hts,List.getElem?_map,hri] at htT
    have htT':=Option.some.inj htT
    have e1:t0.name=nm:=by have:=congrArg gq.name htT';exact this.symm
    have e2:t0.bits.length=n ^ ju rules.l nm:=by
     have:=congrArg (fun t:gq=>t.bits.length) htT'
     simp only [cD] at this
     rw [← this]
     show (bitsOf n ((ju rules.l nm:Int)).toNat []).length=_
     rw [jV];rfl
    unfold dh.shape at hts0
    simp only [Prod.mk.injEq] at hts0
    have htbn:tb.name=nm:=by rw [← hts0.1,e1]
    have htbl:tb.bits.length=n ^ ju rules.l nm:=by rw [← hts0.2.2.2,e2]
    have hbitF:∀ j,Fk nm j=tb.bits.getD j false:=fun j=>by
     have:=oC hokU.nodup (j:=i) (t:=cD tb) (by rw [List.getElem?_map,huj];rfl) j
     rw [hFk,← htbn];exact this
    have tbc:=uA.cell tb (List.mem_of_getElem? huj)
    rw [F.bB.iS]
    simp only [e3,e5,e14,aQ,Nat.reduceAdd,Nat.reduceEqDiff,reduceIte,lo,hlenA,bf hi,lz,ia .i64,la1]
    refine ak (bP n1 hk12 hpw fun al hal=>?_)
    have hall:al.l.length=n ^ ju rules.l nm:=by have:=congrArg List.length hal;rw [List.length_map,sE] at this;exact this
    have halb:al.l.length≤cm:=by rw [hall];unfold cm;omega
    simp only [aQ,Nat.reduceAdd,Nat.reduceEqDiff,reduceIte]
    have hl1n:(l.map (·.1))[i]?=some (nm,(ju rules.l nm:Int),O5):=hl1
    have hset0:(l.map (·.1)).set i (nm,(ju rules.l nm:Int),O5)=l.map (·.1):=(Ek hl1n (fun _ _=>rfl) rfl).symm
    have hab:∀ b,ep a=some b→b<h'.next:=fun b hb=>oF.own.lt hb
    refine aE 0 al.l.length (Nat.zero_le _) (fun j e h2=>∃ (tv:Lg) (ts:List (Sl Int)),Own mq 3 2 h2 a ((l.map (·.1)).set i (nm,(ju rules.l nm:Int),tv)) ∧
      Own eE 1 h'.next h2 tv.1 ts∧ts.map Sl.l=uu n Fk nm (ju rules.l nm) j∧(∀ b,b<h'.next→ep a≠some b→h2.get b=h'.get b)∧h'.next≤h2.next∧e 3 = .ptr 0 0∧e 4 = .ptr 1 0∧e 5 = .ptr h3.next 0∧e 6=w∧e 14 = .int .i64 (i:Int)∧e 15=aq eE 1 al∧e 16 = .int .i64 (j:Int))
     ⟨O5,[],by rw [hset0];exact oF.own,.nil,rfl,fun _ _ _=>rfl,Nat.le_refl _,e3,e4,e5,e6,e14,rfl,rfl⟩ ?_ ?_
    ·rintro j e h2 _ hj ⟨tv,tl,oR,ot,hxr,hfr2,hnx2,e3,e4,e5,e6,e14,e15,e16⟩ K3 hn3 hx3 hr3 hp3
     have hjn:j<n ^ ju rules.l nm:=by rw [← hall];exact hj
     have hjt:j<tb.bits.length:=by omega
     have uA2:eB H4.next h2 w u:=uA.keep (fun b b1 b2=>by
      have hne:ep a≠some b:=fun hb=>by have:=o3.lt hb;omega
      rw [hfr2 b (by omega) hne,hfr b b2 hne]) (by omega)
     obtain ⟨bw,hbw,iw,lw⟩:=Oo tb uA2 huj
     have tbc2:=uA2.cell tb (List.mem_of_getElem? huj)
     have hbit:tb.bits[j]?=some (Fk nm j):=by rw [hbitF,List.getD_eq_getElem?_getD,List.getElem?_eq_getElem hjt];rfl
     have hsuc:=JA n Fk nm (ju rules.l nm) j
     rw [F.bB.Fg]
     simp only [e6,e14,e15,e16,aQ,Nat.reduceAdd,Nat.reduceEqDiff,reduceIte,bf hj,iw,lw,jy hjt,zq tbc2.2.2.2 hbit]
     cases hFb:Fk nm j with
     |false=>
      rw [hFb,if_neg (by simp),List.append_nil] at hsuc
      simp only [aD,e16,aK hj halb,bindO_some]
      exact hn3 _ _ ⟨tv,tl,oR,ot,by rw [hsuc];exact hxr,hfr2,hnx2,e3,e4,e5,e6,e14,e15,rfl⟩
     |true=>
      rw [hFb,if_pos rfl] at hsuc
      have q52:h2.get h3.next=some (.cells [.int .i64 s.size,a]):=by rw [hfr2 _ (by omega) hOBa];exact q5
      have lo2:ai none (.ptr h3.next 1) h2=some a:=by rw [an q52];rfl
      have hi2:i<(l.map (·.1)).length:=by rw [List.length_map];omega
      have hli2:((l.map (·.1)).set i (nm,(ju rules.l nm:Int),tv))[i]?=some (nm,(ju rules.l nm:Int),tv):=by rw [List.getElem?_set,if_pos rfl,if_pos hi2]
      obtain ⟨bb,_,ib,hbb,_,lb2,_,_⟩:=oR.Oq hli2 tv
      have hvt:al.l[j]?=some al.l[j]:=List.getElem?_eq_getElem hj
      generalize al.l[j]=t at hvt
      have htl:t.l=dA n (ju rules.l nm) j:=by
       have h1:(al.l.map Sl.l)[j]?=some t.l:=by rw [List.getElem?_map,hvt];rfl
       rw [hal,wU n1 _ _ hjn] at h1
       exact (Option.some.inj h1).symm
      have hxl:tl.length≤j:=by have:=congrArg List.length hxr;rw [List.length_map] at this;have:=Ll n Fk nm (ju rules.l nm) j;omega
      obtain ⟨a9,h9,c9,o9,f9,n9,w9,b9⟩:=ot.push Fy Lh hnx2 (bytes:=24) (by rw [hm];omega) t
      have q59:h9.get h3.next=some (.cells [.int .i64 s.size,a]):=by rw [f9 _ (by omega) (fun hb=>by have:=ot.ge hb;omega)];exact q52
      have lo9:ai none (.ptr h3.next 1) h9=some a:=by rw [an q59];rfl
      have oR9:=oR.agree (fun b hb=>f9 b (by have:=hab b hb;omega) (fun hb'=>by have:=ot.ge hb';have:=hab b hb;omega)) n9
      obtain ⟨v1,v2⟩:=sI o9
      obtain ⟨b9',cs,ib9,hb9,hbn9,_,st9,oR10⟩:=oR9.Oq hli2 ⟨a9,v1,v2⟩
      rw [List.set_set] at oR10
      obtain rfl:bb=b9':=by rw [hbb] at hb9;exact Option.some.inj hb9
      have hb9n:=hab bb hb9
      have la:∀ hh,ai none (.iptr (al.l.flatMap eE) (j*1)) hh=some (aq encI 1 t):=fun hh=>iT hvt
      simp only [aC,e5,e14,e15,e16,aQ,Nat.reduceAdd,Nat.reduceEqDiff,reduceIte,lo2,ib,lb2,aS al hj,la,Sj,c9,lo9,AV.beq_refl,Bool.and_self,if_true,ib9,st9,aK hj halb]
      refine hn3 _ _ ?_
      refine ⟨⟨a9,v1,v2⟩,tl++[t],oR10,o9.agree (fun b hb=>by rw [ag.aO,if_neg (by have:=b9 b hb;omega)]) (by rw [ag.next_set];exact Nat.le_refl _),?_,fun b b1 b2=>?_,by rw [ag.next_set];omega,e3,e4,e5,e6,e14,e15,rfl⟩
      ·rw [List.map_append,hxr,hsuc]
       simp [htl]
      ·rw [ag.aO,if_neg (fun e=>b2 (by rw [e];exact hb9)),f9 b (by omega) (fun hb=>by have:=ot.ge hb;omega)]
       exact hfr2 b b1 b2
    ·rintro e h2 ⟨tv,tl,oR,ot,hxr,hfr2,hnx2,e3,e4,e5,e6,e14,e15,e16⟩ K3 hx3
     have hib:i<100:=by omega
     rw [F.bB.Fg]
     simp only [e15,e16,aQ,Nat.reduceAdd,Nat.reduceEqDiff,reduceIte,aT]
     rw [hx3,F.bB.Ay]
     simp only [aQ,Nat.reduceAdd,Nat.reduceEqDiff,reduceIte,e14,aK (i:=i) (n:=100) hib (by unfold cm;omega)]
     obtain ⟨x,hx1',hx3'⟩:=(rP.O3 ot ov).data
     have hxl:x.l=tl:=by rw [hx1',List.map_map];simp [Function.comp_def]
     refine hn2 _ _ ⟨l.set i ((nm,(ju rules.l nm:Int),tv),⟨nm,(ju rules.l nm:Int),x⟩),⟨by rw [List.map_set];exact oR,fun p hp g hgg=>?_,fun _ _ h=>h⟩,?_,fun q r hq hr=>?_,fun b b1 b2=>?_,by omega,e3,e4,e5,e6,rfl⟩
     ·rcases List.mem_or_eq_of_mem_set hp with hp|rfl
      ·exact oF.vp p hp g fun b b1 b2 b3 b4=>by rw [hgg b b1 (by omega) b3 b4,hfr2 b b2 b4]
      ·exact O2 (hx3' g fun b b1 b2 b3=>hgg b (by omega) b2 b3 (fun hb=>by have:=hab b hb;omega))
     ·have hd2:(l.set i ((nm,(ju rules.l nm:Int),tv),(⟨nm,(ju rules.l nm:Int),x⟩:Rel))).map (fun p=>cQ p.2)=(l.map fun p=>cQ p.2).set i (nm,(ju rules.l nm:Int),uu n Fk nm (ju rules.l nm) (n ^ ju rules.l nm)):=by
       rw [List.map_set]
       congr 1
       simp only [cQ,hxl,hxr,hall]
      rw [hd2,hld]
      have hdr:(cU rules.l).drop (i-s.rels.l.length)=nm :: (cU rules.l).drop (i-s.rels.l.length+1):=by
       rw [List.drop_eq_getElem_cons hx1]
       rw [List.getElem?_eq_getElem hx1] at hv
       rw [Option.some.inj hv]
      have htk:(cU rules.l).take (i-s.rels.l.length+1)=(cU rules.l).take (i-s.rels.l.length)++[nm]:=by rw [List.take_add_one,hv];rfl
      have hlA:(s.rels.l.map cQ++oJ rules.l n Fk ((cU rules.l).take (i-s.rels.l.length))).length=i:=by
       unfold oJ
       rw [List.length_append,List.length_map,List.length_map,List.length_take];omega
      have hcs:eH rules.l (nm :: (cU rules.l).drop (i-s.rels.l.length+1))=(nm,(ju rules.l nm:Int),[]) :: eH rules.l ((cU rules.l).drop (i-s.rels.l.length+1)):=rfl
      have hap:oJ rules.l n Fk ((cU rules.l).take (i-s.rels.l.length)++[nm])=oJ rules.l n Fk ((cU rules.l).take (i-s.rels.l.length))++[(nm,(ju rules.l nm:Int),uu n Fk nm (ju rules.l nm) (n ^ ju rules.l nm))]:=by unfold oJ;rw [List.map_append];rfl
      have hsm:=NT (s.rels.l.map cQ++oJ rules.l n Fk ((cU rules.l).take (i-s.rels.l.length))) (eH rules.l ((cU rules.l).drop (i-s.rels.l.length+1))) (nm,(ju rules.l nm:Int),[]) (nm,(ju rules.l nm:Int),uu n Fk nm (ju rules.l nm) (n ^ ju rules.l nm))
      rw [hlA] at hsm
      rw [show i+1-s.rels.l.length=i-s.rels.l.length+1 by omega,htk,hap,hdr,hcs,hsm]
      simp
     ·rw [List.getElem?_set,if_neg (by omega)]
      exact hun q r (by omega) hr
     ·rw [hfr2 b (by omega) b2];exact hfr b b1 b2
   ·rintro e h' ⟨l,oF,hld,hun,hfr,hnx,e3,e4,e5,e6,e14⟩ K2 hx2
    have hOBa:ep a≠some h3.next:=fun hb=>by have:=o3.lt hb;omega
    have q5:h'.get h3.next=some (.cells [.int .i64 s.size,a]):=by rw [hfr _ (by omega) hOBa];exact r5
    have q1:h'.get 1=some (.cells [.int .i64 0,.nils]):=by rw [hfr 1 (by omega) (fun hb=>by have:=o3.ge hb;omega)];exact r1
    have lo:ai none (.ptr h3.next 1) h'=some a:=by rw [an q5];rfl
    have lo2:ai (some 2) (.ptr h3.next 0) h'=some (.agg [.int .i64 s.size,a]):=by rw [an q5];rfl
    have st:bL 2 (.ptr 1 0) (.agg [.int .i64 s.size,a]) h'=some (h'.set 1 (.cells [.int .i64 s.size,a])):=by
     rw [dV (n:=2) (v:=.agg [.int .i64 s.size,a]) q1 rfl one2 (by simp)];rfl
    have lo3:ai (some 2) (.ptr 1 0) (h'.set 1 (.cells [.int .i64 s.size,a]))=some (.agg [.int .i64 s.size,a]):=by rw [an (cs:=[.int .i64 s.size,a]) (by rw [ag.aO,if_pos rfl])];rfl
    rw [F.bB.iS]
    simp only [e5,e14,aQ,Nat.reduceAdd,Nat.reduceEqDiff,reduceIte,lo,hlenA,aT]
    rw [hx2,F.bB.Kx]
    simp only [bt,Nat.reduceEqDiff,reduceIte,e4,e5,lo2,st,bindO_some,Lo,lo3,oneOf]
    obtain ⟨x,hx1,hx3⟩:=(oF.low (d:=1) (by omega) (.cells [.int .i64 s.size,a])).fz
    refine fin _ a x Fk hx3 hfin ?_
    rw [hx1,List.map_map]
    rw [show rs'.length-s.rels.l.length=(cU rules.l).length by omega,List.take_length,List.drop_length] at hld
    rw [show (l.map (cQ∘fun p=>p.2))=l.map (fun p=>cQ p.2) from rfl,hld]
    simp [eH]
 have main:=gen (fun o h'=>yes (∃ (a:AV) (x:Sl Rel) (Fk:Lk),o = .ret (.agg [.int .i64 s.size,a])∧Fz true h' a (aq bA 3 x)∧fW rules.l n s Fk∧x.l.map cQ=s.rels.l.map cQ++oJ rules.l n Fk (cU rules.l))) (fun h' a x Fk hf hF hx=>cw.2 ⟨a,x,Fk,rfl,hf,hF,hx⟩)
 refine main.frozen (by simp [AV.pureL,AV.pure,bF dR,er]) fun o h' ho=>?_
 obtain ⟨a,x,Fk,rfl,hf,hF,hx⟩:=cw.1 ho
 have f1:=jB.cons (.scalar (.int .i64 s.size) rfl) (jB.cons hf jB.nil)
 rw [hnn] at hK
 exact ⟨_,_,rfl,.agg _ _ f1.len f1.rel,hK ⟨s.size,x⟩ rfl ⟨Fk,hF,hx⟩⟩
end
end Go.AM