/- Parts of the proof. Conditions: none. -/
import Derived.Test.YtmkffehchicgaaaGreatPf16
import Derived.Test.YtmkffehchicgaaaGreatPf23
set_option linter.unusedSimpArgs false
set_option linter.unusedVariables false
namespace Go.AM
open List Nat Bool Option
open Go Go.Proofs
noncomputable section
variable {rs:List aR} {K:Out->ag->Bool} {h h':ag} {s:eG} {n k0 i j sz:Nat} {a:AV} {r:aR} {m:fy} {α:Type} {nm x:bQ} {vs:List Int} {c:dD} {D0:DB} {all xs:Sl bQ}
def SA(rs:List aR)(s:eG):Prop:=(∃ p ∈ cV rs,p.1 ∉ ax rs/\s.aY.l.find? (nC p.1 p.2)=none)\/∃ r ∈ s.aY.l,r.name ∈ ax rs
def Wj(rs:List aR)(s:eG):Prop:=8<s.aY.l.length+(dG rs).length\/(∃ r ∈ rs,4096<s.size.toNat ^ r.args.l.length)\/∃ r ∈ rs,65536<s.size.toNat ^ (varsOf r).length
structure CG (n:Nat) (rs:List aR) (s:eG) (D:DB):Prop where
 rel:∀ r ∈ s.aY.l,∃ b,D r.name=some (b,bitsOf n r.arity.toNat r.bW.l)
 head:∀ r ∈ rs,∃ b,D r.name=some (b,replicate (n ^ r.args.l.length) false)
 only:∀ nm p,D nm=some p->nm ∈ ax rs\/∃ r ∈ s.aY.l,r.name=nm
structure Pq (n P A M S B lo:Nat) (rules:Sl aR) (ks:List bQ) (lv:eL.Lv) (D0:DB) (m:fy) (h:ag):Prop where
 hP:h.get P=some (.cells [an aO 3 rules,.map A,.map M])
 hl:fZ (ax rules.l) h M ks lv
 Jj:ks.Nodup
 gI:dM rules.l []=some m
 hA:∃ es ck,h.get A=some (.map es ck)/\Pm es ck m
 hS:h.get S=some (.cells [.int .i64 (n:Int),.map B])
 hD:eT D0 h B lo
 ord:A<M/\M<P/\P<B/\B<S/\S<lo/\lo<=h.next
theorem YT{M:Nat}{ks:List bQ}{lv:eL.Lv}(hl:fZ (ax rs) h M ks lv)(Jj:ks.Nodup):ks.length=(dG rs).length:=by
 have h1:(dG rs).Nodup:=by
  have:=pW rs;unfold Bc at this;refine this.imp fun {a b} h e=>?_;rw [e,yu] at h;cases h
 have h2:=eL.tK Jj (m:=dG rs) fun x hx=>(dJ rs).2 ((hl.mem x).1 hx);have h3:=eL.tK h1 (m:=ks) fun x hx=>(hl.mem x).2 ((dJ rs).1 hx);omega
set_option maxHeartbeats 2000000 in
theorem aC{rules:Sl aR}{s:eG}(lu:∀ r ∈ rules.l,r.ok)(iF:∀ r ∈ rules.l,r.kH)(qu:s.ok){h:ag}{K:Out->ag->Bool}
  (h1:(¬ nK rules.l\/dU s=false)->∀ h',(∀ b,b<h.next->h'.get b=h.get b)->K (.ret (.tuple [.gC,.gC,.int .i64 1])) h'=true)
  (h4:nK rules.l->dU s=true->SA rules.l s->∀ h',(∀ b,b<h.next->h'.get b=h.get b)->K (.ret (.tuple [.gC,.gC,.int .i64 4])) h'=true)
  (h5:nK rules.l->dU s=true->¬ SA rules.l s->Wj rules.l s->∀ h',(∀ b,b<h.next->h'.get b=h.get b)->K (.ret (.tuple [.gC,.gC,.int .i64 5])) h'=true)
  (h0:nK rules.l->dU s=true->¬ SA rules.l s->¬ Wj rules.l s->∀ h' (n:Nat) P A M S B lo ks k D0 m,s.size=(n:Int)->1<=n->n<=64->eL.dR (b7 rules.l) (eL.iter (b7 rules.l) k) ->
   Pq n P A M S B lo rules ks (eL.iter (b7 rules.l) k) D0 m h'->CG n rules.l s D0->(∀ b,b<h.next->h'.get b=h.get b)->h.next<=A->K (.ret (.tuple [.ptr P 0,.ptr S 0,.int .i64 0])) h'=true) :
  Sem TP 45 [an aO 3 rules,.agg (aB s)] h K:=by
 refine F.AY ?_;rw [F.B9];simp only [cG (dH s),aq];have g0:(h.alloc (.cells (aB s))).get h.next=some (.cells (aB s)):=aD _ _
 have gx:bG h (h.alloc (.cells (aB s))):=bG.alloc _ _;have gn:(h.alloc (.cells (aB s))).next=h.next+1:=rfl
 generalize (h.alloc (.cells (aB s)))=H0 at g0 gx gn ⊢;refine aj (Sw lu iF (fun hb h' hf=>?_) fun h' P A M ks k hg ic gP la Jj QI UD m es ck gI gA YU o1 o2 o3 mI=>?_)
 ·simp only [aS,reduceAdd,reduceEqDiff,reduceIte,Bool.not_false];exact h1 (.inl hb) _ (fun b hb=>by rw [hf b (by omega),gx.get b hb])
 have p0:h'.get h.next=some (.cells (aB s)):=by rw [mI _ (by omega)];exact g0
 have l0:ah (some 2) (.ptr h.next 0) h'=some (.agg (aB s)):=by rw [ai p0,cQ (cs:=aB s) (n:=2) rfl]
 simp only [aS,reduceAdd,reduceEqDiff,reduceIte,Bool.not_true,l0];refine aj (fe qu ?_);simp only [aS,reduceAdd,reduceEqDiff,reduceIte]
 cases uu:dU s with
 |false=>simp only [Bool.not_false,aF];exact h1 (.inr uu) _ (fun b hb=>by rw [mI b (by omega),gx.get b hb])
 |true=>
 obtain ⟨n,hn,n1,ov,h8⟩:=uc uu;have sV:s.size.toNat=n:=by omega
 specialize h4 hg uu;specialize h5 hg uu;specialize h0 hg uu;clear h1;have Vq:=hg.kH;have sF:=gZ gI;obtain ⟨hmI,agD,hmN⟩:=id YU;have hrg:oN .map (.map A) h'=some (.ptr h'.next 0,h'.alloc (.ij (some A) ck [] ck)):=by simp only [oN,gA]
 simp only [Bool.not_true,aE,bD,aS,reduceAdd,reduceEqDiff,reduceIte,ai gP,hrg];have fh:∀ p ∈ m,(p.1,p.2) ∈ cV rules.l:=fun p hp=>(mw gI p.1 p.2).1 (yt hmN hp)
 refine Cu es (fun seen e hh=>(∀ en ∈ es,en.2.2 ∈ seen->∀ p ∈ m,en.1 = .str p.1->¬ (p.1 ∉ ax rules.l/\s.aY.l.find? (nC p.1 p.2)=none))/\hh.get h'.next=some (.ij (some A) ck seen ck)/\(∀ b,b<h'.next->hh.get b=h'.get b)/\h'.next<hh.next /\
   e 0=an aO 3 rules/\e 3 = .ptr h.next 0/\e 7 = .ptr P 0/\e 46 = .ptr h'.next 0)
  ⟨fun en _ vM=>(by cases vM),aD _ _,fun b hb=>by rw [ag.aW,if_neg (by omega)],by rw [ag.aV];omega,rfl,rfl,rfl,rfl⟩ ?_
 rintro seen e hh ⟨JB,w3,wf,wn,e0,e3,e7,e46⟩ K' U8 hex Yy agf;rw [F.aC.aT];simp only [e46];refine GI w3 (by rw [wf A (by omega)];exact gA) agD (by omega) (fun agE=>?_) (fun en vM hns Fg=>?_)
 ·
  have akj:¬ ∃ p ∈ cV rules.l,p.1 ∉ ax rules.l/\s.aY.l.find? (nC p.1 p.2)=none:=by
   rintro ⟨p,hp,hb⟩;have hf:=(mw gI p.1 p.2).2 hp;have O2:=tY hf;obtain ⟨en,vM,akk,_⟩:=hmI.Yv _ O2;exact JB en vM (agE en vM) _ O2 akk hb
  simp only [Kq,qY,aq,cF,aE];rw [hex,F.aC.aJ];have v0:hh.get h.next=some (.cells (aB s)):=by rw [wf _ (by omega)];exact p0
  have lr:ah none (.ptr h.next 1) hh=some (an bO 3 s.aY):=by rw [ai v0];rfl
  simp only [aS,reduceAdd,reduceEqDiff,reduceIte,e3,lr]
  refine aG 0 s.aY.l.length (zero_le _) (fun i e h2=>(∀ r ∈ s.aY.l.take i,r.name ∉ ax rules.l)/\(∀ b,b<h'.next->h2.get b=h'.get b)/\h'.next<h2.next/\e 0=an aO 3 rules/\e 3 = .ptr h.next 0/\e 7 = .ptr P 0/\e 71=an bO 3 s.aY/\e 72 = .int .i64 (s.aY.l.length:Int)/\e 73 = .int .i64 (i:Int))
   ⟨fun r hr=>(by cases hr),wf,wn,e0,e3,e7,rfl,rfl,rfl⟩ ?_ ?_
  ·rintro i e h2 _ hi ⟨KS,NX,wn2,e0,e3,e7,e71,e72,e73⟩ K2 qM iu vL Il;have hv:s.aY.l[i]?=some s.aY.l[i]:=ec hi;generalize s.aY.l[i]=r at hv;obtain ⟨H,EM,q1,qo,qn⟩:=cR (h:=h2) (zs:=[.str [],.int .i64 0,.au]) (cs:=bO r) (n:=3) rfl rfl (kJ r);have pP:H.get P=some (.cells [an aO 3 rules,.map A,.map M]):=by rw [qo _ (by omega),NX _ (by omega)];exact gP
   have hM:H.get M=h'.get M:=by rw [qo _ (by omega),NX _ (by omega)]
   obtain ⟨esL,Lw,mL,y1,y2,y3,y4,y5⟩:=la.ex;have BI:=uK (h:=H) (by rw [hM];exact y1) y2 r.name;have Qy:(mL.find r.name).isSome=decide (r.name ∈ ax rules.l):=by rw [y5];by_cases hh':r.name ∈ ax rules.l<;>simp [hh']
   have ln:ah none (.ptr h2.next 0) H=some (.str r.name):=by rw [ai q1];rfl
   rw [F.aC.eC];simp only [e7,e71,e72,e73,aS,reduceAdd,reduceEqDiff,reduceIte,bl hi,aU s.aY hi,cX iE hv,EM];simp only [aS,reduceAdd,reduceEqDiff,reduceIte,bD,ai pP,ln,BI,Qy];by_cases hd:r.name ∈ ax rules.l
   ·simp only [ey hd,aF];rw [vL,F.aC.k9];simp only [bg,reduceEqDiff,reduceIte];exact h4 (.inr ⟨r,iA hv,hd⟩) _ (fun b hb=>by rw [qo b (by omega),NX b (by omega),mI b (by omega),gx.get b hb])
   ·simp only [ep hd,aE,e73,aK hi qu.1,aq];refine qM _ _ ⟨fun q hq=>?_,fun b hb=>by rw [qo b (by omega)];exact NX b hb,by omega,e0,e3,e7,e71,e72,rfl⟩;rw [take_add_one,hv] at hq;rcases mem_append.1 hq with hq|hq
    ·exact KS q hq
    ·simp only [toList_some,mem_singleton] at hq;subst hq;exact hd
  ·rintro e h2 ⟨KS,NX,wn2,e0,e3,e7,e71,e72,e73⟩ K2 iu;rw [kB (dK _)] at KS
   have agF:¬ SA rules.l s:=by
    rintro (hb|⟨r,hr,hd⟩)
    ·exact akj hb
    ·exact KS r hr hd
   specialize h5 agF;specialize h0 agF;have v0:h2.get h.next=some (.cells (aB s)):=by rw [NX _ (by omega)];exact p0
   have vP:h2.get P=some (.cells [an aO 3 rules,.map A,.map M]):=by rw [NX _ (by omega)];exact gP
   have vl:fZ (ax rules.l) h2 M ks (eL.iter (b7 rules.l) k):=la.eW (NX _ (by omega));have lr:ah none (.ptr h.next 1) h2=some (an bO 3 s.aY):=by rw [ai v0];rfl
   have ls:ah none (.ptr h.next 0) h2=some (.int .i64 (n:Int)):=by rw [ai v0,<- hn];rfl
   have hkl:ks.length<=60:=by
    have:=eL.tK Jj (m:=ax rules.l) fun x hx=>(la.mem x).1 hx;have h1:(ax rules.l).length=rules.l.length:=by simp [ax]
    omega
   have xk:aL .add (.int .i64 (s.aY.l.length:Int)) (.int .i64 (ks.length:Int))=some (.int .i64 ((s.aY.l.length+ks.length:Nat):Int)):=by
    rw [je (by omega) (by omega)];rfl
   have hdk:=YT la Jj;rw [F.aC.eC];simp only [e72,e73,aS,reduceAdd,reduceEqDiff,reduceIte,aX];rw [iu,F.aC.cZ];simp only [aS,reduceAdd,reduceEqDiff,reduceIte,e3,e7,lr,bD,ai vP,vl.len,xk];by_cases hbg:8<s.aY.l.length+ks.length
   ·simp only [ey (by omega:(8:Int)<((s.aY.l.length+ks.length:Nat):Int)),aF];exact h5 (.inl (by rw [<- hdk];exact hbg)) _ (fun b hb=>by rw [NX b (by omega),mI b (by omega),gx.get b hb])
   have Vr:jM [.int .i64 0,.kX] [(0,1),(1,1)] [.int .i64 (n:Int),.map h2.next]=some (.agg [.int .i64 (n:Int),.map h2.next]):=rfl;simp only [ep (by omega:¬ (8:Int)<((s.aY.l.length+ks.length:Nat):Int)),aE,ls,aq,Vr,cG (show bE [.int .i64 (n:Int),.map h2.next]=true from rfl),ag.aV];have f0:((h2.alloc (.map [] 0)).alloc (.cells [.int .i64 (n:Int),.map h2.next])).get h2.next=some (.map [] 0):=by rw [ag.aW,ag.aV,if_neg (by omega)];exact aD _ _
   have f1:((h2.alloc (.map [] 0)).alloc (.cells [.int .i64 (n:Int),.map h2.next])).get (h2.next+1)=some (.cells [.int .i64 (n:Int),.map h2.next]):=aD _ _;have fx:bG h2 ((h2.alloc (.map [] 0)).alloc (.cells [.int .i64 (n:Int),.map h2.next])):=(bG.alloc _ _).trans (bG.alloc _ _);have fn:((h2.alloc (.map [] 0)).alloc (.cells [.int .i64 (n:Int),.map h2.next])).next=h2.next+1+1:=rfl
   generalize ((h2.alloc (.map [] 0)).alloc (.cells [.int .i64 (n:Int),.map h2.next]))=H2 at f0 f1 fx fn ⊢;have uP:H2.get P=some (.cells [an aO 3 rules,.map A,.map M]):=by rw [fx.get _ (by omega)];exact vP
   obtain ⟨esL,Lw,mL,y1,y2,y3,y4,y5⟩:=la.ex;have uM:H2.get M=some (.map esL Lw):=by rw [fx.get _ (by omega),NX _ (by omega)];exact y1
   have akm:oN .map (.map M) H2=some (.ptr H2.next 0,H2.alloc (.ij (some M) Lw [] Lw)):=by simp only [oN,uM]
   simp only [e7,bD,aS,reduceAdd,reduceEqDiff,reduceIte,ai uP,akm];have r3:(H2.alloc (.ij (some M) Lw [] Lw)).get (h2.next+1+1)=some (.ij (some M) Lw [] Lw):=by have:=aD H2 (.ij (some M) Lw [] Lw);rwa [fn] at this
   have rx:bG H2 (H2.alloc (.ij (some M) Lw [] Lw)):=bG.alloc _ _;have rn:(H2.alloc (.ij (some M) Lw [] Lw)).next=h2.next+1+1+1:=by rw [ag.aV,fn]
   rw [fn];generalize (H2.alloc (.ij (some M) Lw [] Lw))=H3 at r3 rx rn ⊢;have low:∀ b,b<h2.next->H3.get b=h2.get b:=fun b hb=>by rw [rx.get b (by omega),fx.get b hb]
   have s0:H3.get h2.next=some (.map [] 0):=by rw [rx.get _ (by omega)];exact f0
   have s1:H3.get (h2.next+1)=some (.cells [.int .i64 (n:Int),.map h2.next]):=by rw [rx.get _ (by omega)];exact f1
   have sM:H3.get M=some (.map esL Lw):=by rw [rx.get _ (by omega)];exact uM
   have sP:H3.get P=some (.cells [an aO 3 rules,.map A,.map M]):=by rw [rx.get _ (by omega)];exact uP
   have sA:H3.get A=some (.map es ck):=by rw [low _ (by omega),NX _ (by omega)];exact gA
   have sB:H3.get h.next=some (.cells (aB s)):=by rw [low _ (by omega)];exact v0
   have sl:fZ (ax rules.l) H3 M ks (eL.iter (b7 rules.l) k):=la.eW (by rw [sM,y1]);have sD:eT (fun _=>none) H3 h2.next (h2.next+1+1+1):=⟨⟨[],0,[],s0,trivial,fun nm=>rfl⟩,fun nm p hp=>(by cases hp),fun nm KQ p p' hp=>(by cases hp),by omega⟩
   refine Iu (S:=h2.next+1) (SB:=h.next) hn n1 ov (fun r hr=>mz (sF r hr).1) gI s1 sB sP sA YU sl sD (fun wD EK hM'=>by rw [sM] at hM';cases hM';exact r3) rn (by omega) (by omega) (by omega) (by omega) (by omega) (by omega) (by omega) (by omega) (by omega) (by omega) (by omega) e0 e3 e7 rfl rfl (fun hb h' hf=>h5 (.inr (.inl (by rw [sV];exact hb))) h' (fun b hb=>by rw [hf b (by omega) (by omega),low b (by omega),NX b (by omega),mI b (by omega),gx.get b hb])) fun e4 h4' D a1 a2 a3 a4 a5 a6 j0 j3 j7 j17=>?_;rw [F.aC.iM];simp only [j0,aS,reduceAdd,reduceEqDiff,reduceIte]
   refine It (s:=s) (SB:=h.next) (S:=h2.next+1) hn n1 ov iF Vq (fun r hr=>(sF r hr).2.2) (by rw [a5 _ (by omega) (by omega)];exact sB) (by omega) j3 j7 j17 rfl rfl rfl (fun hb h' hx=>h5 (.inr (.inr (by rw [sV];exact hb))) h' (fun b hb=>by rw [hx.get b (by omega),a5 b (by omega) (by omega),low b (by omega),NX b (by omega),mI b (by omega),gx.get b hb])) fun c1 e5 h6 c2 i3 i7 i17=>?_;have c6:=c2.next
   have t0:h6.get h.next=some (.cells (aB s)):=by rw [c2.get _ (by omega),a5 _ (by omega) (by omega)];exact sB
   have t1:h6.get (h2.next+1)=some (.cells [.int .i64 (n:Int),.map h2.next]):=by rw [c2.get _ (by omega),a5 _ (by omega) (by omega)];exact s1
   have lr6:ah none (.ptr h.next 1) h6=some (an bO 3 s.aY):=by rw [ai t0];rfl
   rw [F.aC.FR];simp only [aS,reduceAdd,reduceEqDiff,reduceIte,i3,lr6];refine K5 (S:=h2.next+1) (SB:=h.next) qu uu hn n1 ov t1 t0 (a2.ext c2) (by omega) (by omega) (by omega) (by omega) (by omega) i3 i7 i17 rfl rfl rfl fun h7 D7 d1 d2 d3 d4 d5=>?_
   have akn:¬ Wj rules.l s:=by
    rintro (hb|⟨r,hr,hb⟩|⟨r,hr,hb⟩)
    ·omega
    ·rw [sV] at hb;have:=a1 r hr;omega
    ·rw [sV] at hb;have:=c1 r hr;omega
   have eW:∀ b,b<h2.next->h7.get b=h2.get b:=fun b hb=>by rw [d4 b (by omega) (by omega),c2.get b (by omega),a5 b (by omega) (by omega),low b hb]
   refine h0 akn h7 n P A M (h2.next+1) h2.next (h2.next+1+1+1) ks k D7 m hn n1 ov ic ⟨?_,la.eW ?_,Jj,gI,⟨es,ck,?_,YU⟩,?_,d1,by omega⟩ ⟨fun r hr=>?_,fun r hr=>?_,fun nm p hp=>?_⟩ (fun b hb=>?_) (by omega)
   ·rw [eW _ (by omega)];exact vP
   ·rw [eW _ (by omega),NX _ (by omega)]
   ·rw [eW _ (by omega),NX _ (by omega)];exact gA
   ·rw [d4 _ (by omega) (by omega)];exact t1
   ·obtain ⟨b,_,b2⟩:=d2 r hr;exact ⟨b,b2⟩
   ·obtain ⟨b,b2⟩:=a3 r hr;refine ⟨b,?_⟩;rw [d3 r.name fun q hq e=>KS q hq (by rw [e];exact List.mem_map_of_mem hr)];exact b2
   ·by_cases hq:∃ q ∈ s.aY.l,q.name=nm
    ·exact .inr hq
    ·rw [d3 nm fun q oS e=>hq ⟨q,oS,e⟩] at hp;exact .inl (a4 nm p hp)
   ·rw [eW _ (by omega),NX _ (by omega),mI _ (by omega),gx.get _ hb]
 obtain ⟨p,O2,QO,qM⟩:=hmI.mem en vM;have vf:∀ b,b<h'.next->(hh.set h'.next (.ij (some A) ck (seen++[en.2.2]) ck)).get b=h'.get b:=fun b hb=>by rw [ag.aP,if_neg (by omega)];exact wf b hb
 have v3:(hh.set h'.next (.ij (some A) ck (seen++[en.2.2]) ck)).get h'.next=some (.ij (some A) ck (seen++[en.2.2]) ck):=by rw [ag.aP,if_pos rfl]
 have vn:(hh.set h'.next (.ij (some A) ck (seen++[en.2.2]) ck)).next=hh.next:=ag.bq _ _ _
 simp only [Kq,qY,yl,aq,cF,aF,Fg,e3,e7,e46,QO,qM];clear Fg;generalize (hh.set h'.next (.ij (some A) ck (seen++[en.2.2]) ck))=H at vf v3 vn ⊢;have pP:H.get P=some (.cells [an aO 3 rules,.map A,.map M]):=by rw [vf _ (by omega)];exact gP
 have p0':H.get h.next=some (.cells (aB s)):=by rw [vf _ (by omega)];exact p0
 have lS:ah (some 2) (.ptr h.next 0) H=some (.agg (aB s)):=by rw [ai p0',cQ (cs:=aB s) (n:=2) rfl]
 obtain ⟨esL,Lw,mL,y1,y2,y3,y4,y5⟩:=la.ex;have BI:=uK (h:=H) (by rw [vf M (by omega)];exact y1) y2 p.1;have Qy:(mL.find p.1).isSome=decide (p.1 ∈ ax rules.l):=by rw [y5];by_cases hh':p.1 ∈ ax rules.l<;>simp [hh']
 have fin:∀ (e':Env),(¬ (p.1 ∉ ax rules.l/\s.aY.l.find? (nC p.1 p.2)=none))->e' 0=an aO 3 rules->e' 3 = .ptr h.next 0->e' 7 = .ptr P 0->e' 46 = .ptr h'.next 0->K' .normal ⟨e',198,[],H⟩=true:=fun e' agG e0 e3 e7 e46=>by
  refine U8 en vM hns _ _ ⟨fun ZQ M3 Sz q hq ve=>?_,v3,vf,by omega,e0,e3,e7,e46⟩;rcases mem_append.1 Sz with Sz|Sz
  ·exact JB ZQ M3 Sz q hq ve
  ·rw [mem_singleton] at Sz
   have hee:ZQ=en:=by
    obtain ⟨i,hi⟩:=mem_iff_getElem?.1 vM;obtain ⟨j,hj⟩:=mem_iff_getElem?.1 M3;have tj:(es.map (·.2.2))[i]?=some en.2.2:=by rw [getElem?_map,hi];rfl
    have Ki:(es.map (·.2.2))[j]?=some en.2.2:=by rw [getElem?_map,hj,<- Sz];rfl
    have Wz:=kV agD.nodup tj Ki;subst Wz;rw [hi] at hj;exact (Option.some.inj hj).symm
   rw [hee,QO] at ve;injection ve with h3
   have h6:q.2=p.2:=by
    have h7:=yt hmN hq;have h8:=yt hmN O2;rw [<- h3,h8] at h7;exact (Option.some.inj h7).symm
   rw [<- h3,h6];exact agG
 simp only [aS,reduceAdd,reduceEqDiff,reduceIte,bD,ai pP,BI,Qy];by_cases hd:p.1 ∈ ax rules.l
 ·simp only [ey hd,Bool.not_true,aE];exact fin _ (fun hb=>hb.1 hd) e0 e3 e7 e46
 ·simp only [ep hd,Bool.not_false,aF,aS,reduceAdd,reduceEqDiff,reduceIte,lS];refine aj (O7 qu ?_);simp only [aS,reduceAdd,reduceEqDiff,reduceIte];rcases pY (nC p.1 p.2) s.aY.l with ⟨f1,f2⟩|⟨j,r,f1,f2,f3⟩
  ·rw [f1];simp only [show decide ((-1:Int)<0)=true from rfl,aF];rw [Yy,F.aC.bt];simp only [bg,reduceEqDiff,reduceIte];exact h4 (.inl ⟨(p.1,p.2),fh p O2,hd,f2⟩) _ (fun b hb=>by rw [vf b (by omega),mI b (by omega),gx.get b hb])
  ·rw [f1];simp only [ep (by omega:¬ ((j:Int)<0)),aE];exact fin _ (fun hb=>by rw [f3] at hb;exact absurd hb.2 (by simp)) e0 e3 e7 e46
theorem vF{α β:Type}{enc:α->List AV}{oJ:β->List AV}{h:ag}:∀ {l:List (α×β)},(∀ p ∈ l,kD true h (enc p.1) (oJ p.2))->kD true h (l.flatMap fun p=>enc p.1) (l.flatMap fun p=>oJ p.2)
 |[],_=>.nil
 |p :: l,hp=>by
  rw [flatMap_cons,flatMap_cons];exact kD.append (hp p mem_cons_self) (vF fun q hq=>hp q (mem_cons_of_mem _ hq))
structure qc {α β:Type} (X:Nat->Prop) (enc:α->List AV) (oJ:β->List AV) (sz k:Nat) (h:ag) (a:AV) (l:List (α×β)):Prop where
 own:Own enc sz k h a (l.map (·.1))
 Am:∀ p ∈ l,∀ h',(∀ b,k<=b->b<h.next->¬ X b->eP a≠some b->h'.get b=h.get b)->kD true h' (enc p.1) (oJ p.2)
 av:∀ b,eP a=some b->¬ X b
section
variable {α β:Type} {X:Nat->Prop} {enc:α->List AV} {oJ:β->List AV} {sz k:Nat} {h h':ag} {a:AV} {l:List (α×β)}
theorem qc.nil:qc X enc oJ sz k h .au []:=⟨.nil,fun p hp=>(by cases hp),fun b hb=>(by cases hb)⟩
theorem Own.agree{enc:α->List AV}{k:Nat}{l:List α}(o:Own enc sz k h a l)(hb:∀ b,eP a=some b->h'.get b=h.get b)(hn:h.next<=h'.next):Own enc sz k h' a l:=by
 cases o with
 |nil=>exact .nil
 |row b l h1 h2 h3=>exact .row b _ h1 (Nat.lt_of_lt_of_le h2 hn) (by rw [hb b rfl];exact h3)
theorem qc.eW(o:qc X enc oJ sz k h a l)(hb:∀ b,k<=b->b<h.next->¬ X b->h'.get b=h.get b)(hn:h.next<=h'.next):qc X enc oJ sz k h' a l:=
 ⟨o.own.agree (fun b e=>hb b (o.own.ge e) (o.own.lt e) (o.av b e)) hn,fun p hp h2 hh=>o.Am p hp h2 fun b b1 b2 b3 b4=>by rw [hh b b1 (Nat.lt_of_lt_of_le b2 hn) b3 b4,hb b b1 b2 b3],o.av⟩
theorem qc.ext(o:qc X enc oJ sz k h a l)(hx:bG h h'):qc X enc oJ sz k h' a l:=o.eW (fun b _ b2 _=>hx.get b b2) hx.next
theorem qc.low(o:qc X enc oJ sz k h a l){d:Nat}(hd:d<k)(x:mP):qc X enc oJ sz k (h.set d x) a l:=
 o.eW (fun b b1 _ _=>by rw [ag.aP,if_neg (by omega)]) (by rw [ag.bq];exact dK _)
theorem qc.push(o:qc X enc oJ sz k h a l)(he:∀ x,(enc x).length=sz)(h1:∀ x,bE (enc x)=true)(hk:k<=h.next){bytes:Nat}(rE:(l.length+1)*bytes<=dw)(v:α)(w:β)(hX:∀ b,X b->b<h.next)
  (hf:∀ h',(∀ b,k<=b->b<h.next->¬ X b->eP a≠some b->h'.get b=h.get b)->kD true h' (enc v) (oJ w)) :
  ∃ a' h',cz sz bytes a (.slice h.next 0 1 sz) (h.alloc (.cells (enc v)))=some (a',h')/\qc X enc oJ sz k h' a' (l++[(v,w)])/\(∀ c,c<h.next->eP a≠some c->h'.get c=h.get c)/\h.next<=h'.next/\(∀ h0,bG h0 h->h0.next<=k->bG h0 h')/\∀ c,eP a'=some c->h.next<=c:=by
 obtain ⟨a',h',e1,o1,f1,n1,x1,b1⟩:=o.own.push he h1 hk (bytes:=bytes) (by simpa using rE) v;refine ⟨a',h',e1,⟨by rw [map_append];exact o1,fun p hp h2 hh=>?_,fun b e x=>by have:=b1 b e;have:=hX b x;omega⟩,f1,n1,x1,b1⟩
 have wk:∀ b,k<=b->b<h.next->¬ X b->eP a≠some b->h2.get b=h.get b:=fun b c1 c2 c3 c4=>by
  rw [hh b c1 (by omega) c3 (fun e=>by have:=b1 b e;omega),f1 b c2 c4]
 rcases mem_append.1 hp with hp|hp
 ·exact o.Am p hp h2 wk
 ·rw [mem_singleton] at hp;subst hp;exact hf h2 wk
theorem qc.data(o:qc X enc oJ sz k h a l):∃ x:Sl β,x.l=l.map (·.2)/\∀ h2,(∀ b,k<=b->b<h.next->¬ X b->h2.get b=h.get b)->Fz true h2 a (an oJ sz x):=by
 obtain ⟨ow,fr,av⟩:=o;generalize hm:l.map (·.1)=m at ow
 cases ow with
 |nil=>
  have:l = []:=by simpa using hm
  subst this;exact ⟨none,rfl,fun h2 _=>.dP rfl⟩
 |row b m h1 h2 h3=>
  subst hm;refine ⟨some (l.map (·.2)),rfl,fun g hg=>?_⟩;have fl:kD true g (l.flatMap fun p=>enc p.1) (l.flatMap fun p=>oJ p.2):=vF fun p hp=>fr p hp g fun c c1 c2 c3 c4=>hg c c1 c2 c3;have e1:(l.map (·.1)).flatMap enc=l.flatMap fun p=>enc p.1:=by rw [flatMap_map]
  have e2:(l.map (·.2)).flatMap oJ=l.flatMap fun p=>oJ p.2:=by rw [flatMap_map]
  have:an oJ sz (some (l.map (·.2))) = .ay (l.flatMap fun p=>oJ p.2) 0 l.length sz:=by simp only [an,e2,length_map]
  rw [this,length_map];exact .slice b 0 l.length sz _ _ (by rw [hg b h1 h2 (av b rfl),h3,e1]) fl.len fl.rel
theorem qc.fz(o:qc X enc oJ sz k h a l):∃ x:Sl β,x.l=l.map (·.2)/\Fz true h a (an oJ sz x):=by
 obtain ⟨x,h1,h2⟩:=o.data;exact ⟨x,h1,h2 h fun _ _ _ _=>rfl⟩
end
def Iv:={ v:AV // bE [v]=true/\v.eN = [v] }
abbrev Nl:=bQ×Int×Iv
def qB(r:Nl):List AV:=[.str r.1,.int .i64 r.2.1,r.2.2.1]
theorem ug(r:Nl):(qB r).length=3:=rfl
theorem qR{enc:α->List AV}{k:Nat}{l:List α}(o:Own enc sz k h a l):bE [a]=true/\a.eN = [a]:=by cases o<;>exact ⟨rfl,rfl⟩
abbrev ZW(X:Nat->Prop)(k:Nat)(h:ag)(a:AV)(l:List (Nl×Rel)):Prop:=qc X qB bO 3 k h a l
theorem abu{k:Int}{v:Iv}{x:Sl (Sl Int)}(hf:Fz true h v.1 (an eu 1 x)):kD true h (qB (nm,k,v)) (bO ⟨nm,k,x⟩):=
 .cons (.scalar _ rfl) (.cons (.scalar _ rfl) (.cons hf .nil))
theorem agH(y:Sl Int):ig [.au] [(0,1)] [an encI 1 y]=some (eu y):=by cases y<;>rfl
theorem Vs(y:Sl Int):bE (eu y)=true:=by cases y<;>rfl
theorem qc.abv{enc:α->List AV}{k:Nat}{l:List α}(o:Own enc sz k h a l)(hf:∀ v,AV.cN (enc v)=true):qc (fun _=>False) enc enc sz k h a (l.map fun v=>(v,v)):=
 ⟨by rw [List.map_map];simpa [Function.comp_def] using o,fun p hp h' _=>by
  obtain ⟨v,_,rfl⟩:=mem_map.1 hp
  exact .dP (hf v),fun _ _ h=>h⟩
def xN(n:Nat)(s:eG):Lk:=fun nm k=>match s.aY.l.find? (eX nm) with|some r=>(bitsOf n r.arity.toNat r.bW.l).getD k false|none=>false
def jZ(rs:List aR)(n:Nat)(s:eG)(F:Lk):Prop:=∃ k t,eL.dR (b7 rs) (eL.iter (b7 rs) k)/\(∀ r ∈ rs,eL.iter (b7 rs) k r.name<t)/\jD n rs (eL.iter (b7 rs) k) (xN n s) t F
theorem jZ.unique{A B:Lk}(h:jZ rs n s A)(g:jZ rs n s B):A=B:=by
 obtain ⟨j,t,h1,h2,h3⟩:=h;obtain ⟨k,u,g1,g2,g3⟩:=g;rw [eL.IF h1 g1] at h2 h3;exact h3.same g3 h2 g2
theorem yD{k:Nat}(h:eL.dR (b7 rs) (eL.iter (b7 rs) k)):GU rs (eL.iter (b7 rs) k):=by
 intro r hr c hc k0 ⟨q,hq,ve⟩
 have he:gr r c ∈ b7 rs:=by
  refine mem_flatMap.2 ⟨r,hr,mem_flatMap.2 ⟨c,hc,?_⟩⟩;unfold oq;rw [if_pos ⟨k0,by rw [<- ve];exact List.mem_map_of_mem hq⟩];exact mem_singleton.2 rfl
 have:=h _ he;unfold gr at this;exact this
theorem Pr(qd:rs.length<=60)(tC:∀ r ∈ rs,r.body.l.length<=20){k:Nat}(h:eL.dR (b7 rs) (eL.iter (b7 rs) k))(x:bQ):eL.iter (b7 rs) k x<=1000000:=by
 have hN:∀ e ∈ b7 rs,e.b ∈ ax rs/\e.h ∈ ax rs:=fun e he=>by
  obtain ⟨r,hr,c,hc,_,mN,rfl⟩:=rS he;exact ⟨mN,List.mem_map_of_mem hr⟩
 rw [eL.IF h (eL.settle hN h)];have:=zW qd tC (ax rs).length x;have h1:(ax rs).length=rs.length:=by simp [ax]
 rw [h1] at this ⊢;omega
def jq(rs:List aR)(nm:bQ):Nat:=match rs.find? (fun r=>r.name==nm) with|some r=>r.args.l.length|none=>0
theorem l9(gI:dM rs []=some m){j k:Int}(h1:(x,j) ∈ cV rs)(h2:(x,k) ∈ cV rs):j=k:=by
 have a:=(mw gI x j).2 h1;have b:=(mw gI x k).2 h2;rw [a] at b;exact Option.some.inj b
theorem GZ(gI:dM rs []=some m)(hr:r ∈ rs):jq rs r.name=r.args.l.length:=by
 unfold jq
 cases hf:rs.find? (fun q=>q.name==r.name) with
 |none=>
  rw [find?_eq_none] at hf;exact absurd (hf r hr) (by simp)
 |some q=>
  have hq:=mem_of_find?_eq_some hf;have ve:=find?_some hf;rw [beq_iff_eq] at ve;have:=l9 gI (kW hq) (by rw [ve];exact kW hr);simp only;omega
theorem ri(hr:r ∈ rs)(hc:c ∈ r.body.l)(k0:c.kind=0):(c.name,(c.args.l.length:Int)) ∈ cV rs:=by
 refine mem_flatMap.2 ⟨r,hr,mem_cons_of_mem _ ?_⟩;unfold eY;exact mem_map.2 ⟨c,mem_filter.2 ⟨hc,by simpa using k0⟩,rfl⟩
structure ZX (c:dD):Prop where
 kinds:c.kind=0\/c.kind=1\/c.kind=2
 two:c.kind=1\/c.kind=2->c.args.l.length=2
 arity:c.args.l.length<=12
theorem Bv(h:iU c=true):ZX c:=by
 unfold iU at h;by_cases k0:c.kind=0
 ·rw [if_pos k0] at h;exact ⟨.inl k0,fun h'=>by omega,mz h⟩
 ·rw [if_neg k0] at h;by_cases Bn:c.kind=1\/c.kind=2
  ·rw [if_pos Bn] at h;simp only [and_eq_true,decide_eq_true_eq] at h;exact ⟨.inr Bn,fun _=>h.2.1,by omega⟩
  ·rw [if_neg Bn] at h;cases h
theorem SC(hg:nK rs)(hr:r ∈ rs):kZ r=true:=by
 have:=((yB rs).1 hg).2.1;rw [List.all_eq_true] at this;exact this r hr
theorem yE(hg:nK rs)(hr:r ∈ rs)(hc:c ∈ r.body.l):iU c=true:=by
 have:=SC hg hr;unfold kZ at this;simp only [and_eq_true] at this;have h5:=this.2.2.2.1;rw [List.all_eq_true] at h5;exact h5 c hc
theorem yF{k:Int}{r:Rel}(h:s.aY.l.find? (nC nm k)=some r):r ∈ s.aY.l/\r.name=nm/\r.arity=k:=by
 have h1:=mem_of_find?_eq_some h;have h2:=find?_some h;simp only [nC,and_eq_true,beq_iff_eq,decide_eq_true_eq] at h2;exact ⟨h1,h2.1,by first|exact h2.2|exact h2.2.symm⟩
theorem SD(gI:dM rs []=some m)(uu:dU s=true)(hn:s.size=(n:Int))(h4:¬ SA rs s)(h5:¬ Wj rs s)(sd:CG n rs s D0)(hr:r ∈ rs)(hc:c ∈ r.body.l)(k0:c.kind=0) :
  n ^ c.args.l.length<=4096/\∃ p,D0 c.name=some p/\p.2.length=n ^ c.args.l.length:=by
 have sV:s.size.toNat=n:=by omega
 have u0:=ri hr hc k0;by_cases hd:c.name ∈ ax rs
 ·obtain ⟨q,hq,ve⟩:=mem_map.1 hd
  have hl:q.args.l.length=c.args.l.length:=by
   have:=l9 gI (kW hq) (by rw [ve];exact u0);omega
  obtain ⟨b,hb⟩:=sd.head q hq;rw [ve] at hb;refine ⟨?_,_,hb,by rw [length_replicate,hl]⟩;rw [<- hl,<- sV];exact Nat.le_of_not_lt fun h=>h5 (.inr (.inl ⟨q,hq,h⟩))
 ·cases hf:s.aY.l.find? (nC c.name (c.args.l.length:Int)) with
  |none=>exact absurd (.inl ⟨_,u0,hd,hf⟩) h4
  |some q=>
   obtain ⟨hq,ve,hqa⟩:=yF hf;obtain ⟨i,hi⟩:=mem_iff_getElem?.1 hq;have Hu:=xE uu hi;rw [sV] at Hu;obtain ⟨k,hk,Bn,Wi,hkt⟩:=yz Hu;obtain ⟨b,hb⟩:=sd.rel q hq;have hkl:k=c.args.l.length:=by omega
   rw [ve] at hb;exact ⟨by rw [<- hkl];exact Wi,_,hb,by rw [nu];congr 1;omega⟩
theorem rZ(hn:s.size=(n:Int))(h5:¬ Wj rs s)(sd:CG n rs s D0)(hr:r ∈ rs):n ^ r.args.l.length<=4096/\∃ p,D0 r.name=some p/\p.2.length=n ^ r.args.l.length:=by
 have sV:s.size.toNat=n:=by omega
 obtain ⟨b,hb⟩:=sd.head r hr;refine ⟨?_,_,hb,length_replicate⟩;rw [<- sV];exact Nat.le_of_not_lt fun h=>h5 (.inr (.inl ⟨r,hr,h⟩))
theorem G0(hg:nK rs)(gI:dM rs []=some m)(uu:dU s=true)(hn:s.size=(n:Int))(h4:¬ SA rs s)(h5:¬ Wj rs s)(sd:CG n rs s D0)(hr:r ∈ rs)(D:DB)(hd:fF D D0):zi n D r:=
 ⟨fun c hc k0=>by
  obtain ⟨a,p0,b1,b2⟩:=SD gI uu hn h4 h5 sd hr hc k0;obtain ⟨p,c1,_,c3⟩:=hd.get b1
  exact ⟨a,p,c1,by rw [c3];exact b2⟩,fun c hc=>(Bv (yE hg hr hc)).two,fun c hc=>(Bv (yE hg hr hc)).kinds,fun c hc=>(Bv (yE hg hr hc)).arity⟩
theorem Nn(N k:Nat):(replicate N false).getD k false=false:=by
 rw [getD_eq_getElem?_getD,getElem?_replicate];split<;>rfl
theorem uh(uu:dU s=true){r:Rel}(hr:r ∈ s.aY.l):s.aY.l.find? (eX r.name)=some r:=sX (nD uu) r hr
theorem Pt(uu:dU s=true)(h4:¬ SA rs s)(sd:CG n rs s D0):dA D0=xN n s:=by
 funext nm k;unfold xN
 cases hf:s.aY.l.find? (eX nm) with
 |some r=>
  have hr:=mem_of_find?_eq_some hf;have hn:=find?_some hf;simp only [eX,beq_iff_eq] at hn;obtain ⟨b,hb⟩:=sd.rel r hr;rw [hn] at hb;unfold dA;rw [hb]
 |none=>
  unfold dA
  cases hp:D0 nm with
  |none=>rfl
  |some p=>
   rcases sd.only nm p hp with hh|⟨r,hr,xz⟩
   ·obtain ⟨r,hr,xz⟩:=mem_map.1 hh;obtain ⟨b,hb⟩:=sd.head r hr;rw [xz,hp] at hb;cases hb;exact Nn _ _
   ·rw [find?_eq_none] at hf;exact absurd (hf r hr) (by simp [eX,xz])
theorem G1{rules:Sl aR}(iF:∀ r ∈ rules.l,r.kH)(hg:nK rules.l)(uu:dU s=true)(h4:¬ SA rules.l s)(h5:¬ Wj rules.l s){P A M S B lo k:Nat}{ks:List bQ}(hn:s.size=(n:Int))(n1:1<=n)(ov:n<=64)
  (ic:eL.dR (b7 rules.l) (eL.iter (b7 rules.l) k)) (sh:Pq n P A M S B lo rules ks (eL.iter (b7 rules.l) k) D0 m h) (sd:CG n rules.l s D0) {ng:FuncId} {na nb:List AV}
  (note:∀ (i:Int) (r:aR) (k:Int) (hd:Sl Int) (cs:Sl (Sl Int)) (ls:Sl Int) (y:AV) (h:ag) (K:Out->ag->Bool),(∀ h',bG h h'->K (.ret (.tuple [])) h'=true)->Sem TP ng (na++([.agg (bu i r k (an encI 1 hd) (an eu 1 cs) (an encI 1 ls)),y]++nb)) h K)
  (hK:∀ h' D' F,jZ rules.l n s F->dA D'=F->fF D' D0->Pq n P A M S B lo rules ks (eL.iter (b7 rules.l) k) D' m h'->(∀ b,b<lo->h'.get b=h.get b)->h.next<=h'.next->K (.ret (.tuple [])) h'=true) :
  Sem TP 46 [.ptr P 0,.ptr S 0,.func ng na nb] h K:=by
 obtain ⟨hP,hl,Jj,gI,⟨es,ck,hA,YU⟩,hS,hD,o1,o2,o3,o4,o5,o6⟩:=sh;have sF:=gZ gI;have jV:∀ nm p,D0 nm=some p->lo<=p.1:=fun nm p hp=>(hD.mc nm p hp).1
 have o:U3 S n D0 rules.l ng na nb:=
  ⟨n1,ov,iF,fun r hr=>(sF r hr).2.2,fun nm p hp=>by have:=jV nm p hp;omega,fun r hr D hd=>G0 hg gI uu hn h4 h5 sd hr D hd,fun r hr=>⟨(rZ hn h5 sd hr).1,mz (sF r hr).1,(rZ hn h5 sd hr).2⟩,note,hg.kH⟩
 refine Sf o hP (by omega) hl Jj (by omega) (fun r hr=>List.mem_map_of_mem hr) (Pr hg.kH (fun r hr=>(sF r hr).2.1) ic) hS (by omega) hD (fun nm p hp=>by have:=jV nm p hp;omega) fun h' D' T hT iK v8 oI mI oA=>?_;have eW:∀ b,b<lo->h'.get b=h.get b:=fun b hb=>mI b (by omega) fun nm p hp=>by have:=jV nm p hp;omega
 have hlen:qz n rules.l D0:=fun r hr p hp=>by
  obtain ⟨_,q,h1,h2⟩:=rZ hn h5 sd hr;rw [h1] at hp;cases hp;exact h2
 have vt:=(Ss n1 (yD ic) hlen (fun r hr=>by obtain ⟨_,q,h1,_⟩:=rZ hn h5 sd hr;exact ⟨q,h1⟩) iK).1;rw [Pt uu h4 sd] at vt;refine hK h' D' (dA D') ⟨k,T+1,ic,fun r hr=>by have:=hT r.name (List.mem_map_of_mem hr);omega,vt⟩ rfl v8 ⟨by rw [eW _ (by omega)];exact hP,hl.eW (eW _ (by omega)),Jj,gI,⟨es,ck,by rw [eW _ (by omega)];exact hA,YU⟩,by rw [eW _ (by omega)];exact hS,oI,by omega⟩ eW oA
theorem Pu{o:List bQ}{s:bQ}(h:o.Nodup):(Cq o s).Nodup:=by
 unfold Cq;split
 ·exact h
 ·rename_i hn;refine nodup_append.2 ⟨h,by simp,fun a ha b hb e=>?_⟩;rw [mem_singleton] at hb;subst hb;subst e;exact hn (List.any_eq_true.2 ⟨a,ha,beq_self_eq_true a⟩)
theorem Bw:∀ {l o:List bQ},o.Nodup->(fL o l).Nodup
 |[],o,h=>h
 |s :: l,o,h=>Bw (l:=l) (Pu h)
theorem pe(r:aR):(varsOf r).Nodup:=by rw [zX];exact Bw nodup_nil
theorem JC{x:Sl bQ}{s:bQ}(hn:x.l.Nodup)(hx:x.l.length<=cu)(hs:s ∈ x.l)(hK:K (.ret (.int .i64 ((x.l.idxOf s:Nat):Int))) h=true):Sem TP 58 [an encS 1 x,.str s] h K:=by
 refine dQ hx (fun i hi=>?_) fun pX=>absurd hs pX;have h1:x.l.idxOf s<x.l.length:=idxOf_lt_length_of_mem hs;have h2:x.l[x.l.idxOf s]?=some s:=by rw [ec h1,getElem_idxOf]
 rw [kV hn hi h2];exact hK
theorem xO{at_:Sl Int}(hn:all.l.Nodup)(yJ:all.l.length<=cu)(Bl:xs.l.length<=1000000)(mN:∀ s ∈ xs.l,s ∈ all.l)(u0:at_.l.length=all.l.length) :
  Sem TP 78 [an encS 1 all,an encS 1 xs,an encI 1 at_] ag.empty (fun o h'=>yes (∃ v,o = .ret v/\Fz false h' v (an encI 1 (some (aM at_.l (placesOf all.l xs.l)))))):=by
 have NV:xs.l.length<=cu:=by unfold cu;omega
 refine F.Cl ?_;rw [F.Ei];simp only [aS,reduceAdd,reduceEqDiff,reduceIte,uV Bl,bA];have g0:=aD ag.empty (.cells ((replicate xs.l.length (0:Int)).map iv));rw [bA] at g0;generalize ag.empty.alloc (.cells ((replicate xs.l.length (0:Int)).map iv))=H at g0 ⊢
 refine aG 0 xs.l.length (zero_le _) (fun i e h'=>∃ d:List Int,d.length=xs.l.length/\d.take i=(aM at_.l (placesOf all.l xs.l)).take i/\h'.get 0=some (.cells (d.map iv)) /\
  e 0=an encS 1 all/\e 1=an encS 1 xs/\e 2=an encI 1 at_/\e 7 = .slice 0 0 xs.l.length 1/\e 8 = .int .i64 (i:Int)) ⟨replicate xs.l.length 0,by simp,rfl,g0,rfl,rfl,rfl,rfl,rfl⟩ ?_ ?_
 ·rintro i e h' _ hi ⟨d,dl,dt,q0,e0,e1,e2,e7,e8⟩ K' wj hx hr hp;have hv:xs.l[i]?=some xs.l[i]:=ec hi;generalize xs.l[i]=s at hv;have QY:=mN s (iA hv);have hix:all.l.idxOf s<at_.l.length:=by rw [u0];exact idxOf_lt_length_of_mem QY
  have hw:at_.l[all.l.idxOf s]?=some (at_.l.getD (all.l.idxOf s) 0):=by rw [getD_eq_getElem?_getD,ec hix];rfl
  have UJ:(aM at_.l (placesOf all.l xs.l))[i]?=some (at_.l.getD (all.l.idxOf s) 0):=by unfold aM placesOf;rw [List.map_map,getElem?_map,hv];rfl
  rw [F.fC.aT];simp only [e0,e1,e2,e7,e8,aS,reduceAdd,reduceEqDiff,reduceIte,bl hi,aU xs hi,jz hv];refine aj (JC hn yJ QY ?_);simp only [aS,reduceAdd,reduceEqDiff,reduceIte,e2,e7,e8,aU at_ hix,fS hw,kF hi,pR q0 (show i<d.length by omega),aK hi NV];refine wj _ _ ⟨d.set i (at_.l.getD (all.l.idxOf s) 0),by simp [dl],?_,by rw [ag.aP,if_pos rfl],e0,e1,e2,e7,rfl⟩;rw [take_add_one,take_add_one,UJ,take_set_of_le (dK _),dt,getElem?_set,if_pos rfl,if_pos (by omega)]
 ·rintro e h' ⟨d,dl,dt,q0,e0,e1,e2,e7,e8⟩ K' hx;rw [F.fC.aT];simp only [e1,e8,aS,reduceAdd,reduceEqDiff,reduceIte,aX];rw [hx,F.fC.aJ];simp only [bg,reduceEqDiff,reduceIte,e7]
  have hd:d=aM at_.l (placesOf all.l xs.l):=by
   have h2:(aM at_.l (placesOf all.l xs.l)).length=xs.l.length:=by unfold aM placesOf;simp
   rw [kB (by omega),kB (by omega)] at dt;exact dt
  subst hd;refine cO.2 ⟨_,rfl,?_⟩;have:=og (old:=false) q0
  rwa [dl] at this
theorem fC{at_:Sl Int}(hn:all.l.Nodup)(yJ:all.l.length<=cu)(Bl:xs.l.length<=1000000)(mN:∀ s ∈ xs.l,s ∈ all.l)(u0:at_.l.length=all.l.length)
  (hK:K (.ret (an encI 1 (some (aM at_.l (placesOf all.l xs.l))))) h=true):Sem TP 78 [an encS 1 all,an encS 1 xs,an encI 1 at_] h K:=
 (xO hn yJ Bl mN u0).WV (kD.cons (.dP (bI jk _)) (kD.cons (.dP (bI jk _)) (kD.cons (.dP (bI jj _)) .nil))) fun o h' ho=>by
  obtain ⟨v,rfl,hf⟩:=cO.1 ho;exact ⟨_,_,rfl,hf,hK⟩
theorem r6{V:Nat}(hn:all.l.Nodup)(yJ:all.l.length<=cu)(Bl:xs.l.length<=1000000)(mN:∀ s ∈ xs.l,s ∈ all.l)(u0:vs.length=all.l.length)(hV:h.get V=some (.cells (vs.map iv)))
  (hK:K (.ret (an encI 1 (some (aM vs (placesOf all.l xs.l))))) h=true):Sem TP 78 [an encS 1 all,an encS 1 xs,.slice V 0 vs.length 1] h K:=
 (xO (at_:=some vs) hn yJ Bl mN u0).WV (kD.cons (.dP (bI jk _)) (kD.cons (.dP (bI jk _)) (kD.cons (og hV) .nil))) fun o h' ho=>by
  obtain ⟨v,rfl,hf⟩:=cO.1 ho;exact ⟨_,_,rfl,hf,hK⟩
theorem fV{n:Nat}(h1:1<=n){x:Sl Int}{k:Nat}(hk:x.l.length=k)(hx:k<=12)(hc:n ^ k<=4096)(hb:iJ n x.l=true){h:ag}{K:Out->ag->Bool}
  (hK:K (.ret (.int .i64 ((iy n x.l:Nat):Int))) h=true):Sem TP 77 [.int .i64 (n:Int),an encI 1 x] h K:=by
 subst hk;have j8:x.l.length<=cu:=by unfold cu;omega
 refine F.Gk ?_;rw [F.Ih];refine aG 0 x.l.length (zero_le _) (fun i e h'=>h'=h/\e 0 = .int .i64 (n:Int)/\e 5 = .int .i64 ((iy n (x.l.take i):Nat):Int)/\e 1=an encI 1 x/\e 6 = .int .i64 (i:Int)) ⟨rfl,rfl,rfl,rfl,rfl⟩ ?_ ?_
 ·rintro i e h' _ hi ⟨rfl,e0,e5,e1,e6⟩ K' hn iY hr hp;have hv:x.l[i]?=some x.l[i]:=ec hi;rw [F.fV.aT];simp only [e0,e1,e5,e6,aS,reduceAdd,reduceEqDiff,reduceIte,bl hi,aU x hi,fS hv,(pT hb h1 hc hv).1,(pT hb h1 hc hv).2,aK hi j8];exact hn _ _ ⟨rfl,e0,rfl,e1,rfl⟩
 ·rintro e h' ⟨rfl,e0,e5,e1,e6⟩ K' iY;rw [F.fV.aT];simp only [e1,e6,aS,reduceAdd,reduceEqDiff,reduceIte,aX];rw [iY,F.fV.aJ];simp only [e5,bg,reduceEqDiff,reduceIte];rw [kB (dK _)];exact hK
theorem vg(t:iV):AV.cN (jC t)=true:=by simp [jC,Cw,AV.cN,AV.pure,bI I2]
theorem Vt{x:Sl iV}{t:iV}(ht:x.l[j]?=some t):ah none (.dI (x.l.flatMap jC) (j*3)) h=some (.str t.name):=fE (enc:=jC) (fun _=>rfl) ht (by omega:0<3)
theorem Vu{x:Sl iV}{t:iV}(ht:x.l[j]?=some t):ah none (.dI (x.l.flatMap jC) (j*3+2)) h=some (an HE 1 (some t.bits)):=fE (enc:=jC) (fun _=>rfl) ht (by omega:2<3)
theorem SE{l:List Bool}{v:Bool}(hv:l[i]?=some v):ah none (.dI (l.flatMap HE) (i*1)) h=some (.bool v):=by
 rw [uH (enc:=HE) (fun _=>rfl) hv];rfl
theorem jy{n:Nat}(n1:1<=n){x:Sl iV}(Bl:x.l.length<=cu){nm:bQ}{t:Sl Int}{k:Nat}(z6:t.l.length=k)(hk:k<=12)(hc:n ^ k<=4096)(hb:iJ n t.l=true)(Vv:∀ q ∈ x.l,q.name=nm->q.bits.length=n ^ k){h:ag}{K:Out->ag->Bool}
  (hK:K (.ret (.bool (cA x.l nm (iy n t.l)))) h=true):Sem TP 120 [an jC 3 x,.int .i64 (n:Int),.str nm,an encI 1 t] h K:=by
 refine F.KI ?_;rw [F.MA];refine aG 0 x.l.length (zero_le _) (fun i e h'=>h'=h/\(∀ q ∈ x.l.take i,q.name≠nm)/\e 0=an jC 3 x/\e 1 = .int .i64 (n:Int)/\e 2 = .str nm/\e 3=an encI 1 t/\e 9 = .int .i64 (i:Int)) ⟨rfl,fun q hq=>(by cases hq),rfl,rfl,rfl,rfl,rfl⟩ ?_ ?_
 ·rintro i e h' _ hi ⟨rfl,pX,e0,e1,e2,e3,e9⟩ K' hn hx hr hp;have hv:x.l[i]?=some x.l[i]:=ec hi;generalize x.l[i]=q at hv;rw [F.jy.aT];simp only [e0,e1,e2,e3,e9,aS,reduceAdd,reduceEqDiff,reduceIte,bl hi,aU x hi,Vt hv,sR];by_cases hq:q.name=nm
  ·have hbl:=Vv q (iA hv) hq;have sj:iy n t.l<q.bits.length:=by have:=lX hb;rw [z6] at this;omega
   have oI:q.bits[iy n t.l]?=some (q.bits.getD (iy n t.l) false):=by rw [getD_eq_getElem?_getD,ec sj];rfl
   have BI:cA x.l nm (iy n t.l)=q.bits.getD (iy n t.l) false:=by
    have:x.l.find? (fun t=>t.name==nm)=some q:=by
     rw [find?_eq_some_iff_getElem];refine ⟨by simp [hq],i,hi,(oB.1 hv).2,fun j hj=>?_⟩;have hm:x.l[j]'(by omega) ∈ x.l.take i:=mem_take_iff_getElem.2 ⟨j,by omega,rfl⟩;have:=pX _ hm;simp [this]
    unfold cA;rw [this]
   have hlb:∀ hh,ah none (.dI (x.l.flatMap jC) (i*3+2)) hh=some (an HE 1 (some q.bits)):=fun hh=>Vu hv;simp only [ey hq,aF,hlb,aS,reduceAdd,reduceEqDiff,reduceIte];refine aj (fV n1 z6 hk hc hb ?_);simp only [aS,reduceAdd,reduceEqDiff,reduceIte,hlb,AV.beq_refl,Bool.and_self,Bool.and_true,if_true,aU (enc:=HE) (sz:=1) (some q.bits) (show iy n t.l<(Sl.l (some q.bits)).length from sj)];rw [show Sl.l (some q.bits)=q.bits from rfl];simp only [SE oI,aq];rw [hr,F.jy.bt];simp only [bg,reduceEqDiff,reduceIte];rw [<- BI];exact hK
  ·simp only [ep hq,aE,e9,aK hi Bl,aq];refine hn _ _ ⟨rfl,fun p vK=>?_,e0,e1,e2,e3,rfl⟩;rw [take_add_one,hv] at vK;rcases mem_append.1 vK with vK|vK
   ·exact pX p vK
   ·simp only [toList_some,mem_singleton] at vK;subst vK;exact hq
 ·rintro e h' ⟨rfl,pX,e0,e1,e2,e3,e9⟩ K' hx;rw [kB (dK _)] at pX;rw [F.jy.aT];simp only [e0,e9,aS,reduceAdd,reduceEqDiff,reduceIte,aX];rw [hx,F.jy.aJ]
  have:cA x.l nm (iy n t.l)=false:=by
   unfold cA
   have hf:x.l.find? (fun t=>t.name==nm)=none:=by
    rw [find?_eq_none];intro q hq;simp [pX q hq]
   rw [hf]
  rw [this] at hK;exact hK
structure kf (n:Nat) (r:aR) (ts:List iV):Prop where
 len:ts.length<=cu
 conds:∀ c ∈ r.body.l,ZX c
 rel:∀ c ∈ r.body.l,c.kind=0->n ^ c.args.l.length<=4096/\∀ q ∈ ts,q.name=c.name->q.bits.length=n ^ c.args.l.length
set_option maxHeartbeats 1000000 in
theorem dr{n:Nat}(n1:1<=n){r:aR}(hf:r.kH)(hk:(varsOf r).length<=12){all:Sl bQ}(fh:all.l=varsOf r){vs:Sl Int}(BH:mX n r vs.l){x:Sl iV}(hx:kf n r x.l){h:ag}{K:Out->ag->Bool}
  (hK:K (.ret (.bool (iz n (cA x.l) r vs.l))) h=true):Sem TP 65 [.agg (aO r),an encS 1 all,an encI 1 vs,an jC 3 x,.int .i64 (n:Int)] h K:=by
 refine Sem.data (r:=.bool (iz n (cA x.l) r vs.l)) ?_ (by simp [AV.cN,AV.pure,dW,bI jk,bI jj,bI vg]) hK;clear hK;have pH:r.body.l.length<=cu:=by have:=hf.2.1;unfold cu;omega
 refine F.A6 ?_;rw [F.Cm];simp only [cG (jJ r),aq,bA];have g0:(ag.empty.alloc (.cells (aO r))).get 0=some (.cells (aO r)):=aD _ _;have gn:(ag.empty.alloc (.cells (aO r))).next=1:=rfl
 generalize (ag.empty.alloc (.cells (aO r)))=H0 at g0 gn ⊢
 refine aG 0 r.body.l.length (zero_le _) (fun i e h'=>h'.get 0=some (.cells (aO r))/\1<=h'.next/\(r.body.l.take i).all (fun c=>dy n (cA x.l) c (aM vs.l (aQ r c)))=true /\
  e 1=an encS 1 all/\e 2=an encI 1 vs/\e 3=an jC 3 x/\e 4 = .int .i64 (n:Int)/\e 5 = .ptr 0 0/\e 11 = .int .i64 (i:Int)) ⟨g0,by omega,rfl,rfl,rfl,rfl,rfl,rfl,rfl⟩ ?_ ?_
 ·rintro i e h' _ hi ⟨q0,qn,ht,e1,e2,e3,e4,e5,jX⟩ K' hn iY hr hp;have hv:r.body.l[i]?=some r.body.l[i]:=ec hi;generalize r.body.l[i]=c at hv;have mu:=iA hv;have hcf:=hx.conds c mu;have lb:ah none (.ptr 0 2) h'=some (an bR 4 r.body):=by rw [ai q0];rfl
  obtain ⟨H,EM,g1,go,gn1⟩:=cR (h:=h') (zs:=[.int .i64 0,.bool false,.str [],.au]) (cs:=bR c) (n:=4) rfl rfl (gQ c);have la:ah none (.ptr h'.next 3) H=some (an encS 1 c.args):=by rw [ai g1];rfl
  have lk:ah none (.ptr h'.next 0) H=some (.int .i64 c.kind):=by rw [ai g1];rfl
  have ln:ah none (.ptr h'.next 2) H=some (.str c.name):=by rw [ai g1];rfl
  have lg:ah none (.ptr h'.next 1) H=some (.bool c.neg):=by rw [ai g1];rfl
  have p0:H.get 0=some (.cells (aO r)):=by rw [go 0 (by omega)];exact q0
  have nM:(aQ r c).length=c.args.l.length:=by unfold aQ placesOf;simp
  have mM:∀ p ∈ aQ r c,p<vs.l.length:=by rw [BH.1];exact hG (jm mu)
  have tI:=fM vs.l (aQ r c);have mN:=iD BH.2 mM
  have step:∀ (b:Bool) (e':Env),dy n (cA x.l) c (aM vs.l (aQ r c)) = !(b==c.neg)->e' 1=an encS 1 all->e' 2=an encI 1 vs->e' 3=an jC 3 x->e' 4 = .int .i64 (n:Int)->e' 5 = .ptr 0 0->e' 11 = .int .i64 ((i+1:Nat):Int)->b≠c.neg->K' .normal ⟨e',64,[],H⟩=true:=fun b e' AI e1 e2 e3 e4 e5 jX hb=>by
   refine hn _ _ ⟨p0,by omega,kj hv ht ?_,e1,e2,e3,e4,e5,jX⟩;rw [AI];simp [hb]
  have stop:∀ (b:Bool),dy n (cA x.l) c (aM vs.l (aQ r c)) = !(b==c.neg)->b=c.neg->iz n (cA x.l) r vs.l=false:=fun b AI hb=>by
   unfold iz;exact all_false hv (by rw [AI];simp [hb])
  rw [F.dr.aT];simp only [e1,e2,e5,jX,aS,reduceAdd,reduceEqDiff,reduceIte,lb,bl hi,aU r.body hi,cX gh hv,EM];simp only [aS,reduceAdd,reduceEqDiff,reduceIte,la];have we:=fun {K} hk=>fC (all:=all) (xs:=c.args) (at_:=vs) (h:=H) (K:=K) (by rw [fh];exact pe r) (by rw [fh];unfold cu;omega) (by have:=hcf.arity;omega) (by rw [fh];exact jm mu) (by rw [fh,BH.1]) hk;refine aj (we ?_);rw [show placesOf all.l c.args.l=aQ r c by rw [fh];rfl];simp only [aS,reduceAdd,reduceEqDiff,reduceIte,lk,ct];by_cases k0:c.kind=0
  ·obtain ⟨vZ,Vv⟩:=hx.rel c mu k0;simp only [ey k0,aF,aS,reduceAdd,reduceEqDiff,reduceIte,ln,e3,e4];refine aj (jy n1 hx.len (t:=some (aM vs.l (aQ r c))) (k:=c.args.l.length) (by show (aM vs.l (aQ r c)).length=_;rw [tI,nM]) hcf.arity vZ mN Vv ?_);rw [show Sl.l (some (aM vs.l (aQ r c)))=aM vs.l (aQ r c) from rfl];have AI:dy n (cA x.l) c (aM vs.l (aQ r c)) = !(cA x.l c.name (iy n (aM vs.l (aQ r c)))==c.neg):=by unfold dy;rw [if_pos k0];rfl
   simp only [aS,reduceAdd,reduceEqDiff,reduceIte,lg]
   cases hb:(cA x.l c.name (iy n (aM vs.l (aQ r c)))==c.neg) with
   |true=>
    simp only [aF];rw [hr,F.dr.bt];simp only [bg,reduceEqDiff,reduceIte];rw [stop _ AI (by simpa using hb)];exact c8 rfl
   |false=>
    simp only [aE,jX,aK hi pH,aq];exact step _ _ AI e1 e2 e3 e4 e5 rfl (by simpa using hb)
  ·have h2:(aM vs.l (aQ r c)).length=2:=by rw [tI,nM];exact hcf.two (hcf.kinds.resolve_left k0)
   have v0:(aM vs.l (aQ r c))[0]?=some ((aM vs.l (aQ r c)).getD 0 0):=by rw [getD_eq_getElem?_getD,ec (by omega:0<(aM vs.l (aQ r c)).length)];rfl
   have v1:(aM vs.l (aQ r c))[1]?=some ((aM vs.l (aQ r c)).getD 1 0):=by rw [getD_eq_getElem?_getD,ec (by omega:1<(aM vs.l (aQ r c)).length)];rfl
   have i0:dg 1 (an encI 1 (some (aM vs.l (aQ r c)))) (.int .i64 0)=some (.dI ((aM vs.l (aQ r c)).flatMap encI) (0*1)):=aU (enc:=encI) (sz:=1) (k:=.i64) (some (aM vs.l (aQ r c))) (i:=0) (by show 0<(aM vs.l (aQ r c)).length;omega);have i1:dg 1 (an encI 1 (some (aM vs.l (aQ r c)))) (.int .i64 1)=some (.dI ((aM vs.l (aQ r c)).flatMap encI) (1*1)):=aU (enc:=encI) (sz:=1) (k:=.i64) (some (aM vs.l (aQ r c))) (i:=1) (by show 1<(aM vs.l (aQ r c)).length;omega);have Tw:∀ hh,ah none (.dI ((aM vs.l (aQ r c)).flatMap encI) (0*1)) hh=some (.int .i64 ((aM vs.l (aQ r c)).getD 0 0)):=fun hh=>fS (x:=some (aM vs.l (aQ r c))) v0;have g1':∀ hh,ah none (.dI ((aM vs.l (aQ r c)).flatMap encI) (1*1)) hh=some (.int .i64 ((aM vs.l (aQ r c)).getD 1 0)):=fun hh=>fS (x:=some (aM vs.l (aQ r c))) v1;simp only [ep k0,aE];by_cases k1:c.kind=1
   ·have AI:dy n (cA x.l) c (aM vs.l (aQ r c)) = !(decide ((aM vs.l (aQ r c)).getD 0 0=(aM vs.l (aQ r c)).getD 1 0)==c.neg):=(by unfold dy;rw [if_neg k0,if_pos k1];rfl);simp only [ey k1,aF,i0,i1,Tw,g1',aS,reduceAdd,reduceEqDiff,reduceIte,lg,ct]
    cases hb:(decide ((aM vs.l (aQ r c)).getD 0 0=(aM vs.l (aQ r c)).getD 1 0)==c.neg) with
    |true=>
     simp only [aF];rw [hr,F.dr.bt];simp only [bg,reduceEqDiff,reduceIte];rw [stop _ AI (by simpa using hb)];exact c8 rfl
    |false=>
     simp only [aE,jX,aK hi pH,aq];exact step _ _ AI e1 e2 e3 e4 e5 rfl (by simpa using hb)
   ·have AI:dy n (cA x.l) c (aM vs.l (aQ r c)) = !(decide ((aM vs.l (aQ r c)).getD 0 0<(aM vs.l (aQ r c)).getD 1 0)==c.neg):=(by unfold dy;rw [if_neg k0,if_neg k1];rfl);simp only [ep k1,aE,i0,i1,Tw,g1',aS,reduceAdd,reduceEqDiff,reduceIte,lg]
    cases hb:(decide ((aM vs.l (aQ r c)).getD 0 0<(aM vs.l (aQ r c)).getD 1 0)==c.neg) with
    |true=>
     simp only [aF];rw [hr,F.dr.bt];simp only [bg,reduceEqDiff,reduceIte];rw [stop _ AI (by simpa using hb)];exact c8 rfl
    |false=>
     simp only [aE,jX,aK hi pH,aq];exact step _ _ AI e1 e2 e3 e4 e5 rfl (by simpa using hb)
 ·rintro e h' ⟨q0,qn,ht,e1,e2,e3,e4,e5,jX⟩ K' iY;rw [kB (dK _)] at ht;have lb:ah none (.ptr 0 2) h'=some (an bR 4 r.body):=by rw [ai q0];rfl
  rw [F.dr.aT];simp only [e5,jX,aS,reduceAdd,reduceEqDiff,reduceIte,lb,aX];rw [iY,F.dr.aJ];have:iz n (cA x.l) r vs.l=true:=ht;rw [this];exact c8 rfl
theorem Ad{n:Nat}(n1:1<=n)(m Q:Nat):∀ z,cU n (m+z) (Q*n ^ z)=cU n m Q++replicate z 0
 |0=>by simp
 |z+1=>by
  have h1:Q*n ^ (z+1)/n=Q*n ^ z:=by rw [Nat.pow_succ,<- Nat.mul_assoc,Nat.mul_div_cancel _ n1]
  have h2:Q*n ^ (z+1)%n=0:=by rw [Nat.pow_succ,<- Nat.mul_assoc,mul_mod_left]
  rw [<- Nat.add_assoc,cU,h1,h2,Ad n1 m Q z,append_assoc,replicate_succ'];rfl
theorem JD(n1:1<=n)(k:Nat):cU n k 0=replicate k 0:=by
 have:=Ad n1 0 0 k;simpa [cU] using this
theorem fK{V n k i:Nat}(n1:1<=n)(ov:n<=64)(hk:k<=12)(hi:i<n ^ k){h:ag}(hV:h.get V=some (.cells ((cU n k i).map iv))){K:Out->ag->Bool}
  (GF:i+1<n ^ k->∀ h',h'.get V=some (.cells ((cU n k (i+1)).map iv))->(∀ b,b≠V->h'.get b=h.get b)->h'.next=h.next->K (.ret (.bool true)) h'=true)
  (pX:i+1=n ^ k->∀ h',(∀ b,b≠V->h'.get b=h.get b)->h'.next=h.next->K (.ret (.bool false)) h'=true):Sem TP 76 [.slice V 0 k 1,.int .i64 (n:Int)] h K:=by
 have hl:∀ h,b6 .slice (.slice V 0 k 1) h=some (.int .i64 (k:Int)):=fun _=>rfl;have Ek:aL .sub (.int .i64 (k:Int)) (.int .i64 1)=some (.int .i64 ((k:Int)-1)):=EH (by omega) (by omega);refine F.Gj ?_;rw [F.Ig];simp only [hl,aq,Ek]
 refine nq (fun m e h'=>∃ q z,m+z=k/\h'.get V=some (.cells ((cU n m q++replicate z (0:Int)).map iv))/\i+1=(q+1)*n ^ z/\(∀ b,b≠V->h'.get b=h.get b)/\h'.next=h.next/\e 0 = .slice V 0 k 1/\e 1 = .int .i64 (n:Int)/\e 5 = .int .i64 ((m:Int)-1)) k
  ⟨i,0,rfl,by simpa using hV,by simp,fun _ _=>rfl,rfl,rfl,rfl,rfl⟩ ?_
 rintro m e h' ⟨q,z,hmz,hc,hq,mI,oA,e0,e1,e5⟩;rw [F.fK.aT]
 cases m with
 |zero=>
  simp only [e5,yj,aq,cF,ep (by omega:¬ (0:Int)<=((0:Nat):Int)-1),aE,uG];rw [F.fK.aJ];refine pX ?_ h' mI oA;rw [show z=k by omega] at hq;have:n ^ k<=(q+1)*n ^ k:=Nat.le_mul_of_pos_left _ (by omega);omega
 |succ m=>
  have e5':((m+1:Nat):Int)-1=(m:Int):=by omega
  rw [e5'] at e5;have hmk:m<k:=by omega
  have BF:(cU n (m+1) q++replicate z (0:Int)).length=k:=by rw [length_append,jA,length_replicate];omega
  have Un:cU n (m+1) q++replicate z (0:Int)=cU n m (q/n)++(((q%n:Nat):Int) :: replicate z 0):=by rw [cU,append_assoc];rfl
  have hv:(cU n (m+1) q++replicate z (0:Int))[m]?=some ((q%n:Nat):Int):=by
   rw [Un,getElem?_append_right (by rw [jA];exact dK _),jA,Nat.sub_self];rfl
  have nT:∀ v:Int,(cU n (m+1) q++replicate z (0:Int)).set m v=cU n m (q/n)++(v :: replicate z 0):=fun v=>by
   rw [Un,set_append_right _ _ (by rw [jA];exact dK _),jA,Nat.sub_self];rfl
  have aqd:q%n<n:=mod_lt _ n1;have xk:aL .add (.int .i64 ((q%n:Nat):Int)) (.int .i64 1)=some (.int .i64 ((q%n+1:Nat):Int)):=by rw [je (by omega) (by omega)];rfl
  have g1:(h'.set V (.cells (((cU n (m+1) q++replicate z (0:Int)).set m ((q%n+1:Nat):Int)).map iv))).get V=some (.cells (((cU n (m+1) q++replicate z (0:Int)).set m ((q%n+1:Nat):Int)).map iv)):=by rw [ag.aP,if_pos rfl]
  have RK:((cU n (m+1) q++replicate z (0:Int)).set m ((q%n+1:Nat):Int))[m]?=some ((q%n+1:Nat):Int):=by rw [getElem?_set,if_pos rfl,if_pos (by omega)]
  simp only [e0,e1,e5,aS,reduceAdd,reduceEqDiff,reduceIte,ey (by omega:(0:Int)<=(m:Int)),aF,kF hmk,oe hc hv,xk,pR hc (show m<(cU n (m+1) q++replicate z (0:Int)).length by omega),oe g1 RK];by_cases eM:q%n+1<n
  ·simp only [ey (by omega:((q%n+1:Nat):Int)<(n:Int)),aF,yg];rw [F.fK.bt];simp only [bg,reduceEqDiff,reduceIte];have Ae:=div_add_mod q n
   have hq1:(q+1)/n=q/n/\(q+1)%n=q%n+1:=by
    have h3:q+1=q%n+1+n*(q/n):=(by omega);rw [h3];exact ⟨by rw [add_mul_div_left _ _ n1,div_eq_of_lt eM,Nat.zero_add],by rw [add_mul_mod_self_left,mod_eq_of_lt eM]⟩
   have Vw:cU n k (i+1)=cU n m (q/n)++(((q%n+1:Nat):Int) :: replicate z 0):=by
    rw [hq,<- hmz,Ad n1,cU,hq1.1,hq1.2,append_assoc];rfl
   refine GF ?_ _ (by rw [ag.aP,if_pos rfl,nT,Vw]) (fun b hb=>by rw [ag.aP,if_neg hb];exact mI b hb) (by rw [ag.bq];exact oA);refine Nat.lt_of_le_of_ne hi fun he=>?_;rw [hq,<- hmz,Nat.pow_add] at he;have h4:q+1=n ^ (m+1):=eq_of_mul_eq_mul_right (Nat.pow_pos n1) he;have h5:(q+1)%n=0:=by rw [h4,Nat.pow_succ,mul_mod_left]
   omega
  ·have EM:aL .sub (.int .i64 (m:Int)) (.int .i64 1)=some (.int .i64 ((m:Int)-1)):=EH (by omega) (by omega);simp only [ep (by omega:¬ ((q%n+1:Nat):Int)<(n:Int)),aE,pR g1 (show m<((cU n (m+1) q++replicate z (0:Int)).set m ((q%n+1:Nat):Int)).length by rw [length_set];omega),EM,aq,e5];have Ae:=div_add_mod q n;refine cO.2 ⟨m,by omega,rfl,rfl,q/n,z+1,by omega,?_,?_,fun b hb=>?_,?_,e0,e1,rfl⟩
   ·rw [ag.aP,if_pos rfl,set_set,nT];rfl
   ·have h3:q+1=(q/n+1)*n:=(by rw [succ_mul,Nat.mul_comm];omega);rw [hq,h3,Nat.pow_succ,Nat.mul_assoc,Nat.mul_comm n]
   ·simp only [ag.aP,if_neg hb];exact mI b hb
   ·simp only [ag.bq];exact oA
structure dX where
 name:bQ
 k:Nat
 mc:Nat
 bits:List Bool
def nh(t:dX):List AV:=[.str t.name,.int .i64 (t.k:Int),.slice t.mc 0 t.bits.length 1]
theorem Dy(t:dX):(nh t).length=3:=rfl
theorem No(t:dX):bE (nh t)=true:=rfl
def c7(t:dX):iV:=⟨t.name,t.k,t.bits⟩
structure fN (k0:Nat) (h:ag) (a:AV) (ts:List dX):Prop where
 own:Own nh 3 k0 h a ts
 cell:∀ t ∈ ts,k0<=t.mc/\t.mc<h.next/\eP a≠some t.mc/\h.get t.mc=some (.cells (t.bits.map bv))
 inj:∀ (i j:Nat) (s t:dX),ts[i]?=some s->ts[j]?=some t->s.mc=t.mc->i=j
theorem fN.eW{ts:List dX}(t:fN k0 h a ts)(hb:∀ b,k0<=b->b<h.next->h'.get b=h.get b)(hn:h.next<=h'.next):fN k0 h' a ts:=
 ⟨t.own.agree (fun b e=>hb b (t.own.ge e) (t.own.lt e)) hn,fun q hq=>by
  obtain ⟨h1,h2,h3,h4⟩:=t.cell q hq
  exact ⟨h1,by omega,h3,by rw [hb _ h1 h2];exact h4⟩,t.inj⟩
theorem fN.ext{ts:List dX}(t:fN k0 h a ts)(hx:bG h h'):fN k0 h' a ts:=t.eW (fun b _ b2=>hx.get b b2) hx.next
theorem fN.Am{ts:List dX}(t:fN k0 h a ts):∃ x:Sl iV,x.l=ts.map c7/\Fz true h a (an jC 3 x):=by
 obtain ⟨o,hc,_⟩:=t
 cases o with
 |nil=>exact ⟨none,rfl,.scalar _ rfl⟩
 |row b ts h1 h2 h3=>
  refine ⟨some (ts.map c7),rfl,?_⟩
  have key:∀ l:List dX,(∀ t ∈ l,h.get t.mc=some (.cells (t.bits.map bv)))->kD true h (l.flatMap nh) ((l.map c7).flatMap jC):=by
   intro l
   induction l with
   |nil=>intro _;exact .nil
   |cons t l ih=>
    intro hl;rw [flatMap_cons,map_cons,flatMap_cons];exact kD.append (kD.cons (.scalar _ rfl) (kD.cons (.scalar _ rfl) (kD.cons (M6 (hl t mem_cons_self)) .nil))) (ih fun q hq=>hl q (mem_cons_of_mem _ hq))
  have fl:=key ts fun t ht=>(hc t ht).2.2.2;have:an jC 3 (some (ts.map c7)) = .ay ((ts.map c7).flatMap jC) 0 ts.length 3:=by simp only [an,length_map]
  rw [this];exact .slice b 0 ts.length 3 _ _ h3 fl.len fl.rel
def dX.put(t:dX)(i:Nat):dX:=⟨t.name,t.k,t.mc,t.bits.set i true⟩
theorem Np{α:Type}{enc:α->List AV}:∀ {l:List α} {j:Nat} {t t':α},l[j]?=some t->enc t'=enc t->(l.set j t').flatMap enc=l.flatMap enc
 |[],j,t,t',h,_=>by simp at h
 |q :: l,0,t,t',h,e=>by simp at h;subst h;simp [e]
 |q :: l,j+1,t,t',h,e=>by
  rw [getElem?_cons_succ] at h;rw [set_cons_succ,flatMap_cons,flatMap_cons,Np h e]
theorem fN.put{k0:Nat}{h:ag}{a:AV}{ts:List dX}(t:fN k0 h a ts){j:Nat}{q:dX}(hq:ts[j]?=some q)(i:Nat):fN k0 (h.set q.mc (.cells ((q.bits.set i true).map bv))) a (ts.set j (q.put i)):=by
 have Pv:=iA hq;obtain ⟨c1,c2,c3,c4⟩:=t.cell q Pv;have hj:=(oB.1 hq).1;refine ⟨?_,fun p hp=>?_,fun x y s u hx hy hb=>?_⟩
 ·have o:=t.own;have he:nh (q.put i)=nh q:=by simp [nh,dX.put]
  generalize Iw:ts.set j (q.put i)=nQ;have Rv:nQ.flatMap nh=ts.flatMap nh:=by rw [<- Iw];exact Np hq he
  have hlen:nQ.length=ts.length:=by rw [<- Iw,length_set]
  cases o with
  |nil=>simp at hj
  |row b ts h1 h2 h3=>
   rw [<- hlen];refine .row b nQ h1 (by rw [ag.bq];exact h2) ?_;rw [ag.aP,if_neg (fun e=>c3 (by rw [<- e];rfl)),h3,Rv]
 ·obtain ⟨x,hx⟩:=mem_iff_getElem?.1 hp;rw [getElem?_set] at hx;by_cases e:j=x
  ·rw [if_pos e,if_pos (by omega)] at hx;cases hx;exact ⟨c1,by rw [ag.bq];exact c2,c3,by rw [ag.aP];exact if_pos rfl⟩
  ·rw [if_neg e] at hx;obtain ⟨d1,d2,d3,d4⟩:=t.cell p (iA hx);exact ⟨d1,by rw [ag.bq];exact d2,d3,by rw [ag.aP,if_neg (fun e'=>e (t.inj j x q p hq hx e'.symm))];exact d4⟩
 ·have key:∀ (x:Nat) (s:dX),(ts.set j (q.put i))[x]?=some s->∃ s',ts[x]?=some s'/\s'.mc=s.mc:=fun x s hx=>by
   rw [getElem?_set] at hx;by_cases e:j=x
   ·rw [if_pos e,if_pos (by omega)] at hx;cases hx;exact ⟨q,by rw [<- e];exact hq,rfl⟩
   ·rw [if_neg e] at hx;exact ⟨s,hx,rfl⟩
  obtain ⟨s',a1,a2⟩:=key x s hx;obtain ⟨u',b1,b2⟩:=key y u hy;exact t.inj x y s' u' a1 b1 (by rw [a2,b2,hb])
theorem SF(ts:List dX)(j:Nat)(q:dX):(ts.set j q).map c7=(ts.map c7).set j (c7 q):=by rw [map_set]
def dX.shape(t:dX):bQ×Nat×Nat×Nat:=(t.name,t.k,t.mc,t.bits.length)
theorem SG{ts:List dX}{q:dX}(hq:ts[j]?=some q)(i:Nat):(ts.set j (q.put i)).map dX.shape=ts.map dX.shape:=by
 rw [map_set];refine ext_getElem? fun x=>?_;rw [getElem?_set];by_cases e:j=x
 ·have hj:=(oB.1 hq).1;rw [if_pos e,if_pos (by rw [length_map];omega),getElem?_map,<- e,hq];simp [dX.shape,dX.put]
 ·rw [if_neg e]
theorem CH{ts nQ:List dX}(h:nQ.map dX.shape=ts.map dX.shape){q:dX}(hq:q ∈ nQ):∃ p ∈ ts,p.shape=q.shape:=by
 have:q.shape ∈ nQ.map dX.shape:=List.mem_map_of_mem hq;rw [h] at this;obtain ⟨p,hp,e⟩:=mem_map.1 this;exact ⟨p,hp,e⟩
theorem SH{ts nQ:List dX}(h:nQ.map dX.shape=ts.map dX.shape){q:dX}(hq:ts[j]?=some q):∃ p,nQ[j]?=some p/\p.shape=q.shape:=by
 have h1:(nQ.map dX.shape)[j]?=some q.shape:=by rw [h,getElem?_map,hq];rfl
 rw [getElem?_map] at h1;obtain ⟨p,h2,h3⟩:=map_eq_some_iff.1 h1;exact ⟨p,h2,h3⟩
theorem JE{ts nQ:List dX}(h:nQ.map dX.shape=ts.map dX.shape):nQ.length=ts.length:=by have:=congrArg List.length h;simpa using this
theorem kf.shape{n:Nat}{r:aR}{ts nQ:List dX}(f:kf n r (ts.map c7))(h:nQ.map dX.shape=ts.map dX.shape):kf n r (nQ.map c7):=
 ⟨by have:=f.len;rw [length_map] at this ⊢;rw [JE h];exact this,f.conds,fun c hc k0=>by
  obtain ⟨h1,h2⟩:=f.rel c hc k0;refine ⟨h1,fun q hq hn=>?_⟩;obtain ⟨t,ht,rfl⟩:=mem_map.1 hq;obtain ⟨p,hp,e⟩:=CH h ht;unfold dX.shape at e;simp only [Prod.mk.injEq] at e;have:=h2 (c7 p) (List.mem_map_of_mem hp) (by show p.name=_;rw [e.1];exact hn);show t.bits.length=_
  rw [<- e.2.2.2];exact this⟩
theorem En(n1:1<=n)(hf:r.kH)(hk:(varsOf r).length<=12)(fh:all.l=varsOf r)(BH:mX n r vs){ts:List dX}(ht:fN k0 h a ts)(hx:kf n r (ts.map c7)){V:Nat}(hV:h.get V=some (.cells (vs.map iv)))
  (hK:K (.ret (.bool (iz n (cA (ts.map c7)) r vs))) h=true):Sem TP 65 [.agg (aO r),an encS 1 all,.slice V 0 vs.length 1,a,.int .i64 (n:Int)] h K:=by
 obtain ⟨x,jG,iu⟩:=ht.Am;have Bx:kf n r x.l:=by rw [jG];exact hx
 have hs:=dr n1 hf hk fh (vs:=some vs) BH Bx (h:=ag.empty) (K:=qm (.bool (iz n (cA x.l) r vs))) (c8 rfl);have BI:cA x.l=cA (ts.map c7):=by rw [jG]
 rw [<- BI] at hK;exact Sem.MH rfl hs (kD.cons (.dP (by simpa [AV.pure] using dW r)) (kD.cons (.dP (bI jk _)) (kD.cons (og hV) (kD.cons iu (kD.cons (.scalar _ rfl) .nil))))) hK
theorem Dz{n:Nat}{r:aR}{j:Nat}:∀ (m:Nat) (ts:List iV) (f:Bool),gu n r j m (ts,f)=((gu n r j m (ts,false)).1,f||(gu n r j m (ts,false)).2)
 |0,ts,f=>by simp [gu]
 |m+1,ts,f=>by
  rw [xK,xK,Dz m ts f];generalize gu n r j m (ts,false)=s;obtain ⟨u,g⟩:=s;unfold Hv;simp only
  cases u[j]? with
  |none=>rfl
  |some t=>
   simp only;split
   ·rfl
   ·split
    ·simp
    ·rfl
theorem ZY(t:dX){ts:List dX}(hA:fN k0 h a ts)(hj:ts[j]?=some t):∃ b,b<h.next/\dg 3 a (.int .i64 (j:Int))=some (.ptr b (j*3))/\ah none (.ptr b (j*3+2)) h=some (.slice t.mc 0 t.bits.length 1):=by
 obtain ⟨b,_,h2,h3,_,h5⟩:=hA.own.get Dy hj;exact ⟨b,h2,h3 .i64,by rw [h5 2 (by omega)];rfl⟩
set_option maxHeartbeats 2000000 in
theorem gO{n:Nat}(n1:1<=n)(ov:n<=64){r:aR}(hf:r.kH)(hk:(varsOf r).length<=12)(Cp:r.args.l.length<=12)(vZ:n ^ r.args.l.length<=4096){k0:Nat}{a:AV}{ts:List dX}{h:ag}(hA:fN k0 h a ts)(hx:kf n r (ts.map c7)){j:Nat}{t0:dX}(hj:ts[j]?=some t0)(ZZ:t0.bits.length=n ^ r.args.l.length){K:Out->ag->Bool}
  (hK:∀ h' nQ,(nQ.map c7,(gu n r j (n ^ (varsOf r).length) (ts.map c7,false)).2)=gu n r j (n ^ (varsOf r).length) (ts.map c7,false)->nQ.map dX.shape=ts.map dX.shape->fN k0 h' a nQ->(∀ b,b<h.next->(∀ t ∈ ts,b≠t.mc)->h'.get b=h.get b)->h.next<=h'.next ->
   K (.ret (.bool (gu n r j (n ^ (varsOf r).length) (ts.map c7,false)).2)) h'=true) :
  Sem TP 59 [.agg (aO r),a,.int .i64 (j:Int),.int .i64 (n:Int)] h K:=by
 refine F.Eh ?_;rw [F.Gi];simp only [cG (jJ r),aq];have g0:(h.alloc (.cells (aO r))).get h.next=some (.cells (aO r)):=aD _ _
 have gx:bG h (h.alloc (.cells (aO r))):=bG.alloc _ _;have gn:(h.alloc (.cells (aO r))).next=h.next+1:=rfl
 generalize (h.alloc (.cells (aO r)))=H0 at g0 gx gn ⊢;simp only [ai g0,aO,om,aq];refine aj (bU hf fun x jG=>?_);have Bl:x.l.length<=1000000:=by rw [jG];omega
 simp only [aS,reduceAdd,reduceEqDiff,reduceIte,uV Bl];have gV:(H0.alloc (.cells ((replicate x.l.length (0:Int)).map iv))).get H0.next=some (.cells ((replicate x.l.length (0:Int)).map iv)):=aD _ _
 have xV:bG H0 (H0.alloc (.cells ((replicate x.l.length (0:Int)).map iv))):=bG.alloc _ _;have nV:(H0.alloc (.cells ((replicate x.l.length (0:Int)).map iv))).next=H0.next+1:=rfl
 generalize (H0.alloc (.cells ((replicate x.l.length (0:Int)).map iv)))=H1 at gV xV nV ⊢;rw [jG] at gV ⊢;rw [gn] at gV nV;have xx:=gx.trans xV;have YV:0<n ^ (varsOf r).length:=Nat.pow_pos n1
 refine nq (fun m e h'=>∃ (i:Nat) (nQ:List dX) (fl:Bool),m=n ^ (varsOf r).length-i/\i<n ^ (varsOf r).length/\(nQ.map c7,fl)=gu n r j i (ts.map c7,false)/\nQ.map dX.shape=ts.map dX.shape/\fN k0 h' a nQ /\
   h'.get h.next=some (.cells (aO r))/\h'.get (h.next+1)=some (.cells ((cU n (varsOf r).length i).map iv))/\(∀ b,b<h.next->(∀ t ∈ ts,b≠t.mc)->h'.get b=h.get b)/\h.next+2<=h'.next /\
   e 1=a/\e 2 = .int .i64 (j:Int)/\e 3 = .int .i64 (n:Int)/\e 4 = .ptr h.next 0/\e 9=an encS 1 x/\e 10 = .slice (h.next+1) 0 (varsOf r).length 1/\e 11 = .bool fl) (n ^ (varsOf r).length)
  ⟨0,ts,false,rfl,YV,rfl,rfl,hA.ext xx,by rw [xV.get _ (by omega)];exact g0,by rw [JD n1];exact gV,fun b hb _=>xx.get b hb,by omega,rfl,rfl,rfl,rfl,rfl,by rw [gn];rfl,rfl⟩ ?_
 rintro m e h' ⟨i,nQ,fl,hm,hi,ic,QZ,Wk,q0,qV,mI,oA,e1,e2,e3,e4,e9,jH,jX⟩;have ha:mX n r (cU n (varsOf r).length i):=xL n1 hi;obtain ⟨t,htj,Iw⟩:=SH QZ hj;unfold dX.shape at Iw;simp only [Prod.mk.injEq] at Iw;have z6:t.bits.length=n ^ r.args.l.length:=by rw [Iw.2.2.2,ZZ]
 have sj:=GW ha;have YW:jb n r (cU n (varsOf r).length i)<t.bits.length:=by rw [z6];exact sj
 obtain ⟨ba,hba,ia,la⟩:=ZY t Wk htj;obtain ⟨c1,c2,c3,c4⟩:=Wk.cell t (iA htj);have oI:t.bits[jb n r (cU n (varsOf r).length i)]?=some (t.bits.getD (jb n r (cU n (varsOf r).length i)) false):=by rw [getD_eq_getElem?_getD,ec YW];rfl
 have l4:ah none (.ptr h.next 1) h'=some (an encS 1 r.args):=by rw [ai q0];rfl
 have lr:ah (some 3) (.ptr h.next 0) h'=some (.agg (aO r)):=by rw [ai q0];simp only [aO,om]
 have nM:(placesOf (varsOf r) r.args.l).length=r.args.l.length:=by unfold placesOf;simp
 have mM:∀ p ∈ placesOf (varsOf r) r.args.l,p<(cU n (varsOf r).length i).length:=by rw [ha.1];exact hG jl
 have tI:=fM (cU n (varsOf r).length i) (placesOf (varsOf r) r.args.l);have mN:=iD ha.2 mM;have YX:(cU n (varsOf r).length i).length=(varsOf r).length:=jA _ _ _;have we:=fun {K} hk=>r6 (all:=x) (xs:=r.args) (vs:=cU n (varsOf r).length i) (V:=h.next+1) (h:=h') (K:=K) (by rw [jG];exact pe r) (by unfold cu;omega) (by omega) (by rw [jG];exact jl) (by rw [jG];exact YX) qV hk;rw [YX] at we;have OJ:∀ (Ix:List dX) (f2:Bool),(Ix.map c7,f2)=Hv n r j (cU n (varsOf r).length i) (nQ.map c7,fl)->(Ix.map c7,f2)=gu n r j (i+1) (ts.map c7,false):=fun Ix f2 h2=>by rw [xK,<- ic];exact h2
 have G2:Hv n r j (cU n (varsOf r).length i) (nQ.map c7,fl)=if t.bits.getD (jb n r (cU n (varsOf r).length i)) false=true then (nQ.map c7,fl) else if iz n (cA (nQ.map c7)) r (cU n (varsOf r).length i)=true then ((nQ.map c7).set j ⟨t.name,t.k,t.bits.set (jb n r (cU n (varsOf r).length i)) true⟩,true) else (nQ.map c7,fl):=by
  unfold Hv;have:(nQ.map c7)[j]?=some (c7 t):=by rw [getElem?_map,htj];rfl
  simp only [this];rfl
 have adv:∀ (h2:ag) (Ix:List dX) (f2:Bool) (e':Env) (R:Out->ag->Bool),(Ix.map c7,f2)=Hv n r j (cU n (varsOf r).length i) (nQ.map c7,fl)->Ix.map dX.shape=ts.map dX.shape->fN k0 h2 a Ix->h2.get h.next=some (.cells (aO r))->h2.get (h.next+1)=some (.cells ((cU n (varsOf r).length i).map iv)) ->
   (∀ b,b<h.next->(∀ t ∈ ts,b≠t.mc)->h2.get b=h.get b)->h.next+2<=h2.next ->
   (∀ (h3:ag) (i':Nat),i+1<n ^ (varsOf r).length->h3.get (h.next+1)=some (.cells ((cU n (varsOf r).length (i+1)).map iv))->(∀ b,b≠h.next+1->h3.get b=h2.get b)->h3.next=h2.next->R (.ret (.bool true)) h3=true) ->
   (∀ (h3:ag),i+1=n ^ (varsOf r).length->(∀ b,b≠h.next+1->h3.get b=h2.get b)->h3.next=h2.next->R (.ret (.bool false)) h3=true) ->
   aA TP 76 [.slice (h.next+1) 0 (varsOf r).length 1,.int .i64 (n:Int)] h2 R=true:=fun h2 Ix f2 e' R _ _ _ _ w1 _ _ hy hn=>aj (fK n1 ov hk hi w1 (fun p h3 a1 a2 a3=>hy h3 0 p a1 a2 a3) fun p h3 a2 a3=>hn h3 p a2 a3)
 have Ra:∀ {h2 h3:ag} {Ix:List dX},Ix.map dX.shape=ts.map dX.shape->fN k0 h2 a Ix->(∀ b,b≠h.next+1->h3.get b=h2.get b)->h3.next=h2.next->fN k0 h3 a Ix:=fun {h2 h3 Ix} qX Pw hb hn=>by
  have lF:∀ q ∈ Ix,q.mc≠h.next+1:=fun q hq=>by
   obtain ⟨p,hp,e⟩:=CH qX hq;unfold dX.shape at e;simp only [Prod.mk.injEq] at e;have:=(hA.cell p hp).2.1;omega
  have hbl:∀ b,eP a=some b->b≠h.next+1:=fun b e=>by have:=hA.own.lt e;omega
  exact ⟨Pw.own.agree (fun b e=>hb b (hbl b e)) (by omega),fun q hq=>by
   obtain ⟨d1,d2,d3,d4⟩:=Pw.cell q hq
   exact ⟨d1,by omega,d3,by rw [hb _ (lF q hq)];exact d4⟩,Pw.inj⟩
 have fin:∀ (h2 h3:ag) (Ix:List dX) (f2:Bool),(Ix.map c7,f2)=Hv n r j (cU n (varsOf r).length i) (nQ.map c7,fl)->Ix.map dX.shape=ts.map dX.shape->fN k0 h2 a Ix->(∀ b,b<h.next->(∀ t ∈ ts,b≠t.mc)->h2.get b=h.get b)->h.next+2<=h2.next ->
   i+1=n ^ (varsOf r).length->(∀ b,b≠h.next+1->h3.get b=h2.get b)->h3.next=h2.next->K (.ret (.bool f2)) h3=true:=fun h2 h3 Ix f2 hd qX Pw WD qM Bk hb hn=>by
  have h5:=OJ Ix f2 hd;rw [Bk] at h5;have h6:=hK h3 Ix (by rw [<- h5]) qX (Ra qX Pw hb hn) (fun b b1 b2=>by rw [hb b (by omega)];exact WD b b1 b2) (by omega);rw [<- h5] at h6;exact h6
 rw [F.gO.aT];simp only [e1,e2,e3,e4,e9,jH,aS,reduceAdd,reduceEqDiff,reduceIte,l4];refine aj (we ?_);rw [jG];simp only [aS,reduceAdd,reduceEqDiff,reduceIte,e3];refine aj (fV n1 (x:=some (aM (cU n (varsOf r).length i) (placesOf (varsOf r) r.args.l))) (k:=r.args.l.length) (by show (aM (cU n (varsOf r).length i) (placesOf (varsOf r) r.args.l)).length=_;rw [tI,nM]) Cp vZ mN ?_);rw [show iy n (Sl.l (some (aM (cU n (varsOf r).length i) (placesOf (varsOf r) r.args.l))))=jb n r (cU n (varsOf r).length i) from rfl];simp only [aS,reduceAdd,reduceEqDiff,reduceIte,e1,e2,ia,la,kF YW,Bg c4 oI]
 cases hb:t.bits.getD (jb n r (cU n (varsOf r).length i)) false with
 |true=>
  rw [hb,if_pos rfl] at G2;simp only [Bool.not_true,aE,e3,jH];refine adv h' nQ fl e _ G2.symm QZ Wk q0 qV mI oA (fun h3 i' eM a1 a2 a3=>?_) fun h3 Bk a2 a3=>?_
  ·simp only [aS,reduceAdd,reduceEqDiff,reduceIte,Bool.not_true,aE];refine cO.2 ⟨n ^ (varsOf r).length-(i+1),by omega,rfl,rfl,i+1,nQ,fl,rfl,eM,OJ _ _ G2.symm,QZ,Ra QZ Wk a2 a3,by rw [a2 _ (by omega)];exact q0,a1,fun b b1 b2=>by rw [a2 b (by omega)];exact mI b b1 b2,by show h.next+2<=h3.next;omega,e1,e2,e3,e4,e9,jH,jX⟩
  ·simp only [aS,reduceAdd,reduceEqDiff,reduceIte,Bool.not_false,aF,yg];rw [F.gO.bt];simp only [bg,reduceEqDiff,reduceIte,jX];exact fin h' h3 nQ fl G2.symm QZ Wk mI oA Bk a2 a3
 |false=>
  rw [hb,if_neg (by simp)] at G2;simp only [Bool.not_false,aF,aS,reduceAdd,reduceEqDiff,reduceIte,lr,e1,e3,e9,jH];have gd:=fun {K} hk=>En n1 hf hk jG ha Wk (hx.shape QZ) qV (h:=h') (K:=K);rw [YX] at gd;refine aj (gd hk ?_);simp only [aS,reduceAdd,reduceEqDiff,reduceIte]
  cases Wl:iz n (cA (nQ.map c7)) r (cU n (varsOf r).length i) with
  |false=>
   rw [Wl,if_neg (by simp)] at G2;simp only [aE,e3,jH];refine adv h' nQ fl e _ G2.symm QZ Wk q0 qV mI oA (fun h3 i' eM a1 a2 a3=>?_) fun h3 Bk a2 a3=>?_
   ·simp only [aS,reduceAdd,reduceEqDiff,reduceIte,Bool.not_true,aE];refine cO.2 ⟨n ^ (varsOf r).length-(i+1),by omega,rfl,rfl,i+1,nQ,fl,rfl,eM,OJ _ _ G2.symm,QZ,Ra QZ Wk a2 a3,by rw [a2 _ (by omega)];exact q0,a1,fun b b1 b2=>by rw [a2 b (by omega)];exact mI b b1 b2,by show h.next+2<=h3.next;omega,e1,e2,e3,e4,e9,jH,jX⟩
   ·simp only [aS,reduceAdd,reduceEqDiff,reduceIte,Bool.not_false,aF,yg];rw [F.gO.bt];simp only [bg,reduceEqDiff,reduceIte,jX];exact fin h' h3 nQ fl G2.symm QZ Wk mI oA Bk a2 a3
  |true=>
   rw [Wl,if_pos rfl] at G2;have YY:=xo (v:=true) c4 YW;have RP:=Wk.put htj (jb n r (cU n (varsOf r).length i));have si:(nQ.set j (t.put (jb n r (cU n (varsOf r).length i)))).map dX.shape=ts.map dX.shape:=by rw [SG htj,QZ]
   have hd2:((nQ.set j (t.put (jb n r (cU n (varsOf r).length i)))).map c7,true)=Hv n r j (cU n (varsOf r).length i) (nQ.map c7,fl):=by rw [G2,SF];rfl
   have hbk:t.mc<h.next:=by
    obtain ⟨_,d2,_,_⟩:=hA.cell t0 (iA hj);rw [Iw.2.2.1];exact d2
   simp only [aF,aS,reduceAdd,reduceEqDiff,reduceIte,e1,e2,ia,la,kF YW,YY,e3,jH];have w0:(h'.set t.mc (.cells ((t.bits.set (jb n r (cU n (varsOf r).length i)) true).map bv))).get h.next=some (.cells (aO r)):=by rw [ag.aP,if_neg (by omega)];exact q0
   have w1:(h'.set t.mc (.cells ((t.bits.set (jb n r (cU n (varsOf r).length i)) true).map bv))).get (h.next+1)=some (.cells ((cU n (varsOf r).length i).map iv)):=by rw [ag.aP,if_neg (by omega)];exact qV
   have wf:∀ b,b<h.next->(∀ t ∈ ts,b≠t.mc)->(h'.set t.mc (.cells ((t.bits.set (jb n r (cU n (varsOf r).length i)) true).map bv))).get b=h.get b:=fun b b1 b2=>by
    rw [ag.aP,if_neg (by rw [Iw.2.2.1];exact b2 t0 (iA hj))];exact mI b b1 b2
   have wn:(h'.set t.mc (.cells ((t.bits.set (jb n r (cU n (varsOf r).length i)) true).map bv))).next=h'.next:=ag.bq _ _ _
   generalize (h'.set t.mc (.cells ((t.bits.set (jb n r (cU n (varsOf r).length i)) true).map bv)))=H2 at RP w0 w1 wf wn ⊢;refine adv H2 _ true e _ hd2 si RP w0 w1 wf (by omega) (fun h3 i' eM a1 a2 a3=>?_) fun h3 Bk a2 a3=>?_
   ·simp only [aS,reduceAdd,reduceEqDiff,reduceIte,Bool.not_true,aE];refine cO.2 ⟨n ^ (varsOf r).length-(i+1),by omega,rfl,rfl,i+1,_,true,rfl,eM,OJ _ _ hd2,si,Ra si RP a2 a3,by rw [a2 _ (by omega)];exact w0,a1,fun b b1 b2=>by rw [a2 b (by omega)];exact wf b b1 b2,by show h.next+2<=h3.next;omega,e1,e2,e3,e4,e9,jH,rfl⟩
   ·simp only [aS,reduceAdd,reduceEqDiff,reduceIte,Bool.not_false,aF,yg];rw [F.gO.bt];simp only [bg,reduceEqDiff,reduceIte];exact fin H2 h3 _ true hd2 si RP wf (by omega) Bk a2 a3
def wg(n:Nat)(F:Lk)(nm:bQ)(k i:Nat):List (List Int):=((List.range i).filter (F nm)).map (cU n k)
theorem SI(n:Nat)(F:Lk)(nm:bQ)(k i:Nat):wg n F nm k (i+1)=wg n F nm k i++if F nm i=true then [cU n k i] else []:=by
 unfold wg;rw [range_succ,filter_append,map_append];by_cases h:F nm i=true<;>simp [h]
theorem Vx(n:Nat)(F:Lk)(nm:bQ)(k i:Nat):(wg n F nm k i).length<=i:=by
 unfold wg;rw [length_map];have:=length_filter_le (F nm) (List.range i);simpa using this
def r7(rs:List aR)(n:Nat)(F:Lk)(Z0:List bQ):List (bQ×Int×List (List Int)):=Z0.map fun nm=>(nm,(jq rs nm:Int),wg n F nm (jq rs nm) (n ^ jq rs nm))
def By(rs:List aR)(s:eG)(e:Int):Prop:=((¬ nK rs\/dU s=false)/\e=1)\/(nK rs/\dU s=true/\((SA rs s/\e=4)\/(¬ SA rs s/\Wj rs s/\e=5)))
structure gW (rs:List aR) (s:eG):Prop where
 iP:nK rs
 valid:dU s=true
 names:¬ SA rs s
 JF:¬ Wj rs s
theorem qS(gI:dM rs []=some m)(h:nm ∈ ax rs):m.find nm=some (jq rs nm:Int)/\∃ r ∈ rs,r.name=nm/\jq rs nm=r.args.l.length:=by
 obtain ⟨r,hr,xz⟩:=mem_map.1 h;have:=GZ gI hr;rw [<- xz];refine ⟨?_,r,hr,rfl,this⟩;rw [this];exact (mw gI _ _).2 (kW hr)
theorem SJ{D:DB}{p:Nat×List Bool}(hp:D nm=some p)(hi:i<p.2.length):p.2[i]?=some (dA D nm i):=by
 unfold dA;rw [hp];simp only;rw [getD_eq_getElem?_getD,ec hi];rfl
theorem tG{x:Sl bQ}{s:bQ}(hl:x.l.length<=cu)(hK:K (.ret (.bool (x.l.any fun x=>x==s))) h=true):Sem TP 73 [an encS 1 x,.str s] h K:=by
 refine F.vz ?_;rw [F.wP];refine aG 0 x.l.length (zero_le _) (fun i e h'=>h'=h/\e 0=an encS 1 x/\e 1 = .str s/\e 5 = .int .i64 (i:Int)/\((x.l.take i).any fun x=>x==s)=false) ⟨rfl,rfl,rfl,rfl,rfl⟩ ?_ ?_
 ·rintro i e h' _ hi ⟨rfl,e0,e1,e5,ht⟩ K' hn hx hr hp;have hv:x.l[i]?=some x.l[i]:=ec hi;generalize x.l[i]=t at hv;rw [F.dY.aT];simp only [e0,e1,e5,aS,reduceAdd,reduceEqDiff,reduceIte,bl hi,aU x hi,jz hv]
  cases hq:(t==s) with
  |true=>
   simp only [aF];rw [hr,F.dY.bt];have:(x.l.any fun x=>x==s)=true:=List.any_eq_true.2 ⟨t,iA hv,hq⟩;rw [this] at hK;simp only [bg,reduceEqDiff,reduceIte];exact hK
  |false=>
   simp only [aE,e5,aK hi hl,aq];exact hn _ _ ⟨rfl,e0,e1,rfl,xg hv ht hq⟩
 ·rintro e h' ⟨rfl,e0,e1,e5,ht⟩ K' hx;rw [kB (dK _)] at ht;rw [F.dY.aT];simp only [e0,e5,aS,reduceAdd,reduceEqDiff,reduceIte,aX];rw [hx,F.dY.aJ];rw [ht] at hK;exact hK
theorem Vy(y:bQ×Int):bE (qq y)=true:=rfl
def Wm(l:List (bQ×Int))(x:bQ):Int:=match l.find? (fun p=>p.1==x) with|some p=>p.2|none=>-1
theorem CI(qd:rs.length<=60)(tC:∀ r ∈ rs,r.body.l.length<=20):(cV rs).length<=1260:=by
 have:∀ rs:List aR,(∀ r ∈ rs,r.body.l.length<=20)->(cV rs).length<=rs.length*21:=by
  intro rs
  induction rs with
  |nil=>intro _;simp [cV]
  |cons r rs ih=>
   intro h;have h1:=ih fun q hq=>h q (mem_cons_of_mem _ hq);have h2:=h r mem_cons_self;have h3:=tD r.body.l;unfold cV at h1 ⊢;rw [flatMap_cons,length_append,length_cons];have:(zY r).length=1+(eY r.body.l).length:=by unfold zY;rw [length_cons];omega
   omega
 have:=this rs tC;omega
theorem dZ{rules:Sl aR}(qd:rules.l.length<=60)(tC:∀ r ∈ rules.l,r.body.l.length<=20){s:bQ}{h:ag}{K:Out->ag->Bool}(hK:K (.ret (.int .i64 (Wm (cV rules.l) s))) h=true):Sem TP 74 [an aO 3 rules,.str s] h K:=by
 have yJ:=CI qd tC;refine F.Ef ?_;rw [F.Gg];refine aj (cY qd tC fun x jG=>?_);simp only [aS,reduceAdd,reduceEqDiff,reduceIte];have NV:x.l.length<=cu:=by rw [jG];unfold cu;omega
 rw [<- jG] at hK;refine aG 0 x.l.length (zero_le _) (fun i e h'=>h'=h/\e 1 = .str s/\e 5=an qq 2 x/\e 6 = .int .i64 (i:Int)/\∀ p ∈ x.l.take i,p.1≠s) ⟨rfl,rfl,rfl,rfl,fun p hp=>(by cases hp)⟩ ?_ ?_
 ·rintro i e h' _ hi ⟨rfl,e1,e5,e6,pX⟩ K' hn hx hr hp;have hv:x.l[i]?=some x.l[i]:=ec hi;generalize x.l[i]=p at hv;rw [F.dZ.aT];simp only [e1,e5,e6,aS,reduceAdd,reduceEqDiff,reduceIte,bl hi,aU x hi,Nb hv,Pb hv,sR];by_cases hq:p.1=s
  ·simp only [ey hq,aF];rw [hr,F.dZ.bt];simp only [bg,reduceEqDiff,reduceIte]
   have:x.l.find? (fun p=>p.1==s)=some p:=by
    rw [find?_eq_some_iff_getElem];refine ⟨by simp [hq],i,hi,(oB.1 hv).2,fun j hj=>?_⟩;have:=pX _ (mem_take_iff_getElem.2 ⟨j,by omega,rfl⟩);simp [this]
   unfold Wm at hK;rw [this] at hK;exact hK
  ·simp only [ep hq,aE,e6,aK hi NV,aq];refine hn _ _ ⟨rfl,e1,e5,rfl,fun q oS=>?_⟩;rw [take_add_one,hv] at oS;rcases mem_append.1 oS with oS|oS
   ·exact pX q oS
   ·simp only [toList_some,mem_singleton] at oS;subst oS;exact hq
 ·rintro e h' ⟨rfl,e1,e5,e6,pX⟩ K' hx;rw [kB (dK _)] at pX;rw [F.dZ.aT];simp only [e5,e6,aS,reduceAdd,reduceEqDiff,reduceIte,aX];rw [hx,F.dZ.aJ]
  have:x.l.find? (fun p=>p.1==s)=none:=by
   rw [find?_eq_none];intro q hq;simp [pX q hq]
  unfold Wm at hK;rw [this] at hK;exact hK
theorem K7(gI:dM rs []=some m){k:Int}(h:(x,k) ∈ cV rs):Wm (cV rs) x=k:=by
 unfold Wm
 cases hf:(cV rs).find? (fun p=>p.1==x) with
 |none=>
  rw [find?_eq_none] at hf;exact absurd (hf _ h) (by simp)
 |some p=>
  have h1:=mem_of_find?_eq_some hf;have h2:=find?_some hf;rw [beq_iff_eq] at h2;simp only;exact l9 gI (x:=x) (by rw [<- h2];exact h1) h
theorem Bz(gI:dM rs []=some m)(h:x ∈ ax rs):Wm (cV rs) x=(jq rs x:Int):=by
 obtain ⟨r,hr,xz⟩:=mem_map.1 h;rw [<- xz,K7 gI (kW hr),GZ gI hr]
def r8(ds:List bQ)(ys:List (bQ×Int)):List bQ:=ys.foldl (fun o y=>if y.1 ∈ ds then o else fR o y.1) []
theorem Nq{ds:List bQ}{ys:List (bQ×Int)}{y:bQ×Int}(hy:ys[i]?=some y):r8 ds (ys.take (i+1))=if y.1 ∈ ds then r8 ds (ys.take i) else fR (r8 ds (ys.take i)) y.1:=by
 unfold r8;rw [take_add_one,hy];simp
theorem G3{ds:List bQ}:∀ {ys:List (bQ×Int)},x ∈ r8 ds ys↔∃ y ∈ ys,y.1=x/\x ∉ ds:=by
 have key:∀ (ys:List (bQ×Int)) (o:List bQ),x ∈ ys.foldl (fun o y=>if y.1 ∈ ds then o else fR o y.1) o↔(x ∈ o\/∃ y ∈ ys,y.1=x/\x ∉ ds):=by
  intro ys
  induction ys with
  |nil=>intro o;simp
  |cons y ys ih=>
   intro o;rw [foldl_cons,ih];by_cases hd:y.1 ∈ ds
   ·rw [if_pos hd];constructor
    ·rintro (h|⟨z,hz,h1,h2⟩)
     ·exact .inl h
     ·exact .inr ⟨z,mem_cons_of_mem _ hz,h1,h2⟩
    ·rintro (h|⟨z,hz,h1,h2⟩)
     ·exact .inl h
     ·rcases mem_cons.1 hz with rfl|hz
      ·exact absurd (h1▸hd) h2
      ·exact .inr ⟨z,hz,h1,h2⟩
   ·rw [if_neg hd,uX];constructor
    ·rintro ((h|h)|⟨z,hz,h1,h2⟩)
     ·exact .inl h
     ·exact .inr ⟨y,mem_cons_self,h.symm,by rw [h];exact hd⟩
     ·exact .inr ⟨z,mem_cons_of_mem _ hz,h1,h2⟩
    ·rintro (h|⟨z,hz,h1,h2⟩)
     ·exact .inl (.inl h)
     ·rcases mem_cons.1 hz with rfl|hz
      ·exact .inl (.inr h1.symm)
      ·exact .inr ⟨z,hz,h1,h2⟩
 intro ys;unfold r8;rw [key];simp
theorem Af(ds:List bQ):∀ (ys:List (bQ×Int)),(r8 ds ys).length<=ys.length:=by
 have key:∀ (ys:List (bQ×Int)) (o:List bQ),(ys.foldl (fun o y=>if y.1 ∈ ds then o else fR o y.1) o).length<=o.length+ys.length:=by
  intro ys
  induction ys with
  |nil=>intro o;simp
  |cons y ys ih=>
   intro o;rw [foldl_cons];have h1:=ih (if y.1 ∈ ds then o else fR o y.1)
   have h2:(if y.1 ∈ ds then o else fR o y.1).length<=o.length+1:=by
    split
    ·omega
    ·exact zZ o y.1
   rw [length_cons];omega
 intro ys;have:=key ys [];simpa [r8] using this
def JG(rs:List aR):List (bQ×Int):=(r8 (dG rs) (cV rs)).map fun s=>(s,Wm (cV rs) s)
theorem K8{l:List bQ}{s:bQ}:(l.any fun x=>x==s)=decide (s ∈ l):=by
 rw [Bool.eq_iff_iff,List.any_eq_true,decide_eq_true_iff];constructor
 ·rintro ⟨x,hx,e⟩;rw [beq_iff_eq] at e;rw [<- e];exact hx
 ·intro h;exact ⟨s,h,by simp⟩
set_option maxHeartbeats 1000000 in
theorem cL{rules:Sl aR}(qd:rules.l.length<=60)(tC:∀ r ∈ rules.l,r.body.l.length<=20){h:ag}{K:Out->ag->Bool}(hK:∀ x:Sl (bQ×Int),x.l=JG rules.l->K (.ret (an qq 2 x)) h=true):Sem TP 53 [an aO 3 rules] h K:=by
 have hm:dw=140737488355328:=rfl;have yJ:=CI qd tC;have Ct:=mV rules.l
 have main:Sem TP 53 [an aO 3 rules] ag.empty (fun o h'=>yes (∃ v,∃ x:Sl (bQ×Int),o = .ret v/\x.l=JG rules.l/\Fz true h' v (an qq 2 x))):=by
  refine F.A5 ?_;rw [F.Ck];refine aj (dm qd fun d Wn=>?_);simp only [aS,reduceAdd,reduceEqDiff,reduceIte];refine aj (cY qd tC fun x jG=>?_);simp only [aS,reduceAdd,reduceEqDiff,reduceIte];have Bl:x.l.length<=1260:=by rw [jG];exact yJ
  have NV:x.l.length<=cu:=by unfold cu;omega
  have Z1:d.l.length<=cu:=by rw [Wn];unfold cu;omega
  refine aG 0 x.l.length (zero_le _) (fun i e h'=>∃ a,Own encS 1 0 h' a (r8 (dG rules.l) (x.l.take i))/\e 0=an aO 3 rules/\e 3=an encS 1 d/\e 4=a/\e 5=an qq 2 x/\e 6 = .int .i64 (i:Int)) ⟨.au,.nil,rfl,rfl,rfl,rfl,rfl⟩ ?_ ?_
  ·rintro i e h' _ hi ⟨a,o,e0,e3,e4,e5,e6⟩ K' hn hx hr hp;have hv:x.l[i]?=some x.l[i]:=ec hi;generalize x.l[i]=y at hv;have ic:=Nq (ds:=dG rules.l) hv;rw [F.cL.aT];simp only [e3,e5,e6,aS,reduceAdd,reduceEqDiff,reduceIte,bl hi,aU x hi,Nb hv];refine aj (tG Z1 ?_);rw [K8,Wn];simp only [aS,reduceAdd,reduceEqDiff,reduceIte];by_cases Ae:y.1 ∈ dG rules.l
   ·rw [if_pos Ae] at ic;simp only [ey Ae,Bool.not_true,aE,e6,aK hi NV,aq];exact hn _ _ ⟨a,by rw [ic];exact o,e0,e3,e4,e5,rfl⟩
   ·rw [if_neg Ae] at ic;simp only [ep Ae,Bool.not_false,aF,e4,e5,e6,aS,reduceAdd,reduceEqDiff,reduceIte,aU x hi,Nb hv];refine aj (fA o (zero_le _) (by have h1:=Af (dG rules.l) (x.l.take i);have h2:=length_take_le i x.l;omega) fun a1 h1 x1 o1=>?_);simp only [aS,reduceAdd,reduceEqDiff,reduceIte,e6,aK hi NV];exact hn _ _ ⟨a1,by rw [ic];exact o1,e0,e3,rfl,e5,rfl⟩
  ·rintro e h' ⟨a,o,e0,e3,e4,e5,e6⟩ K' hx;rw [kB (dK _),jG] at o;have hol:=Af (dG rules.l) (cV rules.l);have hos:∃ os,os=r8 (dG rules.l) (cV rules.l):=⟨_,rfl⟩
   obtain ⟨os,hos⟩:=hos;rw [<- hos] at o hol;have hob:os.length<=cu:=by unfold cu;omega
   rw [F.cL.aT];simp only [e5,e6,aS,reduceAdd,reduceEqDiff,reduceIte,aX];rw [hx,F.cL.aJ]
   refine aG 0 os.length (zero_le _) (fun i e h2=>∃ b,(∀ c,eP a=some c->h2.get c=h'.get c)/\h'.next<=h2.next/\Own qq 2 h'.next h2 b ((os.take i).map fun s=>(s,Wm (cV rules.l) s))/\e 0=an aO 3 rules/\e 4=a/\e 7=b/\e 8 = .int .i64 (i:Int))
    ⟨.au,fun _ _=>rfl,dK _,.nil,e0,e4,rfl,rfl⟩ ?_ ?_
   ·rintro i e h2 _ hi ⟨b,mI,oA,ob,e0,e4,e7,e8⟩ K2 qM iu vL Il;have hv:os[i]?=some os[i]:=ec hi;generalize os[i]=s at hv;have o2:=o.agree mI oA;obtain ⟨q,_,i1,i2⟩:=Ba o2 hv;obtain ⟨a5,h5,p5,o5,f5,n5,x5,b5⟩:=ob.push rP Vy oA (bytes:=24) (by rw [hm,length_map,length_take];omega) (s,Wm (cV rules.l) s);rw [F.cL.eC];simp only [e0,e4,e7,e8,o2.len,aS,reduceAdd,reduceEqDiff,reduceIte,bl hi,i1,i2];refine aj (dZ qd tC ?_);simp only [aS,reduceAdd,reduceEqDiff,reduceIte,i2,AV.beq_refl,Bool.and_self,if_true,UA,UB,p5,e8,aK hi hob];refine qM _ _ ⟨a5,fun c hc=>by rw [f5 c (by have:=o.lt hc;omega) (fun hb=>by have:=ob.ge hb;have:=o.lt hc;omega)];exact mI c hc,by omega,?_,e0,e4,rfl,rfl⟩;rw [take_add_one,hv,map_append];exact o5
   ·rintro e h2 ⟨b,mI,oA,ob,e0,e4,e7,e8⟩ K2 iu;rw [kB (dK _)] at ob;have o2:=o.agree mI oA;rw [F.cL.eC];simp only [e4,e8,o2.len,aS,reduceAdd,reduceEqDiff,reduceIte,aX];rw [iu,F.cL.cZ];simp only [bg,reduceEqDiff,reduceIte,e7]
    obtain ⟨y,hy1,hy2⟩:=ob.MF (fun v y hy=>by
     simp only [qq,mem_cons,not_mem_nil,_root_.or_false] at hy
     rcases hy with rfl|rfl<;>exact .scalar _ rfl)
    exact cO.2 ⟨b,y,rfl,by rw [hy1,hos];rfl,hy2⟩
 refine main.frozen (by simp [AV.cN,bI dW]) fun o h' ho=>?_;obtain ⟨v,x,rfl,hx,hf⟩:=cO.1 ho;exact ⟨v,_,rfl,hf,hK x hx⟩
theorem Nr(gI:dM rs []=some m)(uu:dU s=true):(JG rs).all (El s)=true↔¬ ∃ p ∈ cV rs,p.1 ∉ ax rs/\s.aY.l.find? (nC p.1 p.2)=none:=by
 rw [List.all_eq_true];constructor
 ·rintro h ⟨p,hp,hd,hf⟩;have mN:(p.1,Wm (cV rs) p.1) ∈ JG rs:=mem_map.2 ⟨p.1,G3.2 ⟨p,hp,rfl,fun ur=>hd ((dJ rs).1 ur)⟩,rfl⟩;have h1:=h _ mN;rw [K7 gI (show (p.1,p.2) ∈ cV rs from hp),M7 uu,hf] at h1;cases h1
 ·intro h y hy;obtain ⟨x,hx,rfl⟩:=mem_map.1 hy;obtain ⟨p,hp,rfl,hd⟩:=G3.1 hx;rw [K7 gI (show (p.1,p.2) ∈ cV rs from hp),M7 uu]
  cases hf:s.aY.l.find? (nC p.1 p.2) with
  |some _=>rfl
  |none=>exact absurd ⟨p,hp,fun ur=>hd ((dJ rs).2 ur),hf⟩ h
theorem DA:∀ {a b c:List Int},ji a b=true->ji b c=true->ji a c=true
 |x :: a,y :: b,z :: c,h1,h2=>by
  rw [ji] at h1 h2 ⊢;by_cases e1:x=y
  ·rw [if_pos e1] at h1;subst e1;by_cases e2:x=z
   ·rw [if_pos e2] at h2 ⊢;exact DA h1 h2
   ·rw [if_neg e2] at h2 ⊢;exact h2
  ·rw [if_neg e1] at h1;have q1:=of_decide_eq_true h1;by_cases e2:y=z
   ·subst e2;rw [if_neg e1];exact h1
   ·rw [if_neg e2] at h2;have q2:=of_decide_eq_true h2;rw [if_neg (by omega)];exact ey (by omega)
 |[],_,_,h1,_=>by simp [ji] at h1
 |_ :: _,[],_,h1,_=>by simp [ji] at h1
 |_ :: _,_ :: _,[],_,h2=>by simp [ji] at h2
def Ns(l:List (List Int)):Prop:=l.Pairwise fun a b=>ji a b=true
def YZ(n k:Nat)(l:List (List Int)):Prop:=(∀ t ∈ l,t.length=k/\iJ n t=true)/\Ns l
theorem G4:∀ {l:List (List Int)},(∀ i a b,l[i]?=some a->l[i+1]?=some b->ji a b=true)->Ns l
 |[],_=>.nil
 |x :: l,h=>by
  have ih:Ns l:=G4 fun i a b ha hb=>h (i+1) a b (by simpa using ha) (by simpa using hb);refine pairwise_cons.2 ⟨fun y hy=>?_,ih⟩
  cases l with
  |nil=>cases hy
  |cons z l=>
   have hz:=h 0 x z rfl rfl;rcases mem_cons.1 hy with rfl|hy
   ·exact hz
   ·exact DA hz ((pairwise_cons.1 ih).1 y hy)
theorem G5{l:List (List Int)}(hs:Ns l){a b:List Int}(ha:l[i]?=some a)(hb:l[i+1]?=some b):ji a b=true:=by
 obtain ⟨h1,rfl⟩:=oB.1 ha;obtain ⟨h2,rfl⟩:=oB.1 hb;exact pairwise_iff_getElem.1 hs i (i+1) h1 h2 (lt_succ_self i)
theorem Nt{k:Nat}{l:List (Sl Int)}:yT n k l=true↔YZ n k (l.map Sl.l):=by
 constructor
 ·intro h;refine ⟨fun t ht=>?_,G4 fun i a b ha hb=>?_⟩
  ·obtain ⟨u,hu,rfl⟩:=mem_map.1 ht;obtain ⟨i,hi⟩:=getElem?_of_mem hu;exact Pf h hi
  ·rw [getElem?_map] at ha hb;obtain ⟨p,hp,rfl⟩:=map_eq_some_iff.1 ha;obtain ⟨t,ht,rfl⟩:=map_eq_some_iff.1 hb;have:=xC h (oB.1 ht).1;unfold nL at this;rw [ht] at this;simp only [hp,and_eq_true] at this;exact this.2.2
 ·rintro ⟨h1,h2⟩;refine rf fun i hi=>?_;have ht:l[i]?=some l[i]:=ec hi;generalize l[i]=t at ht;obtain ⟨q1,q2⟩:=h1 t.l (List.mem_map_of_mem (iA ht));unfold nL;rw [ht];simp only [q1,q2,decide_true,Bool.true_and]
  cases i with
  |zero=>rfl
  |succ j=>
   have hj:j<l.length:=by omega
   have hp:l[j]?=some l[j]:=ec hj;generalize l[j]=p at hp;simp only [hp];exact G5 h2 (i:=j) (by rw [getElem?_map,hp];rfl) (by rw [getElem?_map,ht];rfl)
theorem Y0{k:Nat}{l:List (List Int)}(h:YZ n k l):l.length<=n ^ k:=by
 have key:∀ i a,l[i]?=some a->i<=iy n a:=by
  intro i
  induction i with
  |zero=>intro a _;exact zero_le _
  |succ i ih=>
   intro b hb;have hi:i<l.length:=by have:=(oB.1 hb).1;omega
   have ha:l[i]?=some l[i]:=ec hi;generalize l[i]=a at ha;have:=ih a ha;obtain ⟨a1,a2⟩:=h.1 a (iA ha);obtain ⟨b1,b2⟩:=h.1 b (iA hb);have:=Jr (by omega) a2 b2 (G5 h.2 ha hb);omega
 cases hl:l.length with
 |zero=>exact zero_le _
 |succ m=>
  have hm:l[m]?=some (l[m]'(by omega)):=ec _;have h1:=key m _ hm;obtain ⟨a1,a2⟩:=h.1 _ (iA hm);have h2:=lX a2;rw [a1] at h2;omega
def agK(n:Nat)(d:R9):Prop:=eU d.1=true/\∃ k:Nat,d.2.1=(k:Int)/\k<=12/\n ^ k<=4096/\YZ n k d.2.2
theorem G6{r:Rel}:oG n r=true↔agK n (dz r):=by
 constructor
 ·intro h;obtain ⟨k,h1,h2,h3,h4⟩:=yz h;simp only [oG,and_eq_true] at h;exact ⟨h.1,k,h1,h2,h3,Nt.1 h4⟩
 ·rintro ⟨h0,k,h1,h2,h3,h4⟩;have Zs:r.arity=(k:Int):=h1;have hk:r.arity.toNat=k:=by omega
  simp only [oG,and_eq_true,decide_eq_true_eq,hk];exact ⟨h0,by omega,by omega,h3,Nt.2 h4⟩
structure Nu (size:Int) (ds:List R9):Prop where
 lo:1<=size
 hi:size<=64
 kH:ds.length<=8
 rel:∀ d ∈ ds,agK size.toNat d
 names:(ds.map (·.1)).Nodup
theorem jS:dU s=true↔Nu s.size (s.aY.l.map dz):=by
 constructor
 ·intro h;have h':=h;simp only [dU,and_eq_true,decide_eq_true_eq] at h';refine ⟨h'.1,h'.2.1,by simpa using h'.2.2.1,fun d hd=>?_,?_⟩
  ·obtain ⟨r,hr,rfl⟩:=mem_map.1 hd;obtain ⟨i,hi⟩:=getElem?_of_mem hr;exact G6.1 (xE h hi)
  ·have:=nD h;rw [List.map_map];exact this
 ·rintro ⟨h1,h2,h3,h4,h5⟩;rw [length_map] at h3;simp only [dU,and_eq_true,decide_eq_true_eq];refine ⟨h1,h2,h3,rf fun i hi=>?_⟩;have hr:s.aY.l[i]?=some s.aY.l[i]:=ec hi;have yY:=hr;generalize s.aY.l[i]=r at hr;rw [rT,hr];simp only [and_eq_true,not_eq_true'];refine ⟨G6.2 (h4 _ (List.mem_map_of_mem (iA hr))),?_⟩;rw [eq_false_iff];intro SK;obtain ⟨q,hq,ve⟩:=List.any_eq_true.1 SK;obtain ⟨j,hj⟩:=getElem?_of_mem hq;have hji:j<i:=by have:=(oB.1 hj).1;rw [length_take] at this;omega
  rw [getElem?_take_of_lt hji] at hj;rw [List.map_map,List.Nodup,pairwise_iff_getElem] at h5;have Oy:j<s.aY.l.length:=by omega
  have:=h5 j i (by simpa using Oy) (by simpa using hi) hji;rw [getElem_map,getElem_map] at this;rw [ec Oy] at hj;rw [ec hi] at hr;cases hj;cases hr;simp only [beq_iff_eq] at ve;exact this ve
theorem nF(h:dU s=true):s.small/\s.ok:=by
 have hp:=jS.1 h
 have len:∀ r ∈ s.aY.l,r.bW.l.length<=4096/\(∀ t ∈ r.bW.l,t.l.length<=12)/\r.name.length<=12:=fun r hr=>by
  obtain ⟨h0,k,h1,h2,h3,h4⟩:=hp.rel _ (List.mem_map_of_mem hr);have:=Y0 h4;simp only [dz,length_map] at this;refine ⟨by omega,fun t ht=>?_,?_⟩
  ·have:=(h4.1 t.l (List.mem_map_of_mem ht)).1;omega
  ·replace h0:eU r.name=true:=h0;unfold eU at h0;split at h0
   ·cases h0
   ·simp only [and_eq_true,decide_eq_true_eq] at h0;exact h0.1
 have hl:s.aY.l.length<=8:=by have:=hp.kH;simpa using this
 exact ⟨⟨by omega,fun r hr=>by have:=(len r hr).1;omega,fun r hr t ht=>by have:=(len r hr).2.1 t ht;omega⟩,
  ⟨by unfold cu;omega,fun r hr=>⟨by have:=(len r hr).2.2;unfold cu;omega,by have:=(len r hr).1;unfold cu;omega,fun t ht=>by have:=(len r hr).2.1 t ht;unfold cu;omega⟩⟩⟩
def mK(rs:List aR)(Z0:List bQ):List Rel:=Z0.map fun nm=>⟨nm,(jq rs nm:Int),none⟩
def fW(rs:List aR)(Z0:List bQ):List R9:=Z0.map fun nm=>(nm,(jq rs nm:Int),[])
theorem pg(rs:List aR)(Z0:List bQ):(mK rs Z0).map dz=fW rs Z0:=by unfold mK fW;rw [List.map_map];rfl
theorem SL(s:St):dV TP s Tryz.f55.results.toList=(match ah (some 2) (s.env 4) s.h,(some []:Option (List AV)) with|some v,some vs=>some (v :: vs)|_,_=>none):=by kernel_rfl
theorem Y1(nm:bQ)(k:Int):jM [.str [],.int .i64 0,.au] [(0,1),(1,1)] [.str nm,.int .i64 k]=some (.agg (bO ⟨nm,k,none⟩)):=rfl
set_option maxHeartbeats 1000000 in
theorem gN{rules:Sl aR}{s:eG}{m:fy}(qd:rules.l.length<=60)(tC:∀ r ∈ rules.l,r.body.l.length<=20)(gI:dM rules.l []=some m)(QY:s.small){h:ag}{K:Out->ag->Bool}
  (hK:∀ a h' rs1,bG h h'->Own bO 3 h.next h' a (rs1++mK rules.l (dG rules.l))->rs1.map dz=s.aY.l.map dz->K (.ret (.agg [.int .i64 s.size,a])) h'=true):Sem TP 55 [an aO 3 rules,.agg (aB s)] h K:=by
 have hm:dw=140737488355328:=rfl;have Ct:=mV rules.l;refine F.Eg ?_;rw [F.Gh];simp only [cG (dH s),aq,ag.aV];have g0:(ag.alloc (ag.alloc h (.cells (aB s))) (.cells [.int .i64 0,.au])).get h.next=some (.cells (aB s)):=by rw [ag.aW,ag.aV,if_neg (by omega)];exact aD _ _
 have g1:(ag.alloc (ag.alloc h (.cells (aB s))) (.cells [.int .i64 0,.au])).get (h.next+1)=some (.cells [.int .i64 0,.au]):=aD _ _;have gn:(ag.alloc (ag.alloc h (.cells (aB s))) (.cells [.int .i64 0,.au])).next=h.next+2:=rfl
 have gx:bG h (ag.alloc (ag.alloc h (.cells (aB s))) (.cells [.int .i64 0,.au])):=(bG.alloc _ _).trans (bG.alloc _ _);generalize (ag.alloc (ag.alloc h (.cells (aB s))) (.cells [.int .i64 0,.au]))=H1 at g0 g1 gn gx ⊢;have l0:ah (some 2) (.ptr h.next 0) H1=some (.agg (aB s)):=by rw [ai g0,cQ (cs:=aB s) (n:=2) rfl]
 simp only [l0,aq];refine aj (iT QY fun a h3 rs x3 o3 tF=>?_);obtain ⟨Rb,ho2⟩:=qR o3;have Is:bE [.int .i64 s.size,a]=true:=by simp only [bE,Bool.and_true] at Rb ⊢;rw [Rb];rfl
 obtain ⟨H4,hs4,p4,po4,pn4⟩:=cR (h:=h3) (zs:=[.int .i64 0,.au]) (cs:=[.int .i64 s.size,a]) (n:=2) rfl rfl Is;have x4:bG h3 H4:=⟨by omega,fun b hb=>po4 b (by omega)⟩
 have n3:=x3.next
 rw [gn] at o3 n3;have x34:=(gx.trans x3).trans x4;simp only [aS,reduceAdd,reduceEqDiff,reduceIte,hs4];refine aj (dm qd fun d Wn=>?_);have aqi:d.l.length<=60:=by rw [Wn];omega
 have Z1:d.l.length<=cu:=by unfold cu;omega
 have Pa:=QY.aY;have akr:rs.length=s.aY.l.length:=by have:=congrArg List.length tF;simpa using this
 simp only [aS,reduceAdd,reduceEqDiff,reduceIte]
 refine aG 0 d.l.length (zero_le _) (fun i e h'=>∃ a,h'.get h3.next=some (.cells [.int .i64 s.size,a])/\h'.get (h.next+1)=some (.cells [.int .i64 0,.au])/\Own bO 3 (h.next+2) h' a (rs++mK rules.l (d.l.take i))/\eP a≠some h3.next/\(∀ b,b<h.next->h'.get b=h.get b)/\h3.next<h'.next /\
  e 0=an aO 3 rules/\e 4 = .ptr (h.next+1) 0/\e 5 = .ptr h3.next 0/\e 6=an encS 1 d/\e 7 = .int .i64 (i:Int))
  ⟨a,p4,by rw [x4.get _ (by omega),x3.get _ (by omega)];exact g1,by simpa [mK] using o3.ext x4,fun hb=>by have:=o3.lt hb;omega,fun b hb=>x34.get b hb,by omega,rfl,rfl,rfl,rfl,rfl⟩ ?_ ?_
 ·rintro i e h' _ hi ⟨a,q3,q1,o,lF,mI,oA,e0,e4,e5,e6,e7⟩ K' hn hx hr hp;have hv:d.l[i]?=some d.l[i]:=ec hi;generalize d.l[i]=nm at hv;have nx:nm ∈ ax rules.l:=(dJ _).1 (by rw [<- Wn];exact iA hv);have lo:ah none (.ptr h3.next 1) h'=some a:=by rw [ai q3];rfl
  have li:∀ hh,ah none (.dI (d.l.flatMap encS) (i*1)) hh=some (.str nm):=fun hh=>jz hv;obtain ⟨a5,h5,p5,o5,f5,n5,x5,b5⟩:=o.push iE kJ (by omega) (bytes:=48) (by rw [hm,length_append];unfold mK;rw [length_map,length_take];omega) ⟨nm,(jq rules.l nm:Int),none⟩;have s3:h5.get h3.next=some (.cells [.int .i64 s.size,a]):=by rw [f5 _ (by omega) lF];exact q3
  have c5:=o5.GN
  have st:bh 1 (.ptr h3.next 1) a5 h5=some (h5.set h3.next (.cells [.int .i64 s.size,a5])):=by
   rw [cJ (n:=1) s3 c5.2.1 c5.1 (by simp),c5.2.2];rfl
  rw [F.gN.aT];simp only [e0,e5,e6,e7,aS,reduceAdd,reduceEqDiff,reduceIte,bl hi,lo,aU d hi,li];refine aj (dZ qd tC ?_);rw [Bz gI nx];simp only [aS,reduceAdd,reduceEqDiff,reduceIte,li,lo,AV.beq_refl,Bool.and_self,Bool.and_true,if_true,Y1,QV,p5,e5,e7,st,aK hi Z1];refine hn _ _ ⟨a5,by rw [ag.aP,if_pos rfl],by rw [ag.aP,if_neg (by omega),f5 _ (by omega) (fun hb=>by have:=o.ge hb;omega)];exact q1,?_,fun hb=>by have:=b5 _ hb;omega,fun b hb=>?_,by rw [ag.bq];omega,e0,e4,e5,e6,rfl⟩
  ·have hl:rs++mK rules.l (d.l.take (i+1))=(rs++mK rules.l (d.l.take i))++[⟨nm,(jq rules.l nm:Int),none⟩]:=by
    rw [take_add_one,hv];unfold mK;rw [map_append,<- append_assoc];rfl
   rw [hl];exact o5.agree (fun b hb=>by rw [ag.aP,if_neg (by have:=b5 _ hb;omega)]) (by rw [ag.bq];exact dK _)
  ·rw [ag.aP,if_neg (by omega),f5 b (by omega) (fun fY=>by have:=o.ge fY;omega)];exact mI b hb
 ·rintro e h' ⟨a,q3,q1,o,lF,mI,oA,e0,e4,e5,e6,e7⟩ K' hx;rw [kB (dK _),Wn] at o;obtain ⟨Rb,ho2⟩:=qR o;have aks:bE [.int .i64 s.size,a]=true:=by simp only [bE,Bool.and_true] at Rb ⊢;rw [Rb];rfl
  have lo:ah (some 2) (.ptr h3.next 0) h'=some (.agg [.int .i64 s.size,a]):=by rw [ai q3];rfl
  have st:bh 2 (.ptr (h.next+1) 0) (.agg [.int .i64 s.size,a]) h'=some (h'.set (h.next+1) (.cells [.int .i64 s.size,a])):=by
   rw [cJ (n:=2) (v:=.agg [.int .i64 s.size,a]) q1 rfl aks (by simp)];rfl
  have lo2:ah (some 2) (.ptr (h.next+1) 0) (h'.set (h.next+1) (.cells [.int .i64 s.size,a]))=some (.agg [.int .i64 s.size,a]):=by rw [ai (cs:=[.int .i64 s.size,a]) (by rw [ag.aP,if_pos rfl])];rfl
  rw [F.gN.aT];simp only [e6,e7,aS,reduceAdd,reduceEqDiff,reduceIte,aX];rw [hx,F.gN.aJ];simp only [bg,reduceEqDiff,reduceIte,e4,e5,lo,st,aq,SL,lo2,oneOf];exact hK a _ rs ⟨by rw [ag.bq];omega,fun b hb=>by rw [ag.aP,if_neg (by omega)];exact mI b hb⟩ ((o.uW (by omega) _).R3 (by omega)) tF
theorem Iy{n:Int}{k:Nat}{rs:List Rel}(o:Own bO 3 k h a rs)(lu:(⟨n,some rs⟩:eG).ok)(hK:K (.ret (.bool (dU ⟨n,some rs⟩))) h=true):Sem TP 17 [.agg [.int .i64 n,a]] h K:=by
 obtain ⟨x,jG,iu⟩:=o.MF (fun v y hy=>by
  simp only [bO,mem_cons,not_mem_nil,_root_.or_false] at hy;rcases hy with rfl|rfl|rfl
  ·exact .scalar _ rfl
  ·exact .scalar _ rfl
  ·exact .dP (bI tZ _))
 have aby:(⟨n,x⟩:eG).ok:=by
  obtain ⟨q1,q2⟩:=lu;exact ⟨by show x.l.length<=cu;rw [jG];exact q1,fun r hr=>q2 r (by have:r ∈ x.l:=hr;rw [jG] at this;exact this)⟩
 have he:dU ⟨n,x⟩=dU ⟨n,some rs⟩:=by
  rw [Bool.eq_iff_iff,jS,jS];show Nu n (x.l.map dz)↔Nu n (rs.map dz);rw [jG]
 have hs:=cy (s:=⟨n,x⟩) aby (h:=ag.empty) (K:=qm (.bool (dU ⟨n,x⟩))) (c8 rfl);rw [<- he] at hK;have fl:=kD.cons (.scalar (.int .i64 n) rfl) (kD.cons iu kD.nil);exact Sem.MH rfl hs (kD.cons (.agg _ _ fl.len fl.rel) .nil) hK
theorem DC{rs':List Rel}(hg:nK rs)(gI:dM rs []=some m)(uu:dU s=true)(h4:¬ ∃ r ∈ s.aY.l,r.name ∈ ax rs)(tF:rs'.map dz=s.aY.l.map dz++fW rs (dG rs)) :
  dU ⟨s.size,some rs'⟩=true↔¬ (8<s.aY.l.length+(dG rs).length\/∃ r ∈ rs,4096<s.size.toNat ^ r.args.l.length):=by
 have Un:=jS.1 uu;have hlen:rs'.length=s.aY.l.length+(dG rs).length:=by have:=congrArg List.length tF;simpa [fW] using this
 rw [jS];show Nu s.size (rs'.map dz)↔_;rw [tF];constructor
 ·rintro ⟨q1,q2,q3,q4,q5⟩ (hb|⟨r,hr,hb⟩)
  ·rw [length_append,length_map] at q3;unfold fW at q3;rw [length_map] at q3;omega
  ·have hm:(r.name,(jq rs r.name:Int),([]:List (List Int))) ∈ s.aY.l.map dz++fW rs (dG rs):=mem_append_right _ (mem_map.2 ⟨r.name,(dJ rs).2 (List.mem_map_of_mem hr),rfl⟩);obtain ⟨_,k,h1,h2,h3,_⟩:=q4 _ hm;rw [GZ gI hr] at h1;have:k=r.args.l.length:=by simp only at h1;omega
   rw [this] at h3;omega
 ·intro pX;have hd8:s.aY.l.length+(dG rs).length<=8:=Nat.le_of_not_lt fun h=>pX (.inl h);refine ⟨Un.lo,Un.hi,by rw [length_append,length_map];unfold fW;rw [length_map];exact hd8,fun d hd=>?_,?_⟩
  ·rcases mem_append.1 hd with hd|hd
   ·exact Un.rel d hd
   ·obtain ⟨nm,nx,rfl⟩:=mem_map.1 hd;obtain ⟨_,r,hr,xz,zk⟩:=qS gI ((dJ rs).1 nx);have u0:=(gZ gI r hr).1;refine ⟨by rw [<- xz];exact Gv u0,jq rs nm,rfl,by rw [zk];exact mz u0,?_,fun t ht=>(by cases ht),List.Pairwise.nil⟩;rw [zk];exact Nat.le_of_not_lt fun h=>pX (.inr ⟨r,hr,h⟩)
  ·rw [map_append];have e2:(fW rs (dG rs)).map (·.1)=dG rs:=by unfold fW;rw [List.map_map];simp [Function.comp_def]
   rw [e2];refine nodup_append.2 ⟨Un.names,xy (pW rs),fun x hx y hy e=>?_⟩;subst e;rw [List.map_map] at hx;obtain ⟨r,hr,xz⟩:=mem_map.1 hx;exact h4 ⟨r,hr,by have:=(dJ rs).1 hy;rw [<- xz] at this;exact this⟩
set_option maxHeartbeats 2000000 in
theorem bZ{rules:Sl aR}{s:eG}(lu:∀ r ∈ rules.l,r.ok)(iF:∀ r ∈ rules.l,r.kH)(qu:s.ok){h:ag}{K:Out->ag->Bool}
  (abz:∀ e,By rules.l s e->K (.ret (.int .i64 e)) h=true) (GF:gW rules.l s->K (.ret (.int .i64 0)) h=true):Sem TP 14 [an aO 3 rules,.agg (aB s)] h K:=by
 have gen:∀ R:Out->ag->Bool,(∀ e h',(By rules.l s e\/(e=0/\gW rules.l s))->R (.ret (.int .i64 e)) h'=true)->Sem TP 14 [an aO 3 rules,.agg (aB s)] ag.empty R:=by
  intro R fin;refine F.Ee ?_;rw [F.Gf];simp only [cG (dH s),aq,bA];have g0:(ag.empty.alloc (.cells (aB s))).get 0=some (.cells (aB s)):=aD _ _;have gn:(ag.empty.alloc (.cells (aB s))).next=1:=rfl
  generalize (ag.empty.alloc (.cells (aB s)))=H at g0 gn ⊢;have l0:ah (some 2) (.ptr 0 0) H=some (.agg (aB s)):=by rw [ai g0,cQ (cs:=aB s) (n:=2) rfl]
  refine aj (bT lu iF fun b hb=>?_);simp only [aS,reduceAdd,reduceEqDiff,reduceIte]
  cases b with
  |false=>
   simp only [Bool.not_false,aF];exact fin 1 _ (.inl (.inl ⟨.inl fun hg=>(by have:=hb.2 hg;cases this),rfl⟩))
  |true=>
  have hg:=hb.1 rfl;simp only [Bool.not_true,aE,l0,aq];refine aj (cy qu ?_);simp only [aS,reduceAdd,reduceEqDiff,reduceIte]
  cases uu:dU s with
  |false=>
   simp only [Bool.not_false,aF];exact fin 1 _ (.inl (.inl ⟨.inr uu,rfl⟩))
  |true=>
  obtain ⟨n,hn,n1,ov,h8⟩:=uc uu;have sV:s.size.toNat=n:=by omega
  obtain ⟨m,gI⟩:=hg.go;have sF:=gZ gI;have tC:∀ r ∈ rules.l,r.body.l.length<=20:=fun r hr=>(sF r hr).2.1;have qd:=hg.kH;have Ct:=mV rules.l;simp only [Bool.not_true,aE];refine aj (dm qd fun d Wn=>?_);simp only [aS,reduceAdd,reduceEqDiff,reduceIte,l0];refine aj (cL qd tC fun sy hsy=>?_)
  have hsl:sy.l.length<=1260:=by
   rw [hsy];unfold JG;rw [length_map];have h1:=Af (dG rules.l) (cV rules.l);have h2:=CI qd tC;omega
  simp only [aS,reduceAdd,reduceEqDiff,reduceIte,l0,AV.beq_refl,Bool.and_self,if_true];refine aj (fU qu (by unfold cu;omega) ?_);rw [hsy];simp only [aS,reduceAdd,reduceEqDiff,reduceIte];have e4:SA rules.l s->By rules.l s 4:=fun h=>.inr ⟨hg,uu,.inl ⟨h,rfl⟩⟩
  cases Bx:(JG rules.l).all (El s) with
  |false=>
   simp only [Bool.not_false,aF];refine fin 4 _ (.inl (e4 (.inl ?_)));exact Decidable.not_not.1 fun h=>by rw [(Nr gI uu).2 h] at Bx;cases Bx
  |true=>
  have akt:=(Nr gI uu).1 Bx;have Z1:d.l.length<=cu:=by rw [Wn];unfold cu;omega
  have Hu:rules.l.length<=cu:=by unfold cu;omega
  simp only [Bool.not_true,aE];refine aG 0 d.l.length (zero_le _) (fun i e h'=>h'.get 0=some (.cells (aB s))/\1<=h'.next/\(∀ nm ∈ d.l.take i,∀ r ∈ s.aY.l,r.name≠nm)/\e 0=an aO 3 rules/\e 3 = .ptr 0 0/\e 5=an encS 1 d/\e 6 = .int .i64 (i:Int)) ⟨g0,by omega,fun nm nx=>(by cases nx),rfl,rfl,rfl,rfl⟩ ?_ ?_
  ·rintro i e h' _ hi ⟨q0,qn,pX,e0,e3,e5,e6⟩ K' wj hx hr hp;have hv:d.l[i]?=some d.l[i]:=ec hi;generalize d.l[i]=nm at hv;have l0':ah (some 2) (.ptr 0 0) h'=some (.agg (aB s)):=by rw [ai q0,cQ (cs:=aB s) (n:=2) rfl]
   rw [F.bZ.aT];simp only [e3,e5,e6,aS,reduceAdd,reduceEqDiff,reduceIte,bl hi,l0',aU d hi,jz hv];refine aj (fI qu ?_);simp only [aS,reduceAdd,reduceEqDiff,reduceIte];rcases pY (eX nm) s.aY.l with ⟨f1,f2⟩|⟨j,r,f1,f2,f3⟩
   ·rw [f1];simp only [show decide ((0:Int)<=-1)=false from rfl,aE,e6,aK hi Z1,aq];refine wj _ _ ⟨q0,qn,fun x iY r yY e=>?_,e0,e3,e5,rfl⟩;rw [take_add_one,hv] at iY;rcases mem_append.1 iY with iY|iY
    ·exact pX x iY r yY e
    ·simp only [toList_some,mem_singleton] at iY;rw [find?_eq_none] at f2;exact f2 r yY (by simp [eX,e,iY])
   ·rw [f1];simp only [ey (by omega:(0:Int)<=(j:Int)),aF];rw [hr,F.bZ.bt];simp only [bg,reduceEqDiff,reduceIte];have xz:=find?_some f3;simp only [eX,beq_iff_eq] at xz;exact fin 4 _ (.inl (e4 (.inr ⟨r,iA f2,(dJ _).1 (by rw [xz,<- Wn];exact iA hv)⟩)))
  ·rintro e h' ⟨q0,qn,pX,e0,e3,e5,e6⟩ K' hx;rw [kB (dK _)] at pX;have agM:¬ ∃ r ∈ s.aY.l,r.name ∈ ax rules.l:=fun ⟨r,hr,hh⟩=>pX r.name (by rw [Wn];exact (dJ _).2 hh) r hr rfl;have h4:¬ SA rules.l s:=fun h=>h.elim akt agM;have e5':Wj rules.l s->By rules.l s 5:=fun h=>.inr ⟨hg,uu,.inr ⟨h4,h,rfl⟩⟩;rw [F.bZ.aT];simp only [e5,e6,aS,reduceAdd,reduceEqDiff,reduceIte,aX];rw [hx,F.bZ.aJ];refine aG 0 rules.l.length (zero_le _) (fun i e h2=>h2.get 0=some (.cells (aB s))/\1<=h2.next/\(∀ r ∈ rules.l.take i,n ^ (varsOf r).length<=65536)/\e 0=an aO 3 rules/\e 3 = .ptr 0 0/\e 7 = .int .i64 (i:Int)) ⟨q0,qn,fun r hr=>(by cases hr),e0,e3,rfl⟩ ?_ ?_
   ·rintro i e h2 _ hi ⟨q0,qn,qv,e0,e3,e7⟩ K2 qM iu vL Il;have hv:rules.l[i]?=some rules.l[i]:=ec hi;generalize rules.l[i]=r at hv;have lD:=iA hv;have agA:=(sF r lD).2.2;have hvb:(varsOf r).length<=cu:=by unfold cu;omega
    rw [F.bZ.eC];simp only [e0,e7,aS,reduceAdd,reduceEqDiff,reduceIte,bl hi]
    refine nq (fun k e h3=>∃ j,k=(varsOf r).length-j/\j<=(varsOf r).length/\n ^ (j-1)<=65536/\h3.get 0=some (.cells (aB s))/\1<=h3.next/\e 0=an aO 3 rules/\e 3 = .ptr 0 0/\e 7 = .int .i64 (i:Int)/\e 8 = .int .i64 ((n ^ j:Nat):Int)/\e 9 = .int .i64 (j:Int)) ((varsOf r).length)
     ⟨0,rfl,zero_le _,by simp,q0,qn,e0,e3,e7,rfl,rfl⟩ ?_
    rintro k e h3 ⟨j,hk,hj,NW,q0,qn,e0,e3,e7,e8,e9⟩;have lz:ah none (.ptr 0 0) h3=some (.int .i64 (n:Int)):=by rw [ai q0,<- hn];rfl
    have hn8:n ^ j<=65536*64:=by
     cases j with
     |zero=>simp
     |succ j=>rw [Nat.pow_succ];simp only [Nat.add_sub_cancel] at NW;exact Nat.mul_le_mul NW ov
    have out:∀ (e':Env),e' 0=an aO 3 rules->e' 3 = .ptr 0 0->e' 7 = .int .i64 (i:Int)->e' 8 = .int .i64 ((n ^ j:Nat):Int)->(65536<n ^ j\/j=(varsOf r).length)->F.bZ.vO K2 (.exit 4) ⟨e',69,[],h3⟩=true:=by
     intro e' e0 e3 e7 e8 agN;rw [F.bZ.iM];simp only [e8,aS,reduceAdd,reduceEqDiff,reduceIte];by_cases hbg:65536<n ^ j
     ·simp only [ey (by omega:(65536:Int)<((n ^ j:Nat):Int)),aF];rw [vL,F.bZ.k9];simp only [bg,reduceEqDiff,reduceIte];exact fin 5 _ (.inl (e5' (.inr (.inr ⟨r,lD,by rw [sV];have:=Ac n1 hj;omega⟩))))
     ·have hjv:=agN.resolve_left hbg;simp only [ep (by omega:¬ (65536:Int)<((n ^ j:Nat):Int)),aE,e7,aK hi Hu,aq];refine qM _ _ ⟨q0,qn,fun q hq=>?_,e0,e3,rfl⟩;rw [take_add_one,hv] at hq;rcases mem_append.1 hq with hq|hq
      ·exact qv q hq
      ·simp only [toList_some,mem_singleton] at hq;subst hq;rw [<- hjv];omega
    rw [F.bZ.kE];simp only [e0,e7,aS,reduceAdd,reduceEqDiff,reduceIte,aU rules hi,cX ei hv];simp only [aO];refine aj (bU (iF r lD) fun x jG=>?_);simp only [aS,reduceAdd,reduceEqDiff,reduceIte,jG,e8,e9];by_cases Oy:j<(varsOf r).length
    ·simp only [bl Oy,aF,aS,reduceAdd,reduceEqDiff,reduceIte];by_cases hle:n ^ j<=65536
     ·have hm:((n ^ j:Nat):Int)*(n:Int)=((n ^ (j+1):Nat):Int):=(by rw [Nat.pow_succ,Int.natCast_mul]);have hmul:n ^ j*n<=65536*64:=Nat.mul_le_mul hle ov;have si:n ^ (j+1)=n ^ j*n:=Nat.pow_succ n j;have K6:aL .mul (.int .i64 ((n ^ j:Nat):Int)) (.int .i64 (n:Int))=some (.int .i64 ((n ^ (j+1):Nat):Int)):=by rw [yh (by rw [hm];omega) (by rw [hm];omega),hm]
      simp only [ey (by omega:((n ^ j:Nat):Int)<=65536),aF,e3,e8,e9,aS,reduceAdd,reduceEqDiff,reduceIte,lz,K6,aK Oy hvb];exact cO.2 ⟨(varsOf r).length-(j+1),by omega,rfl,rfl,j+1,rfl,by omega,by simpa using hle,q0,qn,e0,e3,e7,rfl,rfl⟩
     ·simp only [ep (by omega:¬ ((n ^ j:Nat):Int)<=65536),aE,uG];exact out _ e0 e3 e7 e8 (.inl (by omega))
    ·have hje:j=(varsOf r).length:=(by omega);simp only [ep (by omega:¬ (j:Int)<((varsOf r).length:Int)),aE,uG];exact out _ e0 e3 e7 e8 (.inr hje)
   ·rintro e h2 ⟨q0,qn,qv,e0,e3,e7⟩ K2 iu;rw [kB (dK _)] at qv;have l0':ah (some 2) (.ptr 0 0) h2=some (.agg (aB s)):=by rw [ai q0,cQ (cs:=aB s) (n:=2) rfl]
    rw [F.bZ.eC];simp only [e0,e7,aS,reduceAdd,reduceEqDiff,reduceIte,aX];rw [iu,F.bZ.cZ];simp only [aS,reduceAdd,reduceEqDiff,reduceIte,e0,e3,l0'];refine aj (gN qd tC gI (nF uu).1 fun a h4' rs1 x4 o4 Y2=>?_);obtain ⟨rs',Px⟩:∃ rs',rs'=rs1++mK rules.l (dG rules.l):=⟨_,rfl⟩
    rw [<- Px] at o4;have tF:rs'.map dz=s.aY.l.map dz++fW rules.l (dG rules.l):=by rw [Px,map_append,pg,Y2]
    simp only [aS,reduceAdd,reduceEqDiff,reduceIte]
    have aaM:(⟨s.size,some rs'⟩:eG).ok:=by
     have hl:rs'.length=s.aY.l.length+(dG rules.l).length:=(by have:=congrArg List.length tF;simpa [fW] using this);refine ⟨by show rs'.length<=cu;unfold cu;omega,fun r hr=>?_⟩;have hd:dz r ∈ s.aY.l.map dz++fW rules.l (dG rules.l):=by rw [<- tF];exact List.mem_map_of_mem hr
     have agO:=(nF uu).2;have aqn:=(nF uu).1;rcases mem_append.1 hd with hd|hd
     ·obtain ⟨q,hq,NY⟩:=mem_map.1 hd;unfold dz at NY;simp only [Prod.mk.injEq] at NY;have Vg:=agO.2 q hq;refine ⟨by rw [<- NY.1];exact Vg.1,?_,fun t ht=>?_⟩
      ·have h1:=congrArg List.length NY.2.2;simp only [length_map] at h1;rw [<- h1];exact Vg.2.1
      ·have h1:t.l ∈ q.bW.l.map Sl.l:=(by rw [NY.2.2];exact List.mem_map_of_mem ht);obtain ⟨u,hu,hue⟩:=mem_map.1 h1;rw [<- hue];exact Vg.2.2 u hu
     ·obtain ⟨nm,nx,NY⟩:=mem_map.1 hd;unfold dz at NY;simp only [Prod.mk.injEq] at NY;obtain ⟨_,q,hq,ve,_⟩:=qS gI ((dJ _).1 nx);have ZZ:r.bW.l = []:=by have:=NY.2.2;simpa using this.symm
      refine ⟨by rw [<- NY.1,<- ve];have:=UF (Gv (sF q hq).1);unfold cu;omega,by rw [ZZ];exact zero_le _,fun t ht=>by rw [ZZ] at ht;cases ht⟩
    refine aj (Iy o4 aaM ?_);simp only [aS,reduceAdd,reduceEqDiff,reduceIte];have hev:=DC hg gI uu agM tF
    cases hvd:dU ⟨s.size,some rs'⟩ with
    |false=>
     simp only [Bool.not_false,aF];refine fin 5 _ (.inl (e5' ?_));have:(8<s.aY.l.length+(dG rules.l).length\/∃ r ∈ rules.l,4096<s.size.toNat ^ r.args.l.length):=Decidable.not_not.1 fun h=>by rw [hev.2 h] at hvd;cases hvd
     rcases this with h|h
     ·exact .inl h
     ·exact .inr (.inl h)
    |true=>
     simp only [Bool.not_true,aE];have agP:=hev.1 hvd;refine fin 0 _ (.inr ⟨rfl,hg,uu,h4,?_⟩);rintro (h|h|⟨r,hr,h⟩)
     ·exact agP (.inl h)
     ·exact agP (.inr h)
     ·rw [sV] at h;have:=qv r hr;omega
 have main:=gen (fun o h'=>yes (∃ e,o = .ret (.int .i64 e)/\(By rules.l s e\/(e=0/\gW rules.l s)))) (fun e h' he=>cO.2 ⟨e,rfl,he⟩);refine main.frozen (by simp [AV.cN,AV.pure,bI dW,ew]) fun o h' ho=>?_;obtain ⟨e,rfl,he⟩:=cO.1 ho;refine ⟨_,_,rfl,.scalar _ rfl,?_⟩;rcases he with he|⟨rfl,he⟩
 ·exact abz e he
 ·exact GF he
set_option maxHeartbeats 1000000 in
theorem Eo{k:Nat}(h1:1<=n)(h2:n<=64)(hk:k<=12)(hc:n ^ k<=4096){ts:Sl (Sl Int)}(hl:ts.l.length<=cu)(ht:yT n k ts.l=true)
  (hK:∀ h' b,bG h h'->h.next<=b->b<h'.next->h'.get b=some (.cells ((bitsOf n k ts.l).map bv))->K (.ret (.agg [.str nm,.int .i64 (k:Int),.slice b 0 (n ^ k) 1])) h'=true):Sem TP 162 [.int .i64 (n:Int),.str nm,.int .i64 (k:Int),an eu 1 ts] h K:=by
 have WY:k<=cu:=by unfold cu;omega
 refine F.sQ ?_;rw [F.tU];refine aj (gK h1 h2 WY fun v v1 v2=>?_);have hv:=v1 hc;subst hv;simp only [gJ,EN (show n ^ k<=1000000 by omega),iL,ag.aV];have ha:∀ b:Nat,jM [(.str []),(.int .i64 0),.au] [(0,1),(1,1),(2,1)] [.str nm,.int .i64 (k:Int),.slice b 0 (n ^ k) 1]=some (.agg [.str nm,.int .i64 (k:Int),.slice b 0 (n ^ k) 1]):=fun _=>rfl;simp only [ha,aq];have g0:((ag.alloc h (.cells [(.str []),(.int .i64 0),.au])).alloc (.cells ((replicate (n ^ k) false).map bv))).get h.next=some (.cells [(.str []),(.int .i64 0),.au]):=by rw [ag.aW,ag.aV,if_neg (by omega)];exact aD _ _
 have g1:((ag.alloc h (.cells [(.str []),(.int .i64 0),.au])).alloc (.cells ((replicate (n ^ k) false).map bv))).get (h.next+1)=some (.cells ((replicate (n ^ k) false).map bv)):=aD _ _;have gn:((ag.alloc h (.cells [(.str []),(.int .i64 0),.au])).alloc (.cells ((replicate (n ^ k) false).map bv))).next=h.next+2:=rfl
 have gx:bG h ((ag.alloc h (.cells [(.str []),(.int .i64 0),.au])).alloc (.cells ((replicate (n ^ k) false).map bv))):=(bG.alloc _ _).trans (bG.alloc _ _);generalize ((ag.alloc h (.cells [(.str []),(.int .i64 0),.au])).alloc (.cells ((replicate (n ^ k) false).map bv)))=H0 at g0 g1 gn gx ⊢;obtain ⟨H,hs,p2,go,hn⟩:=cR (h:=H0) (zs:=[.str [],.int .i64 0,.au]) (cs:=[.str nm,.int .i64 (k:Int),.slice (h.next+1) 0 (n ^ k) 1]) (n:=3) rfl rfl rfl;rw [gn] at hs p2 go hn;have p0:H.get h.next=some (.cells [(.str []),(.int .i64 0),.au]):=by rw [go _ (by omega)];exact g0
 have p1:H.get (h.next+1)=some (.cells ((replicate (n ^ k) false).map bv)):=by rw [go _ (by omega)];exact g1
 have px:∀ b,b<h.next->H.get b=h.get b:=fun b hb=>by rw [go b (by omega)];exact gx.get b hb
 simp only [gn,hs,aq]
 refine aG 0 ts.l.length (zero_le _) (fun i e h'=>∃ d,bitsOf n k ts.l=kI n (ts.l.drop i) d/\d.length=n ^ k/\h'.get h.next=some (.cells [(.str []),(.int .i64 0),.au])/\h'.get (h.next+1)=some (.cells (d.map bv))/\h'.get (h.next+2)=some (.cells [.str nm,.int .i64 (k:Int),.slice (h.next+1) 0 (n ^ k) 1])/\(∀ b,b<h.next->h'.get b=h.get b)/\h'.next=h.next+3 /\
  e 0 = .int .i64 (n:Int)/\e 3=an eu 1 ts/\e 8 = .ptr h.next 0/\e 9 = .ptr (h.next+2) 0/\e 10 = .int .i64 (i:Int)) ⟨_,rfl,by simp,p0,p1,p2,px,by omega,rfl,rfl,rfl,rfl,rfl⟩ ?_ ?_
 ·rintro i e h' _ hi ⟨d,hd,Ct,q0,q1,q2,qf,qn,e0,e3,e8,e9,jH⟩ K' oA hx hr hp;have hv:ts.l[i]?=some ts.l[i]:=ec hi;generalize ts.l[i]=t at hv;obtain ⟨z6,NU⟩:=Pf ht hv;have sj:iy n t.l<n ^ k:=by have:=lX NU;rwa [z6] at this
  rw [Cs hv] at hd;have l2:ah none (.ptr (h.next+2) 2) h'=some (.slice (h.next+1) 0 (n ^ k) 1):=by rw [ai q2];rfl
  rw [F.ef.aT];simp only [e0,e3,e9,jH,aS,reduceAdd,reduceEqDiff,reduceIte,bl hi,aU ts hi,ke hv,l2];refine aj (iC h1 (by omega) (by rw [z6];exact hc) NU ?_);simp only [gJ,l2,aq,AV.beq_refl,Bool.and_self,if_true,kF sj,xo q1 (show iy n t.l<d.length by omega),aK hi hl,jH];exact oA _ _ ⟨_,hd,by simpa using Ct,by rw [ag.aP,if_neg (by omega)];exact q0,by rw [ag.aP,if_pos rfl],by rw [ag.aP,if_neg (by omega)];exact q2,fun b hb=>by rw [ag.aP,if_neg (by omega)];exact qf b hb,by rw [ag.bq];exact qn,e0,e3,e8,e9,rfl⟩
 ·rintro e h' ⟨d,hd,Ct,q0,q1,q2,qf,qn,e0,e3,e8,e9,jH⟩ K' hx;rw [F.ef.aT];simp only [e3,jH,aS,reduceAdd,reduceEqDiff,reduceIte,aX];rw [hx,F.ef.aJ];rw [drop_of_length_le (dK _)] at hd;simp only [kI] at hd;have l2:ah (some 3) (.ptr (h.next+2) 0) h'=some (.agg [.str nm,.int .i64 (k:Int),.slice (h.next+1) 0 (n ^ k) 1]):=by rw [ai q2];rfl
  have st:bh 3 (.ptr h.next 0) (.agg [.str nm,.int .i64 (k:Int),.slice (h.next+1) 0 (n ^ k) 1]) h'=some (h'.set h.next (.cells [.str nm,.int .i64 (k:Int),.slice (h.next+1) 0 (n ^ k) 1])):=by
   rw [cJ (n:=3) q0 rfl rfl (by simp)];rfl
  have r0:(h'.set h.next (.cells [.str nm,.int .i64 (k:Int),.slice (h.next+1) 0 (n ^ k) 1])).get h.next=some (.cells [.str nm,.int .i64 (k:Int),.slice (h.next+1) 0 (n ^ k) 1]):=by rw [ag.aP,if_pos rfl]
  have r1:(h'.set h.next (.cells [.str nm,.int .i64 (k:Int),.slice (h.next+1) 0 (n ^ k) 1])).get (h.next+1)=some (.cells (d.map bv)):=by rw [ag.aP,if_neg (by omega)];exact q1
  have rx:bG h (h'.set h.next (.cells [.str nm,.int .i64 (k:Int),.slice (h.next+1) 0 (n ^ k) 1])):=⟨by rw [ag.bq];omega,fun b hb=>by rw [ag.aP,if_neg (by omega)];exact qf b hb⟩
  have rn:(h'.set h.next (.cells [.str nm,.int .i64 (k:Int),.slice (h.next+1) 0 (n ^ k) 1])).next=h.next+3:=by rw [ag.bq];exact qn
  generalize (h'.set h.next (.cells [.str nm,.int .i64 (k:Int),.slice (h.next+1) 0 (n ^ k) 1]))=H2 at st r0 r1 rx rn;have l3:ah (some 3) (.ptr h.next 0) H2=some (.agg [.str nm,.int .i64 (k:Int),.slice (h.next+1) 0 (n ^ k) 1]):=by rw [ai r0];rfl
  simp only [bg,reduceEqDiff,reduceIte,e8,e9,l2,st,aq,Jn,l3,oneOf];exact hK H2 (h.next+1) rx (by omega) (by omega) (by rw [hd];exact r1)
theorem fN.nil(k0:Nat)(h:ag):fN k0 h .au []:=⟨.nil,fun p hp=>(by cases hp),fun i j s t hi=>(by simp at hi)⟩
theorem fN.low{ts:List dX}(t:fN k0 h a ts){d:Nat}(hd:d<k0)(x:mP):fN k0 (h.set d x) a ts:=
 t.eW (fun b b1 _=>by rw [ag.aP,if_neg (by omega)]) (by rw [ag.bq];exact dK _)
theorem fN.push{k0:Nat}{h:ag}{a:AV}{ts:List dX}(t:fN k0 h a ts)(hk:k0<=h.next)(rE:(ts.length+1)*48<=dw)(q:dX)(q1:k0<=q.mc)(q2:q.mc<h.next)(q3:eP a≠some q.mc)(q4:h.get q.mc=some (.cells (q.bits.map bv)))(q5:∀ p ∈ ts,p.mc≠q.mc) :
  ∃ a' h',cz 3 48 a (.slice h.next 0 1 3) (h.alloc (.cells (nh q)))=some (a',h')/\fN k0 h' a' (ts++[q])/\(∀ c,c<h.next->eP a≠some c->h'.get c=h.get c)/\h.next<=h'.next/\(∀ h0,bG h0 h->h0.next<=k0->bG h0 h')/\(∀ c,eP a'=some c->h.next<=c):=by
 obtain ⟨a',h',e1,o1,f1,n1,x1,b1⟩:=t.own.push Dy No hk rE q;refine ⟨a',h',e1,⟨o1,fun p hp=>?_,fun i j s u hi hj hb=>?_⟩,f1,n1,x1,b1⟩
 ·have vK:k0<=p.mc/\p.mc<h.next/\eP a≠some p.mc/\h.get p.mc=some (.cells (p.bits.map bv)):=by
   rcases mem_append.1 hp with hp|hp
   ·exact t.cell p hp
   ·rw [mem_singleton] at hp;subst hp;exact ⟨q1,q2,q3,q4⟩
  obtain ⟨d1,d2,d3,d4⟩:=vK;exact ⟨d1,by omega,fun hb=>by have:=b1 _ hb;omega,by rw [f1 _ d2 d3];exact d4⟩
 ·rw [getElem?_append] at hi hj;split at hi<;>split at hj
  ·exact t.inj i j s u hi hj hb
  ·rename_i h1 h2
   have hu:u=q:=by
    rw [getElem?_singleton] at hj;split at hj
    ·cases hj;rfl
    ·cases hj
   exact absurd (by rw [<- hu];exact hb) (q5 s (iA hi))
  ·rename_i h1 h2
   have hs:s=q:=by
    rw [getElem?_singleton] at hi;split at hi
    ·cases hi;rfl
    ·cases hi
   exact absurd (by rw [<- hs];exact hb.symm) (q5 u (iA hj))
  ·rename_i h1 h2;rw [getElem?_singleton] at hi hj;split at hi
   ·split at hj
    ·omega
    ·cases hj
   ·cases hi
set_option maxHeartbeats 1000000 in
theorem Py{k:Nat}(n1:1<=n)(n2:n<=64){rs:List Rel}(o:Own bO 3 k h a rs)(Pa:rs.length<=1000)(yK:∀ r ∈ rs,oG n r=true)(Vw:∀ r ∈ rs,r.bW.l.length<=cu)
  (hK:∀ b w h' ts cs,bG h h'->h.next<=b->b<h'.next->h'.get b=some (.cells cs)->cs[2]?=some w->fN h.next h' w ts->ts.map c7=rs.map (lY n)->K (.ret (.ptr b 0)) h'=true):Sem TP 115 [.agg [.int .i64 (n:Int),a]] h K:=by
 have hm:dw=140737488355328:=rfl;have j8:rs.length<=cu:=by unfold cu;omega
 obtain ⟨Rb,ho2⟩:=qR o;have Is:bE [.int .i64 (n:Int),a]=true:=by simp only [bE,Bool.and_true] at Rb ⊢;rw [Rb];rfl
 refine F.AZ ?_;rw [F.Dg];simp only [cG Is,aq];have b0:(h.alloc (.cells [.int .i64 (n:Int),a])).get h.next=some (.cells [.int .i64 (n:Int),a]):=aD _ _
 have bn:(h.alloc (.cells [.int .i64 (n:Int),a])).next=h.next+1:=rfl
 have bx:bG h (h.alloc (.cells [.int .i64 (n:Int),a])):=bG.alloc _ _;generalize (h.alloc (.cells [.int .i64 (n:Int),a]))=H at b0 bn bx ⊢;have ls:ah none (.ptr h.next 0) H=some (.int .i64 (n:Int)):=by rw [ai b0];rfl
 have lr:ah none (.ptr h.next 1) H=some a:=by rw [ai b0];rfl
 have ha:jM [(.int .i64 0),(.int .i64 0),.au,.au,.au,(.bool false)] [(0,1),(1,1)] [.int .i64 (n:Int),.int .i64 (rs.length:Int)]=some (.agg [.int .i64 (n:Int),.int .i64 (rs.length:Int),.au,.au,.au,.bool false]):=rfl;simp only [aS,reduceAdd,reduceEqDiff,reduceIte,ls,lr,o.len,ha,cG (show bE [.int .i64 (n:Int),.int .i64 (rs.length:Int),.au,.au,.au,.bool false]=true from rfl),bn];have c1:=aD H (.cells [.int .i64 (n:Int),.int .i64 (rs.length:Int),.au,.au,.au,.bool false]);have cx:=bG.alloc H (.cells [.int .i64 (n:Int),.int .i64 (rs.length:Int),.au,.au,.au,.bool false]);have cn:(H.alloc (.cells [.int .i64 (n:Int),.int .i64 (rs.length:Int),.au,.au,.au,.bool false])).next=h.next+2:=by rw [ag.aV,bn]
 generalize (H.alloc (.cells [.int .i64 (n:Int),.int .i64 (rs.length:Int),.au,.au,.au,.bool false]))=H1 at c1 cx cn ⊢;rw [bn] at c1;have c0:H1.get h.next=some (.cells [.int .i64 (n:Int),a]):=by rw [cx.get _ (by omega)];exact b0
 refine aG 0 rs.length (zero_le _) (fun i e h'=>∃ w ts,h'.get h.next=some (.cells [.int .i64 (n:Int),a])/\h'.get (h.next+1)=some (.cells [.int .i64 (n:Int),.int .i64 (rs.length:Int),w,.au,.au,.bool false])/\fN (h.next+2) h' w ts/\ts.map c7=(rs.take i).map (lY n)/\bG h h'/\h.next+2<=h'.next/\e 1 = .ptr h.next 0/\e 3 = .ptr (h.next+1) 0/\e 4 = .int .i64 (i:Int))
  ⟨.au,[],c0,c1,.nil _ _,rfl,bx.trans cx,by omega,rfl,rfl,rfl⟩ ?_ ?_
 ·rintro i e h' _ hi ⟨w,ts,q0,q1,tA,Iw,qx,qn,e1,e3,e4⟩ K' oA hx hr hp;have QS:rs[i]?=some rs[i]:=ec hi;generalize rs[i]=r at QS;have lD:=iA QS;obtain ⟨kk,hk,Bn,Wi,hkt⟩:=yz (yK r lD);have Wd:bO r = [.str r.name,.int .i64 (kk:Int),an eu 1 r.bW]:=by unfold bO;rw [hk]
  have ls:ah none (.ptr h.next 0) h'=some (.int .i64 (n:Int)):=by rw [ai q0];rfl
  have lr:ah none (.ptr h.next 1) h'=some a:=by rw [ai q0];rfl
  have l2:ah none (.ptr (h.next+1) 2) h'=some w:=by rw [ai q1];rfl
  have ox:=o.ext qx;obtain ⟨ba,_,hba,ia,_,la⟩:=ox.get iE QS;have la0:=la 0 (by omega);have la1:=la 1 (by omega);have R7:=la 2 (by omega);rw [Wd] at la0 la1 R7;rw [Nat.add_zero] at la0;have z6:ts.length=i:=by have:=congrArg List.length Iw;rw [length_map,length_map,length_take,Nat.min_eq_left (by omega)] at this;exact this
  rw [F.jw.aT];simp only [e1,e3,e4,aS,reduceAdd,reduceEqDiff,reduceIte,lr,ls,o.len,bD,l2,bl hi,ia .i64,la0,la1,R7];refine aj (Eo n1 n2 Bn Wi (Vw r lD) hkt fun h3 b x3 y1 y2 y3=>?_);have q03:h3.get h.next=some (.cells [.int .i64 (n:Int),a]):=by rw [x3.get _ (by omega)];exact q0
  have q13:h3.get (h.next+1)=some (.cells [.int .i64 (n:Int),.int .i64 (rs.length:Int),w,.au,.au,.bool false]):=by rw [x3.get _ (by omega)];exact q1
  have l23:ah none (.ptr (h.next+1) 2) h3=some w:=by rw [ai q13];rfl
  have tA3:=tA.ext x3;have hb5:(bitsOf n kk r.bW.l).length=n ^ kk:=nu _ _ _;obtain ⟨a5,h5,p5,t5,f5,n5,x5,b5⟩:=tA3.push (by have:=x3.next;omega) (by rw [hm];omega) ⟨r.name,kk,b,bitsOf n kk r.bW.l⟩ (by show h.next+2<=b;omega) y2 (fun e=>by have:=tA.own.lt e;simp only at this;omega) y3 (fun p hp e=>by have:=(tA.cell p hp).2.1;simp only at e;omega)
  have abA:ig [(.str []),(.int .i64 0),.au] [(0,3)] [.agg [.str r.name,.int .i64 (kk:Int),.slice b 0 (n ^ kk) 1]]=some (nh ⟨r.name,kk,b,bitsOf n kk r.bW.l⟩):=by
   unfold nh;simp only [hb5];rfl
  have lF:∀ d,d<h.next+2->eP w≠some d:=fun d hd hb=>by have:=tA.own.ge hb;omega
  have s1:h5.get (h.next+1)=some (.cells [.int .i64 (n:Int),.int .i64 (rs.length:Int),w,.au,.au,.bool false]):=by rw [f5 _ (by have:=x3.next;omega) (lF _ (by omega))];exact q13
  have c5:=t5.own.GN
  have st:bh 1 (.ptr (h.next+1) 2) a5 h5=some (h5.set (h.next+1) (.cells [.int .i64 (n:Int),.int .i64 (rs.length:Int),a5,.au,.au,.bool false])):=by
   rw [cJ (n:=1) s1 c5.2.1 c5.1 (by simp),c5.2.2];rfl
  simp only [aS,reduceAdd,reduceEqDiff,reduceIte,l23,AV.beq_refl,Bool.and_self,if_true,abA,p5,e3,e4,bD,st,aK hi j8];refine oA _ _ ⟨a5,_,?_,by rw [ag.aP,if_pos rfl],t5.low (by omega) _,?_,(x5 h (qx.trans x3) (by omega)).set (by omega) _,by rw [ag.bq];have:=x3.next;omega,e1,e3,rfl⟩
  ·rw [ag.aP,if_neg (by omega),f5 _ (by have:=x3.next;omega) (lF _ (by omega))];exact q03
  ·rw [map_append,Iw,take_add_one,QS,map_append];simp only [map_cons,map_nil,toList_some,c7,lY];rw [show r.arity.toNat=kk by omega]
 ·rintro e h' ⟨w,ts,q0,q1,tA,Iw,qx,qn,e1,e3,e4⟩ K' hx;rw [kB (dK _)] at Iw;have lr:ah none (.ptr h.next 1) h'=some a:=by rw [ai q0];rfl
  rw [F.jw.aT];simp only [e1,e4,aS,reduceAdd,reduceEqDiff,reduceIte,lr,o.len,aX];rw [hx,F.jw.aJ];simp only [bg,reduceEqDiff,reduceIte,e3];exact hK (h.next+1) w h' ts _ qx (by omega) (by omega) q1 rfl ⟨tA.own.R3 (by omega),fun t ht=>by obtain ⟨d1,d2,d3,d4⟩:=tA.cell t ht;exact ⟨by omega,d2,d3,d4⟩,tA.inj⟩ Iw
theorem G7{k:Nat}(n1:1<=n)(n2:n<=64){rs:List Rel}(o:Own bO 3 k h a rs)(Pa:rs.length<=1000)(yK:∀ r ∈ rs,oG n r=true)(Vw:∀ r ∈ rs,r.bW.l.length<=cu)
  (hK:∀ w h' ts,bG h h'->fN h.next h' w ts->ts.map c7=rs.map (lY n)->K (.ret w) h'=true):Sem TP 57 [.agg [.int .i64 (n:Int),a]] h K:=by
 obtain ⟨Rb,ho2⟩:=qR o;have Is:bE [.int .i64 (n:Int),a]=true:=by simp only [bE,Bool.and_true] at Rb ⊢;rw [Rb];rfl
 refine F.tT ?_;rw [F.vA];have b0:(h.alloc (.cells [.int .i64 (n:Int),a])).get h.next=some (.cells [.int .i64 (n:Int),a]):=aD _ _
 have bx:bG h (h.alloc (.cells [.int .i64 (n:Int),a])):=bG.alloc _ _;have Il:kC (some 2) [.int .i64 (n:Int),a] 0=some (.agg [.int .i64 (n:Int),a]):=rfl;simp only [cG Is,aq,ai b0,Il];refine aj (Py n1 n2 (o.ext bx) Pa yK Vw fun b w h' ts cs x1 y1 y2 y3 y4 tA Iw=>?_);have lw:ah none (.ptr b 2) h'=some w:=by rw [ai y3,nJ];exact y4
 simp only [aS,reduceAdd,reduceEqDiff,reduceIte,bD,lw];exact hK w h' ts (bx.trans x1) ⟨tA.own.R3 bx.next,fun t ht=>by obtain ⟨d1,d2,d3,d4⟩:=tA.cell t ht;exact ⟨Nat.le_trans bx.next d1,d2,d3,d4⟩,tA.inj⟩ Iw
def pq(rs:List aR)(s:eG)(nm:bQ):Nat:=s.aY.l.length+(dG rs).idxOf nm
theorem yG{rs':List Rel}(tF:rs'.map dz=s.aY.l.map dz++fW rs (dG rs)){q:Rel}(hq:q ∈ rs') :
  (∃ p ∈ s.aY.l,p.name=q.name/\p.arity=q.arity/\p.bW.l.map Sl.l=q.bW.l.map Sl.l)\/(q.name ∈ ax rs/\q.arity=(jq rs q.name:Int)/\q.bW.l = []):=by
 have hd:dz q ∈ s.aY.l.map dz++fW rs (dG rs):=by rw [<- tF];exact List.mem_map_of_mem hq
 rcases mem_append.1 hd with hd|hd
 ·obtain ⟨p,hp,e⟩:=mem_map.1 hd;unfold dz at e;simp only [Prod.mk.injEq] at e;exact .inl ⟨p,hp,e.1,e.2.1,e.2.2⟩
 ·obtain ⟨nm,nx,e⟩:=mem_map.1 hd;unfold dz at e;simp only [Prod.mk.injEq] at e;refine .inr ⟨by rw [<- e.1];exact (dJ rs).1 nx,by rw [<- e.1];exact e.2.1.symm,?_⟩;have:=e.2.2;simpa using this.symm
theorem G8{n:Nat}:∀ {l m:List (Sl Int)} (d:List Bool),l.map Sl.l=m.map Sl.l->kI n l d=kI n m d
 |[],[],d,_=>rfl
 |[],_ :: _,d,h=>by simp at h
 |_ :: _,[],d,h=>by simp at h
 |t :: l,u :: m,d,h=>by
  simp only [map_cons,List.cons.injEq] at h;rw [kI,kI,h.1,G8 _ h.2]
theorem Pz{k:Nat}{l m:List (Sl Int)}(h:l.map Sl.l=m.map Sl.l):bitsOf n k l=bitsOf n k m:=G8 _ h
section
variable {rs:List aR} {s:eG} {rs':List Rel} {n:Nat} {m:fy}
theorem K9(ho:gW rs s)(gI:dM rs []=some m)(tF:rs'.map dz=s.aY.l.map dz++fW rs (dG rs)):Nu s.size (rs'.map dz):=by
 have h5:=ho.JF;have:=(DC ho.iP gI ho.valid (fun h=>ho.names (.inr h)) tF).2 fun h=>h5 (h.elim .inl fun h=>.inr (.inl h));exact jS.1 this
theorem Y3(ho:gW rs s)(gI:dM rs []=some m)(hn:s.size=(n:Int))(tF:rs'.map dz=s.aY.l.map dz++fW rs (dG rs)){q:Rel}(hq:q ∈ rs'):oG n q=true:=by
 have:=(K9 ho gI tF).rel _ (List.mem_map_of_mem hq);rw [show s.size.toNat=n by omega] at this;exact G6.2 this
theorem JH(ho:gW rs s)(gI:dM rs []=some m)(tF:rs'.map dz=s.aY.l.map dz++fW rs (dG rs)):((rs'.map (lY n)).map iV.name).Nodup:=by
 have:=(K9 ho gI tF).names;rw [List.map_map] at this ⊢;exact this
theorem Lc(ho:gW rs s)(gI:dM rs []=some m)(hn:s.size=(n:Int))(tF:rs'.map dz=s.aY.l.map dz++fW rs (dG rs))(hr:r ∈ rs):kf n r (rs'.map (lY n)):=by
 have hp:=K9 ho gI tF;have hlen:rs'.length<=8:=by have:=hp.kH;simpa using this
 refine ⟨by rw [length_map];unfold cu;omega,fun c hc=>Bv (yE ho.iP hr hc),fun c hc k0=>?_⟩;have u0:=ri hr hc k0;have sV:s.size.toNat=n:=by omega
 by_cases hd:c.name ∈ ax rs
 ·obtain ⟨_,q,hq,ve,zk⟩:=qS gI hd
  have hl:q.args.l.length=c.args.l.length:=by
   have:=l9 gI (kW hq) (by rw [ve];exact u0);omega
  refine ⟨?_,fun t ht Em=>?_⟩
  ·rw [<- hl,<- sV];exact Nat.le_of_not_lt fun h=>ho.JF (.inr (.inl ⟨q,hq,h⟩))
  ·obtain ⟨p,vK,rfl⟩:=mem_map.1 ht;replace Em:p.name=c.name:=Em;show (bitsOf n p.arity.toNat p.bW.l).length=_;rw [nu];rcases yG tF vK with ⟨u,hu,WQ,_⟩|⟨_,ha,_⟩
   ·exact absurd (.inr ⟨u,hu,by rw [WQ,Em];exact hd⟩) ho.names
   ·rw [Em,zk,hl] at ha;congr 1;omega
 ·cases hf:s.aY.l.find? (nC c.name (c.args.l.length:Int)) with
  |none=>exact absurd (.inl ⟨_,u0,hd,hf⟩) ho.names
  |some q=>
   obtain ⟨hq,ve,hqa⟩:=yF hf;obtain ⟨i,hi⟩:=mem_iff_getElem?.1 hq;have Hu:=xE ho.valid hi;rw [sV] at Hu;obtain ⟨k,hk,Bn,Wi,hkt⟩:=yz Hu;have hkl:k=c.args.l.length:=by omega
   refine ⟨by rw [<- hkl];exact Wi,fun t ht Em=>?_⟩;obtain ⟨p,vK,rfl⟩:=mem_map.1 ht;replace Em:p.name=c.name:=Em;show (bitsOf n p.arity.toNat p.bW.l).length=_;rw [nu];rcases yG tF vK with ⟨u,hu,WQ,hua,_⟩|⟨hh,_,_⟩
   ·have h1:=uh ho.valid hu;have h2:=uh ho.valid hq;rw [WQ,Em] at h1;rw [ve,h1] at h2;have:=Option.some.inj h2;rw [this] at hua;congr 1;omega
   ·exact absurd (by rw [<- Em];exact hh) hd
theorem abB(ho:gW rs s)(gI:dM rs []=some m)(tF:rs'.map dz=s.aY.l.map dz++fW rs (dG rs))(nx:nm ∈ ax rs):∃ q,rs'[pq rs s nm]?=some q/\q.name=nm/\q.arity=(jq rs nm:Int)/\q.bW.l = []:=by
 have hd:=(dJ rs).2 nx;have h1:(dG rs).idxOf nm<(dG rs).length:=idxOf_lt_length_of_mem hd
 have h2:(rs'.map dz)[pq rs s nm]?=some (nm,(jq rs nm:Int),[]):=by
  rw [tF,getElem?_append_right (by unfold pq;rw [length_map];omega)];unfold pq fW;rw [length_map,Nat.add_sub_cancel_left,getElem?_map,ec h1,getElem_idxOf];rfl
 rw [getElem?_map] at h2;obtain ⟨q,h3,h4⟩:=map_eq_some_iff.1 h2;unfold dz at h4;simp only [Prod.mk.injEq] at h4;exact ⟨q,h3,h4.1,h4.2.1,by simpa using h4.2.2⟩
theorem PA(ho:gW rs s)(gI:dM rs []=some m)(tF:rs'.map dz=s.aY.l.map dz++fW rs (dG rs)):ir n (pq rs s) rs (rs'.map (lY n)):=by
 refine ⟨JH ho gI tF,fun r hr=>?_⟩;obtain ⟨q,h1,h2,h3,h4⟩:=abB ho gI tF (List.mem_map_of_mem hr:r.name ∈ ax rs);refine ⟨lY n q,by rw [getElem?_map,h1];rfl,h2,?_⟩;show (bitsOf n q.arity.toNat q.bW.l).length=_;rw [nu,h3,GZ gI hr];rfl
theorem Vz(ho:gW rs s)(gI:dM rs []=some m)(tF:rs'.map dz=s.aY.l.map dz++fW rs (dG rs)):cA (rs'.map (lY n))=xN n s:=by
 have Ty:=JH (n:=n) ho gI tF;funext nm k;unfold xN
 cases hf:s.aY.l.find? (eX nm) with
 |some r=>
  have hr:=mem_of_find?_eq_some hf;have xz:=find?_some hf;simp only [eX,beq_iff_eq] at xz;have hd:dz r ∈ rs'.map dz:=by rw [tF];exact mem_append_left _ (List.mem_map_of_mem hr)
  obtain ⟨q,hq,NY⟩:=mem_map.1 hd;unfold dz at NY;simp only [Prod.mk.injEq] at NY;obtain ⟨i,hi⟩:=mem_iff_getElem?.1 hq;have:=ue Ty (j:=i) (t:=lY n q) (by rw [getElem?_map,hi];rfl) k;rw [show (lY n q).name=nm by show q.name=nm;rw [NY.1,xz]] at this;rw [this];show (bitsOf n q.arity.toNat q.bW.l).getD k false=_;rw [NY.2.1,Pz NY.2.2]
 |none=>
  unfold cA
  cases hft:(rs'.map (lY n)).find? (fun t=>t.name==nm) with
  |none=>rfl
  |some t=>
   have ht:=mem_of_find?_eq_some hft;have Em:=find?_some hft;rw [beq_iff_eq] at Em;obtain ⟨q,hq,rfl⟩:=mem_map.1 ht;replace Em:q.name=nm:=Em;rcases yG tF hq with ⟨p,hp,hpn,_⟩|⟨_,_,ZZ⟩
   ·rw [find?_eq_none] at hf;exact absurd (hf p hp) (by simp [eX,hpn,Em])
   ·show (bitsOf n q.arity.toNat q.bW.l).getD k false=false;rw [ZZ];exact Nn _ _
end
def CJ(ts:List iV):Nat:=(ts.map fun t=>t.bits.count false).sum
theorem Y4{ts:List iV}:∀ {j:Nat} {t:iV} {i:Nat},ts[j]?=some t->t.bits[i]?=some false->CJ (ts.set j ⟨t.name,t.k,t.bits.set i true⟩)<CJ ts:=by
 induction ts with
 |nil=>intro j t i h _;simp at h
 |cons q ts ih=>
  intro j t i h hb
  cases j with
  |zero=>
   simp at h;subst h;have:=EO q.bits i hb;unfold CJ;rw [set_cons_zero,map_cons,map_cons,sum_cons,sum_cons];simp only;omega
  |succ j=>
   rw [getElem?_cons_succ] at h;have:=ih h hb;unfold CJ at this ⊢;rw [set_cons_succ,map_cons,map_cons,sum_cons,sum_cons];omega
structure QT (n:Nat) (jx:bQ->Nat) (rs:List aR) (T:List iV) (s:List iV×Bool):Prop where
 ok:ir n jx rs s.1
 le:CJ s.1<=CJ T
 lt:s.2=true->CJ s.1<CJ T
 same:s.2=false->s.1=T
theorem agQ{jx:bQ->Nat}{T:List iV}(hr:r ∈ rs)(ha:mX n r vs){s:List iV×Bool}(q:QT n jx rs T s):QT n jx rs T (Hv n r (jx r.name) vs s):=by
 have lu:=Ph (r:=r) (vs:=vs) (j:=jx r.name) q.ok;unfold Hv at lu ⊢;obtain ⟨t,ht,Em,z6⟩:=q.ok.at_ r hr;rw [ht] at lu ⊢;simp only at lu ⊢;split
 ·exact q
 ·rename_i hb;rw [if_neg hb] at lu;split
  ·rename_i gd;rw [if_pos gd] at lu;have sj:jb n r vs<t.bits.length:=by rw [z6];exact GW ha
   have oI:t.bits[jb n r vs]?=some false:=by
    rw [getD_eq_getElem?_getD,ec sj] at hb;rw [ec sj];simp only [getD_some,not_eq_true] at hb;rw [hb]
   have eM:=Y4 ht oI;have:=q.le;exact ⟨lu,by show CJ (s.1.set _ _)<=_;omega,fun _=>by show CJ (s.1.set _ _)<_;omega,fun h=>by cases h⟩
  ·exact q
theorem Y5(n1:1<=n){jx:bQ->Nat}{qs:List aR}(Ek:∀ r ∈ qs,r ∈ rs){T:List iV}{s:List iV×Bool}(q:QT n jx rs T s):QT n jx rs T (nP n jx qs s):=by
 unfold nP;refine eE (P:=fun s=>QT n jx rs T s) q fun s r hr hs=>?_;unfold gu;exact eE (P:=fun s=>QT n jx rs T s) hs fun s i hi hs=>agQ (Ek r hr) (xL n1 (mem_range.1 hi)) hs
theorem VA(s:St):dV TP s Tryz.f16.results.toList=(match ah (some 2) (s.env 4) s.h,(some []:Option (List AV)) with|some v,some vs=>some (v :: vs)|_,_=>none):=by kernel_rfl
structure Lvl (n k0:Nat) (rs:List aR) (s:eG) (lv:eL.Lv) (T0:List iV) (NZ:List dX) (w:AV) (h0:ag) (l:Nat) (ts:List dX) (h:ag):Prop where
 run:RunT n (pq rs s) rs lv T0 l (ts.map c7)
 shape:ts.map dX.shape=NZ.map dX.shape
 akw:fN k0 h w ts
 old:∀ b,b<h0.next->(∀ t ∈ NZ,b≠t.mc)->h.get b=h0.get b
 next:h0.next<=h.next
set_option maxHeartbeats 2000000 in
theorem Nv{rules:Sl aR}{lv:eL.Lv}{T0:List iV}{NZ:List dX}{w:AV}{h0:ag}{d:Sl bQ}{y:Sl Int}{l N:Nat}{SB OB:Nat}{x3:AV}(n1:1<=n)(ov:n<=64)(hn:s.size=(n:Int))(iF:∀ r ∈ rules.l,r.kH)(hg:nK rules.l)(gI:dM rules.l []=some m)(vZ:∀ r ∈ rules.l,n ^ r.args.l.length<=4096)
  (PC:ir n (pq rules.l s) rules.l T0) (agR:∀ r ∈ rules.l,kf n r T0) (hT0:NZ.map c7=T0) (Pa:s.aY.l.length<=8) (hd:d.l=dG rules.l) (hy:y.l=tE (dG rules.l) lv) (hSB:∀ h ts,Lvl n k0 rules.l s lv T0 NZ w h0 l ts h->True)
  {e0:Env} {ts:List dX} (hl:Lvl n k0 rules.l s lv T0 NZ w h0 l ts h) (g0:h0.get SB=some (.cells (aB s))) (g1:SB<h0.next) (g2:∀ t ∈ NZ,SB≠t.mc) (g3:∀ t ∈ NZ,t.mc<h0.next)
  (q0:e0 0=an aO 3 rules) (q3:e0 3 = .ptr SB 0) (q4:e0 4=x3) (q5:e0 5 = .ptr OB 0) (q6:e0 6=w) (q7:e0 7=an encS 1 d) (q8:e0 8=an encI 1 y) (q10:e0 10 = .int .i64 (l:Int)) (q11:e0 11 = .bool true) {K:AX->St->Bool}
  (done:∀ (e:Env) h' nQ,Lvl n k0 rules.l s lv T0 NZ w h0 (l+1) nQ h'->e 0=an aO 3 rules->e 3 = .ptr SB 0->e 4=x3->e 5 = .ptr OB 0->e 6=w->e 7=an encS 1 d->e 8=an encI 1 y->e 10 = .int .i64 (l:Int)->F.bP.mO K (.exit 2) ⟨e,122,[],h'⟩=true) :
  bX (EV F.bP.L1) ⟨e0,122,[],h⟩ (F.bP.mO K)=true:=by
 have qd:=hg.kH;have Hu:rules.l.length<=cu:=by unfold cu;omega
 have sF:=gZ gI;have Ct:=mV rules.l;have Z1:d.l.length<=cu:=by rw [hd];unfold cu;omega
 have Ts:d.l.Nodup:=by rw [hd];exact xy (pW _)
 have Z2:=hl.run
 refine nq (fun mm e h'=>∃ (nQ:List dX) (fl:Bool),mm=(if fl=true then CJ (nQ.map c7)+1 else 0)/\vb n (pq rules.l s) (gz lv rules.l l) (ts.map c7) (nQ.map c7)/\(fl=false->nP n (pq rules.l s) (gz lv rules.l l) (nQ.map c7,false)=(nQ.map c7,false)) /\
   nQ.map dX.shape=NZ.map dX.shape/\fN k0 h' w nQ/\(∀ b,b<h0.next->(∀ t ∈ NZ,b≠t.mc)->h'.get b=h0.get b)/\h0.next<=h'.next/\ir n (pq rules.l s) rules.l (nQ.map c7) /\
   e 0=an aO 3 rules/\e 3 = .ptr SB 0/\e 4=x3/\e 5 = .ptr OB 0/\e 6=w/\e 7=an encS 1 d/\e 8=an encI 1 y/\e 10 = .int .i64 (l:Int)/\e 11 = .bool fl) (CJ (ts.map c7)+1)
  ⟨ts,true,rfl,.refl,fun h=>(by cases h),hl.shape,hl.akw,hl.old,hl.next,?_,q0,q3,q4,q5,q6,q7,q8,q10,q11⟩ ?_
 ·have key:∀ {t:Nat} {T:List iV},RunT n (pq rules.l s) rules.l lv T0 t T->ir n (pq rules.l s) rules.l T:=by
   intro t T h
   induction h with
   |zero=>exact PC
   |succ l T T' _ hr _ ih=>exact yC ih hr
  exact key Z2
 rintro mm e h' ⟨nQ,fl,K6,hre,ic,QZ,hA,hold,oA,lu,Pp,e3,e4,e5,e6,e7,e8,jH,jX⟩;rw [F.bP.eC];simp only [jX,cF]
 cases fl with
 |false=>
  simp only [aE,uG];exact done _ h' nQ ⟨.succ l _ _ Z2 hre (ic rfl),QZ,hA,hold,oA⟩ Pp e3 e4 e5 e6 e7 e8 jH
 |true=>
 simp only [aF]
 have Bx:∀ (u:List dX),u.map dX.shape=NZ.map dX.shape->∀ r ∈ rules.l,kf n r (u.map c7):=fun u hu r hr=>by
  have:=agR r hr;rw [<- hT0] at this;exact this.shape hu
 refine aG 0 rules.l.length (zero_le _) (fun i e h2=>∃ (u:List dX) (c:Bool),(u.map c7,c)=nP n (pq rules.l s) (gz lv (rules.l.take i) l) (nQ.map c7,false)/\QT n (pq rules.l s) rules.l (nQ.map c7) (u.map c7,c) /\
   u.map dX.shape=NZ.map dX.shape/\fN k0 h2 w u/\(∀ b,b<h0.next->(∀ t ∈ NZ,b≠t.mc)->h2.get b=h0.get b)/\h0.next<=h2.next /\
   e 0=an aO 3 rules/\e 3 = .ptr SB 0/\e 4=x3/\e 5 = .ptr OB 0/\e 6=w/\e 7=an encS 1 d/\e 8=an encI 1 y/\e 10 = .int .i64 (l:Int)/\e 11 = .bool c/\e 12 = .int .i64 (i:Int))
  ⟨nQ,false,rfl,⟨lu,dK _,fun h=>(by cases h),fun _=>rfl⟩,QZ,hA,hold,oA,Pp,e3,e4,e5,e6,e7,e8,jH,rfl,rfl⟩ ?_ ?_
 ·rintro i e h2 _ hi ⟨u,c,hu,hq,PD,Pw,JI,Nw,Pp,e3,e4,e5,e6,e7,e8,jH,jX,oX⟩ K2 qM iu vL Il;have hv:rules.l[i]?=some rules.l[i]:=ec hi;generalize rules.l[i]=r at hv;have lD:=iA hv;have ej:=Bp (lv:=lv) (l:=l) hv;have nx:r.name ∈ d.l:=by rw [hd];exact (dJ _).2 (List.mem_map_of_mem lD)
  have hix:d.l.idxOf r.name<d.l.length:=idxOf_lt_length_of_mem nx;have lh:∀ hh,ah none (.dI (rules.l.flatMap aO) (i*3)) hh=some (.str r.name):=fun hh=>fE ei hv (by omega:0<3);have hyl:y.l.length=d.l.length:=by rw [hy,Bq,hd]
  have hyv:y.l[d.l.idxOf r.name]?=some (lv r.name:Int):=by rw [hy];exact rX (by rw [hd] at hix ⊢;rw [ec hix,getElem_idxOf])
  have i8:=aU (enc:=encI) (sz:=1) (k:=.i64) y (i:=d.l.idxOf r.name) (by omega);have l8:∀ hh,ah none (.dI (y.l.flatMap encI) (d.l.idxOf r.name*1)) hh=some (.int .i64 (lv r.name:Int)):=fun hh=>fS hyv;rw [F.bP.Df];simp only [Pp,e7,oX,aS,reduceAdd,reduceEqDiff,reduceIte,bl hi,aU rules hi,lh];refine aj (JC Ts Z1 nx ?_);simp only [aS,reduceAdd,reduceEqDiff,reduceIte,Pp,e8,jH,oX,i8,l8,ct];by_cases KR:lv r.name=l
  ·rw [if_pos KR] at ej;have gSB:h2.get SB=some (.cells (aB s)):=by rw [JI SB g1 g2];exact g0
   have lz:ah none (.ptr SB 0) h2=some (.int .i64 (n:Int)):=by rw [ai gSB,<- hn];rfl
   have lr:ah none (.ptr SB 1) h2=some (an bO 3 s.aY):=by rw [ai gSB];rfl
   have xk:aL .add (.int .i64 (s.aY.l.length:Int)) (.int .i64 ((d.l.idxOf r.name:Nat):Int))=some (.int .i64 ((s.aY.l.length+d.l.idxOf r.name:Nat):Int)):=by
    rw [je (by rw [hd] at hix ⊢;omega) (by rw [hd] at hix ⊢;omega)];rfl
   have hjx:s.aY.l.length+d.l.idxOf r.name=pq rules.l s r.name:=by unfold pq;rw [hd]
   obtain ⟨t,ht,Em,z6⟩:=hq.ok.at_ r lD;simp only at ht;rw [getElem?_map] at ht;obtain ⟨tb,NU,rfl⟩:=map_eq_some_iff.1 ht;simp only [ey (by omega:(lv r.name:Int)=(l:Int)),aF,aS,reduceAdd,reduceEqDiff,reduceIte,aU rules hi,cX ei hv,e3,e6,lz,lr,xk];rw [hjx];refine aj (gO n1 ov (iF r lD) (sF r lD).2.2 (mz (sF r lD).1) (vZ r lD) Pw (Bx u PD r lD) NU z6 fun h3 u3 a1 a2 a3 a4 a5=>?_);have Rv:=Dz (n:=n) (r:=r) (j:=pq rules.l s r.name) (n ^ (varsOf r).length) (u.map c7) c
   have GG:(u3.map c7,c||(gu n r (pq rules.l s r.name) (n ^ (varsOf r).length) (u.map c7,false)).2)=nP n (pq rules.l s) (gz lv (rules.l.take (i+1)) l) (nQ.map c7,false):=by
    rw [ej,Pg,<- hu,Rv,<- a1]
   have hq3:QT n (pq rules.l s) rules.l (nQ.map c7) (u3.map c7,c||(gu n r (pq rules.l s r.name) (n ^ (varsOf r).length) (u.map c7,false)).2):=by
    have:nP n (pq rules.l s) [r] (u.map c7,c)=(u3.map c7,c||(gu n r (pq rules.l s r.name) (n ^ (varsOf r).length) (u.map c7,false)).2):=by
     unfold nP;simp only [foldl_cons,foldl_nil];rw [Rv,<- a1]
    rw [<- this];exact Y5 n1 (fun q hq=>by rw [mem_singleton] at hq;subst hq;exact lD) hq
   have agT:u3.map dX.shape=NZ.map dX.shape:=by rw [a2,PD]
   have Z3:∀ b,b<h0.next->(∀ t ∈ NZ,b≠t.mc)->h3.get b=h0.get b:=fun b b1 b2=>by
    rw [a4 b (by omega) (fun t ht e=>by
     obtain ⟨p,hp,hpe⟩:=CH PD ht;unfold dX.shape at hpe;simp only [Prod.mk.injEq] at hpe
     exact b2 p hp (by rw [e,hpe.2.2.1]))]
    exact JI b b1 b2
   simp only [aS,reduceAdd,reduceEqDiff,reduceIte];generalize (gu n r (pq rules.l s r.name) (n ^ (varsOf r).length) (u.map c7,false)).2=g at GG hq3
   cases g with
   |true=>
    rw [Bool.or_true] at GG hq3;simp only [aF,oX,aK hi Hu,aq];exact qM _ _ ⟨u3,true,GG,hq3,agT,a3,Z3,by omega,Pp,e3,e4,e5,e6,e7,e8,jH,rfl,rfl⟩
   |false=>
    rw [Bool.or_false] at GG hq3;simp only [aE,oX,aK hi Hu,aq];exact qM _ _ ⟨u3,c,GG,hq3,agT,a3,Z3,by omega,Pp,e3,e4,e5,e6,e7,e8,jH,jX,rfl⟩
  ·rw [if_neg KR,append_nil] at ej;simp only [ep (by omega:¬ (lv r.name:Int)=(l:Int)),aE,oX,aK hi Hu,aq];exact qM _ _ ⟨u,c,by rw [ej];exact hu,hq,PD,Pw,JI,Nw,Pp,e3,e4,e5,e6,e7,e8,jH,jX,rfl⟩
 ·rintro e h2 ⟨u,c,hu,hq,PD,Pw,JI,Nw,Pp,e3,e4,e5,e6,e7,e8,jH,jX,oX⟩ K2 iu;rw [kB (dK _)] at hu;rw [F.bP.Df];simp only [Pp,oX,aS,reduceAdd,reduceEqDiff,reduceIte,aX];rw [iu,F.bP.Uw]
  have agU:vb n (pq rules.l s) (gz lv rules.l l) (ts.map c7) (u.map c7):=by
   have:=vb.step (n:=n) (jx:=pq rules.l s) (rs:=gz lv rules.l l) _ hre;rw [<- hu] at this;exact this
  cases c with
  |true=>
   have eM:=hq.lt rfl;simp only [if_true] at K6;refine cO.2 ⟨CJ (u.map c7)+1,by simp only at eM;omega,rfl,rfl,u,true,rfl,agU,fun h=>(by cases h),PD,Pw,JI,Nw,hq.ok,Pp,e3,e4,e5,e6,e7,e8,jH,jX⟩
  |false=>
   have LW:=hq.same rfl;simp only at LW;refine cO.2 ⟨0,by rw [K6];simp,rfl,rfl,u,false,rfl,agU,fun _=>?_,PD,Pw,JI,Nw,hq.ok,Pp,e3,e4,e5,e6,e7,e8,jH,jX⟩;rw [LW,<- hu,LW]
theorem JJ{enc:α->List AV}(x:Sl α):bE [an enc sz x]=true/\(an enc sz x).eN = [an enc sz x]:=by cases x<;>exact ⟨rfl,rfl⟩
def SM(r:Rel):Nl:=(r.name,r.arity,⟨an eu 1 r.bW,(JJ r.bW).1,(JJ r.bW).2⟩)
theorem PE(r:Rel):qB (SM r)=bO r:=rfl
theorem VB{β:Type}{enc:α->List AV}{oJ:β->List AV}{k:Nat}{l:List α}(o:Own enc sz k h a l)(f:α->β)(hf:∀ x,oJ (f x)=enc x):Own oJ sz k h a (l.map f):=by
 cases o with
 |nil=>exact .nil
 |row b l h1 h2 h3=>
  have:(l.map f).flatMap oJ=l.flatMap enc:=by rw [flatMap_map];congr 1;funext x;exact hf x
  have hl:l.length=(l.map f).length:=by rw [length_map]
  rw [hl];exact .row b _ h1 h2 (by rw [h3,this])
theorem qc.agV{k:Nat}{l:List Rel}(o:Own bO 3 k h a l):qc (fun _=>False) qB bO 3 k h a (l.map fun r=>(SM r,r)):=
 ⟨by rw [List.map_map];exact VB o (fun r=>SM r) PE,fun p hp h' _=>by
  obtain ⟨r,_,rfl⟩:=mem_map.1 hp
  exact .dP (sW r),fun _ _ h=>h⟩
theorem Rc(A C:List α)(c v:α):(A++c :: C).set A.length v=A++v :: C:=by
 rw [set_append_right _ _ (dK _),Nat.sub_self];rfl
theorem Own.Z4{k:Nat}{m:List Nl}(o:Own qB 3 k h a m){q:Nl}(hp:m[i]?=some q)(v:Iv) :
  ∃ b cs,dg 3 a (.int .i64 (i:Int))=some (.ptr b (i*3))/\eP a=some b/\b<h.next/\ah none (.ptr b (i*3+2)) h=some q.2.2.1/\bh 1 (.ptr b (i*3+2)) v.1 h=some (h.set b (.cells cs))/\Own qB 3 k (h.set b (.cells cs)) a (m.set i (q.1,q.2.1,v)):=by
 have hg:=o.get ug hp
 cases o with
 |nil=>simp at hp
 |row b m h1 h2 h3=>
  have hmi:=(oB.1 hp).1
  have wB:((m.flatMap qB).set (i*3+2) v.1)=(m.set i (q.1,q.2.1,v)).flatMap qB:=by
   clear h3 hg
   have:∀ (m:List Nl) (i:Nat) (q:Nl),m[i]?=some q->(m.flatMap qB).set (i*3+2) v.1=(m.set i (q.1,q.2.1,v)).flatMap qB:=by
    intro m
    induction m with
    |nil=>intro i q hq;simp at hq
    |cons x m ih=>
     intro i q hq
     cases i with
     |zero=>
      simp at hq;subst hq;rw [set_cons_zero,flatMap_cons,flatMap_cons,set_append_left _ _ (by simp [qB])];rfl
     |succ i=>
      rw [getElem?_cons_succ] at hq;rw [set_cons_succ,flatMap_cons,flatMap_cons,set_append_right _ _ (by rw [ug];omega)];have:(i+1)*3+2-(qB x).length=i*3+2:=by rw [ug];omega
      rw [this,ih i q hq]
   exact this m i q hp
  have hlen:(m.flatMap qB).length=m.length*3:=jh ug m;obtain ⟨b',_,_,i3,_,i5⟩:=hg;have hia:∀ q:IntKind,dg 3 (.slice b 0 m.length 3) (.int q (i:Int))=some (.ptr b (i*3)):=fun q=>by simp [dg,asNat,hmi]
  obtain rfl:b'=b:=by have:=i3 .i64;rw [hia .i64] at this;cases this;rfl
  have ho:=v.2;refine ⟨b',(m.flatMap qB).set (i*3+2) v.1,hia .i64,rfl,h2,by rw [i5 2 (by omega)];rfl,?_,?_⟩
  ·rw [cJ (n:=1) h3 (by rw [ho.2];rfl) (by rw [ho.2];exact ho.1) (by rw [hlen];omega),ho.2];rfl
  ·rw [wB];have:m.length=(m.set i (q.1,q.2.1,v)).length:=by rw [length_set]
   rw [this];exact .row b' _ h1 (by rw [ag.bq];exact h2) (by rw [ag.aP,if_pos rfl])
def abC:Iv:=⟨.au,rfl,rfl⟩
theorem Ld{l l':List α}{v:α}(hv:l'[i]?=some v)(ho:∀ j,j≠i->l'[j]?=l[j]?)(hl:l'.length=l.length):l'=l.set i v:=by
 refine ext_getElem? fun j=>?_;rw [getElem?_set];by_cases e:i=j
 ·subst e;have:=(oB.1 hv).1;rw [if_pos rfl,if_pos (by omega)];exact hv
 ·rw [if_neg e];exact ho j fun e'=>e e'.symm
set_option maxHeartbeats 4000000 in
theorem bP{rules:Sl aR}{s:eG}(iF:∀ r ∈ rules.l,r.kH)(ho:gW rules.l s){h:ag}{K:Out->ag->Bool}
  (hK:∀ out:eG,out.size=s.size->(∃ F,jZ rules.l s.size.toNat s F/\out.aY.l.map dz=s.aY.l.map dz++r7 rules.l s.size.toNat F (dG rules.l))->K (.ret (.agg (aB out))) h=true) :
  Sem TP 16 [an aO 3 rules,.agg (aB s)] h K:=by
 have hm:dw=140737488355328:=rfl;have hg:=ho.iP;have uu:=ho.valid;obtain ⟨n,hn,n1,ov,h8⟩:=uc uu;have sV:s.size.toNat=n:=by omega
 obtain ⟨m,gI⟩:=hg.go;have sF:=gZ gI;have tC:∀ r ∈ rules.l,r.body.l.length<=20:=fun r hr=>(sF r hr).2.1;have qd:=hg.kH;have Ct:=mV rules.l
 have vZ:∀ r ∈ rules.l,n ^ r.args.l.length<=4096:=fun r hr=>by
  rw [<- sV];exact Nat.le_of_not_lt fun h=>ho.JF (.inr (.inl ⟨r,hr,h⟩))
 have gen:∀ R:Out->ag->Bool,(∀ h' a (x:Sl Rel) Fk,Fz true h' a (an bO 3 x)->jZ rules.l n s Fk->x.l.map dz=s.aY.l.map dz++r7 rules.l n Fk (dG rules.l)->R (.ret (.agg [.int .i64 s.size,a])) h'=true) ->
   Sem TP 16 [an aO 3 rules,.agg (aB s)] ag.empty R:=by
  intro R fin;refine F.Ie ?_;rw [F.KH];simp only [cG (dH s),aq,bA,ag.aV];have g0:((ag.alloc ag.empty (.cells (aB s))).alloc (.cells [.int .i64 0,.au])).get 0=some (.cells (aB s)):=by simp [ag.aW,bA]
  have g1:((ag.alloc ag.empty (.cells (aB s))).alloc (.cells [.int .i64 0,.au])).get 1=some (.cells [.int .i64 0,.au]):=by simp [ag.aW,bA]
  have gn:((ag.alloc ag.empty (.cells (aB s))).alloc (.cells [.int .i64 0,.au])).next=2:=rfl
  generalize ((ag.alloc ag.empty (.cells (aB s))).alloc (.cells [.int .i64 0,.au]))=H0 at g0 g1 gn ⊢;have l0:ah (some 2) (.ptr 0 0) H0=some (.agg (aB s)):=by rw [ai g0,cQ (cs:=aB s) (n:=2) rfl]
  simp only [l0,aq];refine aj (gN qd tC gI (nF uu).1 fun a h3 rs1 x3 o3 Y2=>?_);obtain ⟨rs',Px⟩:∃ rs',rs'=rs1++mK rules.l (dG rules.l):=⟨_,rfl⟩
  rw [<- Px] at o3;have tF:rs'.map dz=s.aY.l.map dz++fW rules.l (dG rules.l):=by rw [Px,map_append,pg,Y2]
  have agW:rs1.length=s.aY.l.length:=by have:=congrArg List.length Y2;simpa using this
  have akr:rs'.length=s.aY.l.length+(dG rules.l).length:=by rw [Px,length_append,agW];unfold mK;rw [length_map]
  obtain ⟨Rb,ho2⟩:=qR o3;have Is:bE [.int .i64 s.size,a]=true:=by simp only [bE,Bool.and_true] at Rb ⊢;rw [Rb];rfl
  obtain ⟨H4,hs4,p4,po4,pn4⟩:=cR (h:=h3) (zs:=[.int .i64 0,.au]) (cs:=[.int .i64 s.size,a]) (n:=2) rfl rfl Is;have x4:bG h3 H4:=⟨by omega,fun b hb=>po4 b (by omega)⟩
  have n3:=x3.next
  rw [gn] at o3 n3;have lo4:ah (some 2) (.ptr h3.next 0) H4=some (.agg [.int .i64 s.size,a]):=by rw [ai p4];rfl
  have oa:=o3.ext x4
  have agX:∀ r ∈ rs',r.bW.l.length<=cu:=fun r hr=>by
   rcases yG tF hr with ⟨p,hp,_,_,e⟩|⟨_,_,e⟩
   ·have h1:=congrArg List.length e;simp only [length_map] at h1;have:=(nF uu).1.abe p hp;unfold cu;omega
   ·rw [e];exact zero_le _
  simp only [aS,reduceAdd,reduceEqDiff,reduceIte,hs4,lo4];rw [hn];refine aj (G7 n1 ov oa (by omega) (fun r hr=>Y3 ho gI hn tF hr) agX fun w h5 ts x5 tA Iw=>?_);simp only [aS,reduceAdd,reduceEqDiff,reduceIte];refine aj (dm qd fun d hd=>?_);simp only [aS,reduceAdd,reduceEqDiff,reduceIte];refine aj (bC qd tC (fun hb=>?_) fun y k ic hy=>?_)
  ·obtain ⟨k,hk⟩:=hg.lev;exact absurd hk (hb k)
  have Z1:d.l.length<=cu:=by rw [hd];unfold cu;omega
  have n4:=x4.next
  have n5:=x5.next
  have p0:h5.get 0=some (.cells (aB s)):=by rw [((x3.trans x4).trans x5).get 0 (by omega)];exact g0
  have p1:h5.get 1=some (.cells [.int .i64 0,.au]):=by rw [((x3.trans x4).trans x5).get 1 (by omega)];exact g1
  have p5:h5.get h3.next=some (.cells [.int .i64 s.size,a]):=by rw [x5.get _ (by omega)];exact p4
  have VC:∀ t ∈ ts,H4.next<=t.mc/\t.mc<h5.next:=fun t ht=>⟨(tA.cell t ht).1,(tA.cell t ht).2.1⟩
  have PC:ir n (pq rules.l s) rules.l (rs'.map (lY n)):=PA ho gI tF;simp only [aS,reduceAdd,reduceEqDiff,reduceIte]
  refine aG 0 (d.l.length+1) (zero_le _) (fun l e h'=>∃ u,Lvl n H4.next rules.l s (eL.iter (b7 rules.l) k) (rs'.map (lY n)) ts w h5 l u h'/\e 0=an aO 3 rules/\e 3 = .ptr 0 0/\e 4 = .ptr 1 0/\e 5 = .ptr h3.next 0/\e 6=w/\e 7=an encS 1 d/\e 8=an encI 1 y/\e 10 = .int .i64 (l:Int))
   ⟨ts,⟨by rw [Iw];exact .zero,rfl,tA,fun _ _ _=>rfl,dK _⟩,rfl,rfl,rfl,rfl,rfl,rfl,rfl,rfl⟩ ?_ ?_
  ·rintro l e h' _ hl ⟨u,hL,e0,e3,e4,e5,e6,e7,e8,jH⟩ K' wj hx hr hp;rw [F.bP.aT];simp only [e7,jH,aS,reduceAdd,reduceEqDiff,reduceIte,ey (by omega:(l:Int)<=(d.l.length:Int)),aF];refine Nv (N:=0) (x3:=.ptr 1 0) (OB:=h3.next) n1 ov hn iF hg gI vZ PC (fun r hr=>Lc ho gI hn tF hr) Iw h8 hd hy (fun _ _ _=>trivial) hL p0 (by omega) (fun t ht=>by have:=(VC t ht).1;omega) (fun t ht=>(VC t ht).2) ?_ ?_ ?_ ?_ ?_ ?_ ?_ ?_ ?_ fun e' h2 u2 hL2 e0 e3 e4 e5 e6 e7 e8 jH=>?_
   ·exact e0
   ·exact e3
   ·exact e4
   ·exact e5
   ·exact e6
   ·exact e7
   ·exact e8
   ·exact jH
   ·rfl
   rw [F.bP.cZ];simp only [aS,reduceAdd,reduceEqDiff,reduceIte,jH,aK (i:=l) (n:=62) (by rw [hd] at hl;omega) (by unfold cu;omega)];exact wj _ _ ⟨u2,hL2,e0,e3,e4,e5,e6,e7,e8,rfl⟩
  ·rintro e h6 ⟨u,hL,e0,e3,e4,e5,e6,e7,e8,jH⟩ K' hx;rw [F.bP.aT];simp only [e7,jH,aS,reduceAdd,reduceEqDiff,reduceIte,ep (by omega:¬ ((d.l.length+1:Nat):Int)<=(d.l.length:Int)),aE];rw [hx,F.bP.aJ];obtain ⟨iK,agY,uA,aky,unx⟩:=hL;have SN:∀ b,b<H4.next->h6.get b=h5.get b:=fun b hb=>aky b (by omega) fun t ht=>by have:=(VC t ht).1;omega
   have r0:h6.get 0=some (.cells (aB s)):=by rw [SN 0 (by omega)];exact p0
   have r1:h6.get 1=some (.cells [.int .i64 0,.au]):=by rw [SN 1 (by omega)];exact p1
   have r5:h6.get h3.next=some (.cells [.int .i64 s.size,a]):=by rw [SN _ (by omega)];exact p5
   have vt:=(GY n1 (yD ic) PC iK).1;have akz:=(GY n1 (yD ic) PC iK).2;rw [Vz ho gI tF] at vt
   have hN:∀ e ∈ b7 rules.l,e.b ∈ dG rules.l/\e.h ∈ dG rules.l:=fun e he=>by
    obtain ⟨r,hr,c,hc,_,mN,rfl⟩:=rS he;exact ⟨(dJ _).2 mN,(dJ _).2 (List.mem_map_of_mem hr)⟩
   have hw1:∀ e ∈ b7 rules.l,e.w<=1:=fun e he=>by
    obtain ⟨r,hr,c,hc,_,mN,rfl⟩:=rS he;exact KO r c
   have TE:jZ rules.l n s (cA (u.map c7)):=⟨k,d.l.length+1,ic,fun r hr=>by
    have:=eL.low hN hw1 ic ((dJ _).2 (List.mem_map_of_mem hr):r.name ∈ dG rules.l)
    rw [hd];omega,vt⟩
   obtain ⟨Fk,hFk⟩:∃ Fk,Fk=cA (u.map c7):=⟨_,rfl⟩
   rw [<- hFk] at TE;have oF0:ZW (fun _=>False) 2 h6 a (rs'.map fun r=>(SM r,r)):=(qc.agV oa).eW (fun b b1 b2 _=>by rw [SN b b2,x5.get b b2]) (by omega);have lr:ah none (.ptr 0 1) h6=some (an bO 3 s.aY):=by rw [ai r0];rfl
   have Hu:rs'.length<=cu:=by unfold cu;omega
   simp only [aS,reduceAdd,reduceEqDiff,reduceIte,e3,lr];have Z5:∀ hh,b6 .slice a hh=some (.int .i64 (rs'.length:Int)):=fun hh=>oa.len
   refine aG s.aY.l.length rs'.length (by omega) (fun i e h'=>∃ l,ZW (fun _=>False) 2 h' a l/\(l.map fun p=>dz p.2)=s.aY.l.map dz++r7 rules.l n Fk ((dG rules.l).take (i-s.aY.l.length))++fW rules.l ((dG rules.l).drop (i-s.aY.l.length)) /\
     (∀ j r,i<=j->rs'[j]?=some r->l[j]?=some (SM r,r))/\(∀ b,b<h6.next->eP a≠some b->h'.get b=h6.get b)/\h6.next<=h'.next/\e 3 = .ptr 0 0/\e 4 = .ptr 1 0/\e 5 = .ptr h3.next 0/\e 6=w/\e 14 = .int .i64 (i:Int))
    ⟨_,oF0,by rw [List.map_map];show rs'.map dz=_;rw [tF];simp [r7],fun j r _ hr=>by rw [getElem?_map,hr];rfl,fun _ _ _=>rfl,dK _,e3,e4,e5,e6,rfl⟩ ?_ ?_
   ·rintro i e h' hai hi ⟨l,oF,hld,WQ,mI,oA,e3,e4,e5,e6,m8⟩ K2 qM iu vL Il;have Y6:eP a≠some h3.next:=fun hb=>by have:=o3.lt hb;omega
    have q0:h'.get 0=some (.cells (aB s)):=(by rw [mI 0 (by omega) (fun hb=>by have:=o3.ge hb;omega)];exact r0);have q5:h'.get h3.next=some (.cells [.int .i64 s.size,a]):=by rw [mI _ (by omega) Y6];exact r5
    have lo:ah none (.ptr h3.next 1) h'=some a:=(by rw [ai q5];rfl);have lz:ah none (.ptr 0 0) h'=some (.int .i64 (n:Int)):=by rw [ai q0,<- hn];rfl
    have jG:i-s.aY.l.length<(dG rules.l).length:=(by omega);have hv:(dG rules.l)[i-s.aY.l.length]?=some (dG rules.l)[i-s.aY.l.length]:=ec jG;generalize (dG rules.l)[i-s.aY.l.length]=nm at hv;have nx:nm ∈ ax rules.l:=(dJ _).1 (iA hv);obtain ⟨LQ,rr,lD,xz,zk⟩:=qS gI nx;have Kl:=vZ rr lD;rw [<- zk] at Kl;have xq:jq rules.l nm<=12:=by rw [zk];exact mz (sF rr lD).1
    have hri:rs'[i]?=some ⟨nm,(jq rules.l nm:Int),none⟩:=by
     rw [Px,getElem?_append_right (by omega),agW];unfold mK;rw [getElem?_map,hv];rfl
    have hli:=WQ i _ (dK _) hri
    have hlen:l.length=rs'.length:=by
     have:=congrArg List.length hld;rw [length_map,length_append,length_append,length_map] at this;unfold r7 fW at this;rw [length_map,length_map,length_take,length_drop] at this;omega
    have hl1:(l.map (·.1))[i]?=some (SM ⟨nm,(jq rules.l nm:Int),none⟩):=by rw [getElem?_map,hli];rfl
    obtain ⟨ba,_,hba,ia,_,la⟩:=oF.own.get ug hl1;have la1:ah none (.ptr ba (i*3+1)) h'=some (.int .i64 (jq rules.l nm:Int)):=by rw [la 1 (by omega)];rfl
    have aqB:=JE agY;have aqC:ts.length=rs'.length:=by have:=congrArg List.length Iw;simpa using this
    have huj:u[i]?=some (u[i]'(by omega)):=ec _;generalize u[i]'(by omega)=tb at huj;have YY:(u.map dX.shape)[i]?=some tb.shape:=by rw [getElem?_map,huj];rfl
    rw [agY,getElem?_map] at YY;obtain ⟨t0,ZZ,Y7⟩:=map_eq_some_iff.1 YY;have htT:(ts.map c7)[i]?=some (c7 t0):=by rw [getElem?_map,ZZ];rfl
    rw [Iw,getElem?_map,hri] at htT;have ag0:=Option.some.inj htT;have e1:t0.name=nm:=by have:=congrArg iV.name ag0;exact this.symm
    have e2:t0.bits.length=n ^ jq rules.l nm:=by
     have:=congrArg (fun t:iV=>t.bits.length) ag0;simp only [c7] at this;rw [<- this];show (bitsOf n ((jq rules.l nm:Int)).toNat []).length=_;rw [nu];rfl
    unfold dX.shape at Y7;simp only [Prod.mk.injEq] at Y7;have akA:tb.name=nm:=by rw [<- Y7.1,e1]
    have aqD:tb.bits.length=n ^ jq rules.l nm:=by rw [<- Y7.2.2.2,e2]
    have ag1:∀ j,Fk nm j=tb.bits.getD j false:=fun j=>by
     have:=ue akz.nodup (j:=i) (t:=c7 tb) (by rw [getElem?_map,huj];rfl) j;rw [hFk,<- akA];exact this
    have tbc:=uA.cell tb (iA huj);rw [F.bP.kE];simp only [e3,e5,m8,aS,reduceAdd,reduceEqDiff,reduceIte,lo,Z5,bl hi,lz,ia .i64,la1];refine aj (cc n1 xq Kl fun al yJ=>?_);have fh:al.l.length=n ^ jq rules.l nm:=by have:=congrArg List.length yJ;rw [length_map,yA] at this;exact this
    have ag2:al.l.length<=cu:=(by rw [fh];unfold cu;omega);simp only [aS,reduceAdd,reduceEqDiff,reduceIte];have akB:(l.map (·.1))[i]?=some (nm,(jq rules.l nm:Int),abC):=hl1;have ag3:(l.map (·.1)).set i (nm,(jq rules.l nm:Int),abC)=l.map (·.1):=(Ld akB (fun _ _=>rfl) rfl).symm;have zM:∀ b,eP a=some b->b<h'.next:=fun b hb=>oF.own.lt hb
    refine aG 0 al.l.length (zero_le _) (fun j e h2=>∃ (tv:Iv) (ts:List (Sl Int)),Own qB 3 2 h2 a ((l.map (·.1)).set i (nm,(jq rules.l nm:Int),tv)) /\
      Own eu 1 h'.next h2 tv.1 ts/\ts.map Sl.l=wg n Fk nm (jq rules.l nm) j/\(∀ b,b<h'.next->eP a≠some b->h2.get b=h'.get b)/\h'.next<=h2.next/\e 3 = .ptr 0 0/\e 4 = .ptr 1 0/\e 5 = .ptr h3.next 0/\e 6=w/\e 14 = .int .i64 (i:Int)/\e 15=an eu 1 al/\e 16 = .int .i64 (j:Int))
     ⟨abC,[],by rw [ag3];exact oF.own,.nil,rfl,fun _ _ _=>rfl,dK _,e3,e4,e5,e6,m8,rfl,rfl⟩ ?_ ?_
    ·rintro j e h2 _ hj ⟨tv,tl,oR,ot,hxr,PF,Nw,e3,e4,e5,e6,m8,lE,rR⟩ K3 Vd Iq Wd hp3;have hjn:j<n ^ jq rules.l nm:=by rw [<- fh];exact hj
     have hjt:j<tb.bits.length:=by omega
     have uA2:fN H4.next h2 w u:=uA.eW (fun b b1 b2=>by
      have lF:eP a≠some b:=fun hb=>by have:=o3.lt hb;omega
      rw [PF b (by omega) lF,mI b b2 lF]) (by omega)
     obtain ⟨bw,hbw,iw,lw⟩:=ZY tb uA2 huj;have akD:=uA2.cell tb (iA huj);have oI:tb.bits[j]?=some (Fk nm j):=by rw [ag1,getD_eq_getElem?_getD,ec hjt];rfl
     have Y8:=SI n Fk nm (jq rules.l nm) j;rw [F.bP.FT];simp only [e6,m8,lE,rR,aS,reduceAdd,reduceEqDiff,reduceIte,bl hj,iw,lw,kF hjt,Bg akD.2.2.2 oI]
     cases hFb:Fk nm j with
     |false=>
      rw [hFb,if_neg (by simp),append_nil] at Y8;simp only [aE,rR,aK hj ag2,aq];exact Vd _ _ ⟨tv,tl,oR,ot,by rw [Y8];exact hxr,PF,Nw,e3,e4,e5,e6,m8,lE,rfl⟩
     |true=>
      rw [hFb,if_pos rfl] at Y8;have q52:h2.get h3.next=some (.cells [.int .i64 s.size,a]):=by rw [PF _ (by omega) Y6];exact q5
      have lo2:ah none (.ptr h3.next 1) h2=some a:=(by rw [ai q52];rfl);have NT:i<(l.map (·.1)).length:=by rw [length_map];omega
      have ag5:((l.map (·.1)).set i (nm,(jq rules.l nm:Int),tv))[i]?=some (nm,(jq rules.l nm:Int),tv):=by rw [getElem?_set,if_pos rfl,if_pos NT]
      obtain ⟨bb,_,ib,pH,_,lb2,_,_⟩:=oR.Z4 ag5 tv;have ZU:al.l[j]?=some al.l[j]:=ec hj;generalize al.l[j]=t at ZU
      have z6:t.l=cU n (jq rules.l nm) j:=by
       have h1:(al.l.map Sl.l)[j]?=some t.l:=(by rw [getElem?_map,ZU];rfl);rw [yJ,CA n1 _ _ hjn] at h1;exact (Option.some.inj h1).symm
      have Bl:tl.length<=j:=(by have:=congrArg List.length hxr;rw [length_map] at this;have:=Vx n Fk nm (jq rules.l nm) j;omega);obtain ⟨a9,h9,c9,o9,f9,n9,w9,b9⟩:=ot.push MK Vs Nw (bytes:=24) (by rw [hm];omega) t;have q59:h9.get h3.next=some (.cells [.int .i64 s.size,a]):=by rw [f9 _ (by omega) (fun hb=>by have:=ot.ge hb;omega)];exact q52
      have lo9:ah none (.ptr h3.next 1) h9=some a:=(by rw [ai q59];rfl);have oR9:=oR.agree (fun b hb=>f9 b (by have:=zM b hb;omega) (fun fY=>by have:=ot.ge fY;have:=zM b hb;omega)) n9;obtain ⟨v1,v2⟩:=qR o9;obtain ⟨b9',cs,ib9,hb9,aqK,_,st9,ag6⟩:=oR9.Z4 ag5 ⟨a9,v1,v2⟩;rw [set_set] at ag6;obtain rfl:bb=b9':=by rw [pH] at hb9;exact Option.some.inj hb9
      have aqM:=zM bb hb9;have la:∀ hh,ah none (.dI (al.l.flatMap eu) (j*1)) hh=some (an encI 1 t):=fun hh=>ke ZU;simp only [aF,e5,m8,lE,rR,aS,reduceAdd,reduceEqDiff,reduceIte,lo2,ib,lb2,aU al hj,la,agH,c9,lo9,AV.beq_refl,Bool.and_self,if_true,ib9,st9,aK hj ag2];refine Vd _ _ ?_;refine ⟨⟨a9,v1,v2⟩,tl++[t],ag6,o9.agree (fun b hb=>by rw [ag.aP,if_neg (by have:=b9 b hb;omega)]) (by rw [ag.bq];exact dK _),?_,fun b b1 b2=>?_,by rw [ag.bq];omega,e3,e4,e5,e6,m8,lE,rfl⟩
      ·rw [map_append,hxr,Y8];simp [z6]
      ·rw [ag.aP,if_neg (fun e=>b2 (by rw [e];exact hb9)),f9 b (by omega) (fun hb=>by have:=ot.ge hb;omega)];exact PF b b1 b2
    ·rintro e h2 ⟨tv,tl,oR,ot,hxr,PF,Nw,e3,e4,e5,e6,m8,lE,rR⟩ K3 Iq;have Lu:i<100:=by omega
     rw [F.bP.FT];simp only [lE,rR,aS,reduceAdd,reduceEqDiff,reduceIte,aX];rw [Iq,F.bP.wY];simp only [aS,reduceAdd,reduceEqDiff,reduceIte,m8,aK (i:=i) (n:=100) Lu (by unfold cu;omega)];obtain ⟨x,O3,YI⟩:=(qc.abv ot tZ).data;have Bl:x.l=tl:=by rw [O3,List.map_map];simp [Function.comp_def]
     refine qM _ _ ⟨l.set i ((nm,(jq rules.l nm:Int),tv),⟨nm,(jq rules.l nm:Int),x⟩),⟨by rw [map_set];exact oR,fun p hp g hgg=>?_,fun _ _ h=>h⟩,?_,fun q r hq hr=>?_,fun b b1 b2=>?_,by omega,e3,e4,e5,e6,rfl⟩
     ·rcases mem_or_eq_of_mem_set hp with hp|rfl
      ·exact oF.Am p hp g fun b b1 b2 b3 b4=>by rw [hgg b b1 (by omega) b3 b4,PF b b2 b4]
      ·exact abu (YI g fun b b1 b2 b3=>hgg b (by omega) b2 b3 (fun hb=>by have:=zM b hb;omega))
     ·have hd2:(l.set i ((nm,(jq rules.l nm:Int),tv),(⟨nm,(jq rules.l nm:Int),x⟩:Rel))).map (fun p=>dz p.2)=(l.map fun p=>dz p.2).set i (nm,(jq rules.l nm:Int),wg n Fk nm (jq rules.l nm) (n ^ jq rules.l nm)):=by
       rw [map_set];congr 1;simp only [dz,Bl,hxr,fh]
      rw [hd2,hld]
      have hdr:(dG rules.l).drop (i-s.aY.l.length)=nm :: (dG rules.l).drop (i-s.aY.l.length+1):=by
       rw [drop_eq_getElem_cons jG];rw [ec jG] at hv;rw [Option.some.inj hv]
      have htk:(dG rules.l).take (i-s.aY.l.length+1)=(dG rules.l).take (i-s.aY.l.length)++[nm]:=by rw [take_add_one,hv];rfl
      have hlA:(s.aY.l.map dz++r7 rules.l n Fk ((dG rules.l).take (i-s.aY.l.length))).length=i:=by
       unfold r7;rw [length_append,length_map,length_map,length_take];omega
      have uq:fW rules.l (nm :: (dG rules.l).drop (i-s.aY.l.length+1))=(nm,(jq rules.l nm:Int),[]) :: fW rules.l ((dG rules.l).drop (i-s.aY.l.length+1)):=rfl;have Wl:r7 rules.l n Fk ((dG rules.l).take (i-s.aY.l.length)++[nm])=r7 rules.l n Fk ((dG rules.l).take (i-s.aY.l.length))++[(nm,(jq rules.l nm:Int),wg n Fk nm (jq rules.l nm) (n ^ jq rules.l nm))]:=by unfold r7;rw [map_append];rfl
      have QY:=Rc (s.aY.l.map dz++r7 rules.l n Fk ((dG rules.l).take (i-s.aY.l.length))) (fW rules.l ((dG rules.l).drop (i-s.aY.l.length+1))) (nm,(jq rules.l nm:Int),[]) (nm,(jq rules.l nm:Int),wg n Fk nm (jq rules.l nm) (n ^ jq rules.l nm));rw [hlA] at QY;rw [show i+1-s.aY.l.length=i-s.aY.l.length+1 by omega,htk,Wl,hdr,uq,QY];simp
     ·rw [getElem?_set,if_neg (by omega)];exact WQ q r (by omega) hr
     ·rw [PF b (by omega) b2];exact mI b b1 b2
   ·rintro e h' ⟨l,oF,hld,WQ,mI,oA,e3,e4,e5,e6,m8⟩ K2 iu;have Y6:eP a≠some h3.next:=fun hb=>by have:=o3.lt hb;omega
    have q5:h'.get h3.next=some (.cells [.int .i64 s.size,a]):=by rw [mI _ (by omega) Y6];exact r5
    have q1:h'.get 1=some (.cells [.int .i64 0,.au]):=(by rw [mI 1 (by omega) (fun hb=>by have:=o3.ge hb;omega)];exact r1);have lo:ah none (.ptr h3.next 1) h'=some a:=by rw [ai q5];rfl
    have lo2:ah (some 2) (.ptr h3.next 0) h'=some (.agg [.int .i64 s.size,a]):=by rw [ai q5];rfl
    have st:bh 2 (.ptr 1 0) (.agg [.int .i64 s.size,a]) h'=some (h'.set 1 (.cells [.int .i64 s.size,a])):=by
     rw [cJ (n:=2) (v:=.agg [.int .i64 s.size,a]) q1 rfl Is (by simp)];rfl
    have lo3:ah (some 2) (.ptr 1 0) (h'.set 1 (.cells [.int .i64 s.size,a]))=some (.agg [.int .i64 s.size,a]):=(by rw [ai (cs:=[.int .i64 s.size,a]) (by rw [ag.aP,if_pos rfl])];rfl);rw [F.bP.kE];simp only [e5,m8,aS,reduceAdd,reduceEqDiff,reduceIte,lo,Z5,aX];rw [iu,F.bP.Uv];simp only [bg,reduceEqDiff,reduceIte,e4,e5,lo2,st,aq,VA,lo3,oneOf];obtain ⟨x,jG,Iq⟩:=(oF.low (d:=1) (by omega) (.cells [.int .i64 s.size,a])).fz;refine fin _ a x Fk Iq TE ?_;rw [jG,List.map_map];rw [show rs'.length-s.aY.l.length=(dG rules.l).length by omega,take_length,drop_length] at hld;rw [show (l.map (dz∘fun p=>p.2))=l.map (fun p=>dz p.2) from rfl,hld];simp [fW]
 have main:=gen (fun o h'=>yes (∃ (a:AV) (x:Sl Rel) (Fk:Lk),o = .ret (.agg [.int .i64 s.size,a])/\Fz true h' a (an bO 3 x)/\jZ rules.l n s Fk/\x.l.map dz=s.aY.l.map dz++r7 rules.l n Fk (dG rules.l))) (fun h' a x Fk hf hF hx=>cO.2 ⟨a,x,Fk,rfl,hf,hF,hx⟩);refine main.frozen (by simp [AV.cN,AV.pure,bI dW,ew]) fun o h' ho=>?_;obtain ⟨a,x,Fk,rfl,hf,hF,hx⟩:=cO.1 ho;have f1:=kD.cons (.scalar (.int .i64 s.size) rfl) (kD.cons hf kD.nil);rw [sV] at hK;exact ⟨_,_,rfl,.agg _ _ f1.len f1.rel,hK ⟨s.size,x⟩ rfl ⟨Fk,hF,hx⟩⟩
end
end Go.AM