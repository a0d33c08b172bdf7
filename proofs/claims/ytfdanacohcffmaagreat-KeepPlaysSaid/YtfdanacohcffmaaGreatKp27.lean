/- Parts of the proof. Conditions: none. -/
import Derived.Test.YtfdanacohcffmaaGreatKp26
set_option linter.unusedSimpArgs false
set_option linter.unusedVariables false
set_option maxHeartbeats 4000000
namespace Go.AM
open List Nat Bool Option
open Go Go.Proofs
noncomputable section
variable {K:Out->Heap->Bool} {rs:List aI} {h:Heap} {s:ct} {a:AV} {r:aI} {n k0 j i sz M:Nat} {m:gq} {nm x:cc} {α:Type} {ks:List cc} {vs:List Int} {c:fT} {D0:DB} {all xs:Sl cc} {lv:fJ.Lv} {q:Rel}
def Qs(rs:List aI)(s:ct):Prop:=(∃ p ∈ cT rs,p.1 ∉ bC rs/\s.aA.l.find? (fe p.1 p.2)=none)\/∃ r ∈ s.aA.l,r.name ∈ bC rs
def TG(rs:List aI)(s:ct):Prop:=8<s.aA.l.length+(cZ rs).length\/(∃ r ∈ rs,4096<s.size.toNat ^ r.args.l.length)\/∃ r ∈ rs,65536<s.size.toNat ^ (varsOf r).length
structure Eg (n:Nat) (rs:List aI) (s:ct) (D:DB):Prop where
 rel:∀ r ∈ s.aA.l,∃ b,D r.name=some (b,bitsOf n r.arity.toNat r.aM.l)
 head:∀ r ∈ rs,∃ b,D r.name=some (b,replicate (n ^ r.args.l.length) false)
 only:∀ nm p,D nm=some p->nm ∈ bC rs\/∃ r ∈ s.aA.l,r.name=nm
structure Sb (n P A M S B lo:Nat) (rules:Sl aI) (ks:List cc) (lv:fJ.Lv) (D0:DB) (m:gq) (h:Heap):Prop where
 hP:h.get P=sC [gm rules,.map A,.map M]
 hl:iu (bC rules.l) h M ks lv
 Gy:ks.Nodup
 jb:dQ rules.l []=some m
 hA:∃ es ck,h.get A=some (.map es ck)/\R7 es ck m
 hS:h.get S=sC [I6 (n:Int),.map B]
 hD:ei D0 h B lo
 ord:A<M/\M<P/\P<B/\B<S/\S<lo/\lo<=h.next
theorem TH(hl:iu (bC rs) h M ks lv)(Gy:ks.Nodup):ks.length=(cZ rs).length:=by
 have h1:(cZ rs).Nodup:=by
  have:=rG rs;unfold wT at this;refine this.imp fun {a b} h e=>?_;rw [e,sJ] at h;cases h
 have h2:=fJ.uS Gy (m:=cZ rs) fun x hx=>(ej rs).2 ((hl.mem x).1 hx);have h3:=fJ.uS h1 (m:=ks) fun x hx=>(hl.mem x).2 ((ej rs).1 hx);omega
theorem az{rules:Sl aI}{s:ct}(mP:∀ r ∈ rules.l,r.ok)(iX:∀ r ∈ rules.l,r.k8)(oP:s.ok){h:Heap}{K:Out->Heap->Bool}
  (h1:(¬ nk rules.l\/cY s=false)->∀ h',(∀ b,b<h.next->h'.get b=h.get b)->K (.ret (.tuple [.eZ,.eZ,I6 1])) h'=true)
  (h4:nk rules.l->cY s=true->Qs rules.l s->∀ h',(∀ b,b<h.next->h'.get b=h.get b)->K (.ret (.tuple [.eZ,.eZ,I6 4])) h'=true)
  (h5:nk rules.l->cY s=true->¬ Qs rules.l s->TG rules.l s->∀ h',(∀ b,b<h.next->h'.get b=h.get b)->K (.ret (.tuple [.eZ,.eZ,I6 5])) h'=true)
  (h0:nk rules.l->cY s=true->¬ Qs rules.l s->¬ TG rules.l s->∀ h' (n:Nat) P A M S B lo ks k D0 m,s.size=(n:Int)->1<=n->n<=64->fJ.ef (b6 rules.l) (fJ.iter (b6 rules.l) k) ->
   Sb n P A M S B lo rules ks (fJ.iter (b6 rules.l) k) D0 m h'->Eg n rules.l s D0->(∀ b,b<h.next->h'.get b=h.get b)->h.next<=A->K (.ret (.tuple [.ptr P 0,.ptr S 0,I6 0])) h'=true) :
  Sem TP 58 [gm rules,.agg (ah s)] h K:=by
 refine F.CA ?_;rw [F.DI];simp only [cD (bU s),dr];have g0:(h.alloc (.cells (ah s))).get h.next=sC (ah s):=ak _ _
 have gx:aV h (h.alloc (.cells (ah s))):=aV.alloc _ _;have gn:(h.alloc (.cells (ah s))).next=h.next+1:=rfl
 generalize (h.alloc (.cells (ah s)))=H0 at g0 gx gn ⊢;refine af (Vd mP iX (fun hb h' hf=>?_) fun h' P A M ks k hg jL gP la Gy YH hMn m es ck jb gA hmB o1 o2 o3 hfr=>?_)
 ·simp only [aO,Bool.not_false];exact h1 (.inl hb) _ (fun b hb=>by rw [hf b (by omega),gx.get b hb])
 have p0:h'.get h.next=sC (ah s):=by rw [hfr _ (by omega)];exact g0
 have l0:=eM p0;simp only [aO,Bool.not_true,l0];refine af (eF oP ?_);simp only [aO]
 cases sQ:cY s with
 |false=>simp only [Bool.not_false,aL];exact h1 (.inr sQ) _ (fun b hb=>by rw [hfr b (by omega),gx.get b hb])
 |true=>
 obtain ⟨n,hn,n1,sK,h8⟩:=iL sQ;have uR:s.size.toNat=n:=by omega
 specialize h4 hg sQ;specialize h5 hg sQ;specialize h0 hg sQ;clear h1;have ajf:=hg.k8;have wG:=jY jb;obtain ⟨hmI,ajg,hmN⟩:=id hmB;have hrg:qF .map (.map A) h'=some (.ptr h'.next 0,h'.alloc (.iT (some A) ck [] ck)):=by simp only [qF,gA]
 simp only [Bool.not_true,aK,cM,aO,aj gP,hrg];have jS:∀ p ∈ m,(p.1,p.2) ∈ cT rules.l:=fun p hp=>(nN jb p.1 p.2).1 (zQ hmN hp)
 refine DZ es (fun seen e hh=>(∀ en ∈ es,en.2.2 ∈ seen->∀ p ∈ m,en.1 = .str p.1->¬ (p.1 ∉ bC rules.l/\s.aA.l.find? (fe p.1 p.2)=none))/\hh.get h'.next=some (.iT (some A) ck seen ck)/\(∀ b,b<h'.next->hh.get b=h'.get b)/\h'.next<hh.next /\
   e 0=gm rules/\e 3 = .ptr h.next 0/\e 7 = .ptr P 0/\e 46 = .ptr h'.next 0)
  ⟨fun en _ uO=>(by cases uO),ak _ _,fun b hb=>by rw [Heap.aN,if_neg (by omega)],by rw [Heap.aD];omega,rfl,rfl,rfl,rfl⟩ ?_
 rintro seen e hh ⟨Ll,w3,wf,wn,e0,e3,e7,e46⟩ K' Xy hex aaJ aiW;rw [F.az.aP];simp only [e46];refine IF w3 (by rw [wf A (by omega)];exact gA) ajg (by omega) (fun aji=>?_) (fun en uO hns G2=>?_)
 ·
  have amZ:¬ ∃ p ∈ cT rules.l,p.1 ∉ bC rules.l/\s.aA.l.find? (fe p.1 p.2)=none:=by
   rintro ⟨p,hp,hb⟩;have hf:=(nN jb p.1 p.2).2 hp;have Jo:=vk hf;obtain ⟨en,uO,am0,_⟩:=hmI.aaI _ Jo;exact Ll en uO (aji en uO) _ Jo am0 hb
  simp only [Mi,sG,dr,cu,aK];rw [hex,F.az.aC];have v0:hh.get h.next=sC (ah s):=by rw [wf _ (by omega)];exact p0
  have lr:=lA v0 1 rfl;simp only [aO,reduceEqDiff,reduceIte,e3,lr]
  refine aB 0 s.aA.l.length (zero_le _) (fun i e h2=>(∀ r ∈ s.aA.l.take i,r.name ∉ bC rules.l)/\(∀ b,b<h'.next->h2.get b=h'.get b)/\h'.next<h2.next/\e 0=gm rules/\e 3 = .ptr h.next 0/\e 7 = .ptr P 0/\e 71=qm s.aA/\e 72=I6 (s.aA.l.length:Int)/\e 73=I6 (i:Int))
   ⟨fun r hr=>(by cases hr),wf,wn,e0,e3,e7,rfl,rfl,rfl⟩ ?_ ?_
  ·rintro i e h2 _ hi ⟨MO,Qt,wn2,e0,e3,e7,e71,e72,e73⟩ K2 qj fK r7 Ay;obtain ⟨r,hv⟩:=dM hi;obtain ⟨H,BB,q1,qo,qn⟩:=cA (h:=h2) (zs:=[.str [],I6 0,.ai]) (cs:=aY r) (n:=3) rfl rfl (gJ r);have pP:H.get P=sC [gm rules,.map A,.map M]:=by rw [qo _ (by omega),Qt _ (by omega)];exact gP
   have hM:H.get M=h'.get M:=by rw [qo _ (by omega),Qt _ (by omega)]
   obtain ⟨esL,Nt,mL,y1,y2,y3,y4,y5⟩:=la.ex;have M0:=vT (h:=H) (by rw [hM];exact y1) y2 r.name;have Tb:(mL.find r.name).isSome=decide (r.name ∈ bC rules.l):=by rw [y5];by_cases hh':r.name ∈ bC rules.l<;>simp [hh']
   have ln:=lA q1 0 rfl;rw [F.az.cU];simp only [e7,e71,e72,e73,aO,aU hi,aQ s.aA hi,dB dY hv,BB];simp only [aO,cM,aj pP,ln,M0,Tb];by_cases hd:r.name ∈ bC rules.l
   ·simp only [fh hd,aL];rw [r7,F.az.k7];simp only [kC,reduceEqDiff,reduceIte];exact h4 (.inr ⟨r,ij hv,hd⟩) _ (fun b hb=>by rw [qo b (by omega),Qt b (by omega),hfr b (by omega),gx.get b hb])
   ·simp only [eR hd,aK,aE hi oP.1,dr];refine qj _ _ ⟨fun q hq=>?_,fun b hb=>by rw [qo b (by omega)];exact Qt b hb,by omega,e0,e3,e7,e71,e72,rfl⟩;rw [take_add_one,hv] at hq;rcases mem_append.1 hq with hq|hq
    ·exact MO q hq
    ·simp only [toList_some,mem_singleton] at hq;subst hq;exact hd
  ·rintro e h2 ⟨MO,Qt,wn2,e0,e3,e7,e71,e72,e73⟩ K2 fK;rw [jD (dK _)] at MO
   have ajj:¬ Qs rules.l s:=by
    rintro (hb|⟨r,hr,hd⟩)
    ·exact amZ hb
    ·exact MO r hr hd
   specialize h5 ajj;specialize h0 ajj;have v0:h2.get h.next=sC (ah s):=by rw [Qt _ (by omega)];exact p0
   have vP:h2.get P=sC [gm rules,.map A,.map M]:=by rw [Qt _ (by omega)];exact gP
   have vl:iu (bC rules.l) h2 M ks (fJ.iter (b6 rules.l) k):=la.gG (Qt _ (by omega));have lr:=lA v0 1 rfl;have ls:au none (.ptr h.next 0) h2=some (I6 (n:Int)):=by rw [aj v0,<- hn];rfl
   have hkl:ks.length<=60:=by
    have:=fJ.uS Gy (m:=bC rules.l) fun x hx=>(la.mem x).1 hx;have h1:(bC rules.l).length=rules.l.length:=by simp [bC]
    omega
   have yP:aF .add (I6 (s.aA.l.length:Int)) (I6 (ks.length:Int))=some (I6 ((s.aA.l.length+ks.length:Nat):Int)):=by
    rw [j9 (by omega) (by omega)];rfl
   have hdk:=TH la Gy;rw [F.az.cU];simp only [e72,e73,aO,aR];rw [fK,F.az.cm];simp only [aO,reduceEqDiff,reduceIte,e3,e7,lr,cM,aj vP,vl.len,yP];by_cases hbg:8<s.aA.l.length+ks.length
   ·simp only [fh (by omega:(8:Int)<((s.aA.l.length+ks.length:Nat):Int)),aL];exact h5 (.inl (by rw [<- hdk];exact hbg)) _ (fun b hb=>by rw [Qt b (by omega),hfr b (by omega),gx.get b hb])
   have am4:iP [I6 0,.mH] [(0,1),(1,1)] [I6 (n:Int),.map h2.next]=some (.agg [I6 (n:Int),.map h2.next]):=rfl;simp only [eR (by omega:¬ (8:Int)<((s.aA.l.length+ks.length:Nat):Int)),aK,ls,dr,am4,cD (show aW [I6 (n:Int),.map h2.next]=true from rfl),Heap.aD];have f0:((h2.alloc (.map [] 0)).alloc (.cells [I6 (n:Int),.map h2.next])).get h2.next=some (.map [] 0):=by rw [Heap.aN,Heap.aD,if_neg (by omega)];exact ak _ _
   have f1:((h2.alloc (.map [] 0)).alloc (.cells [I6 (n:Int),.map h2.next])).get (h2.next+1)=sC [I6 (n:Int),.map h2.next]:=ak _ _;have fx:aV h2 ((h2.alloc (.map [] 0)).alloc (.cells [I6 (n:Int),.map h2.next])):=(aV.alloc _ _).trans (aV.alloc _ _);have fn:((h2.alloc (.map [] 0)).alloc (.cells [I6 (n:Int),.map h2.next])).next=h2.next+1+1:=rfl
   generalize ((h2.alloc (.map [] 0)).alloc (.cells [I6 (n:Int),.map h2.next]))=H2 at f0 f1 fx fn ⊢;have uP:H2.get P=sC [gm rules,.map A,.map M]:=by rw [fx.get _ (by omega)];exact vP
   obtain ⟨esL,Nt,mL,y1,y2,y3,y4,y5⟩:=la.ex;have uM:H2.get M=some (.map esL Nt):=by rw [fx.get _ (by omega),Qt _ (by omega)];exact y1
   have am5:qF .map (.map M) H2=some (.ptr H2.next 0,H2.alloc (.iT (some M) Nt [] Nt)):=by simp only [qF,uM]
   simp only [aO,aj uP,am5];have r3:(H2.alloc (.iT (some M) Nt [] Nt)).get (h2.next+1+1)=some (.iT (some M) Nt [] Nt):=by have:=ak H2 (.iT (some M) Nt [] Nt);rwa [fn] at this
   have rx:aV H2 (H2.alloc (.iT (some M) Nt [] Nt)):=aV.alloc _ _;have rn:(H2.alloc (.iT (some M) Nt [] Nt)).next=h2.next+1+1+1:=by rw [Heap.aD,fn]
   rw [fn];generalize (H2.alloc (.iT (some M) Nt [] Nt))=H3 at r3 rx rn ⊢;have low:∀ b,b<h2.next->H3.get b=h2.get b:=fun b hb=>by rw [rx.get b (by omega),fx.get b hb]
   have s0:H3.get h2.next=some (.map [] 0):=by rw [rx.get _ (by omega)];exact f0
   have s1:H3.get (h2.next+1)=sC [I6 (n:Int),.map h2.next]:=by rw [rx.get _ (by omega)];exact f1
   have sM:H3.get M=some (.map esL Nt):=by rw [rx.get _ (by omega)];exact uM
   have sP:H3.get P=sC [gm rules,.map A,.map M]:=by rw [rx.get _ (by omega)];exact uP
   have sA:H3.get A=some (.map es ck):=by rw [low _ (by omega),Qt _ (by omega)];exact gA
   have sB:H3.get h.next=sC (ah s):=by rw [low _ (by omega)];exact v0
   have sl:iu (bC rules.l) H3 M ks (fJ.iter (b6 rules.l) k):=la.gG (by rw [sM,y1]);have sD:ei (fun _=>none) H3 h2.next (h2.next+1+1+1):=⟨⟨[],0,[],s0,trivial,fun nm=>rfl⟩,fun nm p hp=>(by cases hp),fun nm nm' p p' hp=>(by cases hp),by omega⟩
   refine Kg (S:=h2.next+1) (SB:=h.next) hn n1 sK (fun r hr=>pg (wG r hr).1) jb s1 sB sP sA hmB sl sD (fun Cc Mj hM'=>by rw [sM] at hM';cases hM';exact r3) rn (by omega) (by omega) (by omega) (by omega) (by omega) (by omega) (by omega) (by omega) (by omega) (by omega) (by omega) e0 e3 e7 rfl rfl (fun hb h' hf=>h5 (.inr (.inl (by rw [uR];exact hb))) h' (fun b hb=>by rw [hf b (by omega) (by omega),low b (by omega),Qt b (by omega),hfr b (by omega),gx.get b hb])) fun e4 h4' D a1 a2 a3 a4 a5 a6 j0 j3 j7 j17=>?_;rw [F.az.jo];simp only [j0,aO]
   refine Kf (s:=s) (SB:=h.next) (S:=h2.next+1) hn n1 sK iX ajf (fun r hr=>(wG r hr).2.2) (by rw [a5 _ (by omega) (by omega)];exact sB) (by omega) j3 j7 j17 rfl rfl rfl (fun hb h' hx=>h5 (.inr (.inr (by rw [uR];exact hb))) h' (fun b hb=>by rw [hx.get b (by omega),a5 b (by omega) (by omega),low b (by omega),Qt b (by omega),hfr b (by omega),gx.get b hb])) fun c1 e5 h6 c2 i3 i7 i17=>?_;have c6:=c2.next
   have t0:h6.get h.next=sC (ah s):=by rw [c2.get _ (by omega),a5 _ (by omega) (by omega)];exact sB
   have t1:h6.get (h2.next+1)=sC [I6 (n:Int),.map h2.next]:=by rw [c2.get _ (by omega),a5 _ (by omega) (by omega)];exact s1
   have lr6:=lA t0 1 rfl;rw [F.az.WX];simp only [aO,i3,lr6];refine MZ (S:=h2.next+1) (SB:=h.next) oP sQ hn n1 sK t1 t0 (a2.ext c2) (by omega) (by omega) (by omega) (by omega) (by omega) i3 i7 i17 rfl rfl rfl fun h7 D7 d1 d2 d3 d4 d5=>?_
   have am6:¬ TG rules.l s:=by
    rintro (hb|⟨r,hr,hb⟩|⟨r,hr,hb⟩)
    ·omega
    ·rw [uR] at hb;have:=a1 r hr;omega
    ·rw [uR] at hb;have:=c1 r hr;omega
   have gG:∀ b,b<h2.next->h7.get b=h2.get b:=fun b hb=>by rw [d4 b (by omega) (by omega),c2.get b (by omega),a5 b (by omega) (by omega),low b hb]
   refine h0 am6 h7 n P A M (h2.next+1) h2.next (h2.next+1+1+1) ks k D7 m hn n1 sK jL ⟨?_,la.gG ?_,Gy,jb,⟨es,ck,?_,hmB⟩,?_,d1,by omega⟩ ⟨fun r hr=>?_,fun r hr=>?_,fun nm p hp=>?_⟩ (fun b hb=>?_) (by omega)
   ·rw [gG _ (by omega)];exact vP
   ·rw [gG _ (by omega),Qt _ (by omega)]
   ·rw [gG _ (by omega),Qt _ (by omega)];exact gA
   ·rw [d4 _ (by omega) (by omega)];exact t1
   ·obtain ⟨b,_,b2⟩:=d2 r hr;exact ⟨b,b2⟩
   ·obtain ⟨b,b2⟩:=a3 r hr;refine ⟨b,?_⟩;rw [d3 r.name fun q hq e=>MO q hq (by rw [e];exact List.mem_map_of_mem hr)];exact b2
   ·by_cases hq:∃ q ∈ s.aA.l,q.name=nm
    ·exact .inr hq
    ·rw [d3 nm fun q rV e=>hq ⟨q,rV,e⟩] at hp;exact .inl (a4 nm p hp)
   ·rw [gG _ (by omega),Qt _ (by omega),hfr _ (by omega),gx.get _ hb]
 obtain ⟨p,Jo,Tw,qj⟩:=hmI.mem en uO;have vf:∀ b,b<h'.next->(hh.set h'.next (.iT (some A) ck (seen++[en.2.2]) ck)).get b=h'.get b:=fun b hb=>by rw [Heap.aG,if_neg (by omega)];exact wf b hb
 have v3:(hh.set h'.next (.iT (some A) ck (seen++[en.2.2]) ck)).get h'.next=some (.iT (some A) ck (seen++[en.2.2]) ck):=by rw [Heap.aG,if_pos rfl]
 have vn:(hh.set h'.next (.iT (some A) ck (seen++[en.2.2]) ck)).next=hh.next:=Heap.aT _ _ _
 simp only [Mi,sG,Dv,dr,cu,aL,G2,e3,e7,Tw,qj];clear G2;generalize (hh.set h'.next (.iT (some A) ck (seen++[en.2.2]) ck))=H at vf v3 vn ⊢;have pP:H.get P=sC [gm rules,.map A,.map M]:=by rw [vf _ (by omega)];exact gP
 have p0':H.get h.next=sC (ah s):=by rw [vf _ (by omega)];exact p0
 have lS:=eM p0';obtain ⟨esL,Nt,mL,y1,y2,y3,y4,y5⟩:=la.ex;have M0:=vT (h:=H) (by rw [vf M (by omega)];exact y1) y2 p.1;have Tb:(mL.find p.1).isSome=decide (p.1 ∈ bC rules.l):=by rw [y5];by_cases hh':p.1 ∈ bC rules.l<;>simp [hh']
 have fin:∀ (e':Env),(¬ (p.1 ∉ bC rules.l/\s.aA.l.find? (fe p.1 p.2)=none))->e' 0=gm rules->e' 3 = .ptr h.next 0->e' 7 = .ptr P 0->e' 46 = .ptr h'.next 0->K' .normal (sM e' 198 H)=true:=fun e' ajk e0 e3 e7 e46=>by
  refine Xy en uO hns _ _ ⟨fun en' O8 Vf q hq BZ=>?_,v3,vf,by omega,e0,e3,e7,e46⟩;rcases mem_append.1 Vf with Vf|Vf
  ·exact Ll en' O8 Vf q hq BZ
  ·rw [mem_singleton] at Vf
   have hee:en'=en:=by
    obtain ⟨i,hi⟩:=mem_iff_getElem?.1 uO;obtain ⟨j,hj⟩:=mem_iff_getElem?.1 O8;have Ae:(es.map (·.2.2))[i]?=some en.2.2:=by rw [getElem?_map,hi];rfl
    have Mc:(es.map (·.2.2))[j]?=some en.2.2:=by rw [getElem?_map,hj,<- Vf];rfl
    have hij:=oX ajg.nodup Ae Mc;subst hij;rw [hi] at hj;exact (Option.some.inj hj).symm
   rw [hee,Tw] at BZ;injection BZ with h3
   have h6:q.2=p.2:=by
    have h7:=zQ hmN hq;have h8:=zQ hmN Jo;rw [<- h3,h8] at h7;exact (Option.some.inj h7).symm
   rw [<- h3,h6];exact ajk
 simp only [aO,cM,aj pP,M0,Tb];by_cases hd:p.1 ∈ bC rules.l
 ·simp only [fh hd,Bool.not_true,aK];exact fin _ (fun hb=>hb.1 hd) e0 e3 e7 e46
 ·simp only [eR hd,Bool.not_false,aL,aO,lS];refine af (wz oP ?_);simp only [aO];rcases lP (fe p.1 p.2) s.aA.l with ⟨f1,f2⟩|⟨j,r,f1,f2,f3⟩
  ·rw [f1];simp only [show decide ((-1:Int)<0)=true from rfl,aL];rw [aaJ,F.az.bg];simp only [kC,reduceEqDiff,reduceIte];exact h4 (.inl ⟨(p.1,p.2),jS p Jo,hd,f2⟩) _ (fun b hb=>by rw [vf b (by omega),hfr b (by omega),gx.get b hb])
  ·rw [f1];simp only [eR (by omega:¬ ((j:Int)<0)),aK];exact fin _ (fun hb=>by rw [f3] at hb;exact absurd hb.2 (by simp)) e0 e3 e7 e46
def ff(n:Nat)(s:ct):Lk:=fun nm k=>match s.aA.l.find? (dN nm) with|some r=>(bitsOf n r.arity.toNat r.aM.l).getD k false|none=>false
def mM(rs:List aI)(n:Nat)(s:ct)(F:Lk):Prop:=∃ k t,fJ.ef (b6 rs) (fJ.iter (b6 rs) k)/\(∀ r ∈ rs,fJ.iter (b6 rs) k r.name<t)/\p9 n rs (fJ.iter (b6 rs) k) (ff n s) t F
theorem mM.unique{A B:Lk}(h:mM rs n s A)(g:mM rs n s B):A=B:=by
 obtain ⟨j,t,h1,h2,h3⟩:=h;obtain ⟨k,u,g1,g2,g3⟩:=g;rw [fJ.Kq h1 g1] at h2 h3;exact h3.same g3 h2 g2
theorem Eh{k:Nat}(h:fJ.ef (b6 rs) (fJ.iter (b6 rs) k)):Pk rs (fJ.iter (b6 rs) k):=by
 intro r hr c hc k0 ⟨q,hq,BZ⟩
 have he:ic r c ∈ b6 rs:=by
  refine mem_flatMap.2 ⟨r,hr,mem_flatMap.2 ⟨c,hc,?_⟩⟩;unfold pU;rw [if_pos ⟨k0,by rw [<- BZ];exact List.mem_map_of_mem hq⟩];exact mem_singleton.2 rfl
 have:=h _ he;unfold ic at this;exact this
theorem Sc(uo:rs.length<=60)(xL:∀ r ∈ rs,r.body.l.length<=20){k:Nat}(h:fJ.ef (b6 rs) (fJ.iter (b6 rs) k))(x:cc):fJ.iter (b6 rs) k x<=1000000:=by
 have hN:∀ e ∈ b6 rs,e.b ∈ bC rs/\e.h ∈ bC rs:=fun e he=>by
  obtain ⟨r,hr,c,hc,_,hin,rfl⟩:=tJ he;exact ⟨hin,List.mem_map_of_mem hr⟩
 rw [fJ.Kq h (fJ.settle hN h)];have:=BC uo xL (bC rs).length x;have h1:(bC rs).length=rs.length:=by simp [bC]
 rw [h1] at this ⊢;omega
def ke(rs:List aI)(nm:cc):Nat:=match rs.find? (fun r=>r.name==nm) with|some r=>r.args.l.length|none=>0
theorem rI(jb:dQ rs []=some m){j k:Int}(h1:(x,j) ∈ cT rs)(h2:(x,k) ∈ cT rs):j=k:=by
 have a:=(nN jb x j).2 h1;have b:=(nN jb x k).2 h2;rw [a] at b;exact Option.some.inj b
theorem IX(jb:dQ rs []=some m)(hr:r ∈ rs):ke rs r.name=r.args.l.length:=by
 unfold ke
 cases hf:rs.find? (fun q=>q.name==r.name) with
 |none=>
  rw [find?_eq_none] at hf;exact absurd (hf r hr) (by simp)
 |some q=>
  have hq:=mem_of_find?_eq_some hf;have BZ:=find?_some hf;rw [beq_iff_eq] at BZ;have:=rI jb (pe hq) (by rw [BZ];exact pe hr);simp only;omega
theorem Ei(hr:r ∈ rs)(hc:c ∈ r.body.l)(k0:c.kind=0):(c.name,(c.args.l.length:Int)) ∈ cT rs:=by
 refine mem_flatMap.2 ⟨r,hr,mem_cons_of_mem _ ?_⟩;unfold fq;exact mem_map.2 ⟨c,mem_filter.2 ⟨hc,by simpa using k0⟩,rfl⟩
structure acN (c:fT):Prop where
 kinds:c.kind=0\/c.kind=1\/c.kind=2
 two:c.kind=1\/c.kind=2->c.args.l.length=2
 arity:c.args.l.length<=12
theorem tP(h:jy c=true):acN c:=by
 unfold jy at h;by_cases k0:c.kind=0
 ·rw [if_pos k0] at h;exact ⟨.inl k0,fun h'=>by omega,pg h⟩
 ·rw [if_neg k0] at h;by_cases Kc:c.kind=1\/c.kind=2
  ·rw [if_pos Kc] at h;simp only [and_eq_true,decide_eq_true_eq] at h;exact ⟨.inr Kc,fun _=>h.2.1,by omega⟩
  ·rw [if_neg Kc] at h;cases h
theorem Ej(hg:nk rs)(hr:r ∈ rs):lI r=true:=by
 have:=((zY rs).1 hg).2.1;rw [List.all_eq_true] at this;exact this r hr
theorem qT(hg:nk rs)(hr:r ∈ rs)(hc:c ∈ r.body.l):jy c=true:=by
 have:=Ej hg hr;unfold lI at this;simp only [and_eq_true] at this;have h5:=this.2.2.2.1;rw [List.all_eq_true] at h5;exact h5 c hc
theorem Ek{k:Int}{r:Rel}(h:s.aA.l.find? (fe nm k)=some r):r ∈ s.aA.l/\r.name=nm/\r.arity=k:=by
 have h1:=mem_of_find?_eq_some h;have h2:=find?_some h;simp only [fe,and_eq_true,beq_iff_eq,decide_eq_true_eq] at h2;exact ⟨h1,h2.1,by first|exact h2.2|exact h2.2.symm⟩
theorem Vg(jb:dQ rs []=some m)(sQ:cY s=true)(hn:s.size=(n:Int))(h4:¬ Qs rs s)(h5:¬ TG rs s)(sd:Eg n rs s D0)(hr:r ∈ rs)(hc:c ∈ r.body.l)(k0:c.kind=0) :
  n ^ c.args.l.length<=4096/\∃ p,D0 c.name=some p/\p.2.length=n ^ c.args.l.length:=by
 have uR:s.size.toNat=n:=by omega
 have wu:=Ei hr hc k0;by_cases hd:c.name ∈ bC rs
 ·obtain ⟨q,hq,BZ⟩:=mem_map.1 hd
  have hl:q.args.l.length=c.args.l.length:=by
   have:=rI jb (pe hq) (by rw [BZ];exact wu);omega
  obtain ⟨b,hb⟩:=sd.head q hq;rw [BZ] at hb;refine ⟨?_,_,hb,by rw [length_replicate,hl]⟩;rw [<- hl,<- uR];exact Nat.le_of_not_lt fun h=>h5 (.inr (.inl ⟨q,hq,h⟩))
 ·cases hf:s.aA.l.find? (fe c.name (c.args.l.length:Int)) with
  |none=>exact absurd (.inl ⟨_,wu,hd,hf⟩) h4
  |some q=>
   obtain ⟨hq,BZ,Sd⟩:=Ek hf;obtain ⟨i,hi⟩:=mem_iff_getElem?.1 hq;have F9:=vt sQ hi;rw [uR] at F9;obtain ⟨k,hk,Kc,Ve,Qr⟩:=wB F9;obtain ⟨b,hb⟩:=sd.rel q hq;have hkl:k=c.args.l.length:=by omega
   rw [BZ] at hb;exact ⟨by rw [<- hkl];exact Ve,_,hb,by rw [nq];congr 1;omega⟩
theorem tQ(hn:s.size=(n:Int))(h5:¬ TG rs s)(sd:Eg n rs s D0)(hr:r ∈ rs):n ^ r.args.l.length<=4096/\∃ p,D0 r.name=some p/\p.2.length=n ^ r.args.l.length:=by
 have uR:s.size.toNat=n:=by omega
 obtain ⟨b,hb⟩:=sd.head r hr;refine ⟨?_,_,hb,length_replicate⟩;rw [<- uR];exact Nat.le_of_not_lt fun h=>h5 (.inr (.inl ⟨r,hr,h⟩))
theorem XU(hg:nk rs)(jb:dQ rs []=some m)(sQ:cY s=true)(hn:s.size=(n:Int))(h4:¬ Qs rs s)(h5:¬ TG rs s)(sd:Eg n rs s D0)(hr:r ∈ rs)(D:DB)(hd:fV D D0):CQ n D r:=
 ⟨fun c hc k0=>by
  obtain ⟨a,p0,b1,b2⟩:=Vg jb sQ hn h4 h5 sd hr hc k0;obtain ⟨p,c1,_,c3⟩:=hd.get b1
  exact ⟨a,p,c1,by rw [c3];exact b2⟩,fun c hc=>(tP (qT hg hr hc)).two,fun c hc=>(tP (qT hg hr hc)).kinds,fun c hc=>(tP (qT hg hr hc)).arity⟩
theorem Pw(N k:Nat):(replicate N false).getD k false=false:=by
 rw [getD_eq_getElem?_getD,getElem?_replicate];split<;>rfl
theorem zZ(sQ:cY s=true){r:Rel}(hr:r ∈ s.aA.l):s.aA.l.find? (dN r.name)=some r:=Fb (qR sQ) r hr
theorem Se(sQ:cY s=true)(h4:¬ Qs rs s)(sd:Eg n rs s D0):ee D0=ff n s:=by
 funext nm k;unfold ff
 cases hf:s.aA.l.find? (dN nm) with
 |some r=>
  have hr:=mem_of_find?_eq_some hf;have hn:=find?_some hf;simp only [dN,beq_iff_eq] at hn;obtain ⟨b,hb⟩:=sd.rel r hr;rw [hn] at hb;unfold ee;rw [hb]
 |none=>
  unfold ee
  cases hp:D0 nm with
  |none=>rfl
  |some p=>
   rcases sd.only nm p hp with hh|⟨r,hr,BW⟩
   ·obtain ⟨r,hr,BW⟩:=mem_map.1 hh;obtain ⟨b,hb⟩:=sd.head r hr;rw [BW,hp] at hb;cases hb;exact Pw _ _
   ·rw [find?_eq_none] at hf;exact absurd (hf r hr) (by simp [dN,BW])
theorem Sf{rules:Sl aI}(iX:∀ r ∈ rules.l,r.k8)(hg:nk rules.l)(sQ:cY s=true)(h4:¬ Qs rules.l s)(h5:¬ TG rules.l s){P A S B lo k:Nat}(hn:s.size=(n:Int))(n1:1<=n)(sK:n<=64)
  (jL:fJ.ef (b6 rules.l) (fJ.iter (b6 rules.l) k)) (sh:Sb n P A M S B lo rules ks (fJ.iter (b6 rules.l) k) D0 m h) (sd:Eg n rules.l s D0) {ng:FuncId} {na nb:List AV}
  (note:∀ (i:Int) (r:aI) (k:Int) (hd:Sl Int) (cs:Sl (Sl Int)) (ls:Sl Int) (y:AV) (h:Heap) (K:Out->Heap->Bool),(∀ h',aV h h'->K (.ret (.tuple [])) h'=true)->Sem TP ng (na++([.agg (bZ i r k (dH hd) (kM cs) (dH ls)),y]++nb)) h K)
  (hK:∀ h' D' F,mM rules.l n s F->ee D'=F->fV D' D0->Sb n P A M S B lo rules ks (fJ.iter (b6 rules.l) k) D' m h'->(∀ b,b<lo->h'.get b=h.get b)->h.next<=h'.next->K (.ret (.tuple [])) h'=true) :
  Sem TP 59 [.ptr P 0,.ptr S 0,.func ng na nb] h K:=by
 obtain ⟨hP,hl,Gy,jb,⟨es,ck,hA,hmB⟩,hS,hD,o1,o2,o3,o4,o5,o6⟩:=sh;have wG:=jY jb;have pE:∀ nm p,D0 nm=some p->lo<=p.1:=fun nm p hp=>(hD.nO nm p hp).1
 have o:Xu S n D0 rules.l ng na nb:=
  ⟨n1,sK,iX,fun r hr=>(wG r hr).2.2,fun nm p hp=>by have:=pE nm p hp;omega,fun r hr D hd=>XU hg jb sQ hn h4 h5 sd hr D hd,fun r hr=>⟨(tQ hn h5 sd hr).1,pg (wG r hr).1,(tQ hn h5 sd hr).2⟩,note,hg.k8⟩
 refine UZ o hP (by omega) hl Gy (by omega) (fun r hr=>List.mem_map_of_mem hr) (Sc hg.k8 (fun r hr=>(wG r hr).2.1) jL) hS (by omega) hD (fun nm p hp=>by have:=pE nm p hp;omega) fun h' D' T hT hrun BH oO hfr mS=>?_;have gG:∀ b,b<lo->h'.get b=h.get b:=fun b hb=>hfr b (by omega) fun nm p hp=>by have:=pE nm p hp;omega
 have hlen:rX n rules.l D0:=fun r hr p hp=>by
  obtain ⟨_,q,h1,h2⟩:=tQ hn h5 sd hr;rw [h1] at hp;cases hp;exact h2
 have Wq:=(Va n1 (Eh jL) hlen (fun r hr=>by obtain ⟨_,q,h1,_⟩:=tQ hn h5 sd hr;exact ⟨q,h1⟩) hrun).1;rw [Se sQ h4 sd] at Wq;refine hK h' D' (ee D') ⟨k,T+1,jL,fun r hr=>by have:=hT r.name (List.mem_map_of_mem hr);omega,Wq⟩ rfl BH ⟨by rw [gG _ (by omega)];exact hP,hl.gG (gG _ (by omega)),Gy,jb,⟨es,ck,by rw [gG _ (by omega)];exact hA,hmB⟩,by rw [gG _ (by omega)];exact hS,oO,by omega⟩ gG mS
theorem XV{i:Int}{k:Int}{hd:Sl Int}{cs:Sl (Sl Int)}{ls:Sl Int}{y:AV}(hK:∀ h',aV h h'->K (.ret (.tuple [])) h'=true):Sem TP 60 ([]++([.agg (bZ i r k (dH hd) (kM cs) (dH ls)),y]++[])) h K:=by
 refine F.FZ ?_;rw [F.Ii];simp only [cD (zS i r k hd cs ls),dr];exact hK _ (aV.alloc _ _)
theorem Sg{o:List cc}{s:cc}(h:o.Nodup):(DX o s).Nodup:=by
 unfold DX;split
 ·exact h
 ·rename_i hn;refine nodup_append.2 ⟨h,by simp,fun a ha b hb e=>?_⟩;rw [mem_singleton] at hb;subst hb;subst e;exact hn (List.any_eq_true.2 ⟨a,ha,beq_self_eq_true a⟩)
theorem CZ:∀ {l o:List cc},o.Nodup->(gi o l).Nodup
 |[],o,h=>h
 |s :: l,o,h=>CZ (l:=l) (Sg h)
theorem BN(r:aI):(varsOf r).Nodup:=by rw [BF];exact CZ nodup_nil
theorem Lm{x:Sl cc}{s:cc}(hn:x.l.Nodup)(hx:x.l.length<=cw)(hs:s ∈ x.l)(hK:K (.ret (I6 ((x.l.idxOf s:Nat):Int))) h=true):Sem TP 128 [iz x,.str s] h K:=by
 refine eT hx (fun i hi=>?_) fun uI=>absurd hs uI;have h1:x.l.idxOf s<x.l.length:=idxOf_lt_length_of_mem hs;have h2:x.l[x.l.idxOf s]?=some s:=by rw [jQ h1,getElem_idxOf]
 rw [oX hn hi h2];exact hK
theorem zh{at_:Sl Int}(hn:all.l.Nodup)(hal:all.l.length<=cw)(BV:xs.l.length<=1000000)(hin:∀ s ∈ xs.l,s ∈ all.l)(wu:at_.l.length=all.l.length) :
  Sem TP 161 [iz all,iz xs,dH at_] Heap.empty (fun o h'=>yes (∃ v,o = .ret v/\Fz false h' v (dH (some (bL at_.l (placesOf all.l xs.l)))))):=by
 have Qp:xs.l.length<=cw:=by unfold cw;omega
 refine F.DR ?_;rw [F.FX];simp only [aO,zO BV,aZ];have g0:=ak Heap.empty (.cells ((replicate xs.l.length (0:Int)).map iv));rw [aZ] at g0;generalize Heap.empty.alloc (.cells ((replicate xs.l.length (0:Int)).map iv))=H at g0 ⊢
 refine aB 0 xs.l.length (zero_le _) (fun i e h'=>∃ d:List Int,d.length=xs.l.length/\d.take i=(bL at_.l (placesOf all.l xs.l)).take i/\h'.get 0=sC (d.map iv) /\
  e 0=iz all/\e 1=iz xs/\e 2=dH at_/\e 7 = .slice 0 0 xs.l.length 1/\e 8=I6 (i:Int)) ⟨replicate xs.l.length 0,by simp,rfl,g0,rfl,rfl,rfl,rfl,rfl⟩ ?_ ?_
 ·rintro i e h' _ hi ⟨d,dl,dt,q0,e0,e1,e2,e7,e8⟩ K' vE hx hr hp;obtain ⟨s,hv⟩:=dM hi;have Nu:=hin s (ij hv);have hix:all.l.idxOf s<at_.l.length:=by rw [wu];exact idxOf_lt_length_of_mem Nu
  have hw:at_.l[all.l.idxOf s]?=some (at_.l.getD (all.l.idxOf s) 0):=by rw [getD_eq_getElem?_getD,jQ hix];rfl
  have VV:(bL at_.l (placesOf all.l xs.l))[i]?=some (at_.l.getD (all.l.idxOf s) 0):=by unfold bL placesOf;rw [List.map_map,getElem?_map,hv];rfl
  rw [F.ir.aP];simp only [e0,e1,e2,e7,e8,aO,aU hi,aQ xs hi,jX hv];refine af (Lm hn hal Nu ?_);simp only [aO,aQ at_ hix,gh hw,nh hi,tE q0 (show i<d.length by omega),aE hi Qp];refine vE _ _ ⟨d.set i (at_.l.getD (all.l.idxOf s) 0),by simp [dl],?_,by rw [Heap.aG,if_pos rfl],e0,e1,e2,e7,rfl⟩;rw [take_add_one,take_add_one,VV,take_set_of_le (dK _),dt,getElem?_set,if_pos rfl,if_pos (by omega)]
 ·rintro e h' ⟨d,dl,dt,q0,e0,e1,e2,e7,e8⟩ K' hx;rw [F.ir.aP];simp only [e1,e8,aO,aR];rw [hx,F.ir.aC];simp only [kC,reduceEqDiff,reduceIte,e7]
  have hd:d=bL at_.l (placesOf all.l xs.l):=by
   have h2:(bL at_.l (placesOf all.l xs.l)).length=xs.l.length:=by unfold bL placesOf;simp
   rw [jD (by omega),jD (by omega)] at dt;exact dt
  subst hd;refine bO.2 ⟨_,rfl,?_⟩;have:=pT (jm:=false) q0
  rwa [dl] at this
theorem ir{at_:Sl Int}(hn:all.l.Nodup)(hal:all.l.length<=cw)(BV:xs.l.length<=1000000)(hin:∀ s ∈ xs.l,s ∈ all.l)(wu:at_.l.length=all.l.length)
  (hK:K (.ret (dH (some (bL at_.l (placesOf all.l xs.l))))) h=true):Sem TP 161 [iz all,iz xs,dH at_] h K:=
 (zh hn hal BV hin wu).Ut (j8.cons (.de (br jc _)) (j8.cons (.de (br jc _)) (j8.cons (.de (br iE _)) .nil))) fun o h' ho=>by
  obtain ⟨v,rfl,hf⟩:=bO.1 ho;exact ⟨_,_,rfl,hf,hK⟩
theorem IY{V:Nat}(hn:all.l.Nodup)(hal:all.l.length<=cw)(BV:xs.l.length<=1000000)(hin:∀ s ∈ xs.l,s ∈ all.l)(wu:vs.length=all.l.length)(hV:h.get V=sC (vs.map iv))
  (hK:K (.ret (dH (some (bL vs (placesOf all.l xs.l))))) h=true):Sem TP 161 [iz all,iz xs,.slice V 0 vs.length 1] h K:=
 (zh (at_:=some vs) hn hal BV hin wu).Ut (j8.cons (.de (br jc _)) (j8.cons (.de (br jc _)) (j8.cons (pT hV) .nil))) fun o h' ho=>by
  obtain ⟨v,rfl,hf⟩:=bO.1 ho;exact ⟨_,_,rfl,hf,hK⟩
theorem jg{n:Nat}(h1:1<=n){x:Sl Int}{k:Nat}(hk:x.l.length=k)(hx:k<=12)(hc:n ^ k<=4096)(hb:jN n x.l=true){h:Heap}{K:Out->Heap->Bool}
  (hK:K (.ret (I6 ((mg n x.l:Nat):Int))) h=true):Sem TP 164 [I6 (n:Int),dH x] h K:=by
 subst hk;have hbig:x.l.length<=cw:=by unfold cw;omega
 refine F.Ie ?_;rw [F.JY];refine aB 0 x.l.length (zero_le _) (fun i e h'=>h'=h/\e 0=I6 (n:Int)/\e 5=I6 ((mg n (x.l.take i):Nat):Int)/\e 1=dH x/\e 6=I6 (i:Int)) ⟨rfl,rfl,rfl,rfl,rfl⟩ ?_ ?_
 ·rintro i e h' _ hi ⟨rfl,e0,e5,e1,e6⟩ K' hn gl hr hp;have hv:x.l[i]?=some x.l[i]:=jQ hi;rw [F.jg.aP];simp only [e0,e1,e5,e6,aO,aU hi,aQ x hi,gh hv,(rE hb h1 hc hv).1,(rE hb h1 hc hv).2,aE hi hbig];exact hn _ _ ⟨rfl,e0,rfl,e1,rfl⟩
 ·rintro e h' ⟨rfl,e0,e5,e1,e6⟩ K' gl;rw [F.jg.aP];simp only [e1,e6,aO,aR];rw [gl,F.jg.aC];simp only [e5,kC,reduceEqDiff,reduceIte];rw [jD (dK _)];exact hK
theorem IZ(t:jR):AV.cP (kT t)=true:=by simp [kT,D3,AV.cP,AV.pure,br KJ]
theorem XW{x:Sl jR}{t:jR}(ht:x.l[j]?=some t):au none (.dL (x.l.flatMap kT) (j*3)) h=some (.str t.name):=dU (enc:=kT) (fun _=>rfl) ht (by omega:0<3)
theorem XX{x:Sl jR}{t:jR}(ht:x.l[j]?=some t):au none (.dL (x.l.flatMap kT) (j*3+2)) h=some (dR Hh 1 (some t.bits)):=dU (enc:=kT) (fun _=>rfl) ht (by omega:2<3)
theorem Vh{l:List Bool}{v:Bool}(hv:l[i]?=some v):au none (.dL (l.flatMap Hh) (i*1)) h=some (.bool v):=by
 rw [vO (enc:=Hh) (fun _=>rfl) hv];rfl
theorem jW{n:Nat}(n1:1<=n){x:Sl jR}(BV:x.l.length<=cw){nm:cc}{t:Sl Int}{k:Nat}(qv:t.l.length=k)(hk:k<=12)(hc:n ^ k<=4096)(hb:jN n t.l=true)(XY:∀ q ∈ x.l,q.name=nm->q.bits.length=n ^ k){h:Heap}{K:Out->Heap->Bool}
  (hK:K (.ret (.bool (fI x.l nm (mg n t.l)))) h=true):Sem TP 162 [dR kT 3 x,I6 (n:Int),.str nm,dH t] h K:=by
 refine F.My ?_;rw [F.Ow];refine aB 0 x.l.length (zero_le _) (fun i e h'=>h'=h/\(∀ q ∈ x.l.take i,q.name≠nm)/\e 0=dR kT 3 x/\e 1=I6 (n:Int)/\e 2 = .str nm/\e 3=dH t/\e 9=I6 (i:Int)) ⟨rfl,fun q hq=>(by cases hq),rfl,rfl,rfl,rfl,rfl⟩ ?_ ?_
 ·rintro i e h' _ hi ⟨rfl,uI,e0,e1,e2,e3,e9⟩ K' hn hx hr hp;obtain ⟨q,hv⟩:=dM hi;rw [F.jW.aP];simp only [e0,e1,e2,e3,e9,aO,aU hi,aQ x hi,XW hv,um];by_cases hq:q.name=nm
  ·have YK:=XY q (ij hv) hq;have uQ:mg n t.l<q.bits.length:=by have:=pW hb;rw [qv] at this;omega
   have oO:q.bits[mg n t.l]?=some (q.bits.getD (mg n t.l) false):=by rw [getD_eq_getElem?_getD,jQ uQ];rfl
   have M0:fI x.l nm (mg n t.l)=q.bits.getD (mg n t.l) false:=by
    have:x.l.find? (fun t=>t.name==nm)=some q:=by
     rw [find?_eq_some_iff_getElem];refine ⟨by simp [hq],i,hi,(lR.1 hv).2,fun j hj=>?_⟩;have hm:x.l[j]'(by omega) ∈ x.l.take i:=mem_take_iff_getElem.2 ⟨j,by omega,rfl⟩;have:=uI _ hm;simp [this]
    unfold fI;rw [this]
   have hlb:∀ hh,au none (.dL (x.l.flatMap kT) (i*3+2)) hh=some (dR Hh 1 (some q.bits)):=fun hh=>XX hv;simp only [fh hq,aL,hlb,aO];refine af (jg n1 qv hk hc hb ?_);simp only [aO,AV.beq_refl,Bool.and_self,if_true,aQ (enc:=Hh) (sz:=1) (some q.bits) (show mg n t.l<(Sl.l (some q.bits)).length from uQ)];rw [show Sl.l (some q.bits)=q.bits from rfl];simp only [Vh oO,dr];rw [hr,F.jW.bg];simp only [kC,reduceEqDiff,reduceIte];rw [<- M0];exact hK
  ·simp only [eR hq,aK,aE hi BV,dr];refine hn _ _ ⟨rfl,fun p xb=>?_,e0,e1,e2,e3,rfl⟩;rw [take_add_one,hv] at xb;rcases mem_append.1 xb with xb|xb
   ·exact uI p xb
   ·simp only [toList_some,mem_singleton] at xb;subst xb;exact hq
 ·rintro e h' ⟨rfl,uI,e0,e1,e2,e3,e9⟩ K' hx;rw [jD (dK _)] at uI;rw [F.jW.aP];simp only [e0,e9,aO,aR];rw [hx,F.jW.aC]
  have:fI x.l nm (mg n t.l)=false:=by
   unfold fI
   have hf:x.l.find? (fun t=>t.name==nm)=none:=by
    rw [find?_eq_none];intro q hq;simp [uI q hq]
   rw [hf]
  rw [this] at hK;exact hK
structure oE (n:Nat) (r:aI) (ts:List jR):Prop where
 len:ts.length<=cw
 conds:∀ c ∈ r.body.l,acN c
 rel:∀ c ∈ r.body.l,c.kind=0->n ^ c.args.l.length<=4096/\∀ q ∈ ts,q.name=c.name->q.bits.length=n ^ c.args.l.length
theorem dJ{n:Nat}(n1:1<=n){r:aI}(hf:r.k8)(hk:(varsOf r).length<=12){all:Sl cc}(jS:all.l=varsOf r){vs:Sl Int}(Gv:AD n r vs.l){x:Sl jR}(hx:oE n r x.l){h:Heap}{K:Out->Heap->Bool}
  (hK:K (.ret (.bool (lK n (fI x.l) r vs.l))) h=true):Sem TP 124 [.agg (bY r),iz all,dH vs,dR kT 3 x,I6 (n:Int)] h K:=by
 refine Sem.data (r:=.bool (lK n (fI x.l) r vs.l)) ?_ (by simp [AV.cP,AV.pure,fN,br jc,br iE,br IZ]) hK;clear hK;have A3:r.body.l.length<=cw:=by have:=hf.2.1;unfold cw;omega
 refine F.CH ?_;rw [F.DS];simp only [cD (kr r),dr,aZ];have g0:(Heap.empty.alloc (.cells (bY r))).get 0=sC (bY r):=ak _ _;have gn:(Heap.empty.alloc (.cells (bY r))).next=1:=rfl
 generalize (Heap.empty.alloc (.cells (bY r)))=H0 at g0 gn ⊢
 refine aB 0 r.body.l.length (zero_le _) (fun i e h'=>h'.get 0=sC (bY r)/\1<=h'.next/\(r.body.l.take i).all (fun c=>fQ n (fI x.l) c (bL vs.l (bH r c)))=true /\
  e 1=iz all/\e 2=dH vs/\e 3=dR kT 3 x/\e 4=I6 (n:Int)/\e 5 = .ptr 0 0/\e 11=I6 (i:Int)) ⟨g0,by omega,rfl,rfl,rfl,rfl,rfl,rfl,rfl⟩ ?_ ?_
 ·rintro i e h' _ hi ⟨q0,qn,ht,e1,e2,e3,e4,e5,l9⟩ K' hn gl hr hp;obtain ⟨c,hv⟩:=dM hi;have xN:=ij hv;have hcf:=hx.conds c xN;have lb:=lA q0 2 rfl;obtain ⟨H,BB,g1,go,gn1⟩:=cA (h:=h') (zs:=[I6 0,bF,.str [],.ai]) (cs:=dZ c) (n:=4) rfl rfl (jP c);have la:=lA g1 3 rfl;have lk:=lA g1 0 rfl;have ln:=lA g1 2 rfl;have lg:=lA g1 1 rfl;have p0:H.get 0=sC (bY r):=by rw [go 0 (by omega)];exact q0
  have nr:(bH r c).length=c.args.l.length:=by unfold bH placesOf;simp
  have sF:∀ p ∈ bH r c,p<vs.l.length:=by rw [Gv.1];exact nI (vo xN)
  have BU:=mc vs.l (bH r c);have hin:=qO Gv.2 sF
  have step:∀ (b:Bool) (e':Env),fQ n (fI x.l) c (bL vs.l (bH r c)) = !(b==c.neg)->e' 1=iz all->e' 2=dH vs->e' 3=dR kT 3 x->e' 4=I6 (n:Int)->e' 5 = .ptr 0 0->e' 11=I6 ((i+1:Nat):Int)->b≠c.neg->K' .normal (sM e' 64 H)=true:=fun b e' hcv e1 e2 e3 e4 e5 l9 hb=>by
   refine hn _ _ ⟨p0,by omega,lE hv ht ?_,e1,e2,e3,e4,e5,l9⟩;rw [hcv];simp [hb]
  have stop:∀ (b:Bool),fQ n (fI x.l) c (bL vs.l (bH r c)) = !(b==c.neg)->b=c.neg->lK n (fI x.l) r vs.l=false:=fun b hcv hb=>by
   unfold lK;exact all_false hv (by rw [hcv];simp [hb])
  rw [F.dJ.aP];simp only [e1,e2,e5,l9,aO,reduceAdd,lb,aU hi,aQ r.body hi,dB jO hv,BB];simp only [aO,la];have xd:=fun {K} hk=>ir (all:=all) (xs:=c.args) (at_:=vs) (h:=H) (K:=K) (by rw [jS];exact BN r) (by rw [jS];unfold cw;omega) (by have:=hcf.arity;omega) (by rw [jS];exact vo xN) (by rw [jS,Gv.1]) hk;refine af (xd ?_);rw [show placesOf all.l c.args.l=bH r c by rw [jS];rfl];simp only [aO,lk,cy];by_cases k0:c.kind=0
  ·obtain ⟨wm,XY⟩:=hx.rel c xN k0;simp only [fh k0,aL,aO,ln,e3,e4];refine af (jW n1 hx.len (t:=some (bL vs.l (bH r c))) (k:=c.args.l.length) (by show (bL vs.l (bH r c)).length=_;rw [BU,nr]) hcf.arity wm hin XY ?_);rw [show Sl.l (some (bL vs.l (bH r c)))=bL vs.l (bH r c) from rfl];have hcv:fQ n (fI x.l) c (bL vs.l (bH r c)) = !(fI x.l c.name (mg n (bL vs.l (bH r c)))==c.neg):=by unfold fQ;rw [if_pos k0];rfl
   simp only [aO,lg]
   cases hb:(fI x.l c.name (mg n (bL vs.l (bH r c)))==c.neg) with
   |true=>
    simp only [aL];rw [hr,F.dJ.bg];simp only [kC,reduceEqDiff,reduceIte];rw [stop _ hcv (by simpa using hb)];exact eB rfl
   |false=>
    simp only [aK,aE hi A3,dr];exact step _ _ hcv e1 e2 e3 e4 e5 rfl (by simpa using hb)
  ·have h2:(bL vs.l (bH r c)).length=2:=by rw [BU,nr];exact hcf.two (hcf.kinds.resolve_left k0)
   have v0:(bL vs.l (bH r c))[0]?=some ((bL vs.l (bH r c)).getD 0 0):=by rw [getD_eq_getElem?_getD,jQ (by omega:0<(bL vs.l (bH r c)).length)];rfl
   have v1:(bL vs.l (bH r c))[1]?=some ((bL vs.l (bH r c)).getD 1 0):=by rw [getD_eq_getElem?_getD,jQ (by omega:1<(bL vs.l (bH r c)).length)];rfl
   have i0:jw 1 (dH (some (bL vs.l (bH r c)))) (I6 0)=some (.dL ((bL vs.l (bH r c)).flatMap encI) (0*1)):=aQ (enc:=encI) (sz:=1) (k:=.i64) (some (bL vs.l (bH r c))) (i:=0) (by show 0<(bL vs.l (bH r c)).length;omega);have i1:jw 1 (dH (some (bL vs.l (bH r c)))) (I6 1)=some (.dL ((bL vs.l (bH r c)).flatMap encI) (1*1)):=aQ (enc:=encI) (sz:=1) (k:=.i64) (some (bL vs.l (bH r c))) (i:=1) (by show 1<(bL vs.l (bH r c)).length;omega);have VT:∀ hh,au none (.dL ((bL vs.l (bH r c)).flatMap encI) (0*1)) hh=some (I6 ((bL vs.l (bH r c)).getD 0 0)):=fun hh=>gh (x:=some (bL vs.l (bH r c))) v0;have g1':∀ hh,au none (.dL ((bL vs.l (bH r c)).flatMap encI) (1*1)) hh=some (I6 ((bL vs.l (bH r c)).getD 1 0)):=fun hh=>gh (x:=some (bL vs.l (bH r c))) v1;simp only [eR k0,aK];by_cases k1:c.kind=1
   ·have hcv:fQ n (fI x.l) c (bL vs.l (bH r c)) = !(decide ((bL vs.l (bH r c)).getD 0 0=(bL vs.l (bH r c)).getD 1 0)==c.neg):=(by unfold fQ;rw [if_neg k0,if_pos k1];rfl);simp only [fh k1,aL,i0,i1,VT,g1',aO,lg,cy]
    cases hb:(decide ((bL vs.l (bH r c)).getD 0 0=(bL vs.l (bH r c)).getD 1 0)==c.neg) with
    |true=>
     simp only [aL];rw [hr,F.dJ.bg];simp only [kC,reduceEqDiff,reduceIte];rw [stop _ hcv (by simpa using hb)];exact eB rfl
    |false=>
     simp only [aK,aE hi A3,dr];exact step _ _ hcv e1 e2 e3 e4 e5 rfl (by simpa using hb)
   ·have hcv:fQ n (fI x.l) c (bL vs.l (bH r c)) = !(decide ((bL vs.l (bH r c)).getD 0 0<(bL vs.l (bH r c)).getD 1 0)==c.neg):=(by unfold fQ;rw [if_neg k0,if_neg k1];rfl);simp only [eR k1,aK,i0,i1,VT,g1',aO,lg]
    cases hb:(decide ((bL vs.l (bH r c)).getD 0 0<(bL vs.l (bH r c)).getD 1 0)==c.neg) with
    |true=>
     simp only [aL];rw [hr,F.dJ.bg];simp only [kC,reduceEqDiff,reduceIte];rw [stop _ hcv (by simpa using hb)];exact eB rfl
    |false=>
     simp only [aK,aE hi A3,dr];exact step _ _ hcv e1 e2 e3 e4 e5 rfl (by simpa using hb)
 ·rintro e h' ⟨q0,qn,ht,e1,e2,e3,e4,e5,l9⟩ K' gl;rw [jD (dK _)] at ht;have lb:=lA q0 2 rfl;rw [F.dJ.aP];simp only [e5,l9,aO,reduceAdd,lb,aR];rw [gl,F.dJ.aC];have:lK n (fI x.l) r vs.l=true:=ht;rw [this];exact eB rfl
theorem BO{n:Nat}(n1:1<=n)(m Q:Nat):∀ z,eo n (m+z) (Q*n ^ z)=eo n m Q++replicate z 0
 |0=>by simp
 |z+1=>by
  have h1:Q*n ^ (z+1)/n=Q*n ^ z:=by rw [Nat.pow_succ,<- Nat.mul_assoc,Nat.mul_div_cancel _ n1]
  have h2:Q*n ^ (z+1)%n=0:=by rw [Nat.pow_succ,<- Nat.mul_assoc,mul_mod_left]
  rw [<- Nat.add_assoc,eo,h1,h2,BO n1 m Q z,append_assoc,replicate_succ'];rfl
theorem Vi(n1:1<=n)(k:Nat):eo n k 0=replicate k 0:=by
 have:=BO n1 0 0 k;simpa [eo] using this
theorem iR{V n k i:Nat}(n1:1<=n)(sK:n<=64)(hk:k<=12)(hi:i<n ^ k){h:Heap}(hV:h.get V=sC ((eo n k i).map iv)){K:Out->Heap->Bool}
  (DY:i+1<n ^ k->∀ h',h'.get V=sC ((eo n k (i+1)).map iv)->(∀ b,b≠V->h'.get b=h.get b)->h'.next=h.next->K (.ret bT) h'=true)
  (uI:i+1=n ^ k->∀ h',(∀ b,b≠V->h'.get b=h.get b)->h'.next=h.next->K (.ret bF) h'=true):Sem TP 165 [.slice V 0 k 1,I6 (n:Int)] h K:=by
 have hl:∀ h,bK .slice (.slice V 0 k 1) h=some (I6 (k:Int)):=fun _=>rfl;have BI:aF .sub (I6 (k:Int)) (I6 1)=some (I6 ((k:Int)-1)):=uf (by omega) (by omega);refine F.Ic ?_;rw [F.JX];simp only [hl,dr,BI]
 refine jU (fun m e h'=>∃ q z,m+z=k/\h'.get V=sC ((eo n m q++replicate z (0:Int)).map iv)/\i+1=(q+1)*n ^ z/\(∀ b,b≠V->h'.get b=h.get b)/\h'.next=h.next/\e 0 = .slice V 0 k 1/\e 1=I6 (n:Int)/\e 5=I6 ((m:Int)-1)) k
  ⟨i,0,rfl,by simpa using hV,by simp,fun _ _=>rfl,rfl,rfl,rfl,rfl⟩ ?_
 rintro m e h' ⟨q,z,hmz,hc,hq,hfr,mS,e0,e1,e5⟩;rw [F.iR.aP]
 cases m with
 |zero=>
  simp only [e5,ug,dr,cu,eR (by omega:¬ (0:Int)<=((0:Nat):Int)-1),aK,lZ];rw [F.iR.aC];refine uI ?_ h' hfr mS;rw [show z=k by omega] at hq;have:n ^ k<=(q+1)*n ^ k:=Nat.le_mul_of_pos_left _ (by omega);omega
 |succ m=>
  have e5':((m+1:Nat):Int)-1=(m:Int):=by omega
  rw [e5'] at e5;have hmk:m<k:=by omega
  have hcl:(eo n (m+1) q++replicate z (0:Int)).length=k:=by rw [length_append,j4,length_replicate];omega
  have hsp:eo n (m+1) q++replicate z (0:Int)=eo n m (q/n)++(((q%n:Nat):Int) :: replicate z 0):=by rw [eo,append_assoc];rfl
  have hv:(eo n (m+1) q++replicate z (0:Int))[m]?=some ((q%n:Nat):Int):=by
   rw [hsp,getElem?_append_right (by rw [j4];exact dK _),j4,Nat.sub_self];rfl
  have mu:∀ v:Int,(eo n (m+1) q++replicate z (0:Int)).set m v=eo n m (q/n)++(v :: replicate z 0):=fun v=>by
   rw [hsp,set_append_right _ _ (by rw [j4];exact dK _),j4,Nat.sub_self];rfl
  have asK:q%n<n:=mod_lt _ n1;have yP:aF .add (I6 ((q%n:Nat):Int)) (I6 1)=some (I6 ((q%n+1:Nat):Int)):=by rw [j9 (by omega) (by omega)];rfl
  have g1:(h'.set V (.cells (((eo n (m+1) q++replicate z (0:Int)).set m ((q%n+1:Nat):Int)).map iv))).get V=sC (((eo n (m+1) q++replicate z (0:Int)).set m ((q%n+1:Nat):Int)).map iv):=by rw [Heap.aG,if_pos rfl]
  have KG:((eo n (m+1) q++replicate z (0:Int)).set m ((q%n+1:Nat):Int))[m]?=some ((q%n+1:Nat):Int):=by rw [getElem?_set,if_pos rfl,if_pos (by omega)]
  simp only [e0,e1,e5,aO,fh (by omega:(0:Int)<=(m:Int)),nh hmk,pR hc hv,yP,tE hc (show m<(eo n (m+1) q++replicate z (0:Int)).length by omega),pR g1 KG];by_cases hlt:q%n+1<n
  ·simp only [fh (by omega:((q%n+1:Nat):Int)<(n:Int)),aL,zF];rw [F.iR.bg];simp only [kC,reduceEqDiff,reduceIte];have Vj:=div_add_mod q n
   have hq1:(q+1)/n=q/n/\(q+1)%n=q%n+1:=by
    have h3:q+1=q%n+1+n*(q/n):=(by omega);rw [h3];exact ⟨by rw [add_mul_div_left _ _ n1,div_eq_of_lt hlt,Nat.zero_add],by rw [add_mul_mod_self_left,mod_eq_of_lt hlt]⟩
   have XZ:eo n k (i+1)=eo n m (q/n)++(((q%n+1:Nat):Int) :: replicate z 0):=by
    rw [hq,<- hmz,BO n1,eo,hq1.1,hq1.2,append_assoc];rfl
   refine DY ?_ _ (by rw [Heap.aG,if_pos rfl,mu,XZ]) (fun b hb=>by rw [Heap.aG,if_neg hb];exact hfr b hb) (by rw [Heap.aT];exact mS);refine Nat.lt_of_le_of_ne hi fun he=>?_;rw [hq,<- hmz,Nat.pow_add] at he;have h4:q+1=n ^ (m+1):=eq_of_mul_eq_mul_right (Nat.pow_pos n1) he;have h5:(q+1)%n=0:=by rw [h4,Nat.pow_succ,mul_mod_left]
   omega
  ·have BB:aF .sub (I6 (m:Int)) (I6 1)=some (I6 ((m:Int)-1)):=uf (by omega) (by omega);simp only [eR (by omega:¬ ((q%n+1:Nat):Int)<(n:Int)),aK,tE g1 (show m<((eo n (m+1) q++replicate z (0:Int)).set m ((q%n+1:Nat):Int)).length by rw [length_set];omega),BB,dr];have Vj:=div_add_mod q n;refine bO.2 ⟨m,by omega,rfl,rfl,q/n,z+1,by omega,?_,?_,fun b hb=>?_,?_,e0,e1,rfl⟩
   ·rw [Heap.aG,if_pos rfl,set_set,mu];rfl
   ·have h3:q+1=(q/n+1)*n:=(by rw [succ_mul,Nat.mul_comm];omega);rw [hq,h3,Nat.pow_succ,Nat.mul_assoc,Nat.mul_comm n]
   ·simp only [Heap.aG,if_neg hb];exact hfr b hb
   ·simp only [Heap.aT];exact mS
structure er where
 name:cc
 k:Nat
 nO:Nat
 bits:List Bool
def oG(t:er):List AV:=[.str t.name,I6 (t.k:Int),.slice t.nO 0 t.bits.length 1]
theorem Fh(t:er):(oG t).length=3:=rfl
theorem Px(t:er):aW (oG t)=true:=rfl
def dm(t:er):jR:=⟨t.name,t.k,t.bits⟩
structure gj (k0:Nat) (h:Heap) (a:AV) (ts:List er):Prop where
 own:Own oG 3 k0 h a ts
 cell:∀ t ∈ ts,k0<=t.nO/\t.nO<h.next/\bR a≠some t.nO/\h.get t.nO=sC (t.bits.map bv)
 inj:∀ (i j:Nat) (s t:er),ts[i]?=some s->ts[j]?=some t->s.nO=t.nO->i=j
theorem gj.gG{h':Heap}{ts:List er}(t:gj k0 h a ts)(hb:∀ b,k0<=b->b<h.next->h'.get b=h.get b)(hn:h.next<=h'.next):gj k0 h' a ts:=
 ⟨t.own.agree (fun b e=>hb b (t.own.ge e) (t.own.lt e)) hn,fun q hq=>by
  obtain ⟨h1,h2,h3,h4⟩:=t.cell q hq
  exact ⟨h1,by omega,h3,by rw [hb _ h1 h2];exact h4⟩,t.inj⟩
theorem gj.ext{h':Heap}{ts:List er}(t:gj k0 h a ts)(hx:aV h h'):gj k0 h' a ts:=t.gG (fun b _ b2=>hx.get b b2) hx.next
theorem gj.Ad{ts:List er}(t:gj k0 h a ts):∃ x:Sl jR,x.l=ts.map dm/\Fz true h a (dR kT 3 x):=by
 obtain ⟨o,hc,_⟩:=t
 cases o with
 |nil=>exact ⟨none,rfl,.scalar _ rfl⟩
 |row b ts h1 h2 h3=>
  refine ⟨some (ts.map dm),rfl,?_⟩
  have key:∀ l:List er,(∀ t ∈ l,h.get t.nO=sC (t.bits.map bv))->j8 true h (l.flatMap oG) ((l.map dm).flatMap kT):=by
   intro l
   induction l with
   |nil=>intro _;exact .nil
   |cons t l ih=>
    intro hl;rw [flatMap_cons,map_cons,flatMap_cons];exact j8.append (j8.cons (.scalar _ rfl) (j8.cons (.scalar _ rfl) (j8.cons (Pc (hl t mem_cons_self)) .nil))) (ih fun q hq=>hl q (mem_cons_of_mem _ hq))
  have fl:=key ts fun t ht=>(hc t ht).2.2.2;have:dR kT 3 (some (ts.map dm)) = .ax ((ts.map dm).flatMap kT) 0 ts.length 3:=by simp only [dR,length_map]
  rw [this];exact .slice b 0 ts.length 3 _ _ h3 fl.len fl.rel
def er.put(t:er)(i:Nat):er:=⟨t.name,t.k,t.nO,t.bits.set i true⟩
theorem Py{α:Type}{enc:α->List AV}:∀ {l:List α} {j:Nat} {t t':α},l[j]?=some t->enc t'=enc t->(l.set j t').flatMap enc=l.flatMap enc
 |[],j,t,t',h,_=>by simp at h
 |q :: l,0,t,t',h,e=>by simp at h;subst h;simp [e]
 |q :: l,j+1,t,t',h,e=>by
  rw [getElem?_cons_succ] at h;rw [set_cons_succ,flatMap_cons,flatMap_cons,Py h e]
theorem gj.put{k0:Nat}{h:Heap}{a:AV}{ts:List er}(t:gj k0 h a ts){j:Nat}{q:er}(hq:ts[j]?=some q)(i:Nat):gj k0 (h.set q.nO (.cells ((q.bits.set i true).map bv))) a (ts.set j (q.put i)):=by
 have hqm:=ij hq;obtain ⟨c1,c2,c3,c4⟩:=t.cell q hqm;have hj:=(lR.1 hq).1;refine ⟨?_,fun p hp=>?_,fun x y s u hx hy hb=>?_⟩
 ·have o:=t.own;have he:oG (q.put i)=oG q:=by simp [oG,er.put]
  generalize tY:ts.set j (q.put i)=nu;have hfl:nu.flatMap oG=ts.flatMap oG:=by rw [<- tY];exact Py hq he
  have hlen:nu.length=ts.length:=by rw [<- tY,length_set]
  cases o with
  |nil=>simp at hj
  |row b ts h1 h2 h3=>
   rw [<- hlen];refine .row b nu h1 (by rw [Heap.aT];exact h2) ?_;rw [Heap.aG,if_neg (fun e=>c3 (by rw [<- e];rfl)),h3,hfl]
 ·obtain ⟨x,hx⟩:=mem_iff_getElem?.1 hp;rw [getElem?_set] at hx;by_cases e:j=x
  ·rw [if_pos e,if_pos (by omega)] at hx;cases hx;exact ⟨c1,by rw [Heap.aT];exact c2,c3,by rw [Heap.aG];exact if_pos rfl⟩
  ·rw [if_neg e] at hx;obtain ⟨d1,d2,d3,d4⟩:=t.cell p (ij hx);exact ⟨d1,by rw [Heap.aT];exact d2,d3,by rw [Heap.aG,if_neg (fun e'=>e (t.inj j x q p hq hx e'.symm))];exact d4⟩
 ·have key:∀ (x:Nat) (s:er),(ts.set j (q.put i))[x]?=some s->∃ s',ts[x]?=some s'/\s'.nO=s.nO:=fun x s hx=>by
   rw [getElem?_set] at hx;by_cases e:j=x
   ·rw [if_pos e,if_pos (by omega)] at hx;cases hx;exact ⟨q,by rw [<- e];exact hq,rfl⟩
   ·rw [if_neg e] at hx;exact ⟨s,hx,rfl⟩
  obtain ⟨s',a1,a2⟩:=key x s hx;obtain ⟨u',b1,b2⟩:=key y u hy;exact t.inj x y s' u' a1 b1 (by rw [a2,b2,hb])
theorem Vk(ts:List er)(j:Nat)(q:er):(ts.set j q).map dm=(ts.map dm).set j (dm q):=by rw [map_set]
def er.shape(t:er):cc×Nat×Nat×Nat:=(t.name,t.k,t.nO,t.bits.length)
theorem Vl{ts:List er}{q:er}(hq:ts[j]?=some q)(i:Nat):(ts.set j (q.put i)).map er.shape=ts.map er.shape:=by
 rw [map_set];refine ext_getElem? fun x=>?_;rw [getElem?_set];by_cases e:j=x
 ·have hj:=(lR.1 hq).1;rw [if_pos e,if_pos (by rw [length_map];omega),getElem?_map,<- e,hq];simp [er.shape,er.put]
 ·rw [if_neg e]
theorem El{ts nu:List er}(h:nu.map er.shape=ts.map er.shape){q:er}(hq:q ∈ nu):∃ p ∈ ts,p.shape=q.shape:=by
 have:q.shape ∈ nu.map er.shape:=List.mem_map_of_mem hq;rw [h] at this;obtain ⟨p,hp,e⟩:=mem_map.1 this;exact ⟨p,hp,e⟩
theorem Vm{ts nu:List er}(h:nu.map er.shape=ts.map er.shape){q:er}(hq:ts[j]?=some q):∃ p,nu[j]?=some p/\p.shape=q.shape:=by
 have h1:(nu.map er.shape)[j]?=some q.shape:=by rw [h,getElem?_map,hq];rfl
 rw [getElem?_map] at h1;obtain ⟨p,h2,h3⟩:=map_eq_some_iff.1 h1;exact ⟨p,h2,h3⟩
theorem Ln{ts nu:List er}(h:nu.map er.shape=ts.map er.shape):nu.length=ts.length:=by have:=congrArg List.length h;simpa using this
theorem oE.shape{n:Nat}{r:aI}{ts nu:List er}(f:oE n r (ts.map dm))(h:nu.map er.shape=ts.map er.shape):oE n r (nu.map dm):=
 ⟨by have:=f.len;rw [length_map] at this ⊢;rw [Ln h];exact this,f.conds,fun c hc k0=>by
  obtain ⟨h1,h2⟩:=f.rel c hc k0;refine ⟨h1,fun q hq hn=>?_⟩;obtain ⟨t,ht,rfl⟩:=mem_map.1 hq;obtain ⟨p,hp,e⟩:=El h ht;unfold er.shape at e;simp only [Prod.mk.injEq] at e;have:=h2 (dm p) (List.mem_map_of_mem hp) (by show p.name=_;rw [e.1];exact hn);show t.bits.length=_
  rw [<- e.2.2.2];exact this⟩
theorem Gc(n1:1<=n)(hf:r.k8)(hk:(varsOf r).length<=12)(jS:all.l=varsOf r)(Gv:AD n r vs){ts:List er}(ht:gj k0 h a ts)(hx:oE n r (ts.map dm)){V:Nat}(hV:h.get V=sC (vs.map iv))
  (hK:K (.ret (.bool (lK n (fI (ts.map dm)) r vs))) h=true):Sem TP 124 [.agg (bY r),iz all,.slice V 0 vs.length 1,a,I6 (n:Int)] h K:=by
 obtain ⟨x,jM,fK⟩:=ht.Ad;have hfit:oE n r x.l:=by rw [jM];exact hx
 have hs:=dJ n1 hf hk jS (vs:=some vs) Gv hfit (h:=Heap.empty) (K:=tV (.bool (lK n (fI x.l) r vs))) (eB rfl);have M0:fI x.l=fI (ts.map dm):=by rw [jM]
 rw [<- M0] at hK;exact Sem.OK rfl hs (j8.cons (.de (by simpa [AV.pure] using fN r)) (j8.cons (.de (br jc _)) (j8.cons (pT hV) (j8.cons fK (j8.cons (.scalar _ rfl) .nil))))) hK
theorem Fi{n:Nat}{r:aI}{j:Nat}:∀ (m:Nat) (ts:List jR) (f:Bool),ig n r j m (ts,f)=((ig n r j m (ts,false)).1,f||(ig n r j m (ts,false)).2)
 |0,ts,f=>by simp [ig]
 |m+1,ts,f=>by
  rw [ze,ze,Fi m ts f];generalize ig n r j m (ts,false)=s;obtain ⟨u,g⟩:=s;unfold Jp;simp only
  cases u[j]? with
  |none=>rfl
  |some t=>
   simp only;split
   ·rfl
   ·split
    ·simp
    ·rfl
theorem acO(t:er){ts:List er}(hA:gj k0 h a ts)(hj:ts[j]?=some t):∃ b,b<h.next/\jw 3 a (I6 (j:Int))=some (.ptr b (j*3))/\au none (.ptr b (j*3+2)) h=some (.slice t.nO 0 t.bits.length 1):=by
 obtain ⟨b,_,h2,h3,_,h5⟩:=hA.own.get Fh hj;exact ⟨b,h2,h3 .i64,by rw [h5 2 (by omega)];rfl⟩
theorem iH{n:Nat}(n1:1<=n)(sK:n<=64){r:aI}(hf:r.k8)(hk:(varsOf r).length<=12)(J9:r.args.l.length<=12)(wm:n ^ r.args.l.length<=4096){k0:Nat}{a:AV}{ts:List er}{h:Heap}(hA:gj k0 h a ts)(hx:oE n r (ts.map dm)){j:Nat}{t0:er}(hj:ts[j]?=some t0)(ht0:t0.bits.length=n ^ r.args.l.length){K:Out->Heap->Bool}
  (hK:∀ h' nu,(nu.map dm,(ig n r j (n ^ (varsOf r).length) (ts.map dm,false)).2)=ig n r j (n ^ (varsOf r).length) (ts.map dm,false)->nu.map er.shape=ts.map er.shape->gj k0 h' a nu->(∀ b,b<h.next->(∀ t ∈ ts,b≠t.nO)->h'.get b=h.get b)->h.next<=h'.next ->
   K (.ret (.bool (ig n r j (n ^ (varsOf r).length) (ts.map dm,false)).2)) h'=true) :
  Sem TP 129 [.agg (bY r),a,I6 (j:Int),I6 (n:Int)] h K:=by
 refine F.FW ?_;rw [F.Ib];simp only [cD (kr r),dr];have g0:(h.alloc (.cells (bY r))).get h.next=sC (bY r):=ak _ _
 have gx:aV h (h.alloc (.cells (bY r))):=aV.alloc _ _;have gn:(h.alloc (.cells (bY r))).next=h.next+1:=rfl
 generalize (h.alloc (.cells (bY r)))=H0 at g0 gx gn ⊢;simp only [aj g0,bY,si,dr];refine af (bX hf fun x jM=>?_);have BV:x.l.length<=1000000:=by rw [jM];omega
 simp only [aO,zO BV];have gV:(H0.alloc (.cells ((replicate x.l.length (0:Int)).map iv))).get H0.next=sC ((replicate x.l.length (0:Int)).map iv):=ak _ _
 have xV:aV H0 (H0.alloc (.cells ((replicate x.l.length (0:Int)).map iv))):=aV.alloc _ _;have nV:(H0.alloc (.cells ((replicate x.l.length (0:Int)).map iv))).next=H0.next+1:=rfl
 generalize (H0.alloc (.cells ((replicate x.l.length (0:Int)).map iv)))=H1 at gV xV nV ⊢;rw [jM] at gV ⊢;rw [gn] at gV nV;have xx:=gx.trans xV;have AE:0<n ^ (varsOf r).length:=Nat.pow_pos n1
 refine jU (fun m e h'=>∃ (i:Nat) (nu:List er) (fl:Bool),m=n ^ (varsOf r).length-i/\i<n ^ (varsOf r).length/\(nu.map dm,fl)=ig n r j i (ts.map dm,false)/\nu.map er.shape=ts.map er.shape/\gj k0 h' a nu /\
   h'.get h.next=sC (bY r)/\h'.get (h.next+1)=sC ((eo n (varsOf r).length i).map iv)/\(∀ b,b<h.next->(∀ t ∈ ts,b≠t.nO)->h'.get b=h.get b)/\h.next+2<=h'.next /\
   e 1=a/\e 2=I6 (j:Int)/\e 3=I6 (n:Int)/\e 4 = .ptr h.next 0/\e 9=iz x/\e 10 = .slice (h.next+1) 0 (varsOf r).length 1/\e 11 = .bool fl) (n ^ (varsOf r).length)
  ⟨0,ts,false,rfl,AE,rfl,rfl,hA.ext xx,xV.at g0 (by omega),by rw [Vi n1];exact gV,fun b hb _=>xx.get b hb,by omega,rfl,rfl,rfl,rfl,rfl,by rw [gn];rfl,rfl⟩ ?_
 rintro m e h' ⟨i,nu,fl,hm,hi,jL,TI,YP,q0,qV,hfr,mS,e1,e2,e3,e4,e9,iJ,l9⟩;have ha:AD n r (eo n (varsOf r).length i):=IP n1 hi;obtain ⟨t,htj,tY⟩:=Vm TI hj;unfold er.shape at tY;simp only [Prod.mk.injEq] at tY;have qv:t.bits.length=n ^ r.args.l.length:=by rw [tY.2.2.2,ht0]
 have uQ:=IN ha;have aba:jK n r (eo n (varsOf r).length i)<t.bits.length:=by rw [qv];exact uQ
 obtain ⟨ba,hba,ia,la⟩:=acO t YP htj;obtain ⟨c1,c2,c3,c4⟩:=YP.cell t (ij htj);have oO:t.bits[jK n r (eo n (varsOf r).length i)]?=some (t.bits.getD (jK n r (eo n (varsOf r).length i)) false):=by rw [getD_eq_getElem?_getD,jQ aba];rfl
 have l4:=lA q0 1 rfl;have lr:au (some 3) (.ptr h.next 0) h'=some (.agg (bY r)):=by rw [aj q0];simp only [bY,si]
 have nr:(placesOf (varsOf r) r.args.l).length=r.args.l.length:=by unfold placesOf;simp
 have sF:∀ p ∈ placesOf (varsOf r) r.args.l,p<(eo n (varsOf r).length i).length:=by rw [ha.1];exact nI nH
 have BU:=mc (eo n (varsOf r).length i) (placesOf (varsOf r) r.args.l);have hin:=qO ha.2 sF;have hVl:(eo n (varsOf r).length i).length=(varsOf r).length:=j4 _ _ _;have xd:=fun {K} hk=>IY (all:=x) (xs:=r.args) (vs:=eo n (varsOf r).length i) (V:=h.next+1) (h:=h') (K:=K) (by rw [jM];exact BN r) (by unfold cw;omega) (by omega) (by rw [jM];exact nH) (by rw [jM];exact hVl) qV hk;rw [hVl] at xd;have Rl:∀ (Kh:List er) (f2:Bool),(Kh.map dm,f2)=Jp n r j (eo n (varsOf r).length i) (nu.map dm,fl)->(Kh.map dm,f2)=ig n r j (i+1) (ts.map dm,false):=fun Kh f2 h2=>by rw [ze,<- jL];exact h2
 have I0:Jp n r j (eo n (varsOf r).length i) (nu.map dm,fl)=if t.bits.getD (jK n r (eo n (varsOf r).length i)) false=true then (nu.map dm,fl) else if lK n (fI (nu.map dm)) r (eo n (varsOf r).length i)=true then ((nu.map dm).set j ⟨t.name,t.k,t.bits.set (jK n r (eo n (varsOf r).length i)) true⟩,true) else (nu.map dm,fl):=by
  unfold Jp;have:(nu.map dm)[j]?=some (dm t):=by rw [getElem?_map,htj];rfl
  simp only [this];rfl
 have adv:∀ (h2:Heap) (Kh:List er) (f2:Bool) (e':Env) (R:Out->Heap->Bool),(Kh.map dm,f2)=Jp n r j (eo n (varsOf r).length i) (nu.map dm,fl)->Kh.map er.shape=ts.map er.shape->gj k0 h2 a Kh->h2.get h.next=sC (bY r)->h2.get (h.next+1)=sC ((eo n (varsOf r).length i).map iv) ->
   (∀ b,b<h.next->(∀ t ∈ ts,b≠t.nO)->h2.get b=h.get b)->h.next+2<=h2.next ->
   (∀ (h3:Heap) (i':Nat),i+1<n ^ (varsOf r).length->h3.get (h.next+1)=sC ((eo n (varsOf r).length (i+1)).map iv)->(∀ b,b≠h.next+1->h3.get b=h2.get b)->h3.next=h2.next->R (.ret bT) h3=true) ->
   (∀ (h3:Heap),i+1=n ^ (varsOf r).length->(∀ b,b≠h.next+1->h3.get b=h2.get b)->h3.next=h2.next->R (.ret bF) h3=true) ->
   an TP 165 [.slice (h.next+1) 0 (varsOf r).length 1,I6 (n:Int)] h2 R=true:=fun h2 Kh f2 e' R _ _ _ _ w1 _ _ hy hn=>af (iR n1 sK hk hi w1 (fun p h3 a1 a2 a3=>hy h3 0 p a1 a2 a3) fun p h3 a2 a3=>hn h3 p a2 a3)
 have TJ:∀ {h2 h3:Heap} {Kh:List er},Kh.map er.shape=ts.map er.shape->gj k0 h2 a Kh->(∀ b,b≠h.next+1->h3.get b=h2.get b)->h3.next=h2.next->gj k0 h3 a Kh:=fun {h2 h3 Kh} se Vn hb hn=>by
  have hne:∀ q ∈ Kh,q.nO≠h.next+1:=fun q hq=>by
   obtain ⟨p,hp,e⟩:=El se hq;unfold er.shape at e;simp only [Prod.mk.injEq] at e;have:=(hA.cell p hp).2.1;omega
  have YK:∀ b,bR a=some b->b≠h.next+1:=fun b e=>by have:=hA.own.lt e;omega
  exact ⟨Vn.own.agree (fun b e=>hb b (YK b e)) (by omega),fun q hq=>by
   obtain ⟨d1,d2,d3,d4⟩:=Vn.cell q hq
   exact ⟨d1,by omega,d3,by rw [hb _ (hne q hq)];exact d4⟩,Vn.inj⟩
 have fin:∀ (h2 h3:Heap) (Kh:List er) (f2:Bool),(Kh.map dm,f2)=Jp n r j (eo n (varsOf r).length i) (nu.map dm,fl)->Kh.map er.shape=ts.map er.shape->gj k0 h2 a Kh->(∀ b,b<h.next->(∀ t ∈ ts,b≠t.nO)->h2.get b=h.get b)->h.next+2<=h2.next ->
   i+1=n ^ (varsOf r).length->(∀ b,b≠h.next+1->h3.get b=h2.get b)->h3.next=h2.next->K (.ret (.bool f2)) h3=true:=fun h2 h3 Kh f2 hd se Vn S3 qj CR hb hn=>by
  have h5:=Rl Kh f2 hd;rw [CR] at h5;have h6:=hK h3 Kh (by rw [<- h5]) se (TJ se Vn hb hn) (fun b b1 b2=>by rw [hb b (by omega)];exact S3 b b1 b2) (by omega);rw [<- h5] at h6;exact h6
 rw [F.iH.aP];simp only [e1,e2,e3,e4,e9,iJ,aO,l4];refine af (xd ?_);rw [jM];simp only [aO];refine af (jg n1 (x:=some (bL (eo n (varsOf r).length i) (placesOf (varsOf r) r.args.l))) (k:=r.args.l.length) (by show (bL (eo n (varsOf r).length i) (placesOf (varsOf r) r.args.l)).length=_;rw [BU,nr]) J9 wm hin ?_);rw [show mg n (Sl.l (some (bL (eo n (varsOf r).length i) (placesOf (varsOf r) r.args.l))))=jK n r (eo n (varsOf r).length i) from rfl];simp only [aO,ia,la,nh aba,CN c4 oO]
 cases hb:t.bits.getD (jK n r (eo n (varsOf r).length i)) false with
 |true=>
  rw [hb,if_pos rfl] at I0;simp only [Bool.not_true,aK];refine adv h' nu fl e _ I0.symm TI YP q0 qV hfr mS (fun h3 i' hlt a1 a2 a3=>?_) fun h3 CR a2 a3=>?_
  ·simp only [aO,Bool.not_true];refine bO.2 ⟨n ^ (varsOf r).length-(i+1),by omega,rfl,rfl,i+1,nu,fl,rfl,hlt,Rl _ _ I0.symm,TI,TJ TI YP a2 a3,by rw [a2 _ (by omega)];exact q0,a1,fun b b1 b2=>by rw [a2 b (by omega)];exact hfr b b1 b2,by show h.next+2<=h3.next;omega,e1,e2,e3,e4,e9,iJ,l9⟩
  ·simp only [aO,Bool.not_false,zF];rw [F.iH.bg];simp only [kC,reduceEqDiff,reduceIte,l9];exact fin h' h3 nu fl I0.symm TI YP hfr mS CR a2 a3
 |false=>
  rw [hb,if_neg (by simp)] at I0;simp only [Bool.not_false,aL,aO,lr];have qb:=fun {K} hk=>Gc n1 hf hk jM ha YP (hx.shape TI) qV (h:=h') (K:=K);rw [hVl] at qb;refine af (qb hk ?_);simp only [aO]
  cases hap:lK n (fI (nu.map dm)) r (eo n (varsOf r).length i) with
  |false=>
   rw [hap,if_neg (by simp)] at I0;simp only [aK];refine adv h' nu fl e _ I0.symm TI YP q0 qV hfr mS (fun h3 i' hlt a1 a2 a3=>?_) fun h3 CR a2 a3=>?_
   ·simp only [aO,Bool.not_true];refine bO.2 ⟨n ^ (varsOf r).length-(i+1),by omega,rfl,rfl,i+1,nu,fl,rfl,hlt,Rl _ _ I0.symm,TI,TJ TI YP a2 a3,by rw [a2 _ (by omega)];exact q0,a1,fun b b1 b2=>by rw [a2 b (by omega)];exact hfr b b1 b2,by show h.next+2<=h3.next;omega,e1,e2,e3,e4,e9,iJ,l9⟩
   ·simp only [aO,Bool.not_false,zF];rw [F.iH.bg];simp only [kC,reduceEqDiff,reduceIte,l9];exact fin h' h3 nu fl I0.symm TI YP hfr mS CR a2 a3
  |true=>
   rw [hap,if_pos rfl] at I0;have abb:=vm (v:=true) c4 aba;have yg:=YP.put htj (jK n r (eo n (varsOf r).length i));have uN:(nu.set j (t.put (jK n r (eo n (varsOf r).length i)))).map er.shape=ts.map er.shape:=by rw [Vl htj,TI]
   have hd2:((nu.set j (t.put (jK n r (eo n (varsOf r).length i)))).map dm,true)=Jp n r j (eo n (varsOf r).length i) (nu.map dm,fl):=by rw [I0,Vk];rfl
   have hbk:t.nO<h.next:=by
    obtain ⟨_,d2,_,_⟩:=hA.cell t0 (ij hj);rw [tY.2.2.1];exact d2
   simp only [aL,aO,la,nh aba,abb];have w0:(h'.set t.nO (.cells ((t.bits.set (jK n r (eo n (varsOf r).length i)) true).map bv))).get h.next=sC (bY r):=by rw [Heap.aG,if_neg (by omega)];exact q0
   have w1:(h'.set t.nO (.cells ((t.bits.set (jK n r (eo n (varsOf r).length i)) true).map bv))).get (h.next+1)=sC ((eo n (varsOf r).length i).map iv):=by rw [Heap.aG,if_neg (by omega)];exact qV
   have wf:∀ b,b<h.next->(∀ t ∈ ts,b≠t.nO)->(h'.set t.nO (.cells ((t.bits.set (jK n r (eo n (varsOf r).length i)) true).map bv))).get b=h.get b:=fun b b1 b2=>by
    rw [Heap.aG,if_neg (by rw [tY.2.2.1];exact b2 t0 (ij hj))];exact hfr b b1 b2
   have wn:(h'.set t.nO (.cells ((t.bits.set (jK n r (eo n (varsOf r).length i)) true).map bv))).next=h'.next:=Heap.aT _ _ _
   generalize (h'.set t.nO (.cells ((t.bits.set (jK n r (eo n (varsOf r).length i)) true).map bv)))=H2 at yg w0 w1 wf wn ⊢;refine adv H2 _ true e _ hd2 uN yg w0 w1 wf (by omega) (fun h3 i' hlt a1 a2 a3=>?_) fun h3 CR a2 a3=>?_
   ·simp only [aO,Bool.not_true];refine bO.2 ⟨n ^ (varsOf r).length-(i+1),by omega,rfl,rfl,i+1,_,true,rfl,hlt,Rl _ _ hd2,uN,TJ uN yg a2 a3,by rw [a2 _ (by omega)];exact w0,a1,fun b b1 b2=>by rw [a2 b (by omega)];exact wf b b1 b2,by show h.next+2<=h3.next;omega,e1,e2,e3,e4,e9,iJ,rfl⟩
   ·simp only [aO,Bool.not_false,zF];rw [F.iH.bg];simp only [kC,reduceEqDiff,reduceIte];exact fin H2 h3 _ true hd2 uN yg wf (by omega) CR a2 a3
def uL(n:Nat)(F:Lk)(nm:cc)(k i:Nat):List (List Int):=((List.range i).filter (F nm)).map (eo n k)
theorem Lo(n:Nat)(F:Lk)(nm:cc)(k i:Nat):uL n F nm k (i+1)=uL n F nm k i++if F nm i=true then [eo n k i] else []:=by
 unfold uL;rw [range_succ,filter_append,map_append];by_cases h:F nm i=true<;>simp [h]
theorem I1(n:Nat)(F:Lk)(nm:cc)(k i:Nat):(uL n F nm k i).length<=i:=by
 unfold uL;rw [length_map];have:=length_filter_le (F nm) (List.range i);simpa using this
def qd(rs:List aI)(n:Nat)(F:Lk)(nms:List cc):List (cc×Int×List (List Int)):=nms.map fun nm=>(nm,(ke rs nm:Int),uL n F nm (ke rs nm) (n ^ ke rs nm))
def Em(rs:List aI)(s:ct)(e:Int):Prop:=((¬ nk rs\/cY s=false)/\e=1)\/(nk rs/\cY s=true/\((Qs rs s/\e=4)\/(¬ Qs rs s/\TG rs s/\e=5)))
structure dw (rs:List aI) (s:ct):Prop where
 iD:nk rs
 valid:cY s=true
 names:¬ Qs rs s
 wY:¬ TG rs s
theorem GA(s:St):dz TP s Tryz.f19.results.toList=(match au (some 2) (s.env 4) s.h,(some [s.env 5]:Option (List AV)) with|some v,some vs=>some (v :: vs)|_,_=>none):=by kernel_rfl
theorem wH(jb:dQ rs []=some m)(h:nm ∈ bC rs):m.find nm=some (ke rs nm:Int)/\∃ r ∈ rs,r.name=nm/\ke rs nm=r.args.l.length:=by
 obtain ⟨r,hr,BW⟩:=mem_map.1 h;have:=IX jb hr;rw [<- BW];refine ⟨?_,r,hr,rfl,this⟩;rw [this];exact (nN jb _ _).2 (pe hr)
theorem Sh(hl:iu (bC rs) h M ks lv)(Gy:ks.Nodup):u6 ks=cZ rs:=by
 obtain ⟨h1,h2⟩:=MG Gy;exact AZ h1 (rG rs) fun x=>by rw [h2,hl.mem,ej]
theorem Vo{D:DB}{p:Nat×List Bool}(hp:D nm=some p)(hi:i<p.2.length):p.2[i]?=some (ee D nm i):=by
 unfold ee;rw [hp];simp only;rw [getD_eq_getElem?_getD,jQ hi];rfl
theorem eC{rules:Sl aI}{s:ct}(mP:∀ r ∈ rules.l,r.ok)(iX:∀ r ∈ rules.l,r.k8)(oP:s.ok)(Nu:cY s=true->s.small){h:Heap}{K:Out->Heap->Bool}
  (X0:∀ e,Em rules.l s e->K (.ret (.tuple [.agg (ah ⟨0,none⟩),I6 e])) h=true)
  (DY:dw rules.l s->∀ out:ct,out.size=s.size->(∃ Fk,mM rules.l s.size.toNat s Fk/\out.aA.l.map bp=s.aA.l.map bp++qd rules.l s.size.toNat Fk (cZ rules.l))->K (.ret (.tuple [.agg (ah out),I6 0])) h=true) :
  Sem TP 19 [gm rules,.agg (ah s)] h K:=by
 have hm:cz=140737488355328:=rfl
 have gen:∀ R:Out->Heap->Bool,(∀ e h',Em rules.l s e->R (.ret (.tuple [.agg (ah ⟨0,none⟩),I6 e])) h'=true) ->
   (dw rules.l s->∀ h' a (x:Sl Rel) Fk,Fz true h' a (qm x)->mM rules.l s.size.toNat s Fk->x.l.map bp=s.aA.l.map bp++qd rules.l s.size.toNat Fk (cZ rules.l)->R (.ret (.tuple [.agg [I6 s.size,a],I6 0])) h'=true) ->
   Sem TP 19 [gm rules,.agg (ah s)] Heap.empty R:=by
  intro R ajn aev;refine F.JL ?_;rw [F.Mq];simp only [cD (bU s),dr,aZ,Heap.aD];have g0:((Heap.alloc Heap.empty (.cells (ah s))).alloc (.cells [I6 0,.ai])).get 0=sC (ah s):=by simp [Heap.aN,aZ]
  have g1:((Heap.alloc Heap.empty (.cells (ah s))).alloc (.cells [I6 0,.ai])).get 1=sC [I6 0,.ai]:=by simp [Heap.aN,aZ]
  have gn:((Heap.alloc Heap.empty (.cells (ah s))).alloc (.cells [I6 0,.ai])).next=2:=rfl
  generalize ((Heap.alloc Heap.empty (.cells (ah s))).alloc (.cells [I6 0,.ai]))=H0 at g0 g1 gn ⊢;have l0:=eM g0;have hz:iP [I6 0,.ai] [] []=some (.agg [I6 0,.ai]):=rfl
  have bad:∀ (e:Int) (h':Heap) (v:AV) (en:Env),e≠0->Em rules.l s e->(∀ b,b<2->h'.get b=H0.get b)->en 4 = .ptr 1 0->en 5=I6 e ->
    (aa (iP [I6 0,.ai] [] []) fun YG=>aa (aS 2 (.ptr 1 0) YG h') fun h11=>aa (match au (some 2) (en 4) h11,(some [en 5]:Option (List AV)) with|some v,some vs=>some (v :: vs)|_,_=>none) fun vs=>R (.ret (oneOf vs)) h11)=true:=by
   intro e h' v en he hb hf e4 e5;have q1:h'.get 1=sC [I6 0,.ai]:=by rw [hf 1 (by omega)];exact g1
   have st:aS 2 (.ptr 1 0) (.agg [I6 0,.ai]) h'=some (h'.set 1 (.cells [I6 0,.ai])):=by
    rw [cj (n:=2) (v:=.agg [I6 0,.ai]) q1 rfl rfl (by simp)];rfl
   have RT:au (some 2) (.ptr 1 0) (h'.set 1 (.cells [I6 0,.ai]))=some (.agg [I6 0,.ai]):=by rw [aj (cs:=[I6 0,.ai]) (by rw [Heap.aG,if_pos rfl])];rfl
   simp only [hz,dr,st,e4,e5,RT,oneOf];exact ajn e _ hb
  simp only [l0,dr];refine af (az mP iX oP (fun hb h' hf=>?_) (fun a1 a2 a3 h' hf=>?_) (fun a1 a2 a3 a4 h' hf=>?_) fun a1 a2 a3 a4 h' n P A M S B lo ks k D0 m hn n1 sK jL sh sd hf Vn=>?_)
  ·simp only [aO,cy];simp only [show (!decide ((1:Int)=0))=true from rfl,aL,GA];exact bad 1 h' .eZ _ (by omega) (.inl ⟨hb,rfl⟩) (by rw [<- gn];exact hf) rfl rfl
  ·simp only [aO,cy];simp only [show (!decide ((4:Int)=0))=true from rfl,aL,GA];exact bad 4 h' .eZ _ (by omega) (.inr ⟨a1,a2,.inl ⟨a3,rfl⟩⟩) (by rw [<- gn];exact hf) rfl rfl
  ·simp only [aO,cy];simp only [show (!decide ((5:Int)=0))=true from rfl,aL,GA];exact bad 5 h' .eZ _ (by omega) (.inr ⟨a1,a2,.inr ⟨a3,a4,rfl⟩⟩) (by rw [<- gn];exact hf) rfl rfl
  have uR:s.size.toNat=n:=by omega
  have am9:=Nu a2;obtain ⟨_,_,_,_,h8⟩:=iL a2;specialize aev ⟨a1,a2,a3,a4⟩;rw [uR] at aev;clear ajn bad;simp only [aO,cy];simp only [decide_true,Bool.not_true,aK];refine af (Sf iX a1 a2 a3 a4 hn n1 sK jL sh sd (fun _ _ _ _ _ _ _ _ _ hk=>XV hk) fun h3 D' Fk hF hDF BH sh3 acR RP=>?_);obtain ⟨hP,hl,Gy,jb,⟨es,ck,hA,hmB⟩,hS,hD,o1,o2,o3,o4,o5,o6⟩:=sh3;rw [gn] at Vn;have p0:h3.get 0=sC (ah s):=by rw [acR 0 (by omega),hf 0 (by omega)];exact g0
  have p1:h3.get 1=sC [I6 0,.ai]:=by rw [acR 1 (by omega),hf 1 (by omega)];exact g1
  have l3:=eM p0;simp only [aO,l3];refine af (cX am9 fun a h4 l x4 o4' hl4=>?_);obtain ⟨AB,MU⟩:=mR o4'.own;have tX:aW [I6 s.size,a]=true:=by simp only [aW,Bool.and_true] at AB ⊢;rw [AB];rfl
  obtain ⟨H5,hs5,p5,po5,pn5⟩:=cA (h:=h4) (zs:=[I6 0,.ai]) (cs:=[I6 s.size,a]) (n:=2) rfl rfl tX;have x5:aV h4 H5:=⟨by omega,fun b hb=>po5 b (by omega)⟩
  have x35:=x4.trans x5;have hn4:=x4.next
  have hP5:=x35.at hP (by omega);simp only [aO,hs5,cM,aj hP5];refine af (keys_map ?_);simp only [aO];have gB:(H5.alloc (.box (.map M))).get H5.next=some (.box (.map M)):=ak _ _
  have xB:aV H5 (H5.alloc (.box (.map M))):=aV.alloc _ _;generalize (H5.alloc (.box (.map M)))=H6 at gB xB ⊢;have wG:=jY jb;have l5:iu (bC rules.l) H6 M ks (fJ.iter (b6 rules.l) k):=hl.gG ((x35.trans xB).get M (by omega))
  obtain ⟨es2,ck2,gM,ajo,WH,hel⟩:=l5.amg Gy fun s hs=>by
   obtain ⟨r,hr,rfl⟩:=mem_map.1 ((l5.mem s).1 hs);have:=OO (BD (wG r hr).1);omega
  have amL:=TH hl Gy;have asO:=pZ rules.l;have ajf:=a1.k8;refine af (RB gB gM ajo (by omega) fun av h7 x7 oa=>?_);rw [WH,Sh hl Gy] at oa;have hb7:=x7.next
  have hb6:=xB.next
  have x47:aV h4 h7:=(x5.trans xB).trans x7;have oo:=o4'.amI x47 (Y:=fun b=>b=h4.next) (fun b hb=>by omega);have q5:h7.get h4.next=sC [I6 s.size,a]:=by rw [(xB.trans x7).get _ (by omega)];exact p5
  have x37:=x4.trans x47;simp only [aO,oa.len];have hdl:(cZ rules.l).length<=cw:=by unfold cw;omega
  have Nq:l.length<=8:=by have:=congrArg List.length hl4;rw [length_map,length_map] at this;omega
  refine aB 0 (cZ rules.l).length (zero_le _) (fun i e h'=>∃ a l,h'.get h4.next=sC [I6 s.size,a]/\Pj (fun b=>b=h4.next) h3.next h' a l/\(l.map fun p=>bp p.2)=s.aA.l.map bp++qd rules.l n Fk ((cZ rules.l).take i)/\l.length<=8+i/\(∀ b,b<h3.next->h'.get b=h3.get b)/\Own encS 1 H6.next h' av (cZ rules.l)/\(∀ b,bR av=some b->bR a≠some b)/\h7.next<=h'.next /\
   e 3 = .ptr 0 0/\e 4 = .ptr 1 0/\e 6 = .ptr P 0/\e 7 = .ptr S 0/\e 9 = .ptr h4.next 0/\e 38=av/\e 39=I6 ((cZ rules.l).length:Int)/\e 40=I6 (i:Int))
   ⟨a,l,q5,oo,by rw [hl4];simp [qd],by omega,fun b hb=>x37.get b hb,oa,fun b hb gN=>by have:=oa.ge hb;have:=o4'.own.lt gN;have:=x5.next;omega,dK _,rfl,rfl,rfl,rfl,rfl,rfl,rfl,rfl⟩ ?_ ?_
  ·rintro i e h' _ hi ⟨a,l,q5,o,hl5,hlen,hfr,oa',ajp,mS,e3,e4,e6,e7,e9,e38,UR,Tu⟩ K' ane hx hr hp;have hv:(cZ rules.l)[i]?=some (cZ rules.l)[i]:=jQ hi;generalize (cZ rules.l)[i]=nm at hv;have rF:nm ∈ bC rules.l:=(ej _).1 (ij hv);obtain ⟨No,r,kW,BW,Qu⟩:=wH jb rF;obtain ⟨wm,p0',Da,aiI⟩:=tQ hn a4 sd kW;rw [BW] at Da;obtain ⟨p,hpD,_,sF⟩:=BH.get Da;rw [aiI,<- Qu] at sF;rw [<- Qu] at wm;have Iy:ke rules.l nm<=12:=by rw [Qu];exact pg (wG r kW).1
   obtain ⟨_,hpn,_,ajq⟩:=hD.nO nm p hpD;obtain ⟨q,_,i1,i2⟩:=yK oa' hv;have pP:h'.get P=sC [gm rules,.map A,.map M]:=by rw [hfr _ (by omega)];exact hP
   have pA:h'.get A=some (.map es ck):=by rw [hfr _ (by omega)];exact hA
   have M0:eO .string (I6 0) false (.map A) (.str nm) h'=some (I6 (ke rules.l nm:Int)):=by rw [yN pA hmB.1,No];rfl
   have ye:iP [.str [],I6 0,.ai] [(0,1),(1,1)] [.str nm,I6 (ke rules.l nm:Int)]=some (.agg [.str nm,I6 (ke rules.l nm:Int),.ai]):=rfl;obtain ⟨H8,hs8,p8,po8,pn8⟩:=cA (h:=h') (zs:=[.str [],I6 0,.ai]) (cs:=[.str nm,I6 (ke rules.l nm:Int),.ai]) (n:=3) rfl rfl rfl;have x8:aV h' H8:=⟨by omega,fun b hb=>po8 b (by omega)⟩
   have pS:H8.get S=sC [I6 (n:Int),.map B]:=by rw [x8.get _ (by omega),hfr _ (by omega)];exact hS
   have hD8:ei D' H8 B lo:=hD.ext ⟨by omega,fun b hb=>by rw [x8.get _ (by omega),hfr b hb]⟩;rw [F.eC.aP];simp only [e6,e7,e38,UR,Tu,aO,aU hi,i1,i2,cM,aj pP,M0,ye,hs8];simp only [aO,aj pS,hD8.look hpD];have abc:∀ hh,bK .slice (.slice p.1 0 p.2.length 1) hh=some (I6 (p.2.length:Int)):=fun _=>rfl;simp only [abc,dr];have hbp:p.2.length<=cw:=by rw [sF];unfold cw;omega
   refine aB 0 p.2.length (zero_le _) (fun j e h2=>∃ tv ts,h2.get h'.next=sC [.str nm,I6 (ke rules.l nm:Int),tv]/\Own jl 1 (h'.next+1) h2 tv ts/\ts.map Sl.l=uL n Fk nm (ke rules.l nm) j/\aV h' h2/\h'.next+1<=h2.next /\
    e 3 = .ptr 0 0/\e 4 = .ptr 1 0/\e 6 = .ptr P 0/\e 7 = .ptr S 0/\e 9 = .ptr h4.next 0/\e 38=av/\e 39=I6 ((cZ rules.l).length:Int)/\e 40=I6 (i:Int)/\e 12 = .ptr h'.next 0/\e 57 = .slice p.1 0 p.2.length 1/\e 58=I6 (p.2.length:Int)/\e 59=I6 (j:Int))
    ⟨_,[],p8,.nil,rfl,x8,by omega,e3,e4,e6,e7,e9,e38,UR,Tu,rfl,rfl,rfl,rfl⟩ ?_ ?_
   ·rintro j e h2 _ hj ⟨tv,ts,q6,ot,tY,x2,XG,e3,e4,e6,e7,e9,e38,UR,Tu,uq,e57,e58,e59⟩ K2 abd fK r7 Ay;have aeg:ts.length<=j:=by have:=congrArg List.length tY;rw [length_map] at this;have:=I1 n Fk nm (ke rules.l nm) j;omega
    have ajs:h2.get p.1=sC (p.2.map bv):=(by rw [x2.get _ (by omega),hfr _ hpn];exact ajq);have oO:=Vo hpD hj;rw [hDF] at oO;have M5:=Lo n Fk nm (ke rules.l nm) j;rw [F.eC.cU];simp only [e57,e58,e59,aO,aU hj,nh hj,CN ajs oO]
    cases hFb:Fk nm j with
    |false=>
     rw [hFb,if_neg (by simp),append_nil] at M5;simp only [aK,aE hj hbp,dr];exact abd _ _ ⟨tv,ts,q6,ot,by rw [M5];exact tY,x2,XG,e3,e4,e6,e7,e9,e38,UR,Tu,uq,e57,e58,rfl⟩
    |true=>
     rw [hFb,if_pos rfl] at M5;have w0:h2.get 0=sC (ah s):=by rw [x2.get _ (by omega),hfr 0 (by omega)];exact p0
     have lz:au none (.ptr 0 0) h2=some (I6 (n:Int)):=(by rw [aj w0,<- hn];rfl);have la:=lA q6 1 rfl;have lt:=lA q6 2 rfl;simp only [aL,e3,uq,aO,lz,la];refine af (jr n1 sK Iy wm (by rw [<- sF];exact hj) fun t ht=>?_);obtain ⟨a9,h9,c9,o9,f9,n9,w9,b9⟩:=ot.push pV vw XG (bytes:=24) (by rw [hm];omega) t;have hne:bR tv≠some h'.next:=fun hb=>by have:=ot.ge hb;omega
     have s6:h9.get h'.next=sC [.str nm,I6 (ke rules.l nm:Int),tv]:=by rw [f9 _ (by omega) hne];exact q6
     have c6:=o9.ki
     have st:aS 1 (.ptr h'.next 2) a9 h9=some (h9.set h'.next (.cells [.str nm,I6 (ke rules.l nm:Int),a9])):=by
      rw [cj (n:=1) s6 c6.2.1 c6.1 (by simp),c6.2.2];rfl
     simp only [aO,lt,IM,c9,st,aE hj hbp];refine abd _ _ ⟨a9,ts++[t],by rw [Heap.aG,if_pos rfl],o9.mK (by omega) _,?_,(w9 h' x2 (by omega)).set (dK _) _,by rw [Heap.aT];omega,e3,e4,e6,e7,e9,e38,UR,Tu,uq,e57,e58,rfl⟩;rw [map_append,tY,M5];simp [ht]
   ·rintro e h2 ⟨tv,ts,q6,ot,tY,x2,XG,e3,e4,e6,e7,e9,e38,UR,Tu,uq,e57,e58,e59⟩ K2 fK;have oe:=o.ext x2;obtain ⟨KG,Rp⟩:=mR ot;have lq:au (some 3) (.ptr h'.next 0) h2=some (.agg (jt (nm,(ke rules.l nm:Int),⟨tv,KG,Rp⟩))):=by rw [aj q6];rfl
    have q52:=x2.at q5 (by omega);have lo:=lA q52 1 rfl;obtain ⟨x,jM,BY⟩:=(kX.y9 ot mG).data;have BV:x.l=ts:=by rw [jM,List.map_map];simp [Function.comp_def]
    obtain ⟨a9,h9,c9,o9,f9,n9,w9,b9⟩:=oe.push nL zV (by omega) (bytes:=48) (by rw [hm];omega) (nm,(ke rules.l nm:Int),⟨tv,KG,Rp⟩) ⟨nm,(ke rules.l nm:Int),x⟩ (fun b hb=>by omega)
     (fun g hg=>MS (BY g fun b b1 b2 _=>hg b (by omega) b2 (by omega) (fun hb=>by have:=o.own.lt hb;omega)))
    have hne:bR a≠some h4.next:=fun hb=>oe.av _ hb rfl
    have s5:h9.get h4.next=sC [I6 s.size,a]:=by rw [f9 _ (by omega) hne];exact q52
    have c6:=o9.own.ki
    have st:aS 1 (.ptr h4.next 1) a9 h9=some (h9.set h4.next (.cells [I6 s.size,a9])):=by
     rw [cj (n:=1) s5 c6.2.1 c6.1 (by simp),c6.2.2];rfl
    rw [F.eC.cU];simp only [e58,e59,aO,aR];rw [fK,F.eC.cm];simp only [aO,reduceEqDiff,reduceIte,e9,uq,Tu,lo,lq,RU,c9,st,aE hi hdl];refine ane _ _ ⟨a9,_,by rw [Heap.aG,if_pos rfl],o9.amH rfl _,?_,by simp;omega,fun b hb=>?_,?_,fun b hb gN=>by have:=oa'.lt hb;have:=b9 b gN;omega,by rw [Heap.aT];omega,e3,e4,e6,e7,e9,e38,UR,rfl⟩
    ·rw [map_append,hl5,take_add_one,hv];unfold qd;rw [map_append,<- append_assoc];simp only [toList_some,map_cons,map_nil,bp,BV,tY,sF]
    ·rw [Heap.aG,if_neg (by omega),f9 b (by omega) (fun gN=>by have:=oe.own.ge gN;omega),x2.get b (by omega)];exact hfr b hb
    ·have ani:∀ b,bR av=some b->(h9.set h4.next (.cells [I6 s.size,a9])).get b=h'.get b:=fun b hb=>by
      have b1:=oa'.ge hb;have b2:=oa'.lt hb;rw [Heap.aG,if_neg (by omega),f9 b (by omega) ?_,x2.get b b2];intro gN;exact ajp b hb gN
     exact oa'.agree ani (by rw [Heap.aT];omega)
  ·rintro e h' ⟨a,l,q5,o,hl5,hlen,hfr,oa',ajp,mS,e3,e4,e6,e7,e9,e38,UR,Tu⟩ K' hx;rw [jD (dK _)] at hl5;obtain ⟨AB,MU⟩:=mR o.own;have aew:aW [I6 s.size,a]=true:=by simp only [aW,Bool.and_true] at AB ⊢;rw [AB];rfl
   have q1:h'.get 1=sC [I6 0,.ai]:=by rw [hfr 1 (by omega)];exact p1
   have lo:au (some 2) (.ptr h4.next 0) h'=some (.agg [I6 s.size,a]):=by rw [aj q5];rfl
   have st:aS 2 (.ptr 1 0) (.agg [I6 s.size,a]) h'=some (h'.set 1 (.cells [I6 s.size,a])):=by
    rw [cj (n:=2) (v:=.agg [I6 s.size,a]) q1 rfl aew (by simp)];rfl
   have RT:au (some 2) (.ptr 1 0) (h'.set 1 (.cells [I6 s.size,a]))=some (.agg [I6 s.size,a]):=by rw [aj (cs:=[I6 s.size,a]) (by rw [Heap.aG,if_pos rfl])];rfl
   rw [F.eC.aP];simp only [UR,Tu,aO,aR];rw [hx,F.eC.aC];simp only [kC,reduceEqDiff,reduceIte,e4,e9,lo,st,dr,GA,RT,oneOf];obtain ⟨x,jM,fK⟩:=(o.low (d:=1) (by omega) (.cells [I6 s.size,a])).fz;exact aev _ a x Fk fK hF (by rw [jM,List.map_map];exact hl5)
 have main:=gen (fun o h'=>yes ((∃ e,Em rules.l s e/\o = .ret (.tuple [.agg (ah ⟨0,none⟩),I6 e]))\/(dw rules.l s/\∃ (a:AV) (x:Sl Rel) (Fk:Lk),o = .ret (.tuple [.agg [I6 s.size,a],I6 0])/\Fz true h' a (qm x)/\mM rules.l s.size.toNat s Fk/\x.l.map bp=s.aA.l.map bp++qd rules.l s.size.toNat Fk (cZ rules.l))))
  (fun e h' he=>bO.2 (.inl ⟨e,he,rfl⟩)) (fun hr h' a x Fk hf hF hx=>bO.2 (.inr ⟨hr,a,x,Fk,rfl,hf,hF,hx⟩))
 refine main.frozen (by simp [AV.cP,AV.pure,br fN,dI]) fun o h' ho=>?_;rcases bO.1 ho with ⟨e,he,rfl⟩|⟨hr,a,x,Fk,rfl,hf,hF,hx⟩
 ·exact ⟨_,_,rfl,.de (by rfl),X0 e he⟩
 ·have f1:=j8.cons (.scalar (I6 s.size) rfl) (j8.cons hf j8.nil);have f2:=j8.cons (Fz.agg _ _ f1.len f1.rel) (j8.cons (.scalar (I6 0) rfl) j8.nil);exact ⟨_,_,rfl,.tuple _ _ f2.len f2.rel,DY hr ⟨s.size,x⟩ rfl ⟨Fk,hF,hx⟩⟩
theorem A6{x:Sl cc}{s:cc}(hl:x.l.length<=cw)(hK:K (.ret (.bool (x.l.any fun x=>x==s))) h=true):Sem TP 86 [iz x,.str s] h K:=by
 refine F.wP ?_;rw [F.ym];refine aB 0 x.l.length (zero_le _) (fun i e h'=>h'=h/\e 0=iz x/\e 1 = .str s/\e 5=I6 (i:Int)/\((x.l.take i).any fun x=>x==s)=false) ⟨rfl,rfl,rfl,rfl,rfl⟩ ?_ ?_
 ·rintro i e h' _ hi ⟨rfl,e0,e1,e5,ht⟩ K' hn hx hr hp;obtain ⟨t,hv⟩:=dM hi;rw [F.eu.aP];simp only [e0,e1,e5,aO,aU hi,aQ x hi,jX hv]
  cases hq:(t==s) with
  |true=>
   simp only [aL];rw [hr,F.eu.bg];have:(x.l.any fun x=>x==s)=true:=List.any_eq_true.2 ⟨t,ij hv,hq⟩;rw [this] at hK;simp only [kC,reduceEqDiff,reduceIte];exact hK
  |false=>
   simp only [aK,aE hi hl,dr];exact hn _ _ ⟨rfl,e0,e1,rfl,yL hv ht hq⟩
 ·rintro e h' ⟨rfl,e0,e1,e5,ht⟩ K' hx;rw [jD (dK _)] at ht;rw [F.eu.aP];simp only [e0,e5,aO,aR];rw [hx,F.eu.aC];rw [ht] at hK;exact hK
theorem X1(y:cc×Int):aW (rS y)=true:=rfl
def YQ(l:List (cc×Int))(x:cc):Int:=match l.find? (fun p=>p.1==x) with|some p=>p.2|none=>-1
theorem En(uo:rs.length<=60)(xL:∀ r ∈ rs,r.body.l.length<=20):(cT rs).length<=1260:=by
 have:∀ rs:List aI,(∀ r ∈ rs,r.body.l.length<=20)->(cT rs).length<=rs.length*21:=by
  intro rs
  induction rs with
  |nil=>intro _;simp [cT]
  |cons r rs ih=>
   intro h;have h1:=ih fun q hq=>h q (mem_cons_of_mem _ hq);have h2:=h r mem_cons_self;have h3:=uH r.body.l;unfold cT at h1 ⊢;rw [flatMap_cons,length_append,length_cons];have:(yU r).length=1+(fq r.body.l).length:=by unfold yU;rw [length_cons];omega
   omega
 have:=this rs xL;omega
theorem eV{rules:Sl aI}(uo:rules.l.length<=60)(xL:∀ r ∈ rules.l,r.body.l.length<=20){s:cc}{h:Heap}{K:Out->Heap->Bool}(hK:K (.ret (I6 (YQ (cT rules.l) s))) h=true):Sem TP 116 [gm rules,.str s] h K:=by
 have hal:=En uo xL;refine F.FU ?_;rw [F.H9];refine af (dh uo xL fun x jM=>?_);simp only [aO];have Qp:x.l.length<=cw:=by rw [jM];unfold cw;omega
 rw [<- jM] at hK;refine aB 0 x.l.length (zero_le _) (fun i e h'=>h'=h/\e 1 = .str s/\e 5=dR rS 2 x/\e 6=I6 (i:Int)/\∀ p ∈ x.l.take i,p.1≠s) ⟨rfl,rfl,rfl,rfl,fun p hp=>(by cases hp)⟩ ?_ ?_
 ·rintro i e h' _ hi ⟨rfl,e1,e5,e6,uI⟩ K' hn hx hr hp;obtain ⟨p,hv⟩:=dM hi;rw [F.eV.aP];simp only [e1,e5,e6,aO,aU hi,aQ x hi,TE hv,R9 hv,um];by_cases hq:p.1=s
  ·simp only [fh hq,aL];rw [hr,F.eV.bg];simp only [kC,reduceEqDiff,reduceIte]
   have:x.l.find? (fun p=>p.1==s)=some p:=by
    rw [find?_eq_some_iff_getElem];refine ⟨by simp [hq],i,hi,(lR.1 hv).2,fun j hj=>?_⟩;have:=uI _ (mem_take_iff_getElem.2 ⟨j,by omega,rfl⟩);simp [this]
   unfold YQ at hK;rw [this] at hK;exact hK
  ·simp only [eR hq,aK,aE hi Qp,dr];refine hn _ _ ⟨rfl,e1,e5,rfl,fun q rV=>?_⟩;rw [take_add_one,hv] at rV;rcases mem_append.1 rV with rV|rV
   ·exact uI q rV
   ·simp only [toList_some,mem_singleton] at rV;subst rV;exact hq
 ·rintro e h' ⟨rfl,e1,e5,e6,uI⟩ K' hx;rw [jD (dK _)] at uI;rw [F.eV.aP];simp only [e5,e6,aO,aR];rw [hx,F.eV.aC]
  have:x.l.find? (fun p=>p.1==s)=none:=by
   rw [find?_eq_none];intro q hq;simp [uI q hq]
  unfold YQ at hK;rw [this] at hK;exact hK
theorem M6(jb:dQ rs []=some m){k:Int}(h:(x,k) ∈ cT rs):YQ (cT rs) x=k:=by
 unfold YQ
 cases hf:(cT rs).find? (fun p=>p.1==x) with
 |none=>
  rw [find?_eq_none] at hf;exact absurd (hf _ h) (by simp)
 |some p=>
  have h1:=mem_of_find?_eq_some hf;have h2:=find?_some hf;rw [beq_iff_eq] at h2;simp only;exact rI jb (x:=x) (by rw [<- h2];exact h1) h
theorem Pz(jb:dQ rs []=some m)(h:x ∈ bC rs):YQ (cT rs) x=(ke rs x:Int):=by
 obtain ⟨r,hr,BW⟩:=mem_map.1 h;rw [<- BW,M6 jb (pe hr),IX jb hr]
def tT(ds:List cc)(ys:List (cc×Int)):List cc:=ys.foldl (fun o y=>if y.1 ∈ ds then o else gv o y.1) []
theorem PA{ds:List cc}{ys:List (cc×Int)}{y:cc×Int}(hy:ys[i]?=some y):tT ds (ys.take (i+1))=if y.1 ∈ ds then tT ds (ys.take i) else gv (tT ds (ys.take i)) y.1:=by
 unfold tT;rw [take_add_one,hy];simp
theorem I2{ds:List cc}:∀ {ys:List (cc×Int)},x ∈ tT ds ys↔∃ y ∈ ys,y.1=x/\x ∉ ds:=by
 have key:∀ (ys:List (cc×Int)) (o:List cc),x ∈ ys.foldl (fun o y=>if y.1 ∈ ds then o else gv o y.1) o↔(x ∈ o\/∃ y ∈ ys,y.1=x/\x ∉ ds):=by
  intro ys
  induction ys with
  |nil=>intro o;simp
  |cons y ys ih=>
   intro o;rw [foldl_cons,ih];by_cases hd:y.1 ∈ ds
   ·rw [if_pos hd];constructor
    ·rintro (h|⟨z,hz,h1,h2⟩)
     ·exact .inl h
     ·exact .inr ⟨z,mem_cons_of_mem _ hz,h1,h2⟩
    ·rintro (h|⟨z,hz,h1,h2⟩)
     ·exact .inl h
     ·rcases mem_cons.1 hz with rfl|hz
      ·exact absurd (h1▸hd) h2
      ·exact .inr ⟨z,hz,h1,h2⟩
   ·rw [if_neg hd,wj];constructor
    ·rintro ((h|h)|⟨z,hz,h1,h2⟩)
     ·exact .inl h
     ·exact .inr ⟨y,mem_cons_self,h.symm,by rw [h];exact hd⟩
     ·exact .inr ⟨z,mem_cons_of_mem _ hz,h1,h2⟩
    ·rintro (h|⟨z,hz,h1,h2⟩)
     ·exact .inl (.inl h)
     ·rcases mem_cons.1 hz with rfl|hz
      ·exact .inl (.inr h1.symm)
      ·exact .inr ⟨z,hz,h1,h2⟩
 intro ys;unfold tT;rw [key];simp
theorem BP(ds:List cc):∀ (ys:List (cc×Int)),(tT ds ys).length<=ys.length:=by
 have key:∀ (ys:List (cc×Int)) (o:List cc),(ys.foldl (fun o y=>if y.1 ∈ ds then o else gv o y.1) o).length<=o.length+ys.length:=by
  intro ys
  induction ys with
  |nil=>intro o;simp
  |cons y ys ih=>
   intro o;rw [foldl_cons];have h1:=ih (if y.1 ∈ ds then o else gv o y.1)
   have h2:(if y.1 ∈ ds then o else gv o y.1).length<=o.length+1:=by
    split
    ·omega
    ·exact BG o y.1
   rw [length_cons];omega
 intro ys;have:=key ys [];simpa [tT] using this
def Lq(rs:List aI):List (cc×Int):=(tT (cZ rs) (cT rs)).map fun s=>(s,YQ (cT rs) s)
theorem abe{l:List cc}{s:cc}:(l.any fun x=>x==s)=decide (s ∈ l):=by
 rw [Bool.eq_iff_iff,List.any_eq_true,decide_eq_true_iff];constructor
 ·rintro ⟨x,hx,e⟩;rw [beq_iff_eq] at e;rw [<- e];exact hx
 ·intro h;exact ⟨s,h,by simp⟩
theorem cQ{rules:Sl aI}(uo:rules.l.length<=60)(xL:∀ r ∈ rules.l,r.body.l.length<=20){h:Heap}{K:Out->Heap->Bool}(hK:∀ x:Sl (cc×Int),x.l=Lq rules.l->K (.ret (dR rS 2 x)) h=true):Sem TP 68 [gm rules] h K:=by
 have hm:cz=140737488355328:=rfl;have hal:=En uo xL;have hdl:=pZ rules.l
 have main:Sem TP 68 [gm rules] Heap.empty (fun o h'=>yes (∃ v,∃ x:Sl (cc×Int),o = .ret v/\x.l=Lq rules.l/\Fz true h' v (dR rS 2 x))):=by
  refine F.CG ?_;rw [F.DQ];refine af (dS uo fun d hd1=>?_);simp only [aO];refine af (dh uo xL fun x jM=>?_);simp only [aO];have BV:x.l.length<=1260:=by rw [jM];exact hal
  have Qp:x.l.length<=cw:=by unfold cw;omega
  have hdb:d.l.length<=cw:=by rw [hd1];unfold cw;omega
  refine aB 0 x.l.length (zero_le _) (fun i e h'=>∃ a,Own encS 1 0 h' a (tT (cZ rules.l) (x.l.take i))/\e 0=gm rules/\e 3=iz d/\e 4=a/\e 5=dR rS 2 x/\e 6=I6 (i:Int)) ⟨.ai,.nil,rfl,rfl,rfl,rfl,rfl⟩ ?_ ?_
  ·rintro i e h' _ hi ⟨a,o,e0,e3,e4,e5,e6⟩ K' hn hx hr hp;obtain ⟨y,hv⟩:=dM hi;have jL:=PA (ds:=cZ rules.l) hv;rw [F.cQ.aP];simp only [e3,e5,e6,aO,aU hi,aQ x hi,TE hv];refine af (A6 hdb ?_);rw [abe,hd1];simp only [aO];by_cases Vj:y.1 ∈ cZ rules.l
   ·rw [if_pos Vj] at jL;simp only [fh Vj,Bool.not_true,aK,aE hi Qp,dr];exact hn _ _ ⟨a,by rw [jL];exact o,e0,e3,e4,e5,rfl⟩
   ·rw [if_neg Vj] at jL;simp only [eR Vj,Bool.not_false,aL,e4];refine af (fP o (zero_le _) (by have h1:=BP (cZ rules.l) (x.l.take i);have h2:=length_take_le i x.l;omega) fun a1 h1 x1 o1=>?_);simp only [aO,aE hi Qp];exact hn _ _ ⟨a1,by rw [jL];exact o1,e0,e3,rfl,e5,rfl⟩
  ·rintro e h' ⟨a,o,e0,e3,e4,e5,e6⟩ K' hx;rw [jD (dK _),jM] at o;have hol:=BP (cZ rules.l) (cT rules.l);have hos:∃ os,os=tT (cZ rules.l) (cT rules.l):=⟨_,rfl⟩
   obtain ⟨os,hos⟩:=hos;rw [<- hos] at o hol;have hob:os.length<=cw:=by unfold cw;omega
   rw [F.cQ.aP];simp only [e5,e6,aO,aR];rw [hx,F.cQ.aC]
   refine aB 0 os.length (zero_le _) (fun i e h2=>∃ b,(∀ c,bR a=some c->h2.get c=h'.get c)/\h'.next<=h2.next/\Own rS 2 h'.next h2 b ((os.take i).map fun s=>(s,YQ (cT rules.l) s))/\e 0=gm rules/\e 4=a/\e 7=b/\e 8=I6 (i:Int))
    ⟨.ai,fun _ _=>rfl,dK _,.nil,e0,e4,rfl,rfl⟩ ?_ ?_
   ·rintro i e h2 _ hi ⟨b,hfr,mS,ob,e0,e4,e7,e8⟩ K2 qj fK r7 Ay;obtain ⟨s,hv⟩:=dM hi;have o2:=o.agree hfr mS;obtain ⟨q,_,i1,i2⟩:=yK o2 hv;obtain ⟨a5,h5,p5,o5,f5,n5,x5,b5⟩:=ob.push tG X1 mS (bytes:=24) (by rw [hm,length_map,length_take];omega) (s,YQ (cT rules.l) s);rw [F.cQ.cU];simp only [e0,e4,e7,e8,o2.len,aO,aU hi,i1,i2];refine af (eV uo xL ?_);simp only [aO,i2,AV.beq_refl,Bool.and_self,if_true,W6,W7,p5,aE hi hob];refine qj _ _ ⟨a5,fun c hc=>by rw [f5 c (by have:=o.lt hc;omega) (fun hb=>by have:=ob.ge hb;have:=o.lt hc;omega)];exact hfr c hc,by omega,?_,e0,e4,rfl,rfl⟩;rw [take_add_one,hv,map_append];exact o5
   ·rintro e h2 ⟨b,hfr,mS,ob,e0,e4,e7,e8⟩ K2 fK;rw [jD (dK _)] at ob;have o2:=o.agree hfr mS;rw [F.cQ.cU];simp only [e4,e8,o2.len,aO,aR];rw [fK,F.cQ.cm];simp only [kC,reduceEqDiff,reduceIte,e7]
    obtain ⟨y,VX,XC⟩:=ob.J7 (fun v y hy=>by
     simp only [rS,mem_cons,not_mem_nil,_root_.or_false] at hy
     rcases hy with rfl|rfl<;>exact .scalar _ rfl)
    exact bO.2 ⟨b,y,rfl,by rw [VX,hos];rfl,XC⟩
 refine main.frozen (by simp [AV.cP,br fN]) fun o h' ho=>?_;obtain ⟨v,x,rfl,hx,hf⟩:=bO.1 ho;exact ⟨v,_,rfl,hf,hK x hx⟩
theorem PC(jb:dQ rs []=some m)(sQ:cY s=true):(Lq rs).all (Gb s)=true↔¬ ∃ p ∈ cT rs,p.1 ∉ bC rs/\s.aA.l.find? (fe p.1 p.2)=none:=by
 rw [List.all_eq_true];constructor
 ·rintro h ⟨p,hp,hd,hf⟩;have hin:(p.1,YQ (cT rs) p.1) ∈ Lq rs:=mem_map.2 ⟨p.1,I2.2 ⟨p,hp,rfl,fun wN=>hd ((ej rs).1 wN)⟩,rfl⟩;have h1:=h _ hin;rw [M6 jb (show (p.1,p.2) ∈ cT rs from hp),Pd sQ,hf] at h1;cases h1
 ·intro h y hy;obtain ⟨x,hx,rfl⟩:=mem_map.1 hy;obtain ⟨p,hp,rfl,hd⟩:=I2.1 hx;rw [M6 jb (show (p.1,p.2) ∈ cT rs from hp),Pd sQ]
  cases hf:s.aA.l.find? (fe p.1 p.2) with
  |some _=>rfl
  |none=>exact absurd ⟨p,hp,fun wN=>hd ((ej rs).2 wN),hf⟩ h
def nZ(rs:List aI)(nms:List cc):List Rel:=nms.map fun nm=>⟨nm,(ke rs nm:Int),none⟩
def gK(rs:List aI)(nms:List cc):List UP:=nms.map fun nm=>(nm,(ke rs nm:Int),[])
theorem qW(rs:List aI)(nms:List cc):(nZ rs nms).map bp=gK rs nms:=by unfold nZ gK;rw [List.map_map];rfl
theorem Vp(s:St):dz TP s Tryz.f70.results.toList=(match au (some 2) (s.env 4) s.h,(some []:Option (List AV)) with|some v,some vs=>some (v :: vs)|_,_=>none):=by kernel_rfl
theorem abf(nm:cc)(k:Int):iP [.str [],I6 0,.ai] [(0,1),(1,1)] [.str nm,I6 k]=some (.agg (aY ⟨nm,k,none⟩)):=rfl
theorem iG{rules:Sl aI}{s:ct}{m:gq}(uo:rules.l.length<=60)(xL:∀ r ∈ rules.l,r.body.l.length<=20)(jb:dQ rules.l []=some m)(Nu:s.small){h:Heap}{K:Out->Heap->Bool}
  (hK:∀ a h' rs1,aV h h'->Own aY 3 h.next h' a (rs1++nZ rules.l (cZ rules.l))->rs1.map bp=s.aA.l.map bp->K (.ret (.agg [I6 s.size,a])) h'=true):Sem TP 70 [gm rules,.agg (ah s)] h K:=by
 have hm:cz=140737488355328:=rfl;have hdl:=pZ rules.l;refine F.FV ?_;rw [F.Ia];simp only [cD (bU s),dr,Heap.aD];have g0:(Heap.alloc (Heap.alloc h (.cells (ah s))) (.cells [I6 0,.ai])).get h.next=sC (ah s):=by rw [Heap.aN,Heap.aD,if_neg (by omega)];exact ak _ _
 have g1:(Heap.alloc (Heap.alloc h (.cells (ah s))) (.cells [I6 0,.ai])).get (h.next+1)=sC [I6 0,.ai]:=ak _ _;have gn:(Heap.alloc (Heap.alloc h (.cells (ah s))) (.cells [I6 0,.ai])).next=h.next+2:=rfl
 have gx:aV h (Heap.alloc (Heap.alloc h (.cells (ah s))) (.cells [I6 0,.ai])):=(aV.alloc _ _).trans (aV.alloc _ _);generalize (Heap.alloc (Heap.alloc h (.cells (ah s))) (.cells [I6 0,.ai]))=H1 at g0 g1 gn gx ⊢;have l0:=eM g0;simp only [l0,dr];refine af (jf Nu fun a h3 rs x3 o3 tO=>?_);obtain ⟨AB,MU⟩:=mR o3;have tX:aW [I6 s.size,a]=true:=by simp only [aW,Bool.and_true] at AB ⊢;rw [AB];rfl
 obtain ⟨H4,VY,p4,RV,pn4⟩:=cA (h:=h3) (zs:=[I6 0,.ai]) (cs:=[I6 s.size,a]) (n:=2) rfl rfl tX;have x4:aV h3 H4:=⟨by omega,fun b hb=>RV b (by omega)⟩
 have n3:=x3.next
 rw [gn] at o3 n3;have W3:=(gx.trans x3).trans x4;simp only [aO,VY];refine af (dS uo fun d hd1=>?_);have asU:d.l.length<=60:=by rw [hd1];omega
 have hdb:d.l.length<=cw:=by unfold cw;omega
 have hrl:=Nu.aA;have anj:rs.length=s.aA.l.length:=by have:=congrArg List.length tO;simpa using this
 simp only [aO]
 refine aB 0 d.l.length (zero_le _) (fun i e h'=>∃ a,h'.get h3.next=sC [I6 s.size,a]/\h'.get (h.next+1)=sC [I6 0,.ai]/\Own aY 3 (h.next+2) h' a (rs++nZ rules.l (d.l.take i))/\bR a≠some h3.next/\(∀ b,b<h.next->h'.get b=h.get b)/\h3.next<h'.next /\
  e 0=gm rules/\e 4 = .ptr (h.next+1) 0/\e 5 = .ptr h3.next 0/\e 6=iz d/\e 7=I6 (i:Int))
  ⟨a,p4,by rw [x4.get _ (by omega),x3.get _ (by omega)];exact g1,by simpa [nZ] using o3.ext x4,fun hb=>by have:=o3.lt hb;omega,fun b hb=>W3.get b hb,by omega,rfl,rfl,rfl,rfl,rfl⟩ ?_ ?_
 ·rintro i e h' _ hi ⟨a,q3,q1,o,hne,hfr,mS,e0,e4,e5,e6,e7⟩ K' hn hx hr hp;obtain ⟨nm,hv⟩:=dM hi;have rF:nm ∈ bC rules.l:=(ej _).1 (by rw [<- hd1];exact ij hv);have lo:=lA q3 1 rfl;have li:∀ hh,au none (.dL (d.l.flatMap encS) (i*1)) hh=some (.str nm):=fun hh=>jX hv;obtain ⟨a5,h5,p5,o5,f5,n5,x5,b5⟩:=o.push dY gJ (by omega) (bytes:=48) (by rw [hm,length_append];unfold nZ;rw [length_map,length_take];omega) ⟨nm,(ke rules.l nm:Int),none⟩;have s3:h5.get h3.next=sC [I6 s.size,a]:=by rw [f5 _ (by omega) hne];exact q3
  have c5:=o5.ki
  have st:aS 1 (.ptr h3.next 1) a5 h5=some (h5.set h3.next (.cells [I6 s.size,a5])):=by
   rw [cj (n:=1) s3 c5.2.1 c5.1 (by simp),c5.2.2];rfl
  rw [F.iG.aP];simp only [e0,e5,e6,e7,aO,aU hi,lo,aQ d hi,li];refine af (eV uo xL ?_);rw [Pz jb rF];simp only [aO,lo,AV.beq_refl,Bool.and_self,Bool.and_true,if_true,abf,TA,p5,st,aE hi hdb];refine hn _ _ ⟨a5,by rw [Heap.aG,if_pos rfl],by rw [Heap.aG,if_neg (by omega),f5 _ (by omega) (fun hb=>by have:=o.ge hb;omega)];exact q1,?_,fun hb=>by have:=b5 _ hb;omega,fun b hb=>?_,by rw [Heap.aT];omega,e0,e4,e5,e6,rfl⟩
  ·have hl:rs++nZ rules.l (d.l.take (i+1))=(rs++nZ rules.l (d.l.take i))++[⟨nm,(ke rules.l nm:Int),none⟩]:=by
    rw [take_add_one,hv];unfold nZ;rw [map_append,<- append_assoc];rfl
   rw [hl];exact o5.agree (fun b hb=>by rw [Heap.aG,if_neg (by have:=b5 _ hb;omega)]) (by rw [Heap.aT];exact dK _)
  ·rw [Heap.aG,if_neg (by omega),f5 b (by omega) (fun gN=>by have:=o.ge gN;omega)];exact hfr b hb
 ·rintro e h' ⟨a,q3,q1,o,hne,hfr,mS,e0,e4,e5,e6,e7⟩ K' hx;rw [jD (dK _),hd1] at o;obtain ⟨AB,MU⟩:=mR o;have aew:aW [I6 s.size,a]=true:=by simp only [aW,Bool.and_true] at AB ⊢;rw [AB];rfl
  have lo:au (some 2) (.ptr h3.next 0) h'=some (.agg [I6 s.size,a]):=by rw [aj q3];rfl
  have st:aS 2 (.ptr (h.next+1) 0) (.agg [I6 s.size,a]) h'=some (h'.set (h.next+1) (.cells [I6 s.size,a])):=by
   rw [cj (n:=2) (v:=.agg [I6 s.size,a]) q1 rfl aew (by simp)];rfl
  have RT:au (some 2) (.ptr (h.next+1) 0) (h'.set (h.next+1) (.cells [I6 s.size,a]))=some (.agg [I6 s.size,a]):=by rw [aj (cs:=[I6 s.size,a]) (by rw [Heap.aG,if_pos rfl])];rfl
  rw [F.iG.aP];simp only [e6,e7,aO,aR];rw [hx,F.iG.aC];simp only [kC,reduceEqDiff,reduceIte,e4,e5,lo,st,dr,Vp,RT,oneOf];exact hK a _ rs ⟨by rw [Heap.aT];omega,fun b hb=>by rw [Heap.aG,if_neg (by omega)];exact hfr b hb⟩ ((o.mK (by omega) _).CL (by omega)) tO
theorem Ki{n:Int}{k:Nat}{rs:List Rel}(o:Own aY 3 k h a rs)(mP:(⟨n,some rs⟩:ct).ok)(hK:K (.ret (.bool (cY ⟨n,some rs⟩))) h=true):Sem TP 66 [.agg [I6 n,a]] h K:=by
 obtain ⟨x,jM,fK⟩:=o.J7 (fun v y hy=>by
  simp only [aY,mem_cons,not_mem_nil,_root_.or_false] at hy;rcases hy with rfl|rfl|rfl
  ·exact .scalar _ rfl
  ·exact .scalar _ rfl
  ·exact .de (br mG _))
 have aey:(⟨n,x⟩:ct).ok:=by
  obtain ⟨q1,q2⟩:=mP;exact ⟨by show x.l.length<=cw;rw [jM];exact q1,fun r hr=>q2 r (by have:r ∈ x.l:=hr;rw [jM] at this;exact this)⟩
 have he:cY ⟨n,x⟩=cY ⟨n,some rs⟩:=by
  rw [Bool.eq_iff_iff,iM,iM];show Pv n (x.l.map bp)↔Pv n (rs.map bp);rw [jM]
 have hs:=cJ (s:=⟨n,x⟩) aey (h:=Heap.empty) (K:=tV (.bool (cY ⟨n,x⟩))) (eB rfl);rw [<- he] at hK;have fl:=j8.cons (.scalar (I6 n) rfl) (j8.cons fK j8.nil);exact Sem.OK rfl hs (j8.cons (.agg _ _ fl.len fl.rel) .nil) hK
theorem Fj{rs':List Rel}(hg:nk rs)(jb:dQ rs []=some m)(sQ:cY s=true)(h4:¬ ∃ r ∈ s.aA.l,r.name ∈ bC rs)(tO:rs'.map bp=s.aA.l.map bp++gK rs (cZ rs)) :
  cY ⟨s.size,some rs'⟩=true↔¬ (8<s.aA.l.length+(cZ rs).length\/∃ r ∈ rs,4096<s.size.toNat ^ r.args.l.length):=by
 have hsp:=iM.1 sQ;have hlen:rs'.length=s.aA.l.length+(cZ rs).length:=by have:=congrArg List.length tO;simpa [gK] using this
 rw [iM];show Pv s.size (rs'.map bp)↔_;rw [tO];constructor
 ·rintro ⟨q1,q2,q3,q4,q5⟩ (hb|⟨r,hr,hb⟩)
  ·rw [length_append,length_map] at q3;unfold gK at q3;rw [length_map] at q3;omega
  ·have hm:(r.name,(ke rs r.name:Int),([]:List (List Int))) ∈ s.aA.l.map bp++gK rs (cZ rs):=mem_append_right _ (mem_map.2 ⟨r.name,(ej rs).2 (List.mem_map_of_mem hr),rfl⟩);obtain ⟨_,k,h1,h2,h3,_⟩:=q4 _ hm;rw [IX jb hr] at h1;have:k=r.args.l.length:=by simp only at h1;omega
   rw [this] at h3;omega
 ·intro uI;have hd8:s.aA.l.length+(cZ rs).length<=8:=Nat.le_of_not_lt fun h=>uI (.inl h);refine ⟨hsp.lo,hsp.hi,by rw [length_append,length_map];unfold gK;rw [length_map];exact hd8,fun d hd=>?_,?_⟩
  ·rcases mem_append.1 hd with hd|hd
   ·exact hsp.rel d hd
   ·obtain ⟨nm,rF,rfl⟩:=mem_map.1 hd;obtain ⟨_,r,hr,BW,Qu⟩:=wH jb ((ej rs).1 rF);have wu:=(jY jb r hr).1;refine ⟨by rw [<- BW];exact BD wu,ke rs nm,rfl,by rw [Qu];exact pg wu,?_,fun t ht=>(by cases ht),List.Pairwise.nil⟩;rw [Qu];exact Nat.le_of_not_lt fun h=>uI (.inr ⟨r,hr,h⟩)
  ·rw [map_append];have e2:(gK rs (cZ rs)).map (·.1)=cZ rs:=by unfold gK;rw [List.map_map];simp [Function.comp_def]
   rw [e2];refine nodup_append.2 ⟨hsp.names,yW (rG rs),fun x hx y hy e=>?_⟩;subst e;rw [List.map_map] at hx;obtain ⟨r,hr,BW⟩:=mem_map.1 hx;exact h4 ⟨r,hr,by have:=(ej rs).1 hy;rw [<- BW] at this;exact this⟩
theorem bS{rules:Sl aI}{s:ct}(mP:∀ r ∈ rules.l,r.ok)(iX:∀ r ∈ rules.l,r.k8)(oP:s.ok){h:Heap}{K:Out->Heap->Bool}
  (X0:∀ e,Em rules.l s e->K (.ret (I6 e)) h=true) (DY:dw rules.l s->K (.ret (I6 0)) h=true):Sem TP 23 [gm rules,.agg (ah s)] h K:=by
 have gen:∀ R:Out->Heap->Bool,(∀ e h',(Em rules.l s e\/(e=0/\dw rules.l s))->R (.ret (I6 e)) h'=true)->Sem TP 23 [gm rules,.agg (ah s)] Heap.empty R:=by
  intro R fin;refine F.FT ?_;rw [F.H7];simp only [cD (bU s),dr,aZ];have g0:(Heap.empty.alloc (.cells (ah s))).get 0=sC (ah s):=ak _ _;have gn:(Heap.empty.alloc (.cells (ah s))).next=1:=rfl
  generalize (Heap.empty.alloc (.cells (ah s)))=H at g0 gn ⊢;have l0:=eM g0;refine af (bP mP iX fun b hb=>?_);simp only [aO]
  cases b with
  |false=>
   simp only [Bool.not_false,aL];exact fin 1 _ (.inl (.inl ⟨.inl fun hg=>(by have:=hb.2 hg;cases this),rfl⟩))
  |true=>
  have hg:=hb.1 rfl;simp only [Bool.not_true,aK,l0,dr];refine af (cJ oP ?_);simp only [aO]
  cases sQ:cY s with
  |false=>
   simp only [Bool.not_false,aL];exact fin 1 _ (.inl (.inl ⟨.inr sQ,rfl⟩))
  |true=>
  obtain ⟨n,hn,n1,sK,h8⟩:=iL sQ;have uR:s.size.toNat=n:=by omega
  obtain ⟨m,jb⟩:=hg.go;have wG:=jY jb;have xL:∀ r ∈ rules.l,r.body.l.length<=20:=fun r hr=>(wG r hr).2.1;have uo:=hg.k8;have hdl:=pZ rules.l;simp only [Bool.not_true,aK];refine af (dS uo fun d hd1=>?_);simp only [aO,l0];refine af (cQ uo xL fun sy VZ=>?_)
  have hsl:sy.l.length<=1260:=by
   rw [VZ];unfold Lq;rw [length_map];have h1:=BP (cZ rules.l) (cT rules.l);have h2:=En uo xL;omega
  simp only [aO,l0,AV.beq_refl,Bool.and_self,if_true];refine af (gH oP (by unfold cw;omega) ?_);rw [VZ];simp only [aO];have e4:Qs rules.l s->Em rules.l s 4:=fun h=>.inr ⟨hg,sQ,.inl ⟨h,rfl⟩⟩
  cases hfit:(Lq rules.l).all (Gb s) with
  |false=>
   simp only [Bool.not_false,aL];refine fin 4 _ (.inl (e4 (.inl ?_)));exact Decidable.not_not.1 fun h=>by rw [(PC jb sQ).2 h] at hfit;cases hfit
  |true=>
  have ank:=(PC jb sQ).1 hfit;have hdb:d.l.length<=cw:=by rw [hd1];unfold cw;omega
  have F9:rules.l.length<=cw:=by unfold cw;omega
  simp only [Bool.not_true,aK];refine aB 0 d.l.length (zero_le _) (fun i e h'=>h'.get 0=sC (ah s)/\1<=h'.next/\(∀ nm ∈ d.l.take i,∀ r ∈ s.aA.l,r.name≠nm)/\e 0=gm rules/\e 3 = .ptr 0 0/\e 5=iz d/\e 6=I6 (i:Int)) ⟨g0,by omega,fun nm rF=>(by cases rF),rfl,rfl,rfl,rfl⟩ ?_ ?_
  ·rintro i e h' _ hi ⟨q0,qn,uI,e0,e3,e5,e6⟩ K' vE hx hr hp;obtain ⟨nm,hv⟩:=dM hi;have l0':au (some 2) (.ptr 0 0) h'=some (.agg (ah s)):=eM q0;rw [F.bS.aP];simp only [e3,e5,e6,aO,aU hi,l0',aQ d hi,jX hv];refine af (fM oP ?_);simp only [aO];rcases lP (dN nm) s.aA.l with ⟨f1,f2⟩|⟨j,r,f1,f2,f3⟩
   ·rw [f1];simp only [show decide ((0:Int)<=-1)=false from rfl,aK,aE hi hdb,dr];refine vE _ _ ⟨q0,qn,fun x gl r xM e=>?_,e0,e3,e5,rfl⟩;rw [take_add_one,hv] at gl;rcases mem_append.1 gl with gl|gl
    ·exact uI x gl r xM e
    ·simp only [toList_some,mem_singleton] at gl;rw [find?_eq_none] at f2;exact f2 r xM (by simp [dN,e,gl])
   ·rw [f1];simp only [fh (by omega:(0:Int)<=(j:Int)),aL];rw [hr,F.bS.bg];simp only [kC,reduceEqDiff,reduceIte];have BW:=find?_some f3;simp only [dN,beq_iff_eq] at BW;exact fin 4 _ (.inl (e4 (.inr ⟨r,ij f2,(ej _).1 (by rw [BW,<- hd1];exact ij hv)⟩)))
  ·rintro e h' ⟨q0,qn,uI,e0,e3,e5,e6⟩ K' hx;rw [jD (dK _)] at uI;have ajv:¬ ∃ r ∈ s.aA.l,r.name ∈ bC rules.l:=fun ⟨r,hr,hh⟩=>uI r.name (by rw [hd1];exact (ej _).2 hh) r hr rfl;have h4:¬ Qs rules.l s:=fun h=>h.elim ank ajv;have e5':TG rules.l s->Em rules.l s 5:=fun h=>.inr ⟨hg,sQ,.inr ⟨h4,h,rfl⟩⟩;rw [F.bS.aP];simp only [e5,e6,aO,aR];rw [hx,F.bS.aC];refine aB 0 rules.l.length (zero_le _) (fun i e h2=>h2.get 0=sC (ah s)/\1<=h2.next/\(∀ r ∈ rules.l.take i,n ^ (varsOf r).length<=65536)/\e 0=gm rules/\e 3 = .ptr 0 0/\e 7=I6 (i:Int)) ⟨q0,qn,fun r hr=>(by cases hr),e0,e3,rfl⟩ ?_ ?_
   ·rintro i e h2 _ hi ⟨q0,qn,hsz,e0,e3,e7⟩ K2 qj fK r7 Ay;obtain ⟨r,hv⟩:=dM hi;have kW:=ij hv;have ajb:=(wG r kW).2.2;have hvb:(varsOf r).length<=cw:=by unfold cw;omega
    rw [F.bS.cU];simp only [e0,e7,aO,aU hi]
    refine jU (fun k e h3=>∃ j,k=(varsOf r).length-j/\j<=(varsOf r).length/\n ^ (j-1)<=65536/\h3.get 0=sC (ah s)/\1<=h3.next/\e 0=gm rules/\e 3 = .ptr 0 0/\e 7=I6 (i:Int)/\e 8=I6 ((n ^ j:Nat):Int)/\e 9=I6 (j:Int)) ((varsOf r).length)
     ⟨0,rfl,zero_le _,by simp,q0,qn,e0,e3,e7,rfl,rfl⟩ ?_
    rintro k e h3 ⟨j,hk,hj,RG,q0,qn,e0,e3,e7,e8,e9⟩;have lz:au none (.ptr 0 0) h3=some (I6 (n:Int)):=by rw [aj q0,<- hn];rfl
    have hn8:n ^ j<=65536*64:=by
     cases j with
     |zero=>simp
     |succ j=>rw [Nat.pow_succ];simp only [Nat.add_sub_cancel] at RG;exact Nat.mul_le_mul RG sK
    have out:∀ (e':Env),e' 0=gm rules->e' 3 = .ptr 0 0->e' 7=I6 (i:Int)->e' 8=I6 ((n ^ j:Nat):Int)->(65536<n ^ j\/j=(varsOf r).length)->F.bS.xj K2 (.exit 4) (sM e' 69 h3)=true:=by
     intro e' e0 e3 e7 e8 ajw;rw [F.bS.jo];simp only [e8,aO];by_cases hbg:65536<n ^ j
     ·simp only [fh (by omega:(65536:Int)<((n ^ j:Nat):Int)),aL];rw [r7,F.bS.k7];simp only [kC,reduceEqDiff,reduceIte];exact fin 5 _ (.inl (e5' (.inr (.inr ⟨r,kW,by rw [uR];have:=BM n1 hj;omega⟩))))
     ·have hjv:=ajw.resolve_left hbg;simp only [eR (by omega:¬ (65536:Int)<((n ^ j:Nat):Int)),aK,e7,aE hi F9,dr];refine qj _ _ ⟨q0,qn,fun q hq=>?_,e0,e3,rfl⟩;rw [take_add_one,hv] at hq;rcases mem_append.1 hq with hq|hq
      ·exact hsz q hq
      ·simp only [toList_some,mem_singleton] at hq;subst hq;rw [<- hjv];omega
    rw [F.bS.lD];simp only [e0,e7,aO,aQ rules hi,dB fo hv];simp only [bY];refine af (bX (iX r kW) fun x jM=>?_);simp only [aO,jM,e8,e9];by_cases L9:j<(varsOf r).length
    ·simp only [aU L9,aL];by_cases hle:n ^ j<=65536
     ·have hm:((n ^ j:Nat):Int)*(n:Int)=((n ^ (j+1):Nat):Int):=(by rw [Nat.pow_succ,Int.natCast_mul]);have hmul:n ^ j*n<=65536*64:=Nat.mul_le_mul hle sK;have uN:n ^ (j+1)=n ^ j*n:=Nat.pow_succ n j;have hmm:aF .mul (I6 ((n ^ j:Nat):Int)) (I6 (n:Int))=some (I6 ((n ^ (j+1):Nat):Int)):=by rw [zG (by rw [hm];omega) (by rw [hm];omega),hm]
      simp only [fh (by omega:((n ^ j:Nat):Int)<=65536),aL,e3,aO,lz,hmm,aE L9 hvb];exact bO.2 ⟨(varsOf r).length-(j+1),by omega,rfl,rfl,j+1,rfl,by omega,by simpa using hle,q0,qn,e0,e3,e7,rfl,rfl⟩
     ·simp only [eR (by omega:¬ ((n ^ j:Nat):Int)<=65536),aK,lZ];exact out _ e0 e3 e7 e8 (.inl (by omega))
    ·have hje:j=(varsOf r).length:=(by omega);simp only [eR (by omega:¬ (j:Int)<((varsOf r).length:Int)),aK,lZ];exact out _ e0 e3 e7 e8 (.inr hje)
   ·rintro e h2 ⟨q0,qn,hsz,e0,e3,e7⟩ K2 fK;rw [jD (dK _)] at hsz;have l0':au (some 2) (.ptr 0 0) h2=some (.agg (ah s)):=eM q0;rw [F.bS.cU];simp only [e0,e7,aO,aR];rw [fK,F.bS.cm];simp only [aO,reduceEqDiff,reduceIte,e0,e3,l0'];refine af (iG uo xL jb (fO sQ).1 fun a h4' rs1 x4 o4 abg=>?_);obtain ⟨rs',Si⟩:∃ rs',rs'=rs1++nZ rules.l (cZ rules.l):=⟨_,rfl⟩
    rw [<- Si] at o4;have tO:rs'.map bp=s.aA.l.map bp++gK rules.l (cZ rules.l):=by rw [Si,map_append,qW,abg]
    simp only [aO]
    have adL:(⟨s.size,some rs'⟩:ct).ok:=by
     have hl:rs'.length=s.aA.l.length+(cZ rules.l).length:=(by have:=congrArg List.length tO;simpa [gK] using this);refine ⟨by show rs'.length<=cw;unfold cw;omega,fun r hr=>?_⟩;have hd:bp r ∈ s.aA.l.map bp++gK rules.l (cZ rules.l):=by rw [<- tO];exact List.mem_map_of_mem hr
     have ajx:=(fO sQ).2;have asY:=(fO sQ).1;rcases mem_append.1 hd with hd|hd
     ·obtain ⟨q,hq,Qv⟩:=mem_map.1 hd;unfold bp at Qv;simp only [Prod.mk.injEq] at Qv;have XM:=ajx.2 q hq;refine ⟨by rw [<- Qv.1];exact XM.1,?_,fun t ht=>?_⟩
      ·have h1:=congrArg List.length Qv.2.2;simp only [length_map] at h1;rw [<- h1];exact XM.2.1
      ·have h1:t.l ∈ q.aM.l.map Sl.l:=(by rw [Qv.2.2];exact List.mem_map_of_mem ht);obtain ⟨u,hu,hue⟩:=mem_map.1 h1;rw [<- hue];exact XM.2.2 u hu
     ·obtain ⟨nm,rF,Qv⟩:=mem_map.1 hd;unfold bp at Qv;simp only [Prod.mk.injEq] at Qv;obtain ⟨_,q,hq,BZ,_⟩:=wH jb ((ej _).1 rF);have ht0:r.aM.l = []:=by have:=Qv.2.2;simpa using this.symm
      refine ⟨by rw [<- Qv.1,<- BZ];have:=OO (BD (wG q hq).1);unfold cw;omega,by rw [ht0];exact zero_le _,fun t ht=>by rw [ht0] at ht;cases ht⟩
    refine af (Ki o4 adL ?_);simp only [aO];have hev:=Fj hg jb sQ ajv tO
    cases hvd:cY ⟨s.size,some rs'⟩ with
    |false=>
     simp only [Bool.not_false,aL];refine fin 5 _ (.inl (e5' ?_));have:(8<s.aA.l.length+(cZ rules.l).length\/∃ r ∈ rules.l,4096<s.size.toNat ^ r.args.l.length):=Decidable.not_not.1 fun h=>by rw [hev.2 h] at hvd;cases hvd
     rcases this with h|h
     ·exact .inl h
     ·exact .inr (.inl h)
    |true=>
     simp only [Bool.not_true,aK];have ajy:=hev.1 hvd;refine fin 0 _ (.inr ⟨rfl,hg,sQ,h4,?_⟩);rintro (h|h|⟨r,hr,h⟩)
     ·exact ajy (.inl h)
     ·exact ajy (.inr h)
     ·rw [uR] at h;have:=hsz r hr;omega
 have main:=gen (fun o h'=>yes (∃ e,o = .ret (I6 e)/\(Em rules.l s e\/(e=0/\dw rules.l s)))) (fun e h' he=>bO.2 ⟨e,rfl,he⟩);refine main.frozen (by simp [AV.cP,AV.pure,br fN,dI]) fun o h' ho=>?_;obtain ⟨e,rfl,he⟩:=bO.1 ho;refine ⟨_,_,rfl,.scalar _ rfl,?_⟩;rcases he with he|⟨rfl,he⟩
 ·exact X0 e he
 ·exact DY he
theorem Gd{k:Nat}(h1:1<=n)(h2:n<=64)(hk:k<=12)(hc:n ^ k<=4096){ts:Sl (Sl Int)}(hl:ts.l.length<=cw)(ht:Az n k ts.l=true)
  (hK:∀ h' b,aV h h'->h.next<=b->b<h'.next->h'.get b=sC ((bitsOf n k ts.l).map bv)->K (.ret (.agg [.str nm,I6 (k:Int),.slice b 0 (n ^ k) 1])) h'=true):Sem TP 183 [I6 (n:Int),.str nm,I6 (k:Int),kM ts] h K:=by
 have WH:k<=cw:=by unfold cw;omega
 refine F.uk ?_;rw [F.vi];refine af (je h1 h2 WH fun v v1 v2=>?_);have hv:=v1 hc;subst hv;simp only [gz,CO (show n ^ k<=1000000 by omega),gO,Heap.aD];have ha:∀ b:Nat,iP [(.str []),(I6 0),.ai] [(0,1),(1,1),(2,1)] [.str nm,I6 (k:Int),.slice b 0 (n ^ k) 1]=some (.agg [.str nm,I6 (k:Int),.slice b 0 (n ^ k) 1]):=fun _=>rfl;simp only [ha,dr,Heap.aD];have g0:((Heap.alloc h (.cells [(.str []),(I6 0),.ai])).alloc (.cells ((replicate (n ^ k) false).map bv))).get h.next=sC [(.str []),(I6 0),.ai]:=by rw [Heap.aN,Heap.aD,if_neg (by omega)];exact ak _ _
 have g1:((Heap.alloc h (.cells [(.str []),(I6 0),.ai])).alloc (.cells ((replicate (n ^ k) false).map bv))).get (h.next+1)=sC ((replicate (n ^ k) false).map bv):=ak _ _;have gn:((Heap.alloc h (.cells [(.str []),(I6 0),.ai])).alloc (.cells ((replicate (n ^ k) false).map bv))).next=h.next+2:=rfl
 have gx:aV h ((Heap.alloc h (.cells [(.str []),(I6 0),.ai])).alloc (.cells ((replicate (n ^ k) false).map bv))):=(aV.alloc _ _).trans (aV.alloc _ _);generalize ((Heap.alloc h (.cells [(.str []),(I6 0),.ai])).alloc (.cells ((replicate (n ^ k) false).map bv)))=H0 at g0 g1 gn gx ⊢;obtain ⟨H,hs,p2,go,hn⟩:=cA (h:=H0) (zs:=[.str [],I6 0,.ai]) (cs:=[.str nm,I6 (k:Int),.slice (h.next+1) 0 (n ^ k) 1]) (n:=3) rfl rfl rfl;rw [gn] at hs p2 go hn;have p0:H.get h.next=sC [(.str []),(I6 0),.ai]:=by rw [go _ (by omega)];exact g0
 have p1:H.get (h.next+1)=sC ((replicate (n ^ k) false).map bv):=by rw [go _ (by omega)];exact g1
 have px:∀ b,b<h.next->H.get b=h.get b:=fun b hb=>by rw [go b (by omega)];exact gx.get b hb
 simp only [hs,dr]
 refine aB 0 ts.l.length (zero_le _) (fun i e h'=>∃ d,bitsOf n k ts.l=kN n (ts.l.drop i) d/\d.length=n ^ k/\h'.get h.next=sC [(.str []),(I6 0),.ai]/\h'.get (h.next+1)=sC (d.map bv)/\h'.get (h.next+2)=sC [.str nm,I6 (k:Int),.slice (h.next+1) 0 (n ^ k) 1]/\(∀ b,b<h.next->h'.get b=h.get b)/\h'.next=h.next+3 /\
  e 0=I6 (n:Int)/\e 3=kM ts/\e 8 = .ptr h.next 0/\e 9 = .ptr (h.next+2) 0/\e 10=I6 (i:Int)) ⟨_,rfl,by simp,p0,p1,p2,px,by omega,rfl,rfl,rfl,rfl,rfl⟩ ?_ ?_
 ·rintro i e h' _ hi ⟨d,hd,hdl,q0,q1,q2,qf,qn,e0,e3,e8,e9,iJ⟩ K' mS hx hr hp;obtain ⟨t,hv⟩:=dM hi;obtain ⟨qv,Qo⟩:=MR ht hv;have uQ:mg n t.l<n ^ k:=by have:=pW Qo;rwa [qv] at this
  rw [zR hv] at hd;have l2:=lA q2 2 rfl;rw [F.ez.aP];simp only [e0,e3,e9,iJ,aO,aU hi,aQ ts hi,eY hv,l2];refine af (jd h1 (by omega) (by rw [qv];exact hc) Qo ?_);simp only [gz,l2,dr,AV.beq_refl,Bool.and_self,if_true,nh uQ,vm q1 (show mg n t.l<d.length by omega),aE hi hl];exact mS _ _ ⟨_,hd,by simpa using hdl,by rw [Heap.aG,if_neg (by omega)];exact q0,by rw [Heap.aG,if_pos rfl],by rw [Heap.aG,if_neg (by omega)];exact q2,fun b hb=>by rw [Heap.aG,if_neg (by omega)];exact qf b hb,by rw [Heap.aT];exact qn,e0,e3,e8,e9,rfl⟩
 ·rintro e h' ⟨d,hd,hdl,q0,q1,q2,qf,qn,e0,e3,e8,e9,iJ⟩ K' hx;rw [F.ez.aP];simp only [e3,iJ,aO,aR];rw [hx,F.ez.aC];rw [drop_of_length_le (dK _)] at hd;simp only [kN] at hd;have l2:au (some 3) (.ptr (h.next+2) 0) h'=some (.agg [.str nm,I6 (k:Int),.slice (h.next+1) 0 (n ^ k) 1]):=by rw [aj q2];rfl
  have st:aS 3 (.ptr h.next 0) (.agg [.str nm,I6 (k:Int),.slice (h.next+1) 0 (n ^ k) 1]) h'=some (h'.set h.next (.cells [.str nm,I6 (k:Int),.slice (h.next+1) 0 (n ^ k) 1])):=by
   rw [cj (n:=3) q0 rfl rfl (by simp)];rfl
  have r0:(h'.set h.next (.cells [.str nm,I6 (k:Int),.slice (h.next+1) 0 (n ^ k) 1])).get h.next=sC [.str nm,I6 (k:Int),.slice (h.next+1) 0 (n ^ k) 1]:=by rw [Heap.aG,if_pos rfl]
  have r1:(h'.set h.next (.cells [.str nm,I6 (k:Int),.slice (h.next+1) 0 (n ^ k) 1])).get (h.next+1)=sC (d.map bv):=by rw [Heap.aG,if_neg (by omega)];exact q1
  have rx:aV h (h'.set h.next (.cells [.str nm,I6 (k:Int),.slice (h.next+1) 0 (n ^ k) 1])):=⟨by rw [Heap.aT];omega,fun b hb=>by rw [Heap.aG,if_neg (by omega)];exact qf b hb⟩
  have rn:(h'.set h.next (.cells [.str nm,I6 (k:Int),.slice (h.next+1) 0 (n ^ k) 1])).next=h.next+3:=by rw [Heap.aT];exact qn
  generalize (h'.set h.next (.cells [.str nm,I6 (k:Int),.slice (h.next+1) 0 (n ^ k) 1]))=H2 at st r0 r1 rx rn;have l3:au (some 3) (.ptr h.next 0) H2=some (.agg [.str nm,I6 (k:Int),.slice (h.next+1) 0 (n ^ k) 1]):=by rw [aj r0];rfl
  simp only [kC,reduceEqDiff,reduceIte,e8,e9,l2,st,dr,K7,l3,oneOf];exact hK H2 (h.next+1) rx (by omega) (by omega) (by rw [hd];exact r1)
theorem gj.nil(k0:Nat)(h:Heap):gj k0 h .ai []:=⟨.nil,fun p hp=>(by cases hp),fun i j s t hi=>(by simp at hi)⟩
theorem gj.low{ts:List er}(t:gj k0 h a ts){d:Nat}(hd:d<k0)(x:mI):gj k0 (h.set d x) a ts:=
 t.gG (fun b b1 _=>by rw [Heap.aG,if_neg (by omega)]) (by rw [Heap.aT];exact dK _)
theorem gj.push{k0:Nat}{h:Heap}{a:AV}{ts:List er}(t:gj k0 h a ts)(hk:k0<=h.next)(hroom:(ts.length+1)*48<=cz)(q:er)(q1:k0<=q.nO)(q2:q.nO<h.next)(q3:bR a≠some q.nO)(q4:h.get q.nO=sC (q.bits.map bv))(q5:∀ p ∈ ts,p.nO≠q.nO) :
  ∃ a' h',bB 3 48 a (.slice h.next 0 1 3) (h.alloc (.cells (oG q)))=some (a',h')/\gj k0 h' a' (ts++[q])/\(∀ c,c<h.next->bR a≠some c->h'.get c=h.get c)/\h.next<=h'.next/\(∀ h0,aV h0 h->h0.next<=k0->aV h0 h')/\(∀ c,bR a'=some c->h.next<=c):=by
 obtain ⟨a',h',e1,o1,f1,n1,x1,b1⟩:=t.own.push Fh Px hk hroom q;refine ⟨a',h',e1,⟨o1,fun p hp=>?_,fun i j s u hi hj hb=>?_⟩,f1,n1,x1,b1⟩
 ·have xb:k0<=p.nO/\p.nO<h.next/\bR a≠some p.nO/\h.get p.nO=sC (p.bits.map bv):=by
   rcases mem_append.1 hp with hp|hp
   ·exact t.cell p hp
   ·rw [mem_singleton] at hp;subst hp;exact ⟨q1,q2,q3,q4⟩
  obtain ⟨d1,d2,d3,d4⟩:=xb;exact ⟨d1,by omega,fun hb=>by have:=b1 _ hb;omega,by rw [f1 _ d2 d3];exact d4⟩
 ·rw [getElem?_append] at hi hj;split at hi<;>split at hj
  ·exact t.inj i j s u hi hj hb
  ·rename_i h1 h2
   have hu:u=q:=by
    rw [getElem?_singleton] at hj;split at hj
    ·cases hj;rfl
    ·cases hj
   exact absurd (by rw [<- hu];exact hb) (q5 s (ij hi))
  ·rename_i h1 h2
   have hs:s=q:=by
    rw [getElem?_singleton] at hi;split at hi
    ·cases hi;rfl
    ·cases hi
   exact absurd (by rw [<- hs];exact hb.symm) (q5 u (ij hj))
  ·rename_i h1 h2;rw [getElem?_singleton] at hi hj;split at hi
   ·split at hj
    ·omega
    ·cases hj
   ·cases hi
theorem Sj{k:Nat}(n1:1<=n)(n2:n<=64){rs:List Rel}(o:Own aY 3 k h a rs)(hrl:rs.length<=1000)(mZ:∀ r ∈ rs,qu n r=true)(XZ:∀ r ∈ rs,r.aM.l.length<=cw)
  (hK:∀ b w h' ts cs,aV h h'->h.next<=b->b<h'.next->h'.get b=sC cs->cs[2]?=some w->gj h.next h' w ts->ts.map dm=rs.map (nR n)->K (.ret (.ptr b 0)) h'=true):Sem TP 160 [.agg [I6 (n:Int),a]] h K:=by
 have hm:cz=140737488355328:=rfl;have hbig:rs.length<=cw:=by unfold cw;omega
 obtain ⟨AB,MU⟩:=mR o;have tX:aW [I6 (n:Int),a]=true:=by simp only [aW,Bool.and_true] at AB ⊢;rw [AB];rfl
 refine F.CC ?_;rw [F.EW];simp only [cD tX,dr];have b0:(h.alloc (.cells [I6 (n:Int),a])).get h.next=sC [I6 (n:Int),a]:=ak _ _
 have bn:(h.alloc (.cells [I6 (n:Int),a])).next=h.next+1:=rfl
 have bx:aV h (h.alloc (.cells [I6 (n:Int),a])):=aV.alloc _ _;generalize (h.alloc (.cells [I6 (n:Int),a]))=H at b0 bn bx ⊢;have ls:=lA b0 0 rfl;have lr:=lA b0 1 rfl;have ha:iP [(I6 0),(I6 0),.ai,.ai,.ai,bF] [(0,1),(1,1)] [I6 (n:Int),I6 (rs.length:Int)]=some (.agg [I6 (n:Int),I6 (rs.length:Int),.ai,.ai,.ai,bF]):=rfl;simp only [aO,ls,lr,o.len,ha,cD (show aW [I6 (n:Int),I6 (rs.length:Int),.ai,.ai,.ai,bF]=true from rfl),bn];have c1:=ak H (.cells [I6 (n:Int),I6 (rs.length:Int),.ai,.ai,.ai,bF]);have cx:=aV.alloc H (.cells [I6 (n:Int),I6 (rs.length:Int),.ai,.ai,.ai,bF]);have cn:(H.alloc (.cells [I6 (n:Int),I6 (rs.length:Int),.ai,.ai,.ai,bF])).next=h.next+2:=by rw [Heap.aD,bn]
 generalize (H.alloc (.cells [I6 (n:Int),I6 (rs.length:Int),.ai,.ai,.ai,bF]))=H1 at c1 cx cn ⊢;rw [bn] at c1;have c0:H1.get h.next=sC [I6 (n:Int),a]:=by rw [cx.get _ (by omega)];exact b0
 refine aB 0 rs.length (zero_le _) (fun i e h'=>∃ w ts,h'.get h.next=sC [I6 (n:Int),a]/\h'.get (h.next+1)=sC [I6 (n:Int),I6 (rs.length:Int),w,.ai,.ai,bF]/\gj (h.next+2) h' w ts/\ts.map dm=(rs.take i).map (nR n)/\aV h h'/\h.next+2<=h'.next/\e 1 = .ptr h.next 0/\e 3 = .ptr (h.next+1) 0/\e 4=I6 (i:Int))
  ⟨.ai,[],c0,c1,.nil _ _,rfl,bx.trans cx,by omega,rfl,rfl,rfl⟩ ?_ ?_
 ·rintro i e h' _ hi ⟨w,ts,q0,q1,tA,tY,qx,qn,e1,e3,e4⟩ K' mS hx hr hp;obtain ⟨r,VW⟩:=dM hi;have kW:=ij VW;obtain ⟨kk,hk,Kc,Ve,Qr⟩:=wB (mZ r kW);have YA:aY r = [.str r.name,I6 (kk:Int),kM r.aM]:=by unfold aY;rw [hk]
  have ls:=lA q0 0 rfl;have lr:=lA q0 1 rfl;have l2:=lA q1 2 rfl;have ox:=o.ext qx;obtain ⟨ba,_,hba,ia,_,la⟩:=ox.get dY VW;have la0:=la 0 (by omega);have la1:=la 1 (by omega);have UN:=la 2 (by omega);rw [YA] at la0 la1 UN;rw [Nat.add_zero] at la0;have qv:ts.length=i:=by have:=congrArg List.length tY;rw [length_map,length_map,length_take,Nat.min_eq_left (by omega)] at this;exact this
  rw [F.jV.aP];simp only [e1,e3,e4,aO,lr,ls,o.len,cM,l2,aU hi,ia .i64,la0,la1,UN];refine af (Gd n1 n2 Kc Ve (XZ r kW) Qr fun h3 b x3 y1 y2 y3=>?_);have q03:=x3.at q0 (by omega);have q13:h3.get (h.next+1)=sC [I6 (n:Int),I6 (rs.length:Int),w,.ai,.ai,bF]:=x3.at q1 (by omega);have l23:=lA q13 2 rfl;have tA3:=tA.ext x3;have hb5:(bitsOf n kk r.aM.l).length=n ^ kk:=nq _ _ _;obtain ⟨a5,h5,p5,t5,f5,n5,x5,b5⟩:=tA3.push (by have:=x3.next;omega) (by rw [hm];omega) ⟨r.name,kk,b,bitsOf n kk r.aM.l⟩ (by show h.next+2<=b;omega) y2 (fun e=>by have:=tA.own.lt e;simp only at this;omega) y3 (fun p hp e=>by have:=(tA.cell p hp).2.1;simp only at e;omega)
  have aeA:eN [(.str []),(I6 0),.ai] [(0,3)] [.agg [.str r.name,I6 (kk:Int),.slice b 0 (n ^ kk) 1]]=some (oG ⟨r.name,kk,b,bitsOf n kk r.aM.l⟩):=by
   unfold oG;simp only [hb5];rfl
  have hne:∀ d,d<h.next+2->bR w≠some d:=fun d hd hb=>by have:=tA.own.ge hb;omega
  have s1:h5.get (h.next+1)=sC [I6 (n:Int),I6 (rs.length:Int),w,.ai,.ai,bF]:=by rw [f5 _ (by have:=x3.next;omega) (hne _ (by omega))];exact q13
  have c5:=t5.own.ki
  have st:aS 1 (.ptr (h.next+1) 2) a5 h5=some (h5.set (h.next+1) (.cells [I6 (n:Int),I6 (rs.length:Int),a5,.ai,.ai,bF])):=by
   rw [cj (n:=1) s1 c5.2.1 c5.1 (by simp),c5.2.2];rfl
  simp only [aO,l23,AV.beq_refl,Bool.and_self,if_true,aeA,p5,st,aE hi hbig];refine mS _ _ ⟨a5,_,?_,by rw [Heap.aG,if_pos rfl],t5.low (by omega) _,?_,(x5 h (qx.trans x3) (by omega)).set (by omega) _,by rw [Heap.aT];have:=x3.next;omega,e1,e3,rfl⟩
  ·rw [Heap.aG,if_neg (by omega),f5 _ (by have:=x3.next;omega) (hne _ (by omega))];exact q03
  ·rw [map_append,tY,take_add_one,VW,map_append];simp only [map_cons,map_nil,toList_some,dm,nR];rw [show r.arity.toNat=kk by omega]
 ·rintro e h' ⟨w,ts,q0,q1,tA,tY,qx,qn,e1,e3,e4⟩ K' hx;rw [jD (dK _)] at tY;have lr:=lA q0 1 rfl;rw [F.jV.aP];simp only [e1,e4,aO,lr,o.len,aR];rw [hx,F.jV.aC];simp only [kC,reduceEqDiff,reduceIte,e3];exact hK (h.next+1) w h' ts _ qx (by omega) (by omega) q1 rfl ⟨tA.own.CL (by omega),fun t ht=>by obtain ⟨d1,d2,d3,d4⟩:=tA.cell t ht;exact ⟨by omega,d2,d3,d4⟩,tA.inj⟩ tY
theorem I3{k:Nat}(n1:1<=n)(n2:n<=64){rs:List Rel}(o:Own aY 3 k h a rs)(hrl:rs.length<=1000)(mZ:∀ r ∈ rs,qu n r=true)(XZ:∀ r ∈ rs,r.aM.l.length<=cw)
  (hK:∀ w h' ts,aV h h'->gj h.next h' w ts->ts.map dm=rs.map (nR n)->K (.ret w) h'=true):Sem TP 122 [.agg [I6 (n:Int),a]] h K:=by
 obtain ⟨AB,MU⟩:=mR o;have tX:aW [I6 (n:Int),a]=true:=by simp only [aW,Bool.and_true] at AB ⊢;rw [AB];rfl
 refine F.vh ?_;rw [F.wQ];have b0:(h.alloc (.cells [I6 (n:Int),a])).get h.next=sC [I6 (n:Int),a]:=ak _ _
 have bx:aV h (h.alloc (.cells [I6 (n:Int),a])):=aV.alloc _ _;have Ay:kQ (some 2) [I6 (n:Int),a] 0=some (.agg [I6 (n:Int),a]):=rfl;simp only [cD tX,dr,aj b0,Ay];refine af (Sj n1 n2 (o.ext bx) hrl mZ XZ fun b w h' ts cs x1 y1 y2 y3 y4 tA tY=>?_);have lw:au none (.ptr b 2) h'=some w:=by rw [aj y3,u0];exact y4
 simp only [aO,cM,lw];exact hK w h' ts (bx.trans x1) ⟨tA.own.CL bx.next,fun t ht=>by obtain ⟨d1,d2,d3,d4⟩:=tA.cell t ht;exact ⟨Nat.le_trans bx.next d1,d2,d3,d4⟩,tA.inj⟩ tY
def qX(rs:List aI)(s:ct)(nm:cc):Nat:=s.aA.l.length+(cZ rs).idxOf nm
theorem z6{rs':List Rel}(tO:rs'.map bp=s.aA.l.map bp++gK rs (cZ rs))(hq:q ∈ rs') :
  (∃ p ∈ s.aA.l,p.name=q.name/\p.arity=q.arity/\p.aM.l.map Sl.l=q.aM.l.map Sl.l)\/(q.name ∈ bC rs/\q.arity=(ke rs q.name:Int)/\q.aM.l = []):=by
 have hd:bp q ∈ s.aA.l.map bp++gK rs (cZ rs):=by rw [<- tO];exact List.mem_map_of_mem hq
 rcases mem_append.1 hd with hd|hd
 ·obtain ⟨p,hp,e⟩:=mem_map.1 hd;unfold bp at e;simp only [Prod.mk.injEq] at e;exact .inl ⟨p,hp,e.1,e.2.1,e.2.2⟩
 ·obtain ⟨nm,rF,e⟩:=mem_map.1 hd;unfold bp at e;simp only [Prod.mk.injEq] at e;refine .inr ⟨by rw [<- e.1];exact (ej rs).1 rF,by rw [<- e.1];exact e.2.1.symm,?_⟩;have:=e.2.2;simpa using this.symm
theorem I4{n:Nat}:∀ {l m:List (Sl Int)} (d:List Bool),l.map Sl.l=m.map Sl.l->kN n l d=kN n m d
 |[],[],d,_=>rfl
 |[],_ :: _,d,h=>by simp at h
 |_ :: _,[],d,h=>by simp at h
 |t :: l,u :: m,d,h=>by
  simp only [map_cons,List.cons.injEq] at h;rw [kN,kN,h.1,I4 _ h.2]
theorem Sk{k:Nat}{l m:List (Sl Int)}(h:l.map Sl.l=m.map Sl.l):bitsOf n k l=bitsOf n k m:=I4 _ h
section
variable {rs:List aI} {s:ct} {rs':List Rel} {n:Nat} {m:gq}
theorem M7(ho:dw rs s)(jb:dQ rs []=some m)(tO:rs'.map bp=s.aA.l.map bp++gK rs (cZ rs)):Pv s.size (rs'.map bp):=by
 have h5:=ho.wY;have:=(Fj ho.iD jb ho.valid (fun h=>ho.names (.inr h)) tO).2 fun h=>h5 (h.elim .inl fun h=>.inr (.inl h));exact iM.1 this
theorem abh(ho:dw rs s)(jb:dQ rs []=some m)(hn:s.size=(n:Int))(tO:rs'.map bp=s.aA.l.map bp++gK rs (cZ rs))(hq:q ∈ rs'):qu n q=true:=by
 have:=(M7 ho jb tO).rel _ (List.mem_map_of_mem hq);rw [show s.size.toNat=n by omega] at this;exact IW.2 this
theorem Lr(ho:dw rs s)(jb:dQ rs []=some m)(tO:rs'.map bp=s.aA.l.map bp++gK rs (cZ rs)):((rs'.map (nR n)).map jR.name).Nodup:=by
 have:=(M7 ho jb tO).names;rw [List.map_map] at this ⊢;exact this
theorem M8(ho:dw rs s)(jb:dQ rs []=some m)(hn:s.size=(n:Int))(tO:rs'.map bp=s.aA.l.map bp++gK rs (cZ rs))(hr:r ∈ rs):oE n r (rs'.map (nR n)):=by
 have hp:=M7 ho jb tO;have hlen:rs'.length<=8:=by have:=hp.k8;simpa using this
 refine ⟨by rw [length_map];unfold cw;omega,fun c hc=>tP (qT ho.iD hr hc),fun c hc k0=>?_⟩;have wu:=Ei hr hc k0;have uR:s.size.toNat=n:=by omega
 by_cases hd:c.name ∈ bC rs
 ·obtain ⟨_,q,hq,BZ,Qu⟩:=wH jb hd
  have hl:q.args.l.length=c.args.l.length:=by
   have:=rI jb (pe hq) (by rw [BZ];exact wu);omega
  refine ⟨?_,fun t ht htn=>?_⟩
  ·rw [<- hl,<- uR];exact Nat.le_of_not_lt fun h=>ho.wY (.inr (.inl ⟨q,hq,h⟩))
  ·obtain ⟨p,xb,rfl⟩:=mem_map.1 ht;replace htn:p.name=c.name:=htn;show (bitsOf n p.arity.toNat p.aM.l).length=_;rw [nq];rcases z6 tO xb with ⟨u,hu,Zf,_⟩|⟨_,ha,_⟩
   ·exact absurd (.inr ⟨u,hu,by rw [Zf,htn];exact hd⟩) ho.names
   ·rw [htn,Qu,hl] at ha;congr 1;omega
 ·cases hf:s.aA.l.find? (fe c.name (c.args.l.length:Int)) with
  |none=>exact absurd (.inl ⟨_,wu,hd,hf⟩) ho.names
  |some q=>
   obtain ⟨hq,BZ,Sd⟩:=Ek hf;obtain ⟨i,hi⟩:=mem_iff_getElem?.1 hq;have F9:=vt ho.valid hi;rw [uR] at F9;obtain ⟨k,hk,Kc,Ve,Qr⟩:=wB F9;have hkl:k=c.args.l.length:=by omega
   refine ⟨by rw [<- hkl];exact Ve,fun t ht htn=>?_⟩;obtain ⟨p,xb,rfl⟩:=mem_map.1 ht;replace htn:p.name=c.name:=htn;show (bitsOf n p.arity.toNat p.aM.l).length=_;rw [nq];rcases z6 tO xb with ⟨u,hu,Zf,hua,_⟩|⟨hh,_,_⟩
   ·have h1:=zZ ho.valid hu;have h2:=zZ ho.valid hq;rw [Zf,htn] at h1;rw [BZ,h1] at h2;have:=Option.some.inj h2;rw [this] at hua;congr 1;omega
   ·exact absurd (by rw [<- htn];exact hh) hd
theorem aeB(ho:dw rs s)(jb:dQ rs []=some m)(tO:rs'.map bp=s.aA.l.map bp++gK rs (cZ rs))(rF:nm ∈ bC rs):∃ q,rs'[qX rs s nm]?=some q/\q.name=nm/\q.arity=(ke rs nm:Int)/\q.aM.l = []:=by
 have hd:=(ej rs).2 rF;have h1:(cZ rs).idxOf nm<(cZ rs).length:=idxOf_lt_length_of_mem hd
 have h2:(rs'.map bp)[qX rs s nm]?=some (nm,(ke rs nm:Int),[]):=by
  rw [tO,getElem?_append_right (by unfold qX;rw [length_map];omega)];unfold qX gK;rw [length_map,Nat.add_sub_cancel_left,getElem?_map,jQ h1,getElem_idxOf];rfl
 rw [getElem?_map] at h2;obtain ⟨q,h3,h4⟩:=map_eq_some_iff.1 h2;unfold bp at h4;simp only [Prod.mk.injEq] at h4;exact ⟨q,h3,h4.1,h4.2.1,by simpa using h4.2.2⟩
theorem Sm(ho:dw rs s)(jb:dQ rs []=some m)(tO:rs'.map bp=s.aA.l.map bp++gK rs (cZ rs)):iW n (qX rs s) rs (rs'.map (nR n)):=by
 refine ⟨Lr ho jb tO,fun r hr=>?_⟩;obtain ⟨q,h1,h2,h3,h4⟩:=aeB ho jb tO (List.mem_map_of_mem hr:r.name ∈ bC rs);refine ⟨nR n q,by rw [getElem?_map,h1];rfl,h2,?_⟩;show (bitsOf n q.arity.toNat q.aM.l).length=_;rw [nq,h3,IX jb hr];rfl
theorem X2(ho:dw rs s)(jb:dQ rs []=some m)(tO:rs'.map bp=s.aA.l.map bp++gK rs (cZ rs)):fI (rs'.map (nR n))=ff n s:=by
 have UW:=Lr (n:=n) ho jb tO;funext nm k;unfold ff
 cases hf:s.aA.l.find? (dN nm) with
 |some r=>
  have hr:=mem_of_find?_eq_some hf;have BW:=find?_some hf;simp only [dN,beq_iff_eq] at BW;have hd:bp r ∈ rs'.map bp:=by rw [tO];exact mem_append_left _ (List.mem_map_of_mem hr)
  obtain ⟨q,hq,Qv⟩:=mem_map.1 hd;unfold bp at Qv;simp only [Prod.mk.injEq] at Qv;obtain ⟨i,hi⟩:=mem_iff_getElem?.1 hq;have:=vz UW (j:=i) (t:=nR n q) (by rw [getElem?_map,hi];rfl) k;rw [show (nR n q).name=nm by show q.name=nm;rw [Qv.1,BW]] at this;rw [this];show (bitsOf n q.arity.toNat q.aM.l).getD k false=_;rw [Qv.2.1,Sk Qv.2.2]
 |none=>
  unfold fI
  cases hft:(rs'.map (nR n)).find? (fun t=>t.name==nm) with
  |none=>rfl
  |some t=>
   have ht:=mem_of_find?_eq_some hft;have htn:=find?_some hft;rw [beq_iff_eq] at htn;obtain ⟨q,hq,rfl⟩:=mem_map.1 ht;replace htn:q.name=nm:=htn;rcases z6 tO hq with ⟨p,hp,hpn,_⟩|⟨_,_,ht0⟩
   ·rw [find?_eq_none] at hf;exact absurd (hf p hp) (by simp [dN,hpn,htn])
   ·show (bitsOf n q.arity.toNat q.aM.l).getD k false=false;rw [ht0];exact Pw _ _
end
def Eo(ts:List jR):Nat:=(ts.map fun t=>t.bits.count false).sum
theorem abi{ts:List jR}:∀ {j:Nat} {t:jR} {i:Nat},ts[j]?=some t->t.bits[i]?=some false->Eo (ts.set j ⟨t.name,t.k,t.bits.set i true⟩)<Eo ts:=by
 induction ts with
 |nil=>intro j t i h _;simp at h
 |cons q ts ih=>
  intro j t i h hb
  cases j with
  |zero=>
   simp at h;subst h;have:=Gz q.bits i hb;unfold Eo;rw [set_cons_zero,map_cons,map_cons,sum_cons,sum_cons];simp only;omega
  |succ j=>
   rw [getElem?_cons_succ] at h;have:=ih h hb;unfold Eo at this ⊢;rw [set_cons_succ,map_cons,map_cons,sum_cons,sum_cons];omega
structure QT (n:Nat) (jx:cc->Nat) (rs:List aI) (T:List jR) (s:List jR×Bool):Prop where
 ok:iW n jx rs s.1
 le:Eo s.1<=Eo T
 lt:s.2=true->Eo s.1<Eo T
 same:s.2=false->s.1=T
theorem ajz{jx:cc->Nat}{T:List jR}(hr:r ∈ rs)(ha:AD n r vs){s:List jR×Bool}(q:QT n jx rs T s):QT n jx rs T (Jp n r (jx r.name) vs s):=by
 have mP:=R4 (r:=r) (vs:=vs) (j:=jx r.name) q.ok;unfold Jp at mP ⊢;obtain ⟨t,ht,htn,qv⟩:=q.ok.at_ r hr;rw [ht] at mP ⊢;simp only at mP ⊢;split
 ·exact q
 ·rename_i hb;rw [if_neg hb] at mP;split
  ·rename_i qb;rw [if_pos qb] at mP;have uQ:jK n r vs<t.bits.length:=by rw [qv];exact IN ha
   have oO:t.bits[jK n r vs]?=some false:=by
    rw [getD_eq_getElem?_getD,jQ uQ] at hb;rw [jQ uQ];simp only [getD_some,not_eq_true] at hb;rw [hb]
   have hlt:=abi ht oO;have:=q.le;exact ⟨mP,by show Eo (s.1.set _ _)<=_;omega,fun _=>by show Eo (s.1.set _ _)<_;omega,fun h=>by cases h⟩
  ·exact q
theorem abj(n1:1<=n){jx:cc->Nat}{qs:List aI}(BI:∀ r ∈ qs,r ∈ rs){T:List jR}{s:List jR×Bool}(q:QT n jx rs T s):QT n jx rs T (oZ n jx qs s):=by
 unfold oZ;refine iK (P:=fun s=>QT n jx rs T s) q fun s r hr hs=>?_;unfold ig;exact iK (P:=fun s=>QT n jx rs T s) hs fun s i hi hs=>ajz (BI r hr) (IP n1 (mem_range.1 hi)) hs
theorem X3(s:St):dz TP s Tryz.f84.results.toList=(match au (some 2) (s.env 4) s.h,(some []:Option (List AV)) with|some v,some vs=>some (v :: vs)|_,_=>none):=by kernel_rfl
structure Lvl (n k0:Nat) (rs:List aI) (s:ct) (lv:fJ.Lv) (T0:List jR) (Qw:List er) (w:AV) (h0:Heap) (l:Nat) (ts:List er) (h:Heap):Prop where
 run:RunT n (qX rs s) rs lv T0 l (ts.map dm)
 shape:ts.map er.shape=Qw.map er.shape
 ann:gj k0 h w ts
 jm:∀ b,b<h0.next->(∀ t ∈ Qw,b≠t.nO)->h.get b=h0.get b
 next:h0.next<=h.next
theorem PD{rules:Sl aI}{T0:List jR}{Qw:List er}{w:AV}{h0:Heap}{d:Sl cc}{y:Sl Int}{l N:Nat}{SB OB:Nat}{x3:AV}(n1:1<=n)(sK:n<=64)(hn:s.size=(n:Int))(iX:∀ r ∈ rules.l,r.k8)(hg:nk rules.l)(jb:dQ rules.l []=some m)(wm:∀ r ∈ rules.l,n ^ r.args.l.length<=4096)
  (Sn:iW n (qX rules.l s) rules.l T0) (ajA:∀ r ∈ rules.l,oE n r T0) (hT0:Qw.map dm=T0) (hrl:s.aA.l.length<=8) (hd:d.l=cZ rules.l) (hy:y.l=uJ (cZ rules.l) lv) (hSB:∀ h ts,Lvl n k0 rules.l s lv T0 Qw w h0 l ts h->True)
  {e0:Env} {ts:List er} (hl:Lvl n k0 rules.l s lv T0 Qw w h0 l ts h) (g0:h0.get SB=sC (ah s)) (g1:SB<h0.next) (g2:∀ t ∈ Qw,SB≠t.nO) (g3:∀ t ∈ Qw,t.nO<h0.next)
  (q0:e0 0=gm rules) (q3:e0 3 = .ptr SB 0) (q4:e0 4=x3) (q5:e0 5 = .ptr OB 0) (q6:e0 6=w) (q7:e0 7=iz d) (q8:e0 8=dH y) (q10:e0 10=I6 (l:Int)) (q11:e0 11=bT) {K:AX->St->Bool}
  (done:∀ (e:Env) h' nu,Lvl n k0 rules.l s lv T0 Qw w h0 (l+1) nu h'->e 0=gm rules->e 3 = .ptr SB 0->e 4=x3->e 5 = .ptr OB 0->e 6=w->e 7=iz d->e 8=dH y->e 10=I6 (l:Int)->F.bI.kg K (.exit 2) (sM e 122 h')=true) :
  bJ (EV F.bI.L1) (sM e0 122 h) (F.bI.kg K)=true:=by
 have uo:=hg.k8;have F9:rules.l.length<=cw:=by unfold cw;omega
 have wG:=jY jb;have hdl:=pZ rules.l;have hdb:d.l.length<=cw:=by rw [hd];unfold cw;omega
 have hdn:d.l.Nodup:=by rw [hd];exact yW (rG _)
 have acU:=hl.run
 refine jU (fun mm e h'=>∃ (nu:List er) (fl:Bool),mm=(if fl=true then Eo (nu.map dm)+1 else 0)/\wE n (qX rules.l s) (fW lv rules.l l) (ts.map dm) (nu.map dm)/\(fl=false->oZ n (qX rules.l s) (fW lv rules.l l) (nu.map dm,false)=(nu.map dm,false)) /\
   nu.map er.shape=Qw.map er.shape/\gj k0 h' w nu/\(∀ b,b<h0.next->(∀ t ∈ Qw,b≠t.nO)->h'.get b=h0.get b)/\h0.next<=h'.next/\iW n (qX rules.l s) rules.l (nu.map dm) /\
   e 0=gm rules/\e 3 = .ptr SB 0/\e 4=x3/\e 5 = .ptr OB 0/\e 6=w/\e 7=iz d/\e 8=dH y/\e 10=I6 (l:Int)/\e 11 = .bool fl) (Eo (ts.map dm)+1)
  ⟨ts,true,rfl,.refl,fun h=>(by cases h),hl.shape,hl.ann,hl.jm,hl.next,?_,q0,q3,q4,q5,q6,q7,q8,q10,q11⟩ ?_
 ·have key:∀ {t:Nat} {T:List jR},RunT n (qX rules.l s) rules.l lv T0 t T->iW n (qX rules.l s) rules.l T:=by
   intro t T h
   induction h with
   |zero=>exact Sn
   |succ l T T' _ hr _ ih=>exact zW ih hr
  exact key acU
 rintro mm e h' ⟨nu,fl,hmm,hre,jL,TI,hA,hold,mS,mP,TF,e3,e4,e5,e6,e7,e8,iJ,l9⟩;rw [F.bI.cU];simp only [l9,cu]
 cases fl with
 |false=>
  simp only [aK,lZ];exact done _ h' nu ⟨.succ l _ _ acU hre (jL rfl),TI,hA,hold,mS⟩ TF e3 e4 e5 e6 e7 e8 iJ
 |true=>
 simp only [aL]
 have hfit:∀ (u:List er),u.map er.shape=Qw.map er.shape->∀ r ∈ rules.l,oE n r (u.map dm):=fun u hu r hr=>by
  have:=ajA r hr;rw [<- hT0] at this;exact this.shape hu
 refine aB 0 rules.l.length (zero_le _) (fun i e h2=>∃ (u:List er) (c:Bool),(u.map dm,c)=oZ n (qX rules.l s) (fW lv (rules.l.take i) l) (nu.map dm,false)/\QT n (qX rules.l s) rules.l (nu.map dm) (u.map dm,c) /\
   u.map er.shape=Qw.map er.shape/\gj k0 h2 w u/\(∀ b,b<h0.next->(∀ t ∈ Qw,b≠t.nO)->h2.get b=h0.get b)/\h0.next<=h2.next /\
   e 0=gm rules/\e 3 = .ptr SB 0/\e 4=x3/\e 5 = .ptr OB 0/\e 6=w/\e 7=iz d/\e 8=dH y/\e 10=I6 (l:Int)/\e 11 = .bool c/\e 12=I6 (i:Int))
  ⟨nu,false,rfl,⟨mP,dK _,fun h=>(by cases h),fun _=>rfl⟩,TI,hA,hold,mS,TF,e3,e4,e5,e6,e7,e8,iJ,rfl,rfl⟩ ?_ ?_
 ·rintro i e h2 _ hi ⟨u,c,hu,hq,Sp,Vn,Ls,PE,TF,e3,e4,e5,e6,e7,e8,iJ,l9,uq⟩ K2 qj fK r7 Ay;obtain ⟨r,hv⟩:=dM hi;have kW:=ij hv;have gw:=CT (lv:=lv) (l:=l) hv;have rF:r.name ∈ d.l:=by rw [hd];exact (ej _).2 (List.mem_map_of_mem kW)
  have hix:d.l.idxOf r.name<d.l.length:=idxOf_lt_length_of_mem rF;have lh:∀ hh,au none (.dL (rules.l.flatMap bY) (i*3)) hh=some (.str r.name):=fun hh=>dU fo hv (by omega:0<3);have hyl:y.l.length=d.l.length:=by rw [hy,CU,hd]
  have hyv:y.l[d.l.idxOf r.name]?=some (lv r.name:Int):=by rw [hy];exact tN (by rw [hd] at hix ⊢;rw [jQ hix,getElem_idxOf])
  have i8:=aQ (enc:=encI) (sz:=1) (k:=.i64) y (i:=d.l.idxOf r.name) (by omega);have l8:∀ hh,au none (.dL (y.l.flatMap encI) (d.l.idxOf r.name*1)) hh=some (I6 (lv r.name:Int)):=fun hh=>gh hyv;rw [F.bI.Ot];simp only [TF,e7,uq,aO,aU hi,aQ rules hi,lh];refine af (Lm hdn hdb rF ?_);simp only [aO,e8,iJ,i8,l8,cy];by_cases UY:lv r.name=l
  ·rw [if_pos UY] at gw;have gSB:h2.get SB=sC (ah s):=by rw [Ls SB g1 g2];exact g0
   have lz:au none (.ptr SB 0) h2=some (I6 (n:Int)):=by rw [aj gSB,<- hn];rfl
   have lr:=lA gSB 1 rfl
   have yP:aF .add (I6 (s.aA.l.length:Int)) (I6 ((d.l.idxOf r.name:Nat):Int))=some (I6 ((s.aA.l.length+d.l.idxOf r.name:Nat):Int)):=by
    rw [j9 (by rw [hd] at hix ⊢;omega) (by rw [hd] at hix ⊢;omega)];rfl
   have hjx:s.aA.l.length+d.l.idxOf r.name=qX rules.l s r.name:=by unfold qX;rw [hd]
   obtain ⟨t,ht,htn,qv⟩:=hq.ok.at_ r kW;simp only at ht;rw [getElem?_map] at ht;obtain ⟨tb,Qo,rfl⟩:=map_eq_some_iff.1 ht;simp only [fh (by omega:(lv r.name:Int)=(l:Int)),aL,aO,dB fo hv,e3,e6,lz,lr,yP];rw [hjx];refine af (iH n1 sK (iX r kW) (wG r kW).2.2 (pg (wG r kW).1) (wm r kW) Vn (hfit u Sp r kW) Qo qv fun h3 u3 a1 a2 a3 a4 a5=>?_);have hfl:=Fi (n:=n) (r:=r) (j:=qX rules.l s r.name) (n ^ (varsOf r).length) (u.map dm) c
   have ID:(u3.map dm,c||(ig n r (qX rules.l s r.name) (n ^ (varsOf r).length) (u.map dm,false)).2)=oZ n (qX rules.l s) (fW lv (rules.l.take (i+1)) l) (nu.map dm,false):=by
    rw [gw,R3,<- hu,hfl,<- a1]
   have hq3:QT n (qX rules.l s) rules.l (nu.map dm) (u3.map dm,c||(ig n r (qX rules.l s r.name) (n ^ (varsOf r).length) (u.map dm,false)).2):=by
    have:oZ n (qX rules.l s) [r] (u.map dm,c)=(u3.map dm,c||(ig n r (qX rules.l s r.name) (n ^ (varsOf r).length) (u.map dm,false)).2):=by
     unfold oZ;simp only [foldl_cons,foldl_nil];rw [hfl,<- a1]
    rw [<- this];exact abj n1 (fun q hq=>by rw [mem_singleton] at hq;subst hq;exact kW) hq
   have ajC:u3.map er.shape=Qw.map er.shape:=by rw [a2,Sp]
   have acV:∀ b,b<h0.next->(∀ t ∈ Qw,b≠t.nO)->h3.get b=h0.get b:=fun b b1 b2=>by
    rw [a4 b (by omega) (fun t ht e=>by
     obtain ⟨p,hp,hpe⟩:=El Sp ht;unfold er.shape at hpe;simp only [Prod.mk.injEq] at hpe
     exact b2 p hp (by rw [e,hpe.2.2.1]))]
    exact Ls b b1 b2
   simp only [aO];generalize (ig n r (qX rules.l s r.name) (n ^ (varsOf r).length) (u.map dm,false)).2=g at ID hq3
   cases g with
   |true=>
    rw [Bool.or_true] at ID hq3;simp only [aL,aE hi F9,dr];exact qj _ _ ⟨u3,true,ID,hq3,ajC,a3,acV,by omega,TF,e3,e4,e5,e6,e7,e8,iJ,rfl,rfl⟩
   |false=>
    rw [Bool.or_false] at ID hq3;simp only [aK,aE hi F9,dr];exact qj _ _ ⟨u3,c,ID,hq3,ajC,a3,acV,by omega,TF,e3,e4,e5,e6,e7,e8,iJ,l9,rfl⟩
  ·rw [if_neg UY,append_nil] at gw;simp only [eR (by omega:¬ (lv r.name:Int)=(l:Int)),aK,aE hi F9,dr];exact qj _ _ ⟨u,c,by rw [gw];exact hu,hq,Sp,Vn,Ls,PE,TF,e3,e4,e5,e6,e7,e8,iJ,l9,rfl⟩
 ·rintro e h2 ⟨u,c,hu,hq,Sp,Vn,Ls,PE,TF,e3,e4,e5,e6,e7,e8,iJ,l9,uq⟩ K2 fK;rw [jD (dK _)] at hu;rw [F.bI.Ot];simp only [TF,uq,aO,aR];rw [fK,F.bI.WZ]
  have ajD:wE n (qX rules.l s) (fW lv rules.l l) (ts.map dm) (u.map dm):=by
   have:=wE.step (n:=n) (jx:=qX rules.l s) (rs:=fW lv rules.l l) _ hre;rw [<- hu] at this;exact this
  cases c with
  |true=>
   have hlt:=hq.lt rfl;simp only [if_true] at hmm;refine bO.2 ⟨Eo (u.map dm)+1,by simp only at hlt;omega,rfl,rfl,u,true,rfl,ajD,fun h=>(by cases h),Sp,Vn,Ls,PE,hq.ok,TF,e3,e4,e5,e6,e7,e8,iJ,l9⟩
  |false=>
   have ED:=hq.same rfl;simp only at ED;refine bO.2 ⟨0,by rw [hmm];simp,rfl,rfl,u,false,rfl,ajD,fun _=>?_,Sp,Vn,Ls,PE,hq.ok,TF,e3,e4,e5,e6,e7,e8,iJ,l9⟩;rw [ED,<- hu,ED]
theorem Lt{enc:α->List AV}(x:Sl α):aW [dR enc sz x]=true/\(dR enc sz x).dX = [dR enc sz x]:=by cases x<;>exact ⟨rfl,rfl⟩
def Vq(r:Rel):y8:=(r.name,r.arity,⟨kM r.aM,(Lt r.aM).1,(Lt r.aM).2⟩)
theorem Sq(r:Rel):jt (Vq r)=aY r:=rfl
theorem X4{β:Type}{enc:α->List AV}{nK:β->List AV}{k:Nat}{l:List α}(o:Own enc sz k h a l)(f:α->β)(hf:∀ x,nK (f x)=enc x):Own nK sz k h a (l.map f):=by
 cases o with
 |nil=>exact .nil
 |row b l h1 h2 h3=>
  have:(l.map f).flatMap nK=l.flatMap enc:=by rw [flatMap_map];congr 1;funext x;exact hf x
  have hl:l.length=(l.map f).length:=by rw [length_map]
  rw [hl];exact .row b _ h1 h2 (by rw [h3,this])
theorem kX.ajE{k:Nat}{l:List Rel}(o:Own aY 3 k h a l):kX (fun _=>False) jt aY 3 k h a (l.map fun r=>(Vq r,r)):=
 ⟨by rw [List.map_map];exact X4 o (fun r=>Vq r) Sq,fun p hp h' _=>by
  obtain ⟨r,_,rfl⟩:=mem_map.1 hp
  exact .de (uv r),fun _ _ h=>h⟩
theorem abk(A C:List α)(c v:α):(A++c :: C).set A.length v=A++v :: C:=by
 rw [set_append_right _ _ (dK _),Nat.sub_self];rfl
theorem Own.TK{k:Nat}{m:List y8}(o:Own jt 3 k h a m){q:y8}(hp:m[i]?=some q)(v:Ph) :
  ∃ b cs,jw 3 a (I6 (i:Int))=some (.ptr b (i*3))/\bR a=some b/\b<h.next/\au none (.ptr b (i*3+2)) h=some q.2.2.1/\aS 1 (.ptr b (i*3+2)) v.1 h=some (h.set b (.cells cs))/\Own jt 3 k (h.set b (.cells cs)) a (m.set i (q.1,q.2.1,v)):=by
 have hg:=o.get nL hp
 cases o with
 |nil=>simp at hp
 |row b m h1 h2 h3=>
  have hmi:=(lR.1 hp).1
  have xX:((m.flatMap jt).set (i*3+2) v.1)=(m.set i (q.1,q.2.1,v)).flatMap jt:=by
   clear h3 hg
   have:∀ (m:List y8) (i:Nat) (q:y8),m[i]?=some q->(m.flatMap jt).set (i*3+2) v.1=(m.set i (q.1,q.2.1,v)).flatMap jt:=by
    intro m
    induction m with
    |nil=>intro i q hq;simp at hq
    |cons x m ih=>
     intro i q hq
     cases i with
     |zero=>
      simp at hq;subst hq;rw [set_cons_zero,flatMap_cons,flatMap_cons,set_append_left _ _ (by simp [jt])];rfl
     |succ i=>
      rw [getElem?_cons_succ] at hq;rw [set_cons_succ,flatMap_cons,flatMap_cons,set_append_right _ _ (by rw [nL];omega)];have:(i+1)*3+2-(jt x).length=i*3+2:=by rw [nL];omega
      rw [this,ih i q hq]
   exact this m i q hp
  have hlen:(m.flatMap jt).length=m.length*3:=eS nL m;obtain ⟨b',_,_,i3,_,i5⟩:=hg;have YR:∀ q:IntKind,jw 3 (.slice b 0 m.length 3) (.int q (i:Int))=some (.ptr b (i*3)):=fun q=>by simp [jw,asNat,hmi]
  obtain rfl:b'=b:=by have:=i3 .i64;rw [YR .i64] at this;cases this;rfl
  have ho:=v.2;refine ⟨b',(m.flatMap jt).set (i*3+2) v.1,YR .i64,rfl,h2,by rw [i5 2 (by omega)];rfl,?_,?_⟩
  ·rw [cj (n:=1) h3 (by rw [ho.2];rfl) (by rw [ho.2];exact ho.1) (by rw [hlen];omega),ho.2];rfl
  ·rw [xX];have:m.length=(m.set i (q.1,q.2.1,v)).length:=by rw [length_set]
   rw [this];exact .row b' _ h1 (by rw [Heap.aT];exact h2) (by rw [Heap.aG,if_pos rfl])
def aeC:Ph:=⟨.ai,rfl,rfl⟩
theorem M9{l l':List α}{v:α}(hv:l'[i]?=some v)(ho:∀ j,j≠i->l'[j]?=l[j]?)(hl:l'.length=l.length):l'=l.set i v:=by
 refine ext_getElem? fun j=>?_;rw [getElem?_set];by_cases e:i=j
 ·subst e;have:=(lR.1 hv).1;rw [if_pos rfl,if_pos (by omega)];exact hv
 ·rw [if_neg e];exact ho j fun e'=>e e'.symm
theorem bI{rules:Sl aI}{s:ct}(iX:∀ r ∈ rules.l,r.k8)(ho:dw rules.l s){h:Heap}{K:Out->Heap->Bool}
  (hK:∀ out:ct,out.size=s.size->(∃ F,mM rules.l s.size.toNat s F/\out.aA.l.map bp=s.aA.l.map bp++qd rules.l s.size.toNat F (cZ rules.l))->K (.ret (.agg (ah out))) h=true) :
  Sem TP 84 [gm rules,.agg (ah s)] h K:=by
 have hm:cz=140737488355328:=rfl;have hg:=ho.iD;have sQ:=ho.valid;obtain ⟨n,hn,n1,sK,h8⟩:=iL sQ;have uR:s.size.toNat=n:=by omega
 obtain ⟨m,jb⟩:=hg.go;have wG:=jY jb;have xL:∀ r ∈ rules.l,r.body.l.length<=20:=fun r hr=>(wG r hr).2.1;have uo:=hg.k8;have hdl:=pZ rules.l
 have wm:∀ r ∈ rules.l,n ^ r.args.l.length<=4096:=fun r hr=>by
  rw [<- uR];exact Nat.le_of_not_lt fun h=>ho.wY (.inr (.inl ⟨r,hr,h⟩))
 have gen:∀ R:Out->Heap->Bool,(∀ h' a (x:Sl Rel) Fk,Fz true h' a (qm x)->mM rules.l n s Fk->x.l.map bp=s.aA.l.map bp++qd rules.l n Fk (cZ rules.l)->R (.ret (.agg [I6 s.size,a])) h'=true) ->
   Sem TP 84 [gm rules,.agg (ah s)] Heap.empty R:=by
  intro R fin;refine F.JW ?_;rw [F.Mx];simp only [cD (bU s),dr,aZ,Heap.aD];have g0:((Heap.alloc Heap.empty (.cells (ah s))).alloc (.cells [I6 0,.ai])).get 0=sC (ah s):=by simp [Heap.aN,aZ]
  have g1:((Heap.alloc Heap.empty (.cells (ah s))).alloc (.cells [I6 0,.ai])).get 1=sC [I6 0,.ai]:=by simp [Heap.aN,aZ]
  have gn:((Heap.alloc Heap.empty (.cells (ah s))).alloc (.cells [I6 0,.ai])).next=2:=rfl
  generalize ((Heap.alloc Heap.empty (.cells (ah s))).alloc (.cells [I6 0,.ai]))=H0 at g0 g1 gn ⊢;have l0:=eM g0;simp only [l0,dr];refine af (iG uo xL jb (fO sQ).1 fun a h3 rs1 x3 o3 abg=>?_);obtain ⟨rs',Si⟩:∃ rs',rs'=rs1++nZ rules.l (cZ rules.l):=⟨_,rfl⟩
  rw [<- Si] at o3;have tO:rs'.map bp=s.aA.l.map bp++gK rules.l (cZ rules.l):=by rw [Si,map_append,qW,abg]
  have ajG:rs1.length=s.aA.l.length:=by have:=congrArg List.length abg;simpa using this
  have anj:rs'.length=s.aA.l.length+(cZ rules.l).length:=by rw [Si,length_append,ajG];unfold nZ;rw [length_map]
  obtain ⟨AB,MU⟩:=mR o3;have tX:aW [I6 s.size,a]=true:=by simp only [aW,Bool.and_true] at AB ⊢;rw [AB];rfl
  obtain ⟨H4,VY,p4,RV,pn4⟩:=cA (h:=h3) (zs:=[I6 0,.ai]) (cs:=[I6 s.size,a]) (n:=2) rfl rfl tX;have x4:aV h3 H4:=⟨by omega,fun b hb=>RV b (by omega)⟩
  have n3:=x3.next
  rw [gn] at o3 n3;have lo4:au (some 2) (.ptr h3.next 0) H4=some (.agg [I6 s.size,a]):=by rw [aj p4];rfl
  have oa:=o3.ext x4
  have ajH:∀ r ∈ rs',r.aM.l.length<=cw:=fun r hr=>by
   rcases z6 tO hr with ⟨p,hp,_,_,e⟩|⟨_,_,e⟩
   ·have h1:=congrArg List.length e;simp only [length_map] at h1;have:=(fO sQ).1.CV p hp;unfold cw;omega
   ·rw [e];exact zero_le _
  simp only [aO,VY,lo4];rw [hn];refine af (I3 n1 sK oa (by omega) (fun r hr=>abh ho jb hn tO hr) ajH fun w h5 ts x5 tA tY=>?_);simp only [aO];refine af (dS uo fun d hd=>?_);simp only [aO];refine af (bq uo xL (fun hb=>?_) fun y k jL hy=>?_)
  ·obtain ⟨k,hk⟩:=hg.lev;exact absurd hk (hb k)
  have hdb:d.l.length<=cw:=by rw [hd];unfold cw;omega
  have n4:=x4.next
  have n5:=x5.next
  have p0:h5.get 0=sC (ah s):=by rw [((x3.trans x4).trans x5).get 0 (by omega)];exact g0
  have p1:h5.get 1=sC [I6 0,.ai]:=by rw [((x3.trans x4).trans x5).get 1 (by omega)];exact g1
  have p5:=x5.at p4 (by omega);have X5:∀ t ∈ ts,H4.next<=t.nO/\t.nO<h5.next:=fun t ht=>⟨(tA.cell t ht).1,(tA.cell t ht).2.1⟩
  have Sn:iW n (qX rules.l s) rules.l (rs'.map (nR n)):=Sm ho jb tO;simp only [aO]
  refine aB 0 (d.l.length+1) (zero_le _) (fun l e h'=>∃ u,Lvl n H4.next rules.l s (fJ.iter (b6 rules.l) k) (rs'.map (nR n)) ts w h5 l u h'/\e 0=gm rules/\e 3 = .ptr 0 0/\e 4 = .ptr 1 0/\e 5 = .ptr h3.next 0/\e 6=w/\e 7=iz d/\e 8=dH y/\e 10=I6 (l:Int))
   ⟨ts,⟨by rw [tY];exact .zero,rfl,tA,fun _ _ _=>rfl,dK _⟩,rfl,rfl,rfl,rfl,rfl,rfl,rfl,rfl⟩ ?_ ?_
  ·rintro l e h' _ hl ⟨u,hL,e0,e3,e4,e5,e6,e7,e8,iJ⟩ K' vE hx hr hp;rw [F.bI.aP];simp only [e7,iJ,aO,fh (by omega:(l:Int)<=(d.l.length:Int))];refine PD (N:=0) (x3:=.ptr 1 0) (OB:=h3.next) n1 sK hn iX hg jb wm Sn (fun r hr=>M8 ho jb hn tO hr) tY h8 hd hy (fun _ _ _=>trivial) hL p0 (by omega) (fun t ht=>by have:=(X5 t ht).1;omega) (fun t ht=>(X5 t ht).2) ?_ ?_ ?_ ?_ ?_ ?_ ?_ ?_ ?_ fun e' h2 u2 hL2 e0 e3 e4 e5 e6 e7 e8 iJ=>?_
   ·exact e0
   ·exact e3
   ·exact e4
   ·exact e5
   ·exact e6
   ·exact e7
   ·exact e8
   ·exact iJ
   ·rfl
   rw [F.bI.cm];simp only [aO,iJ,aE (i:=l) (n:=62) (by rw [hd] at hl;omega) (by unfold cw;omega)];exact vE _ _ ⟨u2,hL2,e0,e3,e4,e5,e6,e7,e8,rfl⟩
  ·rintro e h6 ⟨u,hL,e0,e3,e4,e5,e6,e7,e8,iJ⟩ K' hx;rw [F.bI.aP];simp only [e7,iJ,aO,eR (by omega:¬ ((d.l.length+1:Nat):Int)<=(d.l.length:Int))];rw [hx,F.bI.aC];obtain ⟨hrun,ajI,uA,anq,unx⟩:=hL;have abl:∀ b,b<H4.next->h6.get b=h5.get b:=fun b hb=>anq b (by omega) fun t ht=>by have:=(X5 t ht).1;omega
   have r0:h6.get 0=sC (ah s):=by rw [abl 0 (by omega)];exact p0
   have r1:h6.get 1=sC [I6 0,.ai]:=by rw [abl 1 (by omega)];exact p1
   have r5:h6.get h3.next=sC [I6 s.size,a]:=by rw [abl _ (by omega)];exact p5
   have Wq:=(IQ n1 (Eh jL) Sn hrun).1;have anr:=(IQ n1 (Eh jL) Sn hrun).2;rw [X2 ho jb tO] at Wq
   have hN:∀ e ∈ b6 rules.l,e.b ∈ cZ rules.l/\e.h ∈ cZ rules.l:=fun e he=>by
    obtain ⟨r,hr,c,hc,_,hin,rfl⟩:=tJ he;exact ⟨(ej _).2 hin,(ej _).2 (List.mem_map_of_mem hr)⟩
   have hw1:∀ e ∈ b6 rules.l,e.w<=1:=fun e he=>by
    obtain ⟨r,hr,c,hc,_,hin,rfl⟩:=tJ he;exact ML r c
   have QA:mM rules.l n s (fI (u.map dm)):=⟨k,d.l.length+1,jL,fun r hr=>by
    have:=fJ.low hN hw1 jL ((ej _).2 (List.mem_map_of_mem hr):r.name ∈ cZ rules.l)
    rw [hd];omega,Wq⟩
   obtain ⟨Fk,hFk⟩:∃ Fk,Fk=fI (u.map dm):=⟨_,rfl⟩
   rw [<- hFk] at QA;have oF0:Pj (fun _=>False) 2 h6 a (rs'.map fun r=>(Vq r,r)):=(kX.ajE oa).gG (fun b b1 b2 _=>by rw [abl b b2,x5.get b b2]) (by omega);have lr:=lA r0 1 rfl;have F9:rs'.length<=cw:=by unfold cw;omega
   simp only [aO,reduceEqDiff,reduceIte,e3,lr];have acW:∀ hh,bK .slice a hh=some (I6 (rs'.length:Int)):=fun hh=>oa.len
   refine aB s.aA.l.length rs'.length (by omega) (fun i e h'=>∃ l,Pj (fun _=>False) 2 h' a l/\(l.map fun p=>bp p.2)=s.aA.l.map bp++qd rules.l n Fk ((cZ rules.l).take (i-s.aA.l.length))++gK rules.l ((cZ rules.l).drop (i-s.aA.l.length)) /\
     (∀ j r,i<=j->rs'[j]?=some r->l[j]?=some (Vq r,r))/\(∀ b,b<h6.next->bR a≠some b->h'.get b=h6.get b)/\h6.next<=h'.next/\e 3 = .ptr 0 0/\e 4 = .ptr 1 0/\e 5 = .ptr h3.next 0/\e 6=w/\e 14=I6 (i:Int))
    ⟨_,oF0,by rw [List.map_map];show rs'.map bp=_;rw [tO];simp [qd],fun j r _ hr=>by rw [getElem?_map,hr];rfl,fun _ _ _=>rfl,dK _,e3,e4,e5,e6,rfl⟩ ?_ ?_
   ·rintro i e h' hai hi ⟨l,oF,hld,Zf,hfr,mS,e3,e4,e5,e6,qt⟩ K2 qj fK r7 Ay;have abm:bR a≠some h3.next:=fun hb=>by have:=o3.lt hb;omega
    have q0:h'.get 0=sC (ah s):=(by rw [hfr 0 (by omega) (fun hb=>by have:=o3.ge hb;omega)];exact r0);have q5:h'.get h3.next=sC [I6 s.size,a]:=by rw [hfr _ (by omega) abm];exact r5
    have lo:=lA q5 1 rfl;have lz:au none (.ptr 0 0) h'=some (I6 (n:Int)):=by rw [aj q0,<- hn];rfl
    have jM:i-s.aA.l.length<(cZ rules.l).length:=(by omega);have hv:(cZ rules.l)[i-s.aA.l.length]?=some (cZ rules.l)[i-s.aA.l.length]:=jQ jM;generalize (cZ rules.l)[i-s.aA.l.length]=nm at hv;have rF:nm ∈ bC rules.l:=(ej _).1 (ij hv);obtain ⟨No,rr,kW,BW,Qu⟩:=wH jb rF;have YC:=wm rr kW;rw [<- Qu] at YC;have Iy:ke rules.l nm<=12:=by rw [Qu];exact pg (wG rr kW).1
    have hri:rs'[i]?=some ⟨nm,(ke rules.l nm:Int),none⟩:=by
     rw [Si,getElem?_append_right (by omega),ajG];unfold nZ;rw [getElem?_map,hv];rfl
    have hli:=Zf i _ (dK _) hri
    have hlen:l.length=rs'.length:=by
     have:=congrArg List.length hld;rw [length_map,length_append,length_append,length_map] at this;unfold qd gK at this;rw [length_map,length_map,length_take,length_drop] at this;omega
    have hl1:(l.map (·.1))[i]?=some (Vq ⟨nm,(ke rules.l nm:Int),none⟩):=by rw [getElem?_map,hli];rfl
    obtain ⟨ba,_,hba,ia,_,la⟩:=oF.own.get nL hl1;have la1:au none (.ptr ba (i*3+1)) h'=some (I6 (ke rules.l nm:Int)):=by rw [la 1 (by omega)];rfl
    have as9:=Ln ajI;have aeg:ts.length=rs'.length:=by have:=congrArg List.length tY;simpa using this
    have huj:u[i]?=some (u[i]'(by omega)):=jQ _;generalize u[i]'(by omega)=tb at huj;have abb:(u.map er.shape)[i]?=some tb.shape:=by rw [getElem?_map,huj];rfl
    rw [ajI,getElem?_map] at abb;obtain ⟨t0,ht0,abn⟩:=map_eq_some_iff.1 abb;have htT:(ts.map dm)[i]?=some (dm t0):=by rw [getElem?_map,ht0];rfl
    rw [tY,getElem?_map,hri] at htT;have ajK:=Option.some.inj htT;have e1:t0.name=nm:=by have:=congrArg jR.name ajK;exact this.symm
    have e2:t0.bits.length=n ^ ke rules.l nm:=by
     have:=congrArg (fun t:jR=>t.bits.length) ajK;simp only [dm] at this;rw [<- this];show (bitsOf n ((ke rules.l nm:Int)).toNat []).length=_;rw [nq];rfl
    unfold er.shape at abn;simp only [Prod.mk.injEq] at abn;have ans:tb.name=nm:=by rw [<- abn.1,e1]
    have ata:tb.bits.length=n ^ ke rules.l nm:=by rw [<- abn.2.2.2,e2]
    have ajL:∀ j,Fk nm j=tb.bits.getD j false:=fun j=>by
     have:=vz anr.nodup (j:=i) (t:=dm tb) (by rw [getElem?_map,huj];rfl) j;rw [hFk,<- ans];exact this
    have tbc:=uA.cell tb (ij huj);rw [F.bI.lD];simp only [e3,e5,qt,aO,lo,acW,aU hi,lz,ia .i64,la1];refine af (b8 n1 Iy YC fun al hal=>?_);have jS:al.l.length=n ^ ke rules.l nm:=by have:=congrArg List.length hal;rw [length_map,qS] at this;exact this
    have ajM:al.l.length<=cw:=(by rw [jS];unfold cw;omega);simp only [aO];have ant:(l.map (·.1))[i]?=some (nm,(ke rules.l nm:Int),aeC):=hl1;have ajN:(l.map (·.1)).set i (nm,(ke rules.l nm:Int),aeC)=l.map (·.1):=(M9 ant (fun _ _=>rfl) rfl).symm;have rO:∀ b,bR a=some b->b<h'.next:=fun b hb=>oF.own.lt hb
    refine aB 0 al.l.length (zero_le _) (fun j e h2=>∃ (tv:Ph) (ts:List (Sl Int)),Own jt 3 2 h2 a ((l.map (·.1)).set i (nm,(ke rules.l nm:Int),tv)) /\
      Own jl 1 h'.next h2 tv.1 ts/\ts.map Sl.l=uL n Fk nm (ke rules.l nm) j/\(∀ b,b<h'.next->bR a≠some b->h2.get b=h'.get b)/\h'.next<=h2.next/\e 3 = .ptr 0 0/\e 4 = .ptr 1 0/\e 5 = .ptr h3.next 0/\e 6=w/\e 14=I6 (i:Int)/\e 15=kM al/\e 16=I6 (j:Int))
     ⟨aeC,[],by rw [ajN];exact oF.own,.nil,rfl,fun _ _ _=>rfl,dK _,e3,e4,e5,e6,qt,rfl,rfl⟩ ?_ ?_
    ·rintro j e h2 _ hj ⟨tv,tl,oR,ot,hxr,Sr,PE,e3,e4,e5,e6,qt,rD,UL⟩ K3 RP BY YA hp3;have hjn:j<n ^ ke rules.l nm:=by rw [<- jS];exact hj
     have hjt:j<tb.bits.length:=by omega
     have uA2:gj H4.next h2 w u:=uA.gG (fun b b1 b2=>by
      have hne:bR a≠some b:=fun hb=>by have:=o3.lt hb;omega
      rw [Sr b (by omega) hne,hfr b b2 hne]) (by omega)
     obtain ⟨bw,hbw,iw,lw⟩:=acO tb uA2 huj;have anu:=uA2.cell tb (ij huj);have oO:tb.bits[j]?=some (Fk nm j):=by rw [ajL,getD_eq_getElem?_getD,jQ hjt];rfl
     have M5:=Lo n Fk nm (ke rules.l nm) j;rw [F.bI.Ou];simp only [e6,qt,rD,UL,aO,aU hj,iw,lw,nh hjt,CN anu.2.2.2 oO]
     cases hFb:Fk nm j with
     |false=>
      rw [hFb,if_neg (by simp),append_nil] at M5;simp only [aK,aE hj ajM,dr];exact RP _ _ ⟨tv,tl,oR,ot,by rw [M5];exact hxr,Sr,PE,e3,e4,e5,e6,qt,rD,rfl⟩
     |true=>
      rw [hFb,if_pos rfl] at M5;have q52:h2.get h3.next=sC [I6 s.size,a]:=by rw [Sr _ (by omega) abm];exact q5
      have RT:=lA q52 1 rfl;have wO:i<(l.map (·.1)).length:=by rw [length_map];omega
      have ajO:((l.map (·.1)).set i (nm,(ke rules.l nm:Int),tv))[i]?=some (nm,(ke rules.l nm:Int),tv):=by rw [getElem?_set,if_pos rfl,if_pos wO]
      obtain ⟨bb,_,ib,A3,_,lb2,_,_⟩:=oR.TK ajO tv;obtain ⟨t,D9⟩:=dM hj
      have qv:t.l=eo n (ke rules.l nm) j:=by
       have h1:(al.l.map Sl.l)[j]?=some t.l:=(by rw [getElem?_map,D9];rfl);rw [hal,zU n1 _ _ hjn] at h1;exact (Option.some.inj h1).symm
      have BV:tl.length<=j:=(by have:=congrArg List.length hxr;rw [length_map] at this;have:=I1 n Fk nm (ke rules.l nm) j;omega);obtain ⟨a9,h9,c9,o9,f9,n9,w9,b9⟩:=ot.push pV vw PE (bytes:=24) (by rw [hm];omega) t;have q59:h9.get h3.next=sC [I6 s.size,a]:=by rw [f9 _ (by omega) (fun hb=>by have:=ot.ge hb;omega)];exact q52
      have lo9:=lA q59 1 rfl;have oR9:=oR.agree (fun b hb=>f9 b (by have:=rO b hb;omega) (fun gN=>by have:=ot.ge gN;have:=rO b hb;omega)) n9;obtain ⟨v1,v2⟩:=mR o9;obtain ⟨b9',cs,ib9,hb9,atg,_,st9,ajP⟩:=oR9.TK ajO ⟨a9,v1,v2⟩;rw [set_set] at ajP;obtain rfl:bb=b9':=by rw [A3] at hb9;exact Option.some.inj hb9
      have ati:=rO bb hb9;have la:∀ hh,au none (.dL (al.l.flatMap jl) (j*1)) hh=some (dH t):=fun hh=>eY D9;simp only [aL,e5,aO,RT,ib,lb2,aQ al hj,la,IM,c9,lo9,AV.beq_refl,Bool.and_self,if_true,st9,aE hj ajM];refine RP _ _ ?_;refine ⟨⟨a9,v1,v2⟩,tl++[t],ajP,o9.agree (fun b hb=>by rw [Heap.aG,if_neg (by have:=b9 b hb;omega)]) (by rw [Heap.aT];exact dK _),?_,fun b b1 b2=>?_,by rw [Heap.aT];omega,e3,e4,e5,e6,qt,rD,rfl⟩
      ·rw [map_append,hxr,M5];simp [qv]
      ·rw [Heap.aG,if_neg (fun e=>b2 (by rw [e];exact hb9)),f9 b (by omega) (fun hb=>by have:=ot.ge hb;omega)];exact Sr b b1 b2
    ·rintro e h2 ⟨tv,tl,oR,ot,hxr,Sr,PE,e3,e4,e5,e6,qt,rD,UL⟩ K3 BY;have hib:i<100:=by omega
     rw [F.bI.Ou];simp only [rD,UL,aO,aR];rw [BY,F.bI.HN];simp only [aO,reduceEqDiff,reduceIte,qt,aE (i:=i) (n:=100) hib (by unfold cw;omega)];obtain ⟨x,RK,aaS⟩:=(kX.y9 ot mG).data;have BV:x.l=tl:=by rw [RK,List.map_map];simp [Function.comp_def]
     refine qj _ _ ⟨l.set i ((nm,(ke rules.l nm:Int),tv),⟨nm,(ke rules.l nm:Int),x⟩),⟨by rw [map_set];exact oR,fun p hp g hgg=>?_,fun _ _ h=>h⟩,?_,fun q r hq hr=>?_,fun b b1 b2=>?_,by omega,e3,e4,e5,e6,rfl⟩
     ·rcases mem_or_eq_of_mem_set hp with hp|rfl
      ·exact oF.Ad p hp g fun b b1 b2 b3 b4=>by rw [hgg b b1 (by omega) b3 b4,Sr b b2 b4]
      ·exact MS (aaS g fun b b1 b2 b3=>hgg b (by omega) b2 b3 (fun hb=>by have:=rO b hb;omega))
     ·have hd2:(l.set i ((nm,(ke rules.l nm:Int),tv),(⟨nm,(ke rules.l nm:Int),x⟩:Rel))).map (fun p=>bp p.2)=(l.map fun p=>bp p.2).set i (nm,(ke rules.l nm:Int),uL n Fk nm (ke rules.l nm) (n ^ ke rules.l nm)):=by
       rw [map_set];congr 1;simp only [bp,BV,hxr,jS]
      rw [hd2,hld]
      have hdr:(cZ rules.l).drop (i-s.aA.l.length)=nm :: (cZ rules.l).drop (i-s.aA.l.length+1):=by
       rw [drop_eq_getElem_cons jM];rw [jQ jM] at hv;rw [Option.some.inj hv]
      have htk:(cZ rules.l).take (i-s.aA.l.length+1)=(cZ rules.l).take (i-s.aA.l.length)++[nm]:=by rw [take_add_one,hv];rfl
      have hlA:(s.aA.l.map bp++qd rules.l n Fk ((cZ rules.l).take (i-s.aA.l.length))).length=i:=by
       unfold qd;rw [length_append,length_map,length_map,length_take];omega
      have hcs:gK rules.l (nm :: (cZ rules.l).drop (i-s.aA.l.length+1))=(nm,(ke rules.l nm:Int),[]) :: gK rules.l ((cZ rules.l).drop (i-s.aA.l.length+1)):=rfl;have hap:qd rules.l n Fk ((cZ rules.l).take (i-s.aA.l.length)++[nm])=qd rules.l n Fk ((cZ rules.l).take (i-s.aA.l.length))++[(nm,(ke rules.l nm:Int),uL n Fk nm (ke rules.l nm) (n ^ ke rules.l nm))]:=by unfold qd;rw [map_append];rfl
      have Nu:=abk (s.aA.l.map bp++qd rules.l n Fk ((cZ rules.l).take (i-s.aA.l.length))) (gK rules.l ((cZ rules.l).drop (i-s.aA.l.length+1))) (nm,(ke rules.l nm:Int),[]) (nm,(ke rules.l nm:Int),uL n Fk nm (ke rules.l nm) (n ^ ke rules.l nm));rw [hlA] at Nu;rw [show i+1-s.aA.l.length=i-s.aA.l.length+1 by omega,htk,hap,hdr,hcs,Nu];simp
     ·rw [getElem?_set,if_neg (by omega)];exact Zf q r (by omega) hr
     ·rw [Sr b (by omega) b2];exact hfr b b1 b2
   ·rintro e h' ⟨l,oF,hld,Zf,hfr,mS,e3,e4,e5,e6,qt⟩ K2 fK;have abm:bR a≠some h3.next:=fun hb=>by have:=o3.lt hb;omega
    have q5:h'.get h3.next=sC [I6 s.size,a]:=by rw [hfr _ (by omega) abm];exact r5
    have q1:h'.get 1=sC [I6 0,.ai]:=(by rw [hfr 1 (by omega) (fun hb=>by have:=o3.ge hb;omega)];exact r1);have lo:=lA q5 1 rfl;have RT:au (some 2) (.ptr h3.next 0) h'=some (.agg [I6 s.size,a]):=by rw [aj q5];rfl
    have st:aS 2 (.ptr 1 0) (.agg [I6 s.size,a]) h'=some (h'.set 1 (.cells [I6 s.size,a])):=by
     rw [cj (n:=2) (v:=.agg [I6 s.size,a]) q1 rfl tX (by simp)];rfl
    have lo3:au (some 2) (.ptr 1 0) (h'.set 1 (.cells [I6 s.size,a]))=some (.agg [I6 s.size,a]):=(by rw [aj (cs:=[I6 s.size,a]) (by rw [Heap.aG,if_pos rfl])];rfl);rw [F.bI.lD];simp only [e5,qt,aO,lo,acW,aR];rw [fK,F.bI.WY];simp only [kC,reduceEqDiff,reduceIte,e4,e5,RT,st,dr,X3,lo3,oneOf];obtain ⟨x,jM,BY⟩:=(oF.low (d:=1) (by omega) (.cells [I6 s.size,a])).fz;refine fin _ a x Fk BY QA ?_;rw [jM,List.map_map];rw [show rs'.length-s.aA.l.length=(cZ rules.l).length by omega,take_length,drop_length] at hld;rw [show (l.map (bp∘fun p=>p.2))=l.map (fun p=>bp p.2) from rfl,hld];simp [gK]
 have main:=gen (fun o h'=>yes (∃ (a:AV) (x:Sl Rel) (Fk:Lk),o = .ret (.agg [I6 s.size,a])/\Fz true h' a (qm x)/\mM rules.l n s Fk/\x.l.map bp=s.aA.l.map bp++qd rules.l n Fk (cZ rules.l))) (fun h' a x Fk hf hF hx=>bO.2 ⟨a,x,Fk,rfl,hf,hF,hx⟩);refine main.frozen (by simp [AV.cP,AV.pure,br fN,dI]) fun o h' ho=>?_;obtain ⟨a,x,Fk,rfl,hf,hF,hx⟩:=bO.1 ho;have f1:=j8.cons (.scalar (I6 s.size) rfl) (j8.cons hf j8.nil);rw [uR] at hK;exact ⟨_,_,rfl,.agg _ _ f1.len f1.rel,hK ⟨s.size,x⟩ rfl ⟨Fk,hF,hx⟩⟩
theorem Vr(t:jR):(kT t).length=3:=rfl
theorem Vs(t:jR):aW (kT t)=true:=rfl
theorem jV{s:ct}(hs:s.ok)(hv:cY s=true){h:Heap}{K:Out->Heap->Bool}(hK:∀ cs:List AV,∀ x:Sl jR,x.l=wA s->cs[2]?=some (dR kT 3 x)->K (.ret (.dL cs 0)) h=true):Sem TP 160 [.agg (ah s)] h K:=by
 obtain ⟨n,hn,n1,n2,h8⟩:=iL hv;have vE:s.size.toNat=n:=by omega
 have main:Sem TP 160 [.agg (ah s)] Heap.empty (fun o h'=>yes (∃ v cs,∃ x:Sl jR,o = .ret v/\x.l=wA s/\cs[2]?=some (dR kT 3 x)/\Fz true h' v (.dL cs 0))):=by
  have hm:cz=140737488355328:=rfl;refine F.CC ?_;rw [F.EW];have b0:(Heap.alloc Heap.empty (.cells (ah s))).get 0=sC (ah s):=ak _ _;have bn:(Heap.alloc Heap.empty (.cells (ah s))).next=1:=rfl
  simp only [cD (bU s),dr,aZ];generalize (Heap.alloc Heap.empty (.cells (ah s)))=H at b0 bn ⊢;have ls:=lA b0 0 rfl;have lr:=lA b0 1 rfl;have ha:iP [(I6 0),(I6 0),.ai,.ai,.ai,bF] [(0,1),(1,1)] [I6 s.size,I6 (s.aA.l.length:Int)]=some (.agg [I6 s.size,I6 (s.aA.l.length:Int),.ai,.ai,.ai,bF]):=rfl;simp only [aO,ls,lr,ha,cD (show aW [I6 s.size,I6 (s.aA.l.length:Int),.ai,.ai,.ai,bF]=true from rfl),bn]
  refine aB 0 s.aA.l.length (zero_le _) (fun i e h'=>∃ a,h'.get 0=sC (ah s)/\h'.get 1=sC [I6 s.size,I6 (s.aA.l.length:Int),a,.ai,.ai,bF]/\Own kT 3 2 h' a ((s.aA.l.take i).map (nR n))/\2<=h'.next/\e 1 = .ptr 0 0/\e 3 = .ptr 1 0/\e 4=I6 (i:Int))
   ⟨.ai,by rw [Heap.aN,bn,if_neg (by omega)];exact b0,by rw [<- bn];exact ak _ _,.nil,by rw [Heap.aD,bn];omega,rfl,rfl,rfl⟩ ?_ ?_
  ·rintro i e h' _ hi ⟨a,q0,q1,o,qn,e1,e3,e4⟩ K' mS hx hr hp;obtain ⟨r,VW⟩:=dM hi;have XA:r.ok:=hs.2 r (ij VW);have F9:=vt hv VW;rw [vE] at F9;obtain ⟨k,hk,Kc,Ve,Qr⟩:=wB F9;have ls:au none (.ptr 0 0) h'=some (I6 (n:Int)):=by rw [aj q0,<- hn];rfl
   have lr:=lA q0 1 rfl;have l2:=lA q1 2 rfl;have nc:aJ (.ptr 1 0)=some (.ptr 1 0):=rfl;rw [F.jV.aP];simp only [e1,e3,e4,aO,lr,ls,l2,nc,aU hi,aQ s.aA hi,vr VW,zT VW,kF VW,hk];refine af (ez n1 n2 Kc Ve XA.2.1 Qr ?_);obtain ⟨a5,h5,p5,o5,f5,n5,_,b5⟩:=o.push Vr Vs qn (bytes:=48) (by rw [hm,length_map,length_take];omega) (nR n r);have ht:nR n r=⟨r.name,k,bitsOf n k r.aM.l⟩:=by rw [nR,hk];rfl
   have aeA:eN [(.str []),(I6 0),.ai] [(0,3)] [.agg (D3 r.name k (bitsOf n k r.aM.l))]=some (kT (nR n r)):=by rw [ht];rfl
   have hne:∀ d,d<2->bR a≠some d:=fun d hd hb=>by have:=o.ge hb;omega
   have s1:h5.get 1=sC [I6 s.size,I6 (s.aA.l.length:Int),a,.ai,.ai,bF]:=by rw [f5 1 (by omega) (hne 1 (by omega))];exact q1
   have c5:=o5.ki
   have st:aS 1 (.ptr 1 2) a5 h5=some (h5.set 1 (.cells [I6 s.size,I6 (s.aA.l.length:Int),a5,.ai,.ai,bF])):=by
    rw [cj (n:=1) s1 c5.2.1 c5.1 (by simp),c5.2.2];rfl
   simp only [gz,l2,dr,AV.beq_refl,Bool.and_self,if_true,aeA,p5,gO,st,aE hi hs.1];refine mS _ _ ⟨a5,?_,?_,?_,?_,e1,e3,rfl⟩
   ·rw [Heap.aG,if_neg (by omega),f5 0 (by omega) (hne 0 (by omega))];exact q0
   ·rw [Heap.aG,if_pos rfl]
   ·rw [take_add_one,VW,map_append];exact o5.mK (by omega) _
   ·rw [Heap.aT];omega
  ·rintro e h' ⟨a,q0,q1,o,qn,e1,e3,e4⟩ K' hx;have lr:=lA q0 1 rfl;rw [F.jV.aP];simp only [e1,e4,aO,lr,aR];rw [hx,F.jV.aC];simp only [kC,reduceEqDiff,reduceIte,e3];rw [jD (dK _)] at o
   obtain ⟨x,jM,fK⟩:=o.J7 (fun v y hy=>by
    simp only [kT,D3,mem_cons,not_mem_nil,_root_.or_false] at hy;rcases hy with rfl|rfl|rfl
    ·exact .scalar _ rfl
    ·exact .scalar _ rfl
    ·exact .de (br KJ _))
   have fz:=j8.cons (.scalar (I6 s.size) rfl) (j8.cons (.scalar (I6 (s.aA.l.length:Int)) rfl) (j8.cons fK (j8.cons (.scalar .ai rfl) (j8.cons (.scalar .ai rfl) (j8.cons (.scalar bF rfl) j8.nil)))));exact bO.2 ⟨_,_,x,rfl,by rw [jM,wA,vE],rfl,.ptr 1 0 _ _ q1 fz.len fz.rel⟩
 refine main.frozen (by simp [AV.cP,AV.pure,dI]) fun o h' ho=>?_;obtain ⟨v,cs,x,rfl,hx,hc,hf⟩:=bO.1 ho;exact ⟨v,_,rfl,hf,hK cs x hx hc⟩
theorem Na(hs:s.ok)(hv:cY s=true)(hK:∀ x:Sl jR,x.l=wA s->K (.ret (dR kT 3 x)) h=true):Sem TP 122 [.agg (ah s)] h K:=by
 have main:Sem TP 122 [.agg (ah s)] Heap.empty (fun o h'=>yes (∃ x:Sl jR,o = .ret (dR kT 3 x)/\x.l=wA s)):=by
  refine F.vh ?_;rw [F.wQ];simp only [cD (bU s),dr,aj (ak _ _),jZ (cs:=ah s) (n:=2) rfl];refine af (jV hs hv fun cs x hx hc=>?_);simp only [gz,show aJ (.dL cs 0)=some (.dL cs 0) from rfl,dr,Td,Nat.zero_add,Uu,hc];exact bO.2 ⟨x,rfl,hx⟩
 refine main.frozen (by simp [AV.cP,AV.pure,dI]) fun o h' ho=>?_;obtain ⟨x,rfl,hx⟩:=bO.1 ho;exact ⟨_,_,rfl,.de (br IZ x),hK x hx⟩
theorem PF:eN [.ai] [(0,1)] [.ai]=some [.ai]:=rfl
theorem z7:∀ {a b:List Int},a.length=b.length->dA a b=false->a≠b->dA b a=true
 |[],[],_,_,h=>absurd rfl h
 |x :: a,y :: b,hl,h1,h2=>by
  rw [dA] at h1 ⊢;by_cases e:x=y
  ·subst e;rw [if_pos rfl] at h1 ⊢;exact z7 (by simpa using hl) h1 (fun h=>h2 (by rw [h]))
  ·rw [if_neg e] at h1;rw [if_neg (Ne.symm e)];have:=of_decide_eq_false h1;exact fh (by omega)
 |[],_ :: _,hl,_,_=>by simp at hl
 |_ :: _,[],hl,_,_=>by simp at hl
theorem I5{l:List (List Int)}(hs:ji l){k:Nat}{x:List Int}(h1:∀ y ∈ l.drop k,dA x y=true)(h2:∀ y ∈ l.take k,dA y x=true):ji (l.take k++x :: l.drop k):=by
 have iZ:ji (l.take k++l.drop k):=by rw [take_append_drop];exact hs
 obtain ⟨p1,p2,p3⟩:=pairwise_append.1 iZ;refine pairwise_append.2 ⟨p1,pairwise_cons.2 ⟨h1,p2⟩,fun a ha b hb=>?_⟩;rcases mem_cons.1 hb with rfl|hb
 ·exact h2 a ha
 ·exact p3 a ha b hb
theorem Ss{l:List (List Int)}(hs:ji l){k:Nat}{x y:List Int}(hy:l[k]?=some y)(h:dA y x=true):∀ z ∈ l.take (k+1),dA z x=true:=by
 intro z hz;rw [take_add_one,hy] at hz;rcases mem_append.1 hz with hz|hz
 ·have hk:=(lR.1 hy).1;have iZ:ji (l.take k++l.drop k):=by rw [take_append_drop];exact hs
  have:=(pairwise_append.1 iZ).2.2 z hz y (by
   rw [drop_eq_getElem_cons hk];rw [jQ hk] at hy;cases hy
   exact mem_cons_self)
  exact lQ this h
 ·simp at hz;subst hz;exact h
theorem TL:∀ (new cs:List AV) (off:Nat),off+new.length<=cs.length->eW cs off new=cs.take off++new++cs.drop (off+new.length)
 |[],cs,off,_=>by simp [eW]
 |v :: vs,cs,off,h=>by
  simp only [length_cons] at h;rw [eW,TL vs _ _ (by simp;omega)]
  have h1:(cs.set off v).take (off+1)=cs.take off++[v]:=by
   rw [take_add_one,getElem?_set_self (by omega),take_set_of_le (dK _)];rfl
  have h2:(cs.set off v).drop (off+1+vs.length)=cs.drop (off+(v :: vs).length):=by
   rw [drop_set_of_lt (by omega)];congr 1;simp;omega
  rw [h1,h2];simp
def kO(p:PB):AV:=.slice p.1 0 p.2.length 1
theorem Su:∀ ps:List PB,ps.flatMap BE=ps.map kO
 |[]=>rfl
 |p :: ps=>by rw [flatMap_cons,Su ps];rfl
theorem PG:∀ ps:List PB,aW (ps.map kO)=true
 |[]=>rfl
 |p :: ps=>by rw [map_cons,aW,PG ps];rfl
theorem X6{k:Nat}{ps:List PB}(n:uF k h a ps)(hroom:ps.length<=1000000) :
  ∃ h',bB 1 24 a (.slice h.next 0 1 1) (h.alloc (.cells [.ai]))=some (.slice (h.next+1) 0 (ps.length+1) 1,h')/\h'.get (h.next+1)=sC (ps.map kO++[.ai])/\h'.next=h.next+2/\∀ c,c<h.next->bR a≠some c->h'.get c=h.get c:=by
 have hm:cz=140737488355328:=rfl;have g:(h.alloc (.cells [.ai])).get h.next=sC [.ai]:=ak _ _
 have hf:gW 1 1 (.slice h.next 0 1 1) (h.alloc (.cells [.ai]))=some [.ai]:=by simp [gW,g]
 obtain ⟨o,_⟩:=n
 cases o with
 |nil=>
  refine ⟨(h.alloc (.cells [.ai])).alloc (.cells [.ai]),?_,?_,rfl,fun c hc _=>?_⟩
  ·simp only [bB,lJ,hf];rw [if_neg (by decide),if_pos (by simp [aW,AV.one];omega)];rfl
  ·have:=ak (h.alloc (.cells [.ai])) (.cells [.ai])
   rwa [Heap.aD] at this
  ·rw [Heap.aN,Heap.aD,if_neg (by omega),Heap.aN,if_neg (by omega)]
 |row b ps h1 h2 h3=>
  rw [Su] at h3;have g2:(h.alloc (.cells [.ai])).get b=sC (ps.map kO):=by rw [Heap.aN,if_neg (by omega)];exact h3
  refine ⟨((h.alloc (.cells [.ai])).set b .dead).alloc (.cells (ps.map kO++[.ai])),?_,?_,?_,fun c hc hb=>?_⟩
  ·simp only [bB,lJ,hf,if_true,g2];rw [if_neg (by decide),if_pos (by simp [aW,AV.one];omega)];simp only [Heap.aD,drop_zero,Nat.mul_one];rw [jD (by simp)]
  ·have:=ak ((h.alloc (.cells [.ai])).set b .dead) (.cells (ps.map kO++[.ai]))
   rwa [Heap.aT,Heap.aD] at this
  ·rw [Heap.aD,Heap.aT,Heap.aD]
  ·rw [Heap.aN,Heap.aT,Heap.aD,if_neg (by omega),Heap.aG,if_neg (fun e=>hb (by rw [e];rfl)),Heap.aN,if_neg (by omega)]
theorem Vt{ps:List PB}(n:uF k0 h a ps)(hk0:k0<=h.next)(hroom:ps.length<=1000000){k:Nat}(hk:k<=ps.length)(t:Sl Int)(ht:t.l.length<=1000000) :
  ∃ x22 h23 x25 x26 x27 h28 x32 h33 W3 h35 p,bB 1 24 a (.slice h.next 0 1 1) (h.alloc (.cells [.ai]))=some (x22,h23) /\
   (∀ q:IntKind,fR (some 1) x22 (some (.int q ((k+1:Nat):Int))) none=some x25)/\(∀ q:IntKind,fR (some 1) x22 (some (.int q (k:Int))) none=some x26)/\Ew 1 x25 x26 h23=some (x27,h28) /\
   bB 1 8 (.slice h28.next 0 0 1) (dH t) (h28.alloc (.cells []))=some (x32,h33)/\(∀ q:IntKind,jw 1 x22 (.int q (k:Int))=some W3)/\aS 1 W3 x32 h33=some h35/\p.2=t.l/\uF k0 h35 x22 (ps.take k++p :: ps.drop k)/\k0<=h35.next:=by
 obtain ⟨h1,a1,g1,n1,f1⟩:=X6 n hroom;have Ql:(ps.map kO++[AV.ai]).length=ps.length+1:=by simp
 have BB:∀ q:IntKind,fR (some 1) (.slice (h.next+1) 0 (ps.length+1) 1) (some (.int q ((k+1:Nat):Int))) none=some (.slice (h.next+1) (k+1) (ps.length-k) 1):=fun q=>by
  have hh:((k+1:Nat):Int).toNat=k+1:=rfl;simp only [fR,lJ,pH,asNat];rw [if_pos (by omega)];simp only [hh];rw [if_pos (by simp;omega)];simp
 have se:∀ q:IntKind,fR (some 1) (.slice (h.next+1) 0 (ps.length+1) 1) (some (.int q (k:Int))) none=some (.slice (h.next+1) k (ps.length+1-k) 1):=fun q=>by
  simp only [fR,lJ,pH,asNat];rw [if_pos (by omega)];simp only [Int.toNat_natCast];rw [if_pos (by simp;omega)];simp
 have atl:Nat.min (ps.length-k) (ps.length+1-k)=ps.length-k:=Nat.min_eq_left (by omega);have ajQ:Nat.min (ps.length+1-k) (ps.length-k)=ps.length-k:=Nat.min_eq_right (by omega)
 have rY:((ps.map kO++[AV.ai]).drop k).take (ps.length-k)=(ps.drop k).map kO:=by
  rw [drop_append_of_le_length (by simp;omega),take_append_of_le_length (by simp),<- map_drop,jD (by simp)]
 have yg:eW (ps.map kO++[AV.ai]) (k+1) ((ps.drop k).map kO)=(ps.map kO++[AV.ai]).take (k+1)++(ps.drop k).map kO:=by
  have hl:(k+1)+((ps.drop k).map kO).length<=(ps.map kO++[AV.ai]).length:=by simp;omega
  have hd:(ps.map kO++[AV.ai]).drop (k+1+((ps.drop k).map kO).length) = []:=drop_of_length_le (by simp;omega);rw [TL _ _ _ hl,hd,append_nil]
 have hcp:Ew 1 (.slice (h.next+1) (k+1) (ps.length-k) 1) (.slice (h.next+1) k (ps.length+1-k) 1) h1=some (I6 ((ps.length-k:Nat):Int),h1.set (h.next+1) (.cells ((ps.map kO++[AV.ai]).take (k+1)++(ps.drop k).map kO))):=by
  have X7:gW 1 (ps.length-k) (.slice (h.next+1) k (ps.length+1-k) 1) h1=some ((ps.drop k).map kO):=by
   simp only [gW,g1,if_true,Nat.mul_one];rw [if_pos (by simp;omega),rY]
  simp only [Ew,lJ,if_true,ajQ,X7,g1];rw [if_pos (by rw [and_eq_true,and_eq_true];exact ⟨⟨PG _,fh (by rw [Ql];omega)⟩,fh (by simp)⟩),yg]
 have hx:∀ c,c<h.next->bR a≠some c->(h1.set (h.next+1) (.cells ((ps.map kO++[AV.ai]).take (k+1)++(ps.drop k).map kO))).get c=h.get c:=fun c hc hb=>by rw [Heap.aG,if_neg (by omega)];exact f1 c hc hb
 have g2:(h1.set (h.next+1) (.cells ((ps.map kO++[AV.ai]).take (k+1)++(ps.drop k).map kO))).get (h.next+1)=sC ((ps.map kO++[AV.ai]).take (k+1)++(ps.drop k).map kO):=by rw [Heap.aG,if_pos rfl]
 have n2:(h1.set (h.next+1) (.cells ((ps.map kO++[AV.ai]).take (k+1)++(ps.drop k).map kO))).next=h.next+2:=by rw [Heap.aT];exact n1
 generalize (h1.set (h.next+1) (.cells ((ps.map kO++[AV.ai]).take (k+1)++(ps.drop k).map kO)))=h2 at hcp hx g2 n2;obtain ⟨b,h3,a3,g3,x3,l3,m3⟩:=vu (wk pL t (h2.alloc (.cells []))) ht;have g4:h3.get (h.next+1)=sC ((ps.map kO++[AV.ai]).take (k+1)++(ps.drop k).map kO):=x3.at g2 (by omega)
 have mu:((ps.map kO++[AV.ai]).take (k+1)++(ps.drop k).map kO).set k (.slice b 0 t.l.length 1)=(ps.take k++(b,t.l) :: ps.drop k).map kO:=by
  have hlt:((ps.map kO++[AV.ai]).take (k+1)).length=k+1:=by simp;omega
  have h5:(ps.map kO++[AV.ai]).take (k+1)=(ps.take k).map kO++[((ps.map kO++[AV.ai]).getD k AV.ai)]:=by
   rw [take_add_one,take_append_of_le_length (by simp;omega),map_take];congr 1;rw [getD_eq_getElem?_getD,jQ (by simp;omega)];rfl
  rw [h5,append_assoc,set_append_right _ _ (by simp;omega)];have:k-((ps.take k).map kO).length=0:=by simp;omega
  rw [this];simp [kO]
 have jL:aS 1 (.ptr (h.next+1) (0+k*1)) (.slice b 0 t.l.length 1) h3=some (h3.set (h.next+1) (.cells ((ps.take k++(b,t.l) :: ps.drop k).map kO))):=by
  rw [cj (n:=1) g4 rfl rfl (by simp;omega),Nat.zero_add,Nat.mul_one,<- mu];rfl
 refine ⟨_,_,_,_,_,_,_,_,_,_,(b,t.l),a1,BB,se,hcp,a3,fun q=>?_,jL,rfl,⟨?_,fun p hp=>?_⟩,by rw [Heap.aT];have:=x3.next;omega⟩
 ·simp only [jw,asNat];rw [if_pos (by omega)];simp only [Int.toNat_natCast];rw [if_pos (by simp;omega)]
 ·have hlen:(ps.take k++(b,t.l) :: ps.drop k).length=ps.length+1:=by simp;omega
  have:=Own.row (enc:=BE) (sz:=1) (k:=k0) (h:=h3.set (h.next+1) (.cells ((ps.take k++(b,t.l) :: ps.drop k).map kO))) (h.next+1) (ps.take k++(b,t.l) :: ps.drop k) (by omega) (by rw [Heap.aT];have:=x3.next;omega) (by rw [Heap.aG,if_pos rfl,Su])
  rwa [hlen] at this
 ·have hq:(p ∈ ps)\/p=(b,t.l):=by
   rcases mem_append.1 hp with h5|h5
   ·exact .inl (mem_of_mem_take h5)
   ·rcases mem_cons.1 h5 with h5|h5
    ·exact .inr h5
    ·exact .inl (mem_of_mem_drop h5)
  rcases hq with hq|rfl
  ·obtain ⟨c1,c2,c3,c4⟩:=n.cell p hq;exact ⟨c1,by rw [Heap.aT];have:=x3.next;omega,by simp only [bR,ne_eq,Option.some.injEq];omega,by rw [Heap.aG,if_neg (by omega),x3.get _ (by omega),hx _ c2 c3];exact c4⟩
  ·exact ⟨by show k0<=b;omega,by rw [Heap.aT];exact m3,by simp only [bR,ne_eq,Option.some.injEq];omega,by rw [Heap.aG,if_neg (by show b≠_;omega)];exact g3⟩
theorem TM{l:List α}{k:Nat}{x u:α}:u ∈ l.take k++x :: l.drop k↔u ∈ l\/u=x:=by
 have:u ∈ l↔u ∈ l.take k\/u ∈ l.drop k:=by rw [<- mem_append,take_append_drop]
 rw [mem_append,mem_cons,this];constructor
 ·rintro (h|h|h)
  ·exact .inl (.inl h)
  ·exact .inr h
  ·exact .inl (.inr h)
 ·rintro ((h|h)|h)
  ·exact .inl h
  ·exact .inr (.inr h)
  ·exact .inr (.inl h)
theorem cV{x:Sl (Sl Int)}{m:Nat}(hx:x.l.length<=100000)(ht:∀ t ∈ x.l,t.l.length=m)(hm:m<=1000000) :
  Sem TP 163 [kM x] Heap.empty (fun o h'=>yes (∃ v,∃ y:Sl (Sl Int),o = .ret v/\ji (y.l.map Sl.l)/\(∀ u,u ∈ y.l.map Sl.l↔u ∈ x.l.map Sl.l)/\Fz false h' v (kM y))):=by
 have hbig:x.l.length<=cw:=by unfold cw;omega
 refine F.DJ ?_;rw [F.FH];refine aB 0 x.l.length (zero_le _) (fun i e h'=>∃ a ps,uF 0 h' a ps/\ji (ps.map (·.2))/\(∀ u,u ∈ ps.map (·.2)↔u ∈ (x.l.take i).map Sl.l)/\ps.length<=i/\e 0=kM x/\e 3=a/\e 4=I6 (i:Int)) ⟨_,_,.nil _ _,List.Pairwise.nil,fun u=>Iff.rfl,dK _,rfl,rfl,rfl⟩ ?_ ?_
 ·rintro i e h' _ hi ⟨a,ps,MQ,Uk,Bi,sF,e0,e3,e4⟩ K' hn gl hr hp;obtain ⟨t,hv⟩:=dM hi;have qv:=ht t (ij hv)
  have Jo:∀ p ∈ ps,p.2.length=m:=fun p hp=>by
   have:=(Bi p.2).1 (List.mem_map_of_mem hp);obtain ⟨u,hu,hue⟩:=mem_map.1 this;rw [<- hue];exact ht u (mem_of_mem_take hu)
  have gw:∀ u,u ∈ (x.l.take (i+1)).map Sl.l↔u ∈ (x.l.take i).map Sl.l\/u=t.l:=fun u=>by
   rw [take_add_one,hv,map_append,mem_append];simp
  have done:∀ k,k<=ps.length->(∀ y ∈ (ps.map (·.2)).drop k,dA t.l y=true)->(∀ y ∈ (ps.map (·.2)).take k,dA y t.l=true)->∀ p:PB,p.2=t.l->ji ((ps.take k++p :: ps.drop k).map (·.2))/\(∀ u,u ∈ (ps.take k++p :: ps.drop k).map (·.2)↔u ∈ (x.l.take (i+1)).map Sl.l)/\(ps.take k++p :: ps.drop k).length<=i+1:=by
   intro k hk h1 h2 p Ay;have he:(ps.take k++p :: ps.drop k).map (·.2)=(ps.map (·.2)).take k++t.l :: (ps.map (·.2)).drop k:=by rw [map_append,map_cons,Ay,map_take,map_drop]
   rw [he];refine ⟨I5 Uk h1 h2,fun u=>?_,by simp;omega⟩;rw [TM,gw,Bi]
  rw [F.cV.aP];simp only [e0,e3,e4,MQ.own.len,aO,aU hi];refine jU (fun k e h2=>h2=h'/\k<=ps.length/\(∀ y ∈ (ps.map (·.2)).drop k,dA t.l y=true)/\e 0=kM x/\e 3=a/\e 4=I6 (i:Int)/\e 5=I6 (k:Int)) ps.length ⟨rfl,dK _,fun y hy=>(by rw [drop_of_length_le (by simp)] at hy;cases hy),e0,e3,e4,rfl⟩ ?_;rintro k e h2 ⟨rfl,hk,hdr,e0,e3,e4,e5⟩;obtain ⟨x22,h23,x25,x26,x27,h28,x32,h33,W3,h35,p,c1,c2,c3,c4,c5,c6,c7,c8,c9,_⟩:=Vt MQ (zero_le _) (by omega) hk t (by omega);have hk1:aF .add (I6 (k:Int)) (I6 1)=some (I6 ((k+1:Nat):Int)):=aE (show k<k+1 by omega) (show k+1<=cw by unfold cw;omega);rw [F.cV.cU]
  cases k with
  |zero=>
   simp only [e5,vR,dr,cu,show decide ((0:Int)<((0:Nat):Int))=false from rfl,aK,lZ];rw [F.cV.cm];simp only [kC,reduceEqDiff,reduceIte,e0,e3,e4,e5,vR,dr,cu,show decide ((0:Int)<((0:Nat):Int))=false from rfl,aK,PF,c1,gO,hk1,c2,c3,c4,sO,aQ x hi,eY hv,c5,c6,c7,aE hi hbig];obtain ⟨d1,d2,d3⟩:=done 0 hk hdr (fun y hy=>(by rw [take_zero] at hy;cases hy)) p c8;exact hn _ _ ⟨_,_,c9,d1,d2,d3,e0,rfl,rfl⟩
  |succ k=>
   have hk':k<ps.length:=by omega
   have VV:ps[k]?=some ps[k]:=jQ hk';generalize hq:ps[k]=q at VV;have ajR:(ps.map (·.2))[k]?=some q.2:=by rw [getElem?_map,VV];rfl
   have hqm:=Jo q (ij VV);obtain ⟨b,b1,_,b3⟩:=MQ.at_ VV;obtain ⟨_,_,_,q4⟩:=MQ.cell q (ij VV)
   have BI:aF .sub (I6 ((k+1:Nat):Int)) (I6 1)=some (I6 (k:Int)):=by
    rw [uf (by omega) (by omega)];congr 2;omega
   have AE:decide ((0:Int)<((k+1:Nat):Int))=true:=fh (by omega);simp only [e0,e3,e4,e5,vR,dr,cu,AE,aL,aQ x hi,eY hv,BI,b1,b3 h2 (aV.refl _)];refine af (Sem.OK (r:=.bool (dA t.l q.2)) rfl (gI (x:=t) (y:=some q.2) (by unfold cw;omega) (by simp only [Sl.Dt];omega) (eB rfl)) (.cons (.de (br iE t)) (.cons (pT q4) .nil)) ?_);simp only [gz,cu]
   cases hl:dA t.l q.2 with
   |true=>
    simp only [aL];refine bO.2 ⟨k,by omega,rfl,rfl,⟨rfl,by omega,fun y hy=>?_,e0,e3,e4,rfl⟩⟩;rw [drop_eq_getElem_cons (by simp;omega)] at hy;rcases mem_cons.1 hy with rfl|hy
    ·simp only [getElem_map,hq];exact hl
    ·exact hdr y hy
   |false=>
    simp only [aK,lZ];rw [F.cV.cm];simp only [kC,reduceEqDiff,reduceIte,e0,e3,e4,e5,vR,dr,cu,AE,aL,aQ x hi,eY hv,BI,b1,b3 h2 (aV.refl _)];refine af (Sem.OK (r:=.bool (q.2==t.l)) rfl (ew (x:=some q.2) (y:=t) (by simp only [Sl.Dt];unfold cw;omega) (eB rfl)) (.cons (pT q4) (.cons (.de (br iE t)) .nil)) ?_);simp only [gz,cu]
    cases he:q.2==t.l with
    |true=>
     simp only [aL,aE hi hbig,dr];refine hn _ _ ⟨a,ps,MQ,Uk,fun u=>?_,by omega,e0,e3,rfl⟩;rw [gw,Bi];refine ⟨.inl,fun h=>h.elim id fun h=>?_⟩;subst h;rw [<- Bi,<- (eq_of_beq he:q.2=t.l)];exact ij ajR
    |false=>
     simp only [dr,aK,PF,c1,gO,hk1,c2,c3,c4,sO,c5,c6,c7,aE hi hbig];have hne:t.l≠q.2:=fun h=>by rw [h] at he;simp at he
     have hlt:dA q.2 t.l=true:=z7 (by omega) hl hne;obtain ⟨d1,d2,d3⟩:=done (k+1) hk hdr (Ss Uk ajR hlt) p c8;exact hn _ _ ⟨_,_,c9,d1,d2,d3,e0,rfl,rfl⟩
 ·rintro e h' ⟨a,ps,MQ,Uk,Bi,sF,e0,e3,e4⟩ K' gl;rw [F.cV.aP];simp only [e0,e4,aO,aR];rw [gl,F.cV.aC];simp only [kC,reduceEqDiff,reduceIte,e3];obtain ⟨y,VX,XC⟩:=MQ.Ad (jm:=false);refine bO.2 ⟨a,y,rfl,by rw [VX];exact Uk,fun u=>?_,XC⟩;rw [VX,Bi,jD (dK _)]
theorem zi{x:Sl (Sl Int)}{m:Nat}(ha:Fz true h a (kM x))(hx:x.l.length<=100000)(ht:∀ t ∈ x.l,t.l.length=m)(hm:m<=1000000)
  (hK:∀ y:Sl (Sl Int),ji (y.l.map Sl.l)->(∀ u,u ∈ y.l.map Sl.l↔u ∈ x.l.map Sl.l)->K (.ret (kM y)) h=true):Sem TP 163 [a] h K:=
 (cV hx ht hm).Ut (.cons ha .nil) fun o h' ho=>by
  obtain ⟨v,y,rfl,h1,h2,h3⟩:=bO.1 ho;exact ⟨v,_,rfl,h3,hK y h1 h2⟩
theorem TN(s:St):dz TP s Tryz.f126.results.toList=(match au (some 2) (s.env 8) s.h,(some []:Option (List AV)) with|some v,some vs=>some (v :: vs)|_,_=>none):=by kernel_rfl
theorem Lu{α:Type}{enc:α->List AV}{sz:Nat}(he:∀ a,(enc a).length=sz):∀ {l:List α} {i m:Nat} {a a':α} {v:AV},l[i]?=some a->m<sz->enc a'=(enc a).set m v->(l.flatMap enc).set (i*sz+m) v=(l.set i a').flatMap enc
 |[],i,m,a,a',v,h,_,_=>by simp at h
 |b :: l,0,m,a,a',v,h,hm,hv=>by
  simp at h;subst h;rw [flatMap_cons,Nat.zero_mul,Nat.zero_add,set_append_left _ _ (by rw [he];exact hm),<- hv];rfl
 |b :: l,i+1,m,a,a',v,h,hm,hv=>by
  rw [flatMap_cons,set_append_right _ _ (by rw [he,succ_mul];omega),he];have:(i+1)*sz+m-sz=i*sz+m:=by rw [succ_mul];omega
  rw [this,Lu he (l:=l) (a':=a') (by simpa using h) hm hv];rfl
theorem Own.store{enc:α->List AV}{k:Nat}{l:List α}(o:Own enc sz k h a l)(he:∀ x,(enc x).length=sz){m:Nat}{x x':α}{v:AV}(hx:l[i]?=some x)(hm:m<sz)(hv:enc x'=(enc x).set m v)(h1:v.dX = [v])(h2:aW [v]=true) :
  ∃ b h',(∀ q:IntKind,jw sz a (.int q (i:Int))=some (.ptr b (i*sz)))/\aS 1 (.ptr b (i*sz+m)) v h=some h'/\Own enc sz k h' a (l.set i x')/\h'.next=h.next/\k<=b/\∀ c,c≠b->h'.get c=h.get c:=by
 cases o with
 |nil=>simp at hx
 |row b l g1 g2 g3=>
  have hi:=(lR.1 hx).1;have hlen:(l.flatMap enc).length=l.length*sz:=eS he l
  have hle:i*sz+m+1<=(l.flatMap enc).length:=by
   rw [hlen];have:(i+1)*sz<=l.length*sz:=mul_le_mul_right sz hi;rw [succ_mul] at this;omega
  refine ⟨b,h.set b (.cells ((l.set i x').flatMap enc)),fun q=>by simp [jw,asNat,hi],?_,?_,Heap.aT _ _ _,g1,fun c hc=>by rw [Heap.aG,if_neg hc]⟩
  ·rw [cj (n:=1) g3 (by rw [h1];rfl) (by rw [h1];exact h2) hle,h1,<- Lu he hx hm hv];rfl
  ·have:=Own.row (enc:=enc) (sz:=sz) (k:=k) (h:=h.set b (.cells ((l.set i x').flatMap enc))) b (l.set i x') g1 (by rw [Heap.aT];exact g2) (by rw [Heap.aG,if_pos rfl])
   rwa [length_set] at this
structure mN (s:ct) (j:Nat) (r:Rel) (t:List Int) (is:Bool) (s':ct):Prop where
 size:s'.size=s.size
 aA:∃ ts,ji ts/\(∀ u,u ∈ ts↔(u ∈ r.aM.l.map Sl.l/\u≠t)\/(is=true/\u=t))/\s'.aA.l.map bp=(s.aA.l.map bp).set j (r.name,r.arity,ts)
theorem kj{s:ct}{nm:cc}{j:Nat}{r:Rel}{t:Sl Int}{is:Bool}(mP:s.ok)(hs:s.small)(hj:jh (dN nm) s.aA.l=(j:Int))(hr:s.aA.l[j]?=some r)(hlen:∀ u ∈ r.aM.l,u.l.length=t.l.length)(ht:t.l.length<=1000)
  {h:Heap} {K:Out->Heap->Bool} (hK:∀ s',mN s j r t.l is s'->K (.ret (.agg (ah s'))) h=true):Sem TP 126 [.agg (ah s),.str nm,dH t,.bool is] h K:=by
 have hm:cz=140737488355328:=rfl;have kW:=ij hr;have hrt:=hs.CV r kW;have L9:j<s.aA.l.length:=(lR.1 hr).1
 have main:Sem TP 126 [.agg (ah s),.str nm,dH t,.bool is] Heap.empty (fun o h'=>yes (∃ v s',o = .ret v/\mN s j r t.l is s'/\Fz true h' v (.agg (ah s')))):=by
  refine F.JM ?_;rw [F.Mr];simp only [cD (bU s),dr,Heap.aD,aZ];have g0:(Heap.alloc (Heap.alloc Heap.empty (.cells (ah s))) (.cells [I6 0,.ai])).get 0=sC (ah s):=by simp [Heap.aN,aZ]
  have g1:(Heap.alloc (Heap.alloc Heap.empty (.cells (ah s))) (.cells [I6 0,.ai])).get 1=sC [I6 0,.ai]:=by simp [Heap.aN,aZ]
  have gn:(Heap.alloc (Heap.alloc Heap.empty (.cells (ah s))) (.cells [I6 0,.ai])).next=2:=rfl
  generalize (Heap.alloc (Heap.alloc Heap.empty (.cells (ah s))) (.cells [I6 0,.ai]))=H1 at g0 g1 gn ⊢;have l0:=eM g0;simp only [l0,dr];refine af (jf hs fun a h3 rs BY o tO=>?_);have hrl:rs.length=s.aA.l.length:=by have:=congrArg List.length tO;simpa using this
  have c:=o.ki
  have tX:aW [I6 s.size,a]=true:=by
   have:=c.1;rw [c.2.2] at this;simp only [aW,Bool.and_true] at this ⊢;rw [this];rfl
  obtain ⟨h6,hs6,p6,po,pn⟩:=cA (h:=h3) (zs:=[I6 0,.ai]) (cs:=[I6 s.size,a]) (n:=2) rfl rfl tX;have RP:=BY.next
  rw [gn] at RP o;have x6:aV h3 h6:=⟨by omega,fun b hb=>po b (by omega)⟩
  have q0:h6.get 0=sC (ah s):=by rw [x6.get _ (by omega),BY.get _ (by omega)];exact g0
  have q1:h6.get 1=sC [I6 0,.ai]:=by rw [x6.get _ (by omega),BY.get _ (by omega)];exact g1
  have l6:=eM q0;have o6:=o.ext x6;simp only [gz,hs6,l6,dr];refine af (fM mP ?_);simp only [gz,hj]
  refine aB 0 r.aM.l.length (zero_le _) (fun i e h'=>∃ b us,Own jl 1 h6.next h' b us/\(∀ u,u ∈ us.map Sl.l↔u ∈ (r.aM.l.take i).map Sl.l/\u≠t.l)/\us.length<=i/\aV h6 h' /\
   e 2=dH t/\e 3 = .bool is/\e 4 = .ptr 0 0/\e 8 = .ptr 1 0/\e 9 = .ptr h3.next 0/\e 10=I6 (j:Int)/\e 11=b/\e 12=I6 (i:Int))
   ⟨_,[],.nil,fun u=>by simp,dK _,aV.refl _,rfl,rfl,rfl,rfl,rfl,rfl,rfl,rfl⟩ ?_ ?_
  ·rintro i e h' _ hi ⟨b,us,ob,Qk,hul,gl,e2,e3,e4,e8,e9,iJ,l9,uq⟩ K' hn hxx Nr hp;obtain ⟨w,hv⟩:=dM hi;have lr:au none (.ptr 0 1) h'=some (qm s.aA):=by rw [aj (cs:=ah s) (by rw [gl.get _ (by omega)];exact q0)];rfl
   have gw:∀ u,u ∈ (r.aM.l.take (i+1)).map Sl.l↔u ∈ (r.aM.l.take i).map Sl.l\/u=w.l:=fun u=>by
    rw [take_add_one,hv,map_append,mem_append];simp
   rw [F.kj.aP];simp only [e2,e4,iJ,uq,aO,lr,aQ s.aA L9,kF hr,aU hi,aQ r.aM hi,eY hv];refine af (ew (by have:=hs.YL r kW w (ij hv);unfold cw;omega) ?_);simp only [aO]
   cases hq:w.l==t.l with
   |true=>
    simp only [Bool.not_true,aK,aE hi (show r.aM.l.length<=cw by unfold cw;omega),dr];refine hn _ _ ⟨b,us,ob,fun u=>?_,by omega,gl,e2,e3,e4,e8,e9,iJ,l9,rfl⟩;rw [gw,Qk];refine ⟨fun h=>⟨.inl h.1,h.2⟩,fun h=>⟨h.1.elim id fun e=>absurd (e.trans (eq_of_beq hq)) h.2,h.2⟩⟩
   |false=>
    obtain ⟨a5,h5,p5,o5,f5,n5,x5,b5⟩:=ob.push pV vw gl.next (bytes:=24) (by rw [hm];omega) w
    simp only [Bool.not_false,aL,l9,aO,lr,aQ s.aA L9,kF hr,aQ r.aM hi,eY hv,IM,p5,aE hi (show r.aM.l.length<=cw by unfold cw;omega)];refine hn _ _ ⟨a5,_,o5,fun u=>?_,by simp;omega,x5 _ gl (dK _),e2,e3,e4,e8,e9,iJ,rfl,rfl⟩;rw [map_append,mem_append,gw,Qk];have hne:w.l≠t.l:=fun e=>by rw [e] at hq;simp at hq
    constructor
    ·rintro (h|h)
     ·exact ⟨.inl h.1,h.2⟩
     ·simp at h;subst h;exact ⟨.inr rfl,hne⟩
    ·rintro ⟨h|h,h2⟩
     ·exact .inl ⟨h,h2⟩
     ·subst h;exact .inr (by simp)
  ·rintro e h' ⟨b,us,ob,Qk,hul,gl,e2,e3,e4,e8,e9,iJ,l9,uq⟩ K' hxx;have lr:au none (.ptr 0 1) h'=some (qm s.aA):=by rw [aj (cs:=ah s) (by rw [gl.get _ (by omega)];exact q0)];rfl
   rw [F.kj.aP];simp only [e4,iJ,uq,aO,lr,aQ s.aA L9,kF hr,aR];rw [hxx,F.kj.aC];rw [jD (dK _)] at Qk
   have fin:∀ (vs:List (Sl Int)) (d:AV) (hh:Heap),Own jl 1 h6.next hh d vs->aV h6 hh->(∀ u,u ∈ vs.map Sl.l↔(u ∈ r.aM.l.map Sl.l/\u≠t.l)\/(is=true/\u=t.l))->vs.length<=20000 ->
     au none (.ptr h3.next 1) hh=some a/\∃ x:Sl (Sl Int),Fz true hh d (kM x)/\x.l.length<=100000/\(∀ w ∈ x.l,w.l.length=t.l.length) /\
     ∀ y:Sl (Sl Int),ji (y.l.map Sl.l)->(∀ u,u ∈ y.l.map Sl.l↔u ∈ x.l.map Sl.l)->∃ bb UI h55,jw 3 a (I6 (j:Int))=some (.ptr bb (j*3))/\aS 1 (.ptr bb (j*3+2)) (kM y) hh=some UI/\au (some 2) (.ptr h3.next 0) UI=some (.agg [I6 s.size,a]) /\
      aS 2 (.ptr 1 0) (.agg [I6 s.size,a]) UI=some h55/\au (some 2) (.ptr 1 0) h55=some (.agg [I6 s.size,a])/\∃ s',mN s j r t.l is s'/\Fz true h55 (.agg [I6 s.size,a]) (.agg (ah s')):=by
    intro vs d hh od hxh Gv BU;have ra:hh.get h3.next=sC [I6 s.size,a]:=by rw [hxh.get _ (by omega)];exact p6
    have r1:hh.get 1=sC [I6 0,.ai]:=(by rw [hxh.get _ (by omega)];exact q1);refine ⟨by rw [aj ra];rfl,?_⟩
    obtain ⟨x,jM,fK⟩:=od.J7 (fun v y hy=>by
     simp only [jl,mem_singleton] at hy;subst hy;exact .de (br iE v))
    have ur:∀ w ∈ vs,w.l.length=t.l.length:=fun w hw=>by
     rcases (Gv w.l).1 (List.mem_map_of_mem hw) with ⟨h1,_⟩|⟨_,h1⟩
     ·obtain ⟨u,hu,he⟩:=mem_map.1 h1;rw [<- he];exact hlen u hu
     ·rw [h1]
    refine ⟨x,fK,by rw [jM];omega,by rw [jM];exact ur,fun y VX XC=>?_⟩;have oh:=o6.ext hxh;obtain ⟨rj,hrj⟩:∃ rj,rs[j]?=some rj:=⟨rs[j]'(by omega),jQ (by omega)⟩
    have hrd:bp rj=bp r:=by
     have:=congrArg (·[j]?) tO;simp only [getElem?_map,hrj,hr,map_some,Option.some.injEq] at this;exact this
    have anD:(kM y).dX = [kM y]:=(by cases y<;>rfl);have ajT:aW [kM y]=true:=by cases y<;>rfl
    obtain ⟨bb,UI,i1,i2,i3,i4,i5,i6⟩:=oh.store dY (m:=2) (x':=⟨rj.name,rj.arity,y⟩) (v:=kM y) hrj (by omega) rfl anD ajT
    have hb3:bb≠h3.next:=by
     intro hb;have hlt:∀ c,bR a=some c->c<h3.next:=fun c hc=>o.lt hc
     have YR:=i1 .i64
     cases hoo:a with
     |slice ab ao al asz=>
      rw [hoo] at YR;simp only [jw,asNat] at YR;rw [if_pos (by omega)] at YR;simp only at YR;split at YR
      ·simp only [Option.some.injEq,AV.ptr.injEq] at YR;have:=hlt _ (by rw [hoo];rfl);omega
      ·cases YR
     |_=>rw [hoo] at oh;cases oh<;>simp at hrj
    have w3:UI.get h3.next=sC [I6 s.size,a]:=by rw [i6 _ (Ne.symm hb3)];exact ra
    have w1:UI.get 1=sC [I6 0,.ai]:=(by rw [i6 _ (by omega)];exact r1);have st:aS 2 (.ptr 1 0) (.agg [I6 s.size,a]) UI=some (UI.set 1 (.cells [I6 s.size,a])):=by rw [cj (n:=2) (v:=.agg [I6 s.size,a]) w1 rfl tX (by simp)];rfl
    refine ⟨bb,UI,_,i1 _,i2,by rw [aj w3];rfl,st,by rw [aj (cs:=[I6 s.size,a]) (by rw [Heap.aG,if_pos rfl])];rfl,?_⟩;have o55:=i3.mK (d:=1) (by omega) (.cells [I6 s.size,a])
    obtain ⟨z,hz1,hz2⟩:=o55.J7 (fun v y hy=>by
     simp only [aY,mem_cons,not_mem_nil,_root_.or_false] at hy;rcases hy with rfl|rfl|rfl
     ·exact .scalar _ rfl
     ·exact .scalar _ rfl
     ·exact .de (br mG _))
    refine ⟨⟨s.size,z⟩,⟨rfl,y.l.map Sl.l,VX,fun u=>by rw [XC,jM,Gv],?_⟩,?_⟩
    ·have e1:rj.name=r.name:=congrArg (·.1) hrd;have e2:rj.arity=r.arity:=congrArg (·.2.1) hrd;rw [hz1,map_set,tO,bp,e1,e2]
    ·have:=j8.cons (.scalar (I6 s.size) rfl) (j8.cons hz2 j8.nil);exact .agg _ _ this.len this.rel
   cases is with
   |true=>
    obtain ⟨a5,h5,p5,o5,f5,n5,x5,b5⟩:=ob.push pV vw gl.next (bytes:=24) (by rw [hm];omega) t
    obtain ⟨la,x,fx,xl,xt,fy⟩:=fin (us++[t]) a5 h5 o5 (x5 _ gl (dK _)) (fun u=>by
     rw [map_append,mem_append,Qk];simp) (by simp;omega)
    simp only [kC,reduceEqDiff,reduceIte,e2,e3,e9,l9,cu,aL,IM,p5,dr,gO,Du,Nat.zero_add,la];refine af (zi fx xl xt (by omega) fun y VX XC=>?_);obtain ⟨bb,UI,h55,i1,i2,i3,i4,i5,s',iZ,hf⟩:=fy y VX XC;simp only [kC,reduceEqDiff,reduceIte,gz,la,dr,AV.beq_refl,Bool.and_self,if_true,e8,iJ,i1,Du,i2,i3,i4,TN,i5,oneOf];exact bO.2 ⟨_,s',rfl,iZ,hf⟩
   |false=>
    obtain ⟨la,x,fx,xl,xt,fy⟩:=fin us b h' ob gl (fun u=>by rw [Qk];simp) (by omega);simp only [kC,reduceEqDiff,reduceIte,e2,e3,e9,l9,cu,aK,dr,Du,Nat.zero_add,la];refine af (zi fx xl xt (by omega) fun y VX XC=>?_);obtain ⟨bb,UI,h55,i1,i2,i3,i4,i5,s',iZ,hf⟩:=fy y VX XC;simp only [kC,reduceEqDiff,reduceIte,gz,la,dr,AV.beq_refl,Bool.and_self,if_true,e8,iJ,i1,Du,i2,i3,i4,TN,i5,oneOf];exact bO.2 ⟨_,s',rfl,iZ,hf⟩
 refine main.frozen (by simp [AV.cP,AV.pure,dI,br iE]) fun o h' ho=>?_;obtain ⟨v,s',rfl,iZ,hf⟩:=bO.1 ho;exact ⟨v,_,rfl,hf,hK s' iZ⟩
def TO(n:Nat)(s:ct)(nm:cc)(r:Nat):Bool:=match s.aA.l.find? (dN nm) with
 |some q=>(nR n q).bits.getD r false
 |none=>false
theorem C0{s':ct}{r:Rel}{t:List Int}{is:Bool}(hr:s.aA.l[j]?=some r)(hp:mN s j r t is s'):(s'.aA.l.map bp).map oN=(s.aA.l.map bp).map oN:=by
 obtain ⟨ts,h1,h2,h3⟩:=hp.aA;rw [h3,map_set];apply ext_getElem?;intro i;by_cases hi:j=i
 ·subst hi;have hl:j<s.aA.l.length:=(lR.1 hr).1;rw [getElem?_set_self (by simpa using hl)];simp only [getElem?_map,hr];rfl
 ·rw [getElem?_set_ne hi]
theorem Lw{s':ct}{k:Nat}{r:Rel}{t:List Int}{is:Bool}(hv:cY s=true)(hr:s.aA.l[j]?=some r)(hk:r.arity=(k:Int))(ht:t.length=k)(hb:jN s.size.toNat t=true)(hp:mN s j r t is s'):cY s'=true:=by
 have hS:=iM.1 hv;have Sv:=C0 hr hp;obtain ⟨ts,h1,h2,h3⟩:=hp.aA;have hz:=hp.size;rw [iM];have rF:∀ l:List UP,l.map (·.1)=(l.map oN).map (·.1):=fun l=>by rw [List.map_map];rfl
 refine ⟨by rw [hz];exact hS.lo,by rw [hz];exact hS.hi,?_,fun d hd=>?_,?_⟩
 ·have:=congrArg List.length Sv;simp only [length_map] at this;have:=hS.k8;simp only [length_map] at this ⊢;omega
 ·rw [hz];rw [h3] at hd;rcases mem_or_eq_of_mem_set hd with hd|rfl
  ·exact hS.rel d hd
  ·obtain ⟨q0,k',q1,q2,q3,q4⟩:=hS.rel _ (List.mem_map_of_mem (ij hr));have q1':r.arity=(k':Int):=q1;obtain rfl:k'=k:=by omega
   refine ⟨q0,k',q1,q2,q3,fun u hu=>?_,h1⟩;rcases (h2 u).1 hu with ⟨a,_⟩|⟨_,a⟩
   ·exact q4.1 u a
   ·rw [a];exact ⟨ht,hb⟩
 ·rw [rF,Sv,<- rF];exact hS.names
theorem oI{x y:Sl Int}(hx:x.l.length<=cw)(Tn:x.l.length=y.l.length)(hK:∀ c:Int,(c<0↔dA x.l y.l=true)->(c=0↔x.l=y.l)->K (.ret (I6 c)) h=true):Sem TP 55 [dH x,dH y] h K:=by
 refine F.mw ?_;rw [F.mQ];simp only [aO];refine aB 0 x.l.length (zero_le _) (fun i e h'=>h'=h/\e 0=dH x/\e 1=dH y/\e 9=dH x/\e 10=I6 (x.l.length:Int)/\e 11=I6 (i:Int)/\dA x.l y.l=dA (x.l.drop i) (y.l.drop i)/\x.l.take i=y.l.take i) ⟨rfl,rfl,rfl,rfl,rfl,rfl,rfl,rfl⟩ ?_ ?_
 ·rintro i e h' _ hi ⟨rfl,e0,e1,e9,iJ,l9,hl,ht⟩ K' hn gl hr hp;have wO:i<y.l.length:=by omega
  have hv:x.l[i]?=some x.l[i]:=jQ hi;have hw:y.l[i]?=some y.l[i]:=jQ wO;rw [BJ hv hw] at hl;generalize x.l[i]=a at hv hl;generalize y.l[i]=b at hw hl;rw [F.bQ.aP];simp only [e1,e9,iJ,l9,aO,aU hi,aQ x hi,aQ y wO,gh hv,gh hw,eR (by omega:¬ (y.l.length:Int)<=(i:Int))];refine af (Fa fun c c1 c2=>?_);simp only [aO,cy];by_cases rO:a=b
  ·rw [if_pos rO] at hl;simp only [fh (c1.2 rO),Bool.not_true,aK,aE hi hx,dr];exact hn _ _ ⟨rfl,e0,e1,e9,iJ,rfl,hl,by rw [take_add_one,take_add_one,ht,hv,hw,rO]⟩
  ·rw [if_neg rO] at hl;simp only [eR (fun h=>rO (c1.1 h)),Bool.not_false,aL];rw [hr,F.bQ.bg];simp only [kC,reduceEqDiff,reduceIte];refine hK c ?_ ?_
   ·rw [hl,decide_eq_true_iff];exact c2
   ·exact ⟨fun h=>absurd (c1.1 h) rO,fun h=>absurd (Option.some.inj (hv.symm.trans ((congrArg (·[i]?) h).trans hw))) rO⟩
 ·rintro e h' ⟨rfl,e0,e1,e9,iJ,l9,hl,ht⟩ K' gl;rw [F.bQ.aP];simp only [iJ,l9,aO,aR];rw [gl,F.bQ.aC];simp only [e0,e1,aO,reduceEqDiff,reduceIte,eR (by omega:¬ (x.l.length:Int)<(y.l.length:Int))];rw [drop_of_length_le (dK _)] at hl;rw [jD (dK _),jD (by omega)] at ht;exact hK 0 (by rw [hl];exact ⟨fun h=>absurd h (by omega),fun h=>by cases h⟩) ⟨fun _=>ht,fun _=>rfl⟩
theorem j5:∀ t:List Int,dA t t=false
 |[]=>rfl
 |a :: t=>by rw [dA,if_pos rfl];exact j5 t
theorem TQ{a b:Nat}(h1:a+b<=4000000):aF .add (I6 (a:Int)) (I6 (b:Int))=some (I6 ((a+b:Nat):Int))/\mj (.int .u64) (I6 ((a+b:Nat):Int)) h=some (.int .u64 ((a+b:Nat):Int),h) /\
  aF .shr (.int .u64 ((a+b:Nat):Int)) (.int .u64 1)=some (.int .u64 (((a+b)/2:Nat):Int))/\mj (.int .i64) (.int .u64 (((a+b)/2:Nat):Int)) h=some (I6 (((a+b)/2:Nat):Int),h):=by
 refine ⟨?_,?_,?_,?_⟩
 ·rw [j9 (by omega) (by omega)];rfl
 ·simp only [mj];rw [IntWalk.u64_in _ (by omega)]
 ·have:(((a+b:Nat):Int)).fdiv (2 ^ 1)=(((a+b)/2:Nat):Int):=by
   rw [Int.fdiv_eq_ediv_of_nonneg _ (by omega)];rfl
  simp only [aF,GF,if_true];rw [if_neg (by omega)];exact congrArg (fun z=>some (AV.int .u64 z)) this
 ·simp only [mj];rw [IntWalk.i64_in _ (by omega)]
theorem AF{x:Sl (Sl Int)}{t:Sl Int}(hl:x.l.length<=1000000)(hk:∀ u ∈ x.l,u.l.length=t.l.length)(qv:t.l.length<=cw)(hs:ji (x.l.map Sl.l))
  (hK:∀ n:Int,K (.ret (.tuple [I6 n,.bool (decide (t.l ∈ x.l.map Sl.l))])) h=true):Sem TP 54 [kM x,dH t,.func 55 [] []] h K:=by
 have u7:∀ (a b:Nat) (u v:Sl Int),x.l[a]?=some u->x.l[b]?=some v->a<b->dA u.l v.l=true:=fun a b u v hu hv rO=>by
  have h1:=pairwise_iff_getElem.1 hs;obtain ⟨p1,q1⟩:=lR.1 hu;obtain ⟨p2,q2⟩:=lR.1 hv;have:=h1 a b (by simpa using p1) (by simpa using p2) rO
  rwa [getElem_map,getElem_map,q1,q2] at this
 refine F.gQ ?_;rw [F.g9];simp only [aO]
 refine jU (fun m e h'=>∃ i j:Nat,m=j-i/\i<=j/\j<=x.l.length/\h'=h/\(∀ a u,a<i->x.l[a]?=some u->dA u.l t.l=true)/\(∀ a u,j<=a->x.l[a]?=some u->dA u.l t.l=false)/\e 0=kM x/\e 1=dH t/\e 2 = .func 55 [] []/\e 8=I6 (x.l.length:Int)/\e 9=I6 (i:Int)/\e 10=I6 (j:Int)) x.l.length
  ⟨0,x.l.length,rfl,zero_le _,dK _,rfl,fun a u ha=>absurd ha (by omega),fun a u ha hu=>absurd (lR.1 hu).1 (by omega),rfl,rfl,rfl,rfl,rfl,rfl⟩ ?_
 rintro m e h' ⟨i,j,rfl,hij,hj,rfl,GX,Qi,e0,e1,e2,e8,e9,iJ⟩;rw [F.bl.aP];by_cases hlt:i<j
 ·obtain ⟨o1,o2,o3,o4⟩:=TQ (a:=i) (b:=j) (by omega) (h:=h');have hmi:(i+j)/2<j:=by omega
  have him:i<=(i+j)/2:=by omega
  generalize (i+j)/2=q at o3 o4 hmi him;have hq:q<x.l.length:=by omega
  obtain ⟨u,hv⟩:=dM hq;have Qx:=ij hv;simp only [e0,e1,e2,e9,iJ,aO,fh (show (i:Int)<(j:Int) by omega),o1,o2,o3,o4,aQ x hq,eY hv,iy,nil_append,append_nil];refine af (oI (by rw [hk u Qx];exact qv) (hk u Qx) fun c c1 c2=>?_);simp only [aO];by_cases hc:c<0
  ·have vA:=c1.1 hc;simp only [fh hc,aL,aE hq (show x.l.length<=cw by unfold cw;omega),dr];refine bO.2 ⟨j-(q+1),by omega,rfl,rfl,q+1,j,rfl,by omega,hj,rfl,fun a w ha hw=>?_,Qi,e0,e1,e2,e8,rfl,iJ⟩;by_cases haq:a=q
   ·subst haq;rw [hv] at hw;cases hw;exact vA
   ·exact lQ (u7 a q w u hw hv (by omega)) vA
  ·have vA:dA u.l t.l=false:=by cases hh:dA u.l t.l with|false=>rfl|true=>exact absurd (c1.2 hh) hc
   simp only [eR hc,aK];refine bO.2 ⟨q-i,by omega,rfl,rfl,i,q,rfl,him,by omega,rfl,GX,fun a w ha hw=>?_,e0,e1,e2,e8,e9,rfl⟩;by_cases haq:a=q
   ·subst haq;rw [hv] at hw;cases hw;exact vA
   ·cases hh:dA w.l t.l with
    |false=>rfl
    |true=>rw [lQ (u7 q a u w hv hw (by omega)) hh] at vA;cases vA
 ·obtain rfl:i=j:=by omega
  simp only [e9,iJ,aO,eR (show ¬ (i:Int)<(i:Int) by omega),lZ];rw [F.bl.aC];simp only [kC,reduceEqDiff,reduceIte,e0,e1,e2,e8,e9,aO,reduceEqDiff,reduceIte];by_cases hin:i<x.l.length
  ·have hv:x.l[i]?=some x.l[i]:=jQ hin;generalize x.l[i]=u at hv;have Qx:=ij hv;simp only [aU hin,aL,aQ x hin,eY hv,dr,iy,nil_append,append_nil];refine af (oI (by rw [hk u Qx];exact qv) (hk u Qx) fun c c1 c2=>?_);simp only [aO,cy]
   have:decide (c=0)=decide (t.l ∈ x.l.map Sl.l):=by
    rw [decide_eq_decide,c2,mem_map];constructor
    ·intro he;exact ⟨u,Qx,he⟩
    ·rintro ⟨w,hw,he⟩;obtain ⟨a,ha⟩:=getElem?_of_mem hw;by_cases h1:a<i
     ·have:=GX a w h1 ha;rw [he,j5] at this;cases this
     ·by_cases h2:a=i
      ·subst h2;rw [hv] at ha;cases ha;exact he
      ·have h3:=u7 i a u w hv ha (by omega);rw [he,Qi i u (dK _) hv] at h3;cases h3
   rw [this];exact hK _
  ·simp only [eR (show ¬ (i:Int)<(x.l.length:Int) by omega),aK]
   have:decide (t.l ∈ x.l.map Sl.l)=false:=by
    rw [decide_eq_false_iff_not,mem_map];rintro ⟨w,hw,he⟩;obtain ⟨a,ha⟩:=getElem?_of_mem hw;have:=GX a w (by have:=(lR.1 ha).1;omega) ha;rw [he,j5] at this;cases this
   rw [this] at hK;exact hK _
theorem Lx(hs:s.ok)(hv:cY s=true){t:Sl Int}(hj:jh (fe nm (t.l.length:Int)) s.aA.l=(j:Int))(hq:s.aA.l[j]?=some q)(Sd:q.arity=(t.l.length:Int))(qv:t.l.length<=cw)
  (hK:K (.ret (.tuple [.bool (decide (t.l ∈ q.aM.l.map Sl.l)),I6 0])) h=true):Sem TP 21 [.agg (ah s),.str nm,dH t] h K:=by
 refine Sem.data (r:=.tuple [.bool (decide (t.l ∈ q.aM.l.map Sl.l)),I6 0]) ?_ (by simp [AV.cP,AV.pure,dI,br iE]) hK;clear hK;refine F.AU ?_;rw [F.CB];simp only [cD (bU s),dr,aZ];have g0:(Heap.empty.alloc (.cells (ah s))).get 0=sC (ah s):=ak _ _;generalize (Heap.empty.alloc (.cells (ah s)))=H at g0 ⊢;have l0:=eM g0;have l1:=lA g0 1 rfl;have L9:=(lR.1 hq).1;have mZ:=(iM.1 hv).rel _ (List.mem_map_of_mem (ij hq));obtain ⟨_,k,hk1,Iy,hkp,Qr⟩:=mZ;have anE:q.arity=(k:Int):=hk1;have hkl:t.l.length=k:=by omega
 simp only [l0,dr];refine af (eF hs ?_);rw [hv];simp only [aO,Bool.not_true,l0];refine af (wz hs ?_);rw [hj];simp only [aO,eR (show ¬ (j:Int)<0 by omega),l1,aQ s.aA L9,kF hq];refine af (AF (by have:=(fO hv).1.CV q (ij hq);omega) (fun u hu=>by rw [hkl];exact (Qr.1 _ (List.mem_map_of_mem hu)).1) qv Qr.2 fun n=>?_);simp only [aO];exact eB rfl
end
end Go.AM