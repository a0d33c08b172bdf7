/- Parts of the proof. Conditions: none. -/
import Derived.Test.YtfdanacohcffmaaGreatKo19
import Derived.Test.YtfdanacohcffmaaGreatKo25
set_option linter.unusedSimpArgs false
set_option linter.unusedVariables false
namespace Go.AM
open List Nat Bool Option
open Go Go.Proofs
noncomputable section
variable {K:Out->Heap->Bool} {h:Heap} {rs:List aP} {n i k sz b ck lo v S B P M:Nat} {r:aP} {lv:eA.Lv} {s:DB×Bool} {α:Type} {es:List Entry} {x:Sl (cc×Int)} {vs:List Int} {nm:cc} {D0 D:DB} {rules:Sl aP} {p:Nat->Bool} {g ng:FuncId} {ps:List Nat} {t:Sl Int} {a:AV} {e0:Env} {na nb:List AV}
structure PO (S n:Nat) (D0:DB) (ps:List yw) (ng:FuncId) (na nb:List AV):Prop where
 n1:1<=n
 xj:n<=64
 aaq:∀ p ∈ ps,p.ok
 rows:∀ nm p,D0 nm=some p->p.1≠S
 ask:∀ p ∈ ps,∀ D,eC D D0->Fu n D p.r
 head:∀ p ∈ ps,n ^ p.r.args.l.length<=4096/\p.r.args.l.length<=12/\∃ q,D0 p.r.name=some q/\q.2.length=n ^ p.r.args.l.length
 note:∀ (i:Int) (r:aP) (k:Int) (hd:Sl Int) (cs:Sl (Sl Int)) (ls:Sl Int) (y:AV) (h:Heap) (K:Out->Heap->Bool),(∀ h',bC h h'->K (.ret (.tuple [])) h'=true)->Sem TP ng (na++([.agg (bS i r k (an encI 1 hd) (an cZ 1 cs) (an encI 1 ls)),y]++nb)) h K
set_option maxHeartbeats 2000000 in
theorem IZ{k0:Nat}{ps:List yw}{a1:AV}(o:PO S n D0 ps ng na nb)(hS:h.get S=some (.cells [.int .i64 (n:Int),.map B]))(Tb:S<h.next)(hD:er D0 h B lo)
  (we:Own tK 8 k0 h a1 ps) (Uz:∀ b,cz a1=some b->∀ nm p,D0 nm=some p->b≠p.1) (sE:ps.length<=60)
  (hK:∀ h' D',Reach n (ps.map (·.r)) D0 D'->l8 n (ps.map (·.r)) (D',false)=(D',false)->eC D' D0->er D' h' B lo->(∀ b,b<h.next->(∀ nm p,D0 nm=some p->b≠p.1)->h'.get b=h.get b)->h.next<=h'.next->K (.ret (.tuple [])) h'=true) :
  Sem TP 103 [.ptr S 0,a1,.func ng na nb] h K:=by
 have hbig:ps.length<=cM:=by unfold cM;omega
 have DU:∀ nm p,D0 nm=some p->p.1<h.next:=fun nm p hp=>(hD.Co nm p hp).2.1
 have hBn:=hD.lt;have hBr:∀ nm p,D0 nm=some p->B≠p.1:=fun nm p hp=>Ne.symm (hD.Co nm p hp).2.2.1;refine F.r6 ?_;rw [F.sX];simp only [pF (x:=.ptr S 0) rfl,pF (x:=.func ng na nb) rfl,aq,Heap.aM]
 have g3:((h.alloc (.cells [.ptr S 0])).alloc (.cells [.func ng na nb])).get h.next=some (.cells [.ptr S 0]):=by
  rw [Heap.aW,Heap.aM,if_neg (by omega)];exact aB _ _
 have g5:((h.alloc (.cells [.ptr S 0])).alloc (.cells [.func ng na nb])).get (h.next+1)=some (.cells [.func ng na nb]):=aB _ _;have gx:bC h ((h.alloc (.cells [.ptr S 0])).alloc (.cells [.func ng na nb])):=(bC.alloc _ _).trans (bC.alloc _ _);have gn:((h.alloc (.cells [.ptr S 0])).alloc (.cells [.func ng na nb])).next=h.next+1+1:=rfl
 generalize ((h.alloc (.cells [.ptr S 0])).alloc (.cells [.func ng na nb]))=H2 at g3 g5 gx gn ⊢;obtain ⟨H3,s6,a6,o6,n6⟩:=mM (h:=H2) (z:=.bool false) (v:=.bool true) rfl rfl;rw [gn] at s6 a6;simp only [s6,aq];have x3:bC h H3:=gx.trans ⟨by omega,fun b hb=>o6 b (by omega)⟩
 refine Ap (fun m e h'=>∃ (D:DB) (more:Bool) (P6:Nat),e 1=a1/\e 3 = .ptr h.next 0/\e 5 = .ptr (h.next+1) 0/\e 6 = .ptr P6 0/\h'.get P6=some (.cells [.bool more])/\h.next+1<P6/\P6<h'.next/\h'.get h.next=some (.cells [.ptr S 0])/\h'.get (h.next+1)=some (.cells [.func ng na nb]) /\
  Reach n (ps.map (·.r)) D0 D/\eC D D0/\er D h' B lo/\(∀ b,b<h.next->(∀ nm p,D0 nm=some p->b≠p.1)->h'.get b=h.get b)/\h.next<=h'.next /\
  ((more=true/\m=Df (ps.map (·.r.name)) D+1)\/(more=false/\m=0/\l8 n (ps.map (·.r)) (D,false)=(D,false)))) _
  ⟨D0,true,h.next+1+1,rfl,rfl,rfl,rfl,a6,by omega,by omega,by rw [o6 _ (by omega)];exact g3,by rw [o6 _ (by omega)];exact g5,.refl,fun _=>rfl,hD.ext x3,fun b hb _=>x3.get b hb,x3.next,.inl ⟨rfl,rfl⟩⟩ ?_
 rintro m e h' ⟨D,more,P6,e1,e3,e5,e6,q6,q6l,q6n,q3,q5,hre,wU,oN,hfr,pg,Ud⟩ K0 hN0 XR hr0;rw [F.bW.aU];simp only [e6,aS,reduceAdd,reduceEqDiff,reduceIte,ak q6];rcases Ud with ⟨Xr,hm⟩|⟨Xr,hm,aar⟩
 ·subst Xr;have st:aZ 1 (.ptr P6 0) (.bool false) h'=some (h'.set P6 (.cells [.bool false])):=by rw [cB (n:=1) q6 rfl rfl (by simp)];rfl
  have aas:∀ h,bX .slice a1 h=some (.int .i64 (ps.length:Int)):=fun h=>we.len;simp only [aL,st,aS,reduceAdd,reduceEqDiff,reduceIte,e1,aas];have f0:∀ b,b≠P6->(h'.set P6 (.cells [.bool false])).get b=h'.get b:=fun b hb=>by rw [Heap.aN,if_neg hb]
  have f6:(h'.set P6 (.cells [.bool false])).get P6=some (.cells [.bool false]):=by rw [Heap.aN,if_pos rfl]
  have fn:(h'.set P6 (.cells [.bool false])).next=h'.next:=Heap.br _ _ _
  have fD:er D (h'.set P6 (.cells [.bool false])) B lo:=by
   obtain ⟨es,ck,mm,z1,z2,z3⟩:=oN.ex;refine ⟨⟨es,ck,mm,by rw [f0 _ (by omega)];exact z1,z2,z3⟩,fun nm p hp=>?_,oN.inj,by rw [fn];exact oN.lt⟩;obtain ⟨c1,c2,c3,c4⟩:=oN.Co nm p hp;obtain ⟨p0,d1,d2,_⟩:=wU.back hp;have:=DU nm p0 d1;exact ⟨c1,by rw [fn];exact c2,c3,by rw [f0 _ (by omega)];exact c4⟩
  refine aE 0 ps.length (zero_le _) (fun i e h2=>∃ s:DB×Bool,s=l8 n ((ps.map (·.r)).take i) (D,false)/\IW (ps.map (·.r.name)) D0 D s/\er s.1 h2 B lo/\h2.get P6=some (.cells [.bool s.2])/\h2.get h.next=some (.cells [.ptr S 0])/\h2.get (h.next+1)=some (.cells [.func ng na nb]) /\
   (∀ b,b<h.next->(∀ nm p,D0 nm=some p->b≠p.1)->h2.get b=h.get b)/\h'.next<=h2.next/\e 1=a1/\e 3 = .ptr h.next 0/\e 5 = .ptr (h.next+1) 0/\e 6 = .ptr P6 0/\e 10=a1/\e 11 = .int .i64 (ps.length:Int)/\e 12 = .int .i64 (i:Int))
   ⟨(D,false),rfl,⟨wU,dN _,fun h=>(by cases h),fun _=>rfl⟩,fD,f6,by rw [f0 _ (by omega)];exact q3,by rw [f0 _ (by omega)];exact q5,fun b hb hb2=>by rw [f0 _ (by omega)];exact hfr b hb hb2,by omega,e1,e3,e5,e6,rfl,rfl,rfl⟩ ?_ ?_
  ·rintro i e h2 _ hi ⟨s,hs,hq,w1,w6,w3,w5,wf,wn,e1,e3,e5,e6,jF,oX,Ba⟩ K1 Mk jI OJ W4;have hv:ps[i]?=some ps[i]:=ew hi;generalize ps[i]=p at hv;have Fy:=iq hv;have pok:=o.aaq p Fy
   have adt:Own tK 8 k0 h2 a1 ps:=by
    cases we with
    |nil=>exact .nil
    |row b l z1 z2 z3=>exact .row b _ z1 (by omega) (by rw [wf b z2 (Uz b rfl)];exact z3)
   obtain ⟨b,_,_,i1,i2,_⟩:=adt.get Fw hv;obtain ⟨H,iM,hL,ho,hn⟩:=cF (h:=h2) (zs:=[.int .i64 0,.str [],.ay,.ay,.int .i64 0,.ay,.ay,.ay]) (cs:=tK p) (n:=8) rfl rfl (Fx p);have xH:bC h2 H:=⟨by omega,fun b hb=>ho b (by omega)⟩
   have hL':=hL;simp only [tK,bS] at hL';have hSH:H.get S=some (.cells [.int .i64 (n:Int),.map B]):=by rw [xH.get S (by omega),wf S Tb (fun nm p hp=>Ne.symm (o.rows nm p hp))];exact hS
   rw [F.bW.dm];simp only [jF,oX,Ba,aS,reduceAdd,reduceEqDiff,reduceIte,bp hi,i1,i2,iM,e3];simp only [ak (show H.get h.next=some (.cells [.ptr S 0]) by rw [xH.get _ (by omega)];exact w3),ak hL',Mh,aS,reduceAdd,reduceEqDiff,reduceIte,e5,e6]
   have so:Mj S B n lo H.next h.next (h.next+1) P6 h2.next D0 p.r (varsOf p.r).length p.hd ng na nb:=
    ⟨o.n1,o.xj,⟨by omega,by omega,by omega,by omega,by omega,by omega⟩,fun nm q hq=>by have:=DU nm q hq;exact ⟨by omega,o.rows nm q hq,by omega,by omega,by omega,by omega⟩,⟨by omega,by omega,by omega,by omega,by omega⟩,o.ask p Fy,o.head p Fy,rfl,pok.hd,o.note⟩
   have sa:oO S B n lo H.next h.next (h.next+1) P6 h2.next D0 p.r p.i (varsOf p.r).length p.hd p.cs p.ls ng na nb H s H:=
    ⟨hSH,w1.ext xH,hq.Nr,by rw [xH.get _ (by omega)];exact w3,by rw [xH.get _ (by omega)];exact w5,by rw [xH.get _ (by omega)];exact w6,hL,dN _,fun _ _ _ _=>rfl⟩
   refine ai (KH (KI so) pok.mj rfl pok.Np pok.cs pok.ls sa (dN _) fun h5 b5 f5 n5=>?_);simp only [aS,reduceAdd,reduceEqDiff,reduceIte,Ba,aJ hi hbig];have hvr:(ps.map (·.r))[i]?=some p.r:=by rw [getElem?_map,hv];rfl
   refine Mk _ _ ⟨kG n p.r s,by rw [KJ hvr,<- hs],IX o.n1 (List.mem_map_of_mem (f:=fun q:yw=>q.r.name) Fy) (o.head p Fy).2.2 hq,b5.hD,b5.h6,b5.h3,b5.h5,fun b b1 b2=>?_,by omega,e1,e3,e5,e6,jF,oX,rfl⟩;rw [b5.old b (by omega) (by omega) b2,xH.get b (by omega),wf b b1 b2]
  ·rintro e h2 ⟨s,hs,hq,w1,w6,w3,w5,wf,wn,e1,e3,e5,e6,jF,oX,Ba⟩ K1 jI;rw [jW (by simp)] at hs;obtain ⟨H,iM,hL,ho,hn⟩:=mM (h:=h2) (z:=.bool false) (v:=.bool s.2) rfl rfl;have xH:bC h2 H:=⟨by omega,fun b hb=>ho b (by omega)⟩
   rw [F.bW.dm];simp only [oX,Ba,aS,reduceAdd,reduceEqDiff,reduceIte,aX];rw [jI,F.bW.cx];simp only [e6,aS,reduceAdd,reduceEqDiff,reduceIte,ak w6,iM];have adu:Reach n (ps.map (·.r)) D0 s.1:=by rw [hs];exact .step D hre
   have com:∀ (m':Nat) (e':Env),e' 1=a1->e' 3 = .ptr h.next 0->e' 5 = .ptr (h.next+1) 0->e' 6 = .ptr h2.next 0->m'<m->((s.2=true/\m'=Df (ps.map (·.r.name)) s.1+1)\/(s.2=false/\m'=0/\l8 n (ps.map (·.r)) (s.1,false)=(s.1,false)))->K0 .normal ⟨e',22,[],H⟩=true:=fun m' e' e1 e3 e5 e6 uy hc=>
    hN0 m' _ _ uy ⟨s.1,s.2,h2.next,e1,e3,e5,e6,hL,by omega,by omega,by rw [xH.get _ (by omega)];exact w3,by rw [xH.get _ (by omega)];exact w5,adu,hq.Nr,w1.ext xH,fun b b1 b2=>by rw [xH.get b (by omega)];exact wf b b1 b2,by omega,hc⟩
   cases qJ:s.2 with
   |true=>
    have:=hq.lt qJ;exact com (Df (ps.map (·.r.name)) s.1+1) _ e1 e3 e5 rfl (by omega) (.inl ⟨qJ,rfl⟩)
   |false=>
    have h1:=hq.same qJ;exact com 0 _ e1 e3 e5 rfl (by omega) (.inr ⟨qJ,rfl,by rw [h1,<- hs,<- h1,<- qJ]⟩)
 ·subst Xr;simp only [aK];rw [XR,F.bW.aG];exact hK h' D hre aar wU oN hfr pg
def Rel.ok(r:Rel):Prop:=r.name.length<=cM/\r.aO.l.length<=cM/\∀ t ∈ r.aO.l,t.l.length<=cM
def cN.ok(s:cN):Prop:=s.aF.l.length<=cM/\∀ r ∈ s.aF.l,r.ok
theorem I0(hn:(es.map (·.2.2)).Nodup){e:Entry}(he:e ∈ es):lB e.2.2 es=some e:=by
 induction es with
 |nil=>cases he
 |cons a es ih=>
  rw [map_cons,nodup_cons] at hn;rw [lB];by_cases h:a.2.2=e.2.2
  ·rw [if_pos h];rw [mem_cons] at he;rcases he with rfl|he
   ·rfl
   ·exact absurd (by rw [h];exact List.mem_map_of_mem he) hn.1
  ·rw [if_neg h];rw [mem_cons] at he;rcases he with rfl|he
   ·exact absurd rfl h
   ·exact ih hn.2 he
theorem Dh{defs:List oV}{K:R->Bool}:∀ {ps:List (AV×Heap)},(∀ p ∈ ps,K (.ok p.1 defs p.2)=true)->lP defs K ps=true
 |[],_=>rfl
 |p :: ps,h=>by
  rw [lP,h p mem_cons_self,Bool.true_and];exact Dh fun q hq=>h q (mem_cons_of_mem _ hq)
theorem Di{r m:Nat}{seen:List Nat}{defs:List oV}{K:R->Bool}(hr:h.get r=some (.fU (some m) ck seen ck))(hm:h.get m=some (.map es ck))(hB:jT es ck)(nR:r≠m)
  (aau:(∀ e ∈ es,e.2.2 ∈ seen)->K (.ok (.tuple [.bool false]) defs h)=true)
  (kj:∀ e ∈ es,e.2.2 ∉ seen->sr (.ptr r 0) (h.set r (.fU (some m) ck (seen++[e.2.2]) ck))=some (.tuple [e.1,e.2.1])->K (.ok (.tuple [.bool true,e.1,e.2.1]) defs (h.set r (.fU (some m) ck (seen++[e.2.2]) ck)))=true) :
  ag (xm false (.ptr r 0) h) (lP defs K)=true:=by
 have hc:∀ o ∈ sq es ck seen,(o=none/\∀ e ∈ es,e.2.2 ∈ seen)\/∃ e,o=some e/\e ∈ es/\e.2.2 ∉ seen:=by
  intro o ho;unfold sq at ho;simp only [mem_append,mem_map] at ho;rcases ho with ho|⟨e,he,rfl⟩
  ·split at ho
   ·rename_i hem;simp only [mem_singleton] at ho;refine .inl ⟨ho,fun e he=>?_⟩;rw [isEmpty_iff,filter_eq_nil_iff] at hem;have hlt:=hB.lt e he;by_cases hs:e.2.2 ∈ seen
    ·exact hs
    ·exact absurd (fC hlt) (hem e (by rw [mem_filter];exact ⟨he,by simpa using hs⟩))
   ·cases ho
  ·refine .inr ⟨e,rfl,?_⟩
   have:e ∈ es.filter fun e=>!seen.contains e.2.2:=by
    rcases he with he|he
    ·exact (mem_filter.1 he).1
    ·exact (mem_filter.1 he).1
   rw [mem_filter] at this;exact ⟨this.1,by simpa using this.2⟩
 have hne:sq es ck seen≠[]:=by
  unfold sq;intro he;simp only [append_eq_nil_iff,map_eq_nil_iff] at he;obtain ⟨h1,h2,_⟩:=he;rw [h2] at h1;simp at h1
 have adv:(!seen.isEmpty&&!es.isEmpty&&es.all (fun e=>decide (e.2.2>=ck)))=false:=by
  cases es with
  |nil=>simp
  |cons e es=>
   have:=hB.lt e mem_cons_self;rw [all_cons,eV (by omega),Bool.false_and,Bool.and_false]
 unfold xm;simp only [hr,hm,adv,false_eq_true,if_false]
 cases hcs:sq es ck seen with
 |nil=>exact absurd hcs hne
 |cons c cs=>
  rw [hcs] at hc;simp only [aq];refine Dh fun p hp=>?_;rw [mem_map] at hp;obtain ⟨o,ho,rfl⟩:=hp;rcases hc o ho with ⟨rfl,lM⟩|⟨e,rfl,he,hs⟩
  ·exact aau lM
  ·refine kj e he hs ?_;unfold sr;simp only [Heap.aN,if_true,if_neg (Ne.symm nR),hm,getLast?_concat,I0 hB.nodup he]
theorem j9.Tg:∀ {es:List Entry} {m:eE},j9 es m->∀ p ∈ m,∃ e ∈ es,e.1 = .str p.1/\e.2.1 = .int .i64 p.2
 |_,[],_,p,hp=>by cases hp
 |[],q :: m,h,_,_=>h.elim
 |e0 :: es,q :: m,⟨h1,h2,h3⟩,p,hp=>by
  rcases mem_cons.1 hp with rfl|hp
  ·exact ⟨e0,mem_cons_self,h1,h2⟩
  ·obtain ⟨e,he,r⟩:=j9.Tg h3 p hp;exact ⟨e,mem_cons_of_mem _ he,r⟩
def Dj(es:List Entry)(seen:List Nat):Nat:=(es.filter fun e=>!seen.contains e.2.2).length
theorem PR{seen:List Nat}{e:Entry}(he:e ∈ es)(hs:e.2.2 ∉ seen):Dj es (seen++[e.2.2])<Dj es seen:=by
 have h1:(es.filter fun a=>!(seen++[e.2.2]).contains a.2.2)=(es.filter fun a=>!seen.contains a.2.2).filter fun a=>!(a.2.2==e.2.2):=by
  rw [List.filter_filter];refine filter_congr fun a _=>?_;rw [Bool.eq_iff_iff];simp;exact And.comm
 unfold Dj;rw [h1];refine length_filter_lt_length_iff_exists.2 ⟨e,mem_filter.2 ⟨he,by simpa using hs⟩,by simp⟩
theorem zB{f:St->(AX->St->Bool)->Bool}{K:AX->St->Bool}{defs:List oV}{h0:Heap}(es:List Entry)(J:List Nat->Env->Heap->Prop)(hJ:J [] e0 h0)
  (step:∀ seen e h,J seen e h->∀ K':AX->St->Bool,(∀ en ∈ es,en.2.2 ∉ seen->∀ e' h',J (seen++[en.2.2]) e' h'->K' .normal ⟨e',n,defs,h'⟩=true)->(∀ id s,K' (.exit id) s=K (.exit id) s)->(∀ s,K' .ret s=K .ret s)->(∀ v s,K' (.panic v) s=K (.panic v) s)->f ⟨e,n,defs,h⟩ K'=true) :
  bV f ⟨e0,n,defs,h0⟩ K=true:=by
 refine k7 (fun m e h=>∃ seen,m=Dj es seen/\J seen e h) (Dj es []) ⟨[],rfl,hJ⟩ fun m e h hi=>?_;obtain ⟨seen,rfl,hj⟩:=hi;exact step seen e h hj _ (fun en rV hs e' h' Gl=>qT (I:=fun m e h=>∃ seen,m=Dj es seen/\J seen e h) (Dj es (seen++[en.2.2])) (PR rV hs) ⟨_,rfl,Gl⟩) (fun _ _=>rfl) (fun _=>rfl) (fun _ _=>rfl)
theorem eC.trans{A B C:DB}(h1:eC A B)(h2:eC B C):eC A C:=fun nm=>(h1 nm).trans (h2 nm)
def gC(lv:eA.Lv)(rs:List aP)(l:Nat):List aP:=rs.filter fun r=>decide (lv r.name=l)
inductive FA (n:Nat) (rs:List aP) (lv:eA.Lv) (D0:DB):Nat->DB->Prop
 |zero:FA n rs lv D0 0 D0
 |succ (l:Nat) (D D':DB):FA n rs lv D0 l D->Reach n (gC lv rs l) D D'->l8 n (gC lv rs l) (D',false)=(D',false)->FA n rs lv D0 (l+1) D'
theorem GX{l:Nat}(hr:rs[i]?=some r):gC lv (rs.take (i+1)) l=gC lv (rs.take i) l++if lv r.name=l then [r] else []:=by
 unfold gC;rw [take_add_one,hr,toList_some,filter_append];by_cases h:lv r.name=l<;>simp [h]
theorem VX(p:yw):fZ [.int .i64 0,.str [],.ay,.ay,.int .i64 0,.ay,.ay,.ay] [(0,8)] [.agg (tK p)]=some (tK p):=by
 obtain ⟨i,r,hd,cs,ls⟩:=p;obtain ⟨nm,xs,ys⟩:=r;cases hd<;>cases cs<;>cases ls<;>cases xs<;>cases ys<;>rfl
structure PS (S n:Nat) (D0:DB) (rs:List aP) (ng:FuncId) (na nb:List AV):Prop where
 n1:1<=n
 xj:n<=64
 mj:∀ r ∈ rs,r.mj
 Np:∀ r ∈ rs,(varsOf r).length<=12
 rows:∀ nm p,D0 nm=some p->p.1≠S
 ask:∀ r ∈ rs,∀ D,eC D D0->Fu n D r
 head:∀ r ∈ rs,n ^ r.args.l.length<=4096/\r.args.l.length<=12/\∃ q,D0 r.name=some q/\q.2.length=n ^ r.args.l.length
 note:∀ (i:Int) (r:aP) (k:Int) (hd:Sl Int) (cs:Sl (Sl Int)) (ls:Sl Int) (y:AV) (h:Heap) (K:Out->Heap->Bool),(∀ h',bC h h'->K (.ret (.tuple [])) h'=true)->Sem TP ng (na++([.agg (bS i r k (an encI 1 hd) (an cZ 1 cs) (an encI 1 ls)),y]++nb)) h K
 PT:rs.length<=60
theorem I1{A:Nat}{hs ks:List cc}(o:PS S n D0 rules.l ng na nb){l:Nat}{K:AX->St->Bool}
  (hP:h.get P=some (.cells [an aQ 3 rules,.map A,.map M])) (QN:P<h.next) (hl:fy hs h M ks lv) (VO:M<h.next) (hin:∀ r ∈ rules.l,r.name ∈ hs)
  (q0:e0 0 = .ptr P 0) (q1:e0 1 = .ptr S 0) (q2:e0 2 = .func ng na nb) (q9:e0 9 = .int .i64 (l:Int)) (q10:e0 10 = .ay) (q33:e0 33=an aQ 3 rules) (q34:e0 34 = .int .i64 (rules.l.length:Int)) (q35:e0 35 = .int .i64 0) {T:AV} (q26:e0 26=T) (q27:e0 27 = .int .i64 (l:Int))
  (done:∀ (e:Env) h' a ps,bC h h'->Own tK 8 h.next h' a ps->(∀ p ∈ ps,p.ok)->ps.map (·.r)=gC lv rules.l l->e 0 = .ptr P 0->e 1 = .ptr S 0->e 2 = .func ng na nb->e 10=a->e 26=T->e 27 = .int .i64 (l:Int)->F.aY.wD K (.exit 4) ⟨e,62,[],h'⟩=true) :
  bV (EV F.aY.L2) ⟨e0,62,[],h⟩ (F.aY.wD K)=true:=by
 have hbig:rules.l.length<=cM:=by have:=o.PT;unfold cM;omega
 refine aE 0 rules.l.length (zero_le _) (fun i e h'=>∃ a ps,bC h h'/\Own tK 8 h.next h' a ps/\(∀ p ∈ ps,p.ok)/\ps.map (·.r)=gC lv (rules.l.take i) l/\e 0 = .ptr P 0/\e 1 = .ptr S 0/\e 2 = .func ng na nb/\e 9 = .int .i64 (l:Int)/\e 10=a/\e 33=an aQ 3 rules/\e 34 = .int .i64 (rules.l.length:Int)/\e 35 = .int .i64 (i:Int)/\e 26=T/\e 27 = .int .i64 (l:Int))
  ⟨.ay,[],bC.refl _,.nil,fun p hp=>(by cases hp),rfl,q0,q1,q2,q9,q10,q33,q34,q35,q26,q27⟩ ?_ ?_
 ·rintro i e h' _ hi ⟨a,ps,hx,oa,kD,we,e0,e1,e2,e9,jF,e33,e34,e35,BB,BC⟩ K' hn gm hr hp;have hv:rules.l[i]?=some rules.l[i]:=ew hi;generalize rules.l[i]=r at hv;have nR:=iq hv;obtain ⟨H,GQ,g1,go,gn⟩:=cF (h:=h') (zs:=[.str [],.ay,.ay]) (cs:=aQ r) (n:=3) rfl rfl (kf r);have xH:bC h H:=hx.trans ⟨by omega,fun b hb=>go b (by omega)⟩;have pP:H.get P=some (.cells [an aQ 3 rules,.map A,.map M]):=by rw [xH.get P QN];exact hP
  have pl:fy hs H M ks lv:=hl.gd (xH.get M VO);have iM:=GX (lv:=lv) (l:=l) hv;rw [F.aY.kM];simp only [e0,e9,jF,e33,e34,e35,aS,reduceAdd,reduceEqDiff,reduceIte,bp hi,aV rules hi,dx gz hv,GQ];simp only [aS,reduceAdd,reduceEqDiff,reduceIte,ct,ak pP,ak g1,aQ,pl.Uy,if_pos (hin r nR),cP];by_cases UE:lv r.name=l
  ·rw [if_pos UE] at iM;simp only [fC (by omega:(lv r.name:Int)=(l:Int)),aL,aS,reduceAdd,reduceEqDiff,reduceIte,ak g1,aQ,rC];refine ai (cG (o.mj r nR) fun hd cs ls h1 h2 h3=>?_);have nh:=VX ⟨(i:Int),r,hd,cs,ls⟩;have oH:=oa.ext (h':=H) ⟨by omega,fun b hb=>go b (by omega)⟩
   have aax:ps.length<=60:=by
    have z1:=congrArg List.length we;rw [length_map] at z1;have z2:(gC lv (rules.l.take i) l).length<=(rules.l.take i).length:=length_filter_le _ _;have z3:=length_take_le' i rules.l;have:=o.PT;omega
   obtain ⟨a2,h3',p1,p2,p3,p4,p5,p6⟩:=oH.push Fw Fx xH.next (bytes:=152) (by unfold cJ;omega) ⟨(i:Int),r,hd,cs,ls⟩
   simp only [tK] at nh p1;simp only [aS,reduceAdd,reduceEqDiff,reduceIte,nh,jF,p1,e35,aJ hi hbig];refine hn _ _ ⟨a2,_,p5 h xH (dN _),p2,fun p hp=>?_,by rw [map_append,we,iM];rfl,e0,e1,e2,e9,rfl,e33,e34,rfl,BB,BC⟩;rcases mem_append.1 hp with hp|hp
   ·exact kD p hp
   ·rw [mem_singleton] at hp;subst hp;exact ⟨o.mj r nR,o.Np r nR,h1,h2,h3⟩
  ·rw [if_neg UE,append_nil] at iM;simp only [eV (by omega:¬ (lv r.name:Int)=(l:Int)),aK,e35,aJ hi hbig,aq];exact hn _ _ ⟨a,ps,xH,oa.ext ⟨by omega,fun b hb=>go b (by omega)⟩,kD,by rw [iM];exact we,e0,e1,e2,e9,jF,e33,e34,rfl,BB,BC⟩
 ·rintro e h' ⟨a,ps,hx,oa,kD,we,e0,e1,e2,e9,jF,e33,e34,e35,BB,BC⟩ K' gm;rw [F.aY.kM];simp only [e34,e35,aS,reduceAdd,reduceEqDiff,reduceIte,aX];rw [gm];rw [jW (dN _)] at we;exact done _ h' a ps hx oa kD we e0 e1 e2 jF BB BC
def qB(ns:List cc)(lv:eA.Lv):List Int:=ns.map fun s=>(lv s:Int)
theorem Dk(ns:List cc)(lv:eA.Lv):(qB ns lv).length=ns.length:=by simp [qB]
theorem qC{ns:List cc}{s:cc}(h:ns[i]?=some s):(qB ns lv)[i]?=some (lv s:Int):=by
 unfold qB;rw [getElem?_map,h];rfl
theorem nS{α:Type}:∀ {l:List α} {i j:Nat} {s:α},l.Nodup->l[i]?=some s->l[j]?=some s->i=j
 |[],i,j,s,_,h,_=>by simp at h
 |a :: l,0,0,s,_,_,_=>rfl
 |a :: l,0,j+1,s,hn,h1,h2=>by
  simp only [getElem?_cons_zero,Option.some.injEq,getElem?_cons_succ] at h1 h2;subst h1;exact absurd (iq h2) (nodup_cons.1 hn).1
 |a :: l,i+1,0,s,hn,h1,h2=>by
  simp only [getElem?_cons_zero,Option.some.injEq,getElem?_cons_succ] at h1 h2;subst h2;exact absurd (iq h1) (nodup_cons.1 hn).1
 |a :: l,i+1,j+1,s,hn,h1,h2=>by
  rw [getElem?_cons_succ] at h1 h2;rw [nS (nodup_cons.1 hn).2 h1 h2]
theorem PU{ns:List cc}(hn:ns.Nodup){e:eA.Edge}{a:Nat}(ha:ns[a]?=some e.h)(hlt:lv e.h<lv e.b+e.w):(qB ns lv).set a ((lv e.b+e.w:Nat):Int)=qB ns (eA.gX lv e):=by
 have hal:=(ki.1 ha).1;refine ext_getElem? fun j=>?_;rw [getElem?_set];have uY:∀ x,eA.gX lv e x=if x=e.h then lv e.b+e.w else lv x:=fun x=>by unfold eA.gX;rw [if_pos hlt]
 by_cases hj:a=j
 ·subst hj;rw [if_pos rfl,if_pos (by rw [Dk];exact hal),qC ha,uY,if_pos rfl]
 ·rw [if_neg hj]
  cases hs:ns[j]? with
  |none=>unfold qB;rw [getElem?_map,getElem?_map,hs];rfl
  |some t=>
   rw [qC hs,qC hs,uY,if_neg];intro e1;subst e1;exact hj (nS hn ha hs)
theorem I2{e:eA.Edge}{s:cc}(h:s≠e.h):eA.gX lv e s=lv s:=by
 unfold eA.gX;split
 ·exact if_neg h
 ·rfl
set_option maxHeartbeats 2000000 in
theorem bq{rules:Sl aP}(se:rules.l.length<=60)(uD:∀ r ∈ rules.l,r.body.l.length<=20){h:Heap}{K:Out->Heap->Bool}
  (Bc:(∀ k,¬ eA.dy (bL rules.l) (eA.iter (bL rules.l) k))->K (.ret (.tuple [.ay,.bool false])) h=true)
  (zA:∀ (y:Sl Int) k,eA.dy (bL rules.l) (eA.iter (bL rules.l) k)->y.l=qB (eF rules.l) (eA.iter (bL rules.l) k)->K (.ret (.tuple [an encI 1 y,.bool true])) h=true) :
  Sem TP 114 [an aQ 3 rules] h K:=by
 have hbig:rules.l.length<=cM:=by unfold cM;omega
 have hN:∀ e ∈ bL rules.l,e.b ∈ eF rules.l/\e.h ∈ eF rules.l:=fun e he=>by
  obtain ⟨r,hr,c,hc,_,hin,rfl⟩:=tF he;exact ⟨(fO _).2 hin,(fO _).2 (List.mem_map_of_mem hr)⟩
 have hw:∀ e ∈ bL rules.l,e.w<=1:=fun e he=>by
  obtain ⟨r,hr,c,hc,_,hin,rfl⟩:=tF he;exact KC r c
 have PN:=Aq (pI rules.l);have hdl:(eF rules.l).length<=60:=by have:=oP rules.l;omega
 have main:Sem TP 114 [an aQ 3 rules] Heap.empty (fun o h'=>yes (((∀ k,¬ eA.dy (bL rules.l) (eA.iter (bL rules.l) k))/\o = .ret (.tuple [.ay,.bool false])) \/
   ∃ (a:AV) (y:Sl Int) (k:Nat),o = .ret (.tuple [a,.bool true])/\Fz true h' a (an encI 1 y)/\eA.dy (bL rules.l) (eA.iter (bL rules.l) k)/\y.l=qB (eF rules.l) (eA.iter (bL rules.l) k))):=by
  refine F.ze ?_;rw [F.AR]
  generalize hR:(fun (o:Out) (h':Heap)=>yes (((∀ k,¬ eA.dy (bL rules.l) (eA.iter (bL rules.l) k))/\o = .ret (.tuple [.ay,.bool false])) \/
   ∃ (a:AV) (y:Sl Int) (k:Nat),o = .ret (.tuple [a,.bool true])/\Fz true h' a (an encI 1 y)/\eA.dy (bL rules.l) (eA.iter (bL rules.l) k)/\y.l=qB (eF rules.l) (eA.iter (bL rules.l) k)))=R
  have adw:(∀ k,¬ eA.dy (bL rules.l) (eA.iter (bL rules.l) k))->∀ h',R (.ret (.tuple [.ay,.bool false])) h'=true:=fun hk h'=>by
   subst hR;exact cw.2 (.inl ⟨hk,rfl⟩)
  have aay:∀ h' a (y:Sl Int) k,Fz true h' a (an encI 1 y)->eA.dy (bL rules.l) (eA.iter (bL rules.l) k)->y.l=qB (eF rules.l) (eA.iter (bL rules.l) k)->R (.ret (.tuple [a,.bool true])) h'=true:=fun h' a y k q1 q2 q3=>by
   subst hR;exact cw.2 (.inr ⟨a,y,k,rfl,q1,q2,q3⟩)
  clear hR;refine ai (dD se fun x jI=>?_);have IS:x.l.length<=60:=by rw [jI];exact hdl
  have Mf:x.l.length<=cM:=by unfold cM;omega
  simp only [aS,reduceAdd,reduceEqDiff,reduceIte,By (show x.l.length<=1000000 by omega)]
  have gU:(Heap.alloc Heap.empty (.cells ((replicate x.l.length (0:Int)).map iv))).get 0=some (.cells ((qB x.l (eA.iter (bL rules.l) 0)).map iv)):=by
   have:qB x.l (eA.iter (bL rules.l) 0)=replicate x.l.length (0:Int):=by
    show x.l.map (fun _=>(0:Int))=_;exact map_const'
   rw [this];exact aB _ _
  have gn:(Heap.alloc Heap.empty (.cells ((replicate x.l.length (0:Int)).map iv))).next=1:=rfl
  simp only [bU];generalize (Heap.alloc Heap.empty (.cells ((replicate x.l.length (0:Int)).map iv)))=H0 at gU gn ⊢;rw [<- jI] at hN PN aay
  refine Ap (fun m e h'=>∃ k,h'.get 0=some (.cells ((qB x.l (eA.iter (bL rules.l) k)).map iv))/\0<h'.next/\(∀ s,eA.iter (bL rules.l) k s<=x.l.length)/\e 0=an aQ 3 rules/\e 4=an encS 1 x/\e 5 = .slice 0 0 x.l.length 1 /\
   ((e 6 = .bool true/\m=x.l.length*x.l.length+2-(x.l.map (eA.iter (bL rules.l) k)).sum)\/(e 6 = .bool false/\m=0/\eA.dy (bL rules.l) (eA.iter (bL rules.l) k)))) _
   ⟨0,gU,by omega,fun s=>zero_le _,rfl,rfl,rfl,.inl ⟨rfl,rfl⟩⟩ ?_
  rintro m e h' ⟨k,qU,qn,bd,e0,e4,e5,Ud⟩ K0 hN0 XR hr0;rw [F.bq.aU];rcases Ud with ⟨e6,hm⟩|⟨e6,hm,iM⟩
  ·have aid:(x.l.map (eA.iter (bL rules.l) k)).sum<=x.l.length*x.l.length:=eA.JP x.l fun s _=>bd s;simp only [e6,cE,aL]
   refine aE 0 rules.l.length (zero_le _) (fun i e h'=>∃ cur ch,eA.RS (eA.iter (bL rules.l) k) cur (jl (bF rules.l) (rules.l.take i)) ch/\h'.get 0=some (.cells ((qB x.l cur).map iv))/\0<h'.next/\(∀ s,cur s<=x.l.length) /\
    e 0=an aQ 3 rules/\e 4=an encS 1 x/\e 5 = .slice 0 0 x.l.length 1/\e 6 = .bool ch/\e 7 = .int .i64 (i:Int)) ⟨_,false,eA.RS.nil _,qU,qn,bd,e0,e4,e5,rfl,rfl⟩ ?_ ?_
   ·rintro i e h' _ hi ⟨cur,ch,rs,qU,qn,bd,e0,e4,e5,e6,e7⟩ K1 Mk PV OJ W4;have hv:rules.l[i]?=some rules.l[i]:=ew hi;generalize rules.l[i]=r at hv;have aad:=uD r (iq hv);have An:r.body.l.length<=cM:=by unfold cM;omega
    have aaz:r.name ∈ x.l:=(by rw [jI];exact (fO _).2 (List.mem_map_of_mem (iq hv)));have ld:∀ j,j<3->∀ h,ah none (.dQ (rules.l.flatMap aQ) (i*3+j)) h=(aQ r)[j]?:=fun j hj h=>fH gz hv hj;have ld0:∀ h,ah none (.dQ (rules.l.flatMap aQ) (i*3)) h=some (.str r.name):=fun h=>ld 0 (by omega) h;rw [F.bq.dm];simp only [e0,e4,e7,aS,reduceAdd,reduceEqDiff,reduceIte,bp hi,aV rules hi,ld0];refine ai (ee Mf (fun a ha=>?_) (fun GY=>absurd aaz GY));have hal:=(ki.1 ha).1;simp only [aS,reduceAdd,reduceEqDiff,reduceIte]
    refine aE 0 r.body.l.length (zero_le _) (fun j e h2=>∃ cur ch,eA.RS (eA.iter (bL rules.l) k) cur (jl (bF rules.l) (rules.l.take i)++nk (bF rules.l) r (r.body.l.take j)) ch/\h2.get 0=some (.cells ((qB x.l cur).map iv))/\0<h2.next/\(∀ s,s≠r.name->cur s<=x.l.length)/\(∀ s,cur s<=x.l.length+j) /\
     e 0=an aQ 3 rules/\e 4=an encS 1 x/\e 5 = .slice 0 0 x.l.length 1/\e 6 = .bool ch/\e 7 = .int .i64 (i:Int)/\e 8 = .int .i64 (a:Int)/\e 9 = .int .i64 (j:Int))
     ⟨cur,ch,by simpa [nk] using rs,qU,qn,fun s _=>bd s,by simpa using bd,e0,e4,e5,e6,e7,rfl,rfl⟩ ?_ ?_
    ·rintro j e h2 _ hj ⟨cur,ch,rs,qU,qn,bd1,bd2,e0,e4,e5,e6,e7,e8,e9⟩ K2 oW fY qi DT;have hc:r.body.l[j]?=some r.body.l[j]:=ew hj;generalize r.body.l[j]=c at hc;obtain ⟨H2,qJ,k1,ko,kn⟩:=cF (h:=h2) (zs:=[.int .i64 0,.bool false,.str [],.ay]) (cs:=bM c) (n:=4) rfl rfl (iz c);have kU:H2.get 0=some (.cells ((qB x.l cur).map iv)):=by rw [ko 0 (by omega)];exact qU
     have iM:=Ak (hs:=bF rules.l) (r:=r) hc
     have skip:lY (bF rules.l) r c = []->∀ e':Env,e' 0=an aQ 3 rules->e' 4=an encS 1 x->e' 5 = .slice 0 0 x.l.length 1->e' 6 = .bool ch->e' 7 = .int .i64 (i:Int)->e' 8 = .int .i64 (a:Int)->e' 9 = .int .i64 ((j+1:Nat):Int)->K2 .normal ⟨e',89,[],H2⟩=true:=by
      intro Oi e' e0 e4 e5 e6 e7 e8 e9;rw [Oi,append_nil] at iM;exact oW _ _ ⟨cur,ch,by rw [iM];exact rs,kU,by omega,bd1,fun s=>by have:=bd2 s;omega,e0,e4,e5,e6,e7,e8,e9⟩
     rw [F.bq.kM];simp only [e0,e4,e7,e9,aS,reduceAdd,reduceEqDiff,reduceIte,aV rules hi,ld 2 (by omega),aQ,bp hj,aV r.body hj,dx iy hc,qJ];simp only [aS,reduceAdd,reduceEqDiff,reduceIte,ak k1,bM];refine ai (ee Mf (fun b hb=>?_) (fun GY=>?_))
     ·have VY:=(ki.1 hb).1;have adx:c.name ∈ bF rules.l:=by rw [<- fO,<- jI];exact iq hb
      simp only [aS,reduceAdd,reduceEqDiff,reduceIte,ak k1,bM,cP];by_cases k0:c.kind=0
      ·have Oi:lY (bF rules.l) r c = [fm r c]:=(by unfold lY;rw [if_pos ⟨k0,adx⟩]);rw [Oi] at iM;simp only [fC k0,aL,fC (show (0:Int)<=(b:Int) by omega),e5,nt VY,nE kU (qC hb),aS,reduceAdd,reduceEqDiff,reduceIte,ak k1,bM]
       have J:∀ e':Env,e' 0=an aQ 3 rules->e' 4=an encS 1 x->e' 5 = .slice 0 0 x.l.length 1->e' 6 = .bool ch->e' 7 = .int .i64 (i:Int)->e' 8 = .int .i64 (a:Int)->e' 9 = .int .i64 (j:Int)->e' 12 = .int .i64 ((cur c.name+(fm r c).w:Nat):Int) ->
         F.bq.J0 K2 ⟨e',89,[],H2⟩=true:=by
        intro e' e0 e4 e5 e6 e7 e8 e9 Ba;rw [F.bq.CA];simp only [e5,e8,Ba,nt hal,nE kU (qC ha),aS,reduceAdd,reduceEqDiff,reduceIte];by_cases hlt:cur r.name<cur c.name+(fm r c).w
        ·have lR:=PU PN (e:=fm r c) ha hlt;have PW:=yj (v:=((cur c.name+(fm r c).w:Nat):Int)) kU (i:=a) (by rw [Dk];exact hal);have aaC:(qB x.l cur).set a ((cur c.name+(fm r c).w:Nat):Int)=qB x.l (eA.gX cur (fm r c)):=lR;rw [aaC] at PW;simp only [bp hlt,aL,e5,e8,e9,Ba,nt hal,PW,aS,reduceAdd,reduceEqDiff,reduceIte,aJ hj An];refine oW _ _ ⟨_,true,?_,by rw [Heap.aN,if_pos rfl],by rw [Heap.br];omega,fun s hs=>?_,fun s=>?_,e0,e4,e5,rfl,e7,e8,rfl⟩
         ·rw [iM,<- append_assoc];exact rs.up hlt
         ·rw [I2 (e:=fm r c) hs];exact bd1 s hs
         ·have:=eA.sj (e:=fm r c) bd2 (KC r c) s;omega
        ·simp only [eV (by omega:¬ ((cur r.name:Int)<((cur c.name+(fm r c).w:Nat):Int))),aK,e9,aJ hj An,aq];exact oW _ _ ⟨cur,ch,by rw [iM,<- append_assoc];exact rs.same hlt,kU,by omega,bd1,fun s=>by have:=bd2 s;omega,e0,e4,e5,e6,e7,e8,rfl⟩
       cases hng:c.neg with
       |true=>
        have hw1:(fm r c).w=1:=(by unfold fm;simp [hng]);have C6:=aJ (i:=cur c.name) (n:=2000000) (by have:=bd2 c.name;omega) (by unfold cM;omega);simp only [aL,C6,aq];exact J _ e0 e4 e5 e6 e7 e8 e9 (by rw [hw1];rfl)
       |false=>
        have hw1:(fm r c).w=0:=(by unfold fm;simp [hng]);simp only [aK];exact J _ e0 e4 e5 e6 e7 e8 e9 (by rw [hw1];rfl)
      ·simp only [eV k0,aK,e9,aJ hj An,aq];exact skip (by unfold lY;rw [if_neg (fun h=>k0 h.1)]) _ e0 e4 e5 e6 e7 e8 rfl
     ·have aaD:c.name ∉ bF rules.l:=fun h=>GY (by rw [jI];exact (fO _).2 h);have Oi:lY (bF rules.l) r c = []:=by unfold lY;rw [if_neg (fun h=>aaD h.2)]
      simp only [aS,reduceAdd,reduceEqDiff,reduceIte,ak k1,bM,cP];by_cases k0:c.kind=0
      ·simp only [fC k0,aL,show decide ((0:Int)<=-1)=false from rfl,aK,e9,aJ hj An,aq];exact skip Oi _ e0 e4 e5 e6 e7 e8 rfl
      ·simp only [eV k0,aK,e9,aJ hj An,aq];exact skip Oi _ e0 e4 e5 e6 e7 e8 rfl
    ·rintro e h2 ⟨cur,ch,rs,qU,qn,bd1,bd2,e0,e4,e5,e6,e7,e8,e9⟩ K2 fY;rw [jW (dN _),<- C5 hv] at rs;rw [F.bq.kM];simp only [e0,e7,e9,aS,reduceAdd,reduceEqDiff,reduceIte,aV rules hi,ld 2 (by omega),aQ,aX];rw [fY,F.bq.ic];simp only [e4,e5,e7,e8,nt hal,nE qU (qC ha),aS,reduceAdd,reduceEqDiff,reduceIte];by_cases OI:x.l.length<cur r.name
     ·simp only [bp OI,aL];rw [OJ,F.bq.iR,hr0,F.bq.bz];refine adw (eA.high (N:=x.l) hN hw (k:=k) (E1:=jl (bF rules.l) (rules.l.take (i+1))) (E2:=jl (bF rules.l) (rules.l.drop (i+1))) ?_ aaz (by rw [<- rs.eq];exact OI)) _;unfold bL jl;rw [<- flatMap_append,take_append_drop]
     ·simp only [eV (by omega:¬ ((x.l.length:Int)<(cur r.name:Int))),aK,e7,aJ hi hbig,aq];refine Mk _ _ ⟨cur,ch,rs,qU,qn,fun s=>?_,e0,e4,e5,e6,rfl⟩;by_cases hs:s=r.name
      ·subst hs;omega
      ·exact bd1 s hs
   ·rintro e h' ⟨cur,ch,rs,qU,qn,bd',e0,e4,e5,e6,e7⟩ K1 PV;rw [jW (dN _)] at rs;obtain ⟨d1,d2⟩:=rs.done;have d1':cur=eA.iter (bL rules.l) (k+1):=d1;rw [F.bq.dm];simp only [e0,e7,aS,reduceAdd,reduceEqDiff,reduceIte,aX];rw [PV,F.bq.cx];by_cases iM:eA.dy (bL rules.l) (eA.iter (bL rules.l) k)
    ·have I3:eA.dy (jl (bF rules.l) rules.l) (eA.iter (bL rules.l) k):=iM;rw [fC I3] at d2;have d3:cur=eA.iter (bL rules.l) k:=by rw [d1];exact eA.vX iM
     rw [d3] at qU;exact hN0 0 _ _ (by omega) ⟨k,qU,qn,bd,e0,e4,e5,.inr ⟨by simp only [bP,reduceEqDiff,reduceIte,e6,d2];rfl,rfl,iM⟩⟩
    ·have I3:¬ eA.dy (jl (bF rules.l) rules.l) (eA.iter (bL rules.l) k):=iM;rw [eV I3] at d2;rw [d1'] at qU bd';have h1:=eA.MB hN iM;have h2:(x.l.map (eA.iter (bL rules.l) (k+1))).sum<=x.l.length*x.l.length:=eA.JP x.l fun s _=>bd' s;have h3:(x.l.map (eA.iter (bL rules.l) k)).sum<(x.l.map (eA.iter (bL rules.l) (k+1))).sum:=h1;exact hN0 _ _ _ (by rw [hm];omega) ⟨k+1,qU,qn,bd',e0,e4,e5,.inl ⟨by simp only [bP,reduceEqDiff,reduceIte,e6,d2];rfl,rfl⟩⟩
  ·simp only [e6,cE,aK];rw [XR,F.bq.aG];simp only [bP,reduceEqDiff,reduceIte,e5];have hf:=Iw qU;rw [Dk] at hf;exact aay _ _ (some (qB x.l (eA.iter (bL rules.l) k))) k hf iM rfl
 refine main.frozen (by simp [AV.cO,cp fN]) fun o h' ho=>?_;rcases cw.1 ho with ⟨hb,rfl⟩|⟨a,y,k,rfl,f1,iM,s3⟩
 ·exact ⟨_,_,rfl,.dR rfl,Bc hb⟩
 ·have fl:=lI.cons f1 (lI.cons (Fz.scalar (.bool true) rfl) lI.nil);exact ⟨_,_,rfl,.tuple _ _ fl.len fl.rel,zA y k iM s3⟩
set_option maxHeartbeats 2000000 in
theorem Nt{A:Nat}{hs ks:List cc}(o:PS S n D0 rules.l ng na nb)
  (hP:h.get P=some (.cells [an aQ 3 rules,.map A,.map M])) (QN:P<h.next) (hl:fy hs h M ks lv) (Bz:ks.Nodup) (VO:M<h.next) (hin:∀ r ∈ rules.l,r.name ∈ hs) (UE:∀ x,lv x<=1000000)
  (hS:h.get S=some (.cells [.int .i64 (n:Int),.map B])) (Tb:S<h.next) (hD:er D0 h B lo) (hPM:∀ nm p,D0 nm=some p->p.1≠P/\p.1≠M)
  (hK:∀ h' D' T,(∀ x ∈ hs,lv x<=T)->FA n rules.l lv D0 (T+1) D'->eC D' D0->er D' h' B lo->(∀ b,b<h.next->(∀ nm p,D0 nm=some p->b≠p.1)->h'.get b=h.get b)->h.next<=h'.next->K (.ret (.tuple [])) h'=true) :
  Sem TP 59 [.ptr P 0,.ptr S 0,.func ng na nb] h K:=by
 obtain ⟨es,ck,m,z1,z2,z3,z4,z5⟩:=hl.ex;have adz:(m.map (·.1)).Nodup:=by rw [z4];exact Bz
 have Eb:∀ p ∈ m,p.1 ∈ hs/\p.2=(lv p.1:Int):=fun p hp=>by
  have h1:=uF adz hp;rw [z5] at h1;by_cases hh:p.1 ∈ hs
  ·rw [if_pos hh] at h1;exact ⟨hh,(Option.some.inj h1).symm⟩
  ·rw [if_neg hh] at h1;cases h1
 refine F.r7 ?_;rw [F.sY];have WV:mC .map (.map M) h=some (.ptr h.next 0,h.alloc (.fU (some M) ck [] ck)):=by simp only [mC,z1]
 simp only [aS,reduceAdd,reduceEqDiff,reduceIte,ct,ak hP,WV]
 refine zB es (fun seen e hh=>∃ t:Nat,e 6 = .int .i64 (t:Int)/\(∀ en ∈ es,en.2.2 ∈ seen->∀ v:Nat,en.2.1 = .int .i64 (v:Int)->v<=t)/\t<=1000000/\hh.get h.next=some (.fU (some M) ck seen ck)/\(∀ b,b<h.next->hh.get b=h.get b)/\h.next<hh.next /\
  e 0 = .ptr P 0/\e 1 = .ptr S 0/\e 2 = .func ng na nb/\e 17 = .ptr h.next 0)
  ⟨0,rfl,fun en _ rV=>(by cases rV),by omega,aB _ _,fun b hb=>by rw [Heap.aW,if_neg (by omega)],by rw [Heap.aM];omega,rfl,rfl,rfl,rfl⟩ ?_
 rintro seen e hh ⟨t,e6,ht,ht6,w3,wf,wn,e0,e1,e2,tN⟩ K' PX hex Th aaE;rw [F.aY.aU];simp only [tN];refine Di w3 (by rw [wf M VO];exact z1) z3 (by omega) (fun lM=>?_) (fun en rV hns B8=>?_)
 ·simp only [Gs,nL,aq,cE,aK];rw [hex,F.aY.aG]
  have adA:∀ x ∈ hs,lv x<=t:=fun x hx=>by
   have h1:m.find x=some (lv x:Int):=by rw [z5,if_pos hx]
   obtain ⟨en,rV,h2,h3⟩:=z2.Tg _ (qv h1);exact ht en rV (lM en rV) (lv x) h3
  have C6:=aJ (i:=t) (n:=1000001) (by omega) (by unfold cM;omega);simp only [aS,reduceAdd,reduceEqDiff,reduceIte,e6,C6]
  refine aE 0 (t+1) (zero_le _) (fun l e h'=>∃ D,FA n rules.l lv D0 l D/\eC D D0/\er D h' B lo/\(∀ b,b<h.next->(∀ nm p,D0 nm=some p->b≠p.1)->h'.get b=h.get b)/\h.next<=h'.next/\e 0 = .ptr P 0/\e 1 = .ptr S 0/\e 2 = .func ng na nb/\e 26 = .int .i64 ((t+1:Nat):Int)/\e 27 = .int .i64 (l:Int))
   ⟨D0,.zero,fun _=>rfl,hD.ext ⟨by omega,fun b hb=>wf b hb⟩,fun b hb _=>wf b hb,by omega,e0,e1,e2,rfl,rfl⟩ ?_ ?_
  ·rintro l e h' _ hlt ⟨D,hrun,wU,oN,hfr,pg,e0,e1,e2,BB,BC⟩ K1 Mk jI OJ W4;have adB:∀ nm p,D0 nm=some p->P≠p.1:=fun nm p hp=>Ne.symm (hPM nm p hp).1;have notM:∀ nm p,D0 nm=some p->M≠p.1:=fun nm p hp=>Ne.symm (hPM nm p hp).2;have pP:h'.get P=some (.cells [an aQ 3 rules,.map A,.map M]):=by rw [hfr P QN adB];exact hP
   have pl:fy hs h' M ks lv:=hl.gd (hfr M VO notM);rw [F.aY.dm];simp only [e0,BB,BC,aS,reduceAdd,reduceEqDiff,reduceIte,bp hlt,ct,ak pP];refine I1 o (l:=l) pP (by omega) pl (by omega) hin e0 e1 e2 rfl rfl rfl rfl rfl BB BC fun e' h3 a ps KK oa kD we f0 f1 f2 f10 f26 f27=>?_;rw [F.aY.ic];simp only [f1,f2,f10];have hS3:h3.get S=some (.cells [.int .i64 (n:Int),.map B]):=by rw [KK.get S (by omega),hfr S Tb (fun nm p hp=>Ne.symm (o.rows nm p hp))];exact hS
   have I4:∀ p ∈ ps,p.r ∈ rules.l:=fun p hp=>by
    have:p.r ∈ gC lv rules.l l:=(by rw [<- we];exact List.mem_map_of_mem hp);exact (mem_filter.1 this).1
   have aax:ps.length<=60:=by
    have y1:=congrArg List.length we;rw [length_map] at y1;have y2:(gC lv rules.l l).length<=rules.l.length:=length_filter_le _ _;have:=o.PT;omega
   have po:PO S n D ps ng na nb:=
    ⟨o.n1,o.xj,kD,fun nm p hp=>by obtain ⟨p0,y1,y2,_⟩:=wU.back hp;rw [y2];exact o.rows nm p0 y1,fun p hp D' qI=>o.ask _ (I4 p hp) D' (qI.trans wU),
     fun p hp=>by
      obtain ⟨y1,y2,q,y3,y4⟩:=o.head _ (I4 p hp);obtain ⟨q',y5,_,y6⟩:=wU.get y3
      exact ⟨y1,y2,q',y5,by rw [y6];exact y4⟩,o.note⟩
   have hDn:∀ nm p,D nm=some p->p.1<h'.next:=fun nm p hp=>(oN.Co nm p hp).2.1
   refine ai (IZ po hS3 (by have:=KK.next;omega) (oN.ext KK) oa (fun b hb nm p hp=>by have:=oa.ge hb;have:=hDn nm p hp;omega) aax fun h4 D4 k1 k2 k3 k4 k5 k6=>?_);simp only [aS,reduceAdd,reduceEqDiff,reduceIte,f27,aJ hlt (show t+1<=cM by unfold cM;omega)];rw [we] at k1 k2;refine Mk _ _ ⟨D4,.succ l D D4 hrun k1 k2,k3.trans wU,k4,fun b b1 b2=>?_,by have:=KK.next;omega,f0,f1,f2,f26,rfl⟩;rw [k5 b (by have:=KK.next;omega) (fun nm p hp=>by obtain ⟨p0,y1,y2,_⟩:=wU.back hp;rw [y2];exact b2 nm p0 y1),KK.get b (by omega),hfr b b1 b2]
  ·rintro e h' ⟨D,hrun,wU,oN,hfr,pg,e0,e1,e2,BB,BC⟩ K1 jI;rw [F.aY.dm];simp only [BB,BC,aS,reduceAdd,reduceEqDiff,reduceIte,aX];rw [jI,F.aY.cx];exact hK h' D t adA hrun wU oN hfr pg
 ·obtain ⟨p,Fy,Mk,oW⟩:=z2.mem en rV;obtain ⟨hph,WT⟩:=Eb p Fy;rw [WT] at oW;have aif:=UE p.1;simp only [Gs,nL,uw,aq,cE,aL,tN,B8,e6,oW,IM]
  have hmx:Mg (t:Int) (lv p.1:Int)=((if lv p.1>t then lv p.1 else t:Nat):Int):=by
   unfold Mg;by_cases OI:lv p.1>t
   ·rw [if_pos OI,if_pos (by omega)]
   ·rw [if_neg OI,if_neg (by omega)]
  refine PX en rV hns _ _ ⟨if lv p.1>t then lv p.1 else t,by rw [hmx];rfl,fun UF I5 gv v hv=>?_,by split<;>omega,by rw [Heap.aN,if_pos rfl],fun b hb=>by rw [Heap.aN,if_neg (by omega)];exact wf b hb,by rw [Heap.br];exact wn,e0,e1,e2,tN⟩;rcases mem_append.1 gv with gv|gv
  ·have:=ht UF I5 gv v hv;split<;>omega
  ·rw [mem_singleton] at gv
   have hee:UF=en:=by
    have hb:=z3.nodup;obtain ⟨i,hi⟩:=mem_iff_getElem?.1 rV;obtain ⟨j,hj⟩:=mem_iff_getElem?.1 I5;have uU:(es.map (·.2.2))[i]?=some en.2.2:=by rw [getElem?_map,hi];rfl
    have Gl:(es.map (·.2.2))[j]?=some en.2.2:=by rw [getElem?_map,hj,<- gv];rfl
    have hij:=nS hb uU Gl;subst hij;rw [hi] at hj;exact (Option.some.inj hj).symm
   rw [hee,oW] at hv;have:v=lv p.1:=by injection hv with _ h3;omega
   rw [this];split<;>omega
theorem gN{n:Int}{x:Sl Int}(hx:x.l.length<=cM){h:Heap}{K:Out->Heap->Bool}(hK:K (.ret (.bool (jy n x.l))) h=true):Sem TP 125 [.int .i64 n,an encI 1 x] h K:=by
 refine F.GG ?_;rw [F.Ip];refine aE 0 x.l.length (zero_le _) (fun i e h'=>h'=h/\e 0 = .int .i64 n/\e 1=an encI 1 x/\e 5 = .int .i64 (i:Int)/\jy n (x.l.take i)=true) ⟨rfl,rfl,rfl,rfl,rfl⟩ ?_ ?_
 ·rintro i e h' _ hi ⟨rfl,e0,e1,e5,ht⟩ K' hn gm hr hp;have hv:x.l[i]?=some x.l[i]:=ew hi;rw [F.gN.aU];simp only [e0,e1,e5,aS,reduceAdd,reduceEqDiff,reduceIte,bp hi,aV x hi,iW hv];by_cases h1:x.l[i]<0
  ·simp only [fC h1,aL];rw [hr,F.gN.bz];have:jy n x.l=false:=all_false hv (by simp [h1]);rw [this] at hK;exact hK
  ·simp only [eV h1,aK];by_cases h2:n<=x.l[i]
   ·simp only [fC h2,aL];rw [hr,F.gN.bz];have:jy n x.l=false:=all_false hv (by simp [h2]);rw [this] at hK;exact hK
   ·simp only [eV h2,aK,aJ hi hx,aq];exact hn _ _ ⟨rfl,e0,e1,rfl,jq hv ht (by simp [h1,h2])⟩
 ·rintro e h' ⟨rfl,e0,e1,e5,ht⟩ K' gm;rw [F.gN.aU];simp only [e0,e1,e5,aS,reduceAdd,reduceEqDiff,reduceIte,aX];rw [gm,F.gN.aG];rw [jW (dN _)] at ht;rw [ht] at hK;exact hK
theorem EI{x:Sl Int}(hx:x.l.length<=cM){a b:List AV}{p:Int->Bool}(hp:∀ (v:Int) (K:Out->Heap->Bool),K (.ret (.bool (p v))) h=true->Sem TP g (a++([.int .i64 v]++b)) h K)
  (hK:∀ n:Int,decide (0<=n)=x.l.any p->K (.ret (.int .i64 n)) h=true):Sem TP 91 [an encI 1 x,.func g a b] h K:=by
 refine F.mJ ?_;rw [F.mZ];simp only [aS,reduceAdd,reduceEqDiff,reduceIte];refine aE 0 x.l.length (zero_le _) (fun i e h'=>h'=h/\e 0=an encI 1 x/\e 1 = .func g a b/\e 7 = .int .i64 (x.l.length:Int)/\e 8 = .int .i64 (i:Int)/\(x.l.take i).any p=false) ⟨rfl,rfl,rfl,rfl,rfl,rfl⟩ ?_ ?_
 ·rintro i e h' _ hi ⟨rfl,e0,e1,e7,e8,ht⟩ K' hn gm hr B2;have hv:x.l[i]?=some x.l[i]:=ew hi;rw [F.bR.aU];simp only [e0,e1,e7,e8,aS,reduceAdd,reduceEqDiff,reduceIte,bp hi,aV x hi,iW hv,fA];refine ai (hp _ _ ?_);simp only [aS,reduceAdd,reduceEqDiff,reduceIte]
  cases hq:p x.l[i] with
  |true=>
   simp only [aL];rw [hr,F.bR.bz];refine hK (i:Int) ?_;rw [fC (by omega:(0:Int)<=(i:Int))];exact (List.any_eq_true.2 ⟨_,iq hv,hq⟩).symm
  |false=>
   simp only [aK,aJ hi hx,aq];exact hn _ _ ⟨rfl,e0,e1,e7,rfl,by rw [take_add_one,hv,any_append,ht];simp [hq]⟩
 ·rintro e h' ⟨rfl,e0,e1,e7,e8,ht⟩ K' gm;rw [F.bR.aU];simp only [e0,e1,e7,e8,aS,reduceAdd,reduceEqDiff,reduceIte,aX];rw [gm,F.bR.aG];rw [jW (dN _)] at ht;exact hK (-1) (by rw [ht];rfl)
theorem qD{x:Sl Int}(hx:x.l.length<=cM){a b:List AV}{p:Int->Bool}(hp:∀ (v:Int) (K:Out->Heap->Bool),K (.ret (.bool (p v))) h=true->Sem TP g (a++([.int .i64 v]++b)) h K)
  (hK:K (.ret (.bool (x.l.any p))) h=true):Sem TP 47 [an encI 1 x,.func g a b] h K:=by
 refine F.lJ ?_;rw [F.lU];refine ai (EI hx hp fun n hn=>?_);simp only [aS,reduceAdd,reduceEqDiff,reduceIte];rw [hn];exact hK
def Dl(n:Int)(x:Int):Bool:=decide (x<0)||decide (n<=x)
theorem PY(n:Int)(l:List Int):jy n l = !(l.any (Dl n)):=by
 unfold jy Dl
 induction l with
 |nil=>rfl
 |cons a l ih=>simp only [all_cons,any_cons,ih];cases decide (a<0)<;>cases decide (n<=a)<;>rfl
theorem cV{cs:List AV}(h:cs.length=n):ji (some n) cs 0=some (.agg cs):=by
 simp [ji,h,jW]
theorem g8{n k:Nat}(h1:1<=n)(h2:n<=64)(hk:k<=cM){h:Heap}{K:Out->Heap->Bool}(hK:∀ v:Nat,(n ^ k<=4096->v=n ^ k)->(4096<n ^ k->4096<v)->K (.ret (.int .i64 (v:Int))) h=true) :
  Sem TP 155 [.int .i64 (n:Int),.int .i64 (k:Int)] h K:=by
 refine F.Es ?_;rw [F.GD];refine aE 0 k (zero_le _) (fun i e h'=>h'=h/\e 0 = .int .i64 (n:Int)/\e 1 = .int .i64 (k:Int)/\e 6 = .int .i64 (i:Int)/\e 5 = .int .i64 ((n ^ i:Nat):Int)/\n ^ i<=262144) ⟨rfl,rfl,rfl,rfl,rfl,by simp⟩ ?_ ?_
 ·rintro i e h' _ hi ⟨rfl,e0,e1,e6,e5,hb⟩ K' hn hx hr hp;rw [F.g8.aU];simp only [e0,e1,e5,e6,aS,reduceAdd,reduceEqDiff,reduceIte,bp hi];by_cases hc:n ^ i<=4096
  ·have hm:n ^ i*n<=4096*64:=Nat.mul_le_mul hc h2;have uy:((n ^ i:Nat):Int)*(n:Int)=((n ^ (i+1):Nat):Int):=by rw [Nat.pow_succ,Int.natCast_mul]
   have hs:n ^ (i+1)<=262144:=by rw [Nat.pow_succ];omega
   have hmul:aI .mul (.int .i64 ((n ^ i:Nat):Int)) (.int .i64 (n:Int))=some (.int .i64 ((n ^ (i+1):Nat):Int)):=by
    rw [uv (by rw [uy];omega) (by rw [uy];omega),uy]
   simp only [fC (by omega:((n ^ i:Nat):Int)<=4096),aL,hmul,aJ hi hk,aq];exact hn _ _ ⟨rfl,e0,e1,rfl,rfl,hs⟩
  ·simp only [eV (by omega:¬ ((n ^ i:Nat):Int)<=4096),aK];rw [hx,F.g8.aG];simp only [e5,bP,reduceEqDiff,reduceIte];have:=KD h1 (Nat.le_of_lt hi);exact hK _ (fun h=>by omega) (fun _=>by omega)
 ·rintro e h' ⟨rfl,e0,e1,e6,e5,hb⟩ K' hx;rw [F.g8.aU];simp only [e0,e1,e5,e6,aS,reduceAdd,reduceEqDiff,reduceIte,aX];rw [hx,F.g8.aG];simp only [e5,bP,reduceEqDiff,reduceIte];exact hK _ (fun _=>rfl) (fun h=>h)
def KL(n k:Nat):Int:=if n ^ k<=4096 then ((n ^ k:Nat):Int) else -1
theorem ef{n k:Nat}(h1:1<=n)(h2:n<=64)(hk:k<=cM){h:Heap}{K:Out->Heap->Bool}(hK:K (.ret (.int .i64 (KL n k))) h=true) :
  Sem TP 108 [.int .i64 (n:Int),.int .i64 (k:Int),.int .i64 4096] h K:=by
 refine F.AY ?_;rw [F.CM];refine aE 0 k (zero_le _) (fun i e h'=>h'=h/\e 0 = .int .i64 (n:Int)/\e 2 = .int .i64 4096/\e 8 = .int .i64 (k:Int)/\e 9 = .int .i64 (i:Int)/\e 7 = .int .i64 ((n ^ i:Nat):Int)/\n ^ i<=4096) ⟨rfl,rfl,rfl,rfl,rfl,rfl,by simp⟩ ?_ ?_
 ·rintro i e h' _ hi ⟨rfl,e0,e2,e8,e9,e7,hb⟩ K' hn hx hr hp;rw [F.ef.aU];have hm:n ^ i*n<=4096*64:=Nat.mul_le_mul hb h2;have uy:((n ^ i:Nat):Int)*(n:Int)=((n ^ (i+1):Nat):Int):=by rw [Nat.pow_succ,Int.natCast_mul]
  have hs:n ^ (i+1)<=262144:=by rw [Nat.pow_succ];omega
  have hmul:aI .mul (.int .i64 ((n ^ i:Nat):Int)) (.int .i64 (n:Int))=some (.int .i64 ((n ^ (i+1):Nat):Int)):=by
   rw [uv (by rw [uy];omega) (by rw [uy];omega),uy]
  simp only [e0,e2,e7,e8,e9,aS,reduceAdd,reduceEqDiff,reduceIte,bp hi,hmul];by_cases hc:n ^ (i+1)<=4096
  ·simp only [eV (by omega:¬ (4096:Int)<((n ^ (i+1):Nat):Int)),aK,aJ hi hk,aq];exact hn _ _ ⟨rfl,e0,e2,e8,rfl,rfl,hc⟩
  ·simp only [fC (by omega:(4096:Int)<((n ^ (i+1):Nat):Int)),aL];rw [hr,F.ef.bz];simp only [bP,reduceEqDiff,reduceIte];have:=KD h1 (show i+1<=k from hi);rw [KL,if_neg (by omega)] at hK;exact hK
 ·rintro e h' ⟨rfl,e0,e2,e8,e9,e7,hb⟩ K' hx;rw [F.ef.aU];simp only [e8,e9,aS,reduceAdd,reduceEqDiff,reduceIte,aX];rw [hx,F.ef.aG];simp only [e7,bP,reduceEqDiff,reduceIte];rw [KL,if_pos hb] at hK;exact hK
def Nu(n k:Nat):AV:=if 12<k then .tuple [.int .i64 0,.int .i64 2] else if 4096<n ^ k then .tuple [.int .i64 0,.int .i64 5] else .tuple [.int .i64 ((n ^ k:Nat):Int),.int .i64 0]
theorem tO(h1:1<=n)(h2:n<=64)(hk:k<=cM)(hK:K (.ret (Nu n k)) h=true):Sem TP 99 [.int .i64 (n:Int),.int .i64 (k:Int)] h K:=by
 refine F.AW ?_;rw [F.CK];simp only [aS,reduceAdd,reduceEqDiff,reduceIte,eV (by omega:¬ (n:Int)<1),eV (by omega:¬ (64:Int)<(n:Int)),eV (by omega:¬ (k:Int)<0)];unfold Nu at hK;by_cases IA:12<k
 ·rw [if_pos IA] at hK;simp only [fC (by omega:(12:Int)<(k:Int)),aL];exact hK
 ·rw [if_neg IA] at hK;simp only [eV (by omega:¬ (12:Int)<(k:Int)),aK];refine ai (ef h1 h2 hk ?_);simp only [aS,reduceAdd,reduceEqDiff,reduceIte];by_cases hc:n ^ k<=4096
  ·rw [if_neg (by omega)] at hK;simp only [KL,if_pos hc,eV (by omega:¬ ((n ^ k:Nat):Int)<0),aK];exact hK
  ·rw [if_pos (by omega)] at hK;simp only [KL,if_neg hc,fC (by omega:(-1:Int)<0),aL];exact hK
theorem KM{n:Int}(hb:h.get b=some (.cells [.int .i64 n]))(v:Int)(K:Out->Heap->Bool)(hK:K (.ret (.bool (Dl n v))) h=true):Sem TP 93 ([]++([.int .i64 v]++[.ptr b 0])) h K:=by
 refine F.sZ ?_;rw [F.vh];simp only [ak hb,aS,reduceAdd,reduceEqDiff,reduceIte];unfold Dl at hK;by_cases h1:v<0<;>by_cases h2:n<=v<;>simpa [h1,h2] using hK
theorem tP{n:Int}{x:Sl Int}(hx:x.l.length<=cM)(hK:K (.ret (.bool (jy n x.l))) h=true):Sem TP 52 [.int .i64 n,an encI 1 x] h K:=by
 refine Sem.data (r:=.bool (jy n x.l)) ?_ (by simp [AV.cO,AV.pure,cp j6]) hK;refine F.wF ?_;rw [F.yc];simp only [pF (x:=.int .i64 _) rfl,aq,bU];have g0:(Heap.alloc Heap.empty (.cells [.int .i64 n])).get 0=some (.cells [.int .i64 n]):=aB _ _;refine ai (qD hx (KM g0) ?_);simp only [aS,reduceAdd,reduceEqDiff,reduceIte];rw [PY];exact gw rfl
theorem wV{l m:List Int}{a b:Int}(ha:l[i]?=some a)(hb:m[i]?=some b):dw (l.drop i) (m.drop i)=if a=b then dw (l.drop (i+1)) (m.drop (i+1)) else decide (a<b):=by
 have h1:=(ki.1 ha).1;have h2:=(ki.1 hb).1;rw [drop_eq_getElem_cons h1,drop_eq_getElem_cons h2];rw [ew h1] at ha;rw [ew h2] at hb;cases ha;cases hb;rfl
theorem fB{x y:Sl Int}(hx:x.l.length<=cM)(Uw:x.l.length=y.l.length){h:Heap}{K:Out->Heap->Bool}(hK:K (.ret (.bool (dw x.l y.l))) h=true):Sem TP 156 [an encI 1 x,an encI 1 y] h K:=by
 refine F.CL ?_;rw [F.Ev];refine aE 0 x.l.length (zero_le _) (fun i e h'=>h'=h/\e 0=an encI 1 x/\e 1=an encI 1 y/\e 5 = .int .i64 (i:Int)/\dw x.l y.l=dw (x.l.drop i) (y.l.drop i)) ⟨rfl,rfl,rfl,rfl,rfl⟩ ?_ ?_
 ·rintro i e h' _ hi ⟨rfl,e0,e1,e5,hl⟩ K' hn gm hr hp;have Bv:i<y.l.length:=by omega
  have hv:x.l[i]?=some x.l[i]:=ew hi;have hw:y.l[i]?=some y.l[i]:=ew Bv;rw [wV hv hw] at hl;generalize x.l[i]=a at hv hl;generalize y.l[i]=b at hw hl;rw [F.fB.aU];simp only [e0,e1,e5,aS,reduceAdd,reduceEqDiff,reduceIte,bp hi,aV x hi,aV y Bv,iW hv,iW hw,cP];by_cases rj:a=b
  ·rw [if_pos rj] at hl;simp only [fC rj,Bool.not_true,aK,aJ hi hx,aq];exact hn _ _ ⟨rfl,e0,e1,rfl,hl⟩
  ·rw [if_neg rj] at hl;simp only [eV rj,Bool.not_false,aL];rw [hr,F.fB.bz];simp only [bP,reduceEqDiff,reduceIte];rw [hl] at hK;exact hK
 ·rintro e h' ⟨rfl,e0,e1,e5,hl⟩ K' gm;rw [F.fB.aU];simp only [e0,e5,aS,reduceAdd,reduceEqDiff,reduceIte,aX];rw [gm,F.fB.aG];rw [drop_of_length_le (dN _)] at hl;rw [hl] at hK;exact hK
theorem FB{a:Int}(hK:K (.ret (.bool false)) h=true):Sem TP 136 [.int .i64 a] h K:=by
 refine F.ye ?_;rw [F.zk];simp only [aS,reduceAdd,reduceEqDiff,reduceIte,beq_self_eq_true,Bool.not_true];exact hK
theorem Ar{a b:Int}(hK:∀ c:Int,(c=0↔a=b)->(c<0↔a<b)->K (.ret (.int .i64 c)) h=true):Sem TP 95 [.int .i64 a,.int .i64 b] h K:=by
 refine F.vg ?_;rw [F.wG];refine ai (FB ?_);simp only [aS,reduceAdd,reduceEqDiff,reduceIte];refine ai (FB ?_);simp only [aS,reduceAdd,reduceEqDiff,reduceIte];by_cases h1:a<b
 ·simp only [fC h1,aL];exact hK _ (by omega) (by omega)
 ·simp only [eV h1,aK];by_cases h2:b<a
  ·simp only [fC h2,aL];exact hK _ (by omega) (by omega)
  ·simp only [eV h2,aK];exact hK _ (by omega) (by omega)
theorem Dm{x y:Sl Int}(hx:x.l.length<=cM)(Uw:x.l.length=y.l.length)(hK:∀ c:Int,decide (0<=c) = !(dw x.l y.l)->K (.ret (.int .i64 c)) h=true):Sem TP 55 [an encI 1 x,an encI 1 y] h K:=by
 refine F.jm ?_;rw [F.jE];simp only [aS,reduceAdd,reduceEqDiff,reduceIte];refine aE 0 x.l.length (zero_le _) (fun i e h'=>h'=h/\e 0=an encI 1 x/\e 1=an encI 1 y/\e 9=an encI 1 x/\e 10 = .int .i64 (x.l.length:Int)/\e 11 = .int .i64 (i:Int)/\dw x.l y.l=dw (x.l.drop i) (y.l.drop i)) ⟨rfl,rfl,rfl,rfl,rfl,rfl,rfl⟩ ?_ ?_
 ·rintro i e h' _ hi ⟨rfl,e0,e1,e9,jF,oX,hl⟩ K' hn gm hr hp;have Bv:i<y.l.length:=by omega
  have hv:x.l[i]?=some x.l[i]:=ew hi;have hw:y.l[i]?=some y.l[i]:=ew Bv;rw [wV hv hw] at hl;generalize x.l[i]=a at hv hl;generalize y.l[i]=b at hw hl;rw [F.bE.aU];simp only [e0,e1,e9,jF,oX,aS,reduceAdd,reduceEqDiff,reduceIte,bp hi,aV x hi,aV y Bv,iW hv,iW hw,eV (by omega:¬ (y.l.length:Int)<=(i:Int))];refine ai (Ar fun c c1 c2=>?_);simp only [aS,reduceAdd,reduceEqDiff,reduceIte,cP];by_cases rj:a=b
  ·rw [if_pos rj] at hl;simp only [fC (c1.2 rj),Bool.not_true,aK,aJ hi hx,aq];exact hn _ _ ⟨rfl,e0,e1,e9,jF,rfl,hl⟩
  ·rw [if_neg rj] at hl;simp only [eV (fun h=>rj (c1.1 h)),Bool.not_false,aL];rw [hr,F.bE.bz];simp only [bP,reduceEqDiff,reduceIte];refine hK c ?_;rw [hl];by_cases hlt:a<b
   ·rw [fC hlt,eV (by have:=c2.2 hlt;omega)];rfl
   ·rw [eV hlt,fC (by have:=mt c2.1 hlt;omega)];rfl
 ·rintro e h' ⟨rfl,e0,e1,e9,jF,oX,hl⟩ K' gm;rw [F.bE.aU];simp only [jF,oX,aS,reduceAdd,reduceEqDiff,reduceIte,aX];rw [gm,F.bE.aG];simp only [e0,e1,aS,reduceAdd,reduceEqDiff,reduceIte,eV (by omega:¬ (x.l.length:Int)<(y.l.length:Int))];rw [drop_of_length_le (dN _)] at hl;exact hK 0 (by rw [hl];rfl)
structure View {α:Type} (enc:α->List AV) (sz:Nat) (a:AV) (l:List α):Prop where
 len:∀ h:Heap,bX .slice a h=some (.int .i64 (l.length:Int))
 at_:∀ (i:Nat) (v:α),l[i]?=some v->∃ cs o,(∀ k:IntKind,dM sz a (.int k (i:Int))=some (.dQ cs o))/\(∀ h:Heap,ah (some sz) (.dQ cs o) h=some (.agg (enc v)))/\∀ (m:Nat),m<sz->∀ h:Heap,ah none (.dQ cs (o+m)) h=(enc v)[m]?
theorem PZ{enc:α->List AV}(he:∀ a,(enc a).length=sz)(x:Sl α):View enc sz (an enc sz x) x.l where
 len h:=H9 x h
 at_ i v hv:=⟨x.l.flatMap enc,i*sz,fun k=>aV x (ki.1 hv).1,fun h=>dx he hv,fun m hm h=>fH he hv hm⟩
theorem Nv{enc:α->List AV}(he:∀ a,(enc a).length=sz)(x:Sl α)(hi:i<=x.l.length) :
  ∃ a,(∀ k:IntKind,iT (some sz) (an enc sz x) none (some (.int k (i:Int)))=some a)/\View enc sz a (x.l.take i):=by
 cases x with
 |none=>
  simp only [Sl.Vo,length_nil,le_zero_eq] at hi;subst hi;exact ⟨.ay,fun k=>by simp [iT,an,lH,pN,asNat],⟨fun h=>rfl,fun j v hv=>by simp at hv⟩⟩
 |some l=>
  simp only [Sl.Kn] at hi ⊢;refine ⟨.ax (l.flatMap enc) 0 i sz,fun k=>?_,⟨fun h=>by simp [bX,Nat.min_eq_left hi],fun j v hv=>?_⟩⟩
  ·simp [iT,an,lH,pN,asNat,hi]
  ·have hj:j<i:=by have:=(ki.1 hv).1;rw [length_take] at this;omega
   rw [getElem?_take_of_lt hj] at hv;exact ⟨l.flatMap enc,j*sz,fun k=>by simp [dM,asNat,hj],fun h=>dx he hv,fun m hm h=>fH he hv hm⟩
def aR(r:Rel):List AV:=[.str r.name,.int .i64 r.arity,an cZ 1 r.aO]
theorem dU(r:Rel):(aR r).length=3:=rfl
theorem tQ(r:Rel):AV.cO (aR r)=true:=by simp [aR,AV.cO,AV.pure,cp mN]
theorem fP(r:Rel):bw (aR r)=true:=by unfold aR;simp only [bw,fT,Bool.and_true];rfl
def au(s:cN):List AV:=[.int .i64 s.size,an aR 3 s.aF]
theorem eO(s:cN):AV.cO (au s)=true:=by simp [au,AV.cO,AV.pure,cp tQ]
theorem cA(s:cN):bw (au s)=true:=by unfold au;simp only [bw,fT,Bool.and_true];rfl
theorem nT(h:∀ j,j<n->p j=true):EF p n=true:=by
 rw [EF,List.all_eq_true];exact fun x hx=>h x (mem_range.1 hx)
theorem jh(hi:i<n)(h:p i=false):EF p n=false:=by
 rw [eq_false_iff];intro hh;rw [EF,List.all_eq_true] at hh;have:=hh i (mem_range.2 hi);rw [h] at this;cases this
theorem yy(h:EF p n=true)(hi:i<n):p i=true:=by
 rw [EF,List.all_eq_true] at h;exact h i (mem_range.2 hi)
theorem Ml{l:List (Sl Int)}(h:lZ n k l i=true)(ht:l[i]?=some t):t.l.length=k:=by
 unfold lZ at h;rw [ht] at h;simp only [and_eq_true,decide_eq_true_eq] at h;exact h.1
theorem dh{n k:Nat}{r:Rel}(hr:r.ok)(ha:r.arity=(k:Int)){h:Heap}{K:Out->Heap->Bool}(hK:K (.ret (.bool (yq n k r.aO.l))) h=true):Sem TP 109 [.int .i64 (n:Int),.agg (aR r)] h K:=by
 refine Sem.data (r:=.bool (yq n k r.aO.l)) ?_ (by simp [AV.cO,AV.pure,tQ]) hK;clear hK;refine F.zh ?_;rw [F.AZ];have b0:(Heap.alloc Heap.empty (.cells (aR r))).get 0=some (.cells (aR r)):=aB _ _;simp only [c8 (fP r),aq,bU];generalize (Heap.alloc Heap.empty (.cells (aR r)))=H at b0 ⊢;have fin:∀ b:Bool,b=yq n k r.aO.l->pU (.bool (yq n k r.aO.l)) (.ret (.bool b)) H=true:=fun b hb=>by rw [hb];exact gw rfl
 simp only [aS,reduceAdd,reduceEqDiff,reduceIte,ak b0,aR];refine aE 0 r.aO.l.length (zero_le _) (fun i e h'=>h'=H/\e 0 = .int .i64 (n:Int)/\e 3 = .ptr 0 0/\e 8=an cZ 1 r.aO/\e 9 = .int .i64 (r.aO.l.length:Int)/\e 10 = .int .i64 (i:Int)/\∀ j,j<i->lZ n k r.aO.l j=true) ⟨rfl,rfl,rfl,rfl,rfl,rfl,fun j hj=>by omega⟩ ?_ ?_
 ·rintro i e h' _ hi ⟨rfl,e0,e3,e8,e9,jF,ht⟩ K' hn gm I6 hp;have hv:r.aO.l[i]?=some r.aO.l[i]:=ew hi;generalize r.aO.l[i]=t at hv;have hto:t.l.length<=cM:=hr.2.2 t (iq hv)
  have bad:lZ n k r.aO.l i=false->F.dh.cS (pU (.bool (yq n k r.aO.l))) .ret ⟨af e 4 (.bool false),42,[],h'⟩=true:=fun hb=>by
   rw [F.dh.bz];simp only [bP,reduceEqDiff,reduceIte];exact fin _ (jh hi hb).symm
  rw [F.dh.aU];simp only [e0,e3,e8,e9,jF,aS,reduceAdd,reduceEqDiff,reduceIte,bp hi,aV r.aO hi,ij hv,ak b0,aR,cP,ha];by_cases h1:t.l.length=k
  ·simp only [fC (by omega:(t.l.length:Int)=(k:Int)),Bool.not_true,aK];refine ai (tP hto ?_);simp only [aS,reduceAdd,reduceEqDiff,reduceIte]
   cases h2:jy n t.l with
   |false=>
    simp only [Bool.not_false,aL];rw [I6,F.dh.bz];simp only [bP,reduceEqDiff,reduceIte];exact fin _ (jh hi (by simp [lZ,hv,h2])).symm
   |true=>
    simp only [Bool.not_true,aK]
    cases i with
    |zero=>
     simp only [show decide ((0:Int)<((0:Nat):Int))=false from rfl,aK,aJ hi hr.2.1,aq];refine hn _ _ ⟨rfl,e0,e3,e8,e9,rfl,fun j hj=>?_⟩;obtain rfl:j=0:=by omega
     simp [lZ,hv,h1,h2]
    |succ i=>
     have hi0:i<r.aO.l.length:=(by omega);have DR:r.aO.l[i]?=some r.aO.l[i]:=ew hi0;generalize r.aO.l[i]=p at DR;have sE:p.l.length=k:=Ml (ht i (by omega)) DR;have Vc:p.l.length<=cM:=hr.2.2 p (iq DR)
     have I4:aI .sub (.int .i64 ((i+1:Nat):Int)) (.int .i64 1)=some (.int .i64 (i:Int)):=by
      have:=hr.2.1;unfold cM at this;rw [uu (by omega) (by omega)];congr 2;omega
     simp only [fC (by omega:(0:Int)<((i+1:Nat):Int)),aL,aS,reduceAdd,reduceEqDiff,reduceIte,e3,ak b0,aR,I4,aV r.aO hi0,ij DR];refine ai (Dm Vc (by omega) fun c hc=>?_);simp only [aS,reduceAdd,reduceEqDiff,reduceIte,hc]
     cases h3:dw p.l t.l with
     |false=>
      simp only [Bool.not_false,aL];rw [I6,F.dh.bz];simp only [bP,reduceEqDiff,reduceIte];exact fin _ (jh hi (by simp [lZ,hv,DR,h3])).symm
     |true=>
      simp only [Bool.not_true,aK,aJ hi hr.2.1,aq];refine hn _ _ ⟨rfl,e0,e3,e8,e9,rfl,fun j hj=>?_⟩;by_cases Gl:j<i+1
      ·exact ht j Gl
      ·obtain rfl:j=i+1:=by omega
       simp [lZ,hv,DR,h1,h2,h3]
  ·simp only [eV (by omega:¬ (t.l.length:Int)=(k:Int)),Bool.not_false,aL];rw [I6,F.dh.bz];simp only [bP,reduceEqDiff,reduceIte];exact fin _ (jh hi (by simp [lZ,hv,h1])).symm
 ·rintro e h' ⟨rfl,e0,e3,e8,e9,jF,ht⟩ K' gm;rw [F.dh.aU];simp only [e9,jF,aS,reduceAdd,reduceEqDiff,reduceIte,aX];rw [gm,F.dh.aG];exact fin _ (nT ht).symm
theorem fI{n:Nat}(h1:1<=n)(h2:n<=64){r:Rel}(hr:r.ok){h:Heap}{K:Out->Heap->Bool}(hK:K (.ret (.bool (nq n r))) h=true):Sem TP 115 [.int .i64 (n:Int),.agg (aR r)] h K:=by
 refine Sem.data (r:=.bool (nq n r)) ?_ (by simp [AV.cO,AV.pure,tQ]) hK;clear hK;refine F.Eu ?_;rw [F.GF];have b0:(Heap.alloc Heap.empty (.cells (aR r))).get 0=some (.cells (aR r)):=aB _ _;simp only [c8 (fP r),aq,bU];generalize (Heap.alloc Heap.empty (.cells (aR r)))=H at b0 ⊢;have fin:∀ b:Bool,b=nq n r->pU (.bool (nq n r)) (.ret (.bool b)) H=true:=fun b hb=>by rw [hb];exact gw rfl
 simp only [aS,reduceAdd,reduceEqDiff,reduceIte,ak b0,aR];refine ai (ep ?_);simp only [aS,reduceAdd,reduceEqDiff,reduceIte]
 cases hn:ej r.name with
 |false=>simp only [Bool.not_false,aL];exact fin _ (by simp [nq,hn])
 |true=>
 simp only [Bool.not_true,aK,aS,reduceAdd,reduceEqDiff,reduceIte,ak b0,aR];by_cases ha:r.arity<0
 ·simp only [fC ha,aL];exact fin _ (by rw [nq,eV (by omega:¬ 0<=r.arity)];simp)
 simp only [eV ha,aK];by_cases P0:12<r.arity
 ·simp only [fC P0,aL];exact fin _ (by rw [nq,eV (by omega:¬ r.arity<=12)];simp)
 simp only [eV P0,aK];obtain ⟨k,hk⟩:∃ k:Nat,r.arity=(k:Int):=⟨r.arity.toNat,by omega⟩
 rw [hk];refine ai (g8 h1 h2 (show k<=cM by unfold cM;omega) fun v v1 v2=>?_);simp only [aS,reduceAdd,reduceEqDiff,reduceIte]
 have P4:nq n r=(decide (n ^ k<=4096)&&yq n k r.aO.l):=by
  rw [nq,hn,fC (by omega:0<=r.arity),fC (by omega:r.arity<=12),hk];rfl
 replace fin:∀ b:Bool,b=(decide (n ^ k<=4096)&&yq n k r.aO.l)->pU (.bool (nq n r)) (.ret (.bool b)) H=true:=fun b hb=>fin b (hb.trans P4.symm);by_cases hc:n ^ k<=4096
 ·have:=v1 hc;simp only [eV (by omega:¬ (4096:Int)<(v:Int)),aK];replace fin:∀ b:Bool,b=yq n k r.aO.l->pU (.bool (nq n r)) (.ret (.bool b)) H=true:=fun b hb=>fin b (by rw [fC hc,Bool.true_and];exact hb);refine aE 0 r.aO.l.length (zero_le _) (fun i e h'=>h'=H/\e 0 = .int .i64 (n:Int)/\e 3 = .ptr 0 0/\e 5 = .int .i64 (i:Int)/\∀ j,j<i->lZ n k r.aO.l j=true) ⟨rfl,rfl,rfl,rfl,fun j hj=>by omega⟩ ?_ ?_
  ·rintro i e h' _ hi ⟨rfl,e0,e3,e5,ht⟩ K' hn gm I6 hp;have hv:r.aO.l[i]?=some r.aO.l[i]:=ew hi;generalize r.aO.l[i]=t at hv;have hto:t.l.length<=cM:=hr.2.2 t (iq hv);rw [F.fI.aU];simp only [e0,e3,e5,aS,reduceAdd,reduceEqDiff,reduceIte,ak b0,aR,bp hi,aV r.aO hi,ij hv,cP,hk];by_cases q1:t.l.length=k
   ·simp only [fC (by omega:(t.l.length:Int)=(k:Int)),Bool.not_true,aK];refine ai (gN hto ?_);simp only [aS,reduceAdd,reduceEqDiff,reduceIte]
    cases q2:jy n t.l with
    |false=>
     simp only [Bool.not_false,aL];rw [I6,F.fI.bz];simp only [bP,reduceEqDiff,reduceIte];exact fin _ (jh hi (by simp [lZ,hv,q2])).symm
    |true=>
     simp only [Bool.not_true,aK]
     cases i with
     |zero=>
      simp only [show decide ((0:Int)<((0:Nat):Int))=false from rfl,aK,aJ hi hr.2.1,aq];refine hn _ _ ⟨rfl,e0,e3,rfl,fun j hj=>?_⟩;obtain rfl:j=0:=by omega
      simp [lZ,hv,q1,q2]
     |succ i=>
      have hi0:i<r.aO.l.length:=(by omega);have DR:r.aO.l[i]?=some r.aO.l[i]:=ew hi0;generalize r.aO.l[i]=p at DR;have sE:p.l.length=k:=Ml (ht i (by omega)) DR;have Vc:p.l.length<=cM:=hr.2.2 p (iq DR)
      have I4:aI .sub (.int .i64 ((i+1:Nat):Int)) (.int .i64 1)=some (.int .i64 (i:Int)):=by
       have:=hr.2.1;unfold cM at this;rw [uu (by omega) (by omega)];congr 2;omega
      simp only [fC (by omega:(0:Int)<((i+1:Nat):Int)),aL,aS,reduceAdd,reduceEqDiff,reduceIte,e3,e5,ak b0,aR,I4,aV r.aO hi0,aV r.aO hi,ij DR,ij hv];refine ai (fB Vc (by omega) ?_);simp only [aS,reduceAdd,reduceEqDiff,reduceIte]
      cases q3:dw p.l t.l with
      |false=>
       simp only [Bool.not_false,aL];rw [I6,F.fI.bz];simp only [bP,reduceEqDiff,reduceIte];exact fin _ (jh hi (by simp [lZ,hv,DR,q3])).symm
      |true=>
       simp only [Bool.not_true,aK,aJ hi hr.2.1,aq];refine hn _ _ ⟨rfl,e0,e3,rfl,fun j hj=>?_⟩;by_cases Gl:j<i+1
       ·exact ht j Gl
       ·obtain rfl:j=i+1:=by omega
        simp [lZ,hv,DR,q1,q2,q3]
   ·simp only [eV (by omega:¬ (t.l.length:Int)=(k:Int)),Bool.not_false,aL];rw [I6,F.fI.bz];simp only [bP,reduceEqDiff,reduceIte];exact fin _ (jh hi (by simp [lZ,hv,q1])).symm
  ·rintro e h' ⟨rfl,e0,e3,e5,ht⟩ K' gm;rw [F.fI.aU];simp only [e3,e5,aS,reduceAdd,reduceEqDiff,reduceIte,ak b0,aR,aX];rw [gm,F.fI.aG];exact fin _ (nT ht).symm
 ·have:=v2 (by omega);simp only [fC (by omega:(4096:Int)<(v:Int)),aL];exact fin _ (by rw [eV hc];rfl)
def tT{α:Type}(p:α->Bool):List α->Nat->Int
 |[],_=>-1
 |x :: l,i=>if p x=true then (i:Int) else tT p l (i+1)
def jA{α:Type}(p:α->Bool)(l:List α):Int:=tT p l 0
theorem I7{p:α->Bool}{l:List α}{v:α}(hv:l[i]?=some v):tT p (l.drop i) i=if p v=true then (i:Int) else tT p (l.drop (i+1)) (i+1):=by
 have h1:=(ki.1 hv).1;rw [drop_eq_getElem_cons h1];rw [ew h1] at hv;cases hv;rfl
theorem FC{α:Type}(p:α->Bool):∀ (l:List α) (i:Nat),decide (0<=tT p l i)=l.any p
 |[],i=>rfl
 |x :: l,i=>by
  rw [tT,any_cons]
  cases hp:p x with
  |true=>simp
  |false=>simpa using FC p l (i+1)
theorem KN(p:α->Bool)(l:List α):decide (0<=jA p l)=l.any p:=FC p l 0
theorem vT{x:AV}{l:List Rel}(hv:View aR 3 x l)(hl:l.length<=cM){a b:List AV}{p:Rel->Bool}
  (hp:∀ (v:Rel) (h':Heap),bC h h'->∀ (K:Out->Heap->Bool),(∀ l9,bC h' l9->K (.ret (.bool (p v))) l9=true)->Sem TP g (a++([.agg (aR v)]++b)) h' K)
  (hK:∀ h',bC h h'->K (.ret (.int .i64 (jA p l))) h'=true):Sem TP 76 [x,.func g a b] h K:=by
 refine F.jR ?_;rw [F.ke];simp only [hv.len,aq];refine aE 0 l.length (zero_le _) (fun i e h'=>bC h h'/\e 0=x/\e 1 = .func g a b/\e 7 = .int .i64 (l.length:Int)/\e 8 = .int .i64 (i:Int)/\jA p l=tT p (l.drop i) i) ⟨bC.refl _,rfl,rfl,rfl,rfl,rfl⟩ ?_ ?_
 ·rintro i e h' _ hi ⟨hx,e0,e1,e7,e8,ht⟩ K' hn gm hr B2;have Ti:l[i]?=some l[i]:=ew hi;generalize l[i]=v at Ti;obtain ⟨cs,o,v1,v2,_⟩:=hv.at_ i v Ti;rw [I7 Ti] at ht;rw [F.bu.aU];simp only [e0,e1,e7,e8,aS,reduceAdd,reduceEqDiff,reduceIte,bp hi,v1,v2,fA];refine ai (hp v h' hx _ fun l9 fY=>?_);simp only [aS,reduceAdd,reduceEqDiff,reduceIte]
  cases hq:p v with
  |true=>
   simp only [aL];rw [hr,F.bu.bz];simp only [bP,reduceEqDiff,reduceIte];rw [if_pos hq] at ht;rw [ht] at hK;exact hK _ (hx.trans fY)
  |false=>
   simp only [aK,aJ hi hl,aq];rw [if_neg (by rw [hq];decide)] at ht;exact hn _ _ ⟨hx.trans fY,e0,e1,e7,rfl,ht⟩
 ·rintro e h' ⟨hx,e0,e1,e7,e8,ht⟩ K' gm;rw [F.bu.aU];simp only [e0,e1,e7,e8,aS,reduceAdd,reduceEqDiff,reduceIte,aX];rw [gm,F.bu.aG];rw [drop_of_length_le (dN _)] at ht;rw [ht] at hK;exact hK _ hx
theorem zC{x:AV}{l:List Rel}(hv:View aR 3 x l)(hl:l.length<=cM){a b:List AV}{p:Rel->Bool}
  (hp:∀ (v:Rel) (h':Heap),bC h h'->∀ (K:Out->Heap->Bool),(∀ l9,bC h' l9->K (.ret (.bool (p v))) l9=true)->Sem TP g (a++([.agg (aR v)]++b)) h' K)
  (hK:∀ h',bC h h'->K (.ret (.bool (l.any p))) h'=true):Sem TP 110 [x,.func g a b] h K:=by
 refine F.jo ?_;rw [F.jx];refine ai (vT hv hl hp fun h' hx=>?_);simp only [aS,reduceAdd,reduceEqDiff,reduceIte];rw [KN];exact hK _ hx
theorem Mm{s:cN}{r:Rel}(hr:s.aF.l[i]?=some r):ah (some 3) (.dQ (s.aF.l.flatMap aR) (i*3)) h=some (.agg (aR r)):=dx dU hr
theorem Tj{r v:Rel}(hb:h.get b=some (.cells (aR r)))(MD:b<h.next)(h':Heap)(hx:bC h h')(K:Out->Heap->Bool)(hK:∀ l9,bC h' l9->K (.ret (.bool (v.name==r.name))) l9=true) :
  Sem TP 111 ([]++([.agg (aR v)]++[.ptr b 0])) h' K:=by
 refine F.yd ?_;rw [F.zi];have eX:h'.get b=some (.cells (aR r)):=by rw [hx.get b MD];exact hb
 have fY:bC h' (Heap.alloc h' (.cells (aR v))):=bC.alloc _ _;have g0:(Heap.alloc h' (.cells (aR v))).get h'.next=some (.cells (aR v)):=aB _ _
 have g1:(Heap.alloc h' (.cells (aR v))).get b=some (.cells (aR r)):=by rw [fY.get b (Nat.lt_of_lt_of_le MD hx.next)];exact eX
 simp only [c8 (fP v),aq];generalize (Heap.alloc h' (.cells (aR v)))=H at g0 g1 fY ⊢;simp only [aS,reduceAdd,reduceEqDiff,reduceIte,ak g0,ak g1];rw [show (aR v)[0]?=some (.str v.name) from rfl,show (aR r)[0]?=some (.str r.name) from rfl];simp only [aS,reduceAdd,reduceEqDiff,reduceIte];exact hK _ fY
theorem dJ{s:cN}(hs:s.ok){h:Heap}{K:Out->Heap->Bool}(hK:K (.ret (.bool (de s))) h=true):Sem TP 64 [.agg (au s)] h K:=by
 refine Sem.data (r:=.bool (de s)) ?_ (by simp [AV.cO,AV.pure,eO]) hK;clear hK;refine F.AU ?_;rw [F.CI];have b0:(Heap.alloc Heap.empty (.cells (au s))).get 0=some (.cells (au s)):=aB _ _;have bn:1<=(Heap.alloc Heap.empty (.cells (au s))).next:=dN _
 simp only [c8 (cA s),aq,bU];generalize (Heap.alloc Heap.empty (.cells (au s)))=H at b0 bn ⊢;have fin:∀ (b:Bool) (H:Heap),b=de s->pU (.bool (de s)) (.ret (.bool b)) H=true:=fun b H hb=>by rw [hb];exact gw rfl
 generalize pU (.bool (de s))=K at fin ⊢;simp only [aS,reduceAdd,reduceEqDiff,reduceIte,ak b0,au];by_cases s1:s.size<1
 ·simp only [fC s1,aL];exact fin _ _ (by rw [de,eV (by omega:¬ 1<=s.size),Bool.false_and])
 simp only [eV s1,aK];by_cases s2:64<s.size
 ·simp only [fC s2,aL];exact fin _ _ (by rw [de,eV (by omega:¬ s.size<=64),Bool.false_and,Bool.and_false])
 simp only [eV s2,aK];by_cases s3:8<s.aF.l.length
 ·simp only [fC (by omega:(8:Int)<(s.aF.l.length:Int)),aL];exact fin _ _ (by rw [de,eV (by omega:¬ s.aF.l.length<=8),Bool.false_and,Bool.and_false,Bool.and_false])
 simp only [eV (by omega:¬ (8:Int)<(s.aF.l.length:Int)),aK]
 replace fin:∀ (b:Bool) (H:Heap),b=EF (oL s) s.aF.l.length->K (.ret (.bool b)) H=true:=fun b H hb=>fin b H (by
  rw [de,fC (by omega:1<=s.size),fC (by omega:s.size<=64),fC (by omega:s.aF.l.length<=8)];exact hb)
 obtain ⟨n,hn⟩:∃ n:Nat,s.size=(n:Int):=⟨s.size.toNat,by omega⟩
 have DQ:s.size.toNat=n:=by omega
 refine aE 0 s.aF.l.length (zero_le _) (fun i e h'=>h'.get 0=some (.cells (au s))/\1<=h'.next/\e 1 = .ptr 0 0/\e 20=an aR 3 s.aF/\e 21 = .int .i64 (s.aF.l.length:Int)/\e 22 = .int .i64 (i:Int)/\∀ j,j<i->oL s j=true) ⟨b0,bn,rfl,rfl,rfl,rfl,fun j hj=>by omega⟩ ?_ ?_
 ·rintro i e h' _ hi ⟨q0,qn,e1,GR,Al,A9,ht⟩ K' pg gm I6 hp;have hv:s.aF.l[i]?=some s.aF.l[i]:=ew hi;generalize s.aF.l[i]=r at hv;have VZ:r.ok:=hs.2 r (iq hv);have GZ:oL s i=(nq n r&&!((s.aF.l.take i).any fun q=>q.name==r.name)):=by rw [oL,hv,DQ]
  have bad:∀ (e:Env) (h:Heap),oL s i=false->e 2 = .bool false->F.dJ.cS K .ret ⟨e,63,[],h⟩=true:=fun e h hb he=>by
   rw [F.dJ.bz,he];exact fin _ _ (jh hi hb).symm
  obtain ⟨H,iM,g1,go,gn⟩:=cF (h:=h') (zs:=[.str [],.int .i64 0,.ay]) (cs:=aR r) (n:=3) rfl rfl (fP r);have p0:H.get 0=some (.cells (au s)):=by rw [go _ (by omega)];exact q0
  rw [F.dJ.aU];simp only [e1,GR,Al,A9,aS,reduceAdd,reduceEqDiff,reduceIte,bp hi,aV s.aF hi,Mm hv,iM,ak g1,cV (dU r)];rw [show (aR r)[0]?=some (.str r.name) from rfl];simp only [aS,reduceAdd,reduceEqDiff,reduceIte];refine ai (dS ?_);simp only [aS,reduceAdd,reduceEqDiff,reduceIte]
  cases w1:ej r.name with
  |false=>
   simp only [Bool.not_false,aL];rw [I6];exact bad _ _ (by rw [GZ,nq,w1];simp) rfl
  |true=>
  simp only [Bool.not_true,aK,aS,reduceAdd,reduceEqDiff,reduceIte,ak g1];rw [show (aR r)[1]?=some (.int .i64 r.arity) from rfl];simp only [aS,reduceAdd,reduceEqDiff,reduceIte];by_cases w2:r.arity<0
  ·simp only [fC w2,aL];rw [I6];exact bad _ _ (by rw [GZ,nq,eV (by omega:¬ 0<=r.arity)];simp) rfl
  simp only [eV w2,aK];by_cases w3:12<r.arity
  ·simp only [fC w3,aL];rw [I6];exact bad _ _ (by rw [GZ,nq,eV (by omega:¬ r.arity<=12)];simp) rfl
  simp only [eV w3,aK,ak p0,aS,reduceAdd,reduceEqDiff,reduceIte,e1];rw [show (au s)[0]?=some (.int .i64 s.size) from rfl];obtain ⟨k,hk⟩:∃ k:Nat,r.arity=(k:Int):=⟨r.arity.toNat,by omega⟩
  simp only [aS,reduceAdd,reduceEqDiff,reduceIte,hn,hk];refine ai (ef (by omega) (by omega) (show k<=cM by unfold cM;omega) ?_);simp only [aS,reduceAdd,reduceEqDiff,reduceIte]
  have Tk:oL s i=(decide (n ^ k<=4096)&&yq n k r.aO.l&&!((s.aF.l.take i).any fun q=>q.name==r.name)):=by
   rw [GZ,nq,w1,fC (by omega:0<=r.arity),fC (by omega:r.arity<=12),hk];simp
  by_cases w4:n ^ k<=4096
  ·simp only [KL,if_pos w4,eV (by omega:¬ ((n ^ k:Nat):Int)<0),aK,aS,reduceAdd,reduceEqDiff,reduceIte,ak p0,ak g1,cV (dU r),e1];rw [show (au s)[0]?=some (.int .i64 s.size) from rfl];simp only [aS,reduceAdd,reduceEqDiff,reduceIte,hn];refine ai (dh VZ hk ?_);simp only [aS,reduceAdd,reduceEqDiff,reduceIte]
   cases w5:yq n k r.aO.l with
   |false=>
    simp only [Bool.not_false,aL];rw [I6];exact bad _ _ (by rw [Tk,w5];simp) rfl
   |true=>
   simp only [Bool.not_true,aK,aS,reduceAdd,reduceEqDiff,reduceIte,ak p0,e1];rw [show (au s)[1]?=some (an aR 3 s.aF) from rfl];obtain ⟨a,ha,W5⟩:=Nv dU s.aF (Nat.le_of_lt hi);simp only [aS,reduceAdd,reduceEqDiff,reduceIte,ha];have hlt:(s.aF.l.take i).length<=cM:=by rw [length_take];have:=hs.1;omega
   refine ai (zC (p:=fun q=>q.name==r.name) W5 hlt (fun v h2 fY K2 Un=>Tj g1 (by omega) h2 fY K2 Un) fun h2 fY=>?_);simp only [aS,reduceAdd,reduceEqDiff,reduceIte]
   cases w6:(s.aF.l.take i).any fun q=>q.name==r.name with
   |true=>
    simp only [aL];rw [I6];exact bad _ _ (by rw [Tk,w6];simp) rfl
   |false=>
    simp only [aK,aJ hi hs.1,aq,A9];refine pg _ _ ⟨by rw [fY.get 0 (by omega)];exact p0,by have:=fY.next;omega,e1,GR,Al,rfl,fun j hj=>?_⟩;by_cases Gl:j<i
    ·exact ht j Gl
    ·obtain rfl:j=i:=by omega
     rw [Tk,w5,w6,fC w4];rfl
  ·simp only [KL,if_neg w4,fC (by omega:(-1:Int)<0),aL];rw [I6];exact bad _ _ (by rw [Tk,eV w4];simp) rfl
 ·rintro e h' ⟨q0,qn,e1,GR,Al,A9,ht⟩ K' gm;rw [F.dJ.aU];simp only [Al,A9,aS,reduceAdd,reduceEqDiff,reduceIte,aX];rw [gm,F.dJ.aG];exact fin _ _ (nT ht).symm
theorem P7{p:α->Bool}{l:List α}{a:α}(ha:l[i]?=some a)(hi:i<k)(hp:p a=true):(l.take k).any p=true:=by
 rw [List.any_eq_true];exact ⟨a,iq (by rw [getElem?_take_of_lt hi];exact ha),hp⟩
theorem qE{s:cN}{r:Rel}(hr:s.aF.l[i]?=some r):ah none (.dQ (s.aF.l.flatMap aR) (i*3)) h=some (.str r.name):=by
 have:=fH (h:=h) dU hr (k:=0) (by omega);rw [Nat.add_zero] at this;rw [this];rfl
theorem cr{s:cN}(hs:s.ok){h:Heap}{K:Out->Heap->Bool}(hK:K (.ret (.bool (de s))) h=true):Sem TP 66 [.agg (au s)] h K:=by
 refine Sem.data (r:=.bool (de s)) ?_ (by simp [AV.cO,AV.pure,eO]) hK;clear hK;refine F.AT ?_;rw [F.CF];have b0:(Heap.alloc Heap.empty (.cells (au s))).get 0=some (.cells (au s)):=aB _ _;simp only [c8 (cA s),aq,bU];generalize (Heap.alloc Heap.empty (.cells (au s)))=H at b0 ⊢;have fin:∀ (b:Bool),b=de s->pU (.bool (de s)) (.ret (.bool b)) H=true:=fun b hb=>by rw [hb];exact gw rfl
 generalize pU (.bool (de s))=K at fin ⊢;have ls:ah none (.ptr 0 0) H=some (.int .i64 s.size):=by rw [ak b0];rfl
 have lr:ah none (.ptr 0 (0+1)) H=some (an aR 3 s.aF):=by rw [ak b0];rfl
 rw [Nat.zero_add] at lr;simp only [aS,reduceAdd,reduceEqDiff,reduceIte,ls,lr];by_cases s1:s.size<1
 ·simp only [fC s1,aL];exact fin _ (by rw [de,eV (by omega:¬ 1<=s.size),Bool.false_and])
 simp only [eV s1,aK];by_cases s2:64<s.size
 ·simp only [fC s2,aL];exact fin _ (by rw [de,eV (by omega:¬ s.size<=64),Bool.false_and,Bool.and_false])
 simp only [eV s2,aK];by_cases s3:8<s.aF.l.length
 ·simp only [fC (by omega:(8:Int)<(s.aF.l.length:Int)),aL];exact fin _ (by rw [de,eV (by omega:¬ s.aF.l.length<=8),Bool.false_and,Bool.and_false,Bool.and_false])
 simp only [eV (by omega:¬ (8:Int)<(s.aF.l.length:Int)),aK]
 replace fin:∀ (b:Bool),b=EF (oL s) s.aF.l.length->K (.ret (.bool b)) H=true:=fun b hb=>fin b (by
  rw [de,fC (by omega:1<=s.size),fC (by omega:s.size<=64),fC (by omega:s.aF.l.length<=8)];exact hb)
 obtain ⟨n,hn⟩:∃ n:Nat,s.size=(n:Int):=⟨s.size.toNat,by omega⟩
 have DQ:s.size.toNat=n:=by omega
 rw [hn] at ls;refine aE 0 s.aF.l.length (zero_le _) (fun i e h'=>h'=H/\e 1 = .ptr 0 0/\e 3 = .int .i64 (i:Int)/\∀ j,j<i->oL s j=true) ⟨rfl,rfl,rfl,fun j hj=>by omega⟩ ?_ ?_
 ·rintro i e h' _ hi ⟨rfl,e1,e3,ht⟩ K' pg gm I6 hp;have hv:s.aF.l[i]?=some s.aF.l[i]:=ew hi;generalize s.aF.l[i]=r at hv;have VZ:r.ok:=hs.2 r (iq hv);have GZ:oL s i=(nq n r&&!((s.aF.l.take i).any fun q=>q.name==r.name)):=by rw [oL,hv,DQ]
  have bad:∀ (e:Env),oL s i=false->e 2 = .bool false->F.cr.cS K .ret ⟨e,53,[],h'⟩=true:=fun e hb he=>by
   rw [F.cr.bz,he];exact fin _ (jh hi hb).symm
  rw [F.cr.aU];simp only [e1,e3,aS,reduceAdd,reduceEqDiff,reduceIte,ls,lr,bp hi,aV s.aF hi,Mm hv];refine ai (fI (by omega) (by omega) VZ ?_);simp only [aS,reduceAdd,reduceEqDiff,reduceIte]
  cases w1:nq n r with
  |false=>
   simp only [Bool.not_false,aL];rw [I6];exact bad _ (by rw [GZ,w1,Bool.false_and]) rfl
  |true=>
  simp only [Bool.not_true,aK];refine aE 0 i (zero_le _) (fun k e h2=>h2=h'/\e 1 = .ptr 0 0/\e 3 = .int .i64 (i:Int)/\e 4 = .int .i64 (k:Int)/\((s.aF.l.take k).any fun q=>q.name==r.name)=false) ⟨rfl,e1,e3,rfl,rfl⟩ ?_ ?_
  ·rintro k e h2 _ hk ⟨rfl,e1,e3,e4,Ve⟩ K2 oW fY qi DT;have hki:k<s.aF.l.length:=by omega
   have WZ:s.aF.l[k]?=some s.aF.l[k]:=ew hki;generalize s.aF.l[k]=q at WZ;rw [F.cr.dm];simp only [e1,e3,e4,aS,reduceAdd,reduceEqDiff,reduceIte,lr,bp hk,aV s.aF hi,aV s.aF hki,qE hv,qE WZ]
   cases w2:q.name==r.name with
   |true=>
    simp only [aL];rw [qi,F.cr.iR,I6];exact bad _ (by rw [GZ,P7 WZ hk w2];simp) rfl
   |false=>
    simp only [aK,aJ hk (by have:=hs.1;omega),aq];exact oW _ _ ⟨rfl,e1,e3,rfl,yl WZ Ve w2⟩
  ·rintro e h2 ⟨rfl,e1,e3,e4,Ve⟩ K2 fY;rw [F.cr.dm];simp only [e3,e4,aS,reduceAdd,reduceEqDiff,reduceIte,aX];rw [fY,F.cr.cx];simp only [aS,reduceAdd,reduceEqDiff,reduceIte,e3,aJ hi hs.1];refine pg _ _ ⟨rfl,e1,rfl,fun j hj=>?_⟩;by_cases Gl:j<i
   ·exact ht j Gl
   ·obtain rfl:j=i:=by omega
    rw [GZ,w1,Ve];rfl
 ·rintro e h' ⟨rfl,e1,e3,ht⟩ K' gm;rw [F.cr.aU];simp only [e1,e3,aS,reduceAdd,reduceEqDiff,reduceIte,lr,aX];rw [gm,F.cr.aG];exact fin _ (nT ht).symm
def iP(nm:cc)(k:Int)(q:Rel):Bool:=(q.name==nm)&&decide (q.arity=k)
def fQ(nm:cc)(q:Rel):Bool:=q.name==nm
theorem eU{s:cN}(hs:s.ok){nm:cc}{h:Heap}{K:Out->Heap->Bool}(hK:K (.ret (.int .i64 (jA (fQ nm) s.aF.l))) h=true):Sem TP 69 [.agg (au s),.str nm] h K:=by
 refine Sem.data (r:=.int .i64 (jA (fQ nm) s.aF.l)) ?_ (by simp [AV.cO,AV.pure,eO]) hK;clear hK;refine F.CH ?_;rw [F.Er];have b0:(Heap.alloc Heap.empty (.cells (au s))).get 0=some (.cells (au s)):=aB _ _;simp only [c8 (cA s),aq,bU];generalize (Heap.alloc Heap.empty (.cells (au s)))=H at b0 ⊢;have fin:∀ b:Int,b=jA (fQ nm) s.aF.l->pU (.int .i64 (jA (fQ nm) s.aF.l)) (.ret (.int .i64 b)) H=true:=fun b hb=>by rw [hb];exact gw rfl
 have lr:ah none (.ptr 0 1) H=some (an aR 3 s.aF):=by rw [ak b0];rfl
 refine aE 0 s.aF.l.length (zero_le _) (fun i e h'=>h'=H/\e 1 = .str nm/\e 2 = .ptr 0 0/\e 5 = .int .i64 (i:Int)/\jA (fQ nm) s.aF.l=tT (fQ nm) (s.aF.l.drop i) i) ⟨rfl,rfl,rfl,rfl,rfl⟩ ?_ ?_
 ·rintro i e h' _ hi ⟨rfl,e1,e2,e5,ht⟩ K' hn gm hr hp;have hv:s.aF.l[i]?=some s.aF.l[i]:=ew hi;generalize s.aF.l[i]=r at hv;rw [I7 hv] at ht;rw [F.eU.aU];simp only [e1,e2,e5,aS,reduceAdd,reduceEqDiff,reduceIte,lr,bp hi,aV s.aF hi,qE hv]
  cases hq:r.name==nm with
  |true=>
   simp only [aL];rw [hr,F.eU.bz];rw [if_pos (show fQ nm r=true from hq)] at ht;simp only [bP,reduceEqDiff,reduceIte,e5];exact fin _ ht.symm
  |false=>
   simp only [aK,aJ hi hs.1,aq];rw [if_neg (by rw [fQ,hq];decide)] at ht;exact hn _ _ ⟨rfl,e1,e2,rfl,ht⟩
 ·rintro e h' ⟨rfl,e1,e2,e5,ht⟩ K' gm;rw [F.eU.aU];simp only [e1,e2,e5,aS,reduceAdd,reduceEqDiff,reduceIte,lr,aX];rw [gm,F.eU.aG];rw [drop_of_length_le (dN _)] at ht;exact fin _ ht.symm
theorem V1{b1 b2:Nat}{v:Rel}{k:Int}(g1:h.get b1=some (.cells [.str nm]))(g2:h.get b2=some (.cells [.int .i64 k]))(n1:b1<h.next)(n2:b2<h.next)(h':Heap)(hx:bC h h')(K:Out->Heap->Bool)(hK:∀ l9,bC h' l9->K (.ret (.bool (iP nm k v))) l9=true) :
  Sem TP 94 ([]++([.agg (aR v)]++[.ptr b1 0,.ptr b2 0])) h' K:=by
 refine F.zj ?_;rw [F.A0];have fY:bC h' (Heap.alloc h' (.cells (aR v))):=bC.alloc _ _;have g0:(Heap.alloc h' (.cells (aR v))).get h'.next=some (.cells (aR v)):=aB _ _
 have q1:(Heap.alloc h' (.cells (aR v))).get b1=some (.cells [.str nm]):=by rw [fY.get b1 (Nat.lt_of_lt_of_le n1 hx.next),hx.get b1 n1];exact g1
 have q2:(Heap.alloc h' (.cells (aR v))).get b2=some (.cells [.int .i64 k]):=by rw [fY.get b2 (Nat.lt_of_lt_of_le n2 hx.next),hx.get b2 n2];exact g2
 simp only [c8 (fP v),aq];generalize (Heap.alloc h' (.cells (aR v)))=H at g0 q1 q2 fY ⊢;simp only [aS,reduceAdd,reduceEqDiff,reduceIte,ak g0,ak q1,ak q2];rw [show (aR v)[0]?=some (.str v.name) from rfl,show (aR v)[1]?=some (.int .i64 v.arity) from rfl];simp only [aS,reduceAdd,reduceEqDiff,reduceIte,cP];have:=hK _ fY;unfold iP at this
 cases hq:v.name==nm with
 |true=>simp only [aL];rw [hq,Bool.true_and] at this;exact this
 |false=>simp only [aK];rw [hq,Bool.false_and] at this;exact this
theorem rG{s:cN}(hs:s.ok){k:Int}(hK:K (.ret (.int .i64 (jA (iP nm k) s.aF.l))) h=true):Sem TP 53 [.agg (au s),.str nm,.int .i64 k] h K:=by
 refine Sem.data (r:=.int .i64 (jA (iP nm k) s.aF.l)) ?_ (by simp [AV.cO,AV.pure,eO]) hK;clear hK;refine F.CJ ?_;rw [F.Et];simp only [c8 (cA s),pF (x:=.int .i64 _) rfl,pF (x:=.str _) rfl,aq,bU,Heap.aM];have g0:(Heap.alloc (Heap.alloc (Heap.alloc Heap.empty (.cells (au s))) (.cells [.str nm])) (.cells [.int .i64 k])).get 0=some (.cells (au s)):=by simp [Heap.aW,bU]
 have g1:(Heap.alloc (Heap.alloc (Heap.alloc Heap.empty (.cells (au s))) (.cells [.str nm])) (.cells [.int .i64 k])).get 1=some (.cells [.str nm]):=by simp [Heap.aW,bU]
 have g2:(Heap.alloc (Heap.alloc (Heap.alloc Heap.empty (.cells (au s))) (.cells [.str nm])) (.cells [.int .i64 k])).get 2=some (.cells [.int .i64 k]):=by simp [Heap.aW,bU]
 have gn:(Heap.alloc (Heap.alloc (Heap.alloc Heap.empty (.cells (au s))) (.cells [.str nm])) (.cells [.int .i64 k])).next=3:=rfl
 generalize (Heap.alloc (Heap.alloc (Heap.alloc Heap.empty (.cells (au s))) (.cells [.str nm])) (.cells [.int .i64 k]))=H at g0 g1 g2 gn ⊢;have lr:ah none (.ptr 0 1) H=some (an aR 3 s.aF):=by rw [ak g0];rfl
 simp only [aS,reduceAdd,reduceEqDiff,reduceIte,lr];refine ai (vT (PZ dU s.aF) hs.1 (p:=iP nm k) (fun v h2 fY K2 Un=>V1 g1 g2 (by omega) (by omega) h2 fY K2 Un) fun h2 fY=>?_);simp only [aS,reduceAdd,reduceEqDiff,reduceIte];exact gw rfl
theorem qF{s:cN}{r:Rel}(hr:s.aF.l[i]?=some r):ah none (.dQ (s.aF.l.flatMap aR) (i*3+2)) h=some (an cZ 1 r.aO):=by
 rw [fH dU hr (by omega)];rfl
theorem bZ{s:cN}(hs:s.ok){b:Nat}{h:Heap}(hb:h.get b=some (.cells (au s))){K:Out->Heap->Bool}(hK:∀ x,K (.ret (.bool x)) h=true):Sem TP 42 [.slice b 0 1 2] h K:=by
 refine F.En ?_;rw [F.GC];have lr:ah none (.ptr b 1) h=some (an aR 3 s.aF):=by rw [ak hb];rfl
 have ia:dM 2 (.slice b 0 1 2) (.int .i64 ((0:Nat):Int))=some (.ptr b 0):=rfl;have hl:∀ h:Heap,bX .slice (.slice b 0 1 2) h=some (.int .i64 ((1:Nat):Int)):=fun _=>rfl
 have num:∀ e:Env,(∃ x:Int,e 4 = .int .i64 x)->F.bZ.cS K (.exit 0) ⟨e,89,[],h⟩=true:=fun e ⟨x,hx⟩=>by
  rw [F.bZ.aG];simp only [hx,aS,reduceAdd,reduceEqDiff,reduceIte];exact hK _
 refine aE 0 1 (zero_le _) (fun i e h'=>h'=h/\e 0 = .slice b 0 1 2/\(∃ x:Int,e 3 = .int .i64 x)/\(∃ x:Int,e 4 = .int .i64 x)/\e 5 = .int .i64 (i:Int)) ⟨rfl,rfl,⟨0,rfl⟩,⟨0,rfl⟩,rfl⟩ ?_ ?_
 ·rintro i e h' _ hi ⟨rfl,e0,e3,e4,e5⟩ K' hn hx hr hp;obtain rfl:i=0:=by omega
  rw [F.bZ.aU];simp only [e0,e5,hl,ia,lr,aS,reduceAdd,reduceEqDiff,reduceIte,bp hi];by_cases q1:12<s.aF.l.length
  ·simp only [fC (by omega:(12:Int)<(s.aF.l.length:Int)),aL];rw [hr,F.bZ.bz];simp only [bP,reduceEqDiff,reduceIte];exact hK _
  simp only [eV (by omega:¬ (12:Int)<(s.aF.l.length:Int)),aK];refine aE 0 s.aF.l.length (zero_le _) (fun k e h2=>h2=h'/\e 0 = .slice b 0 1 2/\(∃ x:Int,e 3 = .int .i64 x)/\(∃ x:Int,e 4 = .int .i64 x)/\e 5 = .int .i64 ((0:Nat):Int)/\e 6 = .int .i64 (k:Int)) ⟨rfl,e0,e3,e4,e5,rfl⟩ ?_ ?_
  ·rintro k e h2 _ hk ⟨rfl,e0,⟨x3,e3⟩,e4,e5,e6⟩ K2 oW fY qi DT;have hv:s.aF.l[k]?=some s.aF.l[k]:=ew hk;generalize s.aF.l[k]=r at hv;have VZ:r.ok:=hs.2 r (iq hv);obtain ⟨y,hy⟩:=Pm x3 (r.aO.l.length:Int)
   have ret:∀ e:Env,e 2 = .bool false->F.bZ.jP K' .ret ⟨e,89,[],h2⟩=true:=fun e he=>by
    rw [F.bZ.iR,hr,F.bZ.bz,he];exact hK _
   rw [F.bZ.dm];simp only [e0,e3,e5,e6,ia,lr,aS,reduceAdd,reduceEqDiff,reduceIte,bp hk,aV s.aF hk,qF hv,qE hv,hy]
   cases decide ((1500:Int)<y) with
   |true=>
    simp only [aL];rw [qi];exact ret _ rfl
   |false=>
   simp only [aK]
   cases decide ((1000:Int)<(r.name.length:Int)) with
   |true=>
    simp only [aL];rw [qi];exact ret _ rfl
   |false=>
   simp only [aK];refine aE 0 r.aO.l.length (zero_le _) (fun j e h3=>h3=h2/\e 0 = .slice b 0 1 2/\(∃ x:Int,e 3 = .int .i64 x)/\(∃ x:Int,e 4 = .int .i64 x)/\e 5 = .int .i64 ((0:Nat):Int)/\e 6 = .int .i64 (k:Int)/\e 7 = .int .i64 (j:Int)) ⟨rfl,e0,⟨y,rfl⟩,e4,e5,e6,rfl⟩ ?_ ?_
   ·rintro j e h3 _ hj ⟨rfl,e0,e3,⟨x4,e4⟩,e5,e6,e7⟩ K3 hn3 KK WK hp3;have ht:r.aO.l[j]?=some r.aO.l[j]:=ew hj;generalize r.aO.l[j]=t at ht;obtain ⟨z,hz⟩:=Pm x4 (t.l.length:Int);rw [F.bZ.kM];simp only [e0,e4,e5,e6,e7,ia,lr,aS,reduceAdd,reduceEqDiff,reduceIte,aV s.aF hk,qF hv,bp hj,aV r.aO hj,ij ht,hz,aJ hj VZ.2.1];exact hn3 _ _ ⟨rfl,e0,e3,⟨z,rfl⟩,e5,e6,rfl⟩
   ·rintro e h3 ⟨rfl,e0,e3,e4,e5,e6,e7⟩ K3 KK;rw [F.bZ.kM];simp only [e0,e5,e6,e7,ia,lr,aS,reduceAdd,reduceEqDiff,reduceIte,aV s.aF hk,qF hv,aX];rw [KK,F.bZ.ic];simp only [aS,reduceAdd,reduceEqDiff,reduceIte,e6,aJ hk hs.1];exact oW _ _ ⟨rfl,e0,e3,e4,e5,rfl⟩
  ·rintro e h2 ⟨rfl,e0,e3,e4,e5,e6⟩ K2 fY;rw [F.bZ.dm];simp only [e0,e5,e6,ia,lr,aS,reduceAdd,reduceEqDiff,reduceIte,aX];rw [fY,F.bZ.cx];simp only [aS,reduceAdd,reduceEqDiff,reduceIte,e5,aJ hi (show (1:Nat)<=cM by unfold cM;omega)];exact hn _ _ ⟨rfl,e0,e3,e4,rfl⟩
 ·rintro e h' ⟨rfl,e0,e3,e4,e5⟩ K' hx;rw [F.bZ.aU];simp only [e0,e5,hl,aS,reduceAdd,reduceEqDiff,reduceIte,aX];rw [hx];exact num _ e4
theorem Own.k9{enc:α->List AV}{l:List α}(o:Own enc sz k h a l):bw (AV.dB a)=true/\(AV.dB a).length=1/\AV.dB a = [a]:=by cases o<;>exact ⟨rfl,rfl,rfl⟩
def Bd(s:cN)(y:cc×Int):Bool:=match s.aF.l.find? (fQ y.1) with
 |some r=>decide (r.arity=y.2)
 |none=>false
theorem Dp{α:Type}(p:α->Bool):∀ (l:List α) (i:Nat),(tT p l i = -1/\l.find? p=none)\/∃ (j:Nat) (v:α),tT p l i=((i+j:Nat):Int)/\l[j]?=some v/\l.find? p=some v
 |[],i=>.inl ⟨rfl,rfl⟩
 |x :: l,i=>by
  rw [tT,find?_cons]
  cases hp:p x with
  |true=>exact .inr ⟨0,x,by simp,rfl,rfl⟩
  |false=>
   simp only [false_eq_true,if_false];rcases Dp p l (i+1) with ⟨h1,h2⟩|⟨j,v,h1,h2,h3⟩
   ·exact .inl ⟨h1,h2⟩
   ·exact .inr ⟨j+1,v,by rw [h1];congr 1;omega,by simpa using h2,h3⟩
theorem pJ(p:α->Bool)(l:List α):(jA p l = -1/\l.find? p=none)\/∃ (j:Nat) (v:α),jA p l=(j:Int)/\l[j]?=some v/\l.find? p=some v:=by
 rcases Dp p l 0 with h|⟨j,v,h1,h2,h3⟩
 ·exact .inl h
 ·exact .inr ⟨j,v,by rw [jA,h1,Nat.zero_add],h2,h3⟩
theorem zD{s:cN}{r:Rel}(hr:s.aF.l[i]?=some r):ah none (.dQ (s.aF.l.flatMap aR) (i*3+1)) h=some (.int .i64 r.arity):=by
 rw [fH dU hr (by omega)];rfl
theorem aaI{y:cc×Int}(hy:x.l[i]?=some y):ah none (.dQ (x.l.flatMap nj) (i*2)) h=some (.str y.1):=by
 have:=fH (h:=h) oI hy (k:=0) (by omega);rw [Nat.add_zero] at this;rw [this];rfl
theorem V2{y:cc×Int}(hy:x.l[i]?=some y):ah none (.dQ (x.l.flatMap nj) (i*2+1)) h=some (.int .i64 y.2):=by
 rw [fH oI hy (by omega)];rfl
theorem Nw(y:cc×Int):AV.cO (nj y)=true:=rfl
theorem eT{s:cN}(hs:s.ok){x:Sl (cc×Int)}(hx:x.l.length<=cM){h:Heap}{K:Out->Heap->Bool}(hK:K (.ret (.bool (x.l.all (Bd s)))) h=true):Sem TP 67 [.agg (au s),an nj 2 x] h K:=by
 refine Sem.data (r:=.bool (x.l.all (Bd s))) ?_ (by simp [AV.cO,AV.pure,eO,cp Nw]) hK;clear hK;refine F.CG ?_;rw [F.Eo];have b0:(Heap.alloc Heap.empty (.cells (au s))).get 0=some (.cells (au s)):=aB _ _;simp only [c8 (cA s),aq,bU];generalize (Heap.alloc Heap.empty (.cells (au s)))=H at b0 ⊢;have fin:∀ b:Bool,b=x.l.all (Bd s)->pU (.bool (x.l.all (Bd s))) (.ret (.bool b)) H=true:=fun b hb=>by rw [hb];exact gw rfl
 have lr:ah none (.ptr 0 1) H=some (an aR 3 s.aF):=by rw [ak b0];rfl
 have lw:ah (some 2) (.ptr 0 0) H=some (.agg (au s)):=by rw [ak b0,cV (cs:=au s) (n:=2) rfl]
 refine aE 0 x.l.length (zero_le _) (fun i e h'=>h'=H/\e 1=an nj 2 x/\e 2 = .ptr 0 0/\e 5 = .int .i64 (i:Int)/\(x.l.take i).all (Bd s)=true) ⟨rfl,rfl,rfl,rfl,rfl⟩ ?_ ?_
 ·rintro i e h' _ hi ⟨rfl,e1,e2,e5,ht⟩ K' hn gm hr hp;have hv:x.l[i]?=some x.l[i]:=ew hi;generalize x.l[i]=y at hv;rw [F.eT.aU];simp only [e1,e2,e5,aS,reduceAdd,reduceEqDiff,reduceIte,lw,bp hi,aV x hi,aaI hv];refine ai (eU hs ?_);simp only [aS,reduceAdd,reduceEqDiff,reduceIte];rcases pJ (fQ y.1) s.aF.l with ⟨h1,h2⟩|⟨j,r,h1,h2,h3⟩
  ·rw [h1];simp only [show decide ((-1:Int)<0)=true from rfl,aL];rw [hr,F.eT.bz];simp only [bP,reduceEqDiff,reduceIte];exact fin _ (all_false hv (by rw [Bd,h2])).symm
  ·rw [h1];have hj:j<s.aF.l.length:=(ki.1 h2).1;simp only [eV (by omega:¬ ((j:Int)<0)),aK,aS,reduceAdd,reduceEqDiff,reduceIte,e1,e2,e5,lr,aV s.aF hj,zD h2,aV x hi,V2 hv,cP];by_cases hq:r.arity=y.2
   ·simp only [fC hq,Bool.not_true,aK,aJ hi hx,aq];exact hn _ _ ⟨rfl,e1,e2,rfl,jq hv ht (by rw [Bd,h3];exact fC hq)⟩
   ·simp only [eV hq,Bool.not_false,aL];rw [hr,F.eT.bz];simp only [bP,reduceEqDiff,reduceIte];exact fin _ (all_false hv (by rw [Bd,h3];exact eV hq)).symm
 ·rintro e h' ⟨rfl,e1,e2,e5,ht⟩ K' gm;rw [F.eT.aU];simp only [e1,e5,aS,reduceAdd,reduceEqDiff,reduceIte,aX];rw [gm,F.eT.aG];rw [jW (dN _)] at ht;exact fin _ ht.symm
theorem W6(s:St):dz TP s Tryz.f183.results.toList=(match ah (some 3) (s.env 8) s.h,(some []:Option (List AV)) with|some v,some vs=>some (v :: vs)|_,_=>none):=by kernel_rfl
theorem Dq{s:cN}(hv:de s=true){r:Rel}(hr:s.aF.l[i]?=some r):nq s.size.toNat r=true:=by
 simp only [de,and_eq_true] at hv;have:=yy hv.2.2.2 (ki.1 hr).1;rw [oL,hr] at this;simp only [and_eq_true] at this;exact this.1
theorem jw{s:cN}(hv:de s=true):∃ n:Nat,s.size=(n:Int)/\1<=n/\n<=64/\s.aF.l.length<=8:=by
 simp only [de,and_eq_true,decide_eq_true_eq] at hv;exact ⟨s.size.toNat,by omega,by omega,by omega,hv.2.2.1⟩
theorem G0{r:Rel}(h:nq n r=true):∃ k:Nat,r.arity=(k:Int)/\k<=12/\n ^ k<=4096/\yq n k r.aO.l=true:=by
 simp only [nq,and_eq_true,decide_eq_true_eq] at h;exact ⟨r.arity.toNat,by omega,by omega,h.2.2.2.1,h.2.2.2.2⟩
theorem rH{s:cN}(hv:de s=true):(s.aF.l.map Rel.name).Nodup:=by
 simp only [de,and_eq_true] at hv;unfold List.Nodup;rw [pairwise_iff_getElem];intro i j hi hj hij e;rw [length_map] at hi hj;have:=yy hv.2.2.2 hj;rw [oL,ew hj] at this;simp only [and_eq_true,not_eq_true'] at this;rw [getElem_map,getElem_map] at e;have h2:=P7 (p:=fun q:Rel=>q.name==s.aF.l[j].name) (ew hi) hij (by simpa using e);rw [h2] at this;cases this.2
theorem FD:∀ {l:List Rel},(l.map Rel.name).Nodup->∀ (nm:cc) (k:Int),l.find? (iP nm k)=match l.find? (fQ nm) with
  |some r=>if r.arity=k then some r else none
  |none=>none
 |[],_,nm,k=>rfl
 |q :: l,hn,nm,k=>by
  rw [map_cons,nodup_cons] at hn;rw [find?_cons,find?_cons]
  cases hq:fQ nm q with
  |true=>
   have pq:q.name==nm:=hq;simp only;by_cases ha:q.arity=k
   ·have:iP nm k q=true:=(by rw [iP,pq,fC ha];rfl);rw [this,if_pos ha]
   ·have:iP nm k q=false:=(by rw [iP,eV ha,Bool.and_false]);rw [this,if_neg ha];simp only;rw [find?_eq_none];intro r hr hs;simp only [iP,and_eq_true,beq_iff_eq] at hs pq;exact hn.1 (by rw [pq,<- hs.1];exact List.mem_map_of_mem hr)
  |false=>
   have pq:(q.name==nm)=false:=hq;have:iP nm k q=false:=by rw [iP,pq,Bool.false_and]
   rw [this];exact FD hn.2 nm k
theorem I8{s:cN}(hv:de s=true)(y:cc×Int):Bd s y=(s.aF.l.find? (iP y.1 y.2)).isSome:=by
 rw [FD (rH hv),Bd]
 cases s.aF.l.find? (fQ y.1) with
 |none=>rfl
 |some r=>
  simp only;by_cases h:r.arity=y.2
  ·rw [if_pos h,fC h];rfl
  ·rw [if_neg h,eV h];rfl
theorem Tl(l:List Int):bw (l.map iv)=true:=by
 induction l with
 |nil=>rfl
 |cons a l ih=>simp only [map_cons,bw,ih,Bool.and_true];rfl
theorem zE{src:AV}{l:List Int}(r:Row encI 1 (h.alloc (.cells [])) src l)(hl:l.length<=1000000) :
  ∃ b h',cj 1 8 (.slice h.next 0 0 1) src (h.alloc (.cells []))=some (.slice b 0 l.length 1,h')/\h'.get b=some (.cells (l.map iv))/\bC h h'/\h.next<=b/\b<h'.next:=by
 have hm:cJ=140737488355328:=rfl;have g:(h.alloc (.cells [])).get h.next=some (.cells []):=aB _ _
 have rc:=r.cells;rw [<- tj] at rc;by_cases hz:l.length=0
 ·have:l = []:=eq_nil_of_length_eq_zero hz;subst this;refine ⟨h.next,h.alloc (.cells []),?_,g,bC.alloc _ _,dN _,lt_succ_self _⟩;simp only [length_nil] at rc;simp [cj,r.len,rc]
 ·refine ⟨h.next+1,((h.alloc (.cells [])).set h.next .dead).alloc (.cells (l.map iv)),?_,?_,?_,by omega,?_⟩
  ·simp only [cj,r.len,rc,if_true,if_neg hz,g];rw [if_pos (by simp [Tl];omega)];simp [Heap.br,Heap.aM]
  ·have:=aB ((h.alloc (.cells [])).set h.next .dead) (.cells (l.map iv))
   rwa [Heap.br,Heap.aM] at this
  ·exact ((bC.alloc h (.cells [])).set (dN _) _).trans (bC.alloc _ _)
  ·rw [Heap.aM,Heap.br,Heap.aM];omega
def Tm(n:Nat)(t:List Int):List (List Int):=(List.range n).map fun (x:Nat)=>t++[(x:Int)]
def stepT(n:Nat)(out:List (List Int)):List (List Int):=out.flatMap (Tm n)
def I9(n:Nat):Nat->List (List Int)
 |0=>[[]]
 |k+1=>stepT n (I9 n k)
theorem Dr(n:Nat)(t:List Int):(Tm n t).length=n:=by simp [Tm]
theorem zF{n:Nat}:∀ {out:List (List Int)} {r x:Nat} {t:List Int},out[r]?=some t->x<n->(stepT n out)[r*n+x]?=some (t++[(x:Int)])
 |[],r,x,t,h,_=>by simp at h
 |u :: out,0,x,t,h,hx=>by
  simp at h;subst h;rw [stepT,flatMap_cons,Nat.zero_mul,Nat.zero_add,getElem?_append_left (by rw [Dr];exact hx)];simp [Tm,getElem?_range hx]
 |u :: out,r+1,x,t,h,hx=>by
  rw [stepT,flatMap_cons,getElem?_append_right (by rw [Dr,succ_mul];omega),Dr];have:(r+1)*n+x-n=r*n+x:=by rw [succ_mul];omega
  rw [this];exact zF (out:=out) (by simpa using h) hx
theorem Tn{t:List Int}{x:Nat}(ht:jy n t=true)(hx:x<n):jy n (t++[(x:Int)])=true:=by
 unfold jy at ht ⊢;rw [all_append,ht];simp;omega
theorem FE{n:Nat}(hn:1<=n):∀ (k r:Nat),r<n ^ k->∃ t,(I9 n k)[r]?=some t/\t.length=k/\jy n t=true/\ni n t=r
 |0,r,h=>by
  obtain rfl:r=0:=by simp at h;omega
  exact ⟨[],rfl,rfl,rfl,rfl⟩
 |k+1,r,h=>by
  have hr:r/n<n ^ k:=Nat.div_lt_of_lt_mul (by rw [Nat.mul_comm,<- Nat.pow_succ];exact h);have hx:r%n<n:=mod_lt _ hn;obtain ⟨t,h1,h2,h3,h4⟩:=FE hn k (r/n) hr;refine ⟨t++[((r%n:Nat):Int)],?_,by simp [h2],Tn h3 hx,?_⟩
  ·have:=zF (n:=n) h1 hx;rw [I9]
   rwa [div_add_mod' r n] at this
  ·unfold ni at h4 ⊢;rw [tG,h4];simp only [vp,Int.toNat_natCast];exact div_add_mod' r n
theorem uK:fZ [] [] []=some []:=rfl
theorem aaJ(p:PB):fZ [.ay] [(0,1)] [.slice p.1 0 p.2.length 1]=some (Nj p):=rfl
theorem fq{x:Sl (Sl Int)}(hx:x.l.length<=1000000)(ht:∀ t ∈ x.l,t.l.length<=1000000){h:Heap}{K:Out->Heap->Bool}(hK:∀ y:Sl (Sl Int),y.l.map Sl.l=x.l.map Sl.l->K (.ret (an cZ 1 y)) h=true):Sem TP 72 [an cZ 1 x] h K:=by
 have hm:cJ=140737488355328:=rfl;have hbig:x.l.length<=cM:=by unfold cM;omega
 have main:Sem TP 72 [an cZ 1 x] Heap.empty (fun o h'=>yes (∃ v,∃ y:Sl (Sl Int),o = .ret v/\y.l.map Sl.l=x.l.map Sl.l/\Fz true h' v (an cZ 1 y))):=by
  refine F.zl ?_;rw [F.A1];refine aE 0 x.l.length (zero_le _) (fun i e h'=>∃ a ps,Da 0 h' a ps/\ps.map (·.2)=(x.l.take i).map Sl.l/\e 0=an cZ 1 x/\e 3=a/\e 4 = .int .i64 (i:Int)) ⟨_,_,.nil _ _,rfl,rfl,rfl,rfl⟩ ?_ ?_
  ·rintro i e h' _ hi ⟨a,ps,nst,we,e0,e3,e4⟩ K' hn gm hr hp;have hv:x.l[i]?=some x.l[i]:=ew hi;generalize x.l[i]=t at hv;have Dt:=ht t (iq hv);have sE:ps.length=i:=by have:=congrArg List.length we;rw [length_map,length_map,length_take,Nat.min_eq_left (by omega)] at this;exact this
   obtain ⟨b,h5,a5,g5,x5,l5,m5⟩:=zE (uG mX t (h'.alloc (.cells []))) Dt;have adD:=nst.ext x5;obtain ⟨a6,h6,e6,adE,_⟩:=adD.push (zero_le _) (by rw [hm];omega) (b,t.l) (zero_le _) m5 (fun hb=>by have:=nst.own.lt hb;simp only at this;omega) g5;rw [F.fq.aU];simp only [e0,e3,e4,aS,reduceAdd,reduceEqDiff,reduceIte,bp hi,uK,aV x hi,ij hv,a5,aaJ (b,t.l),e6,aJ hi hbig];exact hn _ _ ⟨_,_,adE,by rw [map_append,we,take_add_one,hv,map_append];rfl,e0,rfl,rfl⟩
  ·rintro e h' ⟨a,ps,nst,we,e0,e3,e4⟩ K' gm;rw [F.fq.aU];simp only [e0,e4,aS,reduceAdd,reduceEqDiff,reduceIte,aX];rw [gm,F.fq.aG];simp only [bP,reduceEqDiff,reduceIte,e3];obtain ⟨y,hy1,hy2⟩:=nst.yJ (old:=true);exact cw.2 ⟨a,y,rfl,by rw [hy1,we,jW (dN _)],hy2⟩
 refine main.frozen (by simp [AV.cO,cp mN]) fun o h' ho=>?_;obtain ⟨v,y,rfl,hy,hf⟩:=cw.1 ho;exact ⟨v,_,rfl,hf,hK y hy⟩
structure cN.small (s:cN):Prop where
 aF:s.aF.l.length<=1000
 G1:∀ r ∈ s.aF.l,r.aO.l.length<=10000
 W7:∀ r ∈ s.aF.l,∀ t ∈ r.aO.l,t.l.length<=1000
theorem cN.small.ok'{s:cN}(hs:s.small):s.aF.l.length<=cM:=by have:=hs.aF;unfold cM;omega
theorem To(nm:cc)(k:Int)(y:Sl (Sl Int)):iA [.str [],.int .i64 0,.ay] [(0,1),(1,1),(2,1)] [.str nm,.int .i64 k,an cZ 1 y]=some (.agg (aR ⟨nm,k,y⟩)):=by cases y<;>rfl
theorem Mn(r:Rel):fZ [.str [],.int .i64 0,.ay] [(0,3)] [.agg (aR r)]=some (aR r):=by
 obtain ⟨nm,k,y⟩:=r;cases y<;>rfl
theorem P8(s:St):dz TP s Tryz.f25.results.toList=(match ah (some 2) (s.env 2) s.h,(some []:Option (List AV)) with|some v,some vs=>some (v :: vs)|_,_=>none):=by kernel_rfl
theorem gH{s:cN}(hs:s.small){h:Heap}{K:Out->Heap->Bool}(hK:∀ a h' rs,bC h h'->Own aR 3 h.next h' a rs->rs.map bY=s.aF.l.map bY->K (.ret (.agg [.int .i64 s.size,a])) h'=true):Sem TP 25 [.agg (au s)] h K:=by
 have hm:cJ=140737488355328:=rfl;refine F.CN ?_;rw [F.Ew];simp only [c8 (cA s),aq,Heap.aM];have g0:(Heap.alloc (Heap.alloc h (.cells (au s))) (.cells [.int .i64 0,.ay])).get h.next=some (.cells (au s)):=by rw [Heap.aW,Heap.aM,if_neg (by omega)];exact aB _ _
 have g1:(Heap.alloc (Heap.alloc h (.cells (au s))) (.cells [.int .i64 0,.ay])).get (h.next+1)=some (.cells [.int .i64 0,.ay]):=aB _ _;have gn:(Heap.alloc (Heap.alloc h (.cells (au s))) (.cells [.int .i64 0,.ay])).next=h.next+2:=rfl
 have gx:bC h (Heap.alloc (Heap.alloc h (.cells (au s))) (.cells [.int .i64 0,.ay])):=(bC.alloc _ _).trans (bC.alloc _ _);generalize (Heap.alloc (Heap.alloc h (.cells (au s))) (.cells [.int .i64 0,.ay]))=H1 at g0 g1 gn gx ⊢;have lz:ah none (.ptr h.next 0) H1=some (.int .i64 s.size):=by rw [ak g0];rfl
 have ha:iA [.int .i64 0,.ay] [(0,1)] [.int .i64 s.size]=some (.agg [.int .i64 s.size,.ay]):=rfl;obtain ⟨H2,qJ,p2,po,pn⟩:=cF (h:=H1) (zs:=[.int .i64 0,.ay]) (cs:=[.int .i64 s.size,.ay]) (n:=2) rfl rfl rfl;rw [gn] at p2 po pn qJ;have p0:H2.get h.next=some (.cells (au s)):=by rw [po _ (by omega)];exact g0
 have p1:H2.get (h.next+1)=some (.cells [.int .i64 0,.ay]):=by rw [po _ (by omega)];exact g1
 have px:bC h H2:=⟨by omega,fun b hb=>by rw [po _ (by omega)];exact gx.get b hb⟩
 simp only [aS,reduceAdd,reduceEqDiff,reduceIte,lz,ha,gn,qJ]
 refine aE 0 s.aF.l.length (zero_le _) (fun i e h'=>∃ a rs,h'.get h.next=some (.cells (au s))/\h'.get (h.next+1)=some (.cells [.int .i64 0,.ay])/\h'.get (h.next+2)=some (.cells [.int .i64 s.size,a])/\Own aR 3 (h.next+3) h' a rs/\rs.map bY=(s.aF.l.take i).map bY/\bC h h'/\h.next+3<=h'.next /\
  e 1 = .ptr h.next 0/\e 2 = .ptr (h.next+1) 0/\e 3 = .ptr (h.next+2) 0/\e 4 = .int .i64 (i:Int)) ⟨_,[],p0,p1,p2,.nil,rfl,px,by omega,rfl,rfl,rfl,rfl⟩ ?_ ?_
 ·rintro i e h' _ hi ⟨a,rs,q0,q1,q2,o,Ja,qx,qn,e1,e2,e3,e4⟩ K' hn gm hr hp;have hv:s.aF.l[i]?=some s.aF.l[i]:=ew hi;generalize s.aF.l[i]=r at hv;have nR:=iq hv;have lr:ah none (.ptr h.next 1) h'=some (an aR 3 s.aF):=by rw [ak q0];rfl
  have lo:ah none (.ptr (h.next+2) 1) h'=some a:=by rw [ak q2];rfl
  have hrl:rs.length=i:=by have:=congrArg List.length Ja;rw [length_map,length_map,length_take,Nat.min_eq_left (by omega)] at this;exact this
  rw [F.gH.aU];simp only [e1,e3,e4,aS,reduceAdd,reduceEqDiff,reduceIte,lr,lo,bp hi,aV s.aF hi,qE hv,zD hv,qF hv];refine ai (fq (by have:=hs.G1 r nR;omega) (fun t ht=>by have:=hs.W7 r nR t ht;omega) fun y hy=>?_);obtain ⟨a5,h5,p5,o5,f5,n5,x5,b5⟩:=o.push dU fP (by omega) (bytes:=48) (by have:=hs.aF;rw [hm];omega) ⟨r.name,r.arity,y⟩;have hne:cz a≠some (h.next+2):=fun hb=>by have:=o.ge hb;omega
  have s2:h5.get (h.next+2)=some (.cells [.int .i64 s.size,a]):=by rw [f5 _ (by omega) hne];exact q2
  have c5:=o5.k9
  have st:aZ 1 (.ptr (h.next+2) 1) a5 h5=some (h5.set (h.next+2) (.cells [.int .i64 s.size,a5])):=by
   rw [cB (n:=1) s2 c5.2.1 c5.1 (by simp),c5.2.2];rfl
  simp only [kJ,lr,lo,qE hv,zD hv,aq,AV.beq_refl,Bool.and_self,if_true,To,Mn,p5,ja,e3,e4,O0,Nat.zero_add,st,aJ hi hs.ok'];refine hn _ _ ⟨a5,rs++[⟨r.name,r.arity,y⟩],?_,?_,?_,o5.kF (by omega) _,?_,?_,by rw [Heap.br];omega,e1,e2,e3,rfl⟩
  ·rw [Heap.aN,if_neg (by omega),f5 _ (by omega) (fun hb=>by have:=o.ge hb;omega)];exact q0
  ·rw [Heap.aN,if_neg (by omega),f5 _ (by omega) (fun hb=>by have:=o.ge hb;omega)];exact q1
  ·rw [Heap.aN,if_pos rfl]
  ·rw [map_append,Ja,take_add_one,hv,map_append];simp [bY,hy]
  ·exact (x5 h qx (by omega)).set (by omega) _
 ·rintro e h' ⟨a,rs,q0,q1,q2,o,Ja,qx,qn,e1,e2,e3,e4⟩ K' gm;have lr:ah none (.ptr h.next 1) h'=some (an aR 3 s.aF):=by rw [ak q0];rfl
  have lo:ah (some 2) (.ptr (h.next+2) 0) h'=some (.agg [.int .i64 s.size,a]):=by rw [ak q2];rfl
  have c:=o.k9
  have Be:bw [.int .i64 s.size,a]=true:=by
   have:=c.1;rw [c.2.2] at this;simp only [bw,Bool.and_true] at this ⊢;rw [this];rfl
  have st:aZ 2 (.ptr (h.next+1) 0) (.agg [.int .i64 s.size,a]) h'=some (h'.set (h.next+1) (.cells [.int .i64 s.size,a])):=by
   rw [cB (n:=2) (v:=.agg [.int .i64 s.size,a]) q1 rfl Be (by simp)];rfl
  have P9:ah (some 2) (.ptr (h.next+1) 0) (h'.set (h.next+1) (.cells [.int .i64 s.size,a]))=some (.agg [.int .i64 s.size,a]):=by rw [ak (cs:=[.int .i64 s.size,a]) (by rw [Heap.aN,if_pos rfl])];rfl
  rw [F.gH.aU];simp only [e1,e4,aS,reduceAdd,reduceEqDiff,reduceIte,lr,aX];rw [gm,F.gH.aG];simp only [bP,reduceEqDiff,reduceIte,e2,e3,lo,st,aq,P8,P9,oneOf];rw [jW (dN _)] at Ja;exact hK a _ rs (qx.set (by omega) _) ((o.kF (by omega) _).CY (by omega)) Ja
theorem Jb{n:Nat}:∀ {a b:List Int} (r:Nat),a.length=b.length->jy n a=true->jy n b=true->dw a b=true->vp n a r<vp n b r
 |[],_,r,_,_,_,h=>by simp [dw] at h
 |_ :: _,[],r,_,_,_,h=>by simp [dw] at h
 |x :: a,y :: b,r,hl,ha,hb,h=>by
  have UG:=ha;have eX:=hb;simp only [jy,all_cons,and_eq_true,not_eq_true',decide_eq_false_iff_not] at ha hb;have ia:jy n a=true:=by unfold jy;simpa using ha.2
  have ib:jy n b=true:=by unfold jy;simpa using hb.2
  have B6:a.length=b.length:=by simpa using hl
  rw [dw] at h;simp only [vp];by_cases e:x=y
  ·subst e;rw [if_pos rfl] at h;exact Jb _ B6 ia ib h
  ·rw [if_neg e] at h;have Uw:=of_decide_eq_true h
   have lo:∀ (l:List Int) (r:Nat),r*n ^ l.length<=vp n l r:=by
    intro l
    induction l with
    |nil=>intro r;simp [vp]
    |cons z l ih=>
     intro r;rw [vp];refine Nat.le_trans ?_ (ih _);rw [length_cons,Nat.pow_succ,Nat.mul_comm (n ^ l.length) n,<- Nat.mul_assoc];exact mul_le_mul_right _ (le_add_right _ _)
   have hi:∀ (l:List Int) (r:Nat),jy n l=true->vp n l r<(r+1)*n ^ l.length:=by
    intro l
    induction l with
    |nil=>intro r _;simp [vp]
    |cons z l ih=>
     intro r hz;simp only [jy,all_cons,and_eq_true,not_eq_true',decide_eq_false_iff_not] at hz;rw [vp];refine Nat.lt_of_lt_of_le (ih _ (by unfold jy;simpa using hz.2)) ?_;rw [length_cons,Nat.pow_succ,Nat.mul_comm (n ^ l.length) n,<- Nat.mul_assoc];refine mul_le_mul_right _ ?_;rw [succ_mul];omega
   have q1:=hi a (r*n+x.toNat) ia;have q2:=lo b (r*n+y.toNat)
   have q3:(r*n+x.toNat+1)*n ^ a.length<=(r*n+y.toNat)*n ^ b.length:=by
    rw [B6];exact mul_le_mul_right _ (by omega)
   omega
theorem FF{a b:List Int}(hl:a.length=b.length)(ha:jy n a=true)(hb:jy n b=true)(h:dw a b=true):ni n a<ni n b:=Jb 0 hl ha hb h
def nG(n:Nat):Nat->Nat->List Int
 |0,_=>[]
 |k+1,r=>nG n k (r/n)++[((r%n:Nat):Int)]
theorem FG{n:Nat}(hn:1<=n):∀ (k r:Nat),r<n ^ k->(I9 n k)[r]?=some (nG n k r)
 |0,r,h=>by
  obtain rfl:r=0:=by simp at h;omega
  rfl
 |k+1,r,h=>by
  have hr:r/n<n ^ k:=Nat.div_lt_of_lt_mul (by rw [Nat.mul_comm,<- Nat.pow_succ];exact h);have hx:r%n<n:=mod_lt _ hn;have:=zF (n:=n) (FG hn k (r/n) hr) hx;rw [I9,nG]
  rwa [div_add_mod' r n] at this
theorem G2(hn:1<=n){r:Nat}(h:r<n ^ k):jy n (nG n k r)=true/\ni n (nG n k r)=r:=by
 obtain ⟨t,h1,h2,h3,h4⟩:=FE hn k r h;rw [FG hn k r h] at h1;cases h1;exact ⟨h3,h4⟩
theorem Tp{a:Nat}(hb:0<b):aI .rem (.int .i64 (a:Int)) (.int .i64 (b:Int))=some (.int .i64 ((a%b:Nat):Int)):=by
 have h:¬ (b:Int)=0:=by omega
 simp only [aI,if_true,if_neg h];rw [Int.tmod_eq_emod_of_nonneg (by omega)];rfl
theorem Tq{a:Nat}(hb:0<b)(ha:a<=1000000):aI .quo (.int .i64 (a:Int)) (.int .i64 (b:Int))=some (.int .i64 ((a/b:Nat):Int)):=by
 have h:¬ (b:Int)=0:=by omega
 simp only [aI,if_true,if_neg h];have e:((a:Int).tdiv (b:Int))=((a/b:Nat):Int):=by rw [Int.tdiv_eq_ediv_of_nonneg (by omega)];rfl
 have:a/b<=a:=div_le_self _ _;rw [e];generalize a/b=q at this;rw [IntWalk.i64_in _ (by omega)]
theorem gq{n k r:Nat}(n1:1<=n)(xj:n<=64)(hk:k<=12)(hc:n ^ k<=4096)(hr:r<n ^ k){h:Heap}{K:Out->Heap->Bool}(hK:∀ t:Sl Int,t.l=nG n k r->K (.ret (.tuple [an encI 1 t,.int .i64 0])) h=true):Sem TP 63 [.int .i64 (n:Int),.int .i64 (k:Int),.int .i64 (r:Int)] h K:=by
 have main:Sem TP 63 [.int .i64 (n:Int),.int .i64 (k:Int),.int .i64 (r:Int)] Heap.empty (fun o h'=>yes (∃ v,∃ t:Sl Int,o = .ret (.tuple [v,.int .i64 0])/\t.l=nG n k r/\Fz true h' v (an encI 1 t))):=by
  refine F.A2 ?_;rw [F.CO];refine ai (tO n1 xj (by unfold cM;omega) ?_);rw [Nu,if_neg (by omega),if_neg (by omega)];have I4:aI .sub (.int .i64 (k:Int)) (.int .i64 1)=some (.int .i64 ((k:Int)-1)):=uu (by omega) (by omega);simp only [aS,reduceAdd,reduceEqDiff,reduceIte,beq_self_eq_true,Bool.not_true,eV (by omega:¬ (r:Int)<0),eV (by omega:¬ ((n ^ k:Nat):Int)<=(r:Int)),By (show k<=1000000 by omega),bU,I4]
  refine k7 (fun j e h'=>∃ (q:Nat) (QT:List Int),j<=k/\nG n k r=nG n j q++QT/\j+QT.length=k/\q<=4096/\h'.get 0=some (.cells ((replicate j (0:Int)++QT).map iv))/\e 0 = .int .i64 (n:Int)/\e 2 = .int .i64 (q:Int)/\e 10 = .slice 0 0 k 1/\e 11 = .int .i64 ((j:Int)-1)) k
   ⟨r,[],dN _,by simp,rfl,by omega,by rw [append_nil];exact aB _ _,rfl,rfl,rfl,rfl⟩ ?_
  rintro j e h' ⟨q,QT,hj,ht,hl,hq,g0,e0,e2,jF,oX⟩;rw [F.gq.aU]
  cases j with
  |zero=>
   simp only [oX,qX,aq,cE,eV (by omega:¬ (0:Int)<=((0:Nat):Int)-1),aK,oB];rw [F.gq.aG];simp only [bP,reduceEqDiff,reduceIte,jF];rw [replicate_zero,nil_append] at g0;refine cw.2 ⟨_,some QT,rfl,by rw [ht,nG];rfl,?_⟩;have:=Iw g0
   rwa [show QT.length=k by omega] at this
  |succ j=>
   have adH:((j+1:Nat):Int)-1=(j:Int):=by omega
   have hjk:j<k:=by omega
   have lR:(replicate (j+1) (0:Int)++QT).set j ((q%n:Nat):Int)=replicate j 0++(((q%n:Nat):Int) :: QT):=by
    rw [replicate_succ',append_assoc,set_append_right _ _ (by simp)];simp
   have GQ:aI .sub (.int .i64 (j:Int)) (.int .i64 1)=some (.int .i64 ((j:Int)-1)):=uu (by omega) (by omega);rw [adH] at oX;simp only [e0,e2,jF,oX,qX,aq,cE,fC (by omega:(0:Int)<=(j:Int)),aL,Tp n1,Tq n1 (show q<=1000000 by omega),nt hjk,yj g0 (show j<(replicate (j+1) (0:Int)++QT).length by simp;omega),GQ];refine cw.2 ⟨j,by omega,rfl,rfl,⟨q/n,(((q%n:Nat):Int) :: QT),by omega,?_,by simp;omega,by have:=div_le_self q n;omega,by rw [Heap.aN,if_pos rfl,lR],e0,rfl,jF,rfl⟩⟩;rw [ht,nG,append_assoc];rfl
 refine main.frozen (by simp [AV.cO,AV.pure]) fun o h' ho=>?_;obtain ⟨v,t,rfl,ht,hf⟩:=cw.1 ho;have:=lI.cons hf (lI.cons (.scalar (.int .i64 0) rfl) lI.nil);exact ⟨_,_,rfl,.tuple _ _ this.len this.rel,hK t ht⟩
theorem Jc{m:mK}(hb:h.get b=some (.map es ck))(hm:tr es m)(k:cc)(v:AV) :
  ∃ xA Gu,eS .string (.map b) (.str k) v h=some (h.set b (.map xA Gu))/\tr xA (m.qY k v):=by
 obtain ⟨r,hr,uy⟩:=tr.jD (k:=k) 0 hm;simp only [eS,hb,qb,p9,if_true,hr]
 cases r with
 |none=>simp at uy;exact ⟨_,_,rfl,hm.append uy v ck⟩
 |some jv=>
  obtain ⟨n,hj,_,e⟩:=uy;obtain ⟨j,w⟩:=jv;simp only [Nat.zero_add] at hj;subst hj;exact ⟨_,_,rfl,e v⟩
theorem Qa(m:mK)(k j:cc)(v:AV):(m.qY k v).find j=if j=k then some v else m.find j:=by
 induction m with
 |nil=>
  simp only [mK.qY,mK.find,find?_cons,find?_nil];by_cases h:j=k
  ·subst h;simp
  ·have:(j==k)=false:=by simpa using h
   rw [this,if_neg h]
 |cons p m ih=>
  simp only [mK.qY];by_cases hk:k=p.1
  ·rw [if_pos (by simpa using hk)];subst hk;simp only [mK.find,find?_cons];by_cases h:j=p.1
   ·subst h;simp
   ·have:(j==p.1)=false:=by simpa using h
    rw [this,if_neg h]
  ·rw [if_neg (by simpa using hk)];simp only [mK.find,find?_cons] at ih ⊢;by_cases h:j=p.1
   ·subst h;simp only [beq_self_eq_true,map_some];rw [if_neg (Ne.symm hk)]
   ·have:(j==p.1)=false:=by simpa using h
    rw [this];exact ih
theorem Qb{l:List (Sl Int)}(h:yq n k l=true)(ht:l[i]?=some t):t.l.length=k/\jy n t.l=true:=by
 have:=yy h (ki.1 ht).1;unfold lZ at this;rw [ht] at this;simp only [and_eq_true,decide_eq_true_eq] at this;exact ⟨this.1,this.2.1⟩
theorem rS{α β:Type}{enc:α->List AV}{lK:β->List AV}{h:Heap}:∀ {l:List (α×β)},(∀ p ∈ l,lI true h (enc p.1) (lK p.2))->lI true h (l.flatMap fun p=>enc p.1) (l.flatMap fun p=>lK p.2)
 |[],_=>.nil
 |p :: l,hp=>by
  rw [flatMap_cons,flatMap_cons];exact lI.append (hp p mem_cons_self) (rS fun q hq=>hp q (mem_cons_of_mem _ hq))
structure jB {α β:Type} (X:Nat->Prop) (enc:α->List AV) (lK:β->List AV) (sz k:Nat) (h:Heap) (a:AV) (l:List (α×β)):Prop where
 own:Own enc sz k h a (l.map (·.1))
 yJ:∀ p ∈ l,∀ h',(∀ b,k<=b->b<h.next->¬ X b->cz a≠some b->h'.get b=h.get b)->lI true h' (enc p.1) (lK p.2)
 av:∀ b,cz a=some b->¬ X b
section
variable {α β:Type} {X:Nat->Prop} {enc:α->List AV} {lK:β->List AV} {sz k:Nat} {h h':Heap} {a:AV} {l:List (α×β)}
theorem jB.nil:jB X enc lK sz k h .ay []:=⟨.nil,fun p hp=>(by cases hp),fun b hb=>(by cases hb)⟩
theorem Own.agree{enc:α->List AV}{h':Heap}{l:List α}(o:Own enc sz k h a l)(hb:∀ b,cz a=some b->h'.get b=h.get b)(hn:h.next<=h'.next):Own enc sz k h' a l:=by
 cases o with
 |nil=>exact .nil
 |row b l h1 h2 h3=>exact .row b _ h1 (Nat.lt_of_lt_of_le h2 hn) (by rw [hb b rfl];exact h3)
theorem jB.gd(o:jB X enc lK sz k h a l)(hb:∀ b,k<=b->b<h.next->¬ X b->h'.get b=h.get b)(hn:h.next<=h'.next):jB X enc lK sz k h' a l:=
 ⟨o.own.agree (fun b e=>hb b (o.own.ge e) (o.own.lt e) (o.av b e)) hn,fun p hp h2 hh=>o.yJ p hp h2 fun b b1 b2 b3 b4=>by rw [hh b b1 (Nat.lt_of_lt_of_le b2 hn) b3 b4,hb b b1 b2 b3],o.av⟩
theorem jB.ext(o:jB X enc lK sz k h a l)(hx:bC h h'):jB X enc lK sz k h' a l:=o.gd (fun b _ b2 _=>hx.get b b2) hx.next
theorem jB.low(o:jB X enc lK sz k h a l){d:Nat}(hd:d<k)(x:jX):jB X enc lK sz k (h.set d x) a l:=
 o.gd (fun b b1 _ _=>by rw [Heap.aN,if_neg (by omega)]) (by rw [Heap.br];exact dN _)
theorem jB.adI(o:jB X enc lK sz k h a l){d:Nat}(hd:X d)(x:jX):jB X enc lK sz k (h.set d x) a l:=
 o.gd (fun b b1 _ b3=>by rw [Heap.aN,if_neg (fun e=>b3 (by rw [e];exact hd))]) (by rw [Heap.br];exact dN _)
theorem jB.CY(o:jB X enc lK sz k h a l){j:Nat}(hj:j<=k):jB X enc lK sz j h a l:=
 ⟨o.own.CY hj,fun p hp h2 hh=>o.yJ p hp h2 fun b b1 b2 b3 b4=>hh b (Nat.le_trans hj b1) b2 b3 b4,o.av⟩
theorem jB.adJ(o:jB (fun _=>False) enc lK sz k h a l)(hx:bC h h'){Y:Nat->Prop}(hY:∀ b,Y b->h.next<=b):jB Y enc lK sz k h' a l:=
 ⟨o.own.ext hx,fun p hp h2 hh=>o.yJ p hp h2 fun b b1 b2 _ b4=>by rw [hh b b1 (Nat.lt_of_lt_of_le b2 hx.next) (fun y=>by have:=hY b y;omega) b4,hx.get b b2],fun b e y=>by have:=hY b y;have:=o.own.lt e;omega⟩
theorem jB.push(o:jB X enc lK sz k h a l)(he:∀ x,(enc x).length=sz)(h1:∀ x,bw (enc x)=true)(hk:k<=h.next){bytes:Nat}(hroom:(l.length+1)*bytes<=cJ)(v:α)(w:β)(hX:∀ b,X b->b<h.next)
  (hf:∀ h',(∀ b,k<=b->b<h.next->¬ X b->cz a≠some b->h'.get b=h.get b)->lI true h' (enc v) (lK w)) :
  ∃ a' h',cj sz bytes a (.slice h.next 0 1 sz) (h.alloc (.cells (enc v)))=some (a',h')/\jB X enc lK sz k h' a' (l++[(v,w)])/\(∀ c,c<h.next->cz a≠some c->h'.get c=h.get c)/\h.next<=h'.next/\(∀ h0,bC h0 h->h0.next<=k->bC h0 h')/\∀ c,cz a'=some c->h.next<=c:=by
 obtain ⟨a',h',e1,o1,f1,n1,x1,b1⟩:=o.own.push he h1 hk (bytes:=bytes) (by simpa using hroom) v;refine ⟨a',h',e1,⟨by rw [map_append];exact o1,fun p hp h2 hh=>?_,fun b e x=>by have:=b1 b e;have:=hX b x;omega⟩,f1,n1,x1,b1⟩
 have xh:∀ b,k<=b->b<h.next->¬ X b->cz a≠some b->h2.get b=h.get b:=fun b c1 c2 c3 c4=>by
  rw [hh b c1 (by omega) c3 (fun e=>by have:=b1 b e;omega),f1 b c2 c4]
 rcases mem_append.1 hp with hp|hp
 ·exact o.yJ p hp h2 xh
 ·rw [mem_singleton] at hp;subst hp;exact hf h2 xh
theorem jB.data(o:jB X enc lK sz k h a l):∃ x:Sl β,x.l=l.map (·.2)/\∀ h2,(∀ b,k<=b->b<h.next->¬ X b->h2.get b=h.get b)->Fz true h2 a (an lK sz x):=by
 obtain ⟨ow,fr,av⟩:=o;generalize hm:l.map (·.1)=m at ow
 cases ow with
 |nil=>
  have:l = []:=by simpa using hm
  subst this;exact ⟨none,rfl,fun h2 _=>.dR rfl⟩
 |row b m h1 h2 h3=>
  subst hm;refine ⟨some (l.map (·.2)),rfl,fun g hg=>?_⟩;have fl:lI true g (l.flatMap fun p=>enc p.1) (l.flatMap fun p=>lK p.2):=rS fun p hp=>fr p hp g fun c c1 c2 c3 c4=>hg c c1 c2 c3;have e1:(l.map (·.1)).flatMap enc=l.flatMap fun p=>enc p.1:=by rw [flatMap_map]
  have e2:(l.map (·.2)).flatMap lK=l.flatMap fun p=>lK p.2:=by rw [flatMap_map]
  have:an lK sz (some (l.map (·.2))) = .ax (l.flatMap fun p=>lK p.2) 0 l.length sz:=by simp only [an,e2,length_map]
  rw [this,length_map];exact .slice b 0 l.length sz _ _ (by rw [hg b h1 h2 (av b rfl),h3,e1]) fl.len fl.rel
theorem jB.fz(o:jB X enc lK sz k h a l):∃ x:Sl β,x.l=l.map (·.2)/\Fz true h a (an lK sz x):=by
 obtain ⟨x,h1,h2⟩:=o.data;exact ⟨x,h1,h2 h fun _ _ _ _=>rfl⟩
end
def Nx:={ v:AV // bw [v]=true/\v.dB = [v] }
abbrev vt:=cc×Int×Nx
def gZ(r:vt):List AV:=[.str r.1,.int .i64 r.2.1,r.2.2.1]
theorem lF(r:vt):(gZ r).length=3:=rfl
theorem uL(r:vt):bw (gZ r)=true:=by
 have:=r.2.2.2.1;unfold gZ;simp only [bw,Bool.and_true] at this ⊢;rw [this];rfl
theorem mT{enc:α->List AV}{l:List α}(o:Own enc sz k h a l):bw [a]=true/\a.dB = [a]:=by cases o<;>exact ⟨rfl,rfl⟩
theorem KO(r:vt):fZ [.str [],.int .i64 0,.ay] [(0,3)] [.agg (gZ r)]=some (gZ r):=by
 have ho:=uL r
 have hf:og [.str [],.int .i64 0,.ay] [(0,3)] [.agg (gZ r)]=some (gZ r):=by
  have hc:AV.dB (.agg (gZ r))=gZ r:=rfl;have hp:eo [.str [],.int .i64 0,.ay] 0 (gZ r)=gZ r:=rfl;simp only [og,hc,hp,ho,lF];rfl
 unfold fZ;rw [hf];simp only [ho,if_true]
abbrev Qc(X:Nat->Prop)(k:Nat)(h:Heap)(a:AV)(l:List (vt×Rel)):Prop:=jB X gZ aR 3 k h a l
theorem KP{k:Int}{v:Nx}{x:Sl (Sl Int)}(hf:Fz true h v.1 (an cZ 1 x)):lI true h (gZ (nm,k,v)) (aR ⟨nm,k,x⟩):=
 .cons (.scalar _ rfl) (.cons (.scalar _ rfl) (.cons hf .nil))
theorem G3(d:TypeId){enc:α->List AV}(x:Sl α):jC (.slice d) (an enc sz x) .ay=some (.bool (match x with|none=>true|some _=>false)):=by cases x<;>rfl
theorem Mo(y:Sl Int):fZ [.ay] [(0,1)] [an encI 1 y]=some (cZ y):=by cases y<;>rfl
theorem Du(y:Sl Int):bw (cZ y)=true:=by cases y<;>rfl
theorem jB.zG{enc:α->List AV}{l:List α}(o:Own enc sz k h a l)(hf:∀ v,AV.cO (enc v)=true):jB (fun _=>False) enc enc sz k h a (l.map fun v=>(v,v)):=
 ⟨by rw [List.map_map];simpa [Function.comp_def] using o,fun p hp h' _=>by
  obtain ⟨v,_,rfl⟩:=mem_map.1 hp
  exact .dR (hf v),fun _ _ h=>h⟩
theorem nH(ht:t.l.length<=1000000)(hK:∀ y:Sl Int,y.l=t.l->K (.ret (an encI 1 y)) h=true):Sem TP 49 [an encI 1 t] h K:=by
 have main:Sem TP 49 [an encI 1 t] Heap.empty (fun o h'=>yes (∃ v,∃ y:Sl Int,o = .ret v/\y.l=t.l/\Fz true h' v (an encI 1 y))):=by
  refine F.jS ?_;rw [F.kr];simp only [G3,aS,reduceAdd,reduceEqDiff,reduceIte]
  cases t with
  |none=>simp only [aL];exact cw.2 ⟨_,none,rfl,rfl,.dR rfl⟩
  |some l=>
   obtain ⟨b,h',a1,a2,_,_,_⟩:=zE (uG mX (some l) (Heap.empty.alloc (.cells []))) ht;simp only [aK,uK,aq,a1,ja];exact cw.2 ⟨_,some l,rfl,rfl,ym a2⟩
 refine main.frozen (by simp [AV.cO,cp j6]) fun o h' ho=>?_;obtain ⟨v,y,rfl,hy,hf⟩:=cw.1 ho;exact ⟨v,_,rfl,hf,hK y hy⟩
theorem FH(s:St):dz TP s Tryz.f46.results.toList=(match ah (some 2) (s.env 2) s.h,(some []:Option (List AV)) with|some v,some vs=>some (v :: vs)|_,_=>none):=by kernel_rfl
set_option maxHeartbeats 2000000 in
theorem cI{s:cN}(hs:s.small){h:Heap}{K:Out->Heap->Bool}(hK:∀ a h' l,bC h h'->Qc (fun _=>False) h.next h' a l->(l.map fun p=>bY p.2)=s.aF.l.map bY->K (.ret (.agg [.int .i64 s.size,a])) h'=true):Sem TP 46 [.agg (au s)] h K:=by
 have hm:cJ=140737488355328:=rfl;have hbig:=hs.ok';refine F.ta ?_;rw [F.vL];simp only [c8 (cA s),aq,Heap.aM];have g0:(Heap.alloc (Heap.alloc h (.cells (au s))) (.cells [.int .i64 0,.ay])).get h.next=some (.cells (au s)):=by rw [Heap.aW,Heap.aM,if_neg (by omega)];exact aB _ _
 have g1:(Heap.alloc (Heap.alloc h (.cells (au s))) (.cells [.int .i64 0,.ay])).get (h.next+1)=some (.cells [.int .i64 0,.ay]):=aB _ _;have gn:(Heap.alloc (Heap.alloc h (.cells (au s))) (.cells [.int .i64 0,.ay])).next=h.next+2:=rfl
 have gx:bC h (Heap.alloc (Heap.alloc h (.cells (au s))) (.cells [.int .i64 0,.ay])):=(bC.alloc _ _).trans (bC.alloc _ _);generalize (Heap.alloc (Heap.alloc h (.cells (au s))) (.cells [.int .i64 0,.ay]))=H1 at g0 g1 gn gx ⊢;have lz:ah none (.ptr h.next 0) H1=some (.int .i64 s.size):=by rw [ak g0];rfl
 have ha:iA [.int .i64 0,.ay] [(0,1)] [.int .i64 s.size]=some (.agg [.int .i64 s.size,.ay]):=rfl;obtain ⟨H2,qJ,p2,po,pn⟩:=cF (h:=H1) (zs:=[.int .i64 0,.ay]) (cs:=[.int .i64 s.size,.ay]) (n:=2) rfl rfl rfl;rw [gn] at p2 po pn qJ;have p0:H2.get h.next=some (.cells (au s)):=by rw [po _ (by omega)];exact g0
 have p1:H2.get (h.next+1)=some (.cells [.int .i64 0,.ay]):=by rw [po _ (by omega)];exact g1
 have px:bC h H2:=⟨by omega,fun b hb=>by rw [po _ (by omega)];exact gx.get b hb⟩
 have lr:ah none (.ptr h.next 1) H2=some (an aR 3 s.aF):=by rw [ak p0];rfl
 simp only [aS,reduceAdd,reduceEqDiff,reduceIte,lz,ha,gn,qJ,lr]
 refine aE 0 s.aF.l.length (zero_le _) (fun i e h'=>∃ a l,h'.get (h.next+1)=some (.cells [.int .i64 0,.ay])/\h'.get (h.next+2)=some (.cells [.int .i64 s.size,a])/\Qc (fun _=>False) (h.next+3) h' a l/\(l.map fun p=>bY p.2)=(s.aF.l.take i).map bY/\bC h h'/\h.next+3<=h'.next /\
  e 2 = .ptr (h.next+1) 0/\e 3 = .ptr (h.next+2) 0/\e 13=an aR 3 s.aF/\e 14 = .int .i64 (s.aF.l.length:Int)/\e 15 = .int .i64 (i:Int)) ⟨_,[],p1,p2,.nil,rfl,px,by omega,rfl,rfl,rfl,rfl,rfl⟩ ?_ ?_
 ·rintro i e h' _ hi ⟨a,l,q1,q2,o,hl,qx,qn,e2,e3,pV,oK,nQ⟩ K' hn gm hr hp;have hv:s.aF.l[i]?=some s.aF.l[i]:=ew hi;generalize s.aF.l[i]=r at hv;have nR:=iq hv;have VU:l.length=i:=by have:=congrArg List.length hl;rw [length_map,length_map,length_take,Nat.min_eq_left (by omega)] at this;exact this
  obtain ⟨H3,LL,p3,Qd,Tr⟩:=cF (h:=h') (zs:=[.str [],.int .i64 0,.ay]) (cs:=aR r) (n:=3) rfl rfl (fP r);have xh:iA [.str [],.int .i64 0,.ay] [(0,1),(1,1)] [.str r.name,.int .i64 r.arity]=some (.agg [.str r.name,.int .i64 r.arity,.ay]):=rfl;have l0:ah none (.ptr h'.next 0) H3=some (.str r.name):=by rw [ak p3];rfl
  have l1:ah none (.ptr h'.next 1) H3=some (.int .i64 r.arity):=by rw [ak p3];rfl
  obtain ⟨H4,QU,p4,Ny,W8⟩:=cF (h:=H3) (zs:=[.str [],.int .i64 0,.ay]) (cs:=[.str r.name,.int .i64 r.arity,.ay]) (n:=3) rfl rfl rfl;rw [Tr] at QU p4 Ny W8;have x4:bC h' H4:=⟨by omega,fun b hb=>by rw [Ny b (by omega),Qd b (by omega)]⟩
  have l2:ah none (.ptr h'.next 2) H4=some (an cZ 1 r.aO):=by rw [ak (show H4.get h'.next=some (.cells (aR r)) by rw [Ny _ (by omega)];exact p3)];rfl
  have Dt:=hs.G1 r nR;have V3:r.aO.l.length<=cM:=by unfold cM;omega
  rw [F.cI.aU];simp only [pV,oK,nQ,aS,reduceAdd,reduceEqDiff,reduceIte,bp hi,aV s.aF hi,dx dU hv,LL];simp only [aS,reduceAdd,reduceEqDiff,reduceIte,l0,l1,xh,Tr,QU,l2]
  refine aE 0 r.aO.l.length (zero_le _) (fun j e h2=>∃ tv ts,h2.get (h'.next+1)=some (.cells [.str r.name,.int .i64 r.arity,tv])/\Own cZ 1 (h'.next+2) h2 tv ts/\ts.map Sl.l=(r.aO.l.take j).map Sl.l/\bC h' h2/\h'.next+2<=h2.next /\
   e 2 = .ptr (h.next+1) 0/\e 3 = .ptr (h.next+2) 0/\e 13=an aR 3 s.aF/\e 14 = .int .i64 (s.aF.l.length:Int)/\e 15 = .int .i64 (i:Int)/\e 6 = .ptr (h'.next+1) 0/\e 25=an cZ 1 r.aO/\e 26 = .int .i64 (r.aO.l.length:Int)/\e 27 = .int .i64 (j:Int))
   ⟨_,[],p4,.nil,rfl,x4,by omega,e2,e3,pV,oK,nQ,rfl,rfl,rfl,rfl⟩ ?_ ?_
  ·rintro j e h2 _ hj ⟨tv,ts,q6,ot,Jd,x2,Qe,e2,e3,pV,oK,nQ,e6,KQ,BB,BC⟩ K2 uJ fY qi DT;have G4:r.aO.l[j]?=some r.aO.l[j]:=ew hj;generalize r.aO.l[j]=t at G4;have aaL:ts.length=j:=by have:=congrArg List.length Jd;rw [length_map,length_map,length_take,Nat.min_eq_left (by omega)] at this;exact this
   have lt:ah none (.ptr (h'.next+1) 2) h2=some tv:=by rw [ak q6];rfl
   rw [F.cI.dm];simp only [e6,KQ,BB,BC,aS,reduceAdd,reduceEqDiff,reduceIte,bp hj,aV r.aO hj,ij G4,lt];refine ai (nH (by have:=hs.W7 r nR t (iq G4);omega) fun y hy=>?_);obtain ⟨a5,h5,c5,o5,f5,n5,w5,b5⟩:=ot.push qw Du Qe (bytes:=24) (by rw [hm];omega) y;have hne:cz tv≠some (h'.next+1):=fun hb=>by have:=ot.ge hb;omega
   have s6:h5.get (h'.next+1)=some (.cells [.str r.name,.int .i64 r.arity,tv]):=by rw [f5 _ (by omega) hne];exact q6
   have c6:=o5.k9
   have st:aZ 1 (.ptr (h'.next+1) 2) a5 h5=some (h5.set (h'.next+1) (.cells [.str r.name,.int .i64 r.arity,a5])):=by
    rw [cB (n:=1) s6 c6.2.1 c6.1 (by simp),c6.2.2];rfl
   simp only [aS,reduceAdd,reduceEqDiff,reduceIte,lt,AV.beq_refl,Bool.and_self,if_true,Mo,c5,e6,BC,st,aJ hj V3];refine uJ _ _ ⟨a5,ts++[y],by rw [Heap.aN,if_pos rfl],o5.kF (by omega) _,?_,(w5 h' x2 (by omega)).set (by omega) _,by rw [Heap.br];omega,e2,e3,pV,oK,nQ,e6,KQ,BB,rfl⟩;rw [map_append,Jd,take_add_one,G4,map_append];simp [hy]
  ·rintro e h2 ⟨tv,ts,q6,ot,Jd,x2,Qe,e2,e3,pV,oK,nQ,e6,KQ,BB,BC⟩ K2 fY;rw [jW (dN _)] at Jd;have o2:=o.ext x2;obtain ⟨BD,JL⟩:=mT ot;have lq:ah (some 3) (.ptr (h'.next+1) 0) h2=some (.agg (gZ (r.name,r.arity,⟨tv,BD,JL⟩))):=by rw [ak q6];rfl
   have lo:ah none (.ptr (h.next+2) 1) h2=some a:=by rw [ak (show h2.get (h.next+2)=some (.cells [.int .i64 s.size,a]) by rw [x2.get _ (by omega)];exact q2)];rfl
   obtain ⟨x,jI,KK⟩:=(jB.zG ot mN).data;have IS:x.l=ts:=by rw [jI,List.map_map];simp [Function.comp_def]
   obtain ⟨a5,h5,c5,o5,f5,n5,w5,b5⟩:=o2.push lF uL (by omega) (bytes:=48) (by have:=hs.aF;rw [hm];omega) (r.name,r.arity,⟨tv,BD,JL⟩) ⟨r.name,r.arity,x⟩ (fun _ h=>h.elim)
    (fun g hg=>KP (KK g fun b b1 b2 _=>hg b (by omega) b2 (fun h=>h) (fun hb=>by have:=o.own.lt hb;omega)))
   have hne:cz a≠some (h.next+2):=fun hb=>by have:=o.own.ge hb;omega
   have V4:cz a≠some (h.next+1):=fun hb=>by have:=o.own.ge hb;omega
   have s2:h5.get (h.next+2)=some (.cells [.int .i64 s.size,a]):=by rw [f5 _ (by omega) hne,x2.get _ (by omega)];exact q2
   have s1:h5.get (h.next+1)=some (.cells [.int .i64 0,.ay]):=by rw [f5 _ (by omega) V4,x2.get _ (by omega)];exact q1
   have c6:=o5.own.k9
   have st:aZ 1 (.ptr (h.next+2) 1) a5 h5=some (h5.set (h.next+2) (.cells [.int .i64 s.size,a5])):=by
    rw [cB (n:=1) s2 c6.2.1 c6.1 (by simp),c6.2.2];rfl
   rw [F.cI.dm];simp only [BB,BC,aS,reduceAdd,reduceEqDiff,reduceIte,aX];rw [fY,F.cI.cx];simp only [aS,reduceAdd,reduceEqDiff,reduceIte,e3,e6,nQ,lo,lq,KO,c5,st,aJ hi hbig];refine hn _ _ ⟨a5,_,?_,?_,o5.low (by omega) _,?_,(w5 h (qx.trans x2) (by omega)).set (by omega) _,by rw [Heap.br];omega,e2,e3,pV,oK,rfl⟩
   ·rw [Heap.aN,if_neg (by omega)];exact s1
   ·rw [Heap.aN,if_pos rfl]
   ·rw [map_append,hl,take_add_one,hv,map_append];simp [bY,IS,Jd]
 ·rintro e h' ⟨a,l,q1,q2,o,hl,qx,qn,e2,e3,pV,oK,nQ⟩ K' gm;rw [jW (dN _)] at hl;have lo:ah (some 2) (.ptr (h.next+2) 0) h'=some (.agg [.int .i64 s.size,a]):=by rw [ak q2];rfl
  have c:=o.own.k9
  have Be:bw [.int .i64 s.size,a]=true:=by
   have:=c.1;rw [c.2.2] at this;simp only [bw,Bool.and_true] at this ⊢;rw [this];rfl
  have st:aZ 2 (.ptr (h.next+1) 0) (.agg [.int .i64 s.size,a]) h'=some (h'.set (h.next+1) (.cells [.int .i64 s.size,a])):=by
   rw [cB (n:=2) (v:=.agg [.int .i64 s.size,a]) q1 rfl Be (by simp)];rfl
  have P9:ah (some 2) (.ptr (h.next+1) 0) (h'.set (h.next+1) (.cells [.int .i64 s.size,a]))=some (.agg [.int .i64 s.size,a]):=by rw [ak (cs:=[.int .i64 s.size,a]) (by rw [Heap.aN,if_pos rfl])];rfl
  rw [F.cI.aU];simp only [oK,nQ,aS,reduceAdd,reduceEqDiff,reduceIte,aX];rw [gm,F.cI.aG];simp only [bP,reduceEqDiff,reduceIte,e2,e3,lo,st,aq,FH,P9,oneOf];exact hK a _ l (qx.set (by omega) _) ((o.low (by omega) _).CY (by omega)) hl
abbrev Lk:=cc->Nat->Bool
def Je(n:Nat)(L:Lk)(r:aP)(vs:List Int):Bool:=r.body.l.all fun c=>iS n L c (eu vs (eN r c))
def FI(n:Nat)(r:aP)(vs:List Int):Nat:=ni n (eu vs (placesOf (varsOf r) r.args.l))
def Ho(n:Nat)(r:aP)(vs:List Int):Prop:=vs.length=(varsOf r).length/\jy n vs=true
def mc(n:Nat)(rs:List aP)(L:Lk):Prop:=∀ r ∈ rs,∀ vs,Ho n r vs->Je n L r vs=true->L r.name (FI n r vs)=true
structure Over (rs:List aP) (L C:Lk):Prop where
 le:∀ nm k,L nm k=true->C nm k=true
 off:∀ nm,(∀ r ∈ rs,r.name≠nm)->∀ k,C nm k=L nm k
structure nI (n:Nat) (rs:List aP) (L L':Lk):Prop where
 over:Over rs L L'
 closed:mc n rs L'
 least:∀ C,Over rs L C->mc n rs C->∀ nm k,L' nm k=true->C nm k=true
theorem Over.refl(rs:List aP)(L:Lk):Over rs L L:=⟨fun _ _ h=>h,fun _ _ _=>rfl⟩
theorem nI.unique{L A B:Lk}(h:nI n rs L A)(g:nI n rs L B):A=B:=by
 funext nm k;rw [Bool.eq_iff_iff];exact ⟨h.least B g.over g.closed nm k,g.least A h.over h.closed nm k⟩
def Dv(rs:List aP):Prop:=∀ r ∈ rs,∀ c ∈ r.body.l,c.kind=0->c.neg=true->∀ q ∈ rs,q.name≠c.name
theorem FJ{A C:Lk}(hs:Dv rs)(hle:∀ nm k,A nm k=true->C nm k=true)(adK:∀ nm,(∀ r ∈ rs,r.name≠nm)->∀ k,C nm k=A nm k)(hr:r ∈ rs){c:eP}(hc:c ∈ r.body.l){t:List Int}(h:iS n A c t=true):iS n C c t=true:=by
 unfold iS at h ⊢;by_cases k0:c.kind=0
 ·rw [if_pos k0] at h ⊢
  cases hn:c.neg with
  |false=>
   rw [hn] at h;have:A c.name (ni n t)=true:=by simpa using h
   rw [hle _ _ this];rfl
  |true=>
   rw [hn] at h;rw [adK c.name (fun q hq=>hs r hr c hc k0 hn q hq)];exact h
 ·rw [if_neg k0] at h ⊢;exact h
inductive mA (n:Nat) (rs:List aP) (lv:eA.Lv) (L0:Lk):Nat->Lk->Prop
 |zero:mA n rs lv L0 0 L0
 |succ (l:Nat) (L L':Lk):mA n rs lv L0 l L->nI n (gC lv rs l) L L'->mA n rs lv L0 (l+1) L'
theorem mA.unique{n:Nat}{rs:List aP}{lv:eA.Lv}{L0:Lk}:∀ {l:Nat} {A B:Lk},mA n rs lv L0 l A->mA n rs lv L0 l B->A=B
 |0,A,B,h,g=>by cases h;cases g;rfl
 |l+1,A,B,h,g=>by
  cases h with
  |succ _ La _ ha la=>
   cases g with
   |succ _ Lb _ hb lb=>
    obtain rfl:=mA.unique ha hb;exact la.unique lb
theorem nI.nil{L:Lk}:nI n [] L L:=⟨.refl _ _,fun r hr=>(by cases hr),fun C ho _ nm k h=>ho.le nm k h⟩
theorem G5{l:Nat}(h:∀ r ∈ rs,lv r.name<l):gC lv rs l = []:=by
 unfold gC;rw [filter_eq_nil_iff];intro r hr;have:=h r hr;simp;omega
theorem mA.more{n:Nat}{rs:List aP}{lv:eA.Lv}{L0:Lk}{t:Nat}{L:Lk}(h:mA n rs lv L0 t L)(ht:∀ r ∈ rs,lv r.name<t):∀ d,mA n rs lv L0 (t+d) L
 |0=>h
 |d+1=>by
  refine .succ (t+d) L L (mA.more h ht d) ?_;rw [G5 fun r hr=>by have:=ht r hr;omega];exact .nil
theorem mA.same{L0:Lk}{s t:Nat}{A B:Lk}(h:mA n rs lv L0 s A)(g:mA n rs lv L0 t B)(hs:∀ r ∈ rs,lv r.name<s)(ht:∀ r ∈ rs,lv r.name<t):A=B:=by
 have h1:=h.more hs t;have g1:=g.more ht s;rw [Nat.add_comm t s] at g1;exact h1.unique g1
def Mp(rs:List aP)(lv:eA.Lv):Prop:=∀ r ∈ rs,∀ c ∈ r.body.l,c.kind=0->(∃ q ∈ rs,q.name=c.name)->lv c.name+(if c.neg=true then 1 else 0)<=lv r.name
theorem Mp.aaM(h:Mp rs lv)(l:Nat):Dv (gC lv rs l):=by
 intro r hr c hc k0 hn q hq e;unfold gC at hr hq;simp only [mem_filter,decide_eq_true_eq] at hr hq;have:=h r hr.1 c hc k0 ⟨q,hq.1,e⟩;rw [hn,if_pos rfl,<- e,hq.2,hr.2] at this;omega
theorem As{l:Nat}:r ∈ gC lv rs l↔r ∈ rs/\lv r.name=l:=by
 unfold gC;simp [mem_filter]
theorem zH{p:Nat×List Bool}(hp:D nm=some p){rk:Nat}(EH:rk<p.2.length)(x:cc)(k:Nat):eR (kO D nm p.1 (p.2.set rk true)) x k=(eR D x k||(decide (x=nm)&&decide (k=rk))):=by
 unfold eR kO;by_cases hx:x=nm
 ·subst hx;rw [if_pos rfl,hp];simp only [decide_true,Bool.true_and];by_cases hk:k=rk
  ·subst hk;rw [getD_eq_getElem?_getD,getElem?_set,if_pos rfl,if_pos EH];simp
  ·rw [getD_eq_getElem?_getD,getElem?_set,if_neg (fun e=>hk e.symm),<- getD_eq_getElem?_getD,eV hk,Bool.or_false]
 ·rw [if_neg hx,eV hx,Bool.false_and,Bool.or_false]
theorem V5(a b:Int):a<=Mg a b/\b<=Mg a b:=by unfold Mg;split<;>omega
theorem wW:∀ (ps:List Nat) (a:Int),a<=ps.foldl (fun a (p:Nat)=>Mg a (p:Int)) a/\∀ p ∈ ps,(p:Int)<=ps.foldl (fun a (p:Nat)=>Mg a (p:Int)) a
 |[],a=>⟨Int.le_refl _,fun p hp=>by cases hp⟩
 |q :: ps,a=>by
  have h:=wW ps (Mg a (q:Int));have g:=V5 a (q:Int);refine ⟨by simp only [foldl_cons];omega,fun p hp=>?_⟩;simp only [foldl_cons];rcases mem_cons.1 hp with rfl|hp
  ·omega
  ·exact h.2 p hp
theorem Dw{p:Nat}(hp:p ∈ ps):(p:Int)<=iG ps:=(wW ps (-1)).2 p hp
theorem Qf(h:∀ p ∈ ps,p<k):iG ps<(k:Int):=by
 unfold iG
 have:∀ (ps:List Nat) (a:Int),a<(k:Int)->(∀ p ∈ ps,p<k)->ps.foldl (fun a (p:Nat)=>Mg a (p:Int)) a<(k:Int):=by
  intro ps
  induction ps with
  |nil=>intro a ha _;exact ha
  |cons q ps ih=>
   intro a ha hq;simp only [foldl_cons];refine ih _ ?_ fun p hp=>hq p (mem_cons_of_mem _ hp);have:=hq q mem_cons_self;unfold Mg;split<;>omega
 exact this ps (-1) (by omega) h
theorem Nz(ps:List Nat):-1<=iG ps:=(wW ps (-1)).1
theorem yz{a b:List Int}(h:∀ p ∈ ps,a.getD p 0=b.getD p 0):eu a ps=eu b ps:=by
 unfold eu;exact map_congr_left h
theorem Ts{c:eP}(hc:c ∈ r.body.l):iG (eN r c)<((varsOf r).length:Int):=Qf (qy (zw hc))
theorem getD_set_ne{a:List Int}(h:i≠v)(x:Int):(a.set v x).getD i 0=a.getD i 0:=by
 rw [getD_eq_getElem?_getD,getElem?_set,if_neg (fun e=>h e.symm),<- getD_eq_getElem?_getD]
theorem Jf{a:List Int}(h:v<a.length)(x:Int):(a.set v x).getD v 0=x:=by
 rw [getD_eq_getElem?_getD,getElem?_set,if_pos rfl,if_pos h];rfl
theorem uN{L:Lk}{u:Int}:Bb n L r vs u=true↔∀ c ∈ r.body.l,iG (eN r c)=u->iS n L c (eu vs (eN r c))=true:=by
 unfold Bb;rw [List.all_eq_true];refine ⟨fun h c hc e=>?_,fun h c hc=>?_⟩
 ·have:=h c hc;rw [fC e] at this;exact this
 ·by_cases e:iG (eN r c)=u
  ·rw [h c hc e,Bool.or_true]
  ·rw [eV e];rfl
structure Mid (rs:List aP) (L C:Lk) (s:DB×Bool):Prop where
 over:Over rs L (eR s.1)
 le:∀ nm k,eR s.1 nm k=true->C nm k=true
theorem Mid.off{rs:List aP}{L C:Lk}{s:DB×Bool}(m:Mid rs L C s)(hC:Over rs L C):∀ nm,(∀ r ∈ rs,r.name≠nm)->∀ k,C nm k=eR s.1 nm k:=fun nm hn k=>by rw [hC.off nm hn,m.over.off nm hn]
theorem Tt{L C:Lk}(hcl:mc n rs C)(hr:r ∈ rs)(ha:Ho n r vs)(yA:Je n C r vs=true)(hh:∀ p,s.1 r.name=some p->p.2.length=n ^ r.args.l.length)(m:Mid rs L C s):Mid rs L C (sg n r vs s):=by
 unfold sg
 cases hp:s.1 r.name with
 |none=>exact m
 |some p=>
  simp only;split
  ·exact m
  ·have sE:∀ p ∈ placesOf (varsOf r) r.args.l,p<vs.length:=by rw [ha.1];exact qy uH
   have qz:(placesOf (varsOf r) r.args.l).length=r.args.l.length:=by unfold placesOf;simp
   have EH:ni n (eu vs (placesOf (varsOf r) r.args.l))<p.2.length:=by
    have:=wP (uI ha.2 sE);rw [rD,qz] at this;rw [hh p hp];exact this
   have hC:=hcl r hr vs ha yA;unfold FI at hC;refine ⟨⟨fun nm k h=>?_,fun nm hn k=>?_⟩,fun nm k h=>?_⟩
   ·simp only [zH hp EH,m.over.le nm k h,Bool.true_or]
   ·simp only [zH hp EH,eV (fun e:nm=r.name=>hn r hr e.symm),Bool.false_and,Bool.or_false];exact m.over.off nm hn k
   ·simp only [zH hp EH,or_eq_true,and_eq_true,decide_eq_true_eq] at h;rcases h with h|⟨rfl,rfl⟩
    ·exact m.le nm k h
    ·exact hC
theorem Mq{N:Nat}(h:∀ p,s.1 nm=some p->p.2.length=N):∀ p,(sg n r vs s).1 nm=some p->p.2.length=N:=by
 intro p hp;unfold sg at hp
 cases hq:s.1 r.name with
 |none=>rw [hq] at hp;exact h p hp
 |some q=>
  rw [hq] at hp;simp only at hp;split at hp
  ·exact h p hp
  ·unfold kO at hp;simp only at hp;split at hp
   ·rename_i e;subst e;cases hp;simp only [length_set];exact h q hq
   ·exact h p hp
theorem FK{n:Nat}{rs:List aP}{L C:Lk}(hs:Dv rs)(hC:Over rs L C)(hcl:mc n rs C){r:aP}(hr:r ∈ rs):∀ (m v:Nat) (vs:List Int) (s:DB×Bool),v+m=(varsOf r).length->Ho n r vs->Mid rs L C s->(∀ p,s.1 r.name=some p->p.2.length=n ^ r.args.l.length) ->
  (∀ c ∈ r.body.l,iG (eN r c)<(v:Int)->iS n C c (eu vs (eN r c))=true) ->
  Mid rs L C (ir (fun s=>s.1) (sg n r) n r m v vs s).2/\(∀ p,(ir (fun s=>s.1) (sg n r) n r m v vs s).2.1 r.name=some p->p.2.length=n ^ r.args.l.length)/\Ho n r (ir (fun s=>s.1) (sg n r) n r m v vs s).1/\∀ i,i<v->(ir (fun s=>s.1) (sg n r) n r m v vs s).1.getD i 0=vs.getD i 0
 |0,v,vs,s,hv,ha,hm,hl,hc=>by
  refine ⟨Tt hcl hr ha ?_ hl hm,Mq hl,ha,fun _ _=>rfl⟩;unfold Je;rw [List.all_eq_true];intro c GU;refine hc c GU ?_;have:=Ts GU;omega
 |m+1,v,vs,s,hv,ha,hm,hl,hc=>by
  refine ju (P:=fun (a:List Int×(DB×Bool))=>Mid rs L C a.2/\(∀ p,a.2.1 r.name=some p->p.2.length=n ^ r.args.l.length)/\Ho n r a.1/\∀ i,i<v->a.1.getD i 0=vs.getD i 0) ⟨hm,hl,ha,fun _ _=>rfl⟩ fun a x hx hP=>?_;obtain ⟨p1,p2,p3,p4⟩:=hP;have UC:=mem_range.1 hx;have P0:Ho n r (a.1.set v (x:Int)):=⟨by rw [length_set];exact p3.1,rE p3.2 v UC⟩
  have xh:∀ i,i<v->(a.1.set v (x:Int)).getD i 0=vs.getD i 0:=fun i hi=>by rw [getD_set_ne (by omega)];exact p4 i hi
  unfold kQ;split
  ·rename_i wQ;rw [uN] at wQ
   obtain ⟨q1,q2,q3,q4⟩:=FK hs hC hcl hr m (v+1) (a.1.set v (x:Int)) a.2 (by omega) P0 p1 p2 fun c GU hlt=>by
    by_cases e:iG (eN r c)=(v:Int)
    ·exact FJ hs p1.le (p1.off hC) hr GU (wQ c GU e)
    ·have UE:iG (eN r c)<(v:Int):=(by omega);rw [yz (b:=vs) fun p hp=>xh p (by have:=Dw hp;omega)];exact hc c GU UE
   exact ⟨q1,q2,q3,fun i hi=>by rw [q4 i (by omega)];exact xh i hi⟩
  ·exact ⟨p1,p2,P0,xh⟩
theorem KR(n1:1<=n){L C:Lk}(hs:Dv rs)(hC:Over rs L C)(hcl:mc n rs C)(hr:r ∈ rs)(hm:Mid rs L C s)(hl:∀ p,s.1 r.name=some p->p.2.length=n ^ r.args.l.length):Mid rs L C (kG n r s):=by
 unfold kG vS;split
 ·rename_i wQ;rw [uN] at wQ;have ha:Ho n r (replicate (varsOf r).length 0):=⟨by simp,BA n1 _⟩
  refine (FK hs hC hcl hr (varsOf r).length 0 _ s (by omega) ha hm hl fun c GU hlt=>?_).1;have h1:=Nz (eN r c);exact FJ hs hm.le (hm.off hC) hr GU (wQ c GU (by omega))
 ·exact hm
def nw(n:Nat)(rs:List aP)(D:DB):Prop:=∀ r ∈ rs,∀ p,D r.name=some p->p.2.length=n ^ r.args.l.length
theorem NA(h:nw n rs s.1):nw n rs (sg n r vs s).1:=fun q hq=>Mq (h q hq)
theorem G6(n1:1<=n)(h:nw n rs s.1):nw n rs (kG n r s).1:=rF (Q:=fun s:DB×Bool=>nw n rs s.1) n1 (fun vs s _ _ h=>NA h) h
theorem NB(n1:1<=n){L C:Lk}(hs:Dv rs)(hC:Over rs L C)(hcl:mc n rs C)(hm:Mid rs L C s)(hl:nw n rs s.1):Mid rs L C (l8 n rs s)/\nw n rs (l8 n rs s).1:=by
 unfold l8;exact ju (P:=fun s:DB×Bool=>Mid rs L C s/\nw n rs s.1) ⟨hm,hl⟩ fun s r hr h=>⟨KR n1 hs hC hcl hr h.1 (h.2 r hr),G6 n1 h.2⟩
theorem FL(n1:1<=n){C:Lk}(hs:Dv rs)(hC:Over rs (eR D0) C)(hcl:mc n rs C)(hl:nw n rs D0)(hr:Reach n rs D0 D):Mid rs (eR D0) C (D,false)/\nw n rs D:=by
 induction hr with
 |refl=>exact ⟨⟨.refl _ _,hC.le⟩,hl⟩
 |step D _ ih=>
  obtain ⟨h1,h2⟩:=NB n1 hs hC hcl ih.1 ih.2;exact ⟨⟨h1.over,h1.le⟩,h2⟩
def Still(s0 s:DB×Bool):Prop:=s.2=false->s=s0
theorem NC{s0:DB×Bool}(h:Still s0 s):Still s0 (sg n r vs s):=by
 intro hf;unfold sg at hf ⊢
 cases hp:s.1 r.name with
 |none=>rw [hp] at hf;exact h hf
 |some p=>
  rw [hp] at hf;simp only at hf ⊢;split at hf
  ·rename_i e;rw [if_pos e];exact h hf
  ·cases hf
theorem tU{n:Nat}{r:aP}{s0:DB×Bool}:∀ (m v:Nat) (vs:List Int) (s:DB×Bool),Still s0 s->Still s0 (ir (fun s=>s.1) (sg n r) n r m v vs s).2
 |0,v,vs,s,h=>NC h
 |m+1,v,vs,s,h=>by
  refine ju (P:=fun (a:List Int×(DB×Bool))=>Still s0 a.2) h fun a x _ ha=>?_;unfold kQ;split
  ·exact tU m (v+1) _ _ ha
  ·exact ha
theorem yB{s0:DB×Bool}(h:Still s0 s):Still s0 (kG n r s):=by
 unfold kG vS;split
 ·exact tU _ _ _ _ h
 ·exact h
theorem rI{α β:Type}{st:α->DB×Bool}{f:α->β->α}(hf:∀ s0 a b,Still s0 (st a)->Still s0 (st (f a b))):∀ (l:List β) (a:α) {D:DB},st (l.foldl f a)=(D,false)->st a=(D,false)
 |[],a,D,h=>h
 |b :: l,a,D,h=>by
  have h1:=rI hf l (f a b) h;have h2:Still (st a) (st (f a b)):=hf (st a) a b (fun _=>rfl);rw [<- h2 (by rw [h1]),h1]
theorem Dx{β:Type}{f:α->β->α}{l:List β}{b:β}(hb:b ∈ l)(a:α):∃ l1 l2,l=l1++b :: l2/\l.foldl f a=l2.foldl f (f (l1.foldl f a) b):=by
 obtain ⟨l1,l2,h⟩:=append_of_mem hb;exact ⟨l1,l2,h,by rw [h,foldl_append,foldl_cons]⟩
theorem Au{m:Nat}(s0:DB×Bool)(a:List Int×(DB×Bool))(x:Nat)(h:Still s0 a.2):Still s0 (kQ (fun s=>s.1) n r v (ir (fun s=>s.1) (sg n r) n r m (v+1)) a x).2:=by
 unfold kQ;split
 ·exact tU m (v+1) _ _ h
 ·exact h
theorem Av{n:Nat}{r:aP}:∀ (m v:Nat) (vs:List Int) (s:DB×Bool),Ho n r vs->Ho n r (ir (fun s=>s.1) (sg n r) n r m v vs s).1/\∀ i,i<v->(ir (fun s=>s.1) (sg n r) n r m v vs s).1.getD i 0=vs.getD i 0
 |0,v,vs,s,ha=>⟨ha,fun _ _=>rfl⟩
 |m+1,v,vs,s,ha=>by
  refine ju (P:=fun (a:List Int×(DB×Bool))=>Ho n r a.1/\∀ i,i<v->a.1.getD i 0=vs.getD i 0) ⟨ha,fun _ _=>rfl⟩ fun a y hy hP=>?_;have hyn:y<n:=mem_range.1 hy;have P0:Ho n r (a.1.set v (y:Int)):=⟨by rw [length_set];exact hP.1.1,rE hP.1.2 v hyn⟩
  have Qg:∀ i,i<v->(a.1.set v (y:Int)).getD i 0=vs.getD i 0:=fun i hi=>by rw [getD_set_ne (by omega)];exact hP.2 i hi
  unfold kQ;split
  ·obtain ⟨w1,w2⟩:=Av m (v+1) (a.1.set v (y:Int)) a.2 P0;exact ⟨w1,fun i hi=>by rw [w2 i (by omega)];exact Qg i hi⟩
  ·exact ⟨P0,Qg⟩
theorem FM{n:Nat}{r:aP}{D:DB}(hD:∃ p,D r.name=some p):∀ (m v:Nat) (vs:List Int),v+m=(varsOf r).length->Ho n r vs->(ir (fun s=>s.1) (sg n r) n r m v vs (D,false)).2=(D,false) ->
  ∀ us,Ho n r us->(∀ i,i<v->us.getD i 0=vs.getD i 0)->Je n (eR D) r us=true->eR D r.name (FI n r us)=true
 |0,v,vs,hv,ha,hf,us,hu,xh,yA=>by
  obtain ⟨p,hp⟩:=hD
  have:us=vs:=by
   refine ext_getElem? fun i=>?_;by_cases hi:i<(varsOf r).length
   ·have:=xh i (by omega);rw [getD_eq_getElem?_getD,getD_eq_getElem?_getD,ew (by rw [hu.1];exact hi),ew (by rw [ha.1];exact hi)] at this;rw [ew (by rw [hu.1];exact hi),ew (by rw [ha.1];exact hi)];exact congrArg some this
   ·rw [getElem?_eq_none (by rw [hu.1];omega),getElem?_eq_none (by rw [ha.1];omega)]
  subst this;have hf':sg n r us (D,false)=(D,false):=hf;unfold sg at hf';simp only [hp] at hf';unfold eR FI;simp only [hp];split at hf'
  ·assumption
  ·exact absurd (congrArg Prod.snd hf') (by simp)
 |m+1,v,vs,hv,ha,hf,us,hu,xh,yA=>by
  have DS:v<us.length:=by rw [hu.1];omega
  have hin:=Pw hu.2 (ew DS);obtain ⟨x,hx⟩:∃ x:Nat,us[v]=(x:Int):=⟨us[v].toNat,by omega⟩
  have UC:x<n:=by omega
  have hux:us.getD v 0=(x:Int):=by rw [getD_eq_getElem?_getD,ew DS];exact hx
  have hf0:((List.range n).foldl (kQ (fun s=>s.1) n r v (ir (fun s=>s.1) (sg n r) n r m (v+1))) (vs,((D,false):DB×Bool))).2=(D,false):=hf;obtain ⟨l1,l2,hl,hfo⟩:=Dx (f:=kQ (fun s=>s.1) n r v (ir (fun s=>s.1) (sg n r) n r m (v+1))) (mem_range.2 UC) (vs,((D,false):DB×Bool));rw [hfo] at hf0;have h1:=rI (st:=fun a:List Int×(DB×Bool)=>a.2) (fun s0 a b h=>Au s0 a b h) l2 _ hf0
  have Tu:(l1.foldl (kQ (fun s=>s.1) n r v (ir (fun s=>s.1) (sg n r) n r m (v+1))) (vs,((D,false):DB×Bool))).2=(D,false):=by
   have h2:=Au (m:=m) (n:=n) (r:=r) (v:=v) _ (l1.foldl (kQ (fun s=>s.1) n r v (ir (fun s=>s.1) (sg n r) n r m (v+1))) (vs,((D,false):DB×Bool))) x (fun _=>rfl);exact (h2 (congrArg Prod.snd h1)).symm.trans h1
  have kD:Ho n r (l1.foldl (kQ (fun s=>s.1) n r v (ir (fun s=>s.1) (sg n r) n r m (v+1))) (vs,((D,false):DB×Bool))).1/\∀ i,i<v->(l1.foldl (kQ (fun s=>s.1) n r v (ir (fun s=>s.1) (sg n r) n r m (v+1))) (vs,((D,false):DB×Bool))).1.getD i 0=vs.getD i 0:=by
   refine ju (P:=fun (a:List Int×(DB×Bool))=>Ho n r a.1/\∀ i,i<v->a.1.getD i 0=vs.getD i 0) ⟨ha,fun _ _=>rfl⟩ fun a y hy hP=>?_;have hyn:y<n:=mem_range.1 (by rw [hl];exact mem_append_left _ hy);have P0:Ho n r (a.1.set v (y:Int)):=⟨by rw [length_set];exact hP.1.1,rE hP.1.2 v hyn⟩
   have Qg:∀ i,i<v->(a.1.set v (y:Int)).getD i 0=vs.getD i 0:=fun i hi=>by rw [getD_set_ne (by omega)];exact hP.2 i hi
   unfold kQ;split
   ·obtain ⟨w1,w2⟩:=Av (n:=n) (r:=r) m (v+1) (a.1.set v (y:Int)) a.2 P0;exact ⟨w1,fun i hi=>by rw [w2 i (by omega)];exact Qg i hi⟩
   ·exact ⟨P0,Qg⟩
  generalize Te:l1.foldl (kQ (fun s=>s.1) n r v (ir (fun s=>s.1) (sg n r) n r m (v+1))) (vs,((D,false):DB×Bool))=acc at h1 Tu kD;obtain ⟨av,sv⟩:=acc;replace Tu:sv=(D,false):=Tu;subst Tu
  have aaN:∀ i,i<v+1->us.getD i 0=(av.set v (x:Int)).getD i 0:=fun i hi=>by
   by_cases e:i=v
   ·subst e;rw [hux,Jf (by rw [kD.1.1];omega)]
   ·rw [getD_set_ne e,kD.2 i (by omega)];exact xh i (by omega)
  have wQ:Bb n (eR D) r (av.set v (x:Int)) (v:Int)=true:=by
   rw [uN];intro c hc e;rw [yz (b:=us) fun p hp=>(aaN p (by have:=Dw hp;omega)).symm];unfold Je at yA;rw [List.all_eq_true] at yA;exact yA c hc
  unfold kQ at h1;simp only [wQ,if_true] at h1;exact FM hD m (v+1) (av.set v (x:Int)) (by omega) ⟨by rw [length_set];exact kD.1.1,rE kD.1.2 v UC⟩ h1 us hu aaN yA
theorem KS(n1:1<=n)(hD:∃ p,D r.name=some p)(h:kG n r (D,false)=(D,false))(us:List Int)(hu:Ho n r us)(yA:Je n (eR D) r us=true):eR D r.name (FI n r us)=true:=by
 unfold kG vS at h
 have wQ:Bb n (eR D) r (replicate (varsOf r).length 0) (-1)=true:=by
  rw [uN];intro c hc e
  have Bc:eN r c = []:=by
   cases we:eN r c with
   |nil=>rfl
   |cons p ps=>
    have:=Dw (ps:=eN r c) (p:=p) (by rw [we];exact mem_cons_self);omega
  unfold Je at yA;rw [List.all_eq_true] at yA;have:=yA c hc;rw [Bc] at this ⊢;exact this
 simp only [wQ,if_true] at h;exact FM hD (varsOf r).length 0 _ (by omega) ⟨by simp,BA n1 _⟩ h us hu (fun i hi=>by omega) yA
theorem ND(n1:1<=n)(hD:∀ r ∈ rs,∃ p,D r.name=some p)(h:l8 n rs (D,false)=(D,false)):mc n rs (eR D):=by
 intro r hr us hu yA;obtain ⟨l1,l2,hl,hfo⟩:=Dx (f:=fun s r=>kG n r s) hr ((D,false):DB×Bool);unfold l8 at h;rw [hfo] at h;have h1:=rI (st:=fun a:DB×Bool=>a) (f:=fun s r=>kG n r s) (fun s0 a b h=>yB h) l2 _ h;have h2:=rI (st:=fun a:DB×Bool=>a) (f:=fun s (r:aP)=>kG n r s) (fun s0 a b h=>yB h) [r] (l1.foldl (fun s r=>kG n r s) (D,false)) (D:=D) (by simpa using h1);replace h2:l1.foldl (fun s r=>kG n r s) ((D,false):DB×Bool)=(D,false):=h2;rw [h2] at h1;exact KS n1 (hD r hr) h1 us hu yA
theorem NF(n1:1<=n)(hr:Reach n rs D0 D)(h:∃ p,D0 nm=some p):∃ p,D nm=some p:=by
 induction hr with
 |refl=>exact h
 |step D _ ih=>
  show ∃ p,(l8 n rs (D,false)).1 nm=some p;unfold l8;refine ju (P:=fun s:DB×Bool=>∃ p,s.1 nm=some p) ih fun s r _ hs=>?_;refine rF (Q:=fun s:DB×Bool=>∃ p,s.1 nm=some p) n1 (fun vs s _ _ hs=>?_) hs;obtain ⟨p,hp⟩:=hs;unfold sg
  cases hq:s.1 r.name with
  |none=>exact ⟨p,hp⟩
  |some q=>
   simp only;split
   ·exact ⟨p,hp⟩
   ·unfold kO;by_cases e:nm=r.name
    ·exact ⟨_,if_pos e⟩
    ·exact ⟨p,by simp only [if_neg e];exact hp⟩
theorem Jg(n1:1<=n)(hs:Dv rs)(hl:nw n rs D0)(hD:∀ r ∈ rs,∃ p,D0 r.name=some p)(hr:Reach n rs D0 D)(hp:l8 n rs (D,false)=(D,false)):nI n rs (eR D0) (eR D):=by
 have hcl:=ND n1 (fun r hq=>NF n1 hr (hD r hq)) hp;refine ⟨?_,hcl,fun C hC hcC=>(FL n1 hs hC hcC hl hr).1.le⟩
 have top:Over rs (eR D0) (fun nm k=>if (∃ r ∈ rs,r.name=nm) then true else eR D0 nm k):=⟨fun nm k h=>by
   by_cases e:∃ r ∈ rs,r.name=nm
   ·simp [e]
   ·simp [e,h],fun nm hn k=>by
   rw [if_neg];rintro ⟨r,h1,h2⟩
   exact hn r h1 h2⟩
 exact (FL (C:=fun nm k=>if (∃ r ∈ rs,r.name=nm) then true else eR D0 nm k) n1 hs top (fun r hr vs _ _=>if_pos ⟨r,hr,rfl⟩) hl hr).1.over
theorem nw.Nr{A B:DB}(h:nw n rs A)(hd:eC B A):nw n rs B:=fun r hr p hp=>by
 obtain ⟨p0,h1,_,h3⟩:=hd.back hp;rw [h3];exact h r hr p0 h1
theorem KT(n1:1<=n)(hr:Reach n rs D0 D):eC D D0:=by
 induction hr with
 |refl=>exact fun _=>rfl
 |step D _ ih=>
  show eC (l8 n rs (D,false)).1 D0;unfold l8;refine ju (P:=fun s:DB×Bool=>eC s.1 D0) ih fun s r _ hs=>?_;refine rF (Q:=fun s:DB×Bool=>eC s.1 D0) n1 (fun vs s _ _ hs=>?_) hs;unfold sg
  cases hq:s.1 r.name with
  |none=>exact hs
  |some q=>
   simp only;split
   ·exact hs
   ·exact hs.set hq (by simp)
theorem NG(n1:1<=n)(UE:Mp rs lv)(hl:nw n rs D0)(hD:∀ r ∈ rs,∃ p,D0 r.name=some p):∀ {t:Nat} {D:DB},FA n rs lv D0 t D->mA n rs lv (eR D0) t (eR D)/\eC D D0:=by
 intro t D h
 induction h with
 |zero=>exact ⟨.zero,fun _=>rfl⟩
 |succ l D D' _ hr hp ih=>
  have hd:=(KT n1 hr).trans ih.2;refine ⟨.succ l _ _ ih.1 (Jg n1 (UE.aaM l) (fun r hr=>hl.Nr ih.2 r (As.1 hr).1) (fun r hr=>?_) hr hp),hd⟩;obtain ⟨p,h1⟩:=hD r (As.1 hr).1;obtain ⟨q,h2,_⟩:=ih.2.get h1;exact ⟨q,h2⟩
theorem tV(n:Nat):∀ k r,(nG n k r).length=k
 |0,_=>rfl
 |k+1,r=>by rw [nG,length_append,tV n k];rfl
def KU(es:List Entry)(ck:Nat)(m:eE):Prop:=j9 es m/\jT es ck/\(m.map (·.1)).Nodup
theorem yC{v w:AV}{m:eE}(hP:h.get P=some (.cells [v,.map M,w]))(hM:h.get M=some (.map es ck))(hm0:KU es ck m)(QN:P<h.next)(VO:M<h.next){xs:Sl cc}
  (hK:∀ h' xA Gu,h'.get M=some (.map xA Gu)->KU xA Gu (m.qY nm xs.l.length)->(∀ b,b<h.next->b≠M->h'.get b=h.get b)->h.next<=h'.next->K (.ret (.bool (Ni m nm xs.l.length))) h'=true) :
  Sem TP 139 [.ptr P 0,.agg [.str nm,an encS 1 xs]] h K:=by
 obtain ⟨hm,hB,PN⟩:=hm0;unfold Ni at hK;refine F.qt ?_;rw [F.rq];have hb:eY (.agg [.str nm,an encS 1 xs])=some (iF nm xs):=c8 (zq nm xs);simp only [hb,aq];have g0:(Heap.alloc h (.cells (iF nm xs))).get h.next=some (.cells (iF nm xs)):=aB _ _
 have gP:(Heap.alloc h (.cells (iF nm xs))).get P=some (.cells [v,.map M,w]):=by rw [Heap.aW,if_neg (by omega)];exact hP
 have gM:(Heap.alloc h (.cells (iF nm xs))).get M=some (.map es ck):=by rw [Heap.aW,if_neg (by omega)];exact hM
 have gx:bC h (Heap.alloc h (.cells (iF nm xs))):=bC.alloc _ _;generalize (Heap.alloc h (.cells (iF nm xs)))=H at g0 gP gM gx ⊢;have S9:∀ x,(H.set M x).get h.next=some (.cells (iF nm xs)):=fun x=>by rw [Heap.aN,if_neg (by omega)];exact g0
 obtain ⟨xA,Gu,hu,V6⟩:=Cj gM hm nm xs.l.length;simp only [aS,reduceAdd,reduceEqDiff,reduceIte,ct,ak gP,ak g0,iF,qZ gM hm,hu];have fin:=hK (H.set M (.map xA Gu)) xA Gu (by rw [Heap.aN,if_pos rfl]) ⟨V6,vM gM hB hu (by rw [Heap.aN,if_pos rfl]),Fo PN nm _⟩ (fun b hb hne=>by rw [Heap.aN,if_neg hne];exact gx.get b hb) (by rw [Heap.br];exact gx.next)
 cases hf:m.find nm with
 |none=>
  rw [hf] at fin;simp only [isSome_none,Bool.not_false,aL];exact fin
 |some k=>
  rw [hf] at fin;simp only [isSome_some,Bool.not_true,aK,getD_some,aS,reduceAdd,reduceEqDiff,reduceIte,ak (S9 _),iF,cP];exact fin
set_option maxHeartbeats 1000000 in
theorem NH(kD:∀ r ∈ rules.l,r.ok)(iY:∀ r ∈ rules.l,r.mj)
  (Bc:¬ kN rules.l->∀ h',(∀ b,b<h.next->h'.get b=h.get b)->K (.ret (.tuple [.ey,.bool false])) h'=true)
  (zA:∀ h' P A M ks k,kN rules.l->eA.dy (bL rules.l) (eA.iter (bL rules.l) k)->h'.get P=some (.cells [an aQ 3 rules,.map A,.map M])->fy (bF rules.l) h' M ks (eA.iter (bL rules.l) k)->ks.Nodup->P<h'.next->M<h'.next->∀ m es ck,dW rules.l []=some m->h'.get A=some (.map es ck)->KU es ck m->h.next<=A->A<M->M<P->(∀ b,b<h.next->h'.get b=h.get b)->K (.ret (.tuple [.ptr P 0,.bool true])) h'=true):Sem TP 98 [an aQ 3 rules] h K:=by
 refine F.GA ?_;rw [F.Io];simp only [Heap.aM,aaf,aag,aq]
 have gA:(Heap.alloc (Heap.alloc (Heap.alloc h (.map [] 0)) (.map [] 0)) (.cells [an aQ 3 rules,.map h.next,.map (h.next+1)])).get h.next=some (.map [] 0):=by
  rw [Heap.aW,Heap.aM,Heap.aM,if_neg (by omega),Heap.aW,Heap.aM,if_neg (by omega)];exact aB _ _
 have gM:(Heap.alloc (Heap.alloc (Heap.alloc h (.map [] 0)) (.map [] 0)) (.cells [an aQ 3 rules,.map h.next,.map (h.next+1)])).get (h.next+1)=some (.map [] 0):=by
  rw [Heap.aW,Heap.aM,Heap.aM,if_neg (by omega)];exact aB _ _
 have gP:(Heap.alloc (Heap.alloc (Heap.alloc h (.map [] 0)) (.map [] 0)) (.cells [an aQ 3 rules,.map h.next,.map (h.next+1)])).get (h.next+1+1)=some (.cells [an aQ 3 rules,.map h.next,.map (h.next+1)]):=aB _ _;have gn:(Heap.alloc (Heap.alloc (Heap.alloc h (.map [] 0)) (.map [] 0)) (.cells [an aQ 3 rules,.map h.next,.map (h.next+1)])).next=h.next+1+1+1:=rfl
 have gF:∀ b,b<h.next->(Heap.alloc (Heap.alloc (Heap.alloc h (.map [] 0)) (.map [] 0)) (.cells [an aQ 3 rules,.map h.next,.map (h.next+1)])).get b=h.get b:=(((bC.alloc _ _).trans (bC.alloc _ _)).trans (bC.alloc _ _)).get
 generalize (Heap.alloc (Heap.alloc (Heap.alloc h (.map [] 0)) (.map [] 0)) (.cells [an aQ 3 rules,.map h.next,.map (h.next+1)]))=H0 at gA gM gP gn gF ⊢;obtain ⟨A,hA⟩:∃ A,A=h.next:=⟨_,rfl⟩
 obtain ⟨M,hM⟩:∃ M,M=h.next+1:=⟨_,rfl⟩
 obtain ⟨P,hP⟩:∃ P,P=h.next+1+1:=⟨_,rfl⟩
 rw [<- hP] at gP gn ⊢;rw [<- hM] at gM gP ⊢;rw [<- hA] at gA gP gF ⊢;have hAM:A<M:=by omega
 have hMP:M<P:=by omega
 clear hM hP;simp only [aS,reduceAdd,reduceEqDiff,reduceIte];by_cases h61:60<rules.l.length
 ·simp only [fC (by omega:(60:Int)<(rules.l.length:Int)),aL];exact Bc (fun hg=>by have:=hg.mj;omega) _ (fun b hb=>gF b (by omega))
 have se:rules.l.length<=60:=by omega
 simp only [eV (by omega:¬ (60:Int)<(rules.l.length:Int)),aK];have hbig:rules.l.length<=cM:=by unfold cM;omega
 have bad:dW rules.l []=none->∀ h',(∀ b,b<A->h'.get b=h.get b)->K (.ret (.tuple [.ey,.bool false])) h'=true:=fun hn h' hf=>Bc (fun hg=>by obtain ⟨m,hm⟩:=hg.go;rw [hn] at hm;cases hm) h' (fun b hb=>hf b (by omega))
 refine aE 0 rules.l.length (zero_le _) (fun i e h'=>∃ m ks es ck,(∀ b,b<A->h'.get b=h.get b)/\dW rules.l []=dW (rules.l.drop i) m/\h'.get A=some (.map es ck)/\KU es ck m/\fy (bF (rules.l.take i)) h' M ks (fun _=>0)/\ks.Nodup /\
  h'.get P=some (.cells [an aQ 3 rules,.map A,.map M])/\P<h'.next/\e 4 = .ptr P 0/\e 17=an aQ 3 rules/\e 18 = .int .i64 (rules.l.length:Int)/\e 19 = .int .i64 (i:Int))
  ⟨[],[],[],0,gF,rfl,gA,⟨trivial,jT.nil 0,nodup_nil⟩,⟨[],0,[],gM,trivial,jT.nil 0,rfl,fun x=>by simp [bF,eE.find]⟩,nodup_nil,gP,by omega,rfl,rfl,rfl,rfl⟩ ?_ ?_
 ·rintro i e h' _ hi ⟨m,ks,es,ck,hF,hm,qA,W9,la,Bz,qP,QN,e4,tN,QV,QW⟩ K' hn hx hr hp;have hv:rules.l[i]?=some rules.l[i]:=ew hi;generalize rules.l[i]=r at hv;have Jh:=kD r (iq hv);have hrf:=iY r (iq hv);obtain ⟨H,GQ,g1,go,gn1⟩:=cF (h:=h') (zs:=[.str [],.ay,.ay]) (cs:=aQ r) (n:=3) rfl rfl (kf r);have pA:H.get A=some (.map es ck):=by rw [go A (by omega)];exact qA
  have pP:H.get P=some (.cells [an aQ 3 rules,.map A,.map M]):=by rw [go P (by omega)];exact qP
  have pl:fy (bF (rules.l.take i)) H M ks (fun _=>0):=la.gd (go M (by omega));rw [Fq hv,dW] at hm;rw [F.cq.aU];simp only [e4,tN,QV,QW,aS,reduceAdd,reduceEqDiff,reduceIte,bp hi,aV rules hi,dx gz hv,GQ];simp only [aS,reduceAdd,reduceEqDiff,reduceIte,ak g1,aQ,Mb];refine ai (CZ Jh.2.1 ?_);simp only [aS,reduceAdd,reduceEqDiff,reduceIte]
  cases ha:mz r.name r.args.l with
  |false=>
   rw [ha,cond_false] at hm;simp only [Bool.not_false,aL];rw [hr,F.cq.bz];exact bad hm _ (fun b hb=>by rw [go b (by omega)];exact hF b hb)
  |true=>
  rw [ha,cond_true,Ft] at hm;simp only [Bool.not_true,aK,aS,reduceAdd,reduceEqDiff,reduceIte,ak g1,aQ,Mb,e4];refine ai (yC pP pA W9 (by omega) (by omega) fun h3 es3 ck3 a1 a2 a3 a4=>?_);simp only [aS,reduceAdd,reduceEqDiff,reduceIte]
  cases hq:Ni m r.name r.args.l.length with
  |false=>
   rw [hq,if_neg (by simp)] at hm;simp only [Bool.not_false,aL];rw [hr,F.cq.bz];exact bad hm _ (fun b hb=>by rw [a3 b (by omega) (by omega),go b (by omega)];exact hF b hb)
  |true=>
  rw [hq,if_pos rfl] at hm;have g3:h3.get h'.next=some (.cells (aQ r)):=by rw [a3 _ (by omega) (by omega)];exact g1
  have P3:h3.get P=some (.cells [an aQ 3 rules,.map A,.map M]):=by rw [a3 P (by omega) (by omega)];exact pP
  have l3:fy (bF (rules.l.take i)) h3 M ks (fun _=>0):=pl.gd (a3 M (by omega) (by omega));simp only [Bool.not_true,aK,aS,reduceAdd,reduceEqDiff,reduceIte,ak g3,aQ];by_cases uD:20<r.body.l.length
  ·simp only at hm;rw [if_pos uD] at hm;simp only [fC (by omega:(20:Int)<(r.body.l.length:Int)),aL];rw [hr,F.cq.bz];exact bad hm _ (fun b hb=>by rw [a3 b (by omega) (by omega),go b (by omega)];exact hF b hb)
  simp only at hm;rw [if_neg uD] at hm;simp only [eV (by omega:¬ (20:Int)<(r.body.l.length:Int)),aK,aS,reduceAdd,reduceEqDiff,reduceIte,ak g3,aQ,rC];refine ai (dr hrf fun x jI=>?_);simp only [aS,reduceAdd,reduceEqDiff,reduceIte,jI];by_cases IA:12<(varsOf r).length
  ·rw [if_pos IA] at hm;simp only [fC (by omega:(12:Int)<((varsOf r).length:Int)),aL];rw [hr,F.cq.bz];exact bad hm _ (fun b hb=>by rw [a3 b (by omega) (by omega),go b (by omega)];exact hF b hb)
  rw [if_neg IA] at hm;simp only [eV (by omega:¬ (12:Int)<((varsOf r).length:Int)),aK,aS,reduceAdd,reduceEqDiff,reduceIte,ak g3,aQ];have An:r.body.l.length<=cM:=by unfold cM;omega
  refine aE 0 r.body.l.length (zero_le _) (fun j e h2=>∃ m2 UH UI,(∀ b,b<A->h2.get b=h.get b)/\nF r.body.l (m.qY r.name r.args.l.length)=nF (r.body.l.drop j) m2/\h2.get A=some (.map UH UI)/\KU UH UI m2/\fy (bF (rules.l.take i)) h2 M ks (fun _=>0) /\
   h2.get P=some (.cells [an aQ 3 rules,.map A,.map M])/\h2.get h'.next=some (.cells (aQ r))/\h'.next<h2.next/\e 4 = .ptr P 0/\e 6 = .ptr h'.next 0/\e 17=an aQ 3 rules/\e 18 = .int .i64 (rules.l.length:Int)/\e 19 = .int .i64 (i:Int) /\
   e 47=an bM 4 r.body/\e 48 = .int .i64 (r.body.l.length:Int)/\e 49 = .int .i64 (j:Int))
   ⟨_,es3,ck3,fun b hb=>by rw [a3 b (by omega) (by omega),go b (by omega)];exact hF b hb,rfl,a1,a2,l3,P3,g3,by omega,e4,rfl,tN,QV,QW,rfl,rfl,rfl⟩ ?_ ?_
  ·rintro j e h2 _ hj ⟨m2,UH,UI,hF2,H7,qA2,Tv,QO,qP2,qR2,oW,e4,e6,tN,QV,QW,e47,e48,e49⟩ K2 uJ fY qi DT;have hc:r.body.l[j]?=some r.body.l[j]:=ew hj;generalize r.body.l[j]=c at hc;have IY:=Jh.2.2.2.2 c (iq hc);obtain ⟨H2,qJ,k1,ko,kn⟩:=cF (h:=h2) (zs:=[.int .i64 0,.bool false,.str [],.ay]) (cs:=bM c) (n:=4) rfl rfl (iz c);have kA:H2.get A=some (.map UH UI):=by rw [ko A (by omega)];exact qA2
   have kP:H2.get P=some (.cells [an aQ 3 rules,.map A,.map M]):=by rw [ko P (by omega)];exact qP2
   have kR:H2.get h'.next=some (.cells (aQ r)):=by rw [ko _ (by omega)];exact qR2
   have kl:fy (bF (rules.l.take i)) H2 M ks (fun _=>0):=QO.gd (ko M (by omega));rw [Fq hc,nF] at H7;rw [F.cq.dm];simp only [e4,e6,tN,QV,QW,e47,e48,e49,aS,reduceAdd,reduceEqDiff,reduceIte,bp hj,aV r.body hj,dx iy hc,qJ];simp only [aS,reduceAdd,reduceEqDiff,reduceIte,ak k1,bM,GN];refine ai (fW IY ?_);simp only [aS,reduceAdd,reduceEqDiff,reduceIte]
   cases UD:gI c with
   |false=>
    rw [UD,cond_false] at H7;rw [H7] at hm;simp only [Bool.not_false,aL];rw [qi,F.cq.iR,hr,F.cq.bz];exact bad hm _ (fun b hb=>by rw [ko b (by omega)];exact hF2 b hb)
   |true=>
   rw [UD,cond_true] at H7;simp only [Bool.not_true,aK,aS,reduceAdd,reduceEqDiff,reduceIte,ak k1,bM,cP];by_cases k0:c.kind=0
   ·rw [if_pos k0,Ft] at H7;simp only [fC k0,aL,aS,reduceAdd,reduceEqDiff,reduceIte,ak k1,bM,Ma,e4];refine ai (yC kP kA Tv (by omega) (by omega) fun h4 es4 ck4 b1 b2 b3 b4=>?_);simp only [aS,reduceAdd,reduceEqDiff,reduceIte]
    cases Qh:Ni m2 c.name c.args.l.length with
    |false=>
     rw [Qh,if_neg (by simp)] at H7;simp only at H7;rw [H7] at hm;simp only [Bool.not_false,aL];rw [qi,F.cq.iR,hr,F.cq.bz];exact bad hm _ (fun b hb=>by rw [b3 b (by omega) (by omega),ko b (by omega)];exact hF2 b hb)
    |true=>
     rw [Qh,if_pos rfl] at H7;simp only [Bool.not_true,aK,e49,aJ hj An,aq];refine uJ _ _ ⟨_,es4,ck4,fun b hb=>by rw [b3 b (by omega) (by omega),ko b (by omega)];exact hF2 b hb,H7,b1,b2,kl.gd (b3 M (by omega) (by omega)),?_,?_,by omega,e4,e6,tN,QV,QW,e47,e48,rfl⟩
     ·rw [b3 P (by omega) (by omega)];exact kP
     ·rw [b3 _ (by omega) (by omega)];exact kR
   ·rw [if_neg k0] at H7;simp only [eV k0,aK,e49,aJ hj An,aq];exact uJ _ _ ⟨m2,UH,UI,fun b hb=>by rw [ko b (by omega)];exact hF2 b hb,H7,kA,Tv,kl,kP,kR,by omega,e4,e6,tN,QV,QW,e47,e48,rfl⟩
  ·rintro e h2 ⟨m2,UH,UI,hF2,H7,qA2,Tv,QO,qP2,qR2,oW,e4,e6,tN,QV,QW,e47,e48,e49⟩ K2 fY;rw [drop_of_length_le (dN _),nF] at H7;rw [H7] at hm;simp only at hm;obtain ⟨h5,ks5,u1,u2,u3,u4,u5⟩:=QO.add Bz r.name;rw [F.cq.dm];simp only [e48,e49,aS,reduceAdd,reduceEqDiff,reduceIte,aX];rw [fY,F.cq.cx];simp only [e4,e6,QW,aS,reduceAdd,reduceEqDiff,reduceIte,ct,ak qP2,ak qR2,aQ,u1,aJ hi hbig];refine hn _ _ ⟨m2,ks5,UH,UI,fun b hb=>by rw [u4 b (by omega)];exact hF2 b hb,hm,by rw [u4 A (by omega)];exact qA2,Tv,?_,u3,by rw [u4 P (by omega)];exact qP2,by omega,e4,tN,QV,rfl⟩;have:bF (rules.l.take (i+1))=bF (rules.l.take i)++[r.name]:=by unfold bF;rw [take_add_one,hv];simp
   rw [this];exact u2
 ·rintro e h' ⟨m,ks,es,ck,hF,hm,qA,W9,la,Bz,qP,QN,e4,tN,QV,QW⟩ K' hx;rw [drop_of_length_le (dN _),dW] at hm;rw [jW (dN _)] at la;have jG:=jf hm
  have adO:ks.length<=60:=by
   have:=eA.pZ Bz (m:=bF rules.l) fun x hx=>(la.mem x).1 hx;have h1:(bF rules.l).length=rules.l.length:=by simp [bF]
   omega
  rw [F.cq.aU];simp only [QV,QW,aS,reduceAdd,reduceEqDiff,reduceIte,aX];rw [hx,F.cq.aG];simp only [e4,aS,reduceAdd,reduceEqDiff,reduceIte,ct,ak qP,la.len,aJ (i:=ks.length) (n:=61) (by omega) (by unfold cM;omega)]
  refine aE 0 (ks.length+1) (zero_le _) (fun i e h'=>(∀ b,b<A->h'.get b=h.get b)/\h'.get A=some (.map es ck)/\fy (bF rules.l) h' M ks (eA.iter (bL rules.l) i)/\h'.get P=some (.cells [an aQ 3 rules,.map A,.map M])/\P<h'.next/\(∀ j,j<i->¬ eA.dy (bL rules.l) (eA.iter (bL rules.l) j)) /\
   e 4 = .ptr P 0/\e 82 = .int .i64 ((ks.length+1:Nat):Int)/\e 83 = .int .i64 (i:Int)) ⟨hF,qA,la,qP,QN,fun j hj=>by omega,e4,rfl,rfl⟩ ?_ ?_
  ·rintro i e h2 _ hi ⟨hF2,qA2,l2,q2,n2,PI,e4,e82,e83⟩ K2 oW fY qi DT;rw [F.cq.kM];simp only [e4,e82,e83,aS,reduceAdd,reduceEqDiff,reduceIte,bp hi];refine ai (KB (N:=i*1200) q2 l2 n2 (by omega) se (fun r hr=>⟨(jG r hr).2.1,List.mem_map_of_mem hr⟩) (wN se (fun r hr=>(jG r hr).2.1) i) (by omega) fun h3 l3 f3 n3=>?_);simp only [aS,reduceAdd,reduceEqDiff,reduceIte,not_not];have qA3:h3.get A=some (.map es ck):=by rw [f3 A (by omega) (by omega)];exact qA2
   have q3:h3.get P=some (.cells [an aQ 3 rules,.map A,.map M]):=by rw [f3 P n2 (by omega)];exact q2
   by_cases iM:eA.dy (bL rules.l) (eA.iter (bL rules.l) i)
   ·have I3:eA.dy (jl (bF rules.l) rules.l) (eA.iter (bL rules.l) i):=iM;simp only [fC I3,aL];rw [qi,F.cq.xY];simp only [bP,reduceEqDiff,reduceIte,e4];rw [eA.vX I3] at l3;exact zA h3 P A M ks i ⟨se,⟨m,hm⟩,i,iM⟩ iM q3 l3 Bz (by omega) (by omega) m es ck hm qA3 W9 (by omega) hAM hMP (fun b hb=>by rw [f3 b (by omega) (by omega)];exact hF2 b (by omega))
   ·have I3:¬ eA.dy (jl (bF rules.l) rules.l) (eA.iter (bL rules.l) i):=iM;simp only [eV I3,aK,e83,aJ hi (show ks.length+1<=cM by unfold cM;omega),aq]
    exact oW _ _ ⟨fun b hb=>by rw [f3 b (by omega) (by omega)];exact hF2 b hb,qA3,l3,q3,by omega,fun j hj=>by
     by_cases hji:j=i
     ·subst hji;exact iM
     ·exact PI j (by omega),e4,e82,rfl⟩
  ·rintro e h2 ⟨hF2,_,l2,q2,n2,PI,e4,e82,e83⟩ K2 fY;rw [F.cq.kM];simp only [e82,e83,aS,reduceAdd,reduceEqDiff,reduceIte,aX];rw [fY,F.cq.ic];refine Bc (fun hg=>?_) _ (fun b hb=>hF2 b (by omega));obtain ⟨k,hk⟩:=hg.lev;refine PI ks.length (by omega) (eA.settle (fun e he=>?_) hk);obtain ⟨r,hr,c,hc,_,hin,rfl⟩:=tF he;exact ⟨(la.mem _).2 hin,(la.mem _).2 (List.mem_map_of_mem hr)⟩
theorem NI(D:DB)(nm:cc)(b:Nat)(d d':List Bool):kO (kO D nm b d) nm b d'=kO D nm b d':=by
 funext j;unfold kO;by_cases e:j=nm
 ·rw [if_pos e,if_pos e]
 ·rw [if_neg e,if_neg e,if_neg e]
theorem qG(D:DB)(nm:cc)(b:Nat)(d:List Bool):kO D nm b d nm=some (b,d):=if_pos rfl
theorem BE{j:cc}(h:j≠nm)(b:Nat)(d:List Bool):kO D nm b d j=D j:=if_neg h
theorem er.add(b:er D h B lo)(DP:lo<=h.next)(N:Nat)(nm:cc) :
  ∃ h',eS .string (.map B) (.str nm) (.slice h.next 0 N 1) (h.alloc (.cells ((replicate N false).map bv)))=some h'/\er (kO D nm h.next (replicate N false)) h' B lo/\(∀ c,c<h.next->c≠B->h'.get c=h.get c)/\h'.next=h.next+1:=by
 obtain ⟨es,ck,m,e1,e2,e3⟩:=b.ex;have hB:=b.lt;have a1:(h.alloc (.cells ((replicate N false).map bv))).get B=some (.map es ck):=by rw [Heap.aW,if_neg (by omega)];exact e1
 obtain ⟨xA,Gu,hu,V6⟩:=Jc a1 e2 nm (.slice h.next 0 N 1);refine ⟨_,hu,⟨⟨xA,Gu,_,by rw [Heap.aN,if_pos rfl],V6,fun j=>?_⟩,fun j q hq=>?_,fun j j' q q' hq pq VQ=>?_,by rw [Heap.br,Heap.aM];omega⟩,fun c hc NJ=>by rw [Heap.aN,if_neg NJ,Heap.aW,if_neg (by omega)],by rw [Heap.br,Heap.aM]⟩
 ·rw [Qa];unfold kO;by_cases e:j=nm
  ·rw [if_pos e,if_pos e,map_some,length_replicate]
  ·rw [if_neg e,if_neg e,e3]
 ·unfold kO at hq;by_cases e:j=nm
  ·rw [if_pos e] at hq;cases hq;exact ⟨DP,by rw [Heap.br,Heap.aM];exact lt_succ_self _,by show h.next≠B;omega,by rw [Heap.aN,if_neg (by show h.next≠B;omega)];exact aB _ _⟩
  ·rw [if_neg e] at hq;obtain ⟨k1,k2,k3,k4⟩:=b.Co j q hq;exact ⟨k1,by rw [Heap.br,Heap.aM];omega,k3,by rw [Heap.aN,if_neg k3,Heap.aW,if_neg (by omega)];exact k4⟩
 ·unfold kO at hq pq;by_cases e:j=nm
  ·by_cases e':j'=nm
   ·rw [e,e']
   ·rw [if_pos e] at hq;rw [if_neg e'] at pq;cases hq;have:=(b.Co j' q' pq).2.1;simp only at VQ;omega
  ·by_cases e':j'=nm
   ·rw [if_neg e] at hq;rw [if_pos e'] at pq;cases pq;have:=(b.Co j q hq).2.1;simp only at VQ;omega
   ·rw [if_neg e] at hq;rw [if_neg e'] at pq;exact b.inj j j' q q' hq pq VQ
theorem V7{R:AV}(hS:h.get S=some (.cells [.int .i64 (n:Int),R]))(h1:1<=n){x:Sl Int}(hk:x.l.length=k)(hx:k<=12)(hc:n ^ k<=4096)(hb:jy n x.l=true)
  (hK:K (.ret (.int .i64 ((ni n x.l:Nat):Int))) h=true):Sem TP 101 [.ptr S 0,an encI 1 x] h K:=KF hS h1 (by omega) (by rw [hk];exact hc) hb hK
theorem Tw(hk:k<=12)(hc:n ^ k<=4096):Nu n k = .tuple [.int .i64 ((n ^ k:Nat):Int),.int .i64 0]:=by rw [Nu,if_neg (by omega),if_neg (by omega)]
set_option maxHeartbeats 1000000 in
theorem G7{SB:Nat}{s:cN}{D1:DB}(me:s.ok)(uO:de s=true)(hn:s.size=(n:Int))(n1:1<=n)(xj:n<=64)
  (hS:h.get S=some (.cells [.int .i64 (n:Int),.map B])) (hSB:h.get SB=some (.cells (au s))) (hD:er D1 h B lo) (aaS:S≠B) (aaT:SB≠B) (Tb:S<h.next) (V8:SB<h.next) (DP:lo<=h.next)
  (q3:e0 3 = .ptr SB 0) (q7:e0 7 = .ptr P 0) (q17:e0 17 = .ptr S 0) (adP:e0 154=an aR 3 s.aF) (adQ:e0 155 = .int .i64 (s.aF.l.length:Int)) (adR:e0 156 = .int .i64 0)
  (done:∀ h' D',er D' h' B lo->(∀ r ∈ s.aF.l,∃ b,h.next<=b/\D' r.name=some (b,bitsOf n r.arity.toNat r.aO.l))->(∀ nm,(∀ r ∈ s.aF.l,r.name≠nm)->D' nm=D1 nm)->(∀ c,c<h.next->c≠B->h'.get c=h.get c)->h.next<=h'.next->K (.ret (.tuple [.ptr P 0,.ptr S 0,.int .i64 0])) h'=true) :
  bV (EV F.az.L5) ⟨e0,198,[],h⟩ (F.az.L5k K)=true:=by
 have hbig:=me.1;have hBn:=hD.lt
 refine aE 0 s.aF.l.length (zero_le _) (fun i e h'=>∃ D,er D h' B lo/\(∀ r ∈ s.aF.l.take i,∃ b,h.next<=b/\D r.name=some (b,bitsOf n r.arity.toNat r.aO.l))/\(∀ nm,(∀ r ∈ s.aF.l.take i,r.name≠nm)->D nm=D1 nm)/\(∀ c,c<h.next->c≠B->h'.get c=h.get c)/\h.next<=h'.next /\
  e 3 = .ptr SB 0/\e 7 = .ptr P 0/\e 17 = .ptr S 0/\e 154=an aR 3 s.aF/\e 155 = .int .i64 (s.aF.l.length:Int)/\e 156 = .int .i64 (i:Int))
  ⟨D1,hD,fun r hr=>(by cases hr),fun _ _=>rfl,fun _ _ _=>rfl,dN _,q3,q7,q17,adP,adQ,adR⟩ ?_ ?_
 ·rintro i e h' _ hi ⟨D,hDa,uY,Tx,hfr,pg,e3,e7,tN,KV,Ji,Jj⟩ K' DQ hx hr hp;have hv:s.aF.l[i]?=some s.aF.l[i]:=ew hi;generalize s.aF.l[i]=r at hv;have VZ:r.ok:=me.2 r (iq hv);have P4:=Dq uO hv;rw [show s.size.toNat=n by omega] at P4;obtain ⟨k,hk,Np,hkc,Ty⟩:=G0 P4;have hkn:r.arity.toNat=k:=by omega
  obtain ⟨H,GQ,g1,go,gn⟩:=cF (h:=h') (zs:=[.str [],.int .i64 0,.ay]) (cs:=aR r) (n:=3) rfl rfl (fP r);have xH:bC h' H:=⟨by omega,fun b hb=>go b (by omega)⟩
  have pSB:H.get SB=some (.cells (au s)):=by rw [xH.get _ (by omega),hfr _ V8 aaT];exact hSB
  have pS:H.get S=some (.cells [.int .i64 (n:Int),.map B]):=by rw [xH.get _ (by omega),hfr _ Tb aaS];exact hS
  have hDH:=hDa.ext xH;have lz:ah none (.ptr SB 0) H=some (.int .i64 (n:Int)):=by rw [ak pSB,<- hn];rfl
  have la:ah none (.ptr h'.next 1) H=some (.int .i64 (k:Int)):=by rw [ak g1,<- hk];rfl
  have ln:ah none (.ptr h'.next 0) H=some (.str r.name):=by rw [ak g1];rfl
  obtain ⟨h2,hu,hD2,U8,oW⟩:=hDH.add (by omega) (n ^ k) r.name;have lt:ah none (.ptr h'.next 2) h2=some (an cZ 1 r.aO):=by rw [ak (show h2.get h'.next=some (.cells (aR r)) by rw [U8 _ (by omega) (by omega)];exact g1)];rfl
  rw [F.az.Uu];simp only [KV,Ji,Jj,e3,tN,aS,reduceAdd,reduceEqDiff,reduceIte,bp hi,aV s.aF hi,dx dU hv,GQ];simp only [aS,reduceAdd,reduceEqDiff,reduceIte,lz,la];refine ai (tO n1 xj (by unfold cM;omega) ?_);rw [Tw Np hkc];simp only [aS,reduceAdd,reduceEqDiff,reduceIte,ct,ak pS,ln,Md (show n ^ k<=1000000 by omega),hu,lt]
  refine aE 0 r.aO.l.length (zero_le _) (fun j e h3=>∃ d,bitsOf n k r.aO.l=oM n (r.aO.l.drop j) d/\d.length=n ^ k/\er (kO D r.name H.next d) h3 B lo/\(∀ c,c<H.next->c≠B->h3.get c=H.get c)/\h3.next=h2.next /\
   e 3 = .ptr SB 0/\e 7 = .ptr P 0/\e 17 = .ptr S 0/\e 154=an aR 3 s.aF/\e 155 = .int .i64 (s.aF.l.length:Int)/\e 156 = .int .i64 (i:Int)/\e 25 = .ptr h'.next 0/\e 177=an cZ 1 r.aO/\e 178 = .int .i64 (r.aO.l.length:Int)/\e 179 = .int .i64 (j:Int))
   ⟨_,rfl,by simp,hD2,U8,rfl,e3,e7,tN,KV,Ji,Jj,rfl,rfl,rfl,rfl⟩ ?_ ?_
  ·rintro j e h3 _ hj ⟨d,hd,hdl,hD3,hf3,hn3,e3,e7,tN,KV,Ji,Jj,KQ,V9,Tz,Wa⟩ K2 uJ fY qi DT;have G4:r.aO.l[j]?=some r.aO.l[j]:=ew hj;generalize r.aO.l[j]=t at G4;obtain ⟨Dt,XP⟩:=Qb Ty G4;rw [Nk G4] at hd;have EH:ni n t.l<d.length:=by have:=wP XP;rw [Dt] at this;omega
   have wS:h3.get S=some (.cells [.int .i64 (n:Int),.map B]):=by rw [hf3 _ (by omega) aaS];exact pS
   have wR:h3.get h'.next=some (.cells (aR r)):=by rw [hf3 _ (by omega) (by omega)];exact g1
   have lnm:ah none (.ptr h'.next 0) h3=some (.str r.name):=by rw [ak wR];rfl
   have Qi:=hD3.look (qG D r.name H.next d);obtain ⟨_,_,_,nh⟩:=hD3.Co r.name _ (qG D r.name H.next d);simp only at Qi nh;have lR:=hD3.set (qG D r.name H.next d) (d:=d.set (ni n t.l) true) (by simp);rw [NI] at lR;simp only at lR;rw [F.az.Uv];simp only [tN,KQ,V9,Tz,Wa,aS,reduceAdd,reduceEqDiff,reduceIte,bp hj,aV r.aO hj,ij G4,ct,ak wS,lnm,Qi];refine ai (V7 wS n1 Dt Np hkc XP ?_);simp only [aS,reduceAdd,reduceEqDiff,reduceIte,ak wS,lnm,Qi,AV.beq_refl,Bool.and_self,Bool.and_true,if_true,nt EH,IG nh EH,aJ hj VZ.2.1];exact uJ _ _ ⟨_,hd,by simpa using hdl,lR,fun c hc NJ=>by rw [Heap.aN,if_neg (by omega)];exact hf3 c hc NJ,by rw [Heap.br];exact hn3,e3,e7,tN,KV,Ji,Jj,KQ,V9,Tz,rfl⟩
  ·rintro e h3 ⟨d,hd,hdl,hD3,hf3,hn3,e3,e7,tN,KV,Ji,Jj,KQ,V9,Tz,Wa⟩ K2 fY;rw [drop_of_length_le (dN _)] at hd;simp only [oM] at hd;rw [F.az.Uv];simp only [Tz,Wa,aS,reduceAdd,reduceEqDiff,reduceIte,aX];rw [fY,F.az.Nd];simp only [aS,reduceAdd,reduceEqDiff,reduceIte,Jj,aJ hi hbig];refine DQ _ _ ⟨kO D r.name H.next d,hD3,fun q hq=>?_,fun nm vr=>?_,fun c hc NJ=>by rw [hf3 c (by omega) NJ,xH.get c (by omega)];exact hfr c hc NJ,by omega,e3,e7,tN,KV,Ji,rfl⟩
   ·rw [take_add_one,hv] at hq;rcases mem_append.1 hq with pq|pq
    ·by_cases e:q.name=r.name
     ·obtain ⟨a,ha⟩:=mem_iff_getElem?.1 pq
      have UG:s.aF.l[a]?=some q:=by
       rw [getElem?_take] at ha;split at ha
       ·exact ha
       ·cases ha
      have hai:a<i:=by
       rw [getElem?_take] at ha;split at ha
       ·assumption
       ·cases ha
      have:=nS (rH uO) (i:=a) (j:=i) (s:=q.name) (by rw [getElem?_map,UG];rfl) (by rw [getElem?_map,hv,e];rfl);omega
     ·obtain ⟨b,b1,b2⟩:=uY q pq;exact ⟨b,b1,by rw [BE e];exact b2⟩
    ·simp only [toList_some,mem_singleton] at pq;subst pq;exact ⟨H.next,by omega,by rw [qG,hkn,hd]⟩
   ·have h1:nm≠r.name:=fun e=>vr r (by rw [take_add_one,hv];simp) e.symm;rw [BE h1];exact Tx nm fun q hq=>vr q (by rw [take_add_one,hv];exact mem_append_left _ hq)
 ·rintro e h' ⟨D,hDa,uY,Tx,hfr,pg,e3,e7,tN,KV,Ji,Jj⟩ K' hx;rw [jW (dN _)] at uY Tx;rw [F.az.Uu];simp only [Ji,Jj,aS,reduceAdd,reduceEqDiff,reduceIte,aX];rw [hx,F.az.Nc];simp only [bP,reduceEqDiff,reduceIte,e7,tN];exact done h' D hDa uY Tx hfr pg
def QX(m:eE)(p:cc×Int):Option eE:=match m.find p.1 with
 |none=>some (m.qY p.1 p.2)
 |some k=>if k=p.2 then some (m.qY p.1 p.2) else none
def tW:List (cc×Int)->eE->Option eE
 |[],m=>some m
 |p :: l,m=>match QX m p with|none=>none|some m'=>tW l m'
theorem Jk(m:eE)(nm:cc)(n:Nat):C7 m nm n=QX m (nm,(n:Int)):=rfl
theorem Aw:∀ (a b:List (cc×Int)) (m:eE),tW (a++b) m=match tW a m with|none=>none|some m'=>tW b m'
 |[],b,m=>rfl
 |p :: a,b,m=>by
  rw [cons_append,tW,tW]
  cases QX m p with
  |none=>rfl
  |some m'=>exact Aw a b m'
theorem wX:∀ (cs:List eP) (m:eE),nF cs m=if cs.all gI=true then tW (dY cs) m else none
 |[],m=>rfl
 |c :: cs,m=>by
  rw [nF,all_cons]
  cases hc:gI c with
  |false=>simp
  |true=>
   rw [cond_true,Bool.true_and];by_cases k0:c.kind=0
   ·have TA:dY (c :: cs)=(c.name,(c.args.l.length:Int)) :: dY cs:=(by unfold dY;simp [k0]);rw [if_pos k0,TA,tW,Jk]
    cases QX m (c.name,(c.args.l.length:Int)) with
    |none=>simp
    |some m'=>exact wX cs m'
   ·have TA:dY (c :: cs)=dY cs:=(by unfold dY;simp [k0]);rw [if_neg k0,TA];exact wX cs m
theorem rJ:∀ (rs:List aP) (m:eE),dW rs m=if rs.all jz=true then tW (cD rs) m else none
 |[],m=>rfl
 |r :: rs,m=>by
  have GZ:cD (r :: rs)=(r.name,(r.args.l.length:Int)) :: (dY r.body.l++cD rs):=by unfold cD;simp [tL]
  rw [dW,all_cons,GZ,tW,Ao,Jk];unfold jz
  cases h1:ej r.name with
  |false=>simp
  |true=>
  cases h2:l7 r.args.l with
  |false=>simp
  |true=>
  simp only [Bool.true_and,cond_true];by_cases h3:r.body.l.length<=20
  ·by_cases h4:(varsOf r).length<=12
   ·rw [fC h3,fC h4,Bool.true_and,Bool.and_true]
    cases QX m (r.name,(r.args.l.length:Int)) with
    |none=>simp
    |some m1=>
     simp only;rw [if_neg (by omega),if_neg (by omega),wX,Aw]
     cases h5:r.body.l.all gI with
     |false=>simp
     |true=>
      rw [if_pos rfl,Bool.true_and]
      cases tW (dY r.body.l) m1 with
      |none=>simp
      |some m2=>exact rJ rs m2
   ·rw [eV h4,Bool.and_false,Bool.and_false,Bool.false_and,if_neg (by simp)]
    cases QX m (r.name,(r.args.l.length:Int)) with
    |none=>rfl
    |some m1=>simp only;rw [if_neg (by omega),if_pos (by omega)]
  ·rw [eV h3,Bool.false_and,Bool.false_and,if_neg (by simp)]
   cases QX m (r.name,(r.args.l.length:Int)) with
   |none=>rfl
   |some m1=>simp only;rw [if_pos (by omega)]
def G8(l:List (cc×Int)):Prop:=∀ p ∈ l,∀ q ∈ l,p.1=q.1->p.2=q.2
theorem Dy:∀ (l:List (cc×Int)) (m:eE),(∃ m',tW l m=some m')↔((∀ p ∈ l,∀ k,m.find p.1=some k->k=p.2)/\G8 l)
 |[],m=>⟨fun _=>⟨fun p hp=>(by cases hp),fun p hp=>(by cases hp)⟩,fun _=>⟨m,rfl⟩⟩
 |p :: l,m=>by
  have fu:∀ q:cc×Int,(m.qY p.1 p.2).find q.1=if q.1=p.1 then some p.2 else m.find q.1:=fun q=>uE m p.1 q.1 p.2
  have key:(∃ m',tW l (m.qY p.1 p.2)=some m')/\(∀ k,m.find p.1=some k->k=p.2)↔((∀ q ∈ p :: l,∀ k,m.find q.1=some k->k=q.2)/\G8 (p :: l)):=by
   rw [Dy l];constructor
   ·rintro ⟨⟨h1,h2⟩,h3⟩;have hp:∀ q ∈ l,q.1=p.1->p.2=q.2:=fun q hq e=>h1 q hq p.2 (by rw [fu,if_pos e]);refine ⟨fun q hq k hk=>?_,fun a ha b hb e=>?_⟩
    ·rcases mem_cons.1 hq with rfl|hq
     ·exact h3 k hk
     ·by_cases e:q.1=p.1
      ·rw [e] at hk;rw [h3 k hk,hp q hq e]
      ·exact h1 q hq k (by rw [fu,if_neg e];exact hk)
    ·rcases mem_cons.1 ha with UG|UG<;>rcases mem_cons.1 hb with eX|eX
     ·rw [UG,eX]
     ·rw [UG] at e ⊢;exact hp b eX e.symm
     ·rw [eX] at e ⊢;exact (hp a UG e).symm
     ·exact h2 a UG b eX e
   ·rintro ⟨h1,h2⟩;refine ⟨⟨fun q hq k hk=>?_,fun a ha b hb e=>h2 a (mem_cons_of_mem _ ha) b (mem_cons_of_mem _ hb) e⟩,fun k hk=>h1 p mem_cons_self k hk⟩;rw [fu] at hk;by_cases e:q.1=p.1
    ·rw [if_pos e] at hk;cases hk;exact h2 p mem_cons_self q (mem_cons_of_mem _ hq) e.symm
    ·rw [if_neg e] at hk;exact h1 q (mem_cons_of_mem _ hq) k hk
  rw [<- key,tW];unfold QX
  cases hf:m.find p.1 with
  |none=>simp
  |some k=>
   by_cases hk:k=p.2
   ·subst hk;simp
   ·simp [hk]
theorem uQ(rs:List aP):kN rs↔(rs.length<=60/\rs.all jz=true/\G8 (cD rs)/\∃ k,eA.dy (bL rs) (eA.iter (bL rs) k)):=by
 have h0:∀ p ∈ cD rs,∀ k,eE.find [] p.1=some k->k=p.2:=fun p _ k hk=>by simp [eE.find] at hk
 constructor
 ·rintro ⟨h1,⟨m,h2⟩,h3⟩;rw [rJ] at h2;split at h2
  ·rename_i ha;exact ⟨h1,ha,((Dy _ _).1 ⟨m,h2⟩).2,h3⟩
  ·cases h2
 ·rintro ⟨h1,h2,h3,h4⟩;obtain ⟨m,hm⟩:=(Dy (cD rs) []).2 ⟨h0,h3⟩;exact ⟨h1,⟨m,by rw [rJ,if_pos h2];exact hm⟩,h4⟩
theorem Jl{p:cc×Int}(hp:x.l[i]?=some p):ah none (.dQ (x.l.flatMap nj) (i*2)) h=some (.str p.1):=fH oI hp (by omega:0<2)
theorem KW{p:cc×Int}(hp:x.l[i]?=some p):ah none (.dQ (x.l.flatMap nj) (i*2+1)) h=some (.int .i64 p.2):=fH oI hp (by omega:1<2)
set_option maxHeartbeats 1000000 in
theorem bD{rules:Sl aP}(kD:∀ r ∈ rules.l,r.ok)(iY:∀ r ∈ rules.l,r.mj){h:Heap}{K:Out->Heap->Bool}(hK:∀ b:Bool,(b=true↔kN rules.l)->K (.ret (.bool b)) h=true):Sem TP 65 [an aQ 3 rules] h K:=by
 have gen:∀ R:Out->Heap->Bool,(∀ (b:Bool) h',(b=true↔kN rules.l)->R (.ret (.bool b)) h'=true)->Sem TP 65 [an aQ 3 rules] Heap.empty R:=by
  intro R fin;refine F.AQ ?_;rw [F.CD];have no:∀ h',¬ kN rules.l->R (.ret (.bool false)) h'=true:=fun h' hn=>fin false h' ⟨fun h=>(by cases h),fun h=>absurd h hn⟩;simp only [aS,reduceAdd,reduceEqDiff,reduceIte];by_cases h61:60<rules.l.length
  ·simp only [fC (by omega:(60:Int)<(rules.l.length:Int)),aL];exact no _ (fun hg=>by have:=hg.mj;omega)
  have se:rules.l.length<=60:=by omega
  have hbig:rules.l.length<=cM:=by unfold cM;omega
  simp only [eV (by omega:¬ (60:Int)<(rules.l.length:Int)),aK];refine aE 0 rules.l.length (zero_le _) (fun i e h'=>e 0=an aQ 3 rules/\e 3 = .int .i64 (i:Int)/\(rules.l.take i).all jz=true) ⟨rfl,rfl,rfl⟩ ?_ ?_
  ·rintro i e h' _ hi ⟨e0,e3,ht⟩ K' hn hx hr hp;have hv:rules.l[i]?=some rules.l[i]:=ew hi;generalize rules.l[i]=r at hv;rw [F.bD.aU];simp only [e0,e3,aS,reduceAdd,reduceEqDiff,reduceIte,bp hi,aV rules hi,dx gz hv];refine ai (cQ (kD r (iq hv)) (iY r (iq hv)) ?_);simp only [aS,reduceAdd,reduceEqDiff,reduceIte]
   cases hq:jz r with
   |false=>
    simp only [Bool.not_false,aL];rw [hr,F.bD.bz]
    exact no _ (fun hg=>by
     have:=((uQ _).1 hg).2.1
     rw [all_false hv hq] at this;cases this)
   |true=>
    simp only [Bool.not_true,aK,aJ hi hbig,aq];exact hn _ _ ⟨e0,rfl,jq hv ht hq⟩
  ·rintro e h' ⟨e0,e3,ht⟩ K' hx;rw [jW (dN _)] at ht
   have uD:∀ r ∈ rules.l,r.body.l.length<=20:=fun r hr=>by
    have:=List.all_eq_true.1 ht r hr;unfold jz at this;simp only [and_eq_true,decide_eq_true_eq] at this;exact this.2.2.1
   rw [F.bD.aU];simp only [e0,e3,aS,reduceAdd,reduceEqDiff,reduceIte,aX];rw [hx,F.bD.aG];simp only [e0,aS,reduceAdd,reduceEqDiff,reduceIte];refine ai (cL se uD fun x jI=>?_);simp only [aS,reduceAdd,reduceEqDiff,reduceIte];have IS:x.l.length<=1260:=by rw [jI];have:=tM rules.l uD;omega
   have Mf:x.l.length<=cM:=by unfold cM;omega
   refine aE 0 x.l.length (zero_le _) (fun i e h'=>e 0=an aQ 3 rules/\e 4=an nj 2 x/\e 5 = .int .i64 (i:Int)/\∀ a b p q,a<b->b<i->x.l[a]?=some p->x.l[b]?=some q->p.1=q.1->p.2=q.2) ⟨e0,rfl,rfl,fun a b p q h1 h2=>by omega⟩ ?_ ?_
   ·rintro i e h' _ hi ⟨e0,e4,e5,xh⟩ K1 Mk PV OJ W4;have Ti:x.l[i]?=some x.l[i]:=ew hi;generalize x.l[i]=q at Ti;rw [F.bD.dm];simp only [e4,e5,aS,reduceAdd,reduceEqDiff,reduceIte,bp hi];refine aE 0 i (zero_le _) (fun j e h'=>e 0=an aQ 3 rules/\e 4=an nj 2 x/\e 5 = .int .i64 (i:Int)/\e 6 = .int .i64 (j:Int)/\∀ a p,a<j->x.l[a]?=some p->p.1=q.1->p.2=q.2) ⟨e0,e4,e5,rfl,fun a p h1=>by omega⟩ ?_ ?_
    ·rintro j e h' _ hj ⟨e0,e4,e5,e6,haj⟩ K2 oW fY qi DT;have hjx:j<x.l.length:=by omega
     have Xa:x.l[j]?=some x.l[j]:=ew hjx;generalize x.l[j]=p at Xa;have hib:i<=cM:=by omega
     rw [F.bD.kM];simp only [e4,e5,e6,aS,reduceAdd,reduceEqDiff,reduceIte,bp hj,aV x hi,aV x hjx,Jl Ti,Jl Xa,rA];by_cases hq:p.1=q.1
     ·simp only [fC hq,aL,e4,e5,e6,aS,reduceAdd,reduceEqDiff,reduceIte,aV x hi,aV x hjx,KW Ti,KW Xa,cP];by_cases Qh:p.2=q.2
      ·simp only [fC Qh,Bool.not_true,aK,aJ hj hib,aq];refine oW _ _ ⟨e0,e4,e5,rfl,fun a p' h1 h2=>?_⟩;by_cases Wb:a=j
       ·subst Wb;rw [Xa] at h2;cases h2;exact fun _=>Qh
       ·exact haj a p' (by omega) h2
      ·simp only [eV Qh,Bool.not_false,aL];rw [qi,F.bD.xY,OJ,F.bD.iR];exact no _ (fun hg=>Qh (((uQ _).1 hg).2.2.1 p (by rw [<- jI];exact iq Xa) q (by rw [<- jI];exact iq Ti) hq))
     ·simp only [eV hq,aK,aJ hj hib,aq];refine oW _ _ ⟨e0,e4,e5,rfl,fun a p' h1 h2=>?_⟩;by_cases Wb:a=j
      ·subst Wb;rw [Xa] at h2;cases h2;exact fun e=>absurd e hq
      ·exact haj a p' (by omega) h2
    ·rintro e h' ⟨e0,e4,e5,e6,haj⟩ K2 fY;rw [F.bD.kM];simp only [e5,e6,aS,reduceAdd,reduceEqDiff,reduceIte,aX];rw [fY,F.bD.ic];simp only [e5,aS,reduceAdd,reduceEqDiff,reduceIte,aJ hi Mf];refine Mk _ _ ⟨e0,e4,rfl,fun a b p' q' h1 h2 h3 h4=>?_⟩;by_cases hb:b=i
     ·subst hb;rw [Ti] at h4;cases h4;exact haj a p' h1 h3
     ·exact xh a b p' q' h1 (by omega) h3 h4
   ·rintro e h' ⟨e0,e4,e5,xh⟩ K1 PV
    have Wc:G8 (cD rules.l):=fun p hp q hq e=>by
     rw [<- jI] at hp hq;obtain ⟨a,ha⟩:=mem_iff_getElem?.1 hp;obtain ⟨b,hb⟩:=mem_iff_getElem?.1 hq;have hal:=(ki.1 ha).1;have VY:=(ki.1 hb).1;rcases Nat.lt_trichotomy a b with h|h|h
     ·exact xh a b p q h VY ha hb e
     ·subst h;rw [ha] at hb;cases hb;rfl
     ·exact (xh b a q p h hal hb ha e.symm).symm
    rw [F.bD.dm];simp only [e4,e5,aS,reduceAdd,reduceEqDiff,reduceIte,aX];rw [PV,F.bD.cx];simp only [e0,aS,reduceAdd,reduceEqDiff,reduceIte];refine ai (bq se uD (fun hk=>?_) (fun y k hk hy=>?_))
    ·simp only [aS,reduceAdd,reduceEqDiff,reduceIte];exact no _ (fun hg=>by obtain ⟨k,h⟩:=hg.lev;exact hk k h)
    ·simp only [aS,reduceAdd,reduceEqDiff,reduceIte];exact fin true _ ⟨fun _=>(uQ _).2 ⟨se,ht,Wc,k,hk⟩,fun _=>rfl⟩
 have main:=gen (fun o h'=>yes (∃ b:Bool,o = .ret (.bool b)/\(b=true↔kN rules.l))) (fun b h' hb=>cw.2 ⟨b,rfl,hb⟩);refine main.frozen (by simp [AV.cO,cp fN]) fun o h' ho=>?_;obtain ⟨b,rfl,hb⟩:=cw.1 ho;exact ⟨_,_,rfl,.scalar _ rfl,hK b hb⟩
end
end Go.AM