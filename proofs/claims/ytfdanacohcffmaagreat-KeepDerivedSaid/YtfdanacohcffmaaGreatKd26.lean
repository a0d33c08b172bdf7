/- Parts of the proof. Conditions: none. -/
import Derived.Test.YtfdanacohcffmaaGreatKd19
import Derived.Test.YtfdanacohcffmaaGreatKd25
set_option linter.unusedSimpArgs false
set_option linter.unusedVariables false
namespace Go.AM
open List Nat Bool Option
open Go Go.Proofs
noncomputable section
variable {K:Out->Heap->Bool} {h:Heap} {rs:List aN} {n i sz b ck lo v S B P M:Nat} {lv:eA.Lv} {r:aN} {s:DB×Bool} {α:Type} {es:List Entry} {x:Sl (b8×Int)} {nm:b8} {vs t:List Int} {D0 D:DB} {rules:Sl aN} {p:Nat->Bool} {g ng:FuncId} {ps:List Nat} {c:eV} {a:AV} {e0:Env} {na nb:List AV}
structure Rx (S n:Nat) (D0:DB) (ps:List zu) (ng:FuncId) (na nb:List AV):Prop where
 n1:1<=n
 sI:n<=64
 acm:∀ p ∈ ps,p.ok
 rows:∀ nm p,D0 nm=some p->p.1≠S
 ask:∀ p ∈ ps,∀ D,eM D D0->zq n D p.r
 head:∀ p ∈ ps,n ^ p.r.args.l.length<=4096/\p.r.args.l.length<=12/\∃ q,D0 p.r.name=some q/\q.2.length=n ^ p.r.args.l.length
 note:∀ (i:Int) (r:aN) (k:Int) (hd:Sl Int) (cs:Sl (Sl Int)) (ls:Sl Int) (y:AV) (h:Heap) (K:Out->Heap->Bool),(∀ h',bu h h'->K (.ret (.tuple [])) h'=true)->Sem TP ng (na++([.agg (bI i r k (ak encI 1 hd) (ak cU 1 cs) (ak encI 1 ls)),y]++nb)) h K
set_option maxHeartbeats 2000000 in
theorem J4{k0:Nat}{ps:List zu}{a1:AV}(o:Rx S n D0 ps ng na nb)(hS:h.get S=some (.cells [.int .i64 (n:Int),.map B]))(Ri:S<h.next)(hD:dB D0 h B lo)
  (tu:Own uT 8 k0 h a1 ps) (YU:∀ b,cL a1=some b->∀ nm p,D0 nm=some p->b≠p.1) (qJ:ps.length<=60)
  (hK:∀ h' D',Reach n (ps.map (·.r)) D0 D'->mN n (ps.map (·.r)) (D',false)=(D',false)->eM D' D0->dB D' h' B lo->(∀ b,b<h.next->(∀ nm p,D0 nm=some p->b≠p.1)->h'.get b=h.get b)->h.next<=h'.next->K (.ret (.tuple [])) h'=true) :
  Sem TP 103 [.ptr S 0,a1,.func ng na nb] h K:=by
 have hbig:ps.length<=cE:=by unfold cE;omega
 have rG:∀ nm p,D0 nm=some p->p.1<h.next:=fun nm p hp=>(hD.Df nm p hp).2.1
 have hBn:=hD.lt;have hBr:∀ nm p,D0 nm=some p->B≠p.1:=fun nm p hp=>Ne.symm (hD.Df nm p hp).2.2.1;refine F.tG ?_;rw [F.ux];simp only [mE (x:=.ptr S 0) rfl,mE (x:=.func ng na nb) rfl,an,Heap.aJ]
 have g3:((h.alloc (.cells [.ptr S 0])).alloc (.cells [.func ng na nb])).get h.next=some (.cells [.ptr S 0]):=by
  rw [Heap.aQ,Heap.aJ,if_neg (by omega)];exact aA _ _
 have g5:((h.alloc (.cells [.ptr S 0])).alloc (.cells [.func ng na nb])).get (h.next+1)=some (.cells [.func ng na nb]):=aA _ _;have gx:bu h ((h.alloc (.cells [.ptr S 0])).alloc (.cells [.func ng na nb])):=(bu.alloc _ _).trans (bu.alloc _ _);have gn:((h.alloc (.cells [.ptr S 0])).alloc (.cells [.func ng na nb])).next=h.next+1+1:=rfl
 generalize ((h.alloc (.cells [.ptr S 0])).alloc (.cells [.func ng na nb]))=H2 at g3 g5 gx gn ⊢;obtain ⟨H3,s6,a6,o6,n6⟩:=lI (h:=H2) (z:=.bool false) (v:=.bool true) rfl rfl;rw [gn] at s6 a6;simp only [s6,an];have x3:bu h H3:=gx.trans ⟨by omega,fun b hb=>o6 b (by omega)⟩
 refine Bl (fun m e h'=>∃ (D:DB) (more:Bool) (P6:Nat),e 1=a1/\e 3 = .ptr h.next 0/\e 5 = .ptr (h.next+1) 0/\e 6 = .ptr P6 0/\h'.get P6=some (.cells [.bool more])/\h.next+1<P6/\P6<h'.next/\h'.get h.next=some (.cells [.ptr S 0])/\h'.get (h.next+1)=some (.cells [.func ng na nb]) /\
  Reach n (ps.map (·.r)) D0 D/\eM D D0/\dB D h' B lo/\(∀ b,b<h.next->(∀ nm p,D0 nm=some p->b≠p.1)->h'.get b=h.get b)/\h.next<=h'.next /\
  ((more=true/\m=Ee (ps.map (·.r.name)) D+1)\/(more=false/\m=0/\mN n (ps.map (·.r)) (D,false)=(D,false)))) _
  ⟨D0,true,h.next+1+1,rfl,rfl,rfl,rfl,a6,by omega,by omega,by rw [o6 _ (by omega)];exact g3,by rw [o6 _ (by omega)];exact g5,.refl,fun _=>rfl,hD.ext x3,fun b hb _=>x3.get b hb,x3.next,.inl ⟨rfl,rfl⟩⟩ ?_
 rintro m e h' ⟨D,more,P6,e1,e3,e5,e6,q6,q6l,q6n,q3,q5,hre,yf,pR,hfr,oK,M9⟩ K0 SO Wi hr0;rw [F.b6.aT];simp only [e6,aR,reduceAdd,reduceEqDiff,reduceIte,aj q6];rcases M9 with ⟨Zl,hm⟩|⟨Zl,hm,acn⟩
 ·subst Zl;have st:bf 1 (.ptr P6 0) (.bool false) h'=some (h'.set P6 (.cells [.bool false])):=by rw [cK (n:=1) q6 rfl rfl (by simp)];rfl
  have aco:∀ h,bX .slice a1 h=some (.int .i64 (ps.length:Int)):=fun h=>tu.len;simp only [aL,st,aR,reduceAdd,reduceEqDiff,reduceIte,e1,aco];have f0:∀ b,b≠P6->(h'.set P6 (.cells [.bool false])).get b=h'.get b:=fun b hb=>by rw [Heap.aP,if_neg hb]
  have f6:(h'.set P6 (.cells [.bool false])).get P6=some (.cells [.bool false]):=by rw [Heap.aP,if_pos rfl]
  have fn:(h'.set P6 (.cells [.bool false])).next=h'.next:=Heap.bp _ _ _
  have fD:dB D (h'.set P6 (.cells [.bool false])) B lo:=by
   obtain ⟨es,ck,mm,z1,z2,z3⟩:=pR.ex;refine ⟨⟨es,ck,mm,by rw [f0 _ (by omega)];exact z1,z2,z3⟩,fun nm p hp=>?_,pR.inj,by rw [fn];exact pR.lt⟩;obtain ⟨c1,c2,c3,c4⟩:=pR.Df nm p hp;obtain ⟨p0,d1,d2,_⟩:=yf.back hp;have:=rG nm p0 d1;exact ⟨c1,by rw [fn];exact c2,c3,by rw [f0 _ (by omega)];exact c4⟩
  refine aD 0 ps.length (zero_le _) (fun i e h2=>∃ s:DB×Bool,s=mN n ((ps.map (·.r)).take i) (D,false)/\J1 (ps.map (·.r.name)) D0 D s/\dB s.1 h2 B lo/\h2.get P6=some (.cells [.bool s.2])/\h2.get h.next=some (.cells [.ptr S 0])/\h2.get (h.next+1)=some (.cells [.func ng na nb]) /\
   (∀ b,b<h.next->(∀ nm p,D0 nm=some p->b≠p.1)->h2.get b=h.get b)/\h'.next<=h2.next/\e 1=a1/\e 3 = .ptr h.next 0/\e 5 = .ptr (h.next+1) 0/\e 6 = .ptr P6 0/\e 10=a1/\e 11 = .int .i64 (ps.length:Int)/\e 12 = .int .i64 (i:Int))
   ⟨(D,false),rfl,⟨yf,dK _,fun h=>(by cases h),fun _=>rfl⟩,fD,f6,by rw [f0 _ (by omega)];exact q3,by rw [f0 _ (by omega)];exact q5,fun b hb hb2=>by rw [f0 _ (by omega)];exact hfr b hb hb2,by omega,e1,e3,e5,e6,rfl,rfl,rfl⟩ ?_ ?_
  ·rintro i e h2 _ hi ⟨s,hs,hq,w1,w6,w3,w5,wf,wn,e1,e3,e5,e6,jm,nU,tO⟩ K1 NF jO Lu YX;have hv:ps[i]?=some ps[i]:=ez hi;generalize ps[i]=p at hv;have GB:=iz hv;have pok:=o.acm p GB
   have afo:Own uT 8 k0 h2 a1 ps:=by
    cases tu with
    |nil=>exact .nil
    |row b l z1 z2 z3=>exact .row b _ z1 (by omega) (by rw [wf b z2 (YU b rfl)];exact z3)
   obtain ⟨b,_,_,i1,i2,_⟩:=afo.get Gz hv;obtain ⟨H,iJ,hL,ho,hn⟩:=cx (h:=h2) (zs:=[.int .i64 0,.str [],.ax,.ax,.int .i64 0,.ax,.ax,.ax]) (cs:=uT p) (n:=8) rfl rfl (GA p);have xH:bu h2 H:=⟨by omega,fun b hb=>ho b (by omega)⟩
   have hL':=hL;simp only [uT,bI] at hL';have hSH:H.get S=some (.cells [.int .i64 (n:Int),.map B]):=by rw [xH.get S (by omega),wf S Ri (fun nm p hp=>Ne.symm (o.rows nm p hp))];exact hS
   rw [F.b6.dm];simp only [jm,nU,tO,aR,reduceAdd,reduceEqDiff,reduceIte,aZ hi,i1,i2,iJ,e3];simp only [aj (show H.get h.next=some (.cells [.ptr S 0]) by rw [xH.get _ (by omega)];exact w3),aj hL',NB,aR,reduceAdd,reduceEqDiff,reduceIte,e5,e6]
   have so:ND S B n lo H.next h.next (h.next+1) P6 h2.next D0 p.r (varsOf p.r).length p.hd ng na nb:=
    ⟨o.n1,o.sI,⟨by omega,by omega,by omega,by omega,by omega,by omega⟩,fun nm q hq=>by have:=rG nm q hq;exact ⟨by omega,o.rows nm q hq,by omega,by omega,by omega,by omega⟩,⟨by omega,by omega,by omega,by omega,by omega⟩,o.ask p GB,o.head p GB,rfl,pok.hd,o.note⟩
   have sa:pT S B n lo H.next h.next (h.next+1) P6 h2.next D0 p.r p.i (varsOf p.r).length p.hd p.cs p.ls ng na nb H s H:=
    ⟨hSH,w1.ext xH,hq.OV,by rw [xH.get _ (by omega)];exact w3,by rw [xH.get _ (by omega)];exact w5,by rw [xH.get _ (by omega)];exact w6,hL,dK _,fun _ _ _ _=>rfl⟩
   refine ai (Ec (Ma so) pok.lJ rfl pok.Ih pok.cs pok.ls sa (dK _) fun h5 b5 f5 n5=>?_);simp only [aR,reduceAdd,reduceEqDiff,reduceIte,tO,aI hi hbig];have hvr:(ps.map (·.r))[i]?=some p.r:=by rw [getElem?_map,hv];rfl
   refine NF _ _ ⟨kO n p.r s,by rw [Mb hvr,<- hs],J2 o.n1 (List.mem_map_of_mem (f:=fun q:zu=>q.r.name) GB) (o.head p GB).2.2 hq,b5.hD,b5.h6,b5.h3,b5.h5,fun b b1 b2=>?_,by omega,e1,e3,e5,e6,jm,nU,rfl⟩;rw [b5.gJ b (by omega) (by omega) b2,xH.get b (by omega),wf b b1 b2]
  ·rintro e h2 ⟨s,hs,hq,w1,w6,w3,w5,wf,wn,e1,e3,e5,e6,jm,nU,tO⟩ K1 jO;rw [jD (by simp)] at hs;obtain ⟨H,iJ,hL,ho,hn⟩:=lI (h:=h2) (z:=.bool false) (v:=.bool s.2) rfl rfl;have xH:bu h2 H:=⟨by omega,fun b hb=>ho b (by omega)⟩
   rw [F.b6.dm];simp only [nU,tO,aR,reduceAdd,reduceEqDiff,reduceIte,aS];rw [jO,F.b6.cq];simp only [e6,aR,reduceAdd,reduceEqDiff,reduceIte,aj w6,iJ];have afp:Reach n (ps.map (·.r)) D0 s.1:=by rw [hs];exact .step D hre
   have com:∀ (m':Nat) (e':Env),e' 1=a1->e' 3 = .ptr h.next 0->e' 5 = .ptr (h.next+1) 0->e' 6 = .ptr h2.next 0->m'<m->((s.2=true/\m'=Ee (ps.map (·.r.name)) s.1+1)\/(s.2=false/\m'=0/\mN n (ps.map (·.r)) (s.1,false)=(s.1,false)))->K0 .normal ⟨e',22,[],H⟩=true:=fun m' e' e1 e3 e5 e6 vE hc=>
    SO m' _ _ vE ⟨s.1,s.2,h2.next,e1,e3,e5,e6,hL,by omega,by omega,by rw [xH.get _ (by omega)];exact w3,by rw [xH.get _ (by omega)];exact w5,afp,hq.OV,w1.ext xH,fun b b1 b2=>by rw [xH.get b (by omega)];exact wf b b1 b2,by omega,hc⟩
   cases qW:s.2 with
   |true=>
    have:=hq.lt qW;exact com (Ee (ps.map (·.r.name)) s.1+1) _ e1 e3 e5 rfl (by omega) (.inl ⟨qW,rfl⟩)
   |false=>
    have h1:=hq.same qW;exact com 0 _ e1 e3 e5 rfl (by omega) (.inr ⟨qW,rfl,by rw [h1,<- hs,<- h1,<- qW]⟩)
 ·subst Zl;simp only [aK];rw [Wi,F.b6.aF];exact hK h' D hre acn yf pR hfr oK
def Rel.ok(r:Rel):Prop:=r.name.length<=cE/\r.aM.l.length<=cE/\∀ t ∈ r.aM.l,t.l.length<=cE
def di.ok(s:di):Prop:=s.aC.l.length<=cE/\∀ r ∈ s.aC.l,r.ok
theorem J5(hn:(es.map (·.2.2)).Nodup){e:Entry}(he:e ∈ es):lY e.2.2 es=some e:=by
 induction es with
 |nil=>cases he
 |cons a es ih=>
  rw [map_cons,nodup_cons] at hn;rw [lY];by_cases h:a.2.2=e.2.2
  ·rw [if_pos h];rw [mem_cons] at he;rcases he with rfl|he
   ·rfl
   ·exact absurd (by rw [h];exact List.mem_map_of_mem he) hn.1
  ·rw [if_neg h];rw [mem_cons] at he;rcases he with rfl|he
   ·exact absurd rfl h
   ·exact ih hn.2 he
theorem Eg{defs:List qh}{K:R->Bool}:∀ {ps:List (AV×Heap)},(∀ p ∈ ps,K (.ok p.1 defs p.2)=true)->mC defs K ps=true
 |[],_=>rfl
 |p :: ps,h=>by
  rw [mC,h p mem_cons_self,Bool.true_and];exact Eg fun q hq=>h q (mem_cons_of_mem _ hq)
theorem Eh{r m:Nat}{seen:List Nat}{defs:List qh}{K:R->Bool}(hr:h.get r=some (.gh (some m) ck seen ck))(hm:h.get m=some (.map es ck))(hB:j4 es ck)(nV:r≠m)
  (acq:(∀ e ∈ es,e.2.2 ∈ seen)->K (.ok (.tuple [.bool false]) defs h)=true)
  (jb:∀ e ∈ es,e.2.2 ∉ seen->tW (.ptr r 0) (h.set r (.gh (some m) ck (seen++[e.2.2]) ck))=some (.tuple [e.1,e.2.1])->K (.ok (.tuple [.bool true,e.1,e.2.1]) defs (h.set r (.gh (some m) ck (seen++[e.2.2]) ck)))=true) :
  af (yt false (.ptr r 0) h) (mC defs K)=true:=by
 have hc:∀ o ∈ tV es ck seen,(o=none/\∀ e ∈ es,e.2.2 ∈ seen)\/∃ e,o=some e/\e ∈ es/\e.2.2 ∉ seen:=by
  intro o ho;unfold tV at ho;simp only [mem_append,mem_map] at ho;rcases ho with ho|⟨e,he,rfl⟩
  ·split at ho
   ·rename_i hem;simp only [mem_singleton] at ho;refine .inl ⟨ho,fun e he=>?_⟩;rw [isEmpty_iff,filter_eq_nil_iff] at hem;have hlt:=hB.lt e he;by_cases hs:e.2.2 ∈ seen
    ·exact hs
    ·exact absurd (fh hlt) (hem e (by rw [mem_filter];exact ⟨he,by simpa using hs⟩))
   ·cases ho
  ·refine .inr ⟨e,rfl,?_⟩
   have:e ∈ es.filter fun e=>!seen.contains e.2.2:=by
    rcases he with he|he
    ·exact (mem_filter.1 he).1
    ·exact (mem_filter.1 he).1
   rw [mem_filter] at this;exact ⟨this.1,by simpa using this.2⟩
 have hne:tV es ck seen≠[]:=by
  unfold tV;intro he;simp only [append_eq_nil_iff,map_eq_nil_iff] at he;obtain ⟨h1,h2,_⟩:=he;rw [h2] at h1;simp at h1
 have afq:(!seen.isEmpty&&!es.isEmpty&&es.all (fun e=>decide (e.2.2>=ck)))=false:=by
  cases es with
  |nil=>simp
  |cons e es=>
   have:=hB.lt e mem_cons_self;rw [all_cons,eT (by omega),Bool.false_and,Bool.and_false]
 unfold yt;simp only [hr,hm,afq,false_eq_true,if_false]
 cases hcs:tV es ck seen with
 |nil=>exact absurd hcs hne
 |cons c cs=>
  rw [hcs] at hc;simp only [an];refine Eg fun p hp=>?_;rw [mem_map] at hp;obtain ⟨o,ho,rfl⟩:=hp;rcases hc o ho with ⟨rfl,mA⟩|⟨e,rfl,he,hs⟩
  ·exact acq mA
  ·refine jb e he hs ?_;unfold tW;simp only [Heap.aP,if_true,if_neg (Ne.symm nV),hm,getLast?_concat,J5 hB.nodup he]
theorem kr.UU:∀ {es:List Entry} {m:eP},kr es m->∀ p ∈ m,∃ e ∈ es,e.1 = .str p.1/\e.2.1 = .int .i64 p.2
 |_,[],_,p,hp=>by cases hp
 |[],q :: m,h,_,_=>h.elim
 |e0 :: es,q :: m,⟨h1,h2,h3⟩,p,hp=>by
  rcases mem_cons.1 hp with rfl|hp
  ·exact ⟨e0,mem_cons_self,h1,h2⟩
  ·obtain ⟨e,he,r⟩:=kr.UU h3 p hp;exact ⟨e,mem_cons_of_mem _ he,r⟩
def Ei(es:List Entry)(seen:List Nat):Nat:=(es.filter fun e=>!seen.contains e.2.2).length
theorem Ry{seen:List Nat}{e:Entry}(he:e ∈ es)(hs:e.2.2 ∉ seen):Ei es (seen++[e.2.2])<Ei es seen:=by
 have h1:(es.filter fun a=>!(seen++[e.2.2]).contains a.2.2)=(es.filter fun a=>!seen.contains a.2.2).filter fun a=>!(a.2.2==e.2.2):=by
  rw [List.filter_filter];refine filter_congr fun a _=>?_;rw [Bool.eq_iff_iff];simp;exact And.comm
 unfold Ei;rw [h1];refine length_filter_lt_length_iff_exists.2 ⟨e,mem_filter.2 ⟨he,by simpa using hs⟩,by simp⟩
theorem Au{f:St->(AX->St->Bool)->Bool}{K:AX->St->Bool}{defs:List qh}{h0:Heap}(es:List Entry)(J:List Nat->Env->Heap->Prop)(hJ:J [] e0 h0)
  (step:∀ seen e h,J seen e h->∀ K':AX->St->Bool,(∀ en ∈ es,en.2.2 ∉ seen->∀ e' h',J (seen++[en.2.2]) e' h'->K' .normal ⟨e',n,defs,h'⟩=true)->(∀ id s,K' (.exit id) s=K (.exit id) s)->(∀ s,K' .ret s=K .ret s)->(∀ v s,K' (.panic v) s=K (.panic v) s)->f ⟨e,n,defs,h⟩ K'=true) :
  bV f ⟨e0,n,defs,h0⟩ K=true:=by
 refine lG (fun m e h=>∃ seen,m=Ei es seen/\J seen e h) (Ei es []) ⟨[],rfl,hJ⟩ fun m e h hi=>?_;obtain ⟨seen,rfl,hj⟩:=hi;exact step seen e h hj _ (fun en rY hs e' h' Hw=>r6 (I:=fun m e h=>∃ seen,m=Ei es seen/\J seen e h) (Ei es (seen++[en.2.2])) (Ry rY hs) ⟨_,rfl,Hw⟩) (fun _ _=>rfl) (fun _=>rfl) (fun _ _=>rfl)
theorem eM.trans{A B C:DB}(h1:eM A B)(h2:eM B C):eM A C:=fun nm=>(h1 nm).trans (h2 nm)
def gL(lv:eA.Lv)(rs:List aN)(l:Nat):List aN:=rs.filter fun r=>decide (lv r.name=l)
inductive GC (n:Nat) (rs:List aN) (lv:eA.Lv) (D0:DB):Nat->DB->Prop
 |zero:GC n rs lv D0 0 D0
 |succ (l:Nat) (D D':DB):GC n rs lv D0 l D->Reach n (gL lv rs l) D D'->mN n (gL lv rs l) (D',false)=(D',false)->GC n rs lv D0 (l+1) D'
theorem Ik{l:Nat}(hr:rs[i]?=some r):gL lv (rs.take (i+1)) l=gL lv (rs.take i) l++if lv r.name=l then [r] else []:=by
 unfold gL;rw [take_add_one,hr,toList_some,filter_append];by_cases h:lv r.name=l<;>simp [h]
theorem XR(p:zu):fB [.int .i64 0,.str [],.ax,.ax,.int .i64 0,.ax,.ax,.ax] [(0,8)] [.agg (uT p)]=some (uT p):=by
 obtain ⟨i,r,hd,cs,ls⟩:=p;obtain ⟨nm,xs,ys⟩:=r;cases hd<;>cases cs<;>cases ls<;>cases xs<;>cases ys<;>rfl
structure Rz (S n:Nat) (D0:DB) (rs:List aN) (ng:FuncId) (na nb:List AV):Prop where
 n1:1<=n
 sI:n<=64
 lJ:∀ r ∈ rs,r.lJ
 Ih:∀ r ∈ rs,(varsOf r).length<=12
 rows:∀ nm p,D0 nm=some p->p.1≠S
 ask:∀ r ∈ rs,∀ D,eM D D0->zq n D r
 head:∀ r ∈ rs,n ^ r.args.l.length<=4096/\r.args.l.length<=12/\∃ q,D0 r.name=some q/\q.2.length=n ^ r.args.l.length
 note:∀ (i:Int) (r:aN) (k:Int) (hd:Sl Int) (cs:Sl (Sl Int)) (ls:Sl Int) (y:AV) (h:Heap) (K:Out->Heap->Bool),(∀ h',bu h h'->K (.ret (.tuple [])) h'=true)->Sem TP ng (na++([.agg (bI i r k (ak encI 1 hd) (ak cU 1 cs) (ak encI 1 ls)),y]++nb)) h K
 RA:rs.length<=60
theorem J6{A:Nat}{hs ks:List b8}(o:Rz S n D0 rules.l ng na nb){l:Nat}{K:AX->St->Bool}
  (hP:h.get P=some (.cells [ak aO 3 rules,.map A,.map M])) (SM:P<h.next) (hl:fK hs h M ks lv) (XK:M<h.next) (hin:∀ r ∈ rules.l,r.name ∈ hs)
  (q0:e0 0 = .ptr P 0) (q1:e0 1 = .ptr S 0) (q2:e0 2 = .func ng na nb) (q9:e0 9 = .int .i64 (l:Int)) (q10:e0 10 = .ax) (q33:e0 33=ak aO 3 rules) (q34:e0 34 = .int .i64 (rules.l.length:Int)) (q35:e0 35 = .int .i64 0) {T:AV} (q26:e0 26=T) (q27:e0 27 = .int .i64 (l:Int))
  (done:∀ (e:Env) h' a ps,bu h h'->Own uT 8 h.next h' a ps->(∀ p ∈ ps,p.ok)->ps.map (·.r)=gL lv rules.l l->e 0 = .ptr P 0->e 1 = .ptr S 0->e 2 = .func ng na nb->e 10=a->e 26=T->e 27 = .int .i64 (l:Int)->F.aY.sY K (.exit 4) ⟨e,62,[],h'⟩=true) :
  bV (EV F.aY.L2) ⟨e0,62,[],h⟩ (F.aY.sY K)=true:=by
 have hbig:rules.l.length<=cE:=by have:=o.RA;unfold cE;omega
 refine aD 0 rules.l.length (zero_le _) (fun i e h'=>∃ a ps,bu h h'/\Own uT 8 h.next h' a ps/\(∀ p ∈ ps,p.ok)/\ps.map (·.r)=gL lv (rules.l.take i) l/\e 0 = .ptr P 0/\e 1 = .ptr S 0/\e 2 = .func ng na nb/\e 9 = .int .i64 (l:Int)/\e 10=a/\e 33=ak aO 3 rules/\e 34 = .int .i64 (rules.l.length:Int)/\e 35 = .int .i64 (i:Int)/\e 26=T/\e 27 = .int .i64 (l:Int))
  ⟨.ax,[],bu.refl _,.nil,fun p hp=>(by cases hp),rfl,q0,q1,q2,q9,q10,q33,q34,q35,q26,q27⟩ ?_ ?_
 ·rintro i e h' _ hi ⟨a,ps,hx,oa,l9,tu,e0,e1,e2,e9,jm,e33,XS,e35,xq,wL⟩ K' hn gi hr hp;have hv:rules.l[i]?=some rules.l[i]:=ez hi;generalize rules.l[i]=r at hv;have nV:=iz hv;obtain ⟨H,DX,g1,go,gn⟩:=cx (h:=h') (zs:=[.str [],.ax,.ax]) (cs:=aO r) (n:=3) rfl rfl (jG r);have xH:bu h H:=hx.trans ⟨by omega,fun b hb=>go b (by omega)⟩;have pP:H.get P=some (.cells [ak aO 3 rules,.map A,.map M]):=by rw [xH.get P SM];exact hP
  have pl:fK hs H M ks lv:=hl.gz (xH.get M XK);have iJ:=Ik (lv:=lv) (l:=l) hv;rw [F.aY.jf];simp only [e0,e9,jm,e33,XS,e35,aR,reduceAdd,reduceEqDiff,reduceIte,aZ hi,aV rules hi,dO gu hv,DX];simp only [aR,reduceAdd,reduceEqDiff,reduceIte,cp,aj pP,aj g1,aO,pl.Wp,if_pos (hin r nV),cI];by_cases FH:lv r.name=l
  ·rw [if_pos FH] at iJ;simp only [fh (by omega:(lv r.name:Int)=(l:Int)),aL,aR,reduceAdd,reduceEqDiff,reduceIte,aj g1,aO,sG];refine ai (cC (o.lJ r nV) fun hd cs ls h1 h2 h3=>?_);have kX:=XR ⟨(i:Int),r,hd,cs,ls⟩;have oH:=oa.ext (h':=H) ⟨by omega,fun b hb=>go b (by omega)⟩
   have acs:ps.length<=60:=by
    have z1:=congrArg List.length tu;rw [length_map] at z1;have z2:(gL lv (rules.l.take i) l).length<=(rules.l.take i).length:=length_filter_le _ _;have z3:=length_take_le' i rules.l;have:=o.RA;omega
   obtain ⟨a2,h3',p1,p2,p3,p4,p5,p6⟩:=oH.push Gz GA xH.next (bytes:=152) (by unfold cG;omega) ⟨(i:Int),r,hd,cs,ls⟩
   simp only [uT] at kX p1;simp only [aR,reduceAdd,reduceEqDiff,reduceIte,kX,jm,p1,e35,aI hi hbig];refine hn _ _ ⟨a2,_,p5 h xH (dK _),p2,fun p hp=>?_,by rw [map_append,tu,iJ];rfl,e0,e1,e2,e9,rfl,e33,XS,rfl,xq,wL⟩;rcases mem_append.1 hp with hp|hp
   ·exact l9 p hp
   ·rw [mem_singleton] at hp;subst hp;exact ⟨o.lJ r nV,o.Ih r nV,h1,h2,h3⟩
  ·rw [if_neg FH,append_nil] at iJ;simp only [eT (by omega:¬ (lv r.name:Int)=(l:Int)),aK,e35,aI hi hbig,an];exact hn _ _ ⟨a,ps,xH,oa.ext ⟨by omega,fun b hb=>go b (by omega)⟩,l9,by rw [iJ];exact tu,e0,e1,e2,e9,jm,e33,XS,rfl,xq,wL⟩
 ·rintro e h' ⟨a,ps,hx,oa,l9,tu,e0,e1,e2,e9,jm,e33,XS,e35,xq,wL⟩ K' gi;rw [F.aY.jf];simp only [XS,e35,aR,reduceAdd,reduceEqDiff,reduceIte,aS];rw [gi];rw [jD (dK _)] at tu;exact done _ h' a ps hx oa l9 tu e0 e1 e2 jm xq wL
def rH(ns:List b8)(lv:eA.Lv):List Int:=ns.map fun s=>(lv s:Int)
theorem Ej(ns:List b8)(lv:eA.Lv):(rH ns lv).length=ns.length:=by simp [rH]
theorem rI{ns:List b8}{s:b8}(h:ns[i]?=some s):(rH ns lv)[i]?=some (lv s:Int):=by
 unfold rH;rw [getElem?_map,h];rfl
theorem nq{α:Type}:∀ {l:List α} {i j:Nat} {s:α},l.Nodup->l[i]?=some s->l[j]?=some s->i=j
 |[],i,j,s,_,h,_=>by simp at h
 |a :: l,0,0,s,_,_,_=>rfl
 |a :: l,0,j+1,s,hn,h1,h2=>by
  simp only [getElem?_cons_zero,Option.some.injEq,getElem?_cons_succ] at h1 h2;subst h1;exact absurd (iz h2) (nodup_cons.1 hn).1
 |a :: l,i+1,0,s,hn,h1,h2=>by
  simp only [getElem?_cons_zero,Option.some.injEq,getElem?_cons_succ] at h1 h2;subst h2;exact absurd (iz h1) (nodup_cons.1 hn).1
 |a :: l,i+1,j+1,s,hn,h1,h2=>by
  rw [getElem?_cons_succ] at h1 h2;rw [nq (nodup_cons.1 hn).2 h1 h2]
theorem RB{ns:List b8}(hn:ns.Nodup){e:eA.Edge}{a:Nat}(ha:ns[a]?=some e.h)(hlt:lv e.h<lv e.b+e.w):(rH ns lv).set a ((lv e.b+e.w:Nat):Int)=rH ns (eA.iq lv e):=by
 have hal:=(kT.1 ha).1;refine ext_getElem? fun j=>?_;rw [getElem?_set];have mF:∀ x,eA.iq lv e x=if x=e.h then lv e.b+e.w else lv x:=fun x=>by unfold eA.iq;rw [if_pos hlt]
 by_cases hj:a=j
 ·subst hj;rw [if_pos rfl,if_pos (by rw [Ej];exact hal),rI ha,mF,if_pos rfl]
 ·rw [if_neg hj]
  cases hs:ns[j]? with
  |none=>unfold rH;rw [getElem?_map,getElem?_map,hs];rfl
  |some t=>
   rw [rI hs,rI hs,mF,if_neg];intro e1;subst e1;exact hj (nq hn ha hs)
theorem J7{e:eA.Edge}{s:b8}(h:s≠e.h):eA.iq lv e s=lv s:=by
 unfold eA.iq;split
 ·exact if_neg h
 ·rfl
set_option maxHeartbeats 2000000 in
theorem bq{rules:Sl aN}(tP:rules.l.length<=60)(vK:∀ r ∈ rules.l,r.body.l.length<=20){h:Heap}{K:Out->Heap->Bool}
  (yp:(∀ k,¬ eA.dA (bO rules.l) (eA.iter (bO rules.l) k))->K (.ret (.tuple [.ax,.bool false])) h=true)
  (As:∀ (y:Sl Int) k,eA.dA (bO rules.l) (eA.iter (bO rules.l) k)->y.l=rH (dS rules.l) (eA.iter (bO rules.l) k)->K (.ret (.tuple [ak encI 1 y,.bool true])) h=true) :
  Sem TP 114 [ak aO 3 rules] h K:=by
 have hbig:rules.l.length<=cE:=by unfold cE;omega
 have hN:∀ e ∈ bO rules.l,e.b ∈ dS rules.l/\e.h ∈ dS rules.l:=fun e he=>by
  obtain ⟨r,hr,c,hc,_,hin,rfl⟩:=uN he;exact ⟨(eF _).2 hin,(eF _).2 (List.mem_map_of_mem hr)⟩
 have hw:∀ e ∈ bO rules.l,e.w<=1:=fun e he=>by
  obtain ⟨r,hr,c,hc,_,hin,rfl⟩:=uN he;exact LZ r c
 have Rw:=Bn (qy rules.l);have hdl:(dS rules.l).length<=60:=by have:=pV rules.l;omega
 have main:Sem TP 114 [ak aO 3 rules] Heap.empty (fun o h'=>yes (((∀ k,¬ eA.dA (bO rules.l) (eA.iter (bO rules.l) k))/\o = .ret (.tuple [.ax,.bool false])) \/
   ∃ (a:AV) (y:Sl Int) (k:Nat),o = .ret (.tuple [a,.bool true])/\Fz true h' a (ak encI 1 y)/\eA.dA (bO rules.l) (eA.iter (bO rules.l) k)/\y.l=rH (dS rules.l) (eA.iter (bO rules.l) k))):=by
  refine F.Ad ?_;rw [F.BJ]
  generalize hR:(fun (o:Out) (h':Heap)=>yes (((∀ k,¬ eA.dA (bO rules.l) (eA.iter (bO rules.l) k))/\o = .ret (.tuple [.ax,.bool false])) \/
   ∃ (a:AV) (y:Sl Int) (k:Nat),o = .ret (.tuple [a,.bool true])/\Fz true h' a (ak encI 1 y)/\eA.dA (bO rules.l) (eA.iter (bO rules.l) k)/\y.l=rH (dS rules.l) (eA.iter (bO rules.l) k)))=R
  have aft:(∀ k,¬ eA.dA (bO rules.l) (eA.iter (bO rules.l) k))->∀ h',R (.ret (.tuple [.ax,.bool false])) h'=true:=fun hk h'=>by
   subst hR;exact cu.2 (.inl ⟨hk,rfl⟩)
  have acu:∀ h' a (y:Sl Int) k,Fz true h' a (ak encI 1 y)->eA.dA (bO rules.l) (eA.iter (bO rules.l) k)->y.l=rH (dS rules.l) (eA.iter (bO rules.l) k)->R (.ret (.tuple [a,.bool true])) h'=true:=fun h' a y k q1 q2 q3=>by
   subst hR;exact cu.2 (.inr ⟨a,y,k,rfl,q1,q2,q3⟩)
  clear hR;refine ai (dF tP fun x jO=>?_);have Gx:x.l.length<=60:=by rw [jO];exact hdl
  have Nz:x.l.length<=cE:=by unfold cE;omega
  simp only [aR,reduceAdd,reduceEqDiff,reduceIte,Cr (show x.l.length<=1000000 by omega)]
  have gU:(Heap.alloc Heap.empty (.cells ((replicate x.l.length (0:Int)).map iv))).get 0=some (.cells ((rH x.l (eA.iter (bO rules.l) 0)).map iv)):=by
   have:rH x.l (eA.iter (bO rules.l) 0)=replicate x.l.length (0:Int):=by
    show x.l.map (fun _=>(0:Int))=_;exact map_const'
   rw [this];exact aA _ _
  have gn:(Heap.alloc Heap.empty (.cells ((replicate x.l.length (0:Int)).map iv))).next=1:=rfl
  simp only [bJ];generalize (Heap.alloc Heap.empty (.cells ((replicate x.l.length (0:Int)).map iv)))=H0 at gU gn ⊢;rw [<- jO] at hN Rw acu
  refine Bl (fun m e h'=>∃ k,h'.get 0=some (.cells ((rH x.l (eA.iter (bO rules.l) k)).map iv))/\0<h'.next/\(∀ s,eA.iter (bO rules.l) k s<=x.l.length)/\e 0=ak aO 3 rules/\e 4=ak encS 1 x/\e 5 = .slice 0 0 x.l.length 1 /\
   ((e 6 = .bool true/\m=x.l.length*x.l.length+2-(x.l.map (eA.iter (bO rules.l) k)).sum)\/(e 6 = .bool false/\m=0/\eA.dA (bO rules.l) (eA.iter (bO rules.l) k)))) _
   ⟨0,gU,by omega,fun s=>zero_le _,rfl,rfl,rfl,.inl ⟨rfl,rfl⟩⟩ ?_
  rintro m e h' ⟨k,qU,qn,bd,e0,e4,e5,M9⟩ K0 SO Wi hr0;rw [F.bq.aT];rcases M9 with ⟨e6,hm⟩|⟨e6,hm,iJ⟩
  ·have acv:(x.l.map (eA.iter (bO rules.l) k)).sum<=x.l.length*x.l.length:=eA.zI x.l fun s _=>bd s;simp only [e6,cF,aL]
   refine aD 0 rules.l.length (zero_le _) (fun i e h'=>∃ cur ch,eA.RS (eA.iter (bO rules.l) k) cur (jy (bA rules.l) (rules.l.take i)) ch/\h'.get 0=some (.cells ((rH x.l cur).map iv))/\0<h'.next/\(∀ s,cur s<=x.l.length) /\
    e 0=ak aO 3 rules/\e 4=ak encS 1 x/\e 5 = .slice 0 0 x.l.length 1/\e 6 = .bool ch/\e 7 = .int .i64 (i:Int)) ⟨_,false,eA.RS.nil _,qU,qn,bd,e0,e4,e5,rfl,rfl⟩ ?_ ?_
   ·rintro i e h' _ hi ⟨cur,ch,rs,qU,qn,bd,e0,e4,e5,e6,e7⟩ K1 NF RC Lu YX;have hv:rules.l[i]?=some rules.l[i]:=ez hi;generalize rules.l[i]=r at hv;have ab4:=vK r (iz hv);have Bj:r.body.l.length<=cE:=by unfold cE;omega
    have acw:r.name ∈ x.l:=(by rw [jO];exact (eF _).2 (List.mem_map_of_mem (iz hv)));have ld:∀ j,j<3->∀ h,ag none (.ef (rules.l.flatMap aO) (i*3+j)) h=(aO r)[j]?:=fun j hj h=>fy gu hv hj;have ld0:∀ h,ag none (.ef (rules.l.flatMap aO) (i*3)) h=some (.str r.name):=fun h=>ld 0 (by omega) h;rw [F.bq.dm];simp only [e0,e4,e7,aR,reduceAdd,reduceEqDiff,reduceIte,aZ hi,aV rules hi,ld0];refine ai (er Nz (fun a ha=>?_) (fun Il=>absurd acw Il));have hal:=(kT.1 ha).1;simp only [aR,reduceAdd,reduceEqDiff,reduceIte]
    refine aD 0 r.body.l.length (zero_le _) (fun j e h2=>∃ cur ch,eA.RS (eA.iter (bO rules.l) k) cur (jy (bA rules.l) (rules.l.take i)++nS (bA rules.l) r (r.body.l.take j)) ch/\h2.get 0=some (.cells ((rH x.l cur).map iv))/\0<h2.next/\(∀ s,s≠r.name->cur s<=x.l.length)/\(∀ s,cur s<=x.l.length+j) /\
     e 0=ak aO 3 rules/\e 4=ak encS 1 x/\e 5 = .slice 0 0 x.l.length 1/\e 6 = .bool ch/\e 7 = .int .i64 (i:Int)/\e 8 = .int .i64 (a:Int)/\e 9 = .int .i64 (j:Int))
     ⟨cur,ch,by simpa [nS] using rs,qU,qn,fun s _=>bd s,by simpa using bd,e0,e4,e5,e6,e7,rfl,rfl⟩ ?_ ?_
    ·rintro j e h2 _ hj ⟨cur,ch,rs,qU,qn,bd1,bd2,e0,e4,e5,e6,e7,e8,e9⟩ K2 qj fo qL DY;have hc:r.body.l[j]?=some r.body.l[j]:=ez hj;generalize r.body.l[j]=c at hc;obtain ⟨H2,qW,k1,ko,kn⟩:=cx (h:=h2) (zs:=[.int .i64 0,.bool false,.str [],.ax]) (cs:=bP c) (n:=4) rfl rfl (iI c);have kU:H2.get 0=some (.cells ((rH x.l cur).map iv)):=by rw [ko 0 (by omega)];exact qU
     have iJ:=Bg (hs:=bA rules.l) (r:=r) hc
     have skip:mJ (bA rules.l) r c = []->∀ e':Env,e' 0=ak aO 3 rules->e' 4=ak encS 1 x->e' 5 = .slice 0 0 x.l.length 1->e' 6 = .bool ch->e' 7 = .int .i64 (i:Int)->e' 8 = .int .i64 (a:Int)->e' 9 = .int .i64 ((j+1:Nat):Int)->K2 .normal ⟨e',89,[],H2⟩=true:=by
      intro PO e' e0 e4 e5 e6 e7 e8 e9;rw [PO,append_nil] at iJ;exact qj _ _ ⟨cur,ch,by rw [iJ];exact rs,kU,by omega,bd1,fun s=>by have:=bd2 s;omega,e0,e4,e5,e6,e7,e8,e9⟩
     rw [F.bq.jf];simp only [e0,e4,e7,e9,aR,reduceAdd,reduceEqDiff,reduceIte,aV rules hi,ld 2 (by omega),aO,aZ hj,aV r.body hj,dO iH hc,qW];simp only [aR,reduceAdd,reduceEqDiff,reduceIte,aj k1,bP];refine ai (er Nz (fun b hb=>?_) (fun Il=>?_))
     ·have XT:=(kT.1 hb).1;have afu:c.name ∈ bA rules.l:=by rw [<- eF,<- jO];exact iz hb
      simp only [aR,reduceAdd,reduceEqDiff,reduceIte,aj k1,bP,cI];by_cases k0:c.kind=0
      ·have PO:mJ (bA rules.l) r c = [fI r c]:=(by unfold mJ;rw [if_pos ⟨k0,afu⟩]);rw [PO] at iJ;simp only [fh k0,aL,fh (show (0:Int)<=(b:Int) by omega),e5,nK XT,oA kU (rI hb),aR,reduceAdd,reduceEqDiff,reduceIte,aj k1,bP]
       have J:∀ e':Env,e' 0=ak aO 3 rules->e' 4=ak encS 1 x->e' 5 = .slice 0 0 x.l.length 1->e' 6 = .bool ch->e' 7 = .int .i64 (i:Int)->e' 8 = .int .i64 (a:Int)->e' 9 = .int .i64 (j:Int)->e' 12 = .int .i64 ((cur c.name+(fI r c).w:Nat):Int) ->
         F.bq.J0 K2 ⟨e',89,[],H2⟩=true:=by
        intro e' e0 e4 e5 e6 e7 e8 e9 tO;rw [F.bq.Du];simp only [e5,e8,tO,nK hal,oA kU (rI ha),aR,reduceAdd,reduceEqDiff,reduceIte];by_cases hlt:cur r.name<cur c.name+(fI r c).w
        ·have kK:=RB Rw (e:=fI r c) ha hlt;have RE:=zk (v:=((cur c.name+(fI r c).w:Nat):Int)) kU (i:=a) (by rw [Ej];exact hal);have acA:(rH x.l cur).set a ((cur c.name+(fI r c).w:Nat):Int)=rH x.l (eA.iq cur (fI r c)):=kK;rw [acA] at RE;simp only [aZ hlt,aL,e5,e8,e9,tO,nK hal,RE,aR,reduceAdd,reduceEqDiff,reduceIte,aI hj Bj];refine qj _ _ ⟨_,true,?_,by rw [Heap.aP,if_pos rfl],by rw [Heap.bp];omega,fun s hs=>?_,fun s=>?_,e0,e4,e5,rfl,e7,e8,rfl⟩
         ·rw [iJ,<- append_assoc];exact rs.up hlt
         ·rw [J7 (e:=fI r c) hs];exact bd1 s hs
         ·have:=eA.tU (e:=fI r c) bd2 (LZ r c) s;omega
        ·simp only [eT (by omega:¬ ((cur r.name:Int)<((cur c.name+(fI r c).w:Nat):Int))),aK,e9,aI hj Bj,an];exact qj _ _ ⟨cur,ch,by rw [iJ,<- append_assoc];exact rs.same hlt,kU,by omega,bd1,fun s=>by have:=bd2 s;omega,e0,e4,e5,e6,e7,e8,rfl⟩
       cases hng:c.neg with
       |true=>
        have hw1:(fI r c).w=1:=(by unfold fI;simp [hng]);have DZ:=aI (i:=cur c.name) (n:=2000000) (by have:=bd2 c.name;omega) (by unfold cE;omega);simp only [aL,DZ,an];exact J _ e0 e4 e5 e6 e7 e8 e9 (by rw [hw1];rfl)
       |false=>
        have hw1:(fI r c).w=0:=(by unfold fI;simp [hng]);simp only [aK];exact J _ e0 e4 e5 e6 e7 e8 e9 (by rw [hw1];rfl)
      ·simp only [eT k0,aK,e9,aI hj Bj,an];exact skip (by unfold mJ;rw [if_neg (fun h=>k0 h.1)]) _ e0 e4 e5 e6 e7 e8 rfl
     ·have acB:c.name ∉ bA rules.l:=fun h=>Il (by rw [jO];exact (eF _).2 h);have PO:mJ (bA rules.l) r c = []:=by unfold mJ;rw [if_neg (fun h=>acB h.2)]
      simp only [aR,reduceAdd,reduceEqDiff,reduceIte,aj k1,bP,cI];by_cases k0:c.kind=0
      ·simp only [fh k0,aL,show decide ((0:Int)<=-1)=false from rfl,aK,e9,aI hj Bj,an];exact skip PO _ e0 e4 e5 e6 e7 e8 rfl
      ·simp only [eT k0,aK,e9,aI hj Bj,an];exact skip PO _ e0 e4 e5 e6 e7 e8 rfl
    ·rintro e h2 ⟨cur,ch,rs,qU,qn,bd1,bd2,e0,e4,e5,e6,e7,e8,e9⟩ K2 fo;rw [jD (dK _),<- DW hv] at rs;rw [F.bq.jf];simp only [e0,e7,e9,aR,reduceAdd,reduceEqDiff,reduceIte,aV rules hi,ld 2 (by omega),aO,aS];rw [fo,F.bq.fX];simp only [e4,e5,e7,e8,nK hal,oA qU (rI ha),aR,reduceAdd,reduceEqDiff,reduceIte];by_cases Qj:x.l.length<cur r.name
     ·simp only [aZ Qj,aL];rw [Lu,F.bq.jP,hr0,F.bq.bz];refine aft (eA.high (N:=x.l) hN hw (k:=k) (E1:=jy (bA rules.l) (rules.l.take (i+1))) (E2:=jy (bA rules.l) (rules.l.drop (i+1))) ?_ acw (by rw [<- rs.eq];exact Qj)) _;unfold bO jy;rw [<- flatMap_append,take_append_drop]
     ·simp only [eT (by omega:¬ ((x.l.length:Int)<(cur r.name:Int))),aK,e7,aI hi hbig,an];refine NF _ _ ⟨cur,ch,rs,qU,qn,fun s=>?_,e0,e4,e5,e6,rfl⟩;by_cases hs:s=r.name
      ·subst hs;omega
      ·exact bd1 s hs
   ·rintro e h' ⟨cur,ch,rs,qU,qn,bd',e0,e4,e5,e6,e7⟩ K1 RC;rw [jD (dK _)] at rs;obtain ⟨d1,d2⟩:=rs.done;have d1':cur=eA.iter (bO rules.l) (k+1):=d1;rw [F.bq.dm];simp only [e0,e7,aR,reduceAdd,reduceEqDiff,reduceIte,aS];rw [RC,F.bq.cq];by_cases iJ:eA.dA (bO rules.l) (eA.iter (bO rules.l) k)
    ·have J8:eA.dA (jy (bA rules.l) rules.l) (eA.iter (bO rules.l) k):=iJ;rw [fh J8] at d2;have d3:cur=eA.iter (bO rules.l) k:=by rw [d1];exact eA.xC iJ
     rw [d3] at qU;exact SO 0 _ _ (by omega) ⟨k,qU,qn,bd,e0,e4,e5,.inr ⟨by simp only [bL,reduceEqDiff,reduceIte,e6,d2];rfl,rfl,iJ⟩⟩
    ·have J8:¬ eA.dA (jy (bA rules.l) rules.l) (eA.iter (bO rules.l) k):=iJ;rw [eT J8] at d2;rw [d1'] at qU bd';have h1:=eA.N9 hN iJ;have h2:(x.l.map (eA.iter (bO rules.l) (k+1))).sum<=x.l.length*x.l.length:=eA.zI x.l fun s _=>bd' s;have h3:(x.l.map (eA.iter (bO rules.l) k)).sum<(x.l.map (eA.iter (bO rules.l) (k+1))).sum:=h1;exact SO _ _ _ (by rw [hm];omega) ⟨k+1,qU,qn,bd',e0,e4,e5,.inl ⟨by simp only [bL,reduceEqDiff,reduceIte,e6,d2];rfl,rfl⟩⟩
  ·simp only [e6,cF,aK];rw [Wi,F.bq.aF];simp only [bL,reduceEqDiff,reduceIte,e5];have hf:=JH qU;rw [Ej] at hf;exact acu _ _ (some (rH x.l (eA.iter (bO rules.l) k))) k hf iJ rfl
 refine main.frozen (by simp [AV.cN,b7 fN]) fun o h' ho=>?_;rcases cu.1 ho with ⟨hb,rfl⟩|⟨a,y,k,rfl,f1,iJ,s3⟩
 ·exact ⟨_,_,rfl,.dX rfl,yp hb⟩
 ·have fl:=mu.cons f1 (mu.cons (Fz.scalar (.bool true) rfl) mu.nil);exact ⟨_,_,rfl,.tuple _ _ fl.len fl.rel,As y k iJ s3⟩
set_option maxHeartbeats 2000000 in
theorem OX{A:Nat}{hs ks:List b8}(o:Rz S n D0 rules.l ng na nb)
  (hP:h.get P=some (.cells [ak aO 3 rules,.map A,.map M])) (SM:P<h.next) (hl:fK hs h M ks lv) (Cs:ks.Nodup) (XK:M<h.next) (hin:∀ r ∈ rules.l,r.name ∈ hs) (FH:∀ x,lv x<=1000000)
  (hS:h.get S=some (.cells [.int .i64 (n:Int),.map B])) (Ri:S<h.next) (hD:dB D0 h B lo) (hPM:∀ nm p,D0 nm=some p->p.1≠P/\p.1≠M)
  (hK:∀ h' D' T,(∀ x ∈ hs,lv x<=T)->GC n rules.l lv D0 (T+1) D'->eM D' D0->dB D' h' B lo->(∀ b,b<h.next->(∀ nm p,D0 nm=some p->b≠p.1)->h'.get b=h.get b)->h.next<=h'.next->K (.ret (.tuple [])) h'=true) :
  Sem TP 59 [.ptr P 0,.ptr S 0,.func ng na nb] h K:=by
 obtain ⟨es,ck,m,z1,z2,z3,z4,z5⟩:=hl.ex;have afw:(m.map (·.1)).Nodup:=by rw [z4];exact Cs
 have Fa:∀ p ∈ m,p.1 ∈ hs/\p.2=(lv p.1:Int):=fun p hp=>by
  have h1:=vM afw hp;rw [z5] at h1;by_cases hh:p.1 ∈ hs
  ·rw [if_pos hh] at h1;exact ⟨hh,(Option.some.inj h1).symm⟩
  ·rw [if_neg hh] at h1;cases h1
 refine F.tI ?_;rw [F.uy];have YR:mY .map (.map M) h=some (.ptr h.next 0,h.alloc (.gh (some M) ck [] ck)):=by simp only [mY,z1]
 simp only [aR,reduceAdd,reduceEqDiff,reduceIte,cp,aj hP,YR]
 refine Au es (fun seen e hh=>∃ t:Nat,e 6 = .int .i64 (t:Int)/\(∀ en ∈ es,en.2.2 ∈ seen->∀ v:Nat,en.2.1 = .int .i64 (v:Int)->v<=t)/\t<=1000000/\hh.get h.next=some (.gh (some M) ck seen ck)/\(∀ b,b<h.next->hh.get b=h.get b)/\h.next<hh.next /\
  e 0 = .ptr P 0/\e 1 = .ptr S 0/\e 2 = .func ng na nb/\e 17 = .ptr h.next 0)
  ⟨0,rfl,fun en _ rY=>(by cases rY),by omega,aA _ _,fun b hb=>by rw [Heap.aQ,if_neg (by omega)],by rw [Heap.aJ];omega,rfl,rfl,rfl,rfl⟩ ?_
 rintro seen e hh ⟨t,e6,ht,ht6,w3,wf,wn,e0,e1,e2,uW⟩ K' RF hex UW acC;rw [F.aY.aT];simp only [uW];refine Eh w3 (by rw [wf M XK];exact z1) z3 (by omega) (fun mA=>?_) (fun en rY UX CV=>?_)
 ·simp only [HD,oL,an,cF,aK];rw [hex,F.aY.aF]
  have afx:∀ x ∈ hs,lv x<=t:=fun x hx=>by
   have h1:m.find x=some (lv x:Int):=by rw [z5,if_pos hx]
   obtain ⟨en,rY,h2,h3⟩:=z2.UU _ (rE h1);exact ht en rY (mA en rY) (lv x) h3
  have DZ:=aI (i:=t) (n:=1000001) (by omega) (by unfold cE;omega);simp only [aR,reduceAdd,reduceEqDiff,reduceIte,e6,DZ]
  refine aD 0 (t+1) (zero_le _) (fun l e h'=>∃ D,GC n rules.l lv D0 l D/\eM D D0/\dB D h' B lo/\(∀ b,b<h.next->(∀ nm p,D0 nm=some p->b≠p.1)->h'.get b=h.get b)/\h.next<=h'.next/\e 0 = .ptr P 0/\e 1 = .ptr S 0/\e 2 = .func ng na nb/\e 26 = .int .i64 ((t+1:Nat):Int)/\e 27 = .int .i64 (l:Int))
   ⟨D0,.zero,fun _=>rfl,hD.ext ⟨by omega,fun b hb=>wf b hb⟩,fun b hb _=>wf b hb,by omega,e0,e1,e2,rfl,rfl⟩ ?_ ?_
  ·rintro l e h' _ hlt ⟨D,hrun,yf,pR,hfr,oK,e0,e1,e2,xq,wL⟩ K1 NF jO Lu YX;have afy:∀ nm p,D0 nm=some p->P≠p.1:=fun nm p hp=>Ne.symm (hPM nm p hp).1;have notM:∀ nm p,D0 nm=some p->M≠p.1:=fun nm p hp=>Ne.symm (hPM nm p hp).2;have pP:h'.get P=some (.cells [ak aO 3 rules,.map A,.map M]):=by rw [hfr P SM afy];exact hP
   have pl:fK hs h' M ks lv:=hl.gz (hfr M XK notM);rw [F.aY.dm];simp only [e0,xq,wL,aR,reduceAdd,reduceEqDiff,reduceIte,aZ hlt,cp,aj pP];refine J6 o (l:=l) pP (by omega) pl (by omega) hin e0 e1 e2 rfl rfl rfl rfl rfl xq wL fun e' h3 a ps B5 oa l9 tu f0 f1 f2 f10 f26 f27=>?_;rw [F.aY.fX];simp only [f1,f2,f10];have hS3:h3.get S=some (.cells [.int .i64 (n:Int),.map B]):=by rw [B5.get S (by omega),hfr S Ri (fun nm p hp=>Ne.symm (o.rows nm p hp))];exact hS
   have J9:∀ p ∈ ps,p.r ∈ rules.l:=fun p hp=>by
    have:p.r ∈ gL lv rules.l l:=(by rw [<- tu];exact List.mem_map_of_mem hp);exact (mem_filter.1 this).1
   have acs:ps.length<=60:=by
    have y1:=congrArg List.length tu;rw [length_map] at y1;have y2:(gL lv rules.l l).length<=rules.l.length:=length_filter_le _ _;have:=o.RA;omega
   have po:Rx S n D ps ng na nb:=
    ⟨o.n1,o.sI,l9,fun nm p hp=>by obtain ⟨p0,y1,y2,_⟩:=yf.back hp;rw [y2];exact o.rows nm p0 y1,fun p hp D' sW=>o.ask _ (J9 p hp) D' (sW.trans yf),
     fun p hp=>by
      obtain ⟨y1,y2,q,y3,y4⟩:=o.head _ (J9 p hp);obtain ⟨q',y5,_,y6⟩:=yf.get y3
      exact ⟨y1,y2,q',y5,by rw [y6];exact y4⟩,o.note⟩
   have hDn:∀ nm p,D nm=some p->p.1<h'.next:=fun nm p hp=>(pR.Df nm p hp).2.1
   refine ai (J4 po hS3 (by have:=B5.next;omega) (pR.ext B5) oa (fun b hb nm p hp=>by have:=oa.ge hb;have:=hDn nm p hp;omega) acs fun h4 D4 k1 k2 k3 k4 k5 k6=>?_);simp only [aR,reduceAdd,reduceEqDiff,reduceIte,f27,aI hlt (show t+1<=cE by unfold cE;omega)];rw [tu] at k1 k2;refine NF _ _ ⟨D4,.succ l D D4 hrun k1 k2,k3.trans yf,k4,fun b b1 b2=>?_,by have:=B5.next;omega,f0,f1,f2,f26,rfl⟩;rw [k5 b (by have:=B5.next;omega) (fun nm p hp=>by obtain ⟨p0,y1,y2,_⟩:=yf.back hp;rw [y2];exact b2 nm p0 y1),B5.get b (by omega),hfr b b1 b2]
  ·rintro e h' ⟨D,hrun,yf,pR,hfr,oK,e0,e1,e2,xq,wL⟩ K1 jO;rw [F.aY.dm];simp only [xq,wL,aR,reduceAdd,reduceEqDiff,reduceIte,aS];rw [jO,F.aY.cq];exact hK h' D t afx hrun yf pR hfr oK
 ·obtain ⟨p,GB,NF,qj⟩:=z2.mem en rY;obtain ⟨hph,YP⟩:=Fa p GB;rw [YP] at qj;have akt:=FH p.1;simp only [HD,oL,vC,an,cF,aL,uW,CV,e6,qj,JU]
  have hmx:NA (t:Int) (lv p.1:Int)=((if lv p.1>t then lv p.1 else t:Nat):Int):=by
   unfold NA;by_cases Qj:lv p.1>t
   ·rw [if_pos Qj,if_pos (by omega)]
   ·rw [if_neg Qj,if_neg (by omega)]
  refine RF en rY UX _ _ ⟨if lv p.1>t then lv p.1 else t,by rw [hmx];rfl,fun Wt Ka gI v hv=>?_,by split<;>omega,by rw [Heap.aP,if_pos rfl],fun b hb=>by rw [Heap.aP,if_neg (by omega)];exact wf b hb,by rw [Heap.bp];exact wn,e0,e1,e2,uW⟩;rcases mem_append.1 gI with gI|gI
  ·have:=ht Wt Ka gI v hv;split<;>omega
  ·rw [mem_singleton] at gI
   have hee:Wt=en:=by
    have hb:=z3.nodup;obtain ⟨i,hi⟩:=mem_iff_getElem?.1 rY;obtain ⟨j,hj⟩:=mem_iff_getElem?.1 Ka;have wo:(es.map (·.2.2))[i]?=some en.2.2:=by rw [getElem?_map,hi];rfl
    have Hw:(es.map (·.2.2))[j]?=some en.2.2:=by rw [getElem?_map,hj,<- gI];rfl
    have hij:=nq hb wo Hw;subst hij;rw [hi] at hj;exact (Option.some.inj hj).symm
   rw [hee,qj] at hv;have:v=lv p.1:=by injection hv with _ h3;omega
   rw [this];split<;>omega
theorem ic{n:Int}{x:Sl Int}(hx:x.l.length<=cE){h:Heap}{K:Out->Heap->Bool}(hK:K (.ret (.bool (iY n x.l))) h=true):Sem TP 125 [.int .i64 n,ak encI 1 x] h K:=by
 refine F.HR ?_;rw [F.JA];refine aD 0 x.l.length (zero_le _) (fun i e h'=>h'=h/\e 0 = .int .i64 n/\e 1=ak encI 1 x/\e 5 = .int .i64 (i:Int)/\iY n (x.l.take i)=true) ⟨rfl,rfl,rfl,rfl,rfl⟩ ?_ ?_
 ·rintro i e h' _ hi ⟨rfl,e0,e1,e5,ht⟩ K' hn gi hr hp;have hv:x.l[i]?=some x.l[i]:=ez hi;rw [F.ic.aT];simp only [e0,e1,e5,aR,reduceAdd,reduceEqDiff,reduceIte,aZ hi,aV x hi,iB hv];by_cases h1:x.l[i]<0
  ·simp only [fh h1,aL];rw [hr,F.ic.bz];have:iY n x.l=false:=all_false hv (by simp [h1]);rw [this] at hK;exact hK
  ·simp only [eT h1,aK];by_cases h2:n<=x.l[i]
   ·simp only [fh h2,aL];rw [hr,F.ic.bz];have:iY n x.l=false:=all_false hv (by simp [h2]);rw [this] at hK;exact hK
   ·simp only [eT h2,aK,aI hi hx,an];exact hn _ _ ⟨rfl,e0,e1,rfl,jB hv ht (by simp [h1,h2])⟩
 ·rintro e h' ⟨rfl,e0,e1,e5,ht⟩ K' gi;rw [F.ic.aT];simp only [e0,e1,e5,aR,reduceAdd,reduceEqDiff,reduceIte,aS];rw [gi,F.ic.aF];rw [jD (dK _)] at ht;rw [ht] at hK;exact hK
theorem FI{x:Sl Int}(hx:x.l.length<=cE){a b:List AV}{p:Int->Bool}(hp:∀ (v:Int) (K:Out->Heap->Bool),K (.ret (.bool (p v))) h=true->Sem TP g (a++([.int .i64 v]++b)) h K)
  (hK:∀ n:Int,decide (0<=n)=x.l.any p->K (.ret (.int .i64 n)) h=true):Sem TP 91 [ak encI 1 x,.func g a b] h K:=by
 refine F.nh ?_;rw [F.nJ];simp only [aR,reduceAdd,reduceEqDiff,reduceIte];refine aD 0 x.l.length (zero_le _) (fun i e h'=>h'=h/\e 0=ak encI 1 x/\e 1 = .func g a b/\e 7 = .int .i64 (x.l.length:Int)/\e 8 = .int .i64 (i:Int)/\(x.l.take i).any p=false) ⟨rfl,rfl,rfl,rfl,rfl,rfl⟩ ?_ ?_
 ·rintro i e h' _ hi ⟨rfl,e0,e1,e7,e8,ht⟩ K' hn gi hr zP;have hv:x.l[i]?=some x.l[i]:=ez hi;rw [F.bW.aT];simp only [e0,e1,e7,e8,aR,reduceAdd,reduceEqDiff,reduceIte,aZ hi,aV x hi,iB hv,fL];refine ai (hp _ _ ?_);simp only [aR,reduceAdd,reduceEqDiff,reduceIte]
  cases hq:p x.l[i] with
  |true=>
   simp only [aL];rw [hr,F.bW.bz];refine hK (i:Int) ?_;rw [fh (by omega:(0:Int)<=(i:Int))];exact (List.any_eq_true.2 ⟨_,iz hv,hq⟩).symm
  |false=>
   simp only [aK,aI hi hx,an];exact hn _ _ ⟨rfl,e0,e1,e7,rfl,by rw [take_add_one,hv,any_append,ht];simp [hq]⟩
 ·rintro e h' ⟨rfl,e0,e1,e7,e8,ht⟩ K' gi;rw [F.bW.aT];simp only [e0,e1,e7,e8,aR,reduceAdd,reduceEqDiff,reduceIte,aS];rw [gi,F.bW.aF];rw [jD (dK _)] at ht;exact hK (-1) (by rw [ht];rfl)
theorem rJ{x:Sl Int}(hx:x.l.length<=cE){a b:List AV}{p:Int->Bool}(hp:∀ (v:Int) (K:Out->Heap->Bool),K (.ret (.bool (p v))) h=true->Sem TP g (a++([.int .i64 v]++b)) h K)
  (hK:K (.ret (.bool (x.l.any p))) h=true):Sem TP 47 [ak encI 1 x,.func g a b] h K:=by
 refine F.mw ?_;rw [F.mH];refine ai (FI hx hp fun n hn=>?_);simp only [aR,reduceAdd,reduceEqDiff,reduceIte];rw [hn];exact hK
def Ek(n:Int)(x:Int):Bool:=decide (x<0)||decide (n<=x)
theorem RG(n:Int)(l:List Int):iY n l = !(l.any (Ek n)):=by
 unfold iY Ek
 induction l with
 |nil=>rfl
 |cons a l ih=>simp only [all_cons,any_cons,ih];cases decide (a<0)<;>cases decide (n<=a)<;>rfl
theorem cV{cs:List AV}(h:cs.length=n):ju (some n) cs 0=some (.agg cs):=by
 simp [ju,h,jD]
theorem iy{n k:Nat}(h1:1<=n)(h2:n<=64)(hk:k<=cE){h:Heap}{K:Out->Heap->Bool}(hK:∀ v:Nat,(n ^ k<=4096->v=n ^ k)->(4096<n ^ k->4096<v)->K (.ret (.int .i64 (v:Int))) h=true) :
  Sem TP 155 [.int .i64 (n:Int),.int .i64 (k:Int)] h K:=by
 refine F.Ft ?_;rw [F.HP];refine aD 0 k (zero_le _) (fun i e h'=>h'=h/\e 0 = .int .i64 (n:Int)/\e 1 = .int .i64 (k:Int)/\e 6 = .int .i64 (i:Int)/\e 5 = .int .i64 ((n ^ i:Nat):Int)/\n ^ i<=262144) ⟨rfl,rfl,rfl,rfl,rfl,by simp⟩ ?_ ?_
 ·rintro i e h' _ hi ⟨rfl,e0,e1,e6,e5,hb⟩ K' hn hx hr hp;rw [F.iy.aT];simp only [e0,e1,e5,e6,aR,reduceAdd,reduceEqDiff,reduceIte,aZ hi];by_cases hc:n ^ i<=4096
  ·have hm:n ^ i*n<=4096*64:=Nat.mul_le_mul hc h2;have vE:((n ^ i:Nat):Int)*(n:Int)=((n ^ (i+1):Nat):Int):=by rw [Nat.pow_succ,Int.natCast_mul]
   have hs:n ^ (i+1)<=262144:=by rw [Nat.pow_succ];omega
   have hmul:aG .mul (.int .i64 ((n ^ i:Nat):Int)) (.int .i64 (n:Int))=some (.int .i64 ((n ^ (i+1):Nat):Int)):=by
    rw [vB (by rw [vE];omega) (by rw [vE];omega),vE]
   simp only [fh (by omega:((n ^ i:Nat):Int)<=4096),aL,hmul,aI hi hk,an];exact hn _ _ ⟨rfl,e0,e1,rfl,rfl,hs⟩
  ·simp only [eT (by omega:¬ ((n ^ i:Nat):Int)<=4096),aK];rw [hx,F.iy.aF];simp only [e5,bL,reduceEqDiff,reduceIte];have:=Ib h1 (Nat.le_of_lt hi);exact hK _ (fun h=>by omega) (fun _=>by omega)
 ·rintro e h' ⟨rfl,e0,e1,e6,e5,hb⟩ K' hx;rw [F.iy.aT];simp only [e0,e1,e5,e6,aR,reduceAdd,reduceEqDiff,reduceIte,aS];rw [hx,F.iy.aF];simp only [e5,bL,reduceEqDiff,reduceIte];exact hK _ (fun _=>rfl) (fun h=>h)
def Mc(n k:Nat):Int:=if n ^ k<=4096 then ((n ^ k:Nat):Int) else -1
theorem eu{n k:Nat}(h1:1<=n)(h2:n<=64)(hk:k<=cE){h:Heap}{K:Out->Heap->Bool}(hK:K (.ret (.int .i64 (Mc n k))) h=true) :
  Sem TP 108 [.int .i64 (n:Int),.int .i64 (k:Int),.int .i64 4096] h K:=by
 refine F.BO ?_;rw [F.DH];refine aD 0 k (zero_le _) (fun i e h'=>h'=h/\e 0 = .int .i64 (n:Int)/\e 2 = .int .i64 4096/\e 8 = .int .i64 (k:Int)/\e 9 = .int .i64 (i:Int)/\e 7 = .int .i64 ((n ^ i:Nat):Int)/\n ^ i<=4096) ⟨rfl,rfl,rfl,rfl,rfl,rfl,by simp⟩ ?_ ?_
 ·rintro i e h' _ hi ⟨rfl,e0,e2,e8,e9,e7,hb⟩ K' hn hx hr hp;rw [F.eu.aT];have hm:n ^ i*n<=4096*64:=Nat.mul_le_mul hb h2;have vE:((n ^ i:Nat):Int)*(n:Int)=((n ^ (i+1):Nat):Int):=by rw [Nat.pow_succ,Int.natCast_mul]
  have hs:n ^ (i+1)<=262144:=by rw [Nat.pow_succ];omega
  have hmul:aG .mul (.int .i64 ((n ^ i:Nat):Int)) (.int .i64 (n:Int))=some (.int .i64 ((n ^ (i+1):Nat):Int)):=by
   rw [vB (by rw [vE];omega) (by rw [vE];omega),vE]
  simp only [e0,e2,e7,e8,e9,aR,reduceAdd,reduceEqDiff,reduceIte,aZ hi,hmul];by_cases hc:n ^ (i+1)<=4096
  ·simp only [eT (by omega:¬ (4096:Int)<((n ^ (i+1):Nat):Int)),aK,aI hi hk,an];exact hn _ _ ⟨rfl,e0,e2,e8,rfl,rfl,hc⟩
  ·simp only [fh (by omega:(4096:Int)<((n ^ (i+1):Nat):Int)),aL];rw [hr,F.eu.bz];simp only [bL,reduceEqDiff,reduceIte];have:=Ib h1 (show i+1<=k from hi);rw [Mc,if_neg (by omega)] at hK;exact hK
 ·rintro e h' ⟨rfl,e0,e2,e8,e9,e7,hb⟩ K' hx;rw [F.eu.aT];simp only [e8,e9,aR,reduceAdd,reduceEqDiff,reduceIte,aS];rw [hx,F.eu.aF];simp only [e7,bL,reduceEqDiff,reduceIte];rw [Mc,if_pos hb] at hK;exact hK
def OY(n k:Nat):AV:=if 12<k then .tuple [.int .i64 0,.int .i64 2] else if 4096<n ^ k then .tuple [.int .i64 0,.int .i64 5] else .tuple [.int .i64 ((n ^ k:Nat):Int),.int .i64 0]
theorem qz{k:Nat}(h1:1<=n)(h2:n<=64)(hk:k<=cE)(hK:K (.ret (OY n k)) h=true):Sem TP 99 [.int .i64 (n:Int),.int .i64 (k:Int)] h K:=by
 refine F.BN ?_;rw [F.DF];simp only [aR,reduceAdd,reduceEqDiff,reduceIte,eT (by omega:¬ (n:Int)<1),eT (by omega:¬ (64:Int)<(n:Int)),eT (by omega:¬ (k:Int)<0)];unfold OY at hK;by_cases H7:12<k
 ·rw [if_pos H7] at hK;simp only [fh (by omega:(12:Int)<(k:Int)),aL];exact hK
 ·rw [if_neg H7] at hK;simp only [eT (by omega:¬ (12:Int)<(k:Int)),aK];refine ai (eu h1 h2 hk ?_);simp only [aR,reduceAdd,reduceEqDiff,reduceIte];by_cases hc:n ^ k<=4096
  ·rw [if_neg (by omega)] at hK;simp only [Mc,if_pos hc,eT (by omega:¬ ((n ^ k:Nat):Int)<0),aK];exact hK
  ·rw [if_pos (by omega)] at hK;simp only [Mc,if_neg hc,fh (by omega:(-1:Int)<0),aL];exact hK
theorem Md{n:Int}(hb:h.get b=some (.cells [.int .i64 n]))(v:Int)(K:Out->Heap->Bool)(hK:K (.ret (.bool (Ek n v))) h=true):Sem TP 93 ([]++([.int .i64 v]++[.ptr b 0])) h K:=by
 refine F.uz ?_;rw [F.wG];simp only [aj hb,aR,reduceAdd,reduceEqDiff,reduceIte];unfold Ek at hK;by_cases h1:v<0<;>by_cases h2:n<=v<;>simpa [h1,h2] using hK
theorem uX{n:Int}{x:Sl Int}(hx:x.l.length<=cE)(hK:K (.ret (.bool (iY n x.l))) h=true):Sem TP 52 [.int .i64 n,ak encI 1 x] h K:=by
 refine Sem.data (r:=.bool (iY n x.l)) ?_ (by simp [AV.cN,AV.pure,b7 jd]) hK;refine F.xV ?_;rw [F.zc];simp only [mE (x:=.int .i64 _) rfl,an,bJ];have g0:(Heap.alloc Heap.empty (.cells [.int .i64 n])).get 0=some (.cells [.int .i64 n]):=aA _ _;refine ai (rJ hx (Md g0) ?_);simp only [aR,reduceAdd,reduceEqDiff,reduceIte];rw [RG];exact gd rfl
theorem yg{l m:List Int}{a b:Int}(ha:l[i]?=some a)(hb:m[i]?=some b):dy (l.drop i) (m.drop i)=if a=b then dy (l.drop (i+1)) (m.drop (i+1)) else decide (a<b):=by
 have h1:=(kT.1 ha).1;have h2:=(kT.1 hb).1;rw [drop_eq_getElem_cons h1,drop_eq_getElem_cons h2];rw [ez h1] at ha;rw [ez h2] at hb;cases ha;cases hb;rfl
theorem fM{x y:Sl Int}(hx:x.l.length<=cE)(hxy:x.l.length=y.l.length){h:Heap}{K:Out->Heap->Bool}(hK:K (.ret (.bool (dy x.l y.l))) h=true):Sem TP 156 [ak encI 1 x,ak encI 1 y] h K:=by
 refine F.DG ?_;rw [F.Fw];refine aD 0 x.l.length (zero_le _) (fun i e h'=>h'=h/\e 0=ak encI 1 x/\e 1=ak encI 1 y/\e 5 = .int .i64 (i:Int)/\dy x.l y.l=dy (x.l.drop i) (y.l.drop i)) ⟨rfl,rfl,rfl,rfl,rfl⟩ ?_ ?_
 ·rintro i e h' _ hi ⟨rfl,e0,e1,e5,hl⟩ K' hn gi hr hp;have IE:i<y.l.length:=by omega
  have hv:x.l[i]?=some x.l[i]:=ez hi;have hw:y.l[i]?=some y.l[i]:=ez IE;rw [yg hv hw] at hl;generalize x.l[i]=a at hv hl;generalize y.l[i]=b at hw hl;rw [F.fM.aT];simp only [e0,e1,e5,aR,reduceAdd,reduceEqDiff,reduceIte,aZ hi,aV x hi,aV y IE,iB hv,iB hw,cI];by_cases qX:a=b
  ·rw [if_pos qX] at hl;simp only [fh qX,Bool.not_true,aK,aI hi hx,an];exact hn _ _ ⟨rfl,e0,e1,rfl,hl⟩
  ·rw [if_neg qX] at hl;simp only [eT qX,Bool.not_false,aL];rw [hr,F.fM.bz];simp only [bL,reduceEqDiff,reduceIte];rw [hl] at hK;exact hK
 ·rintro e h' ⟨rfl,e0,e1,e5,hl⟩ K' gi;rw [F.fM.aT];simp only [e0,e5,aR,reduceAdd,reduceEqDiff,reduceIte,aS];rw [gi,F.fM.aF];rw [drop_of_length_le (dK _)] at hl;rw [hl] at hK;exact hK
theorem GD{a:Int}(hK:K (.ret (.bool false)) h=true):Sem TP 136 [.int .i64 a] h K:=by
 refine F.zf ?_;rw [F.Aj];simp only [aR,reduceAdd,reduceEqDiff,reduceIte,beq_self_eq_true,Bool.not_true];exact hK
theorem Bo{a b:Int}(hK:∀ c:Int,(c=0↔a=b)->(c<0↔a<b)->K (.ret (.int .i64 c)) h=true):Sem TP 95 [.int .i64 a,.int .i64 b] h K:=by
 refine F.wF ?_;rw [F.xW];refine ai (GD ?_);simp only [aR,reduceAdd,reduceEqDiff,reduceIte];refine ai (GD ?_);simp only [aR,reduceAdd,reduceEqDiff,reduceIte];by_cases h1:a<b
 ·simp only [fh h1,aL];exact hK _ (by omega) (by omega)
 ·simp only [eT h1,aK];by_cases h2:b<a
  ·simp only [fh h2,aL];exact hK _ (by omega) (by omega)
  ·simp only [eT h2,aK];exact hK _ (by omega) (by omega)
theorem El{x y:Sl Int}(hx:x.l.length<=cE)(hxy:x.l.length=y.l.length)(hK:∀ c:Int,decide (0<=c) = !(dy x.l y.l)->K (.ret (.int .i64 c)) h=true):Sem TP 55 [ak encI 1 x,ak encI 1 y] h K:=by
 refine F.jz ?_;rw [F.jQ];simp only [aR,reduceAdd,reduceEqDiff,reduceIte];refine aD 0 x.l.length (zero_le _) (fun i e h'=>h'=h/\e 0=ak encI 1 x/\e 1=ak encI 1 y/\e 9=ak encI 1 x/\e 10 = .int .i64 (x.l.length:Int)/\e 11 = .int .i64 (i:Int)/\dy x.l y.l=dy (x.l.drop i) (y.l.drop i)) ⟨rfl,rfl,rfl,rfl,rfl,rfl,rfl⟩ ?_ ?_
 ·rintro i e h' _ hi ⟨rfl,e0,e1,e9,jm,nU,hl⟩ K' hn gi hr hp;have IE:i<y.l.length:=by omega
  have hv:x.l[i]?=some x.l[i]:=ez hi;have hw:y.l[i]?=some y.l[i]:=ez IE;rw [yg hv hw] at hl;generalize x.l[i]=a at hv hl;generalize y.l[i]=b at hw hl;rw [F.bF.aT];simp only [e0,e1,e9,jm,nU,aR,reduceAdd,reduceEqDiff,reduceIte,aZ hi,aV x hi,aV y IE,iB hv,iB hw,eT (by omega:¬ (y.l.length:Int)<=(i:Int))];refine ai (Bo fun c c1 c2=>?_);simp only [aR,reduceAdd,reduceEqDiff,reduceIte,cI];by_cases qX:a=b
  ·rw [if_pos qX] at hl;simp only [fh (c1.2 qX),Bool.not_true,aK,aI hi hx,an];exact hn _ _ ⟨rfl,e0,e1,e9,jm,rfl,hl⟩
  ·rw [if_neg qX] at hl;simp only [eT (fun h=>qX (c1.1 h)),Bool.not_false,aL];rw [hr,F.bF.bz];simp only [bL,reduceEqDiff,reduceIte];refine hK c ?_;rw [hl];by_cases hlt:a<b
   ·rw [fh hlt,eT (by have:=c2.2 hlt;omega)];rfl
   ·rw [eT hlt,fh (by have:=mt c2.1 hlt;omega)];rfl
 ·rintro e h' ⟨rfl,e0,e1,e9,jm,nU,hl⟩ K' gi;rw [F.bF.aT];simp only [jm,nU,aR,reduceAdd,reduceEqDiff,reduceIte,aS];rw [gi,F.bF.aF];simp only [e0,e1,aR,reduceAdd,reduceEqDiff,reduceIte,eT (by omega:¬ (x.l.length:Int)<(y.l.length:Int))];rw [drop_of_length_le (dK _)] at hl;exact hK 0 (by rw [hl];rfl)
structure View {α:Type} (enc:α->List AV) (sz:Nat) (a:AV) (l:List α):Prop where
 len:∀ h:Heap,bX .slice a h=some (.int .i64 (l.length:Int))
 at_:∀ (i:Nat) (v:α),l[i]?=some v->∃ cs o,(∀ k:IntKind,dN sz a (.int k (i:Int))=some (.ef cs o))/\(∀ h:Heap,ag (some sz) (.ef cs o) h=some (.agg (enc v)))/\∀ (m:Nat),m<sz->∀ h:Heap,ag none (.ef cs (o+m)) h=(enc v)[m]?
theorem Kb{enc:α->List AV}(he:∀ a,(enc a).length=sz)(x:Sl α):View enc sz (ak enc sz x) x.l where
 len h:=Jo x h
 at_ i v hv:=⟨x.l.flatMap enc,i*sz,fun k=>aV x (kT.1 hv).1,fun h=>dO he hv,fun m hm h=>fy he hv hm⟩
theorem OZ{enc:α->List AV}(he:∀ a,(enc a).length=sz)(x:Sl α)(hi:i<=x.l.length) :
  ∃ a,(∀ k:IntKind,ja (some sz) (ak enc sz x) none (some (.int k (i:Int)))=some a)/\View enc sz a (x.l.take i):=by
 cases x with
 |none=>
  simp only [Sl.Xk,length_nil,le_zero_eq] at hi;subst hi;exact ⟨.ax,fun k=>by simp [ja,ak,lD,qG,asNat],⟨fun h=>rfl,fun j v hv=>by simp at hv⟩⟩
 |some l=>
  simp only [Sl.HE] at hi ⊢;refine ⟨.au (l.flatMap enc) 0 i sz,fun k=>?_,⟨fun h=>by simp [bX,Nat.min_eq_left hi],fun j v hv=>?_⟩⟩
  ·simp [ja,ak,lD,qG,asNat,hi]
  ·have hj:j<i:=by have:=(kT.1 hv).1;rw [length_take] at this;omega
   rw [getElem?_take_of_lt hj] at hv;exact ⟨l.flatMap enc,j*sz,fun k=>by simp [dN,asNat,hj],fun h=>dO he hv,fun m hm h=>fy he hv hm⟩
def aW(r:Rel):List AV:=[.str r.name,.int .i64 r.arity,ak cU 1 r.aM]
theorem eC(r:Rel):(aW r).length=3:=rfl
theorem uY(r:Rel):AV.cN (aW r)=true:=by simp [aW,AV.cN,AV.pure,b7 nj]
theorem fY(r:Rel):bx (aW r)=true:=by unfold aW;simp only [bx,fR,Bool.and_true];rfl
def aq(s:di):List AV:=[.int .i64 s.size,ak aW 3 s.aC]
theorem eG(s:di):AV.cN (aq s)=true:=by simp [aq,AV.cN,AV.pure,b7 uY]
theorem cA(s:di):bx (aq s)=true:=by unfold aq;simp only [bx,fR,Bool.and_true];rfl
theorem oT(h:∀ j,j<n->p j=true):FF p n=true:=by
 rw [FF,List.all_eq_true];exact fun x hx=>h x (mem_range.1 hx)
theorem jr(hi:i<n)(h:p i=false):FF p n=false:=by
 rw [eq_false_iff];intro hh;rw [FF,List.all_eq_true] at hh;have:=hh i (mem_range.2 hi);rw [h] at this;cases this
theorem zw(h:FF p n=true)(hi:i<n):p i=true:=by
 rw [FF,List.all_eq_true] at h;exact h i (mem_range.2 hi)
theorem NG{k:Nat}{l:List (Sl Int)}{t:Sl Int}(h:mK n k l i=true)(ht:l[i]?=some t):t.l.length=k:=by
 unfold mK at h;rw [ht] at h;simp only [and_eq_true,decide_eq_true_eq] at h;exact h.1
theorem dr{n k:Nat}{r:Rel}(hr:r.ok)(ha:r.arity=(k:Int)){h:Heap}{K:Out->Heap->Bool}(hK:K (.ret (.bool (zn n k r.aM.l))) h=true):Sem TP 109 [.int .i64 (n:Int),.agg (aW r)] h K:=by
 refine Sem.data (r:=.bool (zn n k r.aM.l)) ?_ (by simp [AV.cN,AV.pure,uY]) hK;clear hK;refine F.Ag ?_;rw [F.BP];have b0:(Heap.alloc Heap.empty (.cells (aW r))).get 0=some (.cells (aW r)):=aA _ _;simp only [dg (fY r),an,bJ];generalize (Heap.alloc Heap.empty (.cells (aW r)))=H at b0 ⊢;have fin:∀ b:Bool,b=zn n k r.aM.l->qN (.bool (zn n k r.aM.l)) (.ret (.bool b)) H=true:=fun b hb=>by rw [hb];exact gd rfl
 simp only [aR,reduceAdd,reduceEqDiff,reduceIte,aj b0,aW];refine aD 0 r.aM.l.length (zero_le _) (fun i e h'=>h'=H/\e 0 = .int .i64 (n:Int)/\e 3 = .ptr 0 0/\e 8=ak cU 1 r.aM/\e 9 = .int .i64 (r.aM.l.length:Int)/\e 10 = .int .i64 (i:Int)/\∀ j,j<i->mK n k r.aM.l j=true) ⟨rfl,rfl,rfl,rfl,rfl,rfl,fun j hj=>by omega⟩ ?_ ?_
 ·rintro i e h' _ hi ⟨rfl,e0,e3,e8,e9,jm,ht⟩ K' hn gi Kc hp;have hv:r.aM.l[i]?=some r.aM.l[i]:=ez hi;generalize r.aM.l[i]=t at hv;have hto:t.l.length<=cE:=hr.2.2 t (iz hv)
  have bad:mK n k r.aM.l i=false->F.dr.cR (qN (.bool (zn n k r.aM.l))) .ret ⟨aa e 4 (.bool false),42,[],h'⟩=true:=fun hb=>by
   rw [F.dr.bz];simp only [bL,reduceEqDiff,reduceIte];exact fin _ (jr hi hb).symm
  rw [F.dr.aT];simp only [e0,e3,e8,e9,jm,aR,reduceAdd,reduceEqDiff,reduceIte,aZ hi,aV r.aM hi,gK hv,aj b0,aW,cI,ha];by_cases h1:t.l.length=k
  ·simp only [fh (by omega:(t.l.length:Int)=(k:Int)),Bool.not_true,aK];refine ai (uX hto ?_);simp only [aR,reduceAdd,reduceEqDiff,reduceIte]
   cases h2:iY n t.l with
   |false=>
    simp only [Bool.not_false,aL];rw [Kc,F.dr.bz];simp only [bL,reduceEqDiff,reduceIte];exact fin _ (jr hi (by simp [mK,hv,h2])).symm
   |true=>
    simp only [Bool.not_true,aK]
    cases i with
    |zero=>
     simp only [show decide ((0:Int)<((0:Nat):Int))=false from rfl,aK,aI hi hr.2.1,an];refine hn _ _ ⟨rfl,e0,e3,e8,e9,rfl,fun j hj=>?_⟩;obtain rfl:j=0:=by omega
     simp [mK,hv,h1,h2]
    |succ i=>
     have hi0:i<r.aM.l.length:=(by omega);have ER:r.aM.l[i]?=some r.aM.l[i]:=ez hi0;generalize r.aM.l[i]=p at ER;have qJ:p.l.length=k:=NG (ht i (by omega)) ER;have W8:p.l.length<=cE:=hr.2.2 p (iz ER)
     have J9:aG .sub (.int .i64 ((i+1:Nat):Int)) (.int .i64 1)=some (.int .i64 (i:Int)):=by
      have:=hr.2.1;unfold cE at this;rw [Co (by omega) (by omega)];congr 2;omega
     simp only [fh (by omega:(0:Int)<((i+1:Nat):Int)),aL,aR,reduceAdd,reduceEqDiff,reduceIte,e3,aj b0,aW,J9,aV r.aM hi0,gK ER];refine ai (El W8 (by omega) fun c hc=>?_);simp only [aR,reduceAdd,reduceEqDiff,reduceIte,hc]
     cases h3:dy p.l t.l with
     |false=>
      simp only [Bool.not_false,aL];rw [Kc,F.dr.bz];simp only [bL,reduceEqDiff,reduceIte];exact fin _ (jr hi (by simp [mK,hv,ER,h3])).symm
     |true=>
      simp only [Bool.not_true,aK,aI hi hr.2.1,an];refine hn _ _ ⟨rfl,e0,e3,e8,e9,rfl,fun j hj=>?_⟩;by_cases Hw:j<i+1
      ·exact ht j Hw
      ·obtain rfl:j=i+1:=by omega
       simp [mK,hv,ER,h1,h2,h3]
  ·simp only [eT (by omega:¬ (t.l.length:Int)=(k:Int)),Bool.not_false,aL];rw [Kc,F.dr.bz];simp only [bL,reduceEqDiff,reduceIte];exact fin _ (jr hi (by simp [mK,hv,h1])).symm
 ·rintro e h' ⟨rfl,e0,e3,e8,e9,jm,ht⟩ K' gi;rw [F.dr.aT];simp only [e9,jm,aR,reduceAdd,reduceEqDiff,reduceIte,aS];rw [gi,F.dr.aF];exact fin _ (oT ht).symm
theorem fS{n:Nat}(h1:1<=n)(h2:n<=64){r:Rel}(hr:r.ok){h:Heap}{K:Out->Heap->Bool}(hK:K (.ret (.bool (nT n r))) h=true):Sem TP 115 [.int .i64 (n:Int),.agg (aW r)] h K:=by
 refine Sem.data (r:=.bool (nT n r)) ?_ (by simp [AV.cN,AV.pure,uY]) hK;clear hK;refine F.Fv ?_;rw [F.HQ];have b0:(Heap.alloc Heap.empty (.cells (aW r))).get 0=some (.cells (aW r)):=aA _ _;simp only [dg (fY r),an,bJ];generalize (Heap.alloc Heap.empty (.cells (aW r)))=H at b0 ⊢;have fin:∀ b:Bool,b=nT n r->qN (.bool (nT n r)) (.ret (.bool b)) H=true:=fun b hb=>by rw [hb];exact gd rfl
 simp only [aR,reduceAdd,reduceEqDiff,reduceIte,aj b0,aW];refine ai (eB ?_);simp only [aR,reduceAdd,reduceEqDiff,reduceIte]
 cases hn:ey r.name with
 |false=>simp only [Bool.not_false,aL];exact fin _ (by simp [nT,hn])
 |true=>
 simp only [Bool.not_true,aK,aR,reduceAdd,reduceEqDiff,reduceIte,aj b0,aW];by_cases ha:r.arity<0
 ·simp only [fh ha,aL];exact fin _ (by rw [nT,eT (by omega:¬ 0<=r.arity)];simp)
 simp only [eT ha,aK];by_cases NH:12<r.arity
 ·simp only [fh NH,aL];exact fin _ (by rw [nT,eT (by omega:¬ r.arity<=12)];simp)
 simp only [eT NH,aK];obtain ⟨k,hk⟩:∃ k:Nat,r.arity=(k:Int):=⟨r.arity.toNat,by omega⟩
 rw [hk];refine ai (iy h1 h2 (show k<=cE by unfold cE;omega) fun v v1 v2=>?_);simp only [aR,reduceAdd,reduceEqDiff,reduceIte]
 have Im:nT n r=(decide (n ^ k<=4096)&&zn n k r.aM.l):=by
  rw [nT,hn,fh (by omega:0<=r.arity),fh (by omega:r.arity<=12),hk];rfl
 replace fin:∀ b:Bool,b=(decide (n ^ k<=4096)&&zn n k r.aM.l)->qN (.bool (nT n r)) (.ret (.bool b)) H=true:=fun b hb=>fin b (hb.trans Im.symm);by_cases hc:n ^ k<=4096
 ·have:=v1 hc;simp only [eT (by omega:¬ (4096:Int)<(v:Int)),aK];replace fin:∀ b:Bool,b=zn n k r.aM.l->qN (.bool (nT n r)) (.ret (.bool b)) H=true:=fun b hb=>fin b (by rw [fh hc,Bool.true_and];exact hb);refine aD 0 r.aM.l.length (zero_le _) (fun i e h'=>h'=H/\e 0 = .int .i64 (n:Int)/\e 3 = .ptr 0 0/\e 5 = .int .i64 (i:Int)/\∀ j,j<i->mK n k r.aM.l j=true) ⟨rfl,rfl,rfl,rfl,fun j hj=>by omega⟩ ?_ ?_
  ·rintro i e h' _ hi ⟨rfl,e0,e3,e5,ht⟩ K' hn gi Kc hp;have hv:r.aM.l[i]?=some r.aM.l[i]:=ez hi;generalize r.aM.l[i]=t at hv;have hto:t.l.length<=cE:=hr.2.2 t (iz hv);rw [F.fS.aT];simp only [e0,e3,e5,aR,reduceAdd,reduceEqDiff,reduceIte,aj b0,aW,aZ hi,aV r.aM hi,gK hv,cI,hk];by_cases q1:t.l.length=k
   ·simp only [fh (by omega:(t.l.length:Int)=(k:Int)),Bool.not_true,aK];refine ai (ic hto ?_);simp only [aR,reduceAdd,reduceEqDiff,reduceIte]
    cases q2:iY n t.l with
    |false=>
     simp only [Bool.not_false,aL];rw [Kc,F.fS.bz];simp only [bL,reduceEqDiff,reduceIte];exact fin _ (jr hi (by simp [mK,hv,q2])).symm
    |true=>
     simp only [Bool.not_true,aK]
     cases i with
     |zero=>
      simp only [show decide ((0:Int)<((0:Nat):Int))=false from rfl,aK,aI hi hr.2.1,an];refine hn _ _ ⟨rfl,e0,e3,rfl,fun j hj=>?_⟩;obtain rfl:j=0:=by omega
      simp [mK,hv,q1,q2]
     |succ i=>
      have hi0:i<r.aM.l.length:=(by omega);have ER:r.aM.l[i]?=some r.aM.l[i]:=ez hi0;generalize r.aM.l[i]=p at ER;have qJ:p.l.length=k:=NG (ht i (by omega)) ER;have W8:p.l.length<=cE:=hr.2.2 p (iz ER)
      have J9:aG .sub (.int .i64 ((i+1:Nat):Int)) (.int .i64 1)=some (.int .i64 (i:Int)):=by
       have:=hr.2.1;unfold cE at this;rw [Co (by omega) (by omega)];congr 2;omega
      simp only [fh (by omega:(0:Int)<((i+1:Nat):Int)),aL,aR,reduceAdd,reduceEqDiff,reduceIte,e3,e5,aj b0,aW,J9,aV r.aM hi0,aV r.aM hi,gK ER,gK hv];refine ai (fM W8 (by omega) ?_);simp only [aR,reduceAdd,reduceEqDiff,reduceIte]
      cases q3:dy p.l t.l with
      |false=>
       simp only [Bool.not_false,aL];rw [Kc,F.fS.bz];simp only [bL,reduceEqDiff,reduceIte];exact fin _ (jr hi (by simp [mK,hv,ER,q3])).symm
      |true=>
       simp only [Bool.not_true,aK,aI hi hr.2.1,an];refine hn _ _ ⟨rfl,e0,e3,rfl,fun j hj=>?_⟩;by_cases Hw:j<i+1
       ·exact ht j Hw
       ·obtain rfl:j=i+1:=by omega
        simp [mK,hv,ER,q1,q2,q3]
   ·simp only [eT (by omega:¬ (t.l.length:Int)=(k:Int)),Bool.not_false,aL];rw [Kc,F.fS.bz];simp only [bL,reduceEqDiff,reduceIte];exact fin _ (jr hi (by simp [mK,hv,q1])).symm
  ·rintro e h' ⟨rfl,e0,e3,e5,ht⟩ K' gi;rw [F.fS.aT];simp only [e3,e5,aR,reduceAdd,reduceEqDiff,reduceIte,aj b0,aW,aS];rw [gi,F.fS.aF];exact fin _ (oT ht).symm
 ·have:=v2 (by omega);simp only [fh (by omega:(4096:Int)<(v:Int)),aL];exact fin _ (by rw [eT hc];rfl)
def uZ{α:Type}(p:α->Bool):List α->Nat->Int
 |[],_=>-1
 |x :: l,i=>if p x=true then (i:Int) else uZ p l (i+1)
def iC{α:Type}(p:α->Bool)(l:List α):Int:=uZ p l 0
theorem Ke{p:α->Bool}{l:List α}{v:α}(hv:l[i]?=some v):uZ p (l.drop i) i=if p v=true then (i:Int) else uZ p (l.drop (i+1)) (i+1):=by
 have h1:=(kT.1 hv).1;rw [drop_eq_getElem_cons h1];rw [ez h1] at hv;cases hv;rfl
theorem GF{α:Type}(p:α->Bool):∀ (l:List α) (i:Nat),decide (0<=uZ p l i)=l.any p
 |[],i=>rfl
 |x :: l,i=>by
  rw [uZ,any_cons]
  cases hp:p x with
  |true=>simp
  |false=>simpa using GF p l (i+1)
theorem Me(p:α->Bool)(l:List α):decide (0<=iC p l)=l.any p:=GF p l 0
theorem qT{x:AV}{l:List Rel}(hv:View aW 3 x l)(hl:l.length<=cE){a b:List AV}{p:Rel->Bool}
  (hp:∀ (v:Rel) (h':Heap),bu h h'->∀ (K:Out->Heap->Bool),(∀ IG,bu h' IG->K (.ret (.bool (p v))) IG=true)->Sem TP g (a++([.agg (aW v)]++b)) h' K)
  (hK:∀ h',bu h h'->K (.ret (.int .i64 (iC p l))) h'=true):Sem TP 76 [x,.func g a b] h K:=by
 refine F.jY ?_;rw [F.ku];simp only [hv.len,an];refine aD 0 l.length (zero_le _) (fun i e h'=>bu h h'/\e 0=x/\e 1 = .func g a b/\e 7 = .int .i64 (l.length:Int)/\e 8 = .int .i64 (i:Int)/\iC p l=uZ p (l.drop i) i) ⟨bu.refl _,rfl,rfl,rfl,rfl,rfl⟩ ?_ ?_
 ·rintro i e h' _ hi ⟨hx,e0,e1,e7,e8,ht⟩ K' hn gi hr zP;have UY:l[i]?=some l[i]:=ez hi;generalize l[i]=v at UY;obtain ⟨cs,o,v1,v2,_⟩:=hv.at_ i v UY;rw [Ke UY] at ht;rw [F.bw.aT];simp only [e0,e1,e7,e8,aR,reduceAdd,reduceEqDiff,reduceIte,aZ hi,v1,v2,fL];refine ai (hp v h' hx _ fun IG fo=>?_);simp only [aR,reduceAdd,reduceEqDiff,reduceIte]
  cases hq:p v with
  |true=>
   simp only [aL];rw [hr,F.bw.bz];simp only [bL,reduceEqDiff,reduceIte];rw [if_pos hq] at ht;rw [ht] at hK;exact hK _ (hx.trans fo)
  |false=>
   simp only [aK,aI hi hl,an];rw [if_neg (by rw [hq];decide)] at ht;exact hn _ _ ⟨hx.trans fo,e0,e1,e7,rfl,ht⟩
 ·rintro e h' ⟨hx,e0,e1,e7,e8,ht⟩ K' gi;rw [F.bw.aT];simp only [e0,e1,e7,e8,aR,reduceAdd,reduceEqDiff,reduceIte,aS];rw [gi,F.bw.aF];rw [drop_of_length_le (dK _)] at ht;rw [ht] at hK;exact hK _ hx
theorem Av{x:AV}{l:List Rel}(hv:View aW 3 x l)(hl:l.length<=cE){a b:List AV}{p:Rel->Bool}
  (hp:∀ (v:Rel) (h':Heap),bu h h'->∀ (K:Out->Heap->Bool),(∀ IG,bu h' IG->K (.ret (.bool (p v))) IG=true)->Sem TP g (a++([.agg (aW v)]++b)) h' K)
  (hK:∀ h',bu h h'->K (.ret (.bool (l.any p))) h'=true):Sem TP 110 [x,.func g a b] h K:=by
 refine F.jA ?_;rw [F.jL];refine ai (qT hv hl hp fun h' hx=>?_);simp only [aR,reduceAdd,reduceEqDiff,reduceIte];rw [Me];exact hK _ hx
theorem NI{s:di}{r:Rel}(hr:s.aC.l[i]?=some r):ag (some 3) (.ef (s.aC.l.flatMap aW) (i*3)) h=some (.agg (aW r)):=dO eC hr
theorem UZ{r v:Rel}(hb:h.get b=some (.cells (aW r)))(Li:b<h.next)(h':Heap)(hx:bu h h')(K:Out->Heap->Bool)(hK:∀ IG,bu h' IG->K (.ret (.bool (v.name==r.name))) IG=true) :
  Sem TP 111 ([]++([.agg (aW v)]++[.ptr b 0])) h' K:=by
 refine F.ze ?_;rw [F.Ah];have fq:h'.get b=some (.cells (aW r)):=by rw [hx.get b Li];exact hb
 have fo:bu h' (Heap.alloc h' (.cells (aW v))):=bu.alloc _ _;have g0:(Heap.alloc h' (.cells (aW v))).get h'.next=some (.cells (aW v)):=aA _ _
 have g1:(Heap.alloc h' (.cells (aW v))).get b=some (.cells (aW r)):=by rw [fo.get b (Nat.lt_of_lt_of_le Li hx.next)];exact fq
 simp only [dg (fY v),an];generalize (Heap.alloc h' (.cells (aW v)))=H at g0 g1 fo ⊢;simp only [aR,reduceAdd,reduceEqDiff,reduceIte,aj g0,aj g1];rw [show (aW v)[0]?=some (.str v.name) from rfl,show (aW r)[0]?=some (.str r.name) from rfl];simp only [aR,reduceAdd,reduceEqDiff,reduceIte];exact hK _ fo
theorem dQ{s:di}(hs:s.ok){h:Heap}{K:Out->Heap->Bool}(hK:K (.ret (.bool (cY s))) h=true):Sem TP 64 [.agg (aq s)] h K:=by
 refine Sem.data (r:=.bool (cY s)) ?_ (by simp [AV.cN,AV.pure,eG]) hK;clear hK;refine F.BM ?_;rw [F.DD];have b0:(Heap.alloc Heap.empty (.cells (aq s))).get 0=some (.cells (aq s)):=aA _ _;have bn:1<=(Heap.alloc Heap.empty (.cells (aq s))).next:=dK _
 simp only [dg (cA s),an,bJ];generalize (Heap.alloc Heap.empty (.cells (aq s)))=H at b0 bn ⊢;have fin:∀ (b:Bool) (H:Heap),b=cY s->qN (.bool (cY s)) (.ret (.bool b)) H=true:=fun b H hb=>by rw [hb];exact gd rfl
 generalize qN (.bool (cY s))=K at fin ⊢;simp only [aR,reduceAdd,reduceEqDiff,reduceIte,aj b0,aq];by_cases s1:s.size<1
 ·simp only [fh s1,aL];exact fin _ _ (by rw [cY,eT (by omega:¬ 1<=s.size),Bool.false_and])
 simp only [eT s1,aK];by_cases s2:64<s.size
 ·simp only [fh s2,aL];exact fin _ _ (by rw [cY,eT (by omega:¬ s.size<=64),Bool.false_and,Bool.and_false])
 simp only [eT s2,aK];by_cases s3:8<s.aC.l.length
 ·simp only [fh (by omega:(8:Int)<(s.aC.l.length:Int)),aL];exact fin _ _ (by rw [cY,eT (by omega:¬ s.aC.l.length<=8),Bool.false_and,Bool.and_false,Bool.and_false])
 simp only [eT (by omega:¬ (8:Int)<(s.aC.l.length:Int)),aK]
 replace fin:∀ (b:Bool) (H:Heap),b=FF (pQ s) s.aC.l.length->K (.ret (.bool b)) H=true:=fun b H hb=>fin b H (by
  rw [cY,fh (by omega:1<=s.size),fh (by omega:s.size<=64),fh (by omega:s.aC.l.length<=8)];exact hb)
 obtain ⟨n,hn⟩:∃ n:Nat,s.size=(n:Int):=⟨s.size.toNat,by omega⟩
 have yF:s.size.toNat=n:=by omega
 refine aD 0 s.aC.l.length (zero_le _) (fun i e h'=>h'.get 0=some (.cells (aq s))/\1<=h'.next/\e 1 = .ptr 0 0/\e 20=ak aW 3 s.aC/\e 21 = .int .i64 (s.aC.l.length:Int)/\e 22 = .int .i64 (i:Int)/\∀ j,j<i->pQ s j=true) ⟨b0,bn,rfl,rfl,rfl,rfl,fun j hj=>by omega⟩ ?_ ?_
 ·rintro i e h' _ hi ⟨q0,qn,e1,Ia,Bh,B2,ht⟩ K' oK gi Kc hp;have hv:s.aC.l[i]?=some s.aC.l[i]:=ez hi;generalize s.aC.l[i]=r at hv;have U0:r.ok:=hs.2 r (iz hv);have B6:pQ s i=(nT n r&&!((s.aC.l.take i).any fun q=>q.name==r.name)):=by rw [pQ,hv,yF]
  have bad:∀ (e:Env) (h:Heap),pQ s i=false->e 2 = .bool false->F.dQ.cR K .ret ⟨e,63,[],h⟩=true:=fun e h hb he=>by
   rw [F.dQ.bz,he];exact fin _ _ (jr hi hb).symm
  obtain ⟨H,iJ,g1,go,gn⟩:=cx (h:=h') (zs:=[.str [],.int .i64 0,.ax]) (cs:=aW r) (n:=3) rfl rfl (fY r);have p0:H.get 0=some (.cells (aq s)):=by rw [go _ (by omega)];exact q0
  rw [F.dQ.aT];simp only [e1,Ia,Bh,B2,aR,reduceAdd,reduceEqDiff,reduceIte,aZ hi,aV s.aC hi,NI hv,iJ,aj g1,cV (eC r)];rw [show (aW r)[0]?=some (.str r.name) from rfl];simp only [aR,reduceAdd,reduceEqDiff,reduceIte];refine ai (ei ?_);simp only [aR,reduceAdd,reduceEqDiff,reduceIte]
  cases w1:ey r.name with
  |false=>
   simp only [Bool.not_false,aL];rw [Kc];exact bad _ _ (by rw [B6,nT,w1];simp) rfl
  |true=>
  simp only [Bool.not_true,aK,aR,reduceAdd,reduceEqDiff,reduceIte,aj g1];rw [show (aW r)[1]?=some (.int .i64 r.arity) from rfl];simp only [aR,reduceAdd,reduceEqDiff,reduceIte];by_cases w2:r.arity<0
  ·simp only [fh w2,aL];rw [Kc];exact bad _ _ (by rw [B6,nT,eT (by omega:¬ 0<=r.arity)];simp) rfl
  simp only [eT w2,aK];by_cases w3:12<r.arity
  ·simp only [fh w3,aL];rw [Kc];exact bad _ _ (by rw [B6,nT,eT (by omega:¬ r.arity<=12)];simp) rfl
  simp only [eT w3,aK,aj p0,aR,reduceAdd,reduceEqDiff,reduceIte,e1];rw [show (aq s)[0]?=some (.int .i64 s.size) from rfl];obtain ⟨k,hk⟩:∃ k:Nat,r.arity=(k:Int):=⟨r.arity.toNat,by omega⟩
  simp only [aR,reduceAdd,reduceEqDiff,reduceIte,hn,hk];refine ai (eu (by omega) (by omega) (show k<=cE by unfold cE;omega) ?_);simp only [aR,reduceAdd,reduceEqDiff,reduceIte]
  have U1:pQ s i=(decide (n ^ k<=4096)&&zn n k r.aM.l&&!((s.aC.l.take i).any fun q=>q.name==r.name)):=by
   rw [B6,nT,w1,fh (by omega:0<=r.arity),fh (by omega:r.arity<=12),hk];simp
  by_cases w4:n ^ k<=4096
  ·simp only [Mc,if_pos w4,eT (by omega:¬ ((n ^ k:Nat):Int)<0),aK,aR,reduceAdd,reduceEqDiff,reduceIte,aj p0,aj g1,cV (eC r),e1];rw [show (aq s)[0]?=some (.int .i64 s.size) from rfl];simp only [aR,reduceAdd,reduceEqDiff,reduceIte,hn];refine ai (dr U0 hk ?_);simp only [aR,reduceAdd,reduceEqDiff,reduceIte]
   cases w5:zn n k r.aM.l with
   |false=>
    simp only [Bool.not_false,aL];rw [Kc];exact bad _ _ (by rw [U1,w5];simp) rfl
   |true=>
   simp only [Bool.not_true,aK,aR,reduceAdd,reduceEqDiff,reduceIte,aj p0,e1];rw [show (aq s)[1]?=some (ak aW 3 s.aC) from rfl];obtain ⟨a,ha,U2⟩:=OZ eC s.aC (Nat.le_of_lt hi);simp only [aR,reduceAdd,reduceEqDiff,reduceIte,ha];have hlt:(s.aC.l.take i).length<=cE:=by rw [length_take];have:=hs.1;omega
   refine ai (Av (p:=fun q=>q.name==r.name) U2 hlt (fun v h2 fo K2 SJ=>UZ g1 (by omega) h2 fo K2 SJ) fun h2 fo=>?_);simp only [aR,reduceAdd,reduceEqDiff,reduceIte]
   cases w6:(s.aC.l.take i).any fun q=>q.name==r.name with
   |true=>
    simp only [aL];rw [Kc];exact bad _ _ (by rw [U1,w6];simp) rfl
   |false=>
    simp only [aK,aI hi hs.1,an,B2];refine oK _ _ ⟨by rw [fo.get 0 (by omega)];exact p0,by have:=fo.next;omega,e1,Ia,Bh,rfl,fun j hj=>?_⟩;by_cases Hw:j<i
    ·exact ht j Hw
    ·obtain rfl:j=i:=by omega
     rw [U1,w5,w6,fh w4];rfl
  ·simp only [Mc,if_neg w4,fh (by omega:(-1:Int)<0),aL];rw [Kc];exact bad _ _ (by rw [U1,eT w4];simp) rfl
 ·rintro e h' ⟨q0,qn,e1,Ia,Bh,B2,ht⟩ K' gi;rw [F.dQ.aT];simp only [Bh,B2,aR,reduceAdd,reduceEqDiff,reduceIte,aS];rw [gi,F.dQ.aF];exact fin _ _ (oT ht).symm
theorem RH{p:α->Bool}{l:List α}{k:Nat}{a:α}(ha:l[i]?=some a)(hi:i<k)(hp:p a=true):(l.take k).any p=true:=by
 rw [List.any_eq_true];exact ⟨a,iz (by rw [getElem?_take_of_lt hi];exact ha),hp⟩
theorem rK{s:di}{r:Rel}(hr:s.aC.l[i]?=some r):ag none (.ef (s.aC.l.flatMap aW) (i*3)) h=some (.str r.name):=by
 have:=fy (h:=h) eC hr (k:=0) (by omega);rw [Nat.add_zero] at this;rw [this];rfl
theorem ct{s:di}(hs:s.ok){h:Heap}{K:Out->Heap->Bool}(hK:K (.ret (.bool (cY s))) h=true):Sem TP 66 [.agg (aq s)] h K:=by
 refine Sem.data (r:=.bool (cY s)) ?_ (by simp [AV.cN,AV.pure,eG]) hK;clear hK;refine F.BL ?_;rw [F.Dz];have b0:(Heap.alloc Heap.empty (.cells (aq s))).get 0=some (.cells (aq s)):=aA _ _;simp only [dg (cA s),an,bJ];generalize (Heap.alloc Heap.empty (.cells (aq s)))=H at b0 ⊢;have fin:∀ (b:Bool),b=cY s->qN (.bool (cY s)) (.ret (.bool b)) H=true:=fun b hb=>by rw [hb];exact gd rfl
 generalize qN (.bool (cY s))=K at fin ⊢;have ls:ag none (.ptr 0 0) H=some (.int .i64 s.size):=by rw [aj b0];rfl
 have lr:ag none (.ptr 0 (0+1)) H=some (ak aW 3 s.aC):=by rw [aj b0];rfl
 rw [Nat.zero_add] at lr;simp only [aR,reduceAdd,reduceEqDiff,reduceIte,ls,lr];by_cases s1:s.size<1
 ·simp only [fh s1,aL];exact fin _ (by rw [cY,eT (by omega:¬ 1<=s.size),Bool.false_and])
 simp only [eT s1,aK];by_cases s2:64<s.size
 ·simp only [fh s2,aL];exact fin _ (by rw [cY,eT (by omega:¬ s.size<=64),Bool.false_and,Bool.and_false])
 simp only [eT s2,aK];by_cases s3:8<s.aC.l.length
 ·simp only [fh (by omega:(8:Int)<(s.aC.l.length:Int)),aL];exact fin _ (by rw [cY,eT (by omega:¬ s.aC.l.length<=8),Bool.false_and,Bool.and_false,Bool.and_false])
 simp only [eT (by omega:¬ (8:Int)<(s.aC.l.length:Int)),aK]
 replace fin:∀ (b:Bool),b=FF (pQ s) s.aC.l.length->K (.ret (.bool b)) H=true:=fun b hb=>fin b (by
  rw [cY,fh (by omega:1<=s.size),fh (by omega:s.size<=64),fh (by omega:s.aC.l.length<=8)];exact hb)
 obtain ⟨n,hn⟩:∃ n:Nat,s.size=(n:Int):=⟨s.size.toNat,by omega⟩
 have yF:s.size.toNat=n:=by omega
 rw [hn] at ls;refine aD 0 s.aC.l.length (zero_le _) (fun i e h'=>h'=H/\e 1 = .ptr 0 0/\e 3 = .int .i64 (i:Int)/\∀ j,j<i->pQ s j=true) ⟨rfl,rfl,rfl,fun j hj=>by omega⟩ ?_ ?_
 ·rintro i e h' _ hi ⟨rfl,e1,e3,ht⟩ K' oK gi Kc hp;have hv:s.aC.l[i]?=some s.aC.l[i]:=ez hi;generalize s.aC.l[i]=r at hv;have U0:r.ok:=hs.2 r (iz hv);have B6:pQ s i=(nT n r&&!((s.aC.l.take i).any fun q=>q.name==r.name)):=by rw [pQ,hv,yF]
  have bad:∀ (e:Env),pQ s i=false->e 2 = .bool false->F.ct.cR K .ret ⟨e,53,[],h'⟩=true:=fun e hb he=>by
   rw [F.ct.bz,he];exact fin _ (jr hi hb).symm
  rw [F.ct.aT];simp only [e1,e3,aR,reduceAdd,reduceEqDiff,reduceIte,ls,lr,aZ hi,aV s.aC hi,NI hv];refine ai (fS (by omega) (by omega) U0 ?_);simp only [aR,reduceAdd,reduceEqDiff,reduceIte]
  cases w1:nT n r with
  |false=>
   simp only [Bool.not_false,aL];rw [Kc];exact bad _ (by rw [B6,w1,Bool.false_and]) rfl
  |true=>
  simp only [Bool.not_true,aK];refine aD 0 i (zero_le _) (fun k e h2=>h2=h'/\e 1 = .ptr 0 0/\e 3 = .int .i64 (i:Int)/\e 4 = .int .i64 (k:Int)/\((s.aC.l.take k).any fun q=>q.name==r.name)=false) ⟨rfl,e1,e3,rfl,rfl⟩ ?_ ?_
  ·rintro k e h2 _ hk ⟨rfl,e1,e3,e4,Xa⟩ K2 qj fo qL DY;have hki:k<s.aC.l.length:=by omega
   have YV:s.aC.l[k]?=some s.aC.l[k]:=ez hki;generalize s.aC.l[k]=q at YV;rw [F.ct.dm];simp only [e1,e3,e4,aR,reduceAdd,reduceEqDiff,reduceIte,lr,aZ hk,aV s.aC hi,aV s.aC hki,rK hv,rK YV]
   cases w2:q.name==r.name with
   |true=>
    simp only [aL];rw [qL,F.ct.jP,Kc];exact bad _ (by rw [B6,RH YV hk w2];simp) rfl
   |false=>
    simp only [aK,aI hk (by have:=hs.1;omega),an];exact qj _ _ ⟨rfl,e1,e3,rfl,uI YV Xa w2⟩
  ·rintro e h2 ⟨rfl,e1,e3,e4,Xa⟩ K2 fo;rw [F.ct.dm];simp only [e3,e4,aR,reduceAdd,reduceEqDiff,reduceIte,aS];rw [fo,F.ct.cq];simp only [aR,reduceAdd,reduceEqDiff,reduceIte,e3,aI hi hs.1];refine oK _ _ ⟨rfl,e1,rfl,fun j hj=>?_⟩;by_cases Hw:j<i
   ·exact ht j Hw
   ·obtain rfl:j=i:=by omega
    rw [B6,w1,Xa];rfl
 ·rintro e h' ⟨rfl,e1,e3,ht⟩ K' gi;rw [F.ct.aT];simp only [e1,e3,aR,reduceAdd,reduceEqDiff,reduceIte,lr,aS];rw [gi,F.ct.aF];exact fin _ (oT ht).symm
def gY(nm:b8)(k:Int)(q:Rel):Bool:=(q.name==nm)&&decide (q.arity=k)
def dD(nm:b8)(q:Rel):Bool:=q.name==nm
theorem fe{s:di}(hs:s.ok){nm:b8}{h:Heap}{K:Out->Heap->Bool}(hK:K (.ret (.int .i64 (iC (dD nm) s.aC.l))) h=true):Sem TP 69 [.agg (aq s),.str nm] h K:=by
 refine Sem.data (r:=.int .i64 (iC (dD nm) s.aC.l)) ?_ (by simp [AV.cN,AV.pure,eG]) hK;clear hK;refine F.DC ?_;rw [F.Fs];have b0:(Heap.alloc Heap.empty (.cells (aq s))).get 0=some (.cells (aq s)):=aA _ _;simp only [dg (cA s),an,bJ];generalize (Heap.alloc Heap.empty (.cells (aq s)))=H at b0 ⊢;have fin:∀ b:Int,b=iC (dD nm) s.aC.l->qN (.int .i64 (iC (dD nm) s.aC.l)) (.ret (.int .i64 b)) H=true:=fun b hb=>by rw [hb];exact gd rfl
 have lr:ag none (.ptr 0 1) H=some (ak aW 3 s.aC):=by rw [aj b0];rfl
 refine aD 0 s.aC.l.length (zero_le _) (fun i e h'=>h'=H/\e 1 = .str nm/\e 2 = .ptr 0 0/\e 5 = .int .i64 (i:Int)/\iC (dD nm) s.aC.l=uZ (dD nm) (s.aC.l.drop i) i) ⟨rfl,rfl,rfl,rfl,rfl⟩ ?_ ?_
 ·rintro i e h' _ hi ⟨rfl,e1,e2,e5,ht⟩ K' hn gi hr hp;have hv:s.aC.l[i]?=some s.aC.l[i]:=ez hi;generalize s.aC.l[i]=r at hv;rw [Ke hv] at ht;rw [F.fe.aT];simp only [e1,e2,e5,aR,reduceAdd,reduceEqDiff,reduceIte,lr,aZ hi,aV s.aC hi,rK hv]
  cases hq:r.name==nm with
  |true=>
   simp only [aL];rw [hr,F.fe.bz];rw [if_pos (show dD nm r=true from hq)] at ht;simp only [bL,reduceEqDiff,reduceIte,e5];exact fin _ ht.symm
  |false=>
   simp only [aK,aI hi hs.1,an];rw [if_neg (by rw [dD,hq];decide)] at ht;exact hn _ _ ⟨rfl,e1,e2,rfl,ht⟩
 ·rintro e h' ⟨rfl,e1,e2,e5,ht⟩ K' gi;rw [F.fe.aT];simp only [e1,e2,e5,aR,reduceAdd,reduceEqDiff,reduceIte,lr,aS];rw [gi,F.fe.aF];rw [drop_of_length_le (dK _)] at ht;exact fin _ ht.symm
theorem XU{b1 b2:Nat}{v:Rel}{k:Int}(g1:h.get b1=some (.cells [.str nm]))(g2:h.get b2=some (.cells [.int .i64 k]))(n1:b1<h.next)(n2:b2<h.next)(h':Heap)(hx:bu h h')(K:Out->Heap->Bool)(hK:∀ IG,bu h' IG->K (.ret (.bool (gY nm k v))) IG=true) :
  Sem TP 94 ([]++([.agg (aW v)]++[.ptr b1 0,.ptr b2 0])) h' K:=by
 refine F.Ai ?_;rw [F.BQ];have fo:bu h' (Heap.alloc h' (.cells (aW v))):=bu.alloc _ _;have g0:(Heap.alloc h' (.cells (aW v))).get h'.next=some (.cells (aW v)):=aA _ _
 have q1:(Heap.alloc h' (.cells (aW v))).get b1=some (.cells [.str nm]):=by rw [fo.get b1 (Nat.lt_of_lt_of_le n1 hx.next),hx.get b1 n1];exact g1
 have q2:(Heap.alloc h' (.cells (aW v))).get b2=some (.cells [.int .i64 k]):=by rw [fo.get b2 (Nat.lt_of_lt_of_le n2 hx.next),hx.get b2 n2];exact g2
 simp only [dg (fY v),an];generalize (Heap.alloc h' (.cells (aW v)))=H at g0 q1 q2 fo ⊢;simp only [aR,reduceAdd,reduceEqDiff,reduceIte,aj g0,aj q1,aj q2];rw [show (aW v)[0]?=some (.str v.name) from rfl,show (aW v)[1]?=some (.int .i64 v.arity) from rfl];simp only [aR,reduceAdd,reduceEqDiff,reduceIte,cI];have:=hK _ fo;unfold gY at this
 cases hq:v.name==nm with
 |true=>simp only [aL];rw [hq,Bool.true_and] at this;exact this
 |false=>simp only [aK];rw [hq,Bool.false_and] at this;exact this
theorem sK{s:di}(hs:s.ok){k:Int}(hK:K (.ret (.int .i64 (iC (gY nm k) s.aC.l))) h=true):Sem TP 53 [.agg (aq s),.str nm,.int .i64 k] h K:=by
 refine Sem.data (r:=.int .i64 (iC (gY nm k) s.aC.l)) ?_ (by simp [AV.cN,AV.pure,eG]) hK;clear hK;refine F.DE ?_;rw [F.Fu];simp only [dg (cA s),mE (x:=.int .i64 _) rfl,mE (x:=.str _) rfl,an,bJ,Heap.aJ];have g0:(Heap.alloc (Heap.alloc (Heap.alloc Heap.empty (.cells (aq s))) (.cells [.str nm])) (.cells [.int .i64 k])).get 0=some (.cells (aq s)):=by simp [Heap.aQ,bJ]
 have g1:(Heap.alloc (Heap.alloc (Heap.alloc Heap.empty (.cells (aq s))) (.cells [.str nm])) (.cells [.int .i64 k])).get 1=some (.cells [.str nm]):=by simp [Heap.aQ,bJ]
 have g2:(Heap.alloc (Heap.alloc (Heap.alloc Heap.empty (.cells (aq s))) (.cells [.str nm])) (.cells [.int .i64 k])).get 2=some (.cells [.int .i64 k]):=by simp [Heap.aQ,bJ]
 have gn:(Heap.alloc (Heap.alloc (Heap.alloc Heap.empty (.cells (aq s))) (.cells [.str nm])) (.cells [.int .i64 k])).next=3:=rfl
 generalize (Heap.alloc (Heap.alloc (Heap.alloc Heap.empty (.cells (aq s))) (.cells [.str nm])) (.cells [.int .i64 k]))=H at g0 g1 g2 gn ⊢;have lr:ag none (.ptr 0 1) H=some (ak aW 3 s.aC):=by rw [aj g0];rfl
 simp only [aR,reduceAdd,reduceEqDiff,reduceIte,lr];refine ai (qT (Kb eC s.aC) hs.1 (p:=gY nm k) (fun v h2 fo K2 SJ=>XU g1 g2 (by omega) (by omega) h2 fo K2 SJ) fun h2 fo=>?_);simp only [aR,reduceAdd,reduceEqDiff,reduceIte];exact gd rfl
theorem pX{s:di}{r:Rel}(hr:s.aC.l[i]?=some r):ag none (.ef (s.aC.l.flatMap aW) (i*3+2)) h=some (ak cU 1 r.aM):=by
 rw [fy eC hr (by omega)];rfl
theorem cj{s:di}(hs:s.ok){b:Nat}{h:Heap}(hb:h.get b=some (.cells (aq s))){K:Out->Heap->Bool}(hK:∀ x,K (.ret (.bool x)) h=true):Sem TP 42 [.slice b 0 1 2] h K:=by
 refine F.Fp ?_;rw [F.HO];have lr:ag none (.ptr b 1) h=some (ak aW 3 s.aC):=by rw [aj hb];rfl
 have ia:dN 2 (.slice b 0 1 2) (.int .i64 ((0:Nat):Int))=some (.ptr b 0):=rfl;have hl:∀ h:Heap,bX .slice (.slice b 0 1 2) h=some (.int .i64 ((1:Nat):Int)):=fun _=>rfl
 have num:∀ e:Env,(∃ x:Int,e 4 = .int .i64 x)->F.cj.cR K (.exit 0) ⟨e,89,[],h⟩=true:=fun e ⟨x,hx⟩=>by
  rw [F.cj.aF];simp only [hx,aR,reduceAdd,reduceEqDiff,reduceIte];exact hK _
 refine aD 0 1 (zero_le _) (fun i e h'=>h'=h/\e 0 = .slice b 0 1 2/\(∃ x:Int,e 3 = .int .i64 x)/\(∃ x:Int,e 4 = .int .i64 x)/\e 5 = .int .i64 (i:Int)) ⟨rfl,rfl,⟨0,rfl⟩,⟨0,rfl⟩,rfl⟩ ?_ ?_
 ·rintro i e h' _ hi ⟨rfl,e0,e3,e4,e5⟩ K' hn hx hr hp;obtain rfl:i=0:=by omega
  rw [F.cj.aT];simp only [e0,e5,hl,ia,lr,aR,reduceAdd,reduceEqDiff,reduceIte,aZ hi];by_cases q1:12<s.aC.l.length
  ·simp only [fh (by omega:(12:Int)<(s.aC.l.length:Int)),aL];rw [hr,F.cj.bz];simp only [bL,reduceEqDiff,reduceIte];exact hK _
  simp only [eT (by omega:¬ (12:Int)<(s.aC.l.length:Int)),aK];refine aD 0 s.aC.l.length (zero_le _) (fun k e h2=>h2=h'/\e 0 = .slice b 0 1 2/\(∃ x:Int,e 3 = .int .i64 x)/\(∃ x:Int,e 4 = .int .i64 x)/\e 5 = .int .i64 ((0:Nat):Int)/\e 6 = .int .i64 (k:Int)) ⟨rfl,e0,e3,e4,e5,rfl⟩ ?_ ?_
  ·rintro k e h2 _ hk ⟨rfl,e0,⟨x3,e3⟩,e4,e5,e6⟩ K2 qj fo qL DY;have hv:s.aC.l[k]?=some s.aC.l[k]:=ez hk;generalize s.aC.l[k]=r at hv;have U0:r.ok:=hs.2 r (iz hv);obtain ⟨y,hy⟩:=QX x3 (r.aM.l.length:Int)
   have ret:∀ e:Env,e 2 = .bool false->F.cj.jF K' .ret ⟨e,89,[],h2⟩=true:=fun e he=>by
    rw [F.cj.jP,hr,F.cj.bz,he];exact hK _
   rw [F.cj.dm];simp only [e0,e3,e5,e6,ia,lr,aR,reduceAdd,reduceEqDiff,reduceIte,aZ hk,aV s.aC hk,pX hv,rK hv,hy]
   cases decide ((1500:Int)<y) with
   |true=>
    simp only [aL];rw [qL];exact ret _ rfl
   |false=>
   simp only [aK]
   cases decide ((1000:Int)<(r.name.length:Int)) with
   |true=>
    simp only [aL];rw [qL];exact ret _ rfl
   |false=>
   simp only [aK];refine aD 0 r.aM.l.length (zero_le _) (fun j e h3=>h3=h2/\e 0 = .slice b 0 1 2/\(∃ x:Int,e 3 = .int .i64 x)/\(∃ x:Int,e 4 = .int .i64 x)/\e 5 = .int .i64 ((0:Nat):Int)/\e 6 = .int .i64 (k:Int)/\e 7 = .int .i64 (j:Int)) ⟨rfl,e0,⟨y,rfl⟩,e4,e5,e6,rfl⟩ ?_ ?_
   ·rintro j e h3 _ hj ⟨rfl,e0,e3,⟨x4,e4⟩,e5,e6,e7⟩ K3 PR B5 V3 hp3;have ht:r.aM.l[j]?=some r.aM.l[j]:=ez hj;generalize r.aM.l[j]=t at ht;obtain ⟨z,hz⟩:=QX x4 (t.l.length:Int);rw [F.cj.jf];simp only [e0,e4,e5,e6,e7,ia,lr,aR,reduceAdd,reduceEqDiff,reduceIte,aV s.aC hk,pX hv,aZ hj,aV r.aM hj,gK ht,hz,aI hj U0.2.1];exact PR _ _ ⟨rfl,e0,e3,⟨z,rfl⟩,e5,e6,rfl⟩
   ·rintro e h3 ⟨rfl,e0,e3,e4,e5,e6,e7⟩ K3 B5;rw [F.cj.jf];simp only [e0,e5,e6,e7,ia,lr,aR,reduceAdd,reduceEqDiff,reduceIte,aV s.aC hk,pX hv,aS];rw [B5,F.cj.fX];simp only [aR,reduceAdd,reduceEqDiff,reduceIte,e6,aI hk hs.1];exact qj _ _ ⟨rfl,e0,e3,e4,e5,rfl⟩
  ·rintro e h2 ⟨rfl,e0,e3,e4,e5,e6⟩ K2 fo;rw [F.cj.dm];simp only [e0,e5,e6,ia,lr,aR,reduceAdd,reduceEqDiff,reduceIte,aS];rw [fo,F.cj.cq];simp only [aR,reduceAdd,reduceEqDiff,reduceIte,e5,aI hi (show (1:Nat)<=cE by unfold cE;omega)];exact hn _ _ ⟨rfl,e0,e3,e4,rfl⟩
 ·rintro e h' ⟨rfl,e0,e3,e4,e5⟩ K' hx;rw [F.cj.aT];simp only [e0,e5,hl,aR,reduceAdd,reduceEqDiff,reduceIte,aS];rw [hx];exact num _ e4
theorem Own.lM{enc:α->List AV}{k:Nat}{l:List α}(o:Own enc sz k h a l):bx (AV.dI a)=true/\(AV.dI a).length=1/\AV.dI a = [a]:=by cases o<;>exact ⟨rfl,rfl,rfl⟩
def B7(s:di)(y:b8×Int):Bool:=match s.aC.l.find? (dD y.1) with
 |some r=>decide (r.arity=y.2)
 |none=>false
theorem Em{α:Type}(p:α->Bool):∀ (l:List α) (i:Nat),(uZ p l i = -1/\l.find? p=none)\/∃ (j:Nat) (v:α),uZ p l i=((i+j:Nat):Int)/\l[j]?=some v/\l.find? p=some v
 |[],i=>.inl ⟨rfl,rfl⟩
 |x :: l,i=>by
  rw [uZ,find?_cons]
  cases hp:p x with
  |true=>exact .inr ⟨0,x,by simp,rfl,rfl⟩
  |false=>
   simp only [false_eq_true,if_false];rcases Em p l (i+1) with ⟨h1,h2⟩|⟨j,v,h1,h2,h3⟩
   ·exact .inl ⟨h1,h2⟩
   ·exact .inr ⟨j+1,v,by rw [h1];congr 1;omega,by simpa using h2,h3⟩
theorem nL(p:α->Bool)(l:List α):(iC p l = -1/\l.find? p=none)\/∃ (j:Nat) (v:α),iC p l=(j:Int)/\l[j]?=some v/\l.find? p=some v:=by
 rcases Em p l 0 with h|⟨j,v,h1,h2,h3⟩
 ·exact .inl h
 ·exact .inr ⟨j,v,by rw [iC,h1,Nat.zero_add],h2,h3⟩
theorem vU{s:di}{r:Rel}(hr:s.aC.l[i]?=some r):ag none (.ef (s.aC.l.flatMap aW) (i*3+1)) h=some (.int .i64 r.arity):=by
 rw [fy eC hr (by omega)];rfl
theorem acE{y:b8×Int}(hy:x.l[i]?=some y):ag none (.ef (x.l.flatMap nR) (i*2)) h=some (.str y.1):=by
 have:=fy (h:=h) pM hy (k:=0) (by omega);rw [Nat.add_zero] at this;rw [this];rfl
theorem XV{y:b8×Int}(hy:x.l[i]?=some y):ag none (.ef (x.l.flatMap nR) (i*2+1)) h=some (.int .i64 y.2):=by
 rw [fy pM hy (by omega)];rfl
theorem O0(y:b8×Int):AV.cN (nR y)=true:=rfl
theorem fc{s:di}(hs:s.ok){x:Sl (b8×Int)}(hx:x.l.length<=cE){h:Heap}{K:Out->Heap->Bool}(hK:K (.ret (.bool (x.l.all (B7 s)))) h=true):Sem TP 67 [.agg (aq s),ak nR 2 x] h K:=by
 refine Sem.data (r:=.bool (x.l.all (B7 s))) ?_ (by simp [AV.cN,AV.pure,eG,b7 O0]) hK;clear hK;refine F.DA ?_;rw [F.Fq];have b0:(Heap.alloc Heap.empty (.cells (aq s))).get 0=some (.cells (aq s)):=aA _ _;simp only [dg (cA s),an,bJ];generalize (Heap.alloc Heap.empty (.cells (aq s)))=H at b0 ⊢;have fin:∀ b:Bool,b=x.l.all (B7 s)->qN (.bool (x.l.all (B7 s))) (.ret (.bool b)) H=true:=fun b hb=>by rw [hb];exact gd rfl
 have lr:ag none (.ptr 0 1) H=some (ak aW 3 s.aC):=by rw [aj b0];rfl
 have lw:ag (some 2) (.ptr 0 0) H=some (.agg (aq s)):=by rw [aj b0,cV (cs:=aq s) (n:=2) rfl]
 refine aD 0 x.l.length (zero_le _) (fun i e h'=>h'=H/\e 1=ak nR 2 x/\e 2 = .ptr 0 0/\e 5 = .int .i64 (i:Int)/\(x.l.take i).all (B7 s)=true) ⟨rfl,rfl,rfl,rfl,rfl⟩ ?_ ?_
 ·rintro i e h' _ hi ⟨rfl,e1,e2,e5,ht⟩ K' hn gi hr hp;have hv:x.l[i]?=some x.l[i]:=ez hi;generalize x.l[i]=y at hv;rw [F.fc.aT];simp only [e1,e2,e5,aR,reduceAdd,reduceEqDiff,reduceIte,lw,aZ hi,aV x hi,acE hv];refine ai (fe hs ?_);simp only [aR,reduceAdd,reduceEqDiff,reduceIte];rcases nL (dD y.1) s.aC.l with ⟨h1,h2⟩|⟨j,r,h1,h2,h3⟩
  ·rw [h1];simp only [show decide ((-1:Int)<0)=true from rfl,aL];rw [hr,F.fc.bz];simp only [bL,reduceEqDiff,reduceIte];exact fin _ (all_false hv (by rw [B7,h2])).symm
  ·rw [h1];have hj:j<s.aC.l.length:=(kT.1 h2).1;simp only [eT (by omega:¬ ((j:Int)<0)),aK,aR,reduceAdd,reduceEqDiff,reduceIte,e1,e2,e5,lr,aV s.aC hj,vU h2,aV x hi,XV hv,cI];by_cases hq:r.arity=y.2
   ·simp only [fh hq,Bool.not_true,aK,aI hi hx,an];exact hn _ _ ⟨rfl,e1,e2,rfl,jB hv ht (by rw [B7,h3];exact fh hq)⟩
   ·simp only [eT hq,Bool.not_false,aL];rw [hr,F.fc.bz];simp only [bL,reduceEqDiff,reduceIte];exact fin _ (all_false hv (by rw [B7,h3];exact eT hq)).symm
 ·rintro e h' ⟨rfl,e1,e2,e5,ht⟩ K' gi;rw [F.fc.aT];simp only [e1,e5,aR,reduceAdd,reduceEqDiff,reduceIte,aS];rw [gi,F.fc.aF];rw [jD (dK _)] at ht;exact fin _ ht.symm
theorem YY(s:St):dG TP s Tryz.f183.results.toList=(match ag (some 3) (s.env 8) s.h,(some []:Option (List AV)) with|some v,some vs=>some (v :: vs)|_,_=>none):=by kernel_rfl
structure Tab where
 name:b8
 k:Nat
 bits:List Bool
def RI(n:Nat)(r:Rel):Tab:=⟨r.name,r.arity.toNat,bitsOf n r.arity.toNat r.aM.l⟩
theorem rL{s:di}(hv:cY s=true){r:Rel}(hr:s.aC.l[i]?=some r):nT s.size.toNat r=true:=by
 simp only [cY,and_eq_true] at hv;have:=zw hv.2.2.2 (kT.1 hr).1;rw [pQ,hr] at this;simp only [and_eq_true] at this;exact this.1
theorem jI{s:di}(hv:cY s=true):∃ n:Nat,s.size=(n:Int)/\1<=n/\n<=64/\s.aC.l.length<=8:=by
 simp only [cY,and_eq_true,decide_eq_true_eq] at hv;exact ⟨s.size.toNat,by omega,by omega,by omega,hv.2.2.1⟩
theorem vV{r:Rel}(h:nT n r=true):∃ k:Nat,r.arity=(k:Int)/\k<=12/\n ^ k<=4096/\zn n k r.aM.l=true:=by
 simp only [nT,and_eq_true,decide_eq_true_eq] at h;exact ⟨r.arity.toNat,by omega,by omega,h.2.2.2.1,h.2.2.2.2⟩
theorem lP{s:di}(hv:cY s=true):(s.aC.l.map Rel.name).Nodup:=by
 simp only [cY,and_eq_true] at hv;unfold List.Nodup;rw [pairwise_iff_getElem];intro i j hi hj hij e;rw [length_map] at hi hj;have:=zw hv.2.2.2 hj;rw [pQ,ez hj] at this;simp only [and_eq_true,not_eq_true'] at this;rw [getElem_map,getElem_map] at e;have h2:=RH (p:=fun q:Rel=>q.name==s.aC.l[j].name) (ez hi) hij (by simpa using e);rw [h2] at this;cases this.2
theorem u0:∀ {l:List Rel},(l.map Rel.name).Nodup->∀ r ∈ l,l.find? (dD r.name)=some r
 |[],_,r,h=>by cases h
 |q :: l,hn,r,h=>by
  rw [map_cons,nodup_cons] at hn;rw [find?_cons];rcases mem_cons.1 h with rfl|h
  ·have:dD r.name r=true:=by simp [dD]
   rw [this]
  ·have:dD r.name q=false:=by
    simp only [dD,beq_eq_false_iff_ne];exact fun e=>hn.1 (e▸List.mem_map_of_mem h)
   rw [this];exact u0 hn.2 r h
theorem GG:∀ {l:List Rel},(l.map Rel.name).Nodup->∀ (nm:b8) (k:Int),l.find? (gY nm k)=match l.find? (dD nm) with
  |some r=>if r.arity=k then some r else none
  |none=>none
 |[],_,nm,k=>rfl
 |q :: l,hn,nm,k=>by
  rw [map_cons,nodup_cons] at hn;rw [find?_cons,find?_cons]
  cases hq:dD nm q with
  |true=>
   have nW:q.name==nm:=hq;simp only;by_cases ha:q.arity=k
   ·have:gY nm k q=true:=(by rw [gY,nW,fh ha];rfl);rw [this,if_pos ha]
   ·have:gY nm k q=false:=(by rw [gY,eT ha,Bool.and_false]);rw [this,if_neg ha];simp only;rw [find?_eq_none];intro r hr hs;simp only [gY,and_eq_true,beq_iff_eq] at hs nW;exact hn.1 (by rw [nW,<- hs.1];exact List.mem_map_of_mem hr)
  |false=>
   have nW:(q.name==nm)=false:=hq;have:gY nm k q=false:=by rw [gY,nW,Bool.false_and]
   rw [this];exact GG hn.2 nm k
theorem Kf{s:di}(hv:cY s=true)(y:b8×Int):B7 s y=(s.aC.l.find? (gY y.1 y.2)).isSome:=by
 rw [GG (lP hv),B7]
 cases s.aC.l.find? (dD y.1) with
 |none=>rfl
 |some r=>
  simp only;by_cases h:r.arity=y.2
  ·rw [if_pos h,fh h];rfl
  ·rw [if_neg h,eT h];rfl
theorem U3(l:List Int):bx (l.map iv)=true:=by
 induction l with
 |nil=>rfl
 |cons a l ih=>simp only [map_cons,bx,ih,Bool.and_true];rfl
theorem vW{src:AV}{l:List Int}(r:Row encI 1 (h.alloc (.cells [])) src l)(hl:l.length<=1000000) :
  ∃ b h',bY 1 8 (.slice h.next 0 0 1) src (h.alloc (.cells []))=some (.slice b 0 l.length 1,h')/\h'.get b=some (.cells (l.map iv))/\bu h h'/\h.next<=b/\b<h'.next:=by
 have hm:cG=140737488355328:=rfl;have g:(h.alloc (.cells [])).get h.next=some (.cells []):=aA _ _
 have rc:=r.cells;rw [<- sC] at rc;by_cases hz:l.length=0
 ·have:l = []:=eq_nil_of_length_eq_zero hz;subst this;refine ⟨h.next,h.alloc (.cells []),?_,g,bu.alloc _ _,dK _,lt_succ_self _⟩;simp only [length_nil] at rc;simp [bY,r.len,rc]
 ·refine ⟨h.next+1,((h.alloc (.cells [])).set h.next .dead).alloc (.cells (l.map iv)),?_,?_,?_,by omega,?_⟩
  ·simp only [bY,r.len,rc,if_true,if_neg hz,g];rw [if_pos (by simp [U3];omega)];simp [Heap.bp,Heap.aJ]
  ·have:=aA ((h.alloc (.cells [])).set h.next .dead) (.cells (l.map iv))
   rwa [Heap.bp,Heap.aJ] at this
  ·exact ((bu.alloc h (.cells [])).set (dK _) _).trans (bu.alloc _ _)
  ·rw [Heap.aJ,Heap.bp,Heap.aJ];omega
def En(n:Nat)(t:List Int):List (List Int):=(List.range n).map fun (x:Nat)=>t++[(x:Int)]
def stepT(n:Nat)(out:List (List Int)):List (List Int):=out.flatMap (En n)
def u6(n:Nat):Nat->List (List Int)
 |0=>[[]]
 |k+1=>stepT n (u6 n k)
theorem Aw(n:Nat)(l:List (List Int)):(stepT n l).length=l.length*n:=by
 induction l with
 |nil=>simp [stepT]
 |cons t l ih=>
  rw [stepT,flatMap_cons,length_append,<- stepT,ih,length_cons,succ_mul];simp [En];omega
theorem vX(n:Nat):∀ k,(u6 n k).length=n ^ k
 |0=>rfl
 |k+1=>by rw [u6,Aw,vX n k,Nat.pow_succ]
theorem Mf{out:List (List Int)}{j:Nat}(ht:out[j]?=some t):stepT n (out.take (j+1))=stepT n (out.take j)++En n t:=by
 rw [take_add_one,ht,stepT,flatMap_append];simp [stepT]
theorem u7(n:Nat)(t:List Int):(En n t).length=n:=by simp [En]
theorem O1{x:Nat}(hx:x<n):(En n t).take (x+1)=(En n t).take x++[t++[(x:Int)]]:=by
 rw [take_add_one];congr 1;simp [En,getElem?_range hx]
theorem Ax{n:Nat}:∀ {out:List (List Int)} {r x:Nat} {t:List Int},out[r]?=some t->x<n->(stepT n out)[r*n+x]?=some (t++[(x:Int)])
 |[],r,x,t,h,_=>by simp at h
 |u :: out,0,x,t,h,hx=>by
  simp at h;subst h;rw [stepT,flatMap_cons,Nat.zero_mul,Nat.zero_add,getElem?_append_left (by rw [u7];exact hx)];simp [En,getElem?_range hx]
 |u :: out,r+1,x,t,h,hx=>by
  rw [stepT,flatMap_cons,getElem?_append_right (by rw [u7,succ_mul];omega),u7];have:(r+1)*n+x-n=r*n+x:=by rw [succ_mul];omega
  rw [this];exact Ax (out:=out) (by simpa using h) hx
theorem U4{x:Nat}(ht:iY n t=true)(hx:x<n):iY n (t++[(x:Int)])=true:=by
 unfold iY at ht ⊢;rw [all_append,ht];simp;omega
theorem Ay{n:Nat}(hn:1<=n):∀ (k r:Nat),r<n ^ k->∃ t,(u6 n k)[r]?=some t/\t.length=k/\iY n t=true/\kS n t=r
 |0,r,h=>by
  obtain rfl:r=0:=by simp at h;omega
  exact ⟨[],rfl,rfl,rfl,rfl⟩
 |k+1,r,h=>by
  have hr:r/n<n ^ k:=Nat.div_lt_of_lt_mul (by rw [Nat.mul_comm,<- Nat.pow_succ];exact h);have hx:r%n<n:=mod_lt _ hn;obtain ⟨t,h1,h2,h3,h4⟩:=Ay hn k (r/n) hr;refine ⟨t++[((r%n:Nat):Int)],?_,by simp [h2],U4 h3 hx,?_⟩
  ·have:=Ax (n:=n) h1 hx;rw [u6]
   rwa [div_add_mod' r n] at this
  ·unfold kS at h4 ⊢;rw [uQ,h4];simp only [tN,Int.toNat_natCast];exact div_add_mod' r n
theorem Kg{n:Nat}:∀ (a b:List Int) (r s:Nat),a.length=b.length->iY n a=true->iY n b=true->tN n a r=tN n b s->a=b/\r=s
 |[],[],r,s,_,_,_,h=>⟨rfl,h⟩
 |x :: a,y :: b,r,s,hl,ha,hb,h=>by
  simp only [iY,all_cons,and_eq_true,not_eq_true',decide_eq_false_iff_not] at ha hb;obtain ⟨e1,e2⟩:=Kg a b _ _ (by simpa using hl) (by unfold iY;simpa using ha.2) (by unfold iY;simpa using hb.2) h;subst e1;have hn:0<n:=by omega
  have hx:x.toNat<n:=by omega
  have hy:y.toNat<n:=by omega
  have h1:r=s:=by
   have q1:(r*n+x.toNat)/n=r:=by rw [Nat.mul_comm,mul_add_div hn,div_eq_of_lt hx];rfl
   have q2:(s*n+y.toNat)/n=s:=by rw [Nat.mul_comm,mul_add_div hn,div_eq_of_lt hy];rfl
   rw [<- q1,<- q2,e2]
  subst h1;exact ⟨by congr 1;omega,rfl⟩
theorem NJ{a b:List Int}(hl:a.length=b.length)(ha:iY n a=true)(hb:iY n b=true)(h:kS n a=kS n b):a=b:=(Kg a b 0 0 hl ha hb h).1
theorem bR{n k:Nat}(hn:1<=n)(hk:k<=12)(hc:n ^ k<=4096){h:Heap}{K:Out->Heap->Bool}(hK:∀ x:Sl (Sl Int),x.l.map Sl.l=u6 n k->K (.ret (ak cU 1 x)) h=true):Sem TP 32 [.int .i64 (n:Int),.int .i64 (k:Int)] h K:=by
 have hm:cG=140737488355328:=rfl
 have main:Sem TP 32 [.int .i64 (n:Int),.int .i64 (k:Int)] Heap.empty (fun o h'=>yes (∃ v,∃ x:Sl (Sl Int),o = .ret v/\x.l.map Sl.l=u6 n k/\Fz true h' v (ak cU 1 x))):=by
  refine F.Ak ?_;rw [F.BR];have r0:fB [] [] []=some []:=rfl;have r1:∀ p:PB,fB [.ax] [(0,1)] [.slice p.1 0 p.2.length 1]=some (Ar p):=fun _=>rfl;have r2:∀ x:Int,fB [.int .i64 0] [(0,1)] [.int .i64 x]=some [.int .i64 x]:=fun _=>rfl;have r1':fB [.ax] [(0,1)] [.slice 0 0 0 1]=some (Ar (0,[])):=rfl;simp only [r0,an,bJ,r1'];have g0:(Heap.alloc (Heap.alloc Heap.empty (.cells [])) (.cells (Ar (0,[])))).get 0=some (.cells []):=by simp [Heap.aQ,bJ]
  have g1:(Heap.alloc (Heap.alloc Heap.empty (.cells [])) (.cells (Ar (0,[])))).get 1=some (.cells (Ar (0,[]))):=by simp [Heap.aQ,bJ]
  have gn:(Heap.alloc (Heap.alloc Heap.empty (.cells [])) (.cells (Ar (0,[])))).next=2:=rfl
  have ge:(Heap.alloc Heap.empty (.cells [])).next=1:=rfl
  rw [ge];generalize (Heap.alloc (Heap.alloc Heap.empty (.cells [])) (.cells (Ar (0,[]))))=H at g0 g1 gn ⊢
  have acF:uO 0 H (.slice 1 0 1 1) [(0,[])]:=⟨.row 1 [(0,[])] (zero_le _) (by omega) (by simpa using g1),fun p hp=>by
   rw [mem_singleton] at hp;subst hp;exact ⟨dK _,by show 0<H.next;omega,by simp [cL],g0⟩⟩
  refine aD 0 k (zero_le _) (fun i e h'=>∃ a ps,uO 0 h' a ps/\ps.map (·.2)=u6 n i/\e 0 = .int .i64 (n:Int)/\e 1 = .int .i64 (k:Int)/\e 5=a/\e 6 = .int .i64 (i:Int)) ⟨_,_,acF,rfl,rfl,rfl,rfl,rfl⟩ ?_ ?_
  ·rintro i e h' _ hi ⟨a,ps,RJ,tu,e0,e1,e5,e6⟩ K' hn0 Wi hr0 Bx;have qJ:ps.length=n ^ i:=by have:=congrArg List.length tu;rwa [length_map,vX] at this
   have hin:n ^ i*n<=4096:=by rw [<- Nat.pow_succ];exact Nat.le_trans (Ib hn hi) hc
   have afA:ps.length<=cE:=by unfold cE;have:=Nat.le_mul_of_pos_right (n ^ i) hn;omega
   rw [F.bR.aT];simp only [e0,e1,e5,e6,aR,reduceAdd,reduceEqDiff,reduceIte,aZ hi]
   refine aD 0 ps.length (zero_le _) (fun j e h2=>bu h' h2/\∃ c qs,uO h'.next h2 c qs/\qs.map (·.2)=stepT n ((ps.map (·.2)).take j)/\e 0 = .int .i64 (n:Int)/\e 1 = .int .i64 (k:Int)/\e 5=a/\e 6 = .int .i64 (i:Int)/\e 7=c/\e 8 = .int .i64 (j:Int))
    ⟨bu.refl _,_,_,.nil _ _,rfl,e0,e1,e5,e6,rfl,rfl⟩ ?_ ?_
   ·rintro j e h2 _ hj ⟨fo,c,qs,U5,hqs,e0,e1,e5,e6,e7,e8⟩ K2 qj acG qL DY;have KV:ps[j]?=some ps[j]:=ez hj;generalize ps[j]=p at KV;have afB:(ps.map (·.2))[j]?=some p.2:=by rw [getElem?_map,KV];rfl
    have hql:qs.length=j*n:=by
     have:=congrArg List.length hqs;rw [length_map,Aw,length_take,length_map,Nat.min_eq_left (by omega)] at this;exact this
    have hjn:j*n+n<=4096:=by
     have:(j+1)*n<=ps.length*n:=mul_le_mul_right n hj;rw [qJ,succ_mul] at this;omega
    rw [F.bR.dm];simp only [e5,e8,RJ.own.len,aR,reduceAdd,reduceEqDiff,reduceIte,aZ hj]
    refine aD 0 n (zero_le _) (fun x e h3=>bu h' h3/\∃ c qs,uO h'.next h3 c qs/\qs.map (·.2)=stepT n ((ps.map (·.2)).take j)++(En n p.2).take x/\e 0 = .int .i64 (n:Int)/\e 1 = .int .i64 (k:Int)/\e 5=a/\e 6 = .int .i64 (i:Int)/\e 7=c/\e 8 = .int .i64 (j:Int)/\e 9 = .int .i64 (x:Int))
     ⟨fo,c,qs,U5,by rw [take_zero,append_nil];exact hqs,e0,e1,e5,e6,e7,e8,rfl⟩ ?_ ?_
    ·rintro x e h3 _ hx ⟨B5,c,qs,U6,U7,e0,e1,e5,e6,e7,e8,e9⟩ K3 PR acH V3 hp3
     have akw:qs.length=j*n+x:=by
      have:=congrArg List.length U7;rw [length_map,length_append,Aw,length_take,length_map,Nat.min_eq_left (by omega),length_take,u7,Nat.min_eq_left (by omega)] at this;exact this
     obtain ⟨b,b1,b2,b3⟩:=RJ.at_ KV;obtain ⟨p1,p2,p3,p4⟩:=RJ.cell p (iz KV);have xa:bu h' (h3.alloc (.cells [])):=B5.trans (bu.alloc _ _)
     have kX:Row encI 1 (h3.alloc (.cells [])) (.slice p.1 0 p.2.length 1) p.2:=by
      have hg:(h3.alloc (.cells [])).get p.1=some (.cells (p.2.map iv)):=(by rw [xa.get _ p2];exact p4);refine ⟨rfl,?_⟩;simp only [gQ,hg,if_true];rw [if_pos (by simp),<- sC];simp only [drop_zero,Nat.mul_one];rw [jD (by simp)]
     have hpk:p.2.length<=1000000:=by
      have:p.2 ∈ u6 n i:=(by rw [<- tu];exact List.mem_map_of_mem (iz KV));obtain ⟨r,hr⟩:=getElem?_of_mem this;have hlt:r<n ^ i:=by have:=(kT.1 hr).1;rwa [vX] at this
      obtain ⟨t,q1,q2,_⟩:=Ay hn i r hlt;rw [hr] at q1;cases q1;omega
     obtain ⟨b4,h4,a4,g4,x4,l4,m4⟩:=vW kX hpk;obtain ⟨b5,h5,a5,g5,f5,l5,m5⟩:=Rf (h:=h4) g4 m4 hpk (x:Int);have x5:bu h3 h5:=⟨by have:=x4.next;omega,fun d hd=>by rw [f5 d (by have:=x4.next;omega) (by omega),x4.get d hd]⟩
     have XW:=U6.ext x5;have hx5:bu h' h5:=B5.trans x5;obtain ⟨a6,h6,e6',XX,n6,_,x6,_⟩:=XW.push (by have:=hx5.next;omega) (by rw [hm];omega) (b5,p.2++[(x:Int)]) (by have:=x4.next;have:=B5.next;show h'.next<=b5;omega) m5 (fun hb=>by have:=U6.own.lt hb;simp only at this;have:=x4.next;omega) g5;rw [F.bR.jf];simp only [e0,e5,e7,e8,e9,aR,reduceAdd,reduceEqDiff,reduceIte,aZ hx,r0,b1,b3 _ xa,a4,r2,a5,r1 (b5,p.2++[(x:Int)]),e6',aI hx (show n<=cE by unfold cE;omega)];refine PR _ _ ⟨x6 _ hx5 (dK _),a6,_,XX,?_,e0,e1,e5,e6,rfl,e8,rfl⟩;rw [map_append,U7,O1 hx,append_assoc];rfl
    ·rintro e h3 ⟨B5,c,qs,U6,U7,e0,e1,e5,e6,e7,e8,e9⟩ K3 acH;rw [F.bR.jf];simp only [e0,e9,aR,reduceAdd,reduceEqDiff,reduceIte,aS];rw [acH,F.bR.fX];simp only [aR,reduceAdd,reduceEqDiff,reduceIte,e8,aI hj afA];refine qj _ _ ⟨B5,c,qs,U6,?_,e0,e1,e5,e6,e7,rfl⟩;rw [U7,Mf afB,jD (l:=En n p.2) (by rw [u7];exact dK _)]
   ·rintro e h2 ⟨fo,c,qs,U5,hqs,e0,e1,e5,e6,e7,e8⟩ K2 acG;rw [F.bR.dm];simp only [e5,e8,RJ.own.len,aR,reduceAdd,reduceEqDiff,reduceIte,aS];rw [acG,F.bR.cq];simp only [aR,reduceAdd,reduceEqDiff,reduceIte,e6,e7,aI hi (show k<=cE by unfold cE;omega)];refine hn0 _ _ ⟨c,qs,⟨U5.own.B3 (zero_le _),fun p hp=>?_⟩,?_,e0,e1,rfl,rfl⟩
    ·obtain ⟨q1,q2,q3,q4⟩:=U5.cell p hp;exact ⟨zero_le _,q2,q3,q4⟩
    ·rw [hqs,jD (by simp),tu];rfl
  ·rintro e h' ⟨a,ps,RJ,tu,e0,e1,e5,e6⟩ K' Wi;rw [F.bR.aT];simp only [e1,e6,aR,reduceAdd,reduceEqDiff,reduceIte,aS];rw [Wi,F.bR.aF];simp only [bL,reduceEqDiff,reduceIte,e5];obtain ⟨x,jO,fo⟩:=RJ.yB (gJ:=true);exact cu.2 ⟨a,x,rfl,jO.trans tu,fo⟩
 refine main.frozen (by simp [AV.cN,AV.pure]) fun o h' ho=>?_;obtain ⟨v,x,rfl,hx,hf⟩:=cu.1 ho;exact ⟨v,_,rfl,hf,hK x hx⟩
theorem vY:fB [] [] []=some []:=rfl
theorem acI(p:PB):fB [.ax] [(0,1)] [.slice p.1 0 p.2.length 1]=some (Ar p):=rfl
theorem fJ{x:Sl (Sl Int)}(hx:x.l.length<=1000000)(ht:∀ t ∈ x.l,t.l.length<=1000000){h:Heap}{K:Out->Heap->Bool}(hK:∀ y:Sl (Sl Int),y.l.map Sl.l=x.l.map Sl.l->K (.ret (ak cU 1 y)) h=true):Sem TP 72 [ak cU 1 x] h K:=by
 have hm:cG=140737488355328:=rfl;have hbig:x.l.length<=cE:=by unfold cE;omega
 have main:Sem TP 72 [ak cU 1 x] Heap.empty (fun o h'=>yes (∃ v,∃ y:Sl (Sl Int),o = .ret v/\y.l.map Sl.l=x.l.map Sl.l/\Fz true h' v (ak cU 1 y))):=by
  refine F.Al ?_;rw [F.BS];refine aD 0 x.l.length (zero_le _) (fun i e h'=>∃ a ps,uO 0 h' a ps/\ps.map (·.2)=(x.l.take i).map Sl.l/\e 0=ak cU 1 x/\e 3=a/\e 4 = .int .i64 (i:Int)) ⟨_,_,.nil _ _,rfl,rfl,rfl,rfl⟩ ?_ ?_
  ·rintro i e h' _ hi ⟨a,ps,RJ,tu,e0,e3,e4⟩ K' hn gi hr hp;have hv:x.l[i]?=some x.l[i]:=ez hi;generalize x.l[i]=t at hv;have vZ:=ht t (iz hv);have qJ:ps.length=i:=by have:=congrArg List.length tu;rw [length_map,length_map,length_take,Nat.min_eq_left (by omega)] at this;exact this
   obtain ⟨b,h5,a5,g5,x5,l5,m5⟩:=vW (vO nH t (h'.alloc (.cells []))) vZ;have XW:=RJ.ext x5;obtain ⟨a6,h6,e6,XX,_⟩:=XW.push (zero_le _) (by rw [hm];omega) (b,t.l) (zero_le _) m5 (fun hb=>by have:=RJ.own.lt hb;simp only at this;omega) g5;rw [F.fJ.aT];simp only [e0,e3,e4,aR,reduceAdd,reduceEqDiff,reduceIte,aZ hi,vY,aV x hi,gK hv,a5,acI (b,t.l),e6,aI hi hbig];exact hn _ _ ⟨_,_,XX,by rw [map_append,tu,take_add_one,hv,map_append];rfl,e0,rfl,rfl⟩
  ·rintro e h' ⟨a,ps,RJ,tu,e0,e3,e4⟩ K' gi;rw [F.fJ.aT];simp only [e0,e4,aR,reduceAdd,reduceEqDiff,reduceIte,aS];rw [gi,F.fJ.aF];simp only [bL,reduceEqDiff,reduceIte,e3];obtain ⟨y,hy1,hy2⟩:=RJ.yB (gJ:=true);exact cu.2 ⟨a,y,rfl,by rw [hy1,tu,jD (dK _)],hy2⟩
 refine main.frozen (by simp [AV.cN,b7 nj]) fun o h' ho=>?_;obtain ⟨v,y,rfl,hy,hf⟩:=cu.1 ho;exact ⟨v,_,rfl,hf,hK y hy⟩
structure di.small (s:di):Prop where
 aC:s.aC.l.length<=1000
 Io:∀ r ∈ s.aC.l,r.aM.l.length<=10000
 YZ:∀ r ∈ s.aC.l,∀ t ∈ r.aM.l,t.l.length<=1000
theorem di.small.ok'{s:di}(hs:s.small):s.aC.l.length<=cE:=by have:=hs.aC;unfold cE;omega
theorem U8(nm:b8)(k:Int)(y:Sl (Sl Int)):iD [.str [],.int .i64 0,.ax] [(0,1),(1,1),(2,1)] [.str nm,.int .i64 k,ak cU 1 y]=some (.agg (aW ⟨nm,k,y⟩)):=by cases y<;>rfl
theorem NK(r:Rel):fB [.str [],.int .i64 0,.ax] [(0,3)] [.agg (aW r)]=some (aW r):=by
 obtain ⟨nm,k,y⟩:=r;cases y<;>rfl
theorem RK(s:St):dG TP s Tryz.f25.results.toList=(match ag (some 2) (s.env 2) s.h,(some []:Option (List AV)) with|some v,some vs=>some (v :: vs)|_,_=>none):=by kernel_rfl
theorem gW{s:di}(hs:s.small){h:Heap}{K:Out->Heap->Bool}(hK:∀ a h' rs,bu h h'->Own aW 3 h.next h' a rs->rs.map bZ=s.aC.l.map bZ->K (.ret (.agg [.int .i64 s.size,a])) h'=true):Sem TP 25 [.agg (aq s)] h K:=by
 have hm:cG=140737488355328:=rfl;refine F.DI ?_;rw [F.Fx];simp only [dg (cA s),an,Heap.aJ];have g0:(Heap.alloc (Heap.alloc h (.cells (aq s))) (.cells [.int .i64 0,.ax])).get h.next=some (.cells (aq s)):=by rw [Heap.aQ,Heap.aJ,if_neg (by omega)];exact aA _ _
 have g1:(Heap.alloc (Heap.alloc h (.cells (aq s))) (.cells [.int .i64 0,.ax])).get (h.next+1)=some (.cells [.int .i64 0,.ax]):=aA _ _;have gn:(Heap.alloc (Heap.alloc h (.cells (aq s))) (.cells [.int .i64 0,.ax])).next=h.next+2:=rfl
 have gx:bu h (Heap.alloc (Heap.alloc h (.cells (aq s))) (.cells [.int .i64 0,.ax])):=(bu.alloc _ _).trans (bu.alloc _ _);generalize (Heap.alloc (Heap.alloc h (.cells (aq s))) (.cells [.int .i64 0,.ax]))=H1 at g0 g1 gn gx ⊢;have lz:ag none (.ptr h.next 0) H1=some (.int .i64 s.size):=by rw [aj g0];rfl
 have ha:iD [.int .i64 0,.ax] [(0,1)] [.int .i64 s.size]=some (.agg [.int .i64 s.size,.ax]):=rfl;obtain ⟨H2,qW,p2,po,pn⟩:=cx (h:=H1) (zs:=[.int .i64 0,.ax]) (cs:=[.int .i64 s.size,.ax]) (n:=2) rfl rfl rfl;rw [gn] at p2 po pn qW;have p0:H2.get h.next=some (.cells (aq s)):=by rw [po _ (by omega)];exact g0
 have p1:H2.get (h.next+1)=some (.cells [.int .i64 0,.ax]):=by rw [po _ (by omega)];exact g1
 have px:bu h H2:=⟨by omega,fun b hb=>by rw [po _ (by omega)];exact gx.get b hb⟩
 simp only [aR,reduceAdd,reduceEqDiff,reduceIte,lz,ha,gn,qW]
 refine aD 0 s.aC.l.length (zero_le _) (fun i e h'=>∃ a rs,h'.get h.next=some (.cells (aq s))/\h'.get (h.next+1)=some (.cells [.int .i64 0,.ax])/\h'.get (h.next+2)=some (.cells [.int .i64 s.size,a])/\Own aW 3 (h.next+3) h' a rs/\rs.map bZ=(s.aC.l.take i).map bZ/\bu h h'/\h.next+3<=h'.next /\
  e 1 = .ptr h.next 0/\e 2 = .ptr (h.next+1) 0/\e 3 = .ptr (h.next+2) 0/\e 4 = .int .i64 (i:Int)) ⟨_,[],p0,p1,p2,.nil,rfl,px,by omega,rfl,rfl,rfl,rfl⟩ ?_ ?_
 ·rintro i e h' _ hi ⟨a,rs,q0,q1,q2,o,Eo,qx,qn,e1,e2,e3,e4⟩ K' hn gi hr hp;have hv:s.aC.l[i]?=some s.aC.l[i]:=ez hi;generalize s.aC.l[i]=r at hv;have nV:=iz hv;have lr:ag none (.ptr h.next 1) h'=some (ak aW 3 s.aC):=by rw [aj q0];rfl
  have lo:ag none (.ptr (h.next+2) 1) h'=some a:=by rw [aj q2];rfl
  have hrl:rs.length=i:=by have:=congrArg List.length Eo;rw [length_map,length_map,length_take,Nat.min_eq_left (by omega)] at this;exact this
  rw [F.gW.aT];simp only [e1,e3,e4,aR,reduceAdd,reduceEqDiff,reduceIte,lr,lo,aZ hi,aV s.aC hi,rK hv,vU hv,pX hv];refine ai (fJ (by have:=hs.Io r nV;omega) (fun t ht=>by have:=hs.YZ r nV t ht;omega) fun y hy=>?_);obtain ⟨a5,h5,p5,o5,f5,n5,x5,b5⟩:=o.push eC fY (by omega) (bytes:=48) (by have:=hs.aC;rw [hm];omega) ⟨r.name,r.arity,y⟩;have hne:cL a≠some (h.next+2):=fun hb=>by have:=o.ge hb;omega
  have s2:h5.get (h.next+2)=some (.cells [.int .i64 s.size,a]):=by rw [f5 _ (by omega) hne];exact q2
  have c5:=o5.lM
  have st:bf 1 (.ptr (h.next+2) 1) a5 h5=some (h5.set (h.next+2) (.cells [.int .i64 s.size,a5])):=by
   rw [cK (n:=1) s2 c5.2.1 c5.1 (by simp),c5.2.2];rfl
  simp only [kY,lr,lo,rK hv,vU hv,an,AV.beq_refl,Bool.and_self,if_true,U8,NK,p5,ji,e3,e4,LJ,Nat.zero_add,st,aI hi hs.ok'];refine hn _ _ ⟨a5,rs++[⟨r.name,r.arity,y⟩],?_,?_,?_,o5.kM (by omega) _,?_,?_,by rw [Heap.bp];omega,e1,e2,e3,rfl⟩
  ·rw [Heap.aP,if_neg (by omega),f5 _ (by omega) (fun hb=>by have:=o.ge hb;omega)];exact q0
  ·rw [Heap.aP,if_neg (by omega),f5 _ (by omega) (fun hb=>by have:=o.ge hb;omega)];exact q1
  ·rw [Heap.aP,if_pos rfl]
  ·rw [map_append,Eo,take_add_one,hv,map_append];simp [bZ,hy]
  ·exact (x5 h qx (by omega)).set (by omega) _
 ·rintro e h' ⟨a,rs,q0,q1,q2,o,Eo,qx,qn,e1,e2,e3,e4⟩ K' gi;have lr:ag none (.ptr h.next 1) h'=some (ak aW 3 s.aC):=by rw [aj q0];rfl
  have lo:ag (some 2) (.ptr (h.next+2) 0) h'=some (.agg [.int .i64 s.size,a]):=by rw [aj q2];rfl
  have c:=o.lM
  have B8:bx [.int .i64 s.size,a]=true:=by
   have:=c.1;rw [c.2.2] at this;simp only [bx,Bool.and_true] at this ⊢;rw [this];rfl
  have st:bf 2 (.ptr (h.next+1) 0) (.agg [.int .i64 s.size,a]) h'=some (h'.set (h.next+1) (.cells [.int .i64 s.size,a])):=by
   rw [cK (n:=2) (v:=.agg [.int .i64 s.size,a]) q1 rfl B8 (by simp)];rfl
  have RM:ag (some 2) (.ptr (h.next+1) 0) (h'.set (h.next+1) (.cells [.int .i64 s.size,a]))=some (.agg [.int .i64 s.size,a]):=by rw [aj (cs:=[.int .i64 s.size,a]) (by rw [Heap.aP,if_pos rfl])];rfl
  rw [F.gW.aT];simp only [e1,e4,aR,reduceAdd,reduceEqDiff,reduceIte,lr,aS];rw [gi,F.gW.aF];simp only [bL,reduceEqDiff,reduceIte,e2,e3,lo,st,an,RK,RM,oneOf];rw [jD (dK _)] at Eo;exact hK a _ rs (qx.set (by omega) _) ((o.kM (by omega) _).B3 (by omega)) Eo
theorem Kh{n:Nat}:∀ {a b:List Int} (r:Nat),a.length=b.length->iY n a=true->iY n b=true->dy a b=true->tN n a r<tN n b r
 |[],_,r,_,_,_,h=>by simp [dy] at h
 |_ :: _,[],r,_,_,_,h=>by simp [dy] at h
 |x :: a,y :: b,r,hl,ha,hb,h=>by
  have SP:=ha;have fq:=hb;simp only [iY,all_cons,and_eq_true,not_eq_true',decide_eq_false_iff_not] at ha hb;have ia:iY n a=true:=by unfold iY;simpa using ha.2
  have ib:iY n b=true:=by unfold iY;simpa using hb.2
  have CT:a.length=b.length:=by simpa using hl
  rw [dy] at h;simp only [tN];by_cases e:x=y
  ·subst e;rw [if_pos rfl] at h;exact Kh _ CT ia ib h
  ·rw [if_neg e] at h;have hxy:=of_decide_eq_true h
   have lo:∀ (l:List Int) (r:Nat),r*n ^ l.length<=tN n l r:=by
    intro l
    induction l with
    |nil=>intro r;simp [tN]
    |cons z l ih=>
     intro r;rw [tN];refine Nat.le_trans ?_ (ih _);rw [length_cons,Nat.pow_succ,Nat.mul_comm (n ^ l.length) n,<- Nat.mul_assoc];exact mul_le_mul_right _ (le_add_right _ _)
   have hi:∀ (l:List Int) (r:Nat),iY n l=true->tN n l r<(r+1)*n ^ l.length:=by
    intro l
    induction l with
    |nil=>intro r _;simp [tN]
    |cons z l ih=>
     intro r hz;simp only [iY,all_cons,and_eq_true,not_eq_true',decide_eq_false_iff_not] at hz;rw [tN];refine Nat.lt_of_lt_of_le (ih _ (by unfold iY;simpa using hz.2)) ?_;rw [length_cons,Nat.pow_succ,Nat.mul_comm (n ^ l.length) n,<- Nat.mul_assoc];refine mul_le_mul_right _ ?_;rw [succ_mul];omega
   have q1:=hi a (r*n+x.toNat) ia;have q2:=lo b (r*n+y.toNat)
   have q3:(r*n+x.toNat+1)*n ^ a.length<=(r*n+y.toNat)*n ^ b.length:=by
    rw [CT];exact mul_le_mul_right _ (by omega)
   omega
theorem GH{a b:List Int}(hl:a.length=b.length)(ha:iY n a=true)(hb:iY n b=true)(h:dy a b=true):kS n a<kS n b:=Kh 0 hl ha hb h
theorem GI{n r:Nat}:∀ (ts:List (Sl Int)) (d:List Bool),r<d.length->(kN n ts d).getD r false=(d.getD r false||(ts.map Sl.l).any fun u=>kS n u==r)
 |[],d,_=>by simp [kN]
 |t :: ts,d,hr=>by
  rw [kN,GI ts _ (by simpa using hr),map_cons,any_cons];by_cases h:kS n t.l=r
  ·rw [h,getD_eq_getElem?_getD,getElem?_set_self hr];simp
  ·have:(kS n t.l==r)=false:=by simpa using h
   rw [getD_eq_getElem?_getD,getElem?_set_ne h,<- getD_eq_getElem?_getD,this,Bool.false_or]
def nM(n:Nat):Nat->Nat->List Int
 |0,_=>[]
 |k+1,r=>nM n k (r/n)++[((r%n:Nat):Int)]
theorem Az{n:Nat}(hn:1<=n):∀ (k r:Nat),r<n ^ k->(u6 n k)[r]?=some (nM n k r)
 |0,r,h=>by
  obtain rfl:r=0:=by simp at h;omega
  rfl
 |k+1,r,h=>by
  have hr:r/n<n ^ k:=Nat.div_lt_of_lt_mul (by rw [Nat.mul_comm,<- Nat.pow_succ];exact h);have hx:r%n<n:=mod_lt _ hn;have:=Ax (n:=n) (Az hn k (r/n) hr) hx;rw [u6,nM]
  rwa [div_add_mod' r n] at this
theorem qB(hn:1<=n){k r:Nat}(h:r<n ^ k):iY n (nM n k r)=true/\kS n (nM n k r)=r:=by
 obtain ⟨t,h1,h2,h3,h4⟩:=Ay hn k r h;rw [Az hn k r h] at h1;cases h1;exact ⟨h3,h4⟩
theorem U9{a:Nat}(hb:0<b):aG .rem (.int .i64 (a:Int)) (.int .i64 (b:Int))=some (.int .i64 ((a%b:Nat):Int)):=by
 have h:¬ (b:Int)=0:=by omega
 simp only [aG,if_true,if_neg h];rw [Int.tmod_eq_emod_of_nonneg (by omega)];rfl
theorem Va{a:Nat}(hb:0<b)(ha:a<=1000000):aG .quo (.int .i64 (a:Int)) (.int .i64 (b:Int))=some (.int .i64 ((a/b:Nat):Int)):=by
 have h:¬ (b:Int)=0:=by omega
 simp only [aG,if_true,if_neg h];have e:((a:Int).tdiv (b:Int))=((a/b:Nat):Int):=by rw [Int.tdiv_eq_ediv_of_nonneg (by omega)];rfl
 have:a/b<=a:=div_le_self _ _;rw [e];generalize a/b=q at this;rw [IntWalk.i64_in _ (by omega)]
theorem gC{n k r:Nat}(n1:1<=n)(sI:n<=64)(hk:k<=12)(hc:n ^ k<=4096)(hr:r<n ^ k){h:Heap}{K:Out->Heap->Bool}(hK:∀ t:Sl Int,t.l=nM n k r->K (.ret (.tuple [ak encI 1 t,.int .i64 0])) h=true):Sem TP 63 [.int .i64 (n:Int),.int .i64 (k:Int),.int .i64 (r:Int)] h K:=by
 have main:Sem TP 63 [.int .i64 (n:Int),.int .i64 (k:Int),.int .i64 (r:Int)] Heap.empty (fun o h'=>yes (∃ v,∃ t:Sl Int,o = .ret (.tuple [v,.int .i64 0])/\t.l=nM n k r/\Fz true h' v (ak encI 1 t))):=by
  refine F.BU ?_;rw [F.DK];refine ai (qz n1 sI (by unfold cE;omega) ?_);rw [OY,if_neg (by omega),if_neg (by omega)];have J9:aG .sub (.int .i64 (k:Int)) (.int .i64 1)=some (.int .i64 ((k:Int)-1)):=Co (by omega) (by omega);simp only [aR,reduceAdd,reduceEqDiff,reduceIte,beq_self_eq_true,Bool.not_true,eT (by omega:¬ (r:Int)<0),eT (by omega:¬ ((n ^ k:Nat):Int)<=(r:Int)),Cr (show k<=1000000 by omega),bJ,J9]
  refine lG (fun j e h'=>∃ (q:Nat) (SQ:List Int),j<=k/\nM n k r=nM n j q++SQ/\j+SQ.length=k/\q<=4096/\h'.get 0=some (.cells ((replicate j (0:Int)++SQ).map iv))/\e 0 = .int .i64 (n:Int)/\e 2 = .int .i64 (q:Int)/\e 10 = .slice 0 0 k 1/\e 11 = .int .i64 ((j:Int)-1)) k
   ⟨r,[],dK _,by simp,rfl,by omega,by rw [append_nil];exact aA _ _,rfl,rfl,rfl,rfl⟩ ?_
  rintro j e h' ⟨q,SQ,hj,ht,hl,hq,g0,e0,e2,jm,nU⟩;rw [F.gC.aT]
  cases j with
  |zero=>
   simp only [nU,r8,an,cF,eT (by omega:¬ (0:Int)<=((0:Nat):Int)-1),aK,pG];rw [F.gC.aF];simp only [bL,reduceEqDiff,reduceIte,jm];rw [replicate_zero,nil_append] at g0;refine cu.2 ⟨_,some SQ,rfl,by rw [ht,nM];rfl,?_⟩;have:=JH g0
   rwa [show SQ.length=k by omega] at this
  |succ j=>
   have afE:((j+1:Nat):Int)-1=(j:Int):=by omega
   have hjk:j<k:=by omega
   have kK:(replicate (j+1) (0:Int)++SQ).set j ((q%n:Nat):Int)=replicate j 0++(((q%n:Nat):Int) :: SQ):=by
    rw [replicate_succ',append_assoc,set_append_right _ _ (by simp)];simp
   have DX:aG .sub (.int .i64 (j:Int)) (.int .i64 1)=some (.int .i64 ((j:Int)-1)):=Co (by omega) (by omega);rw [afE] at nU;simp only [e0,e2,jm,nU,r8,an,cF,fh (by omega:(0:Int)<=(j:Int)),aL,U9 n1,Va n1 (show q<=1000000 by omega),nK hjk,zk g0 (show j<(replicate (j+1) (0:Int)++SQ).length by simp;omega),DX];refine cu.2 ⟨j,by omega,rfl,rfl,⟨q/n,(((q%n:Nat):Int) :: SQ),by omega,?_,by simp;omega,by have:=div_le_self q n;omega,by rw [Heap.aP,if_pos rfl,kK],e0,rfl,jm,rfl⟩⟩;rw [ht,nM,append_assoc];rfl
 refine main.frozen (by simp [AV.cN,AV.pure]) fun o h' ho=>?_;obtain ⟨v,t,rfl,ht,hf⟩:=cu.1 ho;have:=mu.cons hf (mu.cons (.scalar (.int .i64 0) rfl) mu.nil);exact ⟨_,_,rfl,.tuple _ _ this.len this.rel,hK t ht⟩
theorem eS{x:Sl (Sl Int)}{t:Sl Int}(hx:x.l.length<=cE)(ht:∀ u ∈ x.l,u.l.length<=cE){h:Heap}{K:Out->Heap->Bool}(hK:K (.ret (.bool ((x.l.map Sl.l).any fun u=>u==t.l))) h=true):Sem TP 34 [ak cU 1 x,ak encI 1 t] h K:=by
 refine F.BT ?_;rw [F.DJ];refine aD 0 x.l.length (zero_le _) (fun i e h'=>h'=h/\e 0=ak cU 1 x/\e 1=ak encI 1 t/\e 5 = .int .i64 (i:Int)/\(((x.l.map Sl.l).take i).any fun u=>u==t.l)=false) ⟨rfl,rfl,rfl,rfl,rfl⟩ ?_ ?_
 ·rintro i e h' _ hi ⟨rfl,e0,e1,e5,hq⟩ K' hn gi hr hp;have hv:x.l[i]?=some x.l[i]:=ez hi;generalize x.l[i]=u at hv;have LI:(x.l.map Sl.l)[i]?=some u.l:=by rw [getElem?_map,hv];rfl
  rw [F.eS.aT];simp only [e0,e1,e5,aR,reduceAdd,reduceEqDiff,reduceIte,aZ hi,aV x hi,gK hv];refine ai (eR (ht u (iz hv)) ?_);simp only [aR,reduceAdd,reduceEqDiff,reduceIte]
  cases h1:u.l==t.l with
  |true=>
   simp only [aL];rw [hr,F.eS.bz];simp only [bL,reduceEqDiff,reduceIte];rw [List.any_eq_true.2 ⟨u.l,iz LI,h1⟩] at hK;exact hK
  |false=>
   simp only [aK,e5,aI hi hx,an];exact hn _ _ ⟨rfl,e0,e1,rfl,uI LI hq h1⟩
 ·rintro e h' ⟨rfl,e0,e1,e5,hq⟩ K' gi;rw [F.eS.aT];simp only [e0,e5,aR,reduceAdd,reduceEqDiff,reduceIte,aS];rw [gi,F.eS.aF];rw [jD (by simp)] at hq;rw [hq] at hK;exact hK
theorem Ki{m:ni}(hb:h.get b=some (.map es ck))(hm:uG es m)(k:b8)(v:AV) :
  ∃ yE HG,eN .string (.map b) (.str k) v h=some (h.set b (.map yE HG))/\uG yE (m.r9 k v):=by
 obtain ⟨r,hr,vE⟩:=uG.jN (k:=k) 0 hm;simp only [eN,hb,q8,qZ,if_true,hr]
 cases r with
 |none=>simp at vE;exact ⟨_,_,rfl,hm.append vE v ck⟩
 |some jv=>
  obtain ⟨n,hj,_,e⟩:=vE;obtain ⟨j,w⟩:=jv;simp only [Nat.zero_add] at hj;subst hj;exact ⟨_,_,rfl,e v⟩
theorem RN(m:ni)(k j:b8)(v:AV):(m.r9 k v).find j=if j=k then some v else m.find j:=by
 induction m with
 |nil=>
  simp only [ni.r9,ni.find,find?_cons,find?_nil];by_cases h:j=k
  ·subst h;simp
  ·have:(j==k)=false:=by simpa using h
   rw [this,if_neg h]
 |cons p m ih=>
  simp only [ni.r9];by_cases hk:k=p.1
  ·rw [if_pos (by simpa using hk)];subst hk;simp only [ni.find,find?_cons];by_cases h:j=p.1
   ·subst h;simp
   ·have:(j==p.1)=false:=by simpa using h
    rw [this,if_neg h]
  ·rw [if_neg (by simpa using hk)];simp only [ni.find,find?_cons] at ih ⊢;by_cases h:j=p.1
   ·subst h;simp only [beq_self_eq_true,map_some];rw [if_neg (Ne.symm hk)]
   ·have:(j==p.1)=false:=by simpa using h
    rw [this];exact ih
theorem Mg{k:Nat}{l:List (Sl Int)}(h:zn n k l=true){t:Sl Int}(ht:l[i]?=some t):t.l.length=k/\iY n t.l=true:=by
 have:=zw h (kT.1 ht).1;unfold mK at this;rw [ht] at this;simp only [and_eq_true,decide_eq_true_eq] at this;exact ⟨this.1,this.2.1⟩
theorem tj{α β:Type}{enc:α->List AV}{mz:β->List AV}{h:Heap}:∀ {l:List (α×β)},(∀ p ∈ l,mu true h (enc p.1) (mz p.2))->mu true h (l.flatMap fun p=>enc p.1) (l.flatMap fun p=>mz p.2)
 |[],_=>.nil
 |p :: l,hp=>by
  rw [flatMap_cons,flatMap_cons];exact mu.append (hp p mem_cons_self) (tj fun q hq=>hp q (mem_cons_of_mem _ hq))
structure jM {α β:Type} (X:Nat->Prop) (enc:α->List AV) (mz:β->List AV) (sz k:Nat) (h:Heap) (a:AV) (l:List (α×β)):Prop where
 own:Own enc sz k h a (l.map (·.1))
 yB:∀ p ∈ l,∀ h',(∀ b,k<=b->b<h.next->¬ X b->cL a≠some b->h'.get b=h.get b)->mu true h' (enc p.1) (mz p.2)
 av:∀ b,cL a=some b->¬ X b
section
variable {α β:Type} {X:Nat->Prop} {enc:α->List AV} {mz:β->List AV} {sz k:Nat} {h h':Heap} {a:AV} {l:List (α×β)}
theorem jM.nil:jM X enc mz sz k h .ax []:=⟨.nil,fun p hp=>(by cases hp),fun b hb=>(by cases hb)⟩
theorem Own.agree{enc:α->List AV}{k:Nat}{h':Heap}{l:List α}(o:Own enc sz k h a l)(hb:∀ b,cL a=some b->h'.get b=h.get b)(hn:h.next<=h'.next):Own enc sz k h' a l:=by
 cases o with
 |nil=>exact .nil
 |row b l h1 h2 h3=>exact .row b _ h1 (Nat.lt_of_lt_of_le h2 hn) (by rw [hb b rfl];exact h3)
theorem jM.gz(o:jM X enc mz sz k h a l)(hb:∀ b,k<=b->b<h.next->¬ X b->h'.get b=h.get b)(hn:h.next<=h'.next):jM X enc mz sz k h' a l:=
 ⟨o.own.agree (fun b e=>hb b (o.own.ge e) (o.own.lt e) (o.av b e)) hn,fun p hp h2 hh=>o.yB p hp h2 fun b b1 b2 b3 b4=>by rw [hh b b1 (Nat.lt_of_lt_of_le b2 hn) b3 b4,hb b b1 b2 b3],o.av⟩
theorem jM.ext(o:jM X enc mz sz k h a l)(hx:bu h h'):jM X enc mz sz k h' a l:=o.gz (fun b _ b2 _=>hx.get b b2) hx.next
theorem jM.low(o:jM X enc mz sz k h a l){d:Nat}(hd:d<k)(x:j9):jM X enc mz sz k (h.set d x) a l:=
 o.gz (fun b b1 _ _=>by rw [Heap.aP,if_neg (by omega)]) (by rw [Heap.bp];exact dK _)
theorem jM.afF(o:jM X enc mz sz k h a l){d:Nat}(hd:X d)(x:j9):jM X enc mz sz k (h.set d x) a l:=
 o.gz (fun b b1 _ b3=>by rw [Heap.aP,if_neg (fun e=>b3 (by rw [e];exact hd))]) (by rw [Heap.bp];exact dK _)
theorem jM.B3(o:jM X enc mz sz k h a l){j:Nat}(hj:j<=k):jM X enc mz sz j h a l:=
 ⟨o.own.B3 hj,fun p hp h2 hh=>o.yB p hp h2 fun b b1 b2 b3 b4=>hh b (Nat.le_trans hj b1) b2 b3 b4,o.av⟩
theorem jM.afG(o:jM (fun _=>False) enc mz sz k h a l)(hx:bu h h'){Y:Nat->Prop}(hY:∀ b,Y b->h.next<=b):jM Y enc mz sz k h' a l:=
 ⟨o.own.ext hx,fun p hp h2 hh=>o.yB p hp h2 fun b b1 b2 _ b4=>by rw [hh b b1 (Nat.lt_of_lt_of_le b2 hx.next) (fun y=>by have:=hY b y;omega) b4,hx.get b b2],fun b e y=>by have:=hY b y;have:=o.own.lt e;omega⟩
theorem jM.push(o:jM X enc mz sz k h a l)(he:∀ x,(enc x).length=sz)(h1:∀ x,bx (enc x)=true)(hk:k<=h.next){bytes:Nat}(hroom:(l.length+1)*bytes<=cG)(v:α)(w:β)(hX:∀ b,X b->b<h.next)
  (hf:∀ h',(∀ b,k<=b->b<h.next->¬ X b->cL a≠some b->h'.get b=h.get b)->mu true h' (enc v) (mz w)) :
  ∃ a' h',bY sz bytes a (.slice h.next 0 1 sz) (h.alloc (.cells (enc v)))=some (a',h')/\jM X enc mz sz k h' a' (l++[(v,w)])/\(∀ c,c<h.next->cL a≠some c->h'.get c=h.get c)/\h.next<=h'.next/\(∀ h0,bu h0 h->h0.next<=k->bu h0 h')/\∀ c,cL a'=some c->h.next<=c:=by
 obtain ⟨a',h',e1,o1,f1,n1,x1,b1⟩:=o.own.push he h1 hk (bytes:=bytes) (by simpa using hroom) v;refine ⟨a',h',e1,⟨by rw [map_append];exact o1,fun p hp h2 hh=>?_,fun b e x=>by have:=b1 b e;have:=hX b x;omega⟩,f1,n1,x1,b1⟩
 have uj:∀ b,k<=b->b<h.next->¬ X b->cL a≠some b->h2.get b=h.get b:=fun b c1 c2 c3 c4=>by
  rw [hh b c1 (by omega) c3 (fun e=>by have:=b1 b e;omega),f1 b c2 c4]
 rcases mem_append.1 hp with hp|hp
 ·exact o.yB p hp h2 uj
 ·rw [mem_singleton] at hp;subst hp;exact hf h2 uj
theorem jM.data(o:jM X enc mz sz k h a l):∃ x:Sl β,x.l=l.map (·.2)/\∀ h2,(∀ b,k<=b->b<h.next->¬ X b->h2.get b=h.get b)->Fz true h2 a (ak mz sz x):=by
 obtain ⟨ow,fr,av⟩:=o;generalize hm:l.map (·.1)=m at ow
 cases ow with
 |nil=>
  have:l = []:=by simpa using hm
  subst this;exact ⟨none,rfl,fun h2 _=>.dX rfl⟩
 |row b m h1 h2 h3=>
  subst hm;refine ⟨some (l.map (·.2)),rfl,fun g hg=>?_⟩;have fl:mu true g (l.flatMap fun p=>enc p.1) (l.flatMap fun p=>mz p.2):=tj fun p hp=>fr p hp g fun c c1 c2 c3 c4=>hg c c1 c2 c3;have e1:(l.map (·.1)).flatMap enc=l.flatMap fun p=>enc p.1:=by rw [flatMap_map]
  have e2:(l.map (·.2)).flatMap mz=l.flatMap fun p=>mz p.2:=by rw [flatMap_map]
  have:ak mz sz (some (l.map (·.2))) = .au (l.flatMap fun p=>mz p.2) 0 l.length sz:=by simp only [ak,e2,length_map]
  rw [this,length_map];exact .slice b 0 l.length sz _ _ (by rw [hg b h1 h2 (av b rfl),h3,e1]) fl.len fl.rel
theorem jM.fz(o:jM X enc mz sz k h a l):∃ x:Sl β,x.l=l.map (·.2)/\Fz true h a (ak mz sz x):=by
 obtain ⟨x,h1,h2⟩:=o.data;exact ⟨x,h1,h2 h fun _ _ _ _=>rfl⟩
end
def O2:={ v:AV // bx [v]=true/\v.dI = [v] }
abbrev wM:=b8×Int×O2
def iw(r:wM):List AV:=[.str r.1,.int .i64 r.2.1,r.2.2.1]
theorem me(r:wM):(iw r).length=3:=rfl
theorem v7(r:wM):bx (iw r)=true:=by
 have:=r.2.2.2.1;unfold iw;simp only [bx,Bool.and_true] at this ⊢;rw [this];rfl
theorem nD{enc:α->List AV}{k:Nat}{l:List α}(o:Own enc sz k h a l):bx [a]=true/\a.dI = [a]:=by cases o<;>exact ⟨rfl,rfl⟩
theorem Mh(r:wM):fB [.str [],.int .i64 0,.ax] [(0,3)] [.agg (iw r)]=some (iw r):=by
 have ho:=v7 r
 have hf:oY [.str [],.int .i64 0,.ax] [(0,3)] [.agg (iw r)]=some (iw r):=by
  have hc:AV.dI (.agg (iw r))=iw r:=rfl;have hp:eL [.str [],.int .i64 0,.ax] 0 (iw r)=iw r:=rfl;simp only [oY,hc,hp,ho,me];rfl
 unfold fB;rw [hf];simp only [ho,if_true]
abbrev RO(X:Nat->Prop)(k:Nat)(h:Heap)(a:AV)(l:List (wM×Rel)):Prop:=jM X iw aW 3 k h a l
theorem Mi{k:Int}{v:O2}{x:Sl (Sl Int)}(hf:Fz true h v.1 (ak cU 1 x)):mu true h (iw (nm,k,v)) (aW ⟨nm,k,x⟩):=
 .cons (.scalar _ rfl) (.cons (.scalar _ rfl) (.cons hf .nil))
theorem Ip(d:TypeId){enc:α->List AV}(x:Sl α):jK (.slice d) (ak enc sz x) .ax=some (.bool (match x with|none=>true|some _=>false)):=by cases x<;>rfl
theorem NL(y:Sl Int):fB [.ax] [(0,1)] [ak encI 1 y]=some (cU y):=by cases y<;>rfl
theorem Er(y:Sl Int):bx (cU y)=true:=by cases y<;>rfl
theorem jM.AA{enc:α->List AV}{k:Nat}{l:List α}(o:Own enc sz k h a l)(hf:∀ v,AV.cN (enc v)=true):jM (fun _=>False) enc enc sz k h a (l.map fun v=>(v,v)):=
 ⟨by rw [List.map_map];simpa [Function.comp_def] using o,fun p hp h' _=>by
  obtain ⟨v,_,rfl⟩:=mem_map.1 hp
  exact .dX (hf v),fun _ _ h=>h⟩
theorem oC{t:Sl Int}(ht:t.l.length<=1000000)(hK:∀ y:Sl Int,y.l=t.l->K (.ret (ak encI 1 y)) h=true):Sem TP 49 [ak encI 1 t] h K:=by
 have main:Sem TP 49 [ak encI 1 t] Heap.empty (fun o h'=>yes (∃ v,∃ y:Sl Int,o = .ret v/\y.l=t.l/\Fz true h' v (ak encI 1 y))):=by
  refine F.jZ ?_;rw [F.kF];simp only [Ip,aR,reduceAdd,reduceEqDiff,reduceIte]
  cases t with
  |none=>simp only [aL];exact cu.2 ⟨_,none,rfl,rfl,.dX rfl⟩
  |some l=>
   obtain ⟨b,h',a1,a2,_,_,_⟩:=vW (vO nH (some l) (Heap.empty.alloc (.cells []))) ht;simp only [aK,vY,an,a1,ji];exact cu.2 ⟨_,some l,rfl,rfl,vN a2⟩
 refine main.frozen (by simp [AV.cN,b7 jd]) fun o h' ho=>?_;obtain ⟨v,y,rfl,hy,hf⟩:=cu.1 ho;exact ⟨v,_,rfl,hf,hK y hy⟩
theorem GJ(s:St):dG TP s Tryz.f46.results.toList=(match ag (some 2) (s.env 2) s.h,(some []:Option (List AV)) with|some v,some vs=>some (v :: vs)|_,_=>none):=by kernel_rfl
set_option maxHeartbeats 2000000 in
theorem cJ{s:di}(hs:s.small){h:Heap}{K:Out->Heap->Bool}(hK:∀ a h' l,bu h h'->RO (fun _=>False) h.next h' a l->(l.map fun p=>bZ p.2)=s.aC.l.map bZ->K (.ret (.agg [.int .i64 s.size,a])) h'=true):Sem TP 46 [.agg (aq s)] h K:=by
 have hm:cG=140737488355328:=rfl;have hbig:=hs.ok';refine F.uA ?_;rw [F.xg];simp only [dg (cA s),an,Heap.aJ];have g0:(Heap.alloc (Heap.alloc h (.cells (aq s))) (.cells [.int .i64 0,.ax])).get h.next=some (.cells (aq s)):=by rw [Heap.aQ,Heap.aJ,if_neg (by omega)];exact aA _ _
 have g1:(Heap.alloc (Heap.alloc h (.cells (aq s))) (.cells [.int .i64 0,.ax])).get (h.next+1)=some (.cells [.int .i64 0,.ax]):=aA _ _;have gn:(Heap.alloc (Heap.alloc h (.cells (aq s))) (.cells [.int .i64 0,.ax])).next=h.next+2:=rfl
 have gx:bu h (Heap.alloc (Heap.alloc h (.cells (aq s))) (.cells [.int .i64 0,.ax])):=(bu.alloc _ _).trans (bu.alloc _ _);generalize (Heap.alloc (Heap.alloc h (.cells (aq s))) (.cells [.int .i64 0,.ax]))=H1 at g0 g1 gn gx ⊢;have lz:ag none (.ptr h.next 0) H1=some (.int .i64 s.size):=by rw [aj g0];rfl
 have ha:iD [.int .i64 0,.ax] [(0,1)] [.int .i64 s.size]=some (.agg [.int .i64 s.size,.ax]):=rfl;obtain ⟨H2,qW,p2,po,pn⟩:=cx (h:=H1) (zs:=[.int .i64 0,.ax]) (cs:=[.int .i64 s.size,.ax]) (n:=2) rfl rfl rfl;rw [gn] at p2 po pn qW;have p0:H2.get h.next=some (.cells (aq s)):=by rw [po _ (by omega)];exact g0
 have p1:H2.get (h.next+1)=some (.cells [.int .i64 0,.ax]):=by rw [po _ (by omega)];exact g1
 have px:bu h H2:=⟨by omega,fun b hb=>by rw [po _ (by omega)];exact gx.get b hb⟩
 have lr:ag none (.ptr h.next 1) H2=some (ak aW 3 s.aC):=by rw [aj p0];rfl
 simp only [aR,reduceAdd,reduceEqDiff,reduceIte,lz,ha,gn,qW,lr]
 refine aD 0 s.aC.l.length (zero_le _) (fun i e h'=>∃ a l,h'.get (h.next+1)=some (.cells [.int .i64 0,.ax])/\h'.get (h.next+2)=some (.cells [.int .i64 s.size,a])/\RO (fun _=>False) (h.next+3) h' a l/\(l.map fun p=>bZ p.2)=(s.aC.l.take i).map bZ/\bu h h'/\h.next+3<=h'.next /\
  e 2 = .ptr (h.next+1) 0/\e 3 = .ptr (h.next+2) 0/\e 13=ak aW 3 s.aC/\e 14 = .int .i64 (s.aC.l.length:Int)/\e 15 = .int .i64 (i:Int)) ⟨_,[],p1,p2,.nil,rfl,px,by omega,rfl,rfl,rfl,rfl,rfl⟩ ?_ ?_
 ·rintro i e h' _ hi ⟨a,l,q1,q2,o,hl,qx,qn,e2,e3,oQ,pO,oP⟩ K' hn gi hr hp;have hv:s.aC.l[i]?=some s.aC.l[i]:=ez hi;generalize s.aC.l[i]=r at hv;have nV:=iz hv;have XO:l.length=i:=by have:=congrArg List.length hl;rw [length_map,length_map,length_take,Nat.min_eq_left (by omega)] at this;exact this
  obtain ⟨H3,Nb,p3,RP,Vb⟩:=cx (h:=h') (zs:=[.str [],.int .i64 0,.ax]) (cs:=aW r) (n:=3) rfl rfl (fY r);have uj:iD [.str [],.int .i64 0,.ax] [(0,1),(1,1)] [.str r.name,.int .i64 r.arity]=some (.agg [.str r.name,.int .i64 r.arity,.ax]):=rfl;have l0:ag none (.ptr h'.next 0) H3=some (.str r.name):=by rw [aj p3];rfl
  have l1:ag none (.ptr h'.next 1) H3=some (.int .i64 r.arity):=by rw [aj p3];rfl
  obtain ⟨H4,PS,p4,Mj,XY⟩:=cx (h:=H3) (zs:=[.str [],.int .i64 0,.ax]) (cs:=[.str r.name,.int .i64 r.arity,.ax]) (n:=3) rfl rfl rfl;rw [Vb] at PS p4 Mj XY;have x4:bu h' H4:=⟨by omega,fun b hb=>by rw [Mj b (by omega),RP b (by omega)]⟩
  have l2:ag none (.ptr h'.next 2) H4=some (ak cU 1 r.aM):=by rw [aj (show H4.get h'.next=some (.cells (aW r)) by rw [Mj _ (by omega)];exact p3)];rfl
  have vZ:=hs.Io r nV;have Wu:r.aM.l.length<=cE:=by unfold cE;omega
  rw [F.cJ.aT];simp only [oQ,pO,oP,aR,reduceAdd,reduceEqDiff,reduceIte,aZ hi,aV s.aC hi,dO eC hv,Nb];simp only [aR,reduceAdd,reduceEqDiff,reduceIte,l0,l1,uj,Vb,PS,l2]
  refine aD 0 r.aM.l.length (zero_le _) (fun j e h2=>∃ tv ts,h2.get (h'.next+1)=some (.cells [.str r.name,.int .i64 r.arity,tv])/\Own cU 1 (h'.next+2) h2 tv ts/\ts.map Sl.l=(r.aM.l.take j).map Sl.l/\bu h' h2/\h'.next+2<=h2.next /\
   e 2 = .ptr (h.next+1) 0/\e 3 = .ptr (h.next+2) 0/\e 13=ak aW 3 s.aC/\e 14 = .int .i64 (s.aC.l.length:Int)/\e 15 = .int .i64 (i:Int)/\e 6 = .ptr (h'.next+1) 0/\e 25=ak cU 1 r.aM/\e 26 = .int .i64 (r.aM.l.length:Int)/\e 27 = .int .i64 (j:Int))
   ⟨_,[],p4,.nil,rfl,x4,by omega,e2,e3,oQ,pO,oP,rfl,rfl,rfl,rfl⟩ ?_ ?_
  ·rintro j e h2 _ hj ⟨tv,ts,q6,ot,Kj,x2,RQ,e2,e3,oQ,pO,oP,e6,Mk,xq,wL⟩ K2 qR fo qL DY;have zx:r.aM.l[j]?=some r.aM.l[j]:=ez hj;generalize r.aM.l[j]=t at zx;have acJ:ts.length=j:=by have:=congrArg List.length Kj;rw [length_map,length_map,length_take,Nat.min_eq_left (by omega)] at this;exact this
   have lt:ag none (.ptr (h'.next+1) 2) h2=some tv:=by rw [aj q6];rfl
   rw [F.cJ.dm];simp only [e6,Mk,xq,wL,aR,reduceAdd,reduceEqDiff,reduceIte,aZ hj,aV r.aM hj,gK zx,lt];refine ai (oC (by have:=hs.YZ r nV t (iz zx);omega) fun y hy=>?_);obtain ⟨a5,h5,c5,o5,f5,n5,w5,b5⟩:=ot.push rF Er RQ (bytes:=24) (by rw [hm];omega) y;have hne:cL tv≠some (h'.next+1):=fun hb=>by have:=ot.ge hb;omega
   have s6:h5.get (h'.next+1)=some (.cells [.str r.name,.int .i64 r.arity,tv]):=by rw [f5 _ (by omega) hne];exact q6
   have c6:=o5.lM
   have st:bf 1 (.ptr (h'.next+1) 2) a5 h5=some (h5.set (h'.next+1) (.cells [.str r.name,.int .i64 r.arity,a5])):=by
    rw [cK (n:=1) s6 c6.2.1 c6.1 (by simp),c6.2.2];rfl
   simp only [aR,reduceAdd,reduceEqDiff,reduceIte,lt,AV.beq_refl,Bool.and_self,if_true,NL,c5,e6,wL,st,aI hj Wu];refine qR _ _ ⟨a5,ts++[y],by rw [Heap.aP,if_pos rfl],o5.kM (by omega) _,?_,(w5 h' x2 (by omega)).set (by omega) _,by rw [Heap.bp];omega,e2,e3,oQ,pO,oP,e6,Mk,xq,rfl⟩;rw [map_append,Kj,take_add_one,zx,map_append];simp [hy]
  ·rintro e h2 ⟨tv,ts,q6,ot,Kj,x2,RQ,e2,e3,oQ,pO,oP,e6,Mk,xq,wL⟩ K2 fo;rw [jD (dK _)] at Kj;have o2:=o.ext x2;obtain ⟨Cu,KW⟩:=nD ot;have lq:ag (some 3) (.ptr (h'.next+1) 0) h2=some (.agg (iw (r.name,r.arity,⟨tv,Cu,KW⟩))):=by rw [aj q6];rfl
   have lo:ag none (.ptr (h.next+2) 1) h2=some a:=by rw [aj (show h2.get (h.next+2)=some (.cells [.int .i64 s.size,a]) by rw [x2.get _ (by omega)];exact q2)];rfl
   obtain ⟨x,jO,B5⟩:=(jM.AA ot nj).data;have Gx:x.l=ts:=by rw [jO,List.map_map];simp [Function.comp_def]
   obtain ⟨a5,h5,c5,o5,f5,n5,w5,b5⟩:=o2.push me v7 (by omega) (bytes:=48) (by have:=hs.aC;rw [hm];omega) (r.name,r.arity,⟨tv,Cu,KW⟩) ⟨r.name,r.arity,x⟩ (fun _ h=>h.elim)
    (fun g hg=>Mi (B5 g fun b b1 b2 _=>hg b (by omega) b2 (fun h=>h) (fun hb=>by have:=o.own.lt hb;omega)))
   have hne:cL a≠some (h.next+2):=fun hb=>by have:=o.own.ge hb;omega
   have XZ:cL a≠some (h.next+1):=fun hb=>by have:=o.own.ge hb;omega
   have s2:h5.get (h.next+2)=some (.cells [.int .i64 s.size,a]):=by rw [f5 _ (by omega) hne,x2.get _ (by omega)];exact q2
   have s1:h5.get (h.next+1)=some (.cells [.int .i64 0,.ax]):=by rw [f5 _ (by omega) XZ,x2.get _ (by omega)];exact q1
   have c6:=o5.own.lM
   have st:bf 1 (.ptr (h.next+2) 1) a5 h5=some (h5.set (h.next+2) (.cells [.int .i64 s.size,a5])):=by
    rw [cK (n:=1) s2 c6.2.1 c6.1 (by simp),c6.2.2];rfl
   rw [F.cJ.dm];simp only [xq,wL,aR,reduceAdd,reduceEqDiff,reduceIte,aS];rw [fo,F.cJ.cq];simp only [aR,reduceAdd,reduceEqDiff,reduceIte,e3,e6,oP,lo,lq,Mh,c5,st,aI hi hbig];refine hn _ _ ⟨a5,_,?_,?_,o5.low (by omega) _,?_,(w5 h (qx.trans x2) (by omega)).set (by omega) _,by rw [Heap.bp];omega,e2,e3,oQ,pO,rfl⟩
   ·rw [Heap.aP,if_neg (by omega)];exact s1
   ·rw [Heap.aP,if_pos rfl]
   ·rw [map_append,hl,take_add_one,hv,map_append];simp [bZ,Gx,Kj]
 ·rintro e h' ⟨a,l,q1,q2,o,hl,qx,qn,e2,e3,oQ,pO,oP⟩ K' gi;rw [jD (dK _)] at hl;have lo:ag (some 2) (.ptr (h.next+2) 0) h'=some (.agg [.int .i64 s.size,a]):=by rw [aj q2];rfl
  have c:=o.own.lM
  have B8:bx [.int .i64 s.size,a]=true:=by
   have:=c.1;rw [c.2.2] at this;simp only [bx,Bool.and_true] at this ⊢;rw [this];rfl
  have st:bf 2 (.ptr (h.next+1) 0) (.agg [.int .i64 s.size,a]) h'=some (h'.set (h.next+1) (.cells [.int .i64 s.size,a])):=by
   rw [cK (n:=2) (v:=.agg [.int .i64 s.size,a]) q1 rfl B8 (by simp)];rfl
  have RM:ag (some 2) (.ptr (h.next+1) 0) (h'.set (h.next+1) (.cells [.int .i64 s.size,a]))=some (.agg [.int .i64 s.size,a]):=by rw [aj (cs:=[.int .i64 s.size,a]) (by rw [Heap.aP,if_pos rfl])];rfl
  rw [F.cJ.aT];simp only [pO,oP,aR,reduceAdd,reduceEqDiff,reduceIte,aS];rw [gi,F.cJ.aF];simp only [bL,reduceEqDiff,reduceIte,e2,e3,lo,st,an,GJ,RM,oneOf];exact hK a _ l (qx.set (by omega) _) ((o.low (by omega) _).B3 (by omega)) hl
abbrev Lk:=b8->Nat->Bool
def lQ(n:Nat)(L:Lk)(r:aN)(vs:List Int):Bool:=r.body.l.all fun c=>eE n L c (de vs (cM r c))
def xu(n:Nat)(r:aN)(vs:List Int):Nat:=kS n (de vs (placesOf (varsOf r) r.args.l))
def zy(n:Nat)(r:aN)(vs:List Int):Prop:=vs.length=(varsOf r).length/\iY n vs=true
def lB(n:Nat)(rs:List aN)(L:Lk):Prop:=∀ r ∈ rs,∀ vs,zy n r vs->lQ n L r vs=true->L r.name (xu n r vs)=true
structure Over (rs:List aN) (L C:Lk):Prop where
 le:∀ nm k,L nm k=true->C nm k=true
 off:∀ nm,(∀ r ∈ rs,r.name≠nm)->∀ k,C nm k=L nm k
structure oD (n:Nat) (rs:List aN) (L L':Lk):Prop where
 over:Over rs L L'
 closed:lB n rs L'
 least:∀ C,Over rs L C->lB n rs C->∀ nm k,L' nm k=true->C nm k=true
theorem Over.refl(rs:List aN)(L:Lk):Over rs L L:=⟨fun _ _ h=>h,fun _ _ _=>rfl⟩
theorem oD.unique{L A B:Lk}(h:oD n rs L A)(g:oD n rs L B):A=B:=by
 funext nm k;rw [Bool.eq_iff_iff];exact ⟨h.least B g.over g.closed nm k,g.least A h.over h.closed nm k⟩
def Es(rs:List aN):Prop:=∀ r ∈ rs,∀ c ∈ r.body.l,c.kind=0->c.neg=true->∀ q ∈ rs,q.name≠c.name
theorem GK{A C:Lk}(hs:Es rs)(hle:∀ nm k,A nm k=true->C nm k=true)(afH:∀ nm,(∀ r ∈ rs,r.name≠nm)->∀ k,C nm k=A nm k)(hr:r ∈ rs)(hc:c ∈ r.body.l)(h:eE n A c t=true):eE n C c t=true:=by
 unfold eE at h ⊢;by_cases k0:c.kind=0
 ·rw [if_pos k0] at h ⊢
  cases hn:c.neg with
  |false=>
   rw [hn] at h;have:A c.name (kS n t)=true:=by simpa using h
   rw [hle _ _ this];rfl
  |true=>
   rw [hn] at h;rw [afH c.name (fun q hq=>hs r hr c hc k0 hn q hq)];exact h
 ·rw [if_neg k0] at h ⊢;exact h
inductive gN (n:Nat) (rs:List aN) (lv:eA.Lv) (L0:Lk):Nat->Lk->Prop
 |zero:gN n rs lv L0 0 L0
 |succ (l:Nat) (L L':Lk):gN n rs lv L0 l L->oD n (gL lv rs l) L L'->gN n rs lv L0 (l+1) L'
theorem gN.unique{n:Nat}{rs:List aN}{lv:eA.Lv}{L0:Lk}:∀ {l:Nat} {A B:Lk},gN n rs lv L0 l A->gN n rs lv L0 l B->A=B
 |0,A,B,h,g=>by cases h;cases g;rfl
 |l+1,A,B,h,g=>by
  cases h with
  |succ _ La _ ha la=>
   cases g with
   |succ _ Lb _ hb lb=>
    obtain rfl:=gN.unique ha hb;exact la.unique lb
theorem oD.nil{L:Lk}:oD n [] L L:=⟨.refl _ _,fun r hr=>(by cases hr),fun C ho _ nm k h=>ho.le nm k h⟩
theorem Iq{l:Nat}(h:∀ r ∈ rs,lv r.name<l):gL lv rs l = []:=by
 unfold gL;rw [filter_eq_nil_iff];intro r hr;have:=h r hr;simp;omega
theorem gN.more{n:Nat}{rs:List aN}{lv:eA.Lv}{L0:Lk}{t:Nat}{L:Lk}(h:gN n rs lv L0 t L)(ht:∀ r ∈ rs,lv r.name<t):∀ d,gN n rs lv L0 (t+d) L
 |0=>h
 |d+1=>by
  refine .succ (t+d) L L (gN.more h ht d) ?_;rw [Iq fun r hr=>by have:=ht r hr;omega];exact .nil
theorem gN.same{L0:Lk}{s t:Nat}{A B:Lk}(h:gN n rs lv L0 s A)(g:gN n rs lv L0 t B)(hs:∀ r ∈ rs,lv r.name<s)(ht:∀ r ∈ rs,lv r.name<t):A=B:=by
 have h1:=h.more hs t;have g1:=g.more ht s;rw [Nat.add_comm t s] at g1;exact h1.unique g1
def Et(rs:List aN)(lv:eA.Lv):Prop:=∀ r ∈ rs,∀ c ∈ r.body.l,c.kind=0->(∃ q ∈ rs,q.name=c.name)->lv c.name+(if c.neg=true then 1 else 0)<=lv r.name
theorem Et.acK(h:Et rs lv)(l:Nat):Es (gL lv rs l):=by
 intro r hr c hc k0 hn q hq e;unfold gL at hr hq;simp only [mem_filter,decide_eq_true_eq] at hr hq;have:=h r hr.1 c hc k0 ⟨q,hq.1,e⟩;rw [hn,if_pos rfl,<- e,hq.2,hr.2] at this;omega
theorem j6{l:Nat}:r ∈ gL lv rs l↔r ∈ rs/\lv r.name=l:=by
 unfold gL;simp [mem_filter]
theorem gN.rest{L0:Lk}{l:Nat}{A:Lk}(h:gN n rs lv L0 l A):∀ {t:Nat} {B:Lk},gN n rs lv L0 t B->l<=t->((∀ r ∈ rs,r.name≠nm)\/lv nm<l)->∀ k,B nm k=A nm k:=by
 intro t
 induction t with
 |zero=>
  intro B g hl hn k;have:l=0:=by omega
  subst this;rw [h.unique g]
 |succ t ih=>
  intro B g hl hn k;by_cases e:l=t+1
  ·subst e;rw [h.unique g]
  ·cases g with
   |succ _ L _ hg lg=>
    rw [<- ih hg (by omega) hn k];refine lg.over.off nm (fun r hr e'=>?_) k;obtain ⟨h1,h2⟩:=j6.1 hr;rcases hn with hn|hn
    ·exact hn r h1 e'
    ·rw [e'] at h2;omega
theorem O3{A B:Lk}(h:c.kind=0->∀ k,A c.name k=B c.name k)(t:List Int):eE n A c t=eE n B c t:=by
 unfold eE;by_cases k0:c.kind=0
 ·rw [if_pos k0,if_pos k0,h k0]
 ·rw [if_neg k0,if_neg k0]
theorem gN.split{n:Nat}{rs:List aN}{lv:eA.Lv}{L0:Lk}:∀ {t:Nat} {B:Lk},gN n rs lv L0 t B->∀ l,l<=t->∃ A,gN n rs lv L0 l A
 |0,B,h,l,hl=>⟨B,by obtain rfl:l=0:=by omega
                    exact h⟩
 |t+1,B,h,l,hl=>by
  by_cases e:l=t+1
  ·subst e;exact ⟨B,h⟩
  ·cases h with
   |succ _ L _ hg lg=>exact gN.split hg l (by omega)
theorem gN.RR{L0:Lk}(FH:Et rs lv){t:Nat}{B A:Lk}(hr:r ∈ rs)(g:gN n rs lv L0 t B)(h:gN n rs lv L0 (lv r.name+1) A)(ht:lv r.name+1<=t)(vs:List Int):lQ n B r vs=lQ n A r vs:=by
 unfold lQ;rw [Bool.eq_iff_iff,List.all_eq_true,List.all_eq_true]
 have key:∀ c ∈ r.body.l,eE n B c (de vs (cM r c))=eE n A c (de vs (cM r c)):=fun c hc=>by
  refine O3 (fun k0 k=>?_) _;refine h.rest g ht ?_ k;by_cases hd:∃ q ∈ rs,q.name=c.name
  ·exact .inr (by have:=FH r hr c hc k0 hd;omega)
  ·exact .inl fun q hq e=>hd ⟨q,hq,e⟩
 exact ⟨fun h1 c hc=>by rw [<- key c hc];exact h1 c hc,fun h1 c hc=>by rw [key c hc];exact h1 c hc⟩
theorem gN.closed{n:Nat}{rs:List aN}{lv:eA.Lv}{L0:Lk}(FH:Et rs lv){t:Nat}{B:Lk}(g:gN n rs lv L0 t B)(ht:∀ r ∈ rs,lv r.name<t):lB n rs B:=by
 intro r hr vs ha hb;have hlt:=ht r hr;obtain ⟨A,hA⟩:=g.split (lv r.name+1) hlt;rw [g.RR FH hr hA hlt] at hb
 have h2:A r.name (xu n r vs)=true:=by
  cases hA with
  |succ _ L _ hg lg=>exact lg.closed r (j6.2 ⟨hr,rfl⟩) vs ha hb
 rw [hA.rest g hlt (.inr (by omega))];exact h2
theorem AB{p:Nat×List Bool}(hp:D nm=some p){rk:Nat}(Ct:rk<p.2.length)(x:b8)(k:Nat):dz (kz D nm p.1 (p.2.set rk true)) x k=(dz D x k||(decide (x=nm)&&decide (k=rk))):=by
 unfold dz kz;by_cases hx:x=nm
 ·subst hx;rw [if_pos rfl,hp];simp only [decide_true,Bool.true_and];by_cases hk:k=rk
  ·subst hk;rw [getD_eq_getElem?_getD,getElem?_set,if_pos rfl,if_pos Ct];simp
  ·rw [getD_eq_getElem?_getD,getElem?_set,if_neg (fun e=>hk e.symm),<- getD_eq_getElem?_getD,eT hk,Bool.or_false]
 ·rw [if_neg hx,eT hx,Bool.false_and,Bool.or_false]
theorem X0(a b:Int):a<=NA a b/\b<=NA a b:=by unfold NA;split<;>omega
theorem yh:∀ (ps:List Nat) (a:Int),a<=ps.foldl (fun a (p:Nat)=>NA a (p:Int)) a/\∀ p ∈ ps,(p:Int)<=ps.foldl (fun a (p:Nat)=>NA a (p:Int)) a
 |[],a=>⟨Int.le_refl _,fun p hp=>by cases hp⟩
 |q :: ps,a=>by
  have h:=yh ps (NA a (q:Int));have g:=X0 a (q:Int);refine ⟨by simp only [foldl_cons];omega,fun p hp=>?_⟩;simp only [foldl_cons];rcases mem_cons.1 hp with rfl|hp
  ·omega
  ·exact h.2 p hp
theorem u9{p:Nat}(hp:p ∈ ps):(p:Int)<=iu ps:=(yh ps (-1)).2 p hp
theorem RT{k:Nat}(h:∀ p ∈ ps,p<k):iu ps<(k:Int):=by
 unfold iu
 have:∀ (ps:List Nat) (a:Int),a<(k:Int)->(∀ p ∈ ps,p<k)->ps.foldl (fun a (p:Nat)=>NA a (p:Int)) a<(k:Int):=by
  intro ps
  induction ps with
  |nil=>intro a ha _;exact ha
  |cons q ps ih=>
   intro a ha hq;simp only [foldl_cons];refine ih _ ?_ fun p hp=>hq p (mem_cons_of_mem _ hp);have:=hq q mem_cons_self;unfold NA;split<;>omega
 exact this ps (-1) (by omega) h
theorem GL(ps:List Nat):-1<=iu ps:=(yh ps (-1)).1
theorem oE{a b:List Int}(h:∀ p ∈ ps,a.getD p 0=b.getD p 0):de a ps=de b ps:=by
 unfold de;exact map_congr_left h
theorem NM(hc:c ∈ r.body.l):iu (cM r c)<((varsOf r).length:Int):=RT (mc (vQ hc))
theorem getD_set_ne{a:List Int}(h:i≠v)(x:Int):(a.set v x).getD i 0=a.getD i 0:=by
 rw [getD_eq_getElem?_getD,getElem?_set,if_neg (fun e=>h e.symm),<- getD_eq_getElem?_getD]
theorem mg{a:List Int}(h:v<a.length)(x:Int):(a.set v x).getD v 0=x:=by
 rw [getD_eq_getElem?_getD,getElem?_set,if_pos rfl,if_pos h];rfl
theorem mh{L:Lk}{u:Int}:B4 n L r vs u=true↔∀ c ∈ r.body.l,iu (cM r c)=u->eE n L c (de vs (cM r c))=true:=by
 unfold B4;rw [List.all_eq_true];refine ⟨fun h c hc e=>?_,fun h c hc=>?_⟩
 ·have:=h c hc;rw [fh e] at this;exact this
 ·by_cases e:iu (cM r c)=u
  ·rw [h c hc e,Bool.or_true]
  ·rw [eT e];rfl
structure Mid (rs:List aN) (L C:Lk) (s:DB×Bool):Prop where
 over:Over rs L (dz s.1)
 le:∀ nm k,dz s.1 nm k=true->C nm k=true
theorem Mid.off{rs:List aN}{L C:Lk}{s:DB×Bool}(m:Mid rs L C s)(hC:Over rs L C):∀ nm,(∀ r ∈ rs,r.name≠nm)->∀ k,C nm k=dz s.1 nm k:=fun nm hn k=>by rw [hC.off nm hn,m.over.off nm hn]
theorem Vc{L C:Lk}(hcl:lB n rs C)(hr:r ∈ rs)(ha:zy n r vs)(oG:lQ n C r vs=true)(hh:∀ p,s.1 r.name=some p->p.2.length=n ^ r.args.l.length)(m:Mid rs L C s):Mid rs L C (tQ n r vs s):=by
 unfold tQ
 cases hp:s.1 r.name with
 |none=>exact m
 |some p=>
  simp only;split
  ·exact m
  ·have qJ:∀ p ∈ placesOf (varsOf r) r.args.l,p<vs.length:=by rw [ha.1];exact mc oR
   have nZ:(placesOf (varsOf r) r.args.l).length=r.args.l.length:=by unfold placesOf;simp
   have Ct:kS n (de vs (placesOf (varsOf r) r.args.l))<p.2.length:=by
    have:=qO (oS ha.2 qJ);rw [lK,nZ] at this;rw [hh p hp];exact this
   have hC:=hcl r hr vs ha oG;unfold xu at hC;refine ⟨⟨fun nm k h=>?_,fun nm hn k=>?_⟩,fun nm k h=>?_⟩
   ·simp only [AB hp Ct,m.over.le nm k h,Bool.true_or]
   ·simp only [AB hp Ct,eT (fun e:nm=r.name=>hn r hr e.symm),Bool.false_and,Bool.or_false];exact m.over.off nm hn k
   ·simp only [AB hp Ct,or_eq_true,and_eq_true,decide_eq_true_eq] at h;rcases h with h|⟨rfl,rfl⟩
    ·exact m.le nm k h
    ·exact hC
theorem NO{N:Nat}(h:∀ p,s.1 nm=some p->p.2.length=N):∀ p,(tQ n r vs s).1 nm=some p->p.2.length=N:=by
 intro p hp;unfold tQ at hp
 cases hq:s.1 r.name with
 |none=>rw [hq] at hp;exact h p hp
 |some q=>
  rw [hq] at hp;simp only at hp;split at hp
  ·exact h p hp
  ·unfold kz at hp;simp only at hp;split at hp
   ·rename_i e;subst e;cases hp;simp only [length_set];exact h q hq
   ·exact h p hp
theorem GM{n:Nat}{rs:List aN}{L C:Lk}(hs:Es rs)(hC:Over rs L C)(hcl:lB n rs C){r:aN}(hr:r ∈ rs):∀ (m v:Nat) (vs:List Int) (s:DB×Bool),v+m=(varsOf r).length->zy n r vs->Mid rs L C s->(∀ p,s.1 r.name=some p->p.2.length=n ^ r.args.l.length) ->
  (∀ c ∈ r.body.l,iu (cM r c)<(v:Int)->eE n C c (de vs (cM r c))=true) ->
  Mid rs L C (gq (fun s=>s.1) (tQ n r) n r m v vs s).2/\(∀ p,(gq (fun s=>s.1) (tQ n r) n r m v vs s).2.1 r.name=some p->p.2.length=n ^ r.args.l.length)/\zy n r (gq (fun s=>s.1) (tQ n r) n r m v vs s).1/\∀ i,i<v->(gq (fun s=>s.1) (tQ n r) n r m v vs s).1.getD i 0=vs.getD i 0
 |0,v,vs,s,hv,ha,hm,hl,hc=>by
  refine ⟨Vc hcl hr ha ?_ hl hm,NO hl,ha,fun _ _=>rfl⟩;unfold lQ;rw [List.all_eq_true];intro c vR;refine hc c vR ?_;have:=NM vR;omega
 |m+1,v,vs,s,hv,ha,hm,hl,hc=>by
  refine jH (P:=fun (a:List Int×(DB×Bool))=>Mid rs L C a.2/\(∀ p,a.2.1 r.name=some p->p.2.length=n ^ r.args.l.length)/\zy n r a.1/\∀ i,i<v->a.1.getD i 0=vs.getD i 0) ⟨hm,hl,ha,fun _ _=>rfl⟩ fun a x hx hP=>?_;obtain ⟨p1,p2,p3,p4⟩:=hP;have OT:=mem_range.1 hx;have NH:zy n r (a.1.set v (x:Int)):=⟨by rw [length_set];exact p3.1,nC p3.2 v OT⟩
  have uj:∀ i,i<v->(a.1.set v (x:Int)).getD i 0=vs.getD i 0:=fun i hi=>by rw [getD_set_ne (by omega)];exact p4 i hi
  unfold jg;split
  ·rename_i nk;rw [mh] at nk
   obtain ⟨q1,q2,q3,q4⟩:=GM hs hC hcl hr m (v+1) (a.1.set v (x:Int)) a.2 (by omega) NH p1 p2 fun c vR hlt=>by
    by_cases e:iu (cM r c)=(v:Int)
    ·exact GK hs p1.le (p1.off hC) hr vR (nk c vR e)
    ·have FH:iu (cM r c)<(v:Int):=(by omega);rw [oE (b:=vs) fun p hp=>uj p (by have:=u9 hp;omega)];exact hc c vR FH
   exact ⟨q1,q2,q3,fun i hi=>by rw [q4 i (by omega)];exact uj i hi⟩
  ·exact ⟨p1,p2,NH,uj⟩
theorem Ml(n1:1<=n){L C:Lk}(hs:Es rs)(hC:Over rs L C)(hcl:lB n rs C)(hr:r ∈ rs)(hm:Mid rs L C s)(hl:∀ p,s.1 r.name=some p->p.2.length=n ^ r.args.l.length):Mid rs L C (kO n r s):=by
 unfold kO tc;split
 ·rename_i nk;rw [mh] at nk;have ha:zy n r (replicate (varsOf r).length 0):=⟨by simp,vT n1 _⟩
  refine (GM hs hC hcl hr (varsOf r).length 0 _ s (by omega) ha hm hl fun c vR hlt=>?_).1;have h1:=GL (cM r c);exact GK hs hm.le (hm.off hC) hr vR (nk c vR (by omega))
 ·exact hm
def og(n:Nat)(rs:List aN)(D:DB):Prop:=∀ r ∈ rs,∀ p,D r.name=some p->p.2.length=n ^ r.args.l.length
theorem O4(h:og n rs s.1):og n rs (tQ n r vs s).1:=fun q hq=>NO (h q hq)
theorem Ir(n1:1<=n)(h:og n rs s.1):og n rs (kO n r s).1:=sJ (Q:=fun s:DB×Bool=>og n rs s.1) n1 (fun vs s _ _ h=>O4 h) h
theorem O5(n1:1<=n){L C:Lk}(hs:Es rs)(hC:Over rs L C)(hcl:lB n rs C)(hm:Mid rs L C s)(hl:og n rs s.1):Mid rs L C (mN n rs s)/\og n rs (mN n rs s).1:=by
 unfold mN;exact jH (P:=fun s:DB×Bool=>Mid rs L C s/\og n rs s.1) ⟨hm,hl⟩ fun s r hr h=>⟨Ml n1 hs hC hcl hr h.1 (h.2 r hr),Ir n1 h.2⟩
theorem GN(n1:1<=n){C:Lk}(hs:Es rs)(hC:Over rs (dz D0) C)(hcl:lB n rs C)(hl:og n rs D0)(hr:Reach n rs D0 D):Mid rs (dz D0) C (D,false)/\og n rs D:=by
 induction hr with
 |refl=>exact ⟨⟨.refl _ _,hC.le⟩,hl⟩
 |step D _ ih=>
  obtain ⟨h1,h2⟩:=O5 n1 hs hC hcl ih.1 ih.2;exact ⟨⟨h1.over,h1.le⟩,h2⟩
def Still(s0 s:DB×Bool):Prop:=s.2=false->s=s0
theorem O6{s0:DB×Bool}(h:Still s0 s):Still s0 (tQ n r vs s):=by
 intro hf;unfold tQ at hf ⊢
 cases hp:s.1 r.name with
 |none=>rw [hp] at hf;exact h hf
 |some p=>
  rw [hp] at hf;simp only at hf ⊢;split at hf
  ·rename_i e;rw [if_pos e];exact h hf
  ·cases hf
theorem va{n:Nat}{r:aN}{s0:DB×Bool}:∀ (m v:Nat) (vs:List Int) (s:DB×Bool),Still s0 s->Still s0 (gq (fun s=>s.1) (tQ n r) n r m v vs s).2
 |0,v,vs,s,h=>O6 h
 |m+1,v,vs,s,h=>by
  refine jH (P:=fun (a:List Int×(DB×Bool))=>Still s0 a.2) h fun a x _ ha=>?_;unfold jg;split
  ·exact va m (v+1) _ _ ha
  ·exact ha
theorem zA{s0:DB×Bool}(h:Still s0 s):Still s0 (kO n r s):=by
 unfold kO tc;split
 ·exact va _ _ _ _ h
 ·exact h
theorem sL{α β:Type}{st:α->DB×Bool}{f:α->β->α}(hf:∀ s0 a b,Still s0 (st a)->Still s0 (st (f a b))):∀ (l:List β) (a:α) {D:DB},st (l.foldl f a)=(D,false)->st a=(D,false)
 |[],a,D,h=>h
 |b :: l,a,D,h=>by
  have h1:=sL hf l (f a b) h;have h2:Still (st a) (st (f a b)):=hf (st a) a b (fun _=>rfl);rw [<- h2 (by rw [h1]),h1]
theorem Eu{β:Type}{f:α->β->α}{l:List β}{b:β}(hb:b ∈ l)(a:α):∃ l1 l2,l=l1++b :: l2/\l.foldl f a=l2.foldl f (f (l1.foldl f a) b):=by
 obtain ⟨l1,l2,h⟩:=append_of_mem hb;exact ⟨l1,l2,h,by rw [h,foldl_append,foldl_cons]⟩
theorem Bp{m:Nat}(s0:DB×Bool)(a:List Int×(DB×Bool))(x:Nat)(h:Still s0 a.2):Still s0 (jg (fun s=>s.1) n r v (gq (fun s=>s.1) (tQ n r) n r m (v+1)) a x).2:=by
 unfold jg;split
 ·exact va m (v+1) _ _ h
 ·exact h
theorem Bq{n:Nat}{r:aN}:∀ (m v:Nat) (vs:List Int) (s:DB×Bool),zy n r vs->zy n r (gq (fun s=>s.1) (tQ n r) n r m v vs s).1/\∀ i,i<v->(gq (fun s=>s.1) (tQ n r) n r m v vs s).1.getD i 0=vs.getD i 0
 |0,v,vs,s,ha=>⟨ha,fun _ _=>rfl⟩
 |m+1,v,vs,s,ha=>by
  refine jH (P:=fun (a:List Int×(DB×Bool))=>zy n r a.1/\∀ i,i<v->a.1.getD i 0=vs.getD i 0) ⟨ha,fun _ _=>rfl⟩ fun a y hy hP=>?_;have hyn:y<n:=mem_range.1 hy;have NH:zy n r (a.1.set v (y:Int)):=⟨by rw [length_set];exact hP.1.1,nC hP.1.2 v hyn⟩
  have RU:∀ i,i<v->(a.1.set v (y:Int)).getD i 0=vs.getD i 0:=fun i hi=>by rw [getD_set_ne (by omega)];exact hP.2 i hi
  unfold jg;split
  ·obtain ⟨w1,w2⟩:=Bq m (v+1) (a.1.set v (y:Int)) a.2 NH;exact ⟨w1,fun i hi=>by rw [w2 i (by omega)];exact RU i hi⟩
  ·exact ⟨NH,RU⟩
theorem GO{n:Nat}{r:aN}{D:DB}(hD:∃ p,D r.name=some p):∀ (m v:Nat) (vs:List Int),v+m=(varsOf r).length->zy n r vs->(gq (fun s=>s.1) (tQ n r) n r m v vs (D,false)).2=(D,false) ->
  ∀ us,zy n r us->(∀ i,i<v->us.getD i 0=vs.getD i 0)->lQ n (dz D) r us=true->dz D r.name (xu n r us)=true
 |0,v,vs,hv,ha,hf,us,hu,uj,oG=>by
  obtain ⟨p,hp⟩:=hD
  have:us=vs:=by
   refine ext_getElem? fun i=>?_;by_cases hi:i<(varsOf r).length
   ·have:=uj i (by omega);rw [getD_eq_getElem?_getD,getD_eq_getElem?_getD,ez (by rw [hu.1];exact hi),ez (by rw [ha.1];exact hi)] at this;rw [ez (by rw [hu.1];exact hi),ez (by rw [ha.1];exact hi)];exact congrArg some this
   ·rw [getElem?_eq_none (by rw [hu.1];omega),getElem?_eq_none (by rw [ha.1];omega)]
  subst this;have hf':tQ n r us (D,false)=(D,false):=hf;unfold tQ at hf';simp only [hp] at hf';unfold dz xu;simp only [hp];split at hf'
  ·assumption
  ·exact absurd (congrArg Prod.snd hf') (by simp)
 |m+1,v,vs,hv,ha,hf,us,hu,uj,oG=>by
  have A9:v<us.length:=by rw [hu.1];omega
  have hin:=Rh hu.2 (ez A9);obtain ⟨x,hx⟩:∃ x:Nat,us[v]=(x:Int):=⟨us[v].toNat,by omega⟩
  have OT:x<n:=by omega
  have hux:us.getD v 0=(x:Int):=by rw [getD_eq_getElem?_getD,ez A9];exact hx
  have hf0:((List.range n).foldl (jg (fun s=>s.1) n r v (gq (fun s=>s.1) (tQ n r) n r m (v+1))) (vs,((D,false):DB×Bool))).2=(D,false):=hf;obtain ⟨l1,l2,hl,hfo⟩:=Eu (f:=jg (fun s=>s.1) n r v (gq (fun s=>s.1) (tQ n r) n r m (v+1))) (mem_range.2 OT) (vs,((D,false):DB×Bool));rw [hfo] at hf0;have h1:=sL (st:=fun a:List Int×(DB×Bool)=>a.2) (fun s0 a b h=>Bp s0 a b h) l2 _ hf0
  have Vd:(l1.foldl (jg (fun s=>s.1) n r v (gq (fun s=>s.1) (tQ n r) n r m (v+1))) (vs,((D,false):DB×Bool))).2=(D,false):=by
   have h2:=Bp (m:=m) (n:=n) (r:=r) (v:=v) _ (l1.foldl (jg (fun s=>s.1) n r v (gq (fun s=>s.1) (tQ n r) n r m (v+1))) (vs,((D,false):DB×Bool))) x (fun _=>rfl);exact (h2 (congrArg Prod.snd h1)).symm.trans h1
  have l9:zy n r (l1.foldl (jg (fun s=>s.1) n r v (gq (fun s=>s.1) (tQ n r) n r m (v+1))) (vs,((D,false):DB×Bool))).1/\∀ i,i<v->(l1.foldl (jg (fun s=>s.1) n r v (gq (fun s=>s.1) (tQ n r) n r m (v+1))) (vs,((D,false):DB×Bool))).1.getD i 0=vs.getD i 0:=by
   refine jH (P:=fun (a:List Int×(DB×Bool))=>zy n r a.1/\∀ i,i<v->a.1.getD i 0=vs.getD i 0) ⟨ha,fun _ _=>rfl⟩ fun a y hy hP=>?_;have hyn:y<n:=mem_range.1 (by rw [hl];exact mem_append_left _ hy);have NH:zy n r (a.1.set v (y:Int)):=⟨by rw [length_set];exact hP.1.1,nC hP.1.2 v hyn⟩
   have RU:∀ i,i<v->(a.1.set v (y:Int)).getD i 0=vs.getD i 0:=fun i hi=>by rw [getD_set_ne (by omega)];exact hP.2 i hi
   unfold jg;split
   ·obtain ⟨w1,w2⟩:=Bq (n:=n) (r:=r) m (v+1) (a.1.set v (y:Int)) a.2 NH;exact ⟨w1,fun i hi=>by rw [w2 i (by omega)];exact RU i hi⟩
   ·exact ⟨NH,RU⟩
  generalize US:l1.foldl (jg (fun s=>s.1) n r v (gq (fun s=>s.1) (tQ n r) n r m (v+1))) (vs,((D,false):DB×Bool))=acc at h1 Vd l9;obtain ⟨av,sv⟩:=acc;replace Vd:sv=(D,false):=Vd;subst Vd
  have acL:∀ i,i<v+1->us.getD i 0=(av.set v (x:Int)).getD i 0:=fun i hi=>by
   by_cases e:i=v
   ·subst e;rw [hux,mg (by rw [l9.1.1];omega)]
   ·rw [getD_set_ne e,l9.2 i (by omega)];exact uj i (by omega)
  have nk:B4 n (dz D) r (av.set v (x:Int)) (v:Int)=true:=by
   rw [mh];intro c hc e;rw [oE (b:=us) fun p hp=>(acL p (by have:=u9 hp;omega)).symm];unfold lQ at oG;rw [List.all_eq_true] at oG;exact oG c hc
  unfold jg at h1;simp only [nk,if_true] at h1;exact GO hD m (v+1) (av.set v (x:Int)) (by omega) ⟨by rw [length_set];exact l9.1.1,nC l9.1.2 v OT⟩ h1 us hu acL oG
theorem Mm(n1:1<=n)(hD:∃ p,D r.name=some p)(h:kO n r (D,false)=(D,false))(us:List Int)(hu:zy n r us)(oG:lQ n (dz D) r us=true):dz D r.name (xu n r us)=true:=by
 unfold kO tc at h
 have nk:B4 n (dz D) r (replicate (varsOf r).length 0) (-1)=true:=by
  rw [mh];intro c hc e
  have yp:cM r c = []:=by
   cases tu:cM r c with
   |nil=>rfl
   |cons p ps=>
    have:=u9 (ps:=cM r c) (p:=p) (by rw [tu];exact mem_cons_self);omega
  unfold lQ at oG;rw [List.all_eq_true] at oG;have:=oG c hc;rw [yp] at this ⊢;exact this
 simp only [nk,if_true] at h;exact GO hD (varsOf r).length 0 _ (by omega) ⟨by simp,vT n1 _⟩ h us hu (fun i hi=>by omega) oG
theorem O7(n1:1<=n)(hD:∀ r ∈ rs,∃ p,D r.name=some p)(h:mN n rs (D,false)=(D,false)):lB n rs (dz D):=by
 intro r hr us hu oG;obtain ⟨l1,l2,hl,hfo⟩:=Eu (f:=fun s r=>kO n r s) hr ((D,false):DB×Bool);unfold mN at h;rw [hfo] at h;have h1:=sL (st:=fun a:DB×Bool=>a) (f:=fun s r=>kO n r s) (fun s0 a b h=>zA h) l2 _ h;have h2:=sL (st:=fun a:DB×Bool=>a) (f:=fun s (r:aN)=>kO n r s) (fun s0 a b h=>zA h) [r] (l1.foldl (fun s r=>kO n r s) (D,false)) (D:=D) (by simpa using h1);replace h2:l1.foldl (fun s r=>kO n r s) ((D,false):DB×Bool)=(D,false):=h2;rw [h2] at h1;exact Mm n1 (hD r hr) h1 us hu oG
theorem O8(n1:1<=n)(hr:Reach n rs D0 D)(h:∃ p,D0 nm=some p):∃ p,D nm=some p:=by
 induction hr with
 |refl=>exact h
 |step D _ ih=>
  show ∃ p,(mN n rs (D,false)).1 nm=some p;unfold mN;refine jH (P:=fun s:DB×Bool=>∃ p,s.1 nm=some p) ih fun s r _ hs=>?_;refine sJ (Q:=fun s:DB×Bool=>∃ p,s.1 nm=some p) n1 (fun vs s _ _ hs=>?_) hs;obtain ⟨p,hp⟩:=hs;unfold tQ
  cases hq:s.1 r.name with
  |none=>exact ⟨p,hp⟩
  |some q=>
   simp only;split
   ·exact ⟨p,hp⟩
   ·unfold kz;by_cases e:nm=r.name
    ·exact ⟨_,if_pos e⟩
    ·exact ⟨p,by simp only [if_neg e];exact hp⟩
theorem Kk(n1:1<=n)(hs:Es rs)(hl:og n rs D0)(hD:∀ r ∈ rs,∃ p,D0 r.name=some p)(hr:Reach n rs D0 D)(hp:mN n rs (D,false)=(D,false)):oD n rs (dz D0) (dz D):=by
 have hcl:=O7 n1 (fun r hq=>O8 n1 hr (hD r hq)) hp;refine ⟨?_,hcl,fun C hC hcC=>(GN n1 hs hC hcC hl hr).1.le⟩
 have top:Over rs (dz D0) (fun nm k=>if (∃ r ∈ rs,r.name=nm) then true else dz D0 nm k):=⟨fun nm k h=>by
   by_cases e:∃ r ∈ rs,r.name=nm
   ·simp [e]
   ·simp [e,h],fun nm hn k=>by
   rw [if_neg];rintro ⟨r,h1,h2⟩
   exact hn r h1 h2⟩
 exact (GN (C:=fun nm k=>if (∃ r ∈ rs,r.name=nm) then true else dz D0 nm k) n1 hs top (fun r hr vs _ _=>if_pos ⟨r,hr,rfl⟩) hl hr).1.over
theorem og.OV{A B:DB}(h:og n rs A)(hd:eM B A):og n rs B:=fun r hr p hp=>by
 obtain ⟨p0,h1,_,h3⟩:=hd.back hp;rw [h3];exact h r hr p0 h1
theorem Mn(n1:1<=n)(hr:Reach n rs D0 D):eM D D0:=by
 induction hr with
 |refl=>exact fun _=>rfl
 |step D _ ih=>
  show eM (mN n rs (D,false)).1 D0;unfold mN;refine jH (P:=fun s:DB×Bool=>eM s.1 D0) ih fun s r _ hs=>?_;refine sJ (Q:=fun s:DB×Bool=>eM s.1 D0) n1 (fun vs s _ _ hs=>?_) hs;unfold tQ
  cases hq:s.1 r.name with
  |none=>exact hs
  |some q=>
   simp only;split
   ·exact hs
   ·exact hs.set hq (by simp)
theorem O9(n1:1<=n)(FH:Et rs lv)(hl:og n rs D0)(hD:∀ r ∈ rs,∃ p,D0 r.name=some p):∀ {t:Nat} {D:DB},GC n rs lv D0 t D->gN n rs lv (dz D0) t (dz D)/\eM D D0:=by
 intro t D h
 induction h with
 |zero=>exact ⟨.zero,fun _=>rfl⟩
 |succ l D D' _ hr hp ih=>
  have hd:=(Mn n1 hr).trans ih.2;refine ⟨.succ l _ _ ih.1 (Kk n1 (FH.acK l) (fun r hr=>hl.OV ih.2 r (j6.1 hr).1) (fun r hr=>?_) hr hp),hd⟩;obtain ⟨p,h1⟩:=hD r (j6.1 hr).1;obtain ⟨q,h2,_⟩:=ih.2.get h1;exact ⟨q,h2⟩
theorem pY(n:Nat):∀ k r,(nM n k r).length=k
 |0,_=>rfl
 |k+1,r=>by rw [nM,length_append,pY n k];rfl
def Mo(es:List Entry)(ck:Nat)(m:eP):Prop:=kr es m/\j4 es ck/\(m.map (·.1)).Nodup
theorem zB{v w:AV}{m:eP}(hP:h.get P=some (.cells [v,.map M,w]))(hM:h.get M=some (.map es ck))(hm0:Mo es ck m)(SM:P<h.next)(XK:M<h.next){xs:Sl b8}
  (hK:∀ h' yE HG,h'.get M=some (.map yE HG)->Mo yE HG (m.r9 nm xs.l.length)->(∀ b,b<h.next->b≠M->h'.get b=h.get b)->h.next<=h'.next->K (.ret (.bool (OQ m nm xs.l.length))) h'=true) :
  Sem TP 139 [.ptr P 0,.agg [.str nm,ak encS 1 xs]] h K:=by
 obtain ⟨hm,hB,Rw⟩:=hm0;unfold OQ at hK;refine F.rB ?_;rw [F.sq];have hb:eW (.agg [.str nm,ak encS 1 xs])=some (iO nm xs):=dg (Ap nm xs);simp only [hb,an];have g0:(Heap.alloc h (.cells (iO nm xs))).get h.next=some (.cells (iO nm xs)):=aA _ _
 have gP:(Heap.alloc h (.cells (iO nm xs))).get P=some (.cells [v,.map M,w]):=by rw [Heap.aQ,if_neg (by omega)];exact hP
 have gM:(Heap.alloc h (.cells (iO nm xs))).get M=some (.map es ck):=by rw [Heap.aQ,if_neg (by omega)];exact hM
 have gx:bu h (Heap.alloc h (.cells (iO nm xs))):=bu.alloc _ _;generalize (Heap.alloc h (.cells (iO nm xs)))=H at g0 gP gM gx ⊢;have UO:∀ x,(H.set M x).get h.next=some (.cells (iO nm xs)):=fun x=>by rw [Heap.aP,if_neg (by omega)];exact g0
 obtain ⟨yE,HG,hu,X1⟩:=Da gM hm nm xs.l.length;simp only [aR,reduceAdd,reduceEqDiff,reduceIte,cp,aj gP,aj g0,iO,se gM hm,hu];have fin:=hK (H.set M (.map yE HG)) yE HG (by rw [Heap.aP,if_pos rfl]) ⟨X1,xj gM hB hu (by rw [Heap.aP,if_pos rfl]),Gr Rw nm _⟩ (fun b hb hne=>by rw [Heap.aP,if_neg hne];exact gx.get b hb) (by rw [Heap.bp];exact gx.next)
 cases hf:m.find nm with
 |none=>
  rw [hf] at fin;simp only [isSome_none,Bool.not_false,aL];exact fin
 |some k=>
  rw [hf] at fin;simp only [isSome_some,Bool.not_true,aK,getD_some,aR,reduceAdd,reduceEqDiff,reduceIte,aj (UO _),iO,cI];exact fin
set_option maxHeartbeats 1000000 in
theorem Pb(l9:∀ r ∈ rules.l,r.ok)(iV:∀ r ∈ rules.l,r.lJ)
  (yp:¬ k8 rules.l->∀ h',(∀ b,b<h.next->h'.get b=h.get b)->K (.ret (.tuple [.eH,.bool false])) h'=true)
  (As:∀ h' P A M ks k,k8 rules.l->eA.dA (bO rules.l) (eA.iter (bO rules.l) k)->h'.get P=some (.cells [ak aO 3 rules,.map A,.map M])->fK (bA rules.l) h' M ks (eA.iter (bO rules.l) k)->ks.Nodup->P<h'.next->M<h'.next->∀ m es ck,dR rules.l []=some m->h'.get A=some (.map es ck)->Mo es ck m->h.next<=A->A<M->M<P->(∀ b,b<h.next->h'.get b=h.get b)->K (.ret (.tuple [.ptr P 0,.bool true])) h'=true):Sem TP 98 [ak aO 3 rules] h K:=by
 refine F.HM ?_;rw [F.Jz];simp only [Heap.aJ,ab6,ab7,an]
 have gA:(Heap.alloc (Heap.alloc (Heap.alloc h (.map [] 0)) (.map [] 0)) (.cells [ak aO 3 rules,.map h.next,.map (h.next+1)])).get h.next=some (.map [] 0):=by
  rw [Heap.aQ,Heap.aJ,Heap.aJ,if_neg (by omega),Heap.aQ,Heap.aJ,if_neg (by omega)];exact aA _ _
 have gM:(Heap.alloc (Heap.alloc (Heap.alloc h (.map [] 0)) (.map [] 0)) (.cells [ak aO 3 rules,.map h.next,.map (h.next+1)])).get (h.next+1)=some (.map [] 0):=by
  rw [Heap.aQ,Heap.aJ,Heap.aJ,if_neg (by omega)];exact aA _ _
 have gP:(Heap.alloc (Heap.alloc (Heap.alloc h (.map [] 0)) (.map [] 0)) (.cells [ak aO 3 rules,.map h.next,.map (h.next+1)])).get (h.next+1+1)=some (.cells [ak aO 3 rules,.map h.next,.map (h.next+1)]):=aA _ _;have gn:(Heap.alloc (Heap.alloc (Heap.alloc h (.map [] 0)) (.map [] 0)) (.cells [ak aO 3 rules,.map h.next,.map (h.next+1)])).next=h.next+1+1+1:=rfl
 have gF:∀ b,b<h.next->(Heap.alloc (Heap.alloc (Heap.alloc h (.map [] 0)) (.map [] 0)) (.cells [ak aO 3 rules,.map h.next,.map (h.next+1)])).get b=h.get b:=(((bu.alloc _ _).trans (bu.alloc _ _)).trans (bu.alloc _ _)).get
 generalize (Heap.alloc (Heap.alloc (Heap.alloc h (.map [] 0)) (.map [] 0)) (.cells [ak aO 3 rules,.map h.next,.map (h.next+1)]))=H0 at gA gM gP gn gF ⊢;obtain ⟨A,hA⟩:∃ A,A=h.next:=⟨_,rfl⟩
 obtain ⟨M,hM⟩:∃ M,M=h.next+1:=⟨_,rfl⟩
 obtain ⟨P,hP⟩:∃ P,P=h.next+1+1:=⟨_,rfl⟩
 rw [<- hP] at gP gn ⊢;rw [<- hM] at gM gP ⊢;rw [<- hA] at gA gP gF ⊢;have hAM:A<M:=by omega
 have hMP:M<P:=by omega
 clear hM hP;simp only [aR,reduceAdd,reduceEqDiff,reduceIte];by_cases h61:60<rules.l.length
 ·simp only [fh (by omega:(60:Int)<(rules.l.length:Int)),aL];exact yp (fun hg=>by have:=hg.lJ;omega) _ (fun b hb=>gF b (by omega))
 have tP:rules.l.length<=60:=by omega
 simp only [eT (by omega:¬ (60:Int)<(rules.l.length:Int)),aK];have hbig:rules.l.length<=cE:=by unfold cE;omega
 have bad:dR rules.l []=none->∀ h',(∀ b,b<A->h'.get b=h.get b)->K (.ret (.tuple [.eH,.bool false])) h'=true:=fun hn h' hf=>yp (fun hg=>by obtain ⟨m,hm⟩:=hg.go;rw [hn] at hm;cases hm) h' (fun b hb=>hf b (by omega))
 refine aD 0 rules.l.length (zero_le _) (fun i e h'=>∃ m ks es ck,(∀ b,b<A->h'.get b=h.get b)/\dR rules.l []=dR (rules.l.drop i) m/\h'.get A=some (.map es ck)/\Mo es ck m/\fK (bA (rules.l.take i)) h' M ks (fun _=>0)/\ks.Nodup /\
  h'.get P=some (.cells [ak aO 3 rules,.map A,.map M])/\P<h'.next/\e 4 = .ptr P 0/\e 17=ak aO 3 rules/\e 18 = .int .i64 (rules.l.length:Int)/\e 19 = .int .i64 (i:Int))
  ⟨[],[],[],0,gF,rfl,gA,⟨trivial,j4.nil 0,nodup_nil⟩,⟨[],0,[],gM,trivial,j4.nil 0,rfl,fun x=>by simp [bA,eP.find]⟩,nodup_nil,gP,by omega,rfl,rfl,rfl,rfl⟩ ?_ ?_
 ·rintro i e h' _ hi ⟨m,ks,es,ck,hF,hm,qA,Y0,la,Cs,qP,SM,e4,uW,SS,SU⟩ K' hn hx hr hp;have hv:rules.l[i]?=some rules.l[i]:=ez hi;generalize rules.l[i]=r at hv;have Kl:=l9 r (iz hv);have hrf:=iV r (iz hv);obtain ⟨H,DX,g1,go,gn1⟩:=cx (h:=h') (zs:=[.str [],.ax,.ax]) (cs:=aO r) (n:=3) rfl rfl (jG r);have pA:H.get A=some (.map es ck):=by rw [go A (by omega)];exact qA
  have pP:H.get P=some (.cells [ak aO 3 rules,.map A,.map M]):=by rw [go P (by omega)];exact qP
  have pl:fK (bA (rules.l.take i)) H M ks (fun _=>0):=la.gz (go M (by omega));rw [Gt hv,dR] at hm;rw [F.cr.aT];simp only [e4,uW,SS,SU,aR,reduceAdd,reduceEqDiff,reduceIte,aZ hi,aV rules hi,dO gu hv,DX];simp only [aR,reduceAdd,reduceEqDiff,reduceIte,aj g1,aO,Nx];refine ai (DU Kl.2.1 ?_);simp only [aR,reduceAdd,reduceEqDiff,reduceIte]
  cases ha:mV r.name r.args.l with
  |false=>
   rw [ha,cond_false] at hm;simp only [Bool.not_false,aL];rw [hr,F.cr.bz];exact bad hm _ (fun b hb=>by rw [go b (by omega)];exact hF b hb)
  |true=>
  rw [ha,cond_true,Gv] at hm;simp only [Bool.not_true,aK,aR,reduceAdd,reduceEqDiff,reduceIte,aj g1,aO,Nx,e4];refine ai (zB pP pA Y0 (by omega) (by omega) fun h3 es3 ck3 a1 a2 a3 a4=>?_);simp only [aR,reduceAdd,reduceEqDiff,reduceIte]
  cases hq:OQ m r.name r.args.l.length with
  |false=>
   rw [hq,if_neg (by simp)] at hm;simp only [Bool.not_false,aL];rw [hr,F.cr.bz];exact bad hm _ (fun b hb=>by rw [a3 b (by omega) (by omega),go b (by omega)];exact hF b hb)
  |true=>
  rw [hq,if_pos rfl] at hm;have g3:h3.get h'.next=some (.cells (aO r)):=by rw [a3 _ (by omega) (by omega)];exact g1
  have P3:h3.get P=some (.cells [ak aO 3 rules,.map A,.map M]):=by rw [a3 P (by omega) (by omega)];exact pP
  have l3:fK (bA (rules.l.take i)) h3 M ks (fun _=>0):=pl.gz (a3 M (by omega) (by omega));simp only [Bool.not_true,aK,aR,reduceAdd,reduceEqDiff,reduceIte,aj g3,aO];by_cases vK:20<r.body.l.length
  ·simp only at hm;rw [if_pos vK] at hm;simp only [fh (by omega:(20:Int)<(r.body.l.length:Int)),aL];rw [hr,F.cr.bz];exact bad hm _ (fun b hb=>by rw [a3 b (by omega) (by omega),go b (by omega)];exact hF b hb)
  simp only at hm;rw [if_neg vK] at hm;simp only [eT (by omega:¬ (20:Int)<(r.body.l.length:Int)),aK,aR,reduceAdd,reduceEqDiff,reduceIte,aj g3,aO,sG];refine ai (dx hrf fun x jO=>?_);simp only [aR,reduceAdd,reduceEqDiff,reduceIte,jO];by_cases H7:12<(varsOf r).length
  ·rw [if_pos H7] at hm;simp only [fh (by omega:(12:Int)<((varsOf r).length:Int)),aL];rw [hr,F.cr.bz];exact bad hm _ (fun b hb=>by rw [a3 b (by omega) (by omega),go b (by omega)];exact hF b hb)
  rw [if_neg H7] at hm;simp only [eT (by omega:¬ (12:Int)<((varsOf r).length:Int)),aK,aR,reduceAdd,reduceEqDiff,reduceIte,aj g3,aO];have Bj:r.body.l.length<=cE:=by unfold cE;omega
  refine aD 0 r.body.l.length (zero_le _) (fun j e h2=>∃ m2 Wv Ww,(∀ b,b<A->h2.get b=h.get b)/\oB r.body.l (m.r9 r.name r.args.l.length)=oB (r.body.l.drop j) m2/\h2.get A=some (.map Wv Ww)/\Mo Wv Ww m2/\fK (bA (rules.l.take i)) h2 M ks (fun _=>0) /\
   h2.get P=some (.cells [ak aO 3 rules,.map A,.map M])/\h2.get h'.next=some (.cells (aO r))/\h'.next<h2.next/\e 4 = .ptr P 0/\e 6 = .ptr h'.next 0/\e 17=ak aO 3 rules/\e 18 = .int .i64 (rules.l.length:Int)/\e 19 = .int .i64 (i:Int) /\
   e 47=ak bP 4 r.body/\e 48 = .int .i64 (r.body.l.length:Int)/\e 49 = .int .i64 (j:Int))
   ⟨_,es3,ck3,fun b hb=>by rw [a3 b (by omega) (by omega),go b (by omega)];exact hF b hb,rfl,a1,a2,l3,P3,g3,by omega,e4,rfl,uW,SS,SU,rfl,rfl,rfl⟩ ?_ ?_
  ·rintro j e h2 _ hj ⟨m2,Wv,Ww,hF2,Jn,qA2,Ve,SN,qP2,qR2,qj,e4,e6,uW,SS,SU,e47,e48,Vf⟩ K2 qR fo qL DY;have hc:r.body.l[j]?=some r.body.l[j]:=ez hj;generalize r.body.l[j]=c at hc;have J3:=Kl.2.2.2.2 c (iz hc);obtain ⟨H2,qW,k1,ko,kn⟩:=cx (h:=h2) (zs:=[.int .i64 0,.bool false,.str [],.ax]) (cs:=bP c) (n:=4) rfl rfl (iI c);have kA:H2.get A=some (.map Wv Ww):=by rw [ko A (by omega)];exact qA2
   have kP:H2.get P=some (.cells [ak aO 3 rules,.map A,.map M]):=by rw [ko P (by omega)];exact qP2
   have kR:H2.get h'.next=some (.cells (aO r)):=by rw [ko _ (by omega)];exact qR2
   have kl:fK (bA (rules.l.take i)) H2 M ks (fun _=>0):=SN.gz (ko M (by omega));rw [Gt hc,oB] at Jn;rw [F.cr.dm];simp only [e4,e6,uW,SS,SU,e47,e48,Vf,aR,reduceAdd,reduceEqDiff,reduceIte,aZ hj,aV r.body hj,dO iH hc,qW];simp only [aR,reduceAdd,reduceEqDiff,reduceIte,aj k1,bP,HY];refine ai (gl J3 ?_);simp only [aR,reduceAdd,reduceEqDiff,reduceIte]
   cases Ws:gX c with
   |false=>
    rw [Ws,cond_false] at Jn;rw [Jn] at hm;simp only [Bool.not_false,aL];rw [qL,F.cr.jP,hr,F.cr.bz];exact bad hm _ (fun b hb=>by rw [ko b (by omega)];exact hF2 b hb)
   |true=>
   rw [Ws,cond_true] at Jn;simp only [Bool.not_true,aK,aR,reduceAdd,reduceEqDiff,reduceIte,aj k1,bP,cI];by_cases k0:c.kind=0
   ·rw [if_pos k0,Gv] at Jn;simp only [fh k0,aL,aR,reduceAdd,reduceEqDiff,reduceIte,aj k1,bP,Nw,e4];refine ai (zB kP kA Ve (by omega) (by omega) fun h4 es4 ck4 b1 b2 b3 b4=>?_);simp only [aR,reduceAdd,reduceEqDiff,reduceIte]
    cases RV:OQ m2 c.name c.args.l.length with
    |false=>
     rw [RV,if_neg (by simp)] at Jn;simp only at Jn;rw [Jn] at hm;simp only [Bool.not_false,aL];rw [qL,F.cr.jP,hr,F.cr.bz];exact bad hm _ (fun b hb=>by rw [b3 b (by omega) (by omega),ko b (by omega)];exact hF2 b hb)
    |true=>
     rw [RV,if_pos rfl] at Jn;simp only [Bool.not_true,aK,Vf,aI hj Bj,an];refine qR _ _ ⟨_,es4,ck4,fun b hb=>by rw [b3 b (by omega) (by omega),ko b (by omega)];exact hF2 b hb,Jn,b1,b2,kl.gz (b3 M (by omega) (by omega)),?_,?_,by omega,e4,e6,uW,SS,SU,e47,e48,rfl⟩
     ·rw [b3 P (by omega) (by omega)];exact kP
     ·rw [b3 _ (by omega) (by omega)];exact kR
   ·rw [if_neg k0] at Jn;simp only [eT k0,aK,Vf,aI hj Bj,an];exact qR _ _ ⟨m2,Wv,Ww,fun b hb=>by rw [ko b (by omega)];exact hF2 b hb,Jn,kA,Ve,kl,kP,kR,by omega,e4,e6,uW,SS,SU,e47,e48,rfl⟩
  ·rintro e h2 ⟨m2,Wv,Ww,hF2,Jn,qA2,Ve,SN,qP2,qR2,qj,e4,e6,uW,SS,SU,e47,e48,Vf⟩ K2 fo;rw [drop_of_length_le (dK _),oB] at Jn;rw [Jn] at hm;simp only at hm;obtain ⟨h5,ks5,u1,u2,u3,u4,u5⟩:=SN.add Cs r.name;rw [F.cr.dm];simp only [e48,Vf,aR,reduceAdd,reduceEqDiff,reduceIte,aS];rw [fo,F.cr.cq];simp only [e4,e6,SU,aR,reduceAdd,reduceEqDiff,reduceIte,cp,aj qP2,aj qR2,aO,u1,aI hi hbig];refine hn _ _ ⟨m2,ks5,Wv,Ww,fun b hb=>by rw [u4 b (by omega)];exact hF2 b hb,hm,by rw [u4 A (by omega)];exact qA2,Ve,?_,u3,by rw [u4 P (by omega)];exact qP2,by omega,e4,uW,SS,rfl⟩;have:bA (rules.l.take (i+1))=bA (rules.l.take i)++[r.name]:=by unfold bA;rw [take_add_one,hv];simp
   rw [this];exact u2
 ·rintro e h' ⟨m,ks,es,ck,hF,hm,qA,Y0,la,Cs,qP,SM,e4,uW,SS,SU⟩ K' hx;rw [drop_of_length_le (dK _),dR] at hm;rw [jD (dK _)] at la;have iE:=jo hm
  have afL:ks.length<=60:=by
   have:=eA.qY Cs (m:=bA rules.l) fun x hx=>(la.mem x).1 hx;have h1:(bA rules.l).length=rules.l.length:=by simp [bA]
   omega
  rw [F.cr.aT];simp only [SS,SU,aR,reduceAdd,reduceEqDiff,reduceIte,aS];rw [hx,F.cr.aF];simp only [e4,aR,reduceAdd,reduceEqDiff,reduceIte,cp,aj qP,la.len,aI (i:=ks.length) (n:=61) (by omega) (by unfold cE;omega)]
  refine aD 0 (ks.length+1) (zero_le _) (fun i e h'=>(∀ b,b<A->h'.get b=h.get b)/\h'.get A=some (.map es ck)/\fK (bA rules.l) h' M ks (eA.iter (bO rules.l) i)/\h'.get P=some (.cells [ak aO 3 rules,.map A,.map M])/\P<h'.next/\(∀ j,j<i->¬ eA.dA (bO rules.l) (eA.iter (bO rules.l) j)) /\
   e 4 = .ptr P 0/\e 82 = .int .i64 ((ks.length+1:Nat):Int)/\e 83 = .int .i64 (i:Int)) ⟨hF,qA,la,qP,SM,fun j hj=>by omega,e4,rfl,rfl⟩ ?_ ?_
  ·rintro i e h2 _ hi ⟨hF2,qA2,l2,q2,n2,XN,e4,e82,e83⟩ K2 qj fo qL DY;rw [F.cr.jf];simp only [e4,e82,e83,aR,reduceAdd,reduceEqDiff,reduceIte,aZ hi];refine ai (LY (N:=i*1200) q2 l2 n2 (by omega) tP (fun r hr=>⟨(iE r hr).2.1,List.mem_map_of_mem hr⟩) (yc tP (fun r hr=>(iE r hr).2.1) i) (by omega) fun h3 l3 f3 n3=>?_);simp only [aR,reduceAdd,reduceEqDiff,reduceIte,not_not];have qA3:h3.get A=some (.map es ck):=by rw [f3 A (by omega) (by omega)];exact qA2
   have q3:h3.get P=some (.cells [ak aO 3 rules,.map A,.map M]):=by rw [f3 P n2 (by omega)];exact q2
   by_cases iJ:eA.dA (bO rules.l) (eA.iter (bO rules.l) i)
   ·have J8:eA.dA (jy (bA rules.l) rules.l) (eA.iter (bO rules.l) i):=iJ;simp only [fh J8,aL];rw [qL,F.cr.y8];simp only [bL,reduceEqDiff,reduceIte,e4];rw [eA.xC J8] at l3;exact As h3 P A M ks i ⟨tP,⟨m,hm⟩,i,iJ⟩ iJ q3 l3 Cs (by omega) (by omega) m es ck hm qA3 Y0 (by omega) hAM hMP (fun b hb=>by rw [f3 b (by omega) (by omega)];exact hF2 b (by omega))
   ·have J8:¬ eA.dA (jy (bA rules.l) rules.l) (eA.iter (bO rules.l) i):=iJ;simp only [eT J8,aK,e83,aI hi (show ks.length+1<=cE by unfold cE;omega),an]
    exact qj _ _ ⟨fun b hb=>by rw [f3 b (by omega) (by omega)];exact hF2 b hb,qA3,l3,q3,by omega,fun j hj=>by
     by_cases hji:j=i
     ·subst hji;exact iJ
     ·exact XN j (by omega),e4,e82,rfl⟩
  ·rintro e h2 ⟨hF2,_,l2,q2,n2,XN,e4,e82,e83⟩ K2 fo;rw [F.cr.jf];simp only [e82,e83,aR,reduceAdd,reduceEqDiff,reduceIte,aS];rw [fo,F.cr.fX];refine yp (fun hg=>?_) _ (fun b hb=>hF2 b (by omega));obtain ⟨k,hk⟩:=hg.lev;refine XN ks.length (by omega) (eA.settle (fun e he=>?_) hk);obtain ⟨r,hr,c,hc,_,hin,rfl⟩:=uN he;exact ⟨(la.mem _).2 hin,(la.mem _).2 (List.mem_map_of_mem hr)⟩
theorem GP(D:DB)(nm:b8)(b:Nat)(d d':List Bool):kz (kz D nm b d) nm b d'=kz D nm b d':=by
 funext j;unfold kz;by_cases e:j=nm
 ·rw [if_pos e,if_pos e]
 ·rw [if_neg e,if_neg e,if_neg e]
theorem kC(D:DB)(nm:b8)(b:Nat)(d:List Bool):kz D nm b d nm=some (b,d):=if_pos rfl
theorem v8{j:b8}(h:j≠nm)(b:Nat)(d:List Bool):kz D nm b d j=D j:=if_neg h
theorem dB.add(b:dB D h B lo)(CQ:lo<=h.next)(N:Nat)(nm:b8) :
  ∃ h',eN .string (.map B) (.str nm) (.slice h.next 0 N 1) (h.alloc (.cells ((replicate N false).map bv)))=some h'/\dB (kz D nm h.next (replicate N false)) h' B lo/\(∀ c,c<h.next->c≠B->h'.get c=h.get c)/\h'.next=h.next+1:=by
 obtain ⟨es,ck,m,e1,e2,e3⟩:=b.ex;have hB:=b.lt;have a1:(h.alloc (.cells ((replicate N false).map bv))).get B=some (.map es ck):=by rw [Heap.aQ,if_neg (by omega)];exact e1
 obtain ⟨yE,HG,hu,X1⟩:=Ki a1 e2 nm (.slice h.next 0 N 1);refine ⟨_,hu,⟨⟨yE,HG,_,by rw [Heap.aP,if_pos rfl],X1,fun j=>?_⟩,fun j q hq=>?_,fun j j' q q' hq nW XM=>?_,by rw [Heap.bp,Heap.aJ];omega⟩,fun c hc II=>by rw [Heap.aP,if_neg II,Heap.aQ,if_neg (by omega)],by rw [Heap.bp,Heap.aJ]⟩
 ·rw [RN];unfold kz;by_cases e:j=nm
  ·rw [if_pos e,if_pos e,map_some,length_replicate]
  ·rw [if_neg e,if_neg e,e3]
 ·unfold kz at hq;by_cases e:j=nm
  ·rw [if_pos e] at hq;cases hq;exact ⟨CQ,by rw [Heap.bp,Heap.aJ];exact lt_succ_self _,by show h.next≠B;omega,by rw [Heap.aP,if_neg (by show h.next≠B;omega)];exact aA _ _⟩
  ·rw [if_neg e] at hq;obtain ⟨k1,k2,k3,k4⟩:=b.Df j q hq;exact ⟨k1,by rw [Heap.bp,Heap.aJ];omega,k3,by rw [Heap.aP,if_neg k3,Heap.aQ,if_neg (by omega)];exact k4⟩
 ·unfold kz at hq nW;by_cases e:j=nm
  ·by_cases e':j'=nm
   ·rw [e,e']
   ·rw [if_pos e] at hq;rw [if_neg e'] at nW;cases hq;have:=(b.Df j' q' nW).2.1;simp only at XM;omega
  ·by_cases e':j'=nm
   ·rw [if_neg e] at hq;rw [if_pos e'] at nW;cases nW;have:=(b.Df j q hq).2.1;simp only at XM;omega
   ·rw [if_neg e] at hq;rw [if_neg e'] at nW;exact b.inj j j' q q' hq nW XM
theorem RX{R:AV}(hS:h.get S=some (.cells [.int .i64 (n:Int),R]))(h1:1<=n){x:Sl Int}{k:Nat}(hk:x.l.length=k)(hx:k<=12)(hc:n ^ k<=4096)(hb:iY n x.l=true)
  (hK:K (.ret (.int .i64 ((kS n x.l:Nat):Int))) h=true):Sem TP 101 [.ptr S 0,ak encI 1 x] h K:=L8 hS h1 (by omega) (by rw [hk];exact hc) hb hK
theorem NP{k:Nat}(hk:k<=12)(hc:n ^ k<=4096):OY n k = .tuple [.int .i64 ((n ^ k:Nat):Int),.int .i64 0]:=by rw [OY,if_neg (by omega),if_neg (by omega)]
set_option maxHeartbeats 1000000 in
theorem Is{SB:Nat}{s:di}{D1:DB}(k9:s.ok)(qC:cY s=true)(hn:s.size=(n:Int))(n1:1<=n)(sI:n<=64)
  (hS:h.get S=some (.cells [.int .i64 (n:Int),.map B])) (X2:h.get SB=some (.cells (aq s))) (hD:dB D1 h B lo) (RY:S≠B) (RZ:SB≠B) (Ri:S<h.next) (R2:SB<h.next) (CQ:lo<=h.next)
  (q3:e0 3 = .ptr SB 0) (q7:e0 7 = .ptr P 0) (q17:e0 17 = .ptr S 0) (afM:e0 154=ak aW 3 s.aC) (afN:e0 155 = .int .i64 (s.aC.l.length:Int)) (afO:e0 156 = .int .i64 0)
  (done:∀ h' D',dB D' h' B lo->(∀ r ∈ s.aC.l,∃ b,h.next<=b/\D' r.name=some (b,bitsOf n r.arity.toNat r.aM.l))->(∀ nm,(∀ r ∈ s.aC.l,r.name≠nm)->D' nm=D1 nm)->(∀ c,c<h.next->c≠B->h'.get c=h.get c)->h.next<=h'.next->K (.ret (.tuple [.ptr P 0,.ptr S 0,.int .i64 0])) h'=true) :
  bV (EV F.az.L5) ⟨e0,198,[],h⟩ (F.az.L5k K)=true:=by
 have hbig:=k9.1;have hBn:=hD.lt
 refine aD 0 s.aC.l.length (zero_le _) (fun i e h'=>∃ D,dB D h' B lo/\(∀ r ∈ s.aC.l.take i,∃ b,h.next<=b/\D r.name=some (b,bitsOf n r.arity.toNat r.aM.l))/\(∀ nm,(∀ r ∈ s.aC.l.take i,r.name≠nm)->D nm=D1 nm)/\(∀ c,c<h.next->c≠B->h'.get c=h.get c)/\h.next<=h'.next /\
  e 3 = .ptr SB 0/\e 7 = .ptr P 0/\e 17 = .ptr S 0/\e 154=ak aW 3 s.aC/\e 155 = .int .i64 (s.aC.l.length:Int)/\e 156 = .int .i64 (i:Int))
  ⟨D1,hD,fun r hr=>(by cases hr),fun _ _=>rfl,fun _ _ _=>rfl,dK _,q3,q7,q17,afM,afN,afO⟩ ?_ ?_
 ·rintro i e h' _ hi ⟨D,X3,mF,AD,hfr,oK,e3,e7,uW,Mp,Km,Kn⟩ K' yF hx hr hp;have hv:s.aC.l[i]?=some s.aC.l[i]:=ez hi;generalize s.aC.l[i]=r at hv;have U0:r.ok:=k9.2 r (iz hv);have Im:=rL qC hv;rw [show s.size.toNat=n by omega] at Im;obtain ⟨k,hk,Ih,PT,NQ⟩:=vV Im;have hkn:r.arity.toNat=k:=by omega
  obtain ⟨H,DX,g1,go,gn⟩:=cx (h:=h') (zs:=[.str [],.int .i64 0,.ax]) (cs:=aW r) (n:=3) rfl rfl (fY r);have xH:bu h' H:=⟨by omega,fun b hb=>go b (by omega)⟩
  have X4:H.get SB=some (.cells (aq s)):=by rw [xH.get _ (by omega),hfr _ R2 RZ];exact X2
  have pS:H.get S=some (.cells [.int .i64 (n:Int),.map B]):=by rw [xH.get _ (by omega),hfr _ Ri RY];exact hS
  have hDH:=X3.ext xH;have lz:ag none (.ptr SB 0) H=some (.int .i64 (n:Int)):=by rw [aj X4,<- hn];rfl
  have la:ag none (.ptr h'.next 1) H=some (.int .i64 (k:Int)):=by rw [aj g1,<- hk];rfl
  have ln:ag none (.ptr h'.next 0) H=some (.str r.name):=by rw [aj g1];rfl
  obtain ⟨h2,hu,hD2,SG,qj⟩:=hDH.add (by omega) (n ^ k) r.name;have lt:ag none (.ptr h'.next 2) h2=some (ak cU 1 r.aM):=by rw [aj (show h2.get h'.next=some (.cells (aW r)) by rw [SG _ (by omega) (by omega)];exact g1)];rfl
  rw [F.az.Wl];simp only [Mp,Km,Kn,e3,uW,aR,reduceAdd,reduceEqDiff,reduceIte,aZ hi,aV s.aC hi,dO eC hv,DX];simp only [aR,reduceAdd,reduceEqDiff,reduceIte,lz,la];refine ai (qz n1 sI (by unfold cE;omega) ?_);rw [NP Ih PT];simp only [aR,reduceAdd,reduceEqDiff,reduceIte,cp,aj pS,ln,Ie (show n ^ k<=1000000 by omega),hu,lt]
  refine aD 0 r.aM.l.length (zero_le _) (fun j e h3=>∃ d,bitsOf n k r.aM.l=kN n (r.aM.l.drop j) d/\d.length=n ^ k/\dB (kz D r.name H.next d) h3 B lo/\(∀ c,c<H.next->c≠B->h3.get c=H.get c)/\h3.next=h2.next /\
   e 3 = .ptr SB 0/\e 7 = .ptr P 0/\e 17 = .ptr S 0/\e 154=ak aW 3 s.aC/\e 155 = .int .i64 (s.aC.l.length:Int)/\e 156 = .int .i64 (i:Int)/\e 25 = .ptr h'.next 0/\e 177=ak cU 1 r.aM/\e 178 = .int .i64 (r.aM.l.length:Int)/\e 179 = .int .i64 (j:Int))
   ⟨_,rfl,by simp,hD2,SG,rfl,e3,e7,uW,Mp,Km,Kn,rfl,rfl,rfl,rfl⟩ ?_ ?_
  ·rintro j e h3 _ hj ⟨d,hd,hdl,R3,R4,PR,e3,e7,uW,Mp,Km,Kn,Mk,X5,Vg,X6⟩ K2 qR fo qL DY;have zx:r.aM.l[j]?=some r.aM.l[j]:=ez hj;generalize r.aM.l[j]=t at zx;obtain ⟨vZ,Nq⟩:=Mg NQ zx;rw [Gw zx] at hd;have Ct:kS n t.l<d.length:=by have:=qO Nq;rw [vZ] at this;omega
   have wS:h3.get S=some (.cells [.int .i64 (n:Int),.map B]):=by rw [R4 _ (by omega) RY];exact pS
   have wR:h3.get h'.next=some (.cells (aW r)):=by rw [R4 _ (by omega) (by omega)];exact g1
   have lnm:ag none (.ptr h'.next 0) h3=some (.str r.name):=by rw [aj wR];rfl
   have Mq:=R3.look (kC D r.name H.next d);obtain ⟨_,_,_,kX⟩:=R3.Df r.name _ (kC D r.name H.next d);simp only at Mq kX;have kK:=R3.set (kC D r.name H.next d) (d:=d.set (kS n t.l) true) (by simp);rw [GP] at kK;simp only at kK;rw [F.az.Wm];simp only [uW,Mk,X5,Vg,X6,aR,reduceAdd,reduceEqDiff,reduceIte,aZ hj,aV r.aM hj,gK zx,cp,aj wS,lnm,Mq];refine ai (RX wS n1 vZ Ih PT Nq ?_);simp only [aR,reduceAdd,reduceEqDiff,reduceIte,aj wS,lnm,Mq,AV.beq_refl,Bool.and_self,Bool.and_true,if_true,nK Ct,D8 kX Ct,aI hj U0.2.1];exact qR _ _ ⟨_,hd,by simpa using hdl,kK,fun c hc II=>by rw [Heap.aP,if_neg (by omega)];exact R4 c hc II,by rw [Heap.bp];exact PR,e3,e7,uW,Mp,Km,Kn,Mk,X5,Vg,rfl⟩
  ·rintro e h3 ⟨d,hd,hdl,R3,R4,PR,e3,e7,uW,Mp,Km,Kn,Mk,X5,Vg,X6⟩ K2 fo;rw [drop_of_length_le (dK _)] at hd;simp only [kN] at hd;rw [F.az.Wm];simp only [Vg,X6,aR,reduceAdd,reduceEqDiff,reduceIte,aS];rw [fo,F.az.OM];simp only [aR,reduceAdd,reduceEqDiff,reduceIte,Kn,aI hi hbig];refine yF _ _ ⟨kz D r.name H.next d,R3,fun q hq=>?_,fun nm pU=>?_,fun c hc II=>by rw [R4 c (by omega) II,xH.get c (by omega)];exact hfr c hc II,by omega,e3,e7,uW,Mp,Km,rfl⟩
   ·rw [take_add_one,hv] at hq;rcases mem_append.1 hq with nW|nW
    ·by_cases e:q.name=r.name
     ·obtain ⟨a,ha⟩:=mem_iff_getElem?.1 nW
      have SP:s.aC.l[a]?=some q:=by
       rw [getElem?_take] at ha;split at ha
       ·exact ha
       ·cases ha
      have Zn:a<i:=by
       rw [getElem?_take] at ha;split at ha
       ·assumption
       ·cases ha
      have:=nq (lP qC) (i:=a) (j:=i) (s:=q.name) (by rw [getElem?_map,SP];rfl) (by rw [getElem?_map,hv,e];rfl);omega
     ·obtain ⟨b,b1,b2⟩:=mF q nW;exact ⟨b,b1,by rw [v8 e];exact b2⟩
    ·simp only [toList_some,mem_singleton] at nW;subst nW;exact ⟨H.next,by omega,by rw [kC,hkn,hd]⟩
   ·have h1:nm≠r.name:=fun e=>pU r (by rw [take_add_one,hv];simp) e.symm;rw [v8 h1];exact AD nm fun q hq=>pU q (by rw [take_add_one,hv];exact mem_append_left _ hq)
 ·rintro e h' ⟨D,X3,mF,AD,hfr,oK,e3,e7,uW,Mp,Km,Kn⟩ K' hx;rw [jD (dK _)] at mF AD;rw [F.az.Wl];simp only [Km,Kn,aR,reduceAdd,reduceEqDiff,reduceIte,aS];rw [hx,F.az.OL];simp only [bL,reduceEqDiff,reduceIte,e7,uW];exact done h' D X3 mF AD hfr oK
def SV(m:eP)(p:b8×Int):Option eP:=match m.find p.1 with
 |none=>some (m.r9 p.1 p.2)
 |some k=>if k=p.2 then some (m.r9 p.1 p.2) else none
def ve:List (b8×Int)->eP->Option eP
 |[],m=>some m
 |p :: l,m=>match SV m p with|none=>none|some m'=>ve l m'
theorem Ko(m:eP)(nm:b8)(n:Nat):D2 m nm n=SV m (nm,(n:Int)):=rfl
theorem Br:∀ (a b:List (b8×Int)) (m:eP),ve (a++b) m=match ve a m with|none=>none|some m'=>ve b m'
 |[],b,m=>rfl
 |p :: a,b,m=>by
  rw [cons_append,ve,ve]
  cases SV m p with
  |none=>rfl
  |some m'=>exact Br a b m'
theorem yj:∀ (cs:List eV) (m:eP),oB cs m=if cs.all gX=true then ve (eo cs) m else none
 |[],m=>rfl
 |c :: cs,m=>by
  rw [oB,all_cons]
  cases hc:gX c with
  |false=>simp
  |true=>
   rw [cond_true,Bool.true_and];by_cases k0:c.kind=0
   ·have Vh:eo (c :: cs)=(c.name,(c.args.l.length:Int)) :: eo cs:=(by unfold eo;simp [k0]);rw [if_pos k0,Vh,ve,Ko]
    cases SV m (c.name,(c.args.l.length:Int)) with
    |none=>simp
    |some m'=>exact yj cs m'
   ·have Vh:eo (c :: cs)=eo cs:=(by unfold eo;simp [k0]);rw [if_neg k0,Vh];exact yj cs m
theorem sN:∀ (rs:List aN) (m:eP),dR rs m=if rs.all jq=true then ve (cD rs) m else none
 |[],m=>rfl
 |r :: rs,m=>by
  have B6:cD (r :: rs)=(r.name,(r.args.l.length:Int)) :: (eo r.body.l++cD rs):=by unfold cD;simp [uU]
  rw [dR,all_cons,B6,ve,Bk,Ko];unfold jq
  cases h1:ey r.name with
  |false=>simp
  |true=>
  cases h2:mM r.args.l with
  |false=>simp
  |true=>
  simp only [Bool.true_and,cond_true];by_cases h3:r.body.l.length<=20
  ·by_cases h4:(varsOf r).length<=12
   ·rw [fh h3,fh h4,Bool.true_and,Bool.and_true]
    cases SV m (r.name,(r.args.l.length:Int)) with
    |none=>simp
    |some m1=>
     simp only;rw [if_neg (by omega),if_neg (by omega),yj,Br]
     cases h5:r.body.l.all gX with
     |false=>simp
     |true=>
      rw [if_pos rfl,Bool.true_and]
      cases ve (eo r.body.l) m1 with
      |none=>simp
      |some m2=>exact sN rs m2
   ·rw [eT h4,Bool.and_false,Bool.and_false,Bool.false_and,if_neg (by simp)]
    cases SV m (r.name,(r.args.l.length:Int)) with
    |none=>rfl
    |some m1=>simp only;rw [if_neg (by omega),if_pos (by omega)]
  ·rw [eT h3,Bool.false_and,Bool.false_and,if_neg (by simp)]
   cases SV m (r.name,(r.args.l.length:Int)) with
   |none=>rfl
   |some m1=>simp only;rw [if_pos (by omega)]
def It(l:List (b8×Int)):Prop:=∀ p ∈ l,∀ q ∈ l,p.1=q.1->p.2=q.2
theorem Ev:∀ (l:List (b8×Int)) (m:eP),(∃ m',ve l m=some m')↔((∀ p ∈ l,∀ k,m.find p.1=some k->k=p.2)/\It l)
 |[],m=>⟨fun _=>⟨fun p hp=>(by cases hp),fun p hp=>(by cases hp)⟩,fun _=>⟨m,rfl⟩⟩
 |p :: l,m=>by
  have fu:∀ q:b8×Int,(m.r9 p.1 p.2).find q.1=if q.1=p.1 then some p.2 else m.find q.1:=fun q=>vL m p.1 q.1 p.2
  have key:(∃ m',ve l (m.r9 p.1 p.2)=some m')/\(∀ k,m.find p.1=some k->k=p.2)↔((∀ q ∈ p :: l,∀ k,m.find q.1=some k->k=q.2)/\It (p :: l)):=by
   rw [Ev l];constructor
   ·rintro ⟨⟨h1,h2⟩,h3⟩;have hp:∀ q ∈ l,q.1=p.1->p.2=q.2:=fun q hq e=>h1 q hq p.2 (by rw [fu,if_pos e]);refine ⟨fun q hq k hk=>?_,fun a ha b hb e=>?_⟩
    ·rcases mem_cons.1 hq with rfl|hq
     ·exact h3 k hk
     ·by_cases e:q.1=p.1
      ·rw [e] at hk;rw [h3 k hk,hp q hq e]
      ·exact h1 q hq k (by rw [fu,if_neg e];exact hk)
    ·rcases mem_cons.1 ha with SP|SP<;>rcases mem_cons.1 hb with fq|fq
     ·rw [SP,fq]
     ·rw [SP] at e ⊢;exact hp b fq e.symm
     ·rw [fq] at e ⊢;exact (hp a SP e).symm
     ·exact h2 a SP b fq e
   ·rintro ⟨h1,h2⟩;refine ⟨⟨fun q hq k hk=>?_,fun a ha b hb e=>h2 a (mem_cons_of_mem _ ha) b (mem_cons_of_mem _ hb) e⟩,fun k hk=>h1 p mem_cons_self k hk⟩;rw [fu] at hk;by_cases e:q.1=p.1
    ·rw [if_pos e] at hk;cases hk;exact h2 p mem_cons_self q (mem_cons_of_mem _ hq) e.symm
    ·rw [if_neg e] at hk;exact h1 q (mem_cons_of_mem _ hq) k hk
  rw [<- key,ve];unfold SV
  cases hf:m.find p.1 with
  |none=>simp
  |some k=>
   by_cases hk:k=p.2
   ·subst hk;simp
   ·simp [hk]
theorem we(rs:List aN):k8 rs↔(rs.length<=60/\rs.all jq=true/\It (cD rs)/\∃ k,eA.dA (bO rs) (eA.iter (bO rs) k)):=by
 have h0:∀ p ∈ cD rs,∀ k,eP.find [] p.1=some k->k=p.2:=fun p _ k hk=>by simp [eP.find] at hk
 constructor
 ·rintro ⟨h1,⟨m,h2⟩,h3⟩;rw [sN] at h2;split at h2
  ·rename_i ha;exact ⟨h1,ha,((Ev _ _).1 ⟨m,h2⟩).2,h3⟩
  ·cases h2
 ·rintro ⟨h1,h2,h3,h4⟩;obtain ⟨m,hm⟩:=(Ev (cD rs) []).2 ⟨h0,h3⟩;exact ⟨h1,⟨m,by rw [sN,if_pos h2];exact hm⟩,h4⟩
theorem Kp{p:b8×Int}(hp:x.l[i]?=some p):ag none (.ef (x.l.flatMap nR) (i*2)) h=some (.str p.1):=fy pM hp (by omega:0<2)
theorem Mr{p:b8×Int}(hp:x.l[i]?=some p):ag none (.ef (x.l.flatMap nR) (i*2+1)) h=some (.int .i64 p.2):=fy pM hp (by omega:1<2)
set_option maxHeartbeats 1000000 in
theorem bE{rules:Sl aN}(l9:∀ r ∈ rules.l,r.ok)(iV:∀ r ∈ rules.l,r.lJ){h:Heap}{K:Out->Heap->Bool}(hK:∀ b:Bool,(b=true↔k8 rules.l)->K (.ret (.bool b)) h=true):Sem TP 65 [ak aO 3 rules] h K:=by
 have gen:∀ R:Out->Heap->Bool,(∀ (b:Bool) h',(b=true↔k8 rules.l)->R (.ret (.bool b)) h'=true)->Sem TP 65 [ak aO 3 rules] Heap.empty R:=by
  intro R fin;refine F.BI ?_;rw [F.Dx];have no:∀ h',¬ k8 rules.l->R (.ret (.bool false)) h'=true:=fun h' hn=>fin false h' ⟨fun h=>(by cases h),fun h=>absurd h hn⟩;simp only [aR,reduceAdd,reduceEqDiff,reduceIte];by_cases h61:60<rules.l.length
  ·simp only [fh (by omega:(60:Int)<(rules.l.length:Int)),aL];exact no _ (fun hg=>by have:=hg.lJ;omega)
  have tP:rules.l.length<=60:=by omega
  have hbig:rules.l.length<=cE:=by unfold cE;omega
  simp only [eT (by omega:¬ (60:Int)<(rules.l.length:Int)),aK];refine aD 0 rules.l.length (zero_le _) (fun i e h'=>e 0=ak aO 3 rules/\e 3 = .int .i64 (i:Int)/\(rules.l.take i).all jq=true) ⟨rfl,rfl,rfl⟩ ?_ ?_
  ·rintro i e h' _ hi ⟨e0,e3,ht⟩ K' hn hx hr hp;have hv:rules.l[i]?=some rules.l[i]:=ez hi;generalize rules.l[i]=r at hv;rw [F.bE.aT];simp only [e0,e3,aR,reduceAdd,reduceEqDiff,reduceIte,aZ hi,aV rules hi,dO gu hv];refine ai (cS (l9 r (iz hv)) (iV r (iz hv)) ?_);simp only [aR,reduceAdd,reduceEqDiff,reduceIte]
   cases hq:jq r with
   |false=>
    simp only [Bool.not_false,aL];rw [hr,F.bE.bz]
    exact no _ (fun hg=>by
     have:=((we _).1 hg).2.1
     rw [all_false hv hq] at this;cases this)
   |true=>
    simp only [Bool.not_true,aK,aI hi hbig,an];exact hn _ _ ⟨e0,rfl,jB hv ht hq⟩
  ·rintro e h' ⟨e0,e3,ht⟩ K' hx;rw [jD (dK _)] at ht
   have vK:∀ r ∈ rules.l,r.body.l.length<=20:=fun r hr=>by
    have:=List.all_eq_true.1 ht r hr;unfold jq at this;simp only [and_eq_true,decide_eq_true_eq] at this;exact this.2.2.1
   rw [F.bE.aT];simp only [e0,e3,aR,reduceAdd,reduceEqDiff,reduceIte,aS];rw [hx,F.bE.aF];simp only [e0,aR,reduceAdd,reduceEqDiff,reduceIte];refine ai (cP tP vK fun x jO=>?_);simp only [aR,reduceAdd,reduceEqDiff,reduceIte];have Gx:x.l.length<=1260:=by rw [jO];have:=uV rules.l vK;omega
   have Nz:x.l.length<=cE:=by unfold cE;omega
   refine aD 0 x.l.length (zero_le _) (fun i e h'=>e 0=ak aO 3 rules/\e 4=ak nR 2 x/\e 5 = .int .i64 (i:Int)/\∀ a b p q,a<b->b<i->x.l[a]?=some p->x.l[b]?=some q->p.1=q.1->p.2=q.2) ⟨e0,rfl,rfl,fun a b p q h1 h2=>by omega⟩ ?_ ?_
   ·rintro i e h' _ hi ⟨e0,e4,e5,uj⟩ K1 NF RC Lu YX;have UY:x.l[i]?=some x.l[i]:=ez hi;generalize x.l[i]=q at UY;rw [F.bE.dm];simp only [e4,e5,aR,reduceAdd,reduceEqDiff,reduceIte,aZ hi];refine aD 0 i (zero_le _) (fun j e h'=>e 0=ak aO 3 rules/\e 4=ak nR 2 x/\e 5 = .int .i64 (i:Int)/\e 6 = .int .i64 (j:Int)/\∀ a p,a<j->x.l[a]?=some p->p.1=q.1->p.2=q.2) ⟨e0,e4,e5,rfl,fun a p h1=>by omega⟩ ?_ ?_
    ·rintro j e h' _ hj ⟨e0,e4,e5,e6,haj⟩ K2 qj fo qL DY;have hjx:j<x.l.length:=by omega
     have Y1:x.l[j]?=some x.l[j]:=ez hjx;generalize x.l[j]=p at Y1;have hib:i<=cE:=by omega
     rw [F.bE.jf];simp only [e4,e5,e6,aR,reduceAdd,reduceEqDiff,reduceIte,aZ hj,aV x hi,aV x hjx,Kp UY,Kp Y1,sE];by_cases hq:p.1=q.1
     ·simp only [fh hq,aL,e4,e5,e6,aR,reduceAdd,reduceEqDiff,reduceIte,aV x hi,aV x hjx,Mr UY,Mr Y1,cI];by_cases RV:p.2=q.2
      ·simp only [fh RV,Bool.not_true,aK,aI hj hib,an];refine qj _ _ ⟨e0,e4,e5,rfl,fun a p' h1 h2=>?_⟩;by_cases X7:a=j
       ·subst X7;rw [Y1] at h2;cases h2;exact fun _=>RV
       ·exact haj a p' (by omega) h2
      ·simp only [eT RV,Bool.not_false,aL];rw [qL,F.bE.y8,Lu,F.bE.jP];exact no _ (fun hg=>RV (((we _).1 hg).2.2.1 p (by rw [<- jO];exact iz Y1) q (by rw [<- jO];exact iz UY) hq))
     ·simp only [eT hq,aK,aI hj hib,an];refine qj _ _ ⟨e0,e4,e5,rfl,fun a p' h1 h2=>?_⟩;by_cases X7:a=j
      ·subst X7;rw [Y1] at h2;cases h2;exact fun e=>absurd e hq
      ·exact haj a p' (by omega) h2
    ·rintro e h' ⟨e0,e4,e5,e6,haj⟩ K2 fo;rw [F.bE.jf];simp only [e5,e6,aR,reduceAdd,reduceEqDiff,reduceIte,aS];rw [fo,F.bE.fX];simp only [e5,aR,reduceAdd,reduceEqDiff,reduceIte,aI hi Nz];refine NF _ _ ⟨e0,e4,rfl,fun a b p' q' h1 h2 h3 h4=>?_⟩;by_cases hb:b=i
     ·subst hb;rw [UY] at h4;cases h4;exact haj a p' h1 h3
     ·exact uj a b p' q' h1 (by omega) h3 h4
   ·rintro e h' ⟨e0,e4,e5,uj⟩ K1 RC
    have X8:It (cD rules.l):=fun p hp q hq e=>by
     rw [<- jO] at hp hq;obtain ⟨a,ha⟩:=mem_iff_getElem?.1 hp;obtain ⟨b,hb⟩:=mem_iff_getElem?.1 hq;have hal:=(kT.1 ha).1;have XT:=(kT.1 hb).1;rcases Nat.lt_trichotomy a b with h|h|h
     ·exact uj a b p q h XT ha hb e
     ·subst h;rw [ha] at hb;cases hb;rfl
     ·exact (uj b a q p h hal hb ha e.symm).symm
    rw [F.bE.dm];simp only [e4,e5,aR,reduceAdd,reduceEqDiff,reduceIte,aS];rw [RC,F.bE.cq];simp only [e0,aR,reduceAdd,reduceEqDiff,reduceIte];refine ai (bq tP vK (fun hk=>?_) (fun y k hk hy=>?_))
    ·simp only [aR,reduceAdd,reduceEqDiff,reduceIte];exact no _ (fun hg=>by obtain ⟨k,h⟩:=hg.lev;exact hk k h)
    ·simp only [aR,reduceAdd,reduceEqDiff,reduceIte];exact fin true _ ⟨fun _=>(we _).2 ⟨tP,ht,X8,k,hk⟩,fun _=>rfl⟩
 have main:=gen (fun o h'=>yes (∃ b:Bool,o = .ret (.bool b)/\(b=true↔k8 rules.l))) (fun b h' hb=>cu.2 ⟨b,rfl,hb⟩);refine main.frozen (by simp [AV.cN,b7 fN]) fun o h' ho=>?_;obtain ⟨b,rfl,hb⟩:=cu.1 ho;exact ⟨_,_,rfl,.scalar _ rfl,hK b hb⟩
end
end Go.AM