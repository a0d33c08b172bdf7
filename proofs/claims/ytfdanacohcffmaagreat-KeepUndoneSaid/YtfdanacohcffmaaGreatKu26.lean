/- Parts of the proof. Conditions: none. -/
import Derived.Test.YtfdanacohcffmaaGreatKu19
import Derived.Test.YtfdanacohcffmaaGreatKu25
set_option linter.unusedSimpArgs false
set_option linter.unusedVariables false
namespace Go.AM
open List Nat Bool Option
open Go Go.Proofs
noncomputable section
variable {K:Out->Heap->Bool} {h:Heap} {rs:List aO} {n i k sz b ck lo v S B P M:Nat} {r:aO} {lv:ew.Lv} {s:DB×Bool} {α:Type} {es:List Entry} {x:Sl (b7×Int)} {vs:List Int} {nm:b7} {D0 D:DB} {rules:Sl aO} {p:Nat->Bool} {g ng:FuncId} {ps:List Nat} {t:Sl Int} {a:AV} {e0:Env} {na nb:List AV}
structure P4 (S n:Nat) (D0:DB) (ps:List yw) (ng:FuncId) (na nb:List AV):Prop where
 n1:1<=n
 xh:n<=64
 aa7:∀ p ∈ ps,p.ok
 rows:∀ nm p,D0 nm=some p->p.1≠S
 ask:∀ p ∈ ps,∀ D,eB D D0->FH n D p.r
 head:∀ p ∈ ps,n ^ p.r.args.l.length<=4096/\p.r.args.l.length<=12/\∃ q,D0 p.r.name=some q/\q.2.length=n ^ p.r.args.l.length
 note:∀ (i:Int) (r:aO) (k:Int) (hd:Sl Int) (cs:Sl (Sl Int)) (ls:Sl Int) (y:AV) (h:Heap) (K:Out->Heap->Bool),(∀ h',bA h h'->K (.ret (.tuple [])) h'=true)->Sem TP ng (na++([.agg (bR i r k (ak encI 1 hd) (ak cU 1 cs) (ak encI 1 ls)),y]++nb)) h K
set_option maxHeartbeats 2000000 in
theorem I8{k0:Nat}{ps:List yw}{a1:AV}(o:P4 S n D0 ps ng na nb)(hS:h.get S=some (.cells [.int .i64 (n:Int),.map B]))(Tr:S<h.next)(hD:eo D0 h B lo)
  (wh:Own tQ 8 k0 h a1 ps) (Xx:∀ b,cz a1=some b->∀ nm p,D0 nm=some p->b≠p.1) (sI:ps.length<=60)
  (hK:∀ h' D',Reach n (ps.map (·.r)) D0 D'->lY n (ps.map (·.r)) (D',false)=(D',false)->eB D' D0->eo D' h' B lo->(∀ b,b<h.next->(∀ nm p,D0 nm=some p->b≠p.1)->h'.get b=h.get b)->h.next<=h'.next->K (.ret (.tuple [])) h'=true) :
  Sem TP 103 [.ptr S 0,a1,.func ng na nb] h K:=by
 have hbig:ps.length<=cM:=by unfold cM;omega
 have D5:∀ nm p,D0 nm=some p->p.1<h.next:=fun nm p hp=>(hD.Fw nm p hp).2.1
 have hBn:=hD.lt;have hBr:∀ nm p,D0 nm=some p->B≠p.1:=fun nm p hp=>Ne.symm (hD.Fw nm p hp).2.2.1;refine F.r9 ?_;rw [F.tc];simp only [pE (x:=.ptr S 0) rfl,pE (x:=.func ng na nb) rfl,aq,Heap.aL]
 have g3:((h.alloc (.cells [.ptr S 0])).alloc (.cells [.func ng na nb])).get h.next=some (.cells [.ptr S 0]):=by
  rw [Heap.aU,Heap.aL,if_neg (by omega)];exact aB _ _
 have g5:((h.alloc (.cells [.ptr S 0])).alloc (.cells [.func ng na nb])).get (h.next+1)=some (.cells [.func ng na nb]):=aB _ _;have gx:bA h ((h.alloc (.cells [.ptr S 0])).alloc (.cells [.func ng na nb])):=(bA.alloc _ _).trans (bA.alloc _ _);have gn:((h.alloc (.cells [.ptr S 0])).alloc (.cells [.func ng na nb])).next=h.next+1+1:=rfl
 generalize ((h.alloc (.cells [.ptr S 0])).alloc (.cells [.func ng na nb]))=H2 at g3 g5 gx gn ⊢;obtain ⟨H3,s6,a6,o6,n6⟩:=mG (h:=H2) (z:=.bool false) (v:=.bool true) rfl rfl;rw [gn] at s6 a6;simp only [s6,aq];have x3:bA h H3:=gx.trans ⟨by omega,fun b hb=>o6 b (by omega)⟩
 refine Aw (fun m e h'=>∃ (D:DB) (more:Bool) (P6:Nat),e 1=a1/\e 3 = .ptr h.next 0/\e 5 = .ptr (h.next+1) 0/\e 6 = .ptr P6 0/\h'.get P6=some (.cells [.bool more])/\h.next+1<P6/\P6<h'.next/\h'.get h.next=some (.cells [.ptr S 0])/\h'.get (h.next+1)=some (.cells [.func ng na nb]) /\
  Reach n (ps.map (·.r)) D0 D/\eB D D0/\eo D h' B lo/\(∀ b,b<h.next->(∀ nm p,D0 nm=some p->b≠p.1)->h'.get b=h.get b)/\h.next<=h'.next /\
  ((more=true/\m=Dk (ps.map (·.r.name)) D+1)\/(more=false/\m=0/\lY n (ps.map (·.r)) (D,false)=(D,false)))) _
  ⟨D0,true,h.next+1+1,rfl,rfl,rfl,rfl,a6,by omega,by omega,by rw [o6 _ (by omega)];exact g3,by rw [o6 _ (by omega)];exact g5,.refl,fun _=>rfl,hD.ext x3,fun b hb _=>x3.get b hb,x3.next,.inl ⟨rfl,rfl⟩⟩ ?_
 rintro m e h' ⟨D,more,P6,e1,e3,e5,e6,q6,q6l,q6n,q3,q5,hre,wU,oN,hfr,oZ,Uw⟩ K0 hN0 Yo XA;rw [F.bV.aT];simp only [e6,aR,reduceAdd,reduceEqDiff,reduceIte,aj q6];rcases Uw with ⟨XZ,hm⟩|⟨XZ,hm,aa8⟩
 ·subst XZ;have st:aY 1 (.ptr P6 0) (.bool false) h'=some (h'.set P6 (.cells [.bool false])):=by rw [cF (n:=1) q6 rfl rfl (by simp)];rfl
  have aa9:∀ h,bU .slice a1 h=some (.int .i64 (ps.length:Int)):=fun h=>wh.len;simp only [aK,st,aR,reduceAdd,reduceEqDiff,reduceIte,e1,aa9];have f0:∀ b,b≠P6->(h'.set P6 (.cells [.bool false])).get b=h'.get b:=fun b hb=>by rw [Heap.aN,if_neg hb]
  have f6:(h'.set P6 (.cells [.bool false])).get P6=some (.cells [.bool false]):=by rw [Heap.aN,if_pos rfl]
  have fn:(h'.set P6 (.cells [.bool false])).next=h'.next:=Heap.bt _ _ _
  have fD:eo D (h'.set P6 (.cells [.bool false])) B lo:=by
   obtain ⟨es,ck,mm,z1,z2,z3⟩:=oN.ex;refine ⟨⟨es,ck,mm,by rw [f0 _ (by omega)];exact z1,z2,z3⟩,fun nm p hp=>?_,oN.inj,by rw [fn];exact oN.lt⟩;obtain ⟨c1,c2,c3,c4⟩:=oN.Fw nm p hp;obtain ⟨p0,d1,d2,_⟩:=wU.back hp;have:=D5 nm p0 d1;exact ⟨c1,by rw [fn];exact c2,c3,by rw [f0 _ (by omega)];exact c4⟩
  refine aD 0 ps.length (zero_le _) (fun i e h2=>∃ s:DB×Bool,s=lY n ((ps.map (·.r)).take i) (D,false)/\I5 (ps.map (·.r.name)) D0 D s/\eo s.1 h2 B lo/\h2.get P6=some (.cells [.bool s.2])/\h2.get h.next=some (.cells [.ptr S 0])/\h2.get (h.next+1)=some (.cells [.func ng na nb]) /\
   (∀ b,b<h.next->(∀ nm p,D0 nm=some p->b≠p.1)->h2.get b=h.get b)/\h'.next<=h2.next/\e 1=a1/\e 3 = .ptr h.next 0/\e 5 = .ptr (h.next+1) 0/\e 6 = .ptr P6 0/\e 10=a1/\e 11 = .int .i64 (ps.length:Int)/\e 12 = .int .i64 (i:Int))
   ⟨(D,false),rfl,⟨wU,dM _,fun h=>(by cases h),fun _=>rfl⟩,fD,f6,by rw [f0 _ (by omega)];exact q3,by rw [f0 _ (by omega)];exact q5,fun b hb hb2=>by rw [f0 _ (by omega)];exact hfr b hb hb2,by omega,e1,e3,e5,e6,rfl,rfl,rfl⟩ ?_ ?_
  ·rintro i e h2 _ hi ⟨s,hs,hq,w1,w6,w3,w5,wf,wn,e1,e3,e5,e6,kF,qI,Bf⟩ K1 FL jG OV Rj;have hv:ps[i]?=some ps[i]:=eA hi;generalize ps[i]=p at hv;have FM:=ig hv;have pok:=o.aa7 p FM
   have aep:Own tQ 8 k0 h2 a1 ps:=by
    cases wh with
    |nil=>exact .nil
    |row b l z1 z2 z3=>exact .row b _ z1 (by omega) (by rw [wf b z2 (Xx b rfl)];exact z3)
   obtain ⟨b,_,_,i1,i2,_⟩:=aep.get FJ hv;obtain ⟨H,iG,hL,ho,hn⟩:=cu (h:=h2) (zs:=[.int .i64 0,.str [],.ax,.ax,.int .i64 0,.ax,.ax,.ax]) (cs:=tQ p) (n:=8) rfl rfl (FK p);have xH:bA h2 H:=⟨by omega,fun b hb=>ho b (by omega)⟩
   have hL':=hL;simp only [tQ,bR] at hL';have hSH:H.get S=some (.cells [.int .i64 (n:Int),.map B]):=by rw [xH.get S (by omega),wf S Tr (fun nm p hp=>Ne.symm (o.rows nm p hp))];exact hS
   rw [F.bV.dh];simp only [kF,qI,Bf,aR,reduceAdd,reduceEqDiff,reduceIte,bh hi,i1,i2,iG,e3];simp only [aj (show H.get h.next=some (.cells [.ptr S 0]) by rw [xH.get _ (by omega)];exact w3),aj hL',Mq,aR,reduceAdd,reduceEqDiff,reduceIte,e5,e6]
   have so:Ms S B n lo H.next h.next (h.next+1) P6 h2.next D0 p.r (varsOf p.r).length p.hd ng na nb:=
    ⟨o.n1,o.xh,⟨by omega,by omega,by omega,by omega,by omega,by omega⟩,fun nm q hq=>by have:=D5 nm q hq;exact ⟨by omega,o.rows nm q hq,by omega,by omega,by omega,by omega⟩,⟨by omega,by omega,by omega,by omega,by omega⟩,o.ask p FM,o.head p FM,rfl,pok.hd,o.note⟩
   have sa:oO S B n lo H.next h.next (h.next+1) P6 h2.next D0 p.r p.i (varsOf p.r).length p.hd p.cs p.ls ng na nb H s H:=
    ⟨hSH,w1.ext xH,hq.NF,by rw [xH.get _ (by omega)];exact w3,by rw [xH.get _ (by omega)];exact w5,by rw [xH.get _ (by omega)];exact w6,hL,dM _,fun _ _ _ _=>rfl⟩
   refine ah (KO (KP so) pok.mc rfl pok.NC pok.cs pok.ls sa (dM _) fun h5 b5 f5 n5=>?_);simp only [aR,reduceAdd,reduceEqDiff,reduceIte,Bf,aI hi hbig];have hvr:(ps.map (·.r))[i]?=some p.r:=by rw [getElem?_map,hv];rfl
   refine FL _ _ ⟨kG n p.r s,by rw [KQ hvr,<- hs],I6 o.n1 (List.mem_map_of_mem (f:=fun q:yw=>q.r.name) FM) (o.head p FM).2.2 hq,b5.hD,b5.h6,b5.h3,b5.h5,fun b b1 b2=>?_,by omega,e1,e3,e5,e6,kF,qI,rfl⟩;rw [b5.old b (by omega) (by omega) b2,xH.get b (by omega),wf b b1 b2]
  ·rintro e h2 ⟨s,hs,hq,w1,w6,w3,w5,wf,wn,e1,e3,e5,e6,kF,qI,Bf⟩ K1 jG;rw [kf (by simp)] at hs;obtain ⟨H,iG,hL,ho,hn⟩:=mG (h:=h2) (z:=.bool false) (v:=.bool s.2) rfl rfl;have xH:bA h2 H:=⟨by omega,fun b hb=>ho b (by omega)⟩
   rw [F.bV.dh];simp only [qI,Bf,aR,reduceAdd,reduceEqDiff,reduceIte,aW];rw [jG,F.bV.cx];simp only [e6,aR,reduceAdd,reduceEqDiff,reduceIte,aj w6,iG];have aeq:Reach n (ps.map (·.r)) D0 s.1:=by rw [hs];exact .step D hre
   have com:∀ (m':Nat) (e':Env),e' 1=a1->e' 3 = .ptr h.next 0->e' 5 = .ptr (h.next+1) 0->e' 6 = .ptr h2.next 0->m'<m->((s.2=true/\m'=Dk (ps.map (·.r.name)) s.1+1)\/(s.2=false/\m'=0/\lY n (ps.map (·.r)) (s.1,false)=(s.1,false)))->K0 .normal ⟨e',22,[],H⟩=true:=fun m' e' e1 e3 e5 e6 uC hc=>
    hN0 m' _ _ uC ⟨s.1,s.2,h2.next,e1,e3,e5,e6,hL,by omega,by omega,by rw [xH.get _ (by omega)];exact w3,by rw [xH.get _ (by omega)];exact w5,aeq,hq.NF,w1.ext xH,fun b b1 b2=>by rw [xH.get b (by omega)];exact wf b b1 b2,by omega,hc⟩
   cases qH:s.2 with
   |true=>
    have:=hq.lt qH;exact com (Dk (ps.map (·.r.name)) s.1+1) _ e1 e3 e5 rfl (by omega) (.inl ⟨qH,rfl⟩)
   |false=>
    have h1:=hq.same qH;exact com 0 _ e1 e3 e5 rfl (by omega) (.inr ⟨qH,rfl,by rw [h1,<- hs,<- h1,<- qH]⟩)
 ·subst XZ;simp only [aJ];rw [Yo,F.bV.aG];exact hK h' D hre aa8 wU oN hfr oZ
def Rel.ok(r:Rel):Prop:=r.name.length<=cM/\r.aM.l.length<=cM/\∀ t ∈ r.aM.l,t.l.length<=cM
def cD.ok(s:cD):Prop:=s.aE.l.length<=cM/\∀ r ∈ s.aE.l,r.ok
theorem I9(hn:(es.map (·.2.2)).Nodup){e:Entry}(he:e ∈ es):lp e.2.2 es=some e:=by
 induction es with
 |nil=>cases he
 |cons a es ih=>
  rw [map_cons,nodup_cons] at hn;rw [lp];by_cases h:a.2.2=e.2.2
  ·rw [if_pos h];rw [mem_cons] at he;rcases he with rfl|he
   ·rfl
   ·exact absurd (by rw [h];exact List.mem_map_of_mem he) hn.1
  ·rw [if_neg h];rw [mem_cons] at he;rcases he with rfl|he
   ·exact absurd rfl h
   ·exact ih hn.2 he
theorem Dp{defs:List oV}{K:R->Bool}:∀ {ps:List (AV×Heap)},(∀ p ∈ ps,K (.ok p.1 defs p.2)=true)->lK defs K ps=true
 |[],_=>rfl
 |p :: ps,h=>by
  rw [lK,h p mem_cons_self,Bool.true_and];exact Dp fun q hq=>h q (mem_cons_of_mem _ hq)
theorem Dq{r m:Nat}{seen:List Nat}{defs:List oV}{K:R->Bool}(hr:h.get r=some (.fT (some m) ck seen ck))(hm:h.get m=some (.map es ck))(hB:jQ es ck)(nR:r≠m)
  (abb:(∀ e ∈ es,e.2.2 ∈ seen)->K (.ok (.tuple [.bool false]) defs h)=true)
  (ki:∀ e ∈ es,e.2.2 ∉ seen->sC (.ptr r 0) (h.set r (.fT (some m) ck (seen++[e.2.2]) ck))=some (.tuple [e.1,e.2.1])->K (.ok (.tuple [.bool true,e.1,e.2.1]) defs (h.set r (.fT (some m) ck (seen++[e.2.2]) ck)))=true) :
  af (xm false (.ptr r 0) h) (lK defs K)=true:=by
 have hc:∀ o ∈ sx es ck seen,(o=none/\∀ e ∈ es,e.2.2 ∈ seen)\/∃ e,o=some e/\e ∈ es/\e.2.2 ∉ seen:=by
  intro o ho;unfold sx at ho;simp only [mem_append,mem_map] at ho;rcases ho with ho|⟨e,he,rfl⟩
  ·split at ho
   ·rename_i hem;simp only [mem_singleton] at ho;refine .inl ⟨ho,fun e he=>?_⟩;rw [isEmpty_iff,filter_eq_nil_iff] at hem;have hlt:=hB.lt e he;by_cases hs:e.2.2 ∈ seen
    ·exact hs
    ·exact absurd (fy hlt) (hem e (by rw [mem_filter];exact ⟨he,by simpa using hs⟩))
   ·cases ho
  ·refine .inr ⟨e,rfl,?_⟩
   have:e ∈ es.filter fun e=>!seen.contains e.2.2:=by
    rcases he with he|he
    ·exact (mem_filter.1 he).1
    ·exact (mem_filter.1 he).1
   rw [mem_filter] at this;exact ⟨this.1,by simpa using this.2⟩
 have hne:sx es ck seen≠[]:=by
  unfold sx;intro he;simp only [append_eq_nil_iff,map_eq_nil_iff] at he;obtain ⟨h1,h2,_⟩:=he;rw [h2] at h1;simp at h1
 have aer:(!seen.isEmpty&&!es.isEmpty&&es.all (fun e=>decide (e.2.2>=ck)))=false:=by
  cases es with
  |nil=>simp
  |cons e es=>
   have:=hB.lt e mem_cons_self;rw [all_cons,eR (by omega),Bool.false_and,Bool.and_false]
 unfold xm;simp only [hr,hm,aer,false_eq_true,if_false]
 cases hcs:sx es ck seen with
 |nil=>exact absurd hcs hne
 |cons c cs=>
  rw [hcs] at hc;simp only [aq];refine Dp fun p hp=>?_;rw [mem_map] at hp;obtain ⟨o,ho,rfl⟩:=hp;rcases hc o ho with ⟨rfl,lI⟩|⟨e,rfl,he,hs⟩
  ·exact abb lI
  ·refine ki e he hs ?_;unfold sC;simp only [Heap.aN,if_true,if_neg (Ne.symm nR),hm,getLast?_concat,I9 hB.nodup he]
theorem j6.Tw:∀ {es:List Entry} {m:eE},j6 es m->∀ p ∈ m,∃ e ∈ es,e.1 = .str p.1/\e.2.1 = .int .i64 p.2
 |_,[],_,p,hp=>by cases hp
 |[],q :: m,h,_,_=>h.elim
 |e0 :: es,q :: m,⟨h1,h2,h3⟩,p,hp=>by
  rcases mem_cons.1 hp with rfl|hp
  ·exact ⟨e0,mem_cons_self,h1,h2⟩
  ·obtain ⟨e,he,r⟩:=j6.Tw h3 p hp;exact ⟨e,mem_cons_of_mem _ he,r⟩
def Dr(es:List Entry)(seen:List Nat):Nat:=(es.filter fun e=>!seen.contains e.2.2).length
theorem P7{seen:List Nat}{e:Entry}(he:e ∈ es)(hs:e.2.2 ∉ seen):Dr es (seen++[e.2.2])<Dr es seen:=by
 have h1:(es.filter fun a=>!(seen++[e.2.2]).contains a.2.2)=(es.filter fun a=>!seen.contains a.2.2).filter fun a=>!(a.2.2==e.2.2):=by
  rw [List.filter_filter];refine filter_congr fun a _=>?_;rw [Bool.eq_iff_iff];simp;exact And.comm
 unfold Dr;rw [h1];refine length_filter_lt_length_iff_exists.2 ⟨e,mem_filter.2 ⟨he,by simpa using hs⟩,by simp⟩
theorem zE{f:St->(AX->St->Bool)->Bool}{K:AX->St->Bool}{defs:List oV}{h0:Heap}(es:List Entry)(J:List Nat->Env->Heap->Prop)(hJ:J [] e0 h0)
  (step:∀ seen e h,J seen e h->∀ K':AX->St->Bool,(∀ en ∈ es,en.2.2 ∉ seen->∀ e' h',J (seen++[en.2.2]) e' h'->K' .normal ⟨e',n,defs,h'⟩=true)->(∀ id s,K' (.exit id) s=K (.exit id) s)->(∀ s,K' .ret s=K .ret s)->(∀ v s,K' (.panic v) s=K (.panic v) s)->f ⟨e,n,defs,h⟩ K'=true) :
  bW f ⟨e0,n,defs,h0⟩ K=true:=by
 refine k7 (fun m e h=>∃ seen,m=Dr es seen/\J seen e h) (Dr es []) ⟨[],rfl,hJ⟩ fun m e h hi=>?_;obtain ⟨seen,rfl,hj⟩:=hi;exact step seen e h hj _ (fun en rY hs e' h' Gz=>qS (I:=fun m e h=>∃ seen,m=Dr es seen/\J seen e h) (Dr es (seen++[en.2.2])) (P7 rY hs) ⟨_,rfl,Gz⟩) (fun _ _=>rfl) (fun _=>rfl) (fun _ _=>rfl)
theorem eB.trans{A B C:DB}(h1:eB A B)(h2:eB B C):eB A C:=fun nm=>(h1 nm).trans (h2 nm)
def gw(lv:ew.Lv)(rs:List aO)(l:Nat):List aO:=rs.filter fun r=>decide (lv r.name=l)
inductive FN (n:Nat) (rs:List aO) (lv:ew.Lv) (D0:DB):Nat->DB->Prop
 |zero:FN n rs lv D0 0 D0
 |succ (l:Nat) (D D':DB):FN n rs lv D0 l D->Reach n (gw lv rs l) D D'->lY n (gw lv rs l) (D',false)=(D',false)->FN n rs lv D0 (l+1) D'
theorem G8{l:Nat}(hr:rs[i]?=some r):gw lv (rs.take (i+1)) l=gw lv (rs.take i) l++if lv r.name=l then [r] else []:=by
 unfold gw;rw [take_add_one,hr,toList_some,filter_append];by_cases h:lv r.name=l<;>simp [h]
theorem Wn(p:yw):fS [.int .i64 0,.str [],.ax,.ax,.int .i64 0,.ax,.ax,.ax] [(0,8)] [.agg (tQ p)]=some (tQ p):=by
 obtain ⟨i,r,hd,cs,ls⟩:=p;obtain ⟨nm,xs,ys⟩:=r;cases hd<;>cases cs<;>cases ls<;>cases xs<;>cases ys<;>rfl
structure P8 (S n:Nat) (D0:DB) (rs:List aO) (ng:FuncId) (na nb:List AV):Prop where
 n1:1<=n
 xh:n<=64
 mc:∀ r ∈ rs,r.mc
 NC:∀ r ∈ rs,(varsOf r).length<=12
 rows:∀ nm p,D0 nm=some p->p.1≠S
 ask:∀ r ∈ rs,∀ D,eB D D0->FH n D r
 head:∀ r ∈ rs,n ^ r.args.l.length<=4096/\r.args.l.length<=12/\∃ q,D0 r.name=some q/\q.2.length=n ^ r.args.l.length
 note:∀ (i:Int) (r:aO) (k:Int) (hd:Sl Int) (cs:Sl (Sl Int)) (ls:Sl Int) (y:AV) (h:Heap) (K:Out->Heap->Bool),(∀ h',bA h h'->K (.ret (.tuple [])) h'=true)->Sem TP ng (na++([.agg (bR i r k (ak encI 1 hd) (ak cU 1 cs) (ak encI 1 ls)),y]++nb)) h K
 P9:rs.length<=60
theorem Ja{A:Nat}{hs ks:List b7}(o:P8 S n D0 rules.l ng na nb){l:Nat}{K:AX->St->Bool}
  (hP:h.get P=some (.cells [ak aP 3 rules,.map A,.map M])) (Rg:P<h.next) (hl:fq hs h M ks lv) (Wf:M<h.next) (hin:∀ r ∈ rules.l,r.name ∈ hs)
  (q0:e0 0 = .ptr P 0) (q1:e0 1 = .ptr S 0) (q2:e0 2 = .func ng na nb) (q9:e0 9 = .int .i64 (l:Int)) (q10:e0 10 = .ax) (q33:e0 33=ak aP 3 rules) (q34:e0 34 = .int .i64 (rules.l.length:Int)) (q35:e0 35 = .int .i64 0) {T:AV} (q26:e0 26=T) (q27:e0 27 = .int .i64 (l:Int))
  (done:∀ (e:Env) h' a ps,bA h h'->Own tQ 8 h.next h' a ps->(∀ p ∈ ps,p.ok)->ps.map (·.r)=gw lv rules.l l->e 0 = .ptr P 0->e 1 = .ptr S 0->e 2 = .func ng na nb->e 10=a->e 26=T->e 27 = .int .i64 (l:Int)->F.aX.yN K (.exit 4) ⟨e,62,[],h'⟩=true) :
  bW (EV F.aX.L2) ⟨e0,62,[],h⟩ (F.aX.yN K)=true:=by
 have hbig:rules.l.length<=cM:=by have:=o.P9;unfold cM;omega
 refine aD 0 rules.l.length (zero_le _) (fun i e h'=>∃ a ps,bA h h'/\Own tQ 8 h.next h' a ps/\(∀ p ∈ ps,p.ok)/\ps.map (·.r)=gw lv (rules.l.take i) l/\e 0 = .ptr P 0/\e 1 = .ptr S 0/\e 2 = .func ng na nb/\e 9 = .int .i64 (l:Int)/\e 10=a/\e 33=ak aP 3 rules/\e 34 = .int .i64 (rules.l.length:Int)/\e 35 = .int .i64 (i:Int)/\e 26=T/\e 27 = .int .i64 (l:Int))
  ⟨.ax,[],bA.refl _,.nil,fun p hp=>(by cases hp),rfl,q0,q1,q2,q9,q10,q33,q34,q35,q26,q27⟩ ?_ ?_
 ·rintro i e h' _ hi ⟨a,ps,hx,oa,kV,wh,e0,e1,e2,e9,kF,e33,e34,e35,BF,BG⟩ K' hn fW hr hp;have hv:rules.l[i]?=some rules.l[i]:=eA hi;generalize rules.l[i]=r at hv;have nR:=ig hv;obtain ⟨H,Da,g1,go,gn⟩:=cu (h:=h') (zs:=[.str [],.ax,.ax]) (cs:=aP r) (n:=3) rfl rfl (j9 r);have xH:bA h H:=hx.trans ⟨by omega,fun b hb=>go b (by omega)⟩;have pP:H.get P=some (.cells [ak aP 3 rules,.map A,.map M]):=by rw [xH.get P Rg];exact hP
  have pl:fq hs H M ks lv:=hl.gj (xH.get M Wf);have iG:=G8 (lv:=lv) (l:=l) hv;rw [F.aX.mg];simp only [e0,e9,kF,e33,e34,e35,aR,reduceAdd,reduceEqDiff,reduceIte,bh hi,aV rules hi,dF gv hv,Da];simp only [aR,reduceAdd,reduceEqDiff,reduceIte,cq,aj pP,aj g1,aP,pl.UQ,if_pos (hin r nR),cw];by_cases UW:lv r.name=l
  ·rw [if_pos UW] at iG;simp only [fy (by omega:(lv r.name:Int)=(l:Int)),aK,aR,reduceAdd,reduceEqDiff,reduceIte,aj g1,aP,rC];refine ah (cI (o.mc r nR) fun hd cs ls h1 h2 h3=>?_);have m7:=Wn ⟨(i:Int),r,hd,cs,ls⟩;have oH:=oa.ext (h':=H) ⟨by omega,fun b hb=>go b (by omega)⟩
   have abe:ps.length<=60:=by
    have z1:=congrArg List.length wh;rw [length_map] at z1;have z2:(gw lv (rules.l.take i) l).length<=(rules.l.take i).length:=length_filter_le _ _;have z3:=length_take_le' i rules.l;have:=o.P9;omega
   obtain ⟨a2,Xv,p1,p2,p3,p4,p5,p6⟩:=oH.push FJ FK xH.next (bytes:=152) (by unfold cG;omega) ⟨(i:Int),r,hd,cs,ls⟩
   simp only [tQ] at m7 p1;simp only [aR,reduceAdd,reduceEqDiff,reduceIte,m7,kF,p1,e35,aI hi hbig];refine hn _ _ ⟨a2,_,p5 h xH (dM _),p2,fun p hp=>?_,by rw [map_append,wh,iG];rfl,e0,e1,e2,e9,rfl,e33,e34,rfl,BF,BG⟩;rcases mem_append.1 hp with hp|hp
   ·exact kV p hp
   ·rw [mem_singleton] at hp;subst hp;exact ⟨o.mc r nR,o.NC r nR,h1,h2,h3⟩
  ·rw [if_neg UW,append_nil] at iG;simp only [eR (by omega:¬ (lv r.name:Int)=(l:Int)),aJ,e35,aI hi hbig,aq];exact hn _ _ ⟨a,ps,xH,oa.ext ⟨by omega,fun b hb=>go b (by omega)⟩,kV,by rw [iG];exact wh,e0,e1,e2,e9,kF,e33,e34,rfl,BF,BG⟩
 ·rintro e h' ⟨a,ps,hx,oa,kV,wh,e0,e1,e2,e9,kF,e33,e34,e35,BF,BG⟩ K' fW;rw [F.aX.mg];simp only [e34,e35,aR,reduceAdd,reduceEqDiff,reduceIte,aW];rw [fW];rw [kf (dM _)] at wh;exact done _ h' a ps hx oa kV wh e0 e1 e2 kF BF BG
def qw(ns:List b7)(lv:ew.Lv):List Int:=ns.map fun s=>(lv s:Int)
theorem Dt(ns:List b7)(lv:ew.Lv):(qw ns lv).length=ns.length:=by simp [qw]
theorem qy{ns:List b7}{s:b7}(h:ns[i]?=some s):(qw ns lv)[i]?=some (lv s:Int):=by
 unfold qw;rw [getElem?_map,h];rfl
theorem nS{α:Type}:∀ {l:List α} {i j:Nat} {s:α},l.Nodup->l[i]?=some s->l[j]?=some s->i=j
 |[],i,j,s,_,h,_=>by simp at h
 |a :: l,0,0,s,_,_,_=>rfl
 |a :: l,0,j+1,s,hn,h1,h2=>by
  simp only [getElem?_cons_zero,Option.some.injEq,getElem?_cons_succ] at h1 h2;subst h1;exact absurd (ig h2) (nodup_cons.1 hn).1
 |a :: l,i+1,0,s,hn,h1,h2=>by
  simp only [getElem?_cons_zero,Option.some.injEq,getElem?_cons_succ] at h1 h2;subst h2;exact absurd (ig h1) (nodup_cons.1 hn).1
 |a :: l,i+1,j+1,s,hn,h1,h2=>by
  rw [getElem?_cons_succ] at h1 h2;rw [nS (nodup_cons.1 hn).2 h1 h2]
theorem Qa{ns:List b7}(hn:ns.Nodup){e:ew.Edge}{a:Nat}(ha:ns[a]?=some e.h)(hlt:lv e.h<lv e.b+e.w):(qw ns lv).set a ((lv e.b+e.w:Nat):Int)=qw ns (ew.gQ lv e):=by
 have hal:=(kg.1 ha).1;refine ext_getElem? fun j=>?_;rw [getElem?_set];have u0:∀ x,ew.gQ lv e x=if x=e.h then lv e.b+e.w else lv x:=fun x=>by unfold ew.gQ;rw [if_pos hlt]
 by_cases hj:a=j
 ·subst hj;rw [if_pos rfl,if_pos (by rw [Dt];exact hal),qy ha,u0,if_pos rfl]
 ·rw [if_neg hj]
  cases hs:ns[j]? with
  |none=>unfold qw;rw [getElem?_map,getElem?_map,hs];rfl
  |some t=>
   rw [qy hs,qy hs,u0,if_neg];intro e1;subst e1;exact hj (nS hn ha hs)
theorem Jb{e:ew.Edge}{s:b7}(h:s≠e.h):ew.gQ lv e s=lv s:=by
 unfold ew.gQ;split
 ·exact if_neg h
 ·rfl
set_option maxHeartbeats 2000000 in
theorem bp{rules:Sl aO}(sq:rules.l.length<=60)(uH:∀ r ∈ rules.l,r.body.l.length<=20){h:Heap}{K:Out->Heap->Bool}
  (Dm:(∀ k,¬ ew.dr (bL rules.l) (ew.iter (bL rules.l) k))->K (.ret (.tuple [.ax,.bool false])) h=true)
  (zD:∀ (y:Sl Int) k,ew.dr (bL rules.l) (ew.iter (bL rules.l) k)->y.l=qw (eF rules.l) (ew.iter (bL rules.l) k)->K (.ret (.tuple [ak encI 1 y,.bool true])) h=true) :
  Sem TP 114 [ak aP 3 rules] h K:=by
 have hbig:rules.l.length<=cM:=by unfold cM;omega
 have hN:∀ e ∈ bL rules.l,e.b ∈ eF rules.l/\e.h ∈ eF rules.l:=fun e he=>by
  obtain ⟨r,hr,c,hc,_,hin,rfl⟩:=tM he;exact ⟨(fO _).2 hin,(fO _).2 (List.mem_map_of_mem hr)⟩
 have hw:∀ e ∈ bL rules.l,e.w<=1:=fun e he=>by
  obtain ⟨r,hr,c,hc,_,hin,rfl⟩:=tM he;exact KJ r c
 have P0:=Ax (pH rules.l);have hdl:(eF rules.l).length<=60:=by have:=oP rules.l;omega
 have main:Sem TP 114 [ak aP 3 rules] Heap.empty (fun o h'=>yes (((∀ k,¬ ew.dr (bL rules.l) (ew.iter (bL rules.l) k))/\o = .ret (.tuple [.ax,.bool false])) \/
   ∃ (a:AV) (y:Sl Int) (k:Nat),o = .ret (.tuple [a,.bool true])/\Fz true h' a (ak encI 1 y)/\ew.dr (bL rules.l) (ew.iter (bL rules.l) k)/\y.l=qw (eF rules.l) (ew.iter (bL rules.l) k))):=by
  refine F.zi ?_;rw [F.AY]
  generalize hR:(fun (o:Out) (h':Heap)=>yes (((∀ k,¬ ew.dr (bL rules.l) (ew.iter (bL rules.l) k))/\o = .ret (.tuple [.ax,.bool false])) \/
   ∃ (a:AV) (y:Sl Int) (k:Nat),o = .ret (.tuple [a,.bool true])/\Fz true h' a (ak encI 1 y)/\ew.dr (bL rules.l) (ew.iter (bL rules.l) k)/\y.l=qw (eF rules.l) (ew.iter (bL rules.l) k)))=R
  have aes:(∀ k,¬ ew.dr (bL rules.l) (ew.iter (bL rules.l) k))->∀ h',R (.ret (.tuple [.ax,.bool false])) h'=true:=fun hk h'=>by
   subst hR;exact ct.2 (.inl ⟨hk,rfl⟩)
  have abf:∀ h' a (y:Sl Int) k,Fz true h' a (ak encI 1 y)->ew.dr (bL rules.l) (ew.iter (bL rules.l) k)->y.l=qw (eF rules.l) (ew.iter (bL rules.l) k)->R (.ret (.tuple [a,.bool true])) h'=true:=fun h' a y k q1 q2 q3=>by
   subst hR;exact ct.2 (.inr ⟨a,y,k,rfl,q1,q2,q3⟩)
  clear hR;refine ah (dz sq fun x jG=>?_);have I2:x.l.length<=60:=by rw [jG];exact hdl
  have Mo:x.l.length<=cM:=by unfold cM;omega
  simp only [aR,reduceAdd,reduceEqDiff,reduceIte,BC (show x.l.length<=1000000 by omega)]
  have gU:(Heap.alloc Heap.empty (.cells ((replicate x.l.length (0:Int)).map iv))).get 0=some (.cells ((qw x.l (ew.iter (bL rules.l) 0)).map iv)):=by
   have:qw x.l (ew.iter (bL rules.l) 0)=replicate x.l.length (0:Int):=by
    show x.l.map (fun _=>(0:Int))=_;exact map_const'
   rw [this];exact aB _ _
  have gn:(Heap.alloc Heap.empty (.cells ((replicate x.l.length (0:Int)).map iv))).next=1:=rfl
  simp only [bT];generalize (Heap.alloc Heap.empty (.cells ((replicate x.l.length (0:Int)).map iv)))=H0 at gU gn ⊢;rw [<- jG] at hN P0 abf
  refine Aw (fun m e h'=>∃ k,h'.get 0=some (.cells ((qw x.l (ew.iter (bL rules.l) k)).map iv))/\0<h'.next/\(∀ s,ew.iter (bL rules.l) k s<=x.l.length)/\e 0=ak aP 3 rules/\e 4=ak encS 1 x/\e 5 = .slice 0 0 x.l.length 1 /\
   ((e 6 = .bool true/\m=x.l.length*x.l.length+2-(x.l.map (ew.iter (bL rules.l) k)).sum)\/(e 6 = .bool false/\m=0/\ew.dr (bL rules.l) (ew.iter (bL rules.l) k)))) _
   ⟨0,gU,by omega,fun s=>zero_le _,rfl,rfl,rfl,.inl ⟨rfl,rfl⟩⟩ ?_
  rintro m e h' ⟨k,qU,qn,bd,e0,e4,e5,Uw⟩ K0 hN0 Yo XA;rw [F.bp.aT];rcases Uw with ⟨e6,hm⟩|⟨e6,hm,iG⟩
  ·have ajt:(x.l.map (ew.iter (bL rules.l) k)).sum<=x.l.length*x.l.length:=ew.JX x.l fun s _=>bd s;simp only [e6,cC,aK]
   refine aD 0 rules.l.length (zero_le _) (fun i e h'=>∃ cur ch,ew.RS (ew.iter (bL rules.l) k) cur (jj (bF rules.l) (rules.l.take i)) ch/\h'.get 0=some (.cells ((qw x.l cur).map iv))/\0<h'.next/\(∀ s,cur s<=x.l.length) /\
    e 0=ak aP 3 rules/\e 4=ak encS 1 x/\e 5 = .slice 0 0 x.l.length 1/\e 6 = .bool ch/\e 7 = .int .i64 (i:Int)) ⟨_,false,ew.RS.nil _,qU,qn,bd,e0,e4,e5,rfl,rfl⟩ ?_ ?_
   ·rintro i e h' _ hi ⟨cur,ch,rs,qU,qn,bd,e0,e4,e5,e6,e7⟩ K1 FL Qb OV Rj;have hv:rules.l[i]?=some rules.l[i]:=eA hi;generalize rules.l[i]=r at hv;have aaU:=uH r (ig hv);have Au:r.body.l.length<=cM:=by unfold cM;omega
    have abg:r.name ∈ x.l:=(by rw [jG];exact (fO _).2 (List.mem_map_of_mem (ig hv)));have ld:∀ j,j<3->∀ h,ag none (.dO (rules.l.flatMap aP) (i*3+j)) h=(aP r)[j]?:=fun j hj h=>fI gv hv hj;have ld0:∀ h,ag none (.dO (rules.l.flatMap aP) (i*3)) h=some (.str r.name):=fun h=>ld 0 (by omega) h;rw [F.bp.dh];simp only [e0,e4,e7,aR,reduceAdd,reduceEqDiff,reduceIte,bh hi,aV rules hi,ld0];refine ah (dZ Mo (fun a ha=>?_) (fun G9=>absurd abg G9));have hal:=(kg.1 ha).1;simp only [aR,reduceAdd,reduceEqDiff,reduceIte]
    refine aD 0 r.body.l.length (zero_le _) (fun j e h2=>∃ cur ch,ew.RS (ew.iter (bL rules.l) k) cur (jj (bF rules.l) (rules.l.take i)++ni (bF rules.l) r (r.body.l.take j)) ch/\h2.get 0=some (.cells ((qw x.l cur).map iv))/\0<h2.next/\(∀ s,s≠r.name->cur s<=x.l.length)/\(∀ s,cur s<=x.l.length+j) /\
     e 0=ak aP 3 rules/\e 4=ak encS 1 x/\e 5 = .slice 0 0 x.l.length 1/\e 6 = .bool ch/\e 7 = .int .i64 (i:Int)/\e 8 = .int .i64 (a:Int)/\e 9 = .int .i64 (j:Int))
     ⟨cur,ch,by simpa [ni] using rs,qU,qn,fun s _=>bd s,by simpa using bd,e0,e4,e5,e6,e7,rfl,rfl⟩ ?_ ?_
    ·rintro j e h2 _ hj ⟨cur,ch,rs,qU,qn,bd1,bd2,e0,e4,e5,e6,e7,e8,e9⟩ K2 pV gi rN FD;have hc:r.body.l[j]?=some r.body.l[j]:=eA hj;generalize r.body.l[j]=c at hc;obtain ⟨H2,qH,k1,ko,kn⟩:=cu (h:=h2) (zs:=[.int .i64 0,.bool false,.str [],.ax]) (cs:=bM c) (n:=4) rfl rfl (iw c);have kU:H2.get 0=some (.cells ((qw x.l cur).map iv)):=by rw [ko 0 (by omega)];exact qU
     have iG:=Aq (hs:=bF rules.l) (r:=r) hc
     have skip:lT (bF rules.l) r c = []->∀ e':Env,e' 0=ak aP 3 rules->e' 4=ak encS 1 x->e' 5 = .slice 0 0 x.l.length 1->e' 6 = .bool ch->e' 7 = .int .i64 (i:Int)->e' 8 = .int .i64 (a:Int)->e' 9 = .int .i64 ((j+1:Nat):Int)->K2 .normal ⟨e',89,[],H2⟩=true:=by
      intro Ow e' e0 e4 e5 e6 e7 e8 e9;rw [Ow,append_nil] at iG;exact pV _ _ ⟨cur,ch,by rw [iG];exact rs,kU,by omega,bd1,fun s=>by have:=bd2 s;omega,e0,e4,e5,e6,e7,e8,e9⟩
     rw [F.bp.mg];simp only [e0,e4,e7,e9,aR,reduceAdd,reduceEqDiff,reduceIte,aV rules hi,ld 2 (by omega),aP,bh hj,aV r.body hj,dF iu hc,qH];simp only [aR,reduceAdd,reduceEqDiff,reduceIte,aj k1,bM];refine ah (dZ Mo (fun b hb=>?_) (fun G9=>?_))
     ·have Wo:=(kg.1 hb).1;have aet:c.name ∈ bF rules.l:=by rw [<- fO,<- jG];exact ig hb
      simp only [aR,reduceAdd,reduceEqDiff,reduceIte,aj k1,bM,cw];by_cases k0:c.kind=0
      ·have Ow:lT (bF rules.l) r c = [fh r c]:=(by unfold lT;rw [if_pos ⟨k0,aet⟩]);rw [Ow] at iG;simp only [fy k0,aK,fy (show (0:Int)<=(b:Int) by omega),e5,nr Wo,nG kU (qy hb),aR,reduceAdd,reduceEqDiff,reduceIte,aj k1,bM]
       have J:∀ e':Env,e' 0=ak aP 3 rules->e' 4=ak encS 1 x->e' 5 = .slice 0 0 x.l.length 1->e' 6 = .bool ch->e' 7 = .int .i64 (i:Int)->e' 8 = .int .i64 (a:Int)->e' 9 = .int .i64 (j:Int)->e' 12 = .int .i64 ((cur c.name+(fh r c).w:Nat):Int) ->
         F.bp.J0 K2 ⟨e',89,[],H2⟩=true:=by
        intro e' e0 e4 e5 e6 e7 e8 e9 Bf;rw [F.bp.CE];simp only [e5,e8,Bf,nr hal,nG kU (qy ha),aR,reduceAdd,reduceEqDiff,reduceIte];by_cases hlt:cur r.name<cur c.name+(fh r c).w
        ·have lN:=Qa P0 (e:=fh r c) ha hlt;have Qc:=yj (v:=((cur c.name+(fh r c).w:Nat):Int)) kU (i:=a) (by rw [Dt];exact hal);have abj:(qw x.l cur).set a ((cur c.name+(fh r c).w:Nat):Int)=qw x.l (ew.gQ cur (fh r c)):=lN;rw [abj] at Qc;simp only [bh hlt,aK,e5,e8,e9,Bf,nr hal,Qc,aR,reduceAdd,reduceEqDiff,reduceIte,aI hj Au];refine pV _ _ ⟨_,true,?_,by rw [Heap.aN,if_pos rfl],by rw [Heap.bt];omega,fun s hs=>?_,fun s=>?_,e0,e4,e5,rfl,e7,e8,rfl⟩
         ·rw [iG,<- append_assoc];exact rs.up hlt
         ·rw [Jb (e:=fh r c) hs];exact bd1 s hs
         ·have:=ew.sw (e:=fh r c) bd2 (KJ r c) s;omega
        ·simp only [eR (by omega:¬ ((cur r.name:Int)<((cur c.name+(fh r c).w:Nat):Int))),aJ,e9,aI hj Au,aq];exact pV _ _ ⟨cur,ch,by rw [iG,<- append_assoc];exact rs.same hlt,kU,by omega,bd1,fun s=>by have:=bd2 s;omega,e0,e4,e5,e6,e7,e8,rfl⟩
       cases hng:c.neg with
       |true=>
        have hw1:(fh r c).w=1:=(by unfold fh;simp [hng]);have Db:=aI (i:=cur c.name) (n:=2000000) (by have:=bd2 c.name;omega) (by unfold cM;omega);simp only [aK,Db,aq];exact J _ e0 e4 e5 e6 e7 e8 e9 (by rw [hw1];rfl)
       |false=>
        have hw1:(fh r c).w=0:=(by unfold fh;simp [hng]);simp only [aJ];exact J _ e0 e4 e5 e6 e7 e8 e9 (by rw [hw1];rfl)
      ·simp only [eR k0,aJ,e9,aI hj Au,aq];exact skip (by unfold lT;rw [if_neg (fun h=>k0 h.1)]) _ e0 e4 e5 e6 e7 e8 rfl
     ·have abk:c.name ∉ bF rules.l:=fun h=>G9 (by rw [jG];exact (fO _).2 h);have Ow:lT (bF rules.l) r c = []:=by unfold lT;rw [if_neg (fun h=>abk h.2)]
      simp only [aR,reduceAdd,reduceEqDiff,reduceIte,aj k1,bM,cw];by_cases k0:c.kind=0
      ·simp only [fy k0,aK,show decide ((0:Int)<=-1)=false from rfl,aJ,e9,aI hj Au,aq];exact skip Ow _ e0 e4 e5 e6 e7 e8 rfl
      ·simp only [eR k0,aJ,e9,aI hj Au,aq];exact skip Ow _ e0 e4 e5 e6 e7 e8 rfl
    ·rintro e h2 ⟨cur,ch,rs,qU,qn,bd1,bd2,e0,e4,e5,e6,e7,e8,e9⟩ K2 gi;rw [kf (dM _),<- C9 hv] at rs;rw [F.bp.mg];simp only [e0,e7,e9,aR,reduceAdd,reduceEqDiff,reduceIte,aV rules hi,ld 2 (by omega),aP,aW];rw [gi,F.bp.iU];simp only [e4,e5,e7,e8,nr hal,nG qU (qy ha),aR,reduceAdd,reduceEqDiff,reduceIte];by_cases OT:x.l.length<cur r.name
     ·simp only [bh OT,aK];rw [OV,F.bp.jC,XA,F.bp.bC];refine aes (ew.high (N:=x.l) hN hw (k:=k) (E1:=jj (bF rules.l) (rules.l.take (i+1))) (E2:=jj (bF rules.l) (rules.l.drop (i+1))) ?_ abg (by rw [<- rs.eq];exact OT)) _;unfold bL jj;rw [<- flatMap_append,take_append_drop]
     ·simp only [eR (by omega:¬ ((x.l.length:Int)<(cur r.name:Int))),aJ,e7,aI hi hbig,aq];refine FL _ _ ⟨cur,ch,rs,qU,qn,fun s=>?_,e0,e4,e5,e6,rfl⟩;by_cases hs:s=r.name
      ·subst hs;omega
      ·exact bd1 s hs
   ·rintro e h' ⟨cur,ch,rs,qU,qn,bd',e0,e4,e5,e6,e7⟩ K1 Qb;rw [kf (dM _)] at rs;obtain ⟨d1,d2⟩:=rs.done;have d1':cur=ew.iter (bL rules.l) (k+1):=d1;rw [F.bp.dh];simp only [e0,e7,aR,reduceAdd,reduceEqDiff,reduceIte,aW];rw [Qb,F.bp.cx];by_cases iG:ew.dr (bL rules.l) (ew.iter (bL rules.l) k)
    ·have Jc:ew.dr (jj (bF rules.l) rules.l) (ew.iter (bL rules.l) k):=iG;rw [fy Jc] at d2;have d3:cur=ew.iter (bL rules.l) k:=by rw [d1];exact ew.vZ iG
     rw [d3] at qU;exact hN0 0 _ _ (by omega) ⟨k,qU,qn,bd,e0,e4,e5,.inr ⟨by simp only [bK,reduceEqDiff,reduceIte,e6,d2];rfl,rfl,iG⟩⟩
    ·have Jc:¬ ew.dr (jj (bF rules.l) rules.l) (ew.iter (bL rules.l) k):=iG;rw [eR Jc] at d2;rw [d1'] at qU bd';have h1:=ew.MN hN iG;have h2:(x.l.map (ew.iter (bL rules.l) (k+1))).sum<=x.l.length*x.l.length:=ew.JX x.l fun s _=>bd' s;have h3:(x.l.map (ew.iter (bL rules.l) k)).sum<(x.l.map (ew.iter (bL rules.l) (k+1))).sum:=h1;exact hN0 _ _ _ (by rw [hm];omega) ⟨k+1,qU,qn,bd',e0,e4,e5,.inl ⟨by simp only [bK,reduceEqDiff,reduceIte,e6,d2];rfl,rfl⟩⟩
  ·simp only [e6,cC,aJ];rw [Yo,F.bp.aG];simp only [bK,reduceEqDiff,reduceIte,e5];have hf:=IE qU;rw [Dt] at hf;exact abf _ _ (some (qw x.l (ew.iter (bL rules.l) k))) k hf iG rfl
 refine main.frozen (by simp [AV.cN,cc fN]) fun o h' ho=>?_;rcases ct.1 ho with ⟨hb,rfl⟩|⟨a,y,k,rfl,f1,iG,s3⟩
 ·exact ⟨_,_,rfl,.dP rfl,Dm hb⟩
 ·have fl:=lF.cons f1 (lF.cons (Fz.scalar (.bool true) rfl) lF.nil);exact ⟨_,_,rfl,.tuple _ _ fl.len fl.rel,zD y k iG s3⟩
set_option maxHeartbeats 2000000 in
theorem NH{A:Nat}{hs ks:List b7}(o:P8 S n D0 rules.l ng na nb)
  (hP:h.get P=some (.cells [ak aP 3 rules,.map A,.map M])) (Rg:P<h.next) (hl:fq hs h M ks lv) (BD:ks.Nodup) (Wf:M<h.next) (hin:∀ r ∈ rules.l,r.name ∈ hs) (UW:∀ x,lv x<=1000000)
  (hS:h.get S=some (.cells [.int .i64 (n:Int),.map B])) (Tr:S<h.next) (hD:eo D0 h B lo) (hPM:∀ nm p,D0 nm=some p->p.1≠P/\p.1≠M)
  (hK:∀ h' D' T,(∀ x ∈ hs,lv x<=T)->FN n rules.l lv D0 (T+1) D'->eB D' D0->eo D' h' B lo->(∀ b,b<h.next->(∀ nm p,D0 nm=some p->b≠p.1)->h'.get b=h.get b)->h.next<=h'.next->K (.ret (.tuple [])) h'=true) :
  Sem TP 59 [.ptr P 0,.ptr S 0,.func ng na nb] h K:=by
 obtain ⟨es,ck,m,z1,z2,z3,z4,z5⟩:=hl.ex;have aev:(m.map (·.1)).Nodup:=by rw [z4];exact BD
 have Ej:∀ p ∈ m,p.1 ∈ hs/\p.2=(lv p.1:Int):=fun p hp=>by
  have h1:=uJ aev hp;rw [z5] at h1;by_cases hh:p.1 ∈ hs
  ·rw [if_pos hh] at h1;exact ⟨hh,(Option.some.inj h1).symm⟩
  ·rw [if_neg hh] at h1;cases h1
 refine F.se ?_;rw [F.td];have Xs:mu .map (.map M) h=some (.ptr h.next 0,h.alloc (.fT (some M) ck [] ck)):=by simp only [mu,z1]
 simp only [aR,reduceAdd,reduceEqDiff,reduceIte,cq,aj hP,Xs]
 refine zE es (fun seen e hh=>∃ t:Nat,e 6 = .int .i64 (t:Int)/\(∀ en ∈ es,en.2.2 ∈ seen->∀ v:Nat,en.2.1 = .int .i64 (v:Int)->v<=t)/\t<=1000000/\hh.get h.next=some (.fT (some M) ck seen ck)/\(∀ b,b<h.next->hh.get b=h.get b)/\h.next<hh.next /\
  e 0 = .ptr P 0/\e 1 = .ptr S 0/\e 2 = .func ng na nb/\e 17 = .ptr h.next 0)
  ⟨0,rfl,fun en _ rY=>(by cases rY),by omega,aB _ _,fun b hb=>by rw [Heap.aU,if_neg (by omega)],by rw [Heap.aL];omega,rfl,rfl,rfl,rfl⟩ ?_
 rintro seen e hh ⟨t,e6,ht,ht6,w3,wf,wn,e0,e1,e2,tV⟩ K' Qd hex Tx abl;rw [F.aX.aT];simp only [tV];refine Dq w3 (by rw [wf M Wf];exact z1) z3 (by omega) (fun lI=>?_) (fun en rY hns Cc=>?_)
 ·simp only [GG,nM,aq,cC,aJ];rw [hex,F.aX.aG]
  have aew:∀ x ∈ hs,lv x<=t:=fun x hx=>by
   have h1:m.find x=some (lv x:Int):=by rw [z5,if_pos hx]
   obtain ⟨en,rY,h2,h3⟩:=z2.Tw _ (qs h1);exact ht en rY (lI en rY) (lv x) h3
  have Db:=aI (i:=t) (n:=1000001) (by omega) (by unfold cM;omega);simp only [aR,reduceAdd,reduceEqDiff,reduceIte,e6,Db]
  refine aD 0 (t+1) (zero_le _) (fun l e h'=>∃ D,FN n rules.l lv D0 l D/\eB D D0/\eo D h' B lo/\(∀ b,b<h.next->(∀ nm p,D0 nm=some p->b≠p.1)->h'.get b=h.get b)/\h.next<=h'.next/\e 0 = .ptr P 0/\e 1 = .ptr S 0/\e 2 = .func ng na nb/\e 26 = .int .i64 ((t+1:Nat):Int)/\e 27 = .int .i64 (l:Int))
   ⟨D0,.zero,fun _=>rfl,hD.ext ⟨by omega,fun b hb=>wf b hb⟩,fun b hb _=>wf b hb,by omega,e0,e1,e2,rfl,rfl⟩ ?_ ?_
  ·rintro l e h' _ hlt ⟨D,hrun,wU,oN,hfr,oZ,e0,e1,e2,BF,BG⟩ K1 FL jG OV Rj;have aex:∀ nm p,D0 nm=some p->P≠p.1:=fun nm p hp=>Ne.symm (hPM nm p hp).1;have notM:∀ nm p,D0 nm=some p->M≠p.1:=fun nm p hp=>Ne.symm (hPM nm p hp).2;have pP:h'.get P=some (.cells [ak aP 3 rules,.map A,.map M]):=by rw [hfr P Rg aex];exact hP
   have pl:fq hs h' M ks lv:=hl.gj (hfr M Wf notM);rw [F.aX.dh];simp only [e0,BF,BG,aR,reduceAdd,reduceEqDiff,reduceIte,bh hlt,cq,aj pP];refine Ja o (l:=l) pP (by omega) pl (by omega) hin e0 e1 e2 rfl rfl rfl rfl rfl BF BG fun e' h3 a ps KR oa kV wh f0 f1 f2 f10 f26 f27=>?_;rw [F.aX.iU];simp only [f1,f2,f10];have hS3:h3.get S=some (.cells [.int .i64 (n:Int),.map B]):=by rw [KR.get S (by omega),hfr S Tr (fun nm p hp=>Ne.symm (o.rows nm p hp))];exact hS
   have Jd:∀ p ∈ ps,p.r ∈ rules.l:=fun p hp=>by
    have:p.r ∈ gw lv rules.l l:=(by rw [<- wh];exact List.mem_map_of_mem hp);exact (mem_filter.1 this).1
   have abe:ps.length<=60:=by
    have y1:=congrArg List.length wh;rw [length_map] at y1;have y2:(gw lv rules.l l).length<=rules.l.length:=length_filter_le _ _;have:=o.P9;omega
   have po:P4 S n D ps ng na nb:=
    ⟨o.n1,o.xh,kV,fun nm p hp=>by obtain ⟨p0,y1,y2,_⟩:=wU.back hp;rw [y2];exact o.rows nm p0 y1,fun p hp D' rQ=>o.ask _ (Jd p hp) D' (rQ.trans wU),
     fun p hp=>by
      obtain ⟨y1,y2,q,y3,y4⟩:=o.head _ (Jd p hp);obtain ⟨q',y5,_,y6⟩:=wU.get y3
      exact ⟨y1,y2,q',y5,by rw [y6];exact y4⟩,o.note⟩
   have hDn:∀ nm p,D nm=some p->p.1<h'.next:=fun nm p hp=>(oN.Fw nm p hp).2.1
   refine ah (I8 po hS3 (by have:=KR.next;omega) (oN.ext KR) oa (fun b hb nm p hp=>by have:=oa.ge hb;have:=hDn nm p hp;omega) abe fun h4 D4 k1 k2 k3 k4 k5 k6=>?_);simp only [aR,reduceAdd,reduceEqDiff,reduceIte,f27,aI hlt (show t+1<=cM by unfold cM;omega)];rw [wh] at k1 k2;refine FL _ _ ⟨D4,.succ l D D4 hrun k1 k2,k3.trans wU,k4,fun b b1 b2=>?_,by have:=KR.next;omega,f0,f1,f2,f26,rfl⟩;rw [k5 b (by have:=KR.next;omega) (fun nm p hp=>by obtain ⟨p0,y1,y2,_⟩:=wU.back hp;rw [y2];exact b2 nm p0 y1),KR.get b (by omega),hfr b b1 b2]
  ·rintro e h' ⟨D,hrun,wU,oN,hfr,oZ,e0,e1,e2,BF,BG⟩ K1 jG;rw [F.aX.dh];simp only [BF,BG,aR,reduceAdd,reduceEqDiff,reduceIte,aW];rw [jG,F.aX.cx];exact hK h' D t aew hrun wU oN hfr oZ
 ·obtain ⟨p,FM,FL,pV⟩:=z2.mem en rY;obtain ⟨hph,Xq⟩:=Ej p FM;rw [Xq] at pV;have ajw:=UW p.1;simp only [GG,nM,uB,aq,cC,aK,tV,Cc,e6,pV,IY]
  have hmx:Mp (t:Int) (lv p.1:Int)=((if lv p.1>t then lv p.1 else t:Nat):Int):=by
   unfold Mp;by_cases OT:lv p.1>t
   ·rw [if_pos OT,if_pos (by omega)]
   ·rw [if_neg OT,if_neg (by omega)]
  refine Qd en rY hns _ _ ⟨if lv p.1>t then lv p.1 else t,by rw [hmx];rfl,fun UX Je gu v hv=>?_,by split<;>omega,by rw [Heap.aN,if_pos rfl],fun b hb=>by rw [Heap.aN,if_neg (by omega)];exact wf b hb,by rw [Heap.bt];exact wn,e0,e1,e2,tV⟩;rcases mem_append.1 gu with gu|gu
  ·have:=ht UX Je gu v hv;split<;>omega
  ·rw [mem_singleton] at gu
   have hee:UX=en:=by
    have hb:=z3.nodup;obtain ⟨i,hi⟩:=mem_iff_getElem?.1 rY;obtain ⟨j,hj⟩:=mem_iff_getElem?.1 Je;have uX:(es.map (·.2.2))[i]?=some en.2.2:=by rw [getElem?_map,hi];rfl
    have Gz:(es.map (·.2.2))[j]?=some en.2.2:=by rw [getElem?_map,hj,<- gu];rfl
    have hij:=nS hb uX Gz;subst hij;rw [hi] at hj;exact (Option.some.inj hj).symm
   rw [hee,pV] at hv;have:v=lv p.1:=by injection hv with _ h3;omega
   rw [this];split<;>omega
theorem gL{n:Int}{x:Sl Int}(hx:x.l.length<=cM){h:Heap}{K:Out->Heap->Bool}(hK:K (.ret (.bool (jo n x.l))) h=true):Sem TP 125 [.int .i64 n,ak encI 1 x] h K:=by
 refine F.GU ?_;rw [F.Ix];refine aD 0 x.l.length (zero_le _) (fun i e h'=>h'=h/\e 0 = .int .i64 n/\e 1=ak encI 1 x/\e 5 = .int .i64 (i:Int)/\jo n (x.l.take i)=true) ⟨rfl,rfl,rfl,rfl,rfl⟩ ?_ ?_
 ·rintro i e h' _ hi ⟨rfl,e0,e1,e5,ht⟩ K' hn fW hr hp;have hv:x.l[i]?=some x.l[i]:=eA hi;rw [F.gL.aT];simp only [e0,e1,e5,aR,reduceAdd,reduceEqDiff,reduceIte,bh hi,aV x hi,iV hv];by_cases h1:x.l[i]<0
  ·simp only [fy h1,aK];rw [hr,F.gL.bC];have:jo n x.l=false:=all_false hv (by simp [h1]);rw [this] at hK;exact hK
  ·simp only [eR h1,aJ];by_cases h2:n<=x.l[i]
   ·simp only [fy h2,aK];rw [hr,F.gL.bC];have:jo n x.l=false:=all_false hv (by simp [h2]);rw [this] at hK;exact hK
   ·simp only [eR h2,aJ,aI hi hx,aq];exact hn _ _ ⟨rfl,e0,e1,rfl,jm hv ht (by simp [h1,h2])⟩
 ·rintro e h' ⟨rfl,e0,e1,e5,ht⟩ K' fW;rw [F.gL.aT];simp only [e0,e1,e5,aR,reduceAdd,reduceEqDiff,reduceIte,aW];rw [fW,F.gL.aG];rw [kf (dM _)] at ht;rw [ht] at hK;exact hK
theorem ER{x:Sl Int}(hx:x.l.length<=cM){a b:List AV}{p:Int->Bool}(hp:∀ (v:Int) (K:Out->Heap->Bool),K (.ret (.bool (p v))) h=true->Sem TP g (a++([.int .i64 v]++b)) h K)
  (hK:∀ n:Int,decide (0<=n)=x.l.any p->K (.ret (.int .i64 n)) h=true):Sem TP 91 [ak encI 1 x,.func g a b] h K:=by
 refine F.mE ?_;rw [F.mV];simp only [aR,reduceAdd,reduceEqDiff,reduceIte];refine aD 0 x.l.length (zero_le _) (fun i e h'=>h'=h/\e 0=ak encI 1 x/\e 1 = .func g a b/\e 7 = .int .i64 (x.l.length:Int)/\e 8 = .int .i64 (i:Int)/\(x.l.take i).any p=false) ⟨rfl,rfl,rfl,rfl,rfl,rfl⟩ ?_ ?_
 ·rintro i e h' _ hi ⟨rfl,e0,e1,e7,e8,ht⟩ K' hn fW hr B6;have hv:x.l[i]?=some x.l[i]:=eA hi;rw [F.bQ.aT];simp only [e0,e1,e7,e8,aR,reduceAdd,reduceEqDiff,reduceIte,bh hi,aV x hi,iV hv,fA];refine ah (hp _ _ ?_);simp only [aR,reduceAdd,reduceEqDiff,reduceIte]
  cases hq:p x.l[i] with
  |true=>
   simp only [aK];rw [hr,F.bQ.bC];refine hK (i:Int) ?_;rw [fy (by omega:(0:Int)<=(i:Int))];exact (List.any_eq_true.2 ⟨_,ig hv,hq⟩).symm
  |false=>
   simp only [aJ,aI hi hx,aq];exact hn _ _ ⟨rfl,e0,e1,e7,rfl,by rw [take_add_one,hv,any_append,ht];simp [hq]⟩
 ·rintro e h' ⟨rfl,e0,e1,e7,e8,ht⟩ K' fW;rw [F.bQ.aT];simp only [e0,e1,e7,e8,aR,reduceAdd,reduceEqDiff,reduceIte,aW];rw [fW,F.bQ.aG];rw [kf (dM _)] at ht;exact hK (-1) (by rw [ht];rfl)
theorem qz{x:Sl Int}(hx:x.l.length<=cM){a b:List AV}{p:Int->Bool}(hp:∀ (v:Int) (K:Out->Heap->Bool),K (.ret (.bool (p v))) h=true->Sem TP g (a++([.int .i64 v]++b)) h K)
  (hK:K (.ret (.bool (x.l.any p))) h=true):Sem TP 47 [ak encI 1 x,.func g a b] h K:=by
 refine F.lG ?_;rw [F.lQ];refine ah (ER hx hp fun n hn=>?_);simp only [aR,reduceAdd,reduceEqDiff,reduceIte];rw [hn];exact hK
def Du(n:Int)(x:Int):Bool:=decide (x<0)||decide (n<=x)
theorem Qe(n:Int)(l:List Int):jo n l = !(l.any (Du n)):=by
 unfold jo Du
 induction l with
 |nil=>rfl
 |cons a l ih=>simp only [all_cons,any_cons,ih];cases decide (a<0)<;>cases decide (n<=a)<;>rfl
theorem cE{cs:List AV}(h:cs.length=n):iX (some n) cs 0=some (.agg cs):=by
 simp [iX,h,kf]
theorem gY{n k:Nat}(h1:1<=n)(h2:n<=64)(hk:k<=cM){h:Heap}{K:Out->Heap->Bool}(hK:∀ v:Nat,(n ^ k<=4096->v=n ^ k)->(4096<n ^ k->4096<v)->K (.ret (.int .i64 (v:Int))) h=true) :
  Sem TP 155 [.int .i64 (n:Int),.int .i64 (k:Int)] h K:=by
 refine F.EB ?_;rw [F.GR];refine aD 0 k (zero_le _) (fun i e h'=>h'=h/\e 0 = .int .i64 (n:Int)/\e 1 = .int .i64 (k:Int)/\e 6 = .int .i64 (i:Int)/\e 5 = .int .i64 ((n ^ i:Nat):Int)/\n ^ i<=262144) ⟨rfl,rfl,rfl,rfl,rfl,by simp⟩ ?_ ?_
 ·rintro i e h' _ hi ⟨rfl,e0,e1,e6,e5,hb⟩ K' hn hx hr hp;rw [F.gY.aT];simp only [e0,e1,e5,e6,aR,reduceAdd,reduceEqDiff,reduceIte,bh hi];by_cases hc:n ^ i<=4096
  ·have hm:n ^ i*n<=4096*64:=Nat.mul_le_mul hc h2;have uC:((n ^ i:Nat):Int)*(n:Int)=((n ^ (i+1):Nat):Int):=by rw [Nat.pow_succ,Int.natCast_mul]
   have hs:n ^ (i+1)<=262144:=by rw [Nat.pow_succ];omega
   have hmul:aF .mul (.int .i64 ((n ^ i:Nat):Int)) (.int .i64 (n:Int))=some (.int .i64 ((n ^ (i+1):Nat):Int)):=by
    rw [uA (by rw [uC];omega) (by rw [uC];omega),uC]
   simp only [fy (by omega:((n ^ i:Nat):Int)<=4096),aK,hmul,aI hi hk,aq];exact hn _ _ ⟨rfl,e0,e1,rfl,rfl,hs⟩
  ·simp only [eR (by omega:¬ ((n ^ i:Nat):Int)<=4096),aJ];rw [hx,F.gY.aG];simp only [e5,bK,reduceEqDiff,reduceIte];have:=KK h1 (Nat.le_of_lt hi);exact hK _ (fun h=>by omega) (fun _=>by omega)
 ·rintro e h' ⟨rfl,e0,e1,e6,e5,hb⟩ K' hx;rw [F.gY.aT];simp only [e0,e1,e5,e6,aR,reduceAdd,reduceEqDiff,reduceIte,aW];rw [hx,F.gY.aG];simp only [e5,bK,reduceEqDiff,reduceIte];exact hK _ (fun _=>rfl) (fun h=>h)
def KS(n k:Nat):Int:=if n ^ k<=4096 then ((n ^ k:Nat):Int) else -1
theorem ec{n k:Nat}(h1:1<=n)(h2:n<=64)(hk:k<=cM){h:Heap}{K:Out->Heap->Bool}(hK:K (.ret (.int .i64 (KS n k))) h=true) :
  Sem TP 108 [.int .i64 (n:Int),.int .i64 (k:Int),.int .i64 4096] h K:=by
 refine F.A3 ?_;rw [F.CQ];refine aD 0 k (zero_le _) (fun i e h'=>h'=h/\e 0 = .int .i64 (n:Int)/\e 2 = .int .i64 4096/\e 8 = .int .i64 (k:Int)/\e 9 = .int .i64 (i:Int)/\e 7 = .int .i64 ((n ^ i:Nat):Int)/\n ^ i<=4096) ⟨rfl,rfl,rfl,rfl,rfl,rfl,by simp⟩ ?_ ?_
 ·rintro i e h' _ hi ⟨rfl,e0,e2,e8,e9,e7,hb⟩ K' hn hx hr hp;rw [F.ec.aT];have hm:n ^ i*n<=4096*64:=Nat.mul_le_mul hb h2;have uC:((n ^ i:Nat):Int)*(n:Int)=((n ^ (i+1):Nat):Int):=by rw [Nat.pow_succ,Int.natCast_mul]
  have hs:n ^ (i+1)<=262144:=by rw [Nat.pow_succ];omega
  have hmul:aF .mul (.int .i64 ((n ^ i:Nat):Int)) (.int .i64 (n:Int))=some (.int .i64 ((n ^ (i+1):Nat):Int)):=by
   rw [uA (by rw [uC];omega) (by rw [uC];omega),uC]
  simp only [e0,e2,e7,e8,e9,aR,reduceAdd,reduceEqDiff,reduceIte,bh hi,hmul];by_cases hc:n ^ (i+1)<=4096
  ·simp only [eR (by omega:¬ (4096:Int)<((n ^ (i+1):Nat):Int)),aJ,aI hi hk,aq];exact hn _ _ ⟨rfl,e0,e2,e8,rfl,rfl,hc⟩
  ·simp only [fy (by omega:(4096:Int)<((n ^ (i+1):Nat):Int)),aK];rw [hr,F.ec.bC];simp only [bK,reduceEqDiff,reduceIte];have:=KK h1 (show i+1<=k from hi);rw [KS,if_neg (by omega)] at hK;exact hK
 ·rintro e h' ⟨rfl,e0,e2,e8,e9,e7,hb⟩ K' hx;rw [F.ec.aT];simp only [e8,e9,aR,reduceAdd,reduceEqDiff,reduceIte,aW];rw [hx,F.ec.aG];simp only [e7,bK,reduceEqDiff,reduceIte];rw [KS,if_pos hb] at hK;exact hK
def NI(n k:Nat):AV:=if 12<k then .tuple [.int .i64 0,.int .i64 2] else if 4096<n ^ k then .tuple [.int .i64 0,.int .i64 5] else .tuple [.int .i64 ((n ^ k:Nat):Int),.int .i64 0]
theorem tW(h1:1<=n)(h2:n<=64)(hk:k<=cM)(hK:K (.ret (NI n k)) h=true):Sem TP 99 [.int .i64 (n:Int),.int .i64 (k:Int)] h K:=by
 refine F.A2 ?_;rw [F.CO];simp only [aR,reduceAdd,reduceEqDiff,reduceIte,eR (by omega:¬ (n:Int)<1),eR (by omega:¬ (64:Int)<(n:Int)),eR (by omega:¬ (k:Int)<0)];unfold NI at hK;by_cases IK:12<k
 ·rw [if_pos IK] at hK;simp only [fy (by omega:(12:Int)<(k:Int)),aK];exact hK
 ·rw [if_neg IK] at hK;simp only [eR (by omega:¬ (12:Int)<(k:Int)),aJ];refine ah (ec h1 h2 hk ?_);simp only [aR,reduceAdd,reduceEqDiff,reduceIte];by_cases hc:n ^ k<=4096
  ·rw [if_neg (by omega)] at hK;simp only [KS,if_pos hc,eR (by omega:¬ ((n ^ k:Nat):Int)<0),aJ];exact hK
  ·rw [if_pos (by omega)] at hK;simp only [KS,if_neg hc,fy (by omega:(-1:Int)<0),aK];exact hK
theorem KT{n:Int}(hb:h.get b=some (.cells [.int .i64 n]))(v:Int)(K:Out->Heap->Bool)(hK:K (.ret (.bool (Du n v))) h=true):Sem TP 93 ([]++([.int .i64 v]++[.ptr b 0])) h K:=by
 refine F.tg ?_;rw [F.vi];simp only [aj hb,aR,reduceAdd,reduceEqDiff,reduceIte];unfold Du at hK;by_cases h1:v<0<;>by_cases h2:n<=v<;>simpa [h1,h2] using hK
theorem tX{n:Int}{x:Sl Int}(hx:x.l.length<=cM)(hK:K (.ret (.bool (jo n x.l))) h=true):Sem TP 52 [.int .i64 n,ak encI 1 x] h K:=by
 refine Sem.data (r:=.bool (jo n x.l)) ?_ (by simp [AV.cN,AV.pure,cc j4]) hK;refine F.wG ?_;rw [F.yc];simp only [pE (x:=.int .i64 _) rfl,aq,bT];have g0:(Heap.alloc Heap.empty (.cells [.int .i64 n])).get 0=some (.cells [.int .i64 n]):=aB _ _;refine ah (qz hx (KT g0) ?_);simp only [aR,reduceAdd,reduceEqDiff,reduceIte];rw [Qe];exact fY rfl
theorem wV{l m:List Int}{a b:Int}(ha:l[i]?=some a)(hb:m[i]?=some b):dm (l.drop i) (m.drop i)=if a=b then dm (l.drop (i+1)) (m.drop (i+1)) else decide (a<b):=by
 have h1:=(kg.1 ha).1;have h2:=(kg.1 hb).1;rw [drop_eq_getElem_cons h1,drop_eq_getElem_cons h2];rw [eA h1] at ha;rw [eA h2] at hb;cases ha;cases hb;rfl
theorem fB{x y:Sl Int}(hx:x.l.length<=cM)(UO:x.l.length=y.l.length){h:Heap}{K:Out->Heap->Bool}(hK:K (.ret (.bool (dm x.l y.l))) h=true):Sem TP 156 [ak encI 1 x,ak encI 1 y] h K:=by
 refine F.CP ?_;rw [F.EE];refine aD 0 x.l.length (zero_le _) (fun i e h'=>h'=h/\e 0=ak encI 1 x/\e 1=ak encI 1 y/\e 5 = .int .i64 (i:Int)/\dm x.l y.l=dm (x.l.drop i) (y.l.drop i)) ⟨rfl,rfl,rfl,rfl,rfl⟩ ?_ ?_
 ·rintro i e h' _ hi ⟨rfl,e0,e1,e5,hl⟩ K' hn fW hr hp;have Bz:i<y.l.length:=by omega
  have hv:x.l[i]?=some x.l[i]:=eA hi;have hw:y.l[i]?=some y.l[i]:=eA Bz;rw [wV hv hw] at hl;generalize x.l[i]=a at hv hl;generalize y.l[i]=b at hw hl;rw [F.fB.aT];simp only [e0,e1,e5,aR,reduceAdd,reduceEqDiff,reduceIte,bh hi,aV x hi,aV y Bz,iV hv,iV hw,cw];by_cases rj:a=b
  ·rw [if_pos rj] at hl;simp only [fy rj,Bool.not_true,aJ,aI hi hx,aq];exact hn _ _ ⟨rfl,e0,e1,rfl,hl⟩
  ·rw [if_neg rj] at hl;simp only [eR rj,Bool.not_false,aK];rw [hr,F.fB.bC];simp only [bK,reduceEqDiff,reduceIte];rw [hl] at hK;exact hK
 ·rintro e h' ⟨rfl,e0,e1,e5,hl⟩ K' fW;rw [F.fB.aT];simp only [e0,e5,aR,reduceAdd,reduceEqDiff,reduceIte,aW];rw [fW,F.fB.aG];rw [drop_of_length_le (dM _)] at hl;rw [hl] at hK;exact hK
theorem FO{a:Int}(hK:K (.ret (.bool false)) h=true):Sem TP 136 [.int .i64 a] h K:=by
 refine F.ye ?_;rw [F.zo];simp only [aR,reduceAdd,reduceEqDiff,reduceIte,beq_self_eq_true,Bool.not_true];exact hK
theorem Ay{a b:Int}(hK:∀ c:Int,(c=0↔a=b)->(c<0↔a<b)->K (.ret (.int .i64 c)) h=true):Sem TP 95 [.int .i64 a,.int .i64 b] h K:=by
 refine F.vh ?_;rw [F.wH];refine ah (FO ?_);simp only [aR,reduceAdd,reduceEqDiff,reduceIte];refine ah (FO ?_);simp only [aR,reduceAdd,reduceEqDiff,reduceIte];by_cases h1:a<b
 ·simp only [fy h1,aK];exact hK _ (by omega) (by omega)
 ·simp only [eR h1,aJ];by_cases h2:b<a
  ·simp only [fy h2,aK];exact hK _ (by omega) (by omega)
  ·simp only [eR h2,aJ];exact hK _ (by omega) (by omega)
theorem Dv{x y:Sl Int}(hx:x.l.length<=cM)(UO:x.l.length=y.l.length)(hK:∀ c:Int,decide (0<=c) = !(dm x.l y.l)->K (.ret (.int .i64 c)) h=true):Sem TP 55 [ak encI 1 x,ak encI 1 y] h K:=by
 refine F.jk ?_;rw [F.jD];simp only [aR,reduceAdd,reduceEqDiff,reduceIte];refine aD 0 x.l.length (zero_le _) (fun i e h'=>h'=h/\e 0=ak encI 1 x/\e 1=ak encI 1 y/\e 9=ak encI 1 x/\e 10 = .int .i64 (x.l.length:Int)/\e 11 = .int .i64 (i:Int)/\dm x.l y.l=dm (x.l.drop i) (y.l.drop i)) ⟨rfl,rfl,rfl,rfl,rfl,rfl,rfl⟩ ?_ ?_
 ·rintro i e h' _ hi ⟨rfl,e0,e1,e9,kF,qI,hl⟩ K' hn fW hr hp;have Bz:i<y.l.length:=by omega
  have hv:x.l[i]?=some x.l[i]:=eA hi;have hw:y.l[i]?=some y.l[i]:=eA Bz;rw [wV hv hw] at hl;generalize x.l[i]=a at hv hl;generalize y.l[i]=b at hw hl;rw [F.bE.aT];simp only [e0,e1,e9,kF,qI,aR,reduceAdd,reduceEqDiff,reduceIte,bh hi,aV x hi,aV y Bz,iV hv,iV hw,eR (by omega:¬ (y.l.length:Int)<=(i:Int))];refine ah (Ay fun c c1 c2=>?_);simp only [aR,reduceAdd,reduceEqDiff,reduceIte,cw];by_cases rj:a=b
  ·rw [if_pos rj] at hl;simp only [fy (c1.2 rj),Bool.not_true,aJ,aI hi hx,aq];exact hn _ _ ⟨rfl,e0,e1,e9,kF,rfl,hl⟩
  ·rw [if_neg rj] at hl;simp only [eR (fun h=>rj (c1.1 h)),Bool.not_false,aK];rw [hr,F.bE.bC];simp only [bK,reduceEqDiff,reduceIte];refine hK c ?_;rw [hl];by_cases hlt:a<b
   ·rw [fy hlt,eR (by have:=c2.2 hlt;omega)];rfl
   ·rw [eR hlt,fy (by have:=mt c2.1 hlt;omega)];rfl
 ·rintro e h' ⟨rfl,e0,e1,e9,kF,qI,hl⟩ K' fW;rw [F.bE.aT];simp only [kF,qI,aR,reduceAdd,reduceEqDiff,reduceIte,aW];rw [fW,F.bE.aG];simp only [e0,e1,aR,reduceAdd,reduceEqDiff,reduceIte,eR (by omega:¬ (x.l.length:Int)<(y.l.length:Int))];rw [drop_of_length_le (dM _)] at hl;exact hK 0 (by rw [hl];rfl)
structure View {α:Type} (enc:α->List AV) (sz:Nat) (a:AV) (l:List α):Prop where
 len:∀ h:Heap,bU .slice a h=some (.int .i64 (l.length:Int))
 at_:∀ (i:Nat) (v:α),l[i]?=some v->∃ cs o,(∀ k:IntKind,dG sz a (.int k (i:Int))=some (.dO cs o))/\(∀ h:Heap,ag (some sz) (.dO cs o) h=some (.agg (enc v)))/\∀ (m:Nat),m<sz->∀ h:Heap,ag none (.dO cs (o+m)) h=(enc v)[m]?
theorem Qf{enc:α->List AV}(he:∀ a,(enc a).length=sz)(x:Sl α):View enc sz (ak enc sz x) x.l where
 len h:=Ij x h
 at_ i v hv:=⟨x.l.flatMap enc,i*sz,fun k=>aV x (kg.1 hv).1,fun h=>dF he hv,fun m hm h=>fI he hv hm⟩
theorem NJ{enc:α->List AV}(he:∀ a,(enc a).length=sz)(x:Sl α)(hi:i<=x.l.length) :
  ∃ a,(∀ k:IntKind,gZ (some sz) (ak enc sz x) none (some (.int k (i:Int)))=some a)/\View enc sz a (x.l.take i):=by
 cases x with
 |none=>
  simp only [Sl.VN,length_nil,le_zero_eq] at hi;subst hi;exact ⟨.ax,fun k=>by simp [gZ,ak,kX,nY,asNat],⟨fun h=>rfl,fun j v hv=>by simp at hv⟩⟩
 |some l=>
  simp only [Sl.Ku] at hi ⊢;refine ⟨.au (l.flatMap enc) 0 i sz,fun k=>?_,⟨fun h=>by simp [bU,Nat.min_eq_left hi],fun j v hv=>?_⟩⟩
  ·simp [gZ,ak,kX,nY,asNat,hi]
  ·have hj:j<i:=by have:=(kg.1 hv).1;rw [length_take] at this;omega
   rw [getElem?_take_of_lt hj] at hv;exact ⟨l.flatMap enc,j*sz,fun k=>by simp [dG,asNat,hj],fun h=>dF he hv,fun m hm h=>fI he hv hm⟩
def aQ(r:Rel):List AV:=[.str r.name,.int .i64 r.arity,ak cU 1 r.aM]
theorem dR(r:Rel):(aQ r).length=3:=rfl
theorem tY(r:Rel):AV.cN (aQ r)=true:=by simp [aQ,AV.cN,AV.pure,cc mH]
theorem fP(r:Rel):bw (aQ r)=true:=by unfold aQ;simp only [bw,fZ,Bool.and_true];rfl
def an(s:cD):List AV:=[.int .i64 s.size,ak aQ 3 s.aE]
theorem eu(s:cD):AV.cN (an s)=true:=by simp [an,AV.cN,AV.pure,cc tY]
theorem cp(s:cD):bw (an s)=true:=by unfold an;simp only [bw,fZ,Bool.and_true];rfl
theorem nT(h:∀ j,j<n->p j=true):EN p n=true:=by
 rw [EN,List.all_eq_true];exact fun x hx=>h x (mem_range.1 hx)
theorem jg(hi:i<n)(h:p i=false):EN p n=false:=by
 rw [eq_false_iff];intro hh;rw [EN,List.all_eq_true] at hh;have:=hh i (mem_range.2 hi);rw [h] at this;cases this
theorem yy(h:EN p n=true)(hi:i<n):p i=true:=by
 rw [EN,List.all_eq_true] at h;exact h i (mem_range.2 hi)
theorem Mt{l:List (Sl Int)}(h:lU n k l i=true)(ht:l[i]?=some t):t.l.length=k:=by
 unfold lU at h;rw [ht] at h;simp only [and_eq_true,decide_eq_true_eq] at h;exact h.1
theorem de{n k:Nat}{r:Rel}(hr:r.ok)(ha:r.arity=(k:Int)){h:Heap}{K:Out->Heap->Bool}(hK:K (.ret (.bool (yq n k r.aM.l))) h=true):Sem TP 109 [.int .i64 (n:Int),.agg (aQ r)] h K:=by
 refine Sem.data (r:=.bool (yq n k r.aM.l)) ?_ (by simp [AV.cN,AV.pure,tY]) hK;clear hK;refine F.zl ?_;rw [F.A4];have b0:(Heap.alloc Heap.empty (.cells (aQ r))).get 0=some (.cells (aQ r)):=aB _ _;simp only [cY (fP r),aq,bT];generalize (Heap.alloc Heap.empty (.cells (aQ r)))=H at b0 ⊢;have fin:∀ b:Bool,b=yq n k r.aM.l->pO (.bool (yq n k r.aM.l)) (.ret (.bool b)) H=true:=fun b hb=>by rw [hb];exact fY rfl
 simp only [aR,reduceAdd,reduceEqDiff,reduceIte,aj b0,aQ];refine aD 0 r.aM.l.length (zero_le _) (fun i e h'=>h'=H/\e 0 = .int .i64 (n:Int)/\e 3 = .ptr 0 0/\e 8=ak cU 1 r.aM/\e 9 = .int .i64 (r.aM.l.length:Int)/\e 10 = .int .i64 (i:Int)/\∀ j,j<i->lU n k r.aM.l j=true) ⟨rfl,rfl,rfl,rfl,rfl,rfl,fun j hj=>by omega⟩ ?_ ?_
 ·rintro i e h' _ hi ⟨rfl,e0,e3,e8,e9,kF,ht⟩ K' hn fW Jf hp;have hv:r.aM.l[i]?=some r.aM.l[i]:=eA hi;generalize r.aM.l[i]=t at hv;have hto:t.l.length<=cM:=hr.2.2 t (ig hv)
  have bad:lU n k r.aM.l i=false->F.de.cQ (pO (.bool (yq n k r.aM.l))) .ret ⟨aa e 4 (.bool false),42,[],h'⟩=true:=fun hb=>by
   rw [F.de.bC];simp only [bK,reduceEqDiff,reduceIte];exact fin _ (jg hi hb).symm
  rw [F.de.aT];simp only [e0,e3,e8,e9,kF,aR,reduceAdd,reduceEqDiff,reduceIte,bh hi,aV r.aM hi,ic hv,aj b0,aQ,cw,ha];by_cases h1:t.l.length=k
  ·simp only [fy (by omega:(t.l.length:Int)=(k:Int)),Bool.not_true,aJ];refine ah (tX hto ?_);simp only [aR,reduceAdd,reduceEqDiff,reduceIte]
   cases h2:jo n t.l with
   |false=>
    simp only [Bool.not_false,aK];rw [Jf,F.de.bC];simp only [bK,reduceEqDiff,reduceIte];exact fin _ (jg hi (by simp [lU,hv,h2])).symm
   |true=>
    simp only [Bool.not_true,aJ]
    cases i with
    |zero=>
     simp only [show decide ((0:Int)<((0:Nat):Int))=false from rfl,aJ,aI hi hr.2.1,aq];refine hn _ _ ⟨rfl,e0,e3,e8,e9,rfl,fun j hj=>?_⟩;obtain rfl:j=0:=by omega
     simp [lU,hv,h1,h2]
    |succ i=>
     have hi0:i<r.aM.l.length:=(by omega);have D2:r.aM.l[i]?=some r.aM.l[i]:=eA hi0;generalize r.aM.l[i]=p at D2;have sI:p.l.length=k:=Mt (ht i (by omega)) D2;have VB:p.l.length<=cM:=hr.2.2 p (ig D2)
     have Jd:aF .sub (.int .i64 ((i+1:Nat):Int)) (.int .i64 1)=some (.int .i64 (i:Int)):=by
      have:=hr.2.1;unfold cM at this;rw [pz (by omega) (by omega)];congr 2;omega
     simp only [fy (by omega:(0:Int)<((i+1:Nat):Int)),aK,aR,reduceAdd,reduceEqDiff,reduceIte,e3,aj b0,aQ,Jd,aV r.aM hi0,ic D2];refine ah (Dv VB (by omega) fun c hc=>?_);simp only [aR,reduceAdd,reduceEqDiff,reduceIte,hc]
     cases h3:dm p.l t.l with
     |false=>
      simp only [Bool.not_false,aK];rw [Jf,F.de.bC];simp only [bK,reduceEqDiff,reduceIte];exact fin _ (jg hi (by simp [lU,hv,D2,h3])).symm
     |true=>
      simp only [Bool.not_true,aJ,aI hi hr.2.1,aq];refine hn _ _ ⟨rfl,e0,e3,e8,e9,rfl,fun j hj=>?_⟩;by_cases Gz:j<i+1
      ·exact ht j Gz
      ·obtain rfl:j=i+1:=by omega
       simp [lU,hv,D2,h1,h2,h3]
  ·simp only [eR (by omega:¬ (t.l.length:Int)=(k:Int)),Bool.not_false,aK];rw [Jf,F.de.bC];simp only [bK,reduceEqDiff,reduceIte];exact fin _ (jg hi (by simp [lU,hv,h1])).symm
 ·rintro e h' ⟨rfl,e0,e3,e8,e9,kF,ht⟩ K' fW;rw [F.de.aT];simp only [e9,kF,aR,reduceAdd,reduceEqDiff,reduceIte,aW];rw [fW,F.de.aG];exact fin _ (nT ht).symm
theorem fJ{n:Nat}(h1:1<=n)(h2:n<=64){r:Rel}(hr:r.ok){h:Heap}{K:Out->Heap->Bool}(hK:K (.ret (.bool (nj n r))) h=true):Sem TP 115 [.int .i64 (n:Int),.agg (aQ r)] h K:=by
 refine Sem.data (r:=.bool (nj n r)) ?_ (by simp [AV.cN,AV.pure,tY]) hK;clear hK;refine F.ED ?_;rw [F.GS];have b0:(Heap.alloc Heap.empty (.cells (aQ r))).get 0=some (.cells (aQ r)):=aB _ _;simp only [cY (fP r),aq,bT];generalize (Heap.alloc Heap.empty (.cells (aQ r)))=H at b0 ⊢;have fin:∀ b:Bool,b=nj n r->pO (.bool (nj n r)) (.ret (.bool b)) H=true:=fun b hb=>by rw [hb];exact fY rfl
 simp only [aR,reduceAdd,reduceEqDiff,reduceIte,aj b0,aQ];refine ah (ej ?_);simp only [aR,reduceAdd,reduceEqDiff,reduceIte]
 cases hn:ef r.name with
 |false=>simp only [Bool.not_false,aK];exact fin _ (by simp [nj,hn])
 |true=>
 simp only [Bool.not_true,aJ,aR,reduceAdd,reduceEqDiff,reduceIte,aj b0,aQ];by_cases ha:r.arity<0
 ·simp only [fy ha,aK];exact fin _ (by rw [nj,eR (by omega:¬ 0<=r.arity)];simp)
 simp only [eR ha,aJ];by_cases Qg:12<r.arity
 ·simp only [fy Qg,aK];exact fin _ (by rw [nj,eR (by omega:¬ r.arity<=12)];simp)
 simp only [eR Qg,aJ];obtain ⟨k,hk⟩:∃ k:Nat,r.arity=(k:Int):=⟨r.arity.toNat,by omega⟩
 rw [hk];refine ah (gY h1 h2 (show k<=cM by unfold cM;omega) fun v v1 v2=>?_);simp only [aR,reduceAdd,reduceEqDiff,reduceIte]
 have Qh:nj n r=(decide (n ^ k<=4096)&&yq n k r.aM.l):=by
  rw [nj,hn,fy (by omega:0<=r.arity),fy (by omega:r.arity<=12),hk];rfl
 replace fin:∀ b:Bool,b=(decide (n ^ k<=4096)&&yq n k r.aM.l)->pO (.bool (nj n r)) (.ret (.bool b)) H=true:=fun b hb=>fin b (hb.trans Qh.symm);by_cases hc:n ^ k<=4096
 ·have:=v1 hc;simp only [eR (by omega:¬ (4096:Int)<(v:Int)),aJ];replace fin:∀ b:Bool,b=yq n k r.aM.l->pO (.bool (nj n r)) (.ret (.bool b)) H=true:=fun b hb=>fin b (by rw [fy hc,Bool.true_and];exact hb);refine aD 0 r.aM.l.length (zero_le _) (fun i e h'=>h'=H/\e 0 = .int .i64 (n:Int)/\e 3 = .ptr 0 0/\e 5 = .int .i64 (i:Int)/\∀ j,j<i->lU n k r.aM.l j=true) ⟨rfl,rfl,rfl,rfl,fun j hj=>by omega⟩ ?_ ?_
  ·rintro i e h' _ hi ⟨rfl,e0,e3,e5,ht⟩ K' hn fW Jf hp;have hv:r.aM.l[i]?=some r.aM.l[i]:=eA hi;generalize r.aM.l[i]=t at hv;have hto:t.l.length<=cM:=hr.2.2 t (ig hv);rw [F.fJ.aT];simp only [e0,e3,e5,aR,reduceAdd,reduceEqDiff,reduceIte,aj b0,aQ,bh hi,aV r.aM hi,ic hv,cw,hk];by_cases q1:t.l.length=k
   ·simp only [fy (by omega:(t.l.length:Int)=(k:Int)),Bool.not_true,aJ];refine ah (gL hto ?_);simp only [aR,reduceAdd,reduceEqDiff,reduceIte]
    cases q2:jo n t.l with
    |false=>
     simp only [Bool.not_false,aK];rw [Jf,F.fJ.bC];simp only [bK,reduceEqDiff,reduceIte];exact fin _ (jg hi (by simp [lU,hv,q2])).symm
    |true=>
     simp only [Bool.not_true,aJ]
     cases i with
     |zero=>
      simp only [show decide ((0:Int)<((0:Nat):Int))=false from rfl,aJ,aI hi hr.2.1,aq];refine hn _ _ ⟨rfl,e0,e3,rfl,fun j hj=>?_⟩;obtain rfl:j=0:=by omega
      simp [lU,hv,q1,q2]
     |succ i=>
      have hi0:i<r.aM.l.length:=(by omega);have D2:r.aM.l[i]?=some r.aM.l[i]:=eA hi0;generalize r.aM.l[i]=p at D2;have sI:p.l.length=k:=Mt (ht i (by omega)) D2;have VB:p.l.length<=cM:=hr.2.2 p (ig D2)
      have Jd:aF .sub (.int .i64 ((i+1:Nat):Int)) (.int .i64 1)=some (.int .i64 (i:Int)):=by
       have:=hr.2.1;unfold cM at this;rw [pz (by omega) (by omega)];congr 2;omega
      simp only [fy (by omega:(0:Int)<((i+1:Nat):Int)),aK,aR,reduceAdd,reduceEqDiff,reduceIte,e3,e5,aj b0,aQ,Jd,aV r.aM hi0,aV r.aM hi,ic D2,ic hv];refine ah (fB VB (by omega) ?_);simp only [aR,reduceAdd,reduceEqDiff,reduceIte]
      cases q3:dm p.l t.l with
      |false=>
       simp only [Bool.not_false,aK];rw [Jf,F.fJ.bC];simp only [bK,reduceEqDiff,reduceIte];exact fin _ (jg hi (by simp [lU,hv,D2,q3])).symm
      |true=>
       simp only [Bool.not_true,aJ,aI hi hr.2.1,aq];refine hn _ _ ⟨rfl,e0,e3,rfl,fun j hj=>?_⟩;by_cases Gz:j<i+1
       ·exact ht j Gz
       ·obtain rfl:j=i+1:=by omega
        simp [lU,hv,D2,q1,q2,q3]
   ·simp only [eR (by omega:¬ (t.l.length:Int)=(k:Int)),Bool.not_false,aK];rw [Jf,F.fJ.bC];simp only [bK,reduceEqDiff,reduceIte];exact fin _ (jg hi (by simp [lU,hv,q1])).symm
  ·rintro e h' ⟨rfl,e0,e3,e5,ht⟩ K' fW;rw [F.fJ.aT];simp only [e3,e5,aR,reduceAdd,reduceEqDiff,reduceIte,aj b0,aQ,aW];rw [fW,F.fJ.aG];exact fin _ (nT ht).symm
 ·have:=v2 (by omega);simp only [fy (by omega:(4096:Int)<(v:Int)),aK];exact fin _ (by rw [eR hc];rfl)
def tZ{α:Type}(p:α->Bool):List α->Nat->Int
 |[],_=>-1
 |x :: l,i=>if p x=true then (i:Int) else tZ p l (i+1)
def iM{α:Type}(p:α->Bool)(l:List α):Int:=tZ p l 0
theorem Jg{p:α->Bool}{l:List α}{v:α}(hv:l[i]?=some v):tZ p (l.drop i) i=if p v=true then (i:Int) else tZ p (l.drop (i+1)) (i+1):=by
 have h1:=(kg.1 hv).1;rw [drop_eq_getElem_cons h1];rw [eA h1] at hv;cases hv;rfl
theorem FP{α:Type}(p:α->Bool):∀ (l:List α) (i:Nat),decide (0<=tZ p l i)=l.any p
 |[],i=>rfl
 |x :: l,i=>by
  rw [tZ,any_cons]
  cases hp:p x with
  |true=>simp
  |false=>simpa using FP p l (i+1)
theorem KU(p:α->Bool)(l:List α):decide (0<=iM p l)=l.any p:=FP p l 0
theorem vV{x:AV}{l:List Rel}(hv:View aQ 3 x l)(hl:l.length<=cM){a b:List AV}{p:Rel->Bool}
  (hp:∀ (v:Rel) (h':Heap),bA h h'->∀ (K:Out->Heap->Bool),(∀ Ox,bA h' Ox->K (.ret (.bool (p v))) Ox=true)->Sem TP g (a++([.agg (aQ v)]++b)) h' K)
  (hK:∀ h',bA h h'->K (.ret (.int .i64 (iM p l))) h'=true):Sem TP 76 [x,.func g a b] h K:=by
 refine F.jO ?_;rw [F.j8];simp only [hv.len,aq];refine aD 0 l.length (zero_le _) (fun i e h'=>bA h h'/\e 0=x/\e 1 = .func g a b/\e 7 = .int .i64 (l.length:Int)/\e 8 = .int .i64 (i:Int)/\iM p l=tZ p (l.drop i) i) ⟨bA.refl _,rfl,rfl,rfl,rfl,rfl⟩ ?_ ?_
 ·rintro i e h' _ hi ⟨hx,e0,e1,e7,e8,ht⟩ K' hn fW hr B6;have Ty:l[i]?=some l[i]:=eA hi;generalize l[i]=v at Ty;obtain ⟨cs,o,v1,v2,_⟩:=hv.at_ i v Ty;rw [Jg Ty] at ht;rw [F.bu.aT];simp only [e0,e1,e7,e8,aR,reduceAdd,reduceEqDiff,reduceIte,bh hi,v1,v2,fA];refine ah (hp v h' hx _ fun Ox gi=>?_);simp only [aR,reduceAdd,reduceEqDiff,reduceIte]
  cases hq:p v with
  |true=>
   simp only [aK];rw [hr,F.bu.bC];simp only [bK,reduceEqDiff,reduceIte];rw [if_pos hq] at ht;rw [ht] at hK;exact hK _ (hx.trans gi)
  |false=>
   simp only [aJ,aI hi hl,aq];rw [if_neg (by rw [hq];decide)] at ht;exact hn _ _ ⟨hx.trans gi,e0,e1,e7,rfl,ht⟩
 ·rintro e h' ⟨hx,e0,e1,e7,e8,ht⟩ K' fW;rw [F.bu.aT];simp only [e0,e1,e7,e8,aR,reduceAdd,reduceEqDiff,reduceIte,aW];rw [fW,F.bu.aG];rw [drop_of_length_le (dM _)] at ht;rw [ht] at hK;exact hK _ hx
theorem zF{x:AV}{l:List Rel}(hv:View aQ 3 x l)(hl:l.length<=cM){a b:List AV}{p:Rel->Bool}
  (hp:∀ (v:Rel) (h':Heap),bA h h'->∀ (K:Out->Heap->Bool),(∀ Ox,bA h' Ox->K (.ret (.bool (p v))) Ox=true)->Sem TP g (a++([.agg (aQ v)]++b)) h' K)
  (hK:∀ h',bA h h'->K (.ret (.bool (l.any p))) h'=true):Sem TP 110 [x,.func g a b] h K:=by
 refine F.jl ?_;rw [F.jw];refine ah (vV hv hl hp fun h' hx=>?_);simp only [aR,reduceAdd,reduceEqDiff,reduceIte];rw [KU];exact hK _ hx
theorem Mv{s:cD}{r:Rel}(hr:s.aE.l[i]?=some r):ag (some 3) (.dO (s.aE.l.flatMap aQ) (i*3)) h=some (.agg (aQ r)):=dF dR hr
theorem Tz{r v:Rel}(hb:h.get b=some (.cells (aQ r)))(MP:b<h.next)(h':Heap)(hx:bA h h')(K:Out->Heap->Bool)(hK:∀ Ox,bA h' Ox->K (.ret (.bool (v.name==r.name))) Ox=true) :
  Sem TP 111 ([]++([.agg (aQ v)]++[.ptr b 0])) h' K:=by
 refine F.yd ?_;rw [F.zm];have eW:h'.get b=some (.cells (aQ r)):=by rw [hx.get b MP];exact hb
 have gi:bA h' (Heap.alloc h' (.cells (aQ v))):=bA.alloc _ _;have g0:(Heap.alloc h' (.cells (aQ v))).get h'.next=some (.cells (aQ v)):=aB _ _
 have g1:(Heap.alloc h' (.cells (aQ v))).get b=some (.cells (aQ r)):=by rw [gi.get b (Nat.lt_of_lt_of_le MP hx.next)];exact eW
 simp only [cY (fP v),aq];generalize (Heap.alloc h' (.cells (aQ v)))=H at g0 g1 gi ⊢;simp only [aR,reduceAdd,reduceEqDiff,reduceIte,aj g0,aj g1];rw [show (aQ v)[0]?=some (.str v.name) from rfl,show (aQ r)[0]?=some (.str r.name) from rfl];simp only [aR,reduceAdd,reduceEqDiff,reduceIte];exact hK _ gi
theorem dI{s:cD}(hs:s.ok){h:Heap}{K:Out->Heap->Bool}(hK:K (.ret (.bool (cV s))) h=true):Sem TP 64 [.agg (an s)] h K:=by
 refine Sem.data (r:=.bool (cV s)) ?_ (by simp [AV.cN,AV.pure,eu]) hK;clear hK;refine F.A1 ?_;rw [F.CM];have b0:(Heap.alloc Heap.empty (.cells (an s))).get 0=some (.cells (an s)):=aB _ _;have bn:1<=(Heap.alloc Heap.empty (.cells (an s))).next:=dM _
 simp only [cY (cp s),aq,bT];generalize (Heap.alloc Heap.empty (.cells (an s)))=H at b0 bn ⊢;have fin:∀ (b:Bool) (H:Heap),b=cV s->pO (.bool (cV s)) (.ret (.bool b)) H=true:=fun b H hb=>by rw [hb];exact fY rfl
 generalize pO (.bool (cV s))=K at fin ⊢;simp only [aR,reduceAdd,reduceEqDiff,reduceIte,aj b0,an];by_cases s1:s.size<1
 ·simp only [fy s1,aK];exact fin _ _ (by rw [cV,eR (by omega:¬ 1<=s.size),Bool.false_and])
 simp only [eR s1,aJ];by_cases s2:64<s.size
 ·simp only [fy s2,aK];exact fin _ _ (by rw [cV,eR (by omega:¬ s.size<=64),Bool.false_and,Bool.and_false])
 simp only [eR s2,aJ];by_cases s3:8<s.aE.l.length
 ·simp only [fy (by omega:(8:Int)<(s.aE.l.length:Int)),aK];exact fin _ _ (by rw [cV,eR (by omega:¬ s.aE.l.length<=8),Bool.false_and,Bool.and_false,Bool.and_false])
 simp only [eR (by omega:¬ (8:Int)<(s.aE.l.length:Int)),aJ]
 replace fin:∀ (b:Bool) (H:Heap),b=EN (oL s) s.aE.l.length->K (.ret (.bool b)) H=true:=fun b H hb=>fin b H (by
  rw [cV,fy (by omega:1<=s.size),fy (by omega:s.size<=64),fy (by omega:s.aE.l.length<=8)];exact hb)
 obtain ⟨n,hn⟩:∃ n:Nat,s.size=(n:Int):=⟨s.size.toNat,by omega⟩
 have DZ:s.size.toNat=n:=by omega
 refine aD 0 s.aE.l.length (zero_le _) (fun i e h'=>h'.get 0=some (.cells (an s))/\1<=h'.next/\e 1 = .ptr 0 0/\e 20=ak aQ 3 s.aE/\e 21 = .int .i64 (s.aE.l.length:Int)/\e 22 = .int .i64 (i:Int)/\∀ j,j<i->oL s j=true) ⟨b0,bn,rfl,rfl,rfl,rfl,fun j hj=>by omega⟩ ?_ ?_
 ·rintro i e h' _ hi ⟨q0,qn,e1,zA,Ar,Be,ht⟩ K' oZ fW Jf hp;have hv:s.aE.l[i]?=some s.aE.l[i]:=eA hi;generalize s.aE.l[i]=r at hv;have Wp:r.ok:=hs.2 r (ig hv);have He:oL s i=(nj n r&&!((s.aE.l.take i).any fun q=>q.name==r.name)):=by rw [oL,hv,DZ]
  have bad:∀ (e:Env) (h:Heap),oL s i=false->e 2 = .bool false->F.dI.cQ K .ret ⟨e,63,[],h⟩=true:=fun e h hb he=>by
   rw [F.dI.bC,he];exact fin _ _ (jg hi hb).symm
  obtain ⟨H,iG,g1,go,gn⟩:=cu (h:=h') (zs:=[.str [],.int .i64 0,.ax]) (cs:=aQ r) (n:=3) rfl rfl (fP r);have p0:H.get 0=some (.cells (an s)):=by rw [go _ (by omega)];exact q0
  rw [F.dI.aT];simp only [e1,zA,Ar,Be,aR,reduceAdd,reduceEqDiff,reduceIte,bh hi,aV s.aE hi,Mv hv,iG,aj g1,cE (dR r)];rw [show (aQ r)[0]?=some (.str r.name) from rfl];simp only [aR,reduceAdd,reduceEqDiff,reduceIte];refine ah (dQ ?_);simp only [aR,reduceAdd,reduceEqDiff,reduceIte]
  cases w1:ef r.name with
  |false=>
   simp only [Bool.not_false,aK];rw [Jf];exact bad _ _ (by rw [He,nj,w1];simp) rfl
  |true=>
  simp only [Bool.not_true,aJ,aR,reduceAdd,reduceEqDiff,reduceIte,aj g1];rw [show (aQ r)[1]?=some (.int .i64 r.arity) from rfl];simp only [aR,reduceAdd,reduceEqDiff,reduceIte];by_cases w2:r.arity<0
  ·simp only [fy w2,aK];rw [Jf];exact bad _ _ (by rw [He,nj,eR (by omega:¬ 0<=r.arity)];simp) rfl
  simp only [eR w2,aJ];by_cases w3:12<r.arity
  ·simp only [fy w3,aK];rw [Jf];exact bad _ _ (by rw [He,nj,eR (by omega:¬ r.arity<=12)];simp) rfl
  simp only [eR w3,aJ,aj p0,aR,reduceAdd,reduceEqDiff,reduceIte,e1];rw [show (an s)[0]?=some (.int .i64 s.size) from rfl];obtain ⟨k,hk⟩:∃ k:Nat,r.arity=(k:Int):=⟨r.arity.toNat,by omega⟩
  simp only [aR,reduceAdd,reduceEqDiff,reduceIte,hn,hk];refine ah (ec (by omega) (by omega) (show k<=cM by unfold cM;omega) ?_);simp only [aR,reduceAdd,reduceEqDiff,reduceIte]
  have TA:oL s i=(decide (n ^ k<=4096)&&yq n k r.aM.l&&!((s.aE.l.take i).any fun q=>q.name==r.name)):=by
   rw [He,nj,w1,fy (by omega:0<=r.arity),fy (by omega:r.arity<=12),hk];simp
  by_cases w4:n ^ k<=4096
  ·simp only [KS,if_pos w4,eR (by omega:¬ ((n ^ k:Nat):Int)<0),aJ,aR,reduceAdd,reduceEqDiff,reduceIte,aj p0,aj g1,cE (dR r),e1];rw [show (an s)[0]?=some (.int .i64 s.size) from rfl];simp only [aR,reduceAdd,reduceEqDiff,reduceIte,hn];refine ah (de Wp hk ?_);simp only [aR,reduceAdd,reduceEqDiff,reduceIte]
   cases w5:yq n k r.aM.l with
   |false=>
    simp only [Bool.not_false,aK];rw [Jf];exact bad _ _ (by rw [TA,w5];simp) rfl
   |true=>
   simp only [Bool.not_true,aJ,aR,reduceAdd,reduceEqDiff,reduceIte,aj p0,e1];rw [show (an s)[1]?=some (ak aQ 3 s.aE) from rfl];obtain ⟨a,ha,XB⟩:=NJ dR s.aE (Nat.le_of_lt hi);simp only [aR,reduceAdd,reduceEqDiff,reduceIte,ha];have hlt:(s.aE.l.take i).length<=cM:=by rw [length_take];have:=hs.1;omega
   refine ah (zF (p:=fun q=>q.name==r.name) XB hlt (fun v h2 gi K2 UF=>Tz g1 (by omega) h2 gi K2 UF) fun h2 gi=>?_);simp only [aR,reduceAdd,reduceEqDiff,reduceIte]
   cases w6:(s.aE.l.take i).any fun q=>q.name==r.name with
   |true=>
    simp only [aK];rw [Jf];exact bad _ _ (by rw [TA,w6];simp) rfl
   |false=>
    simp only [aJ,aI hi hs.1,aq,Be];refine oZ _ _ ⟨by rw [gi.get 0 (by omega)];exact p0,by have:=gi.next;omega,e1,zA,Ar,rfl,fun j hj=>?_⟩;by_cases Gz:j<i
    ·exact ht j Gz
    ·obtain rfl:j=i:=by omega
     rw [TA,w5,w6,fy w4];rfl
  ·simp only [KS,if_neg w4,fy (by omega:(-1:Int)<0),aK];rw [Jf];exact bad _ _ (by rw [TA,eR w4];simp) rfl
 ·rintro e h' ⟨q0,qn,e1,zA,Ar,Be,ht⟩ K' fW;rw [F.dI.aT];simp only [Ar,Be,aR,reduceAdd,reduceEqDiff,reduceIte,aW];rw [fW,F.dI.aG];exact fin _ _ (nT ht).symm
theorem Qi{p:α->Bool}{l:List α}{a:α}(ha:l[i]?=some a)(hi:i<k)(hp:p a=true):(l.take k).any p=true:=by
 rw [List.any_eq_true];exact ⟨a,ig (by rw [getElem?_take_of_lt hi];exact ha),hp⟩
theorem qB{s:cD}{r:Rel}(hr:s.aE.l[i]?=some r):ag none (.dO (s.aE.l.flatMap aQ) (i*3)) h=some (.str r.name):=by
 have:=fI (h:=h) dR hr (k:=0) (by omega);rw [Nat.add_zero] at this;rw [this];rfl
theorem cm{s:cD}(hs:s.ok){h:Heap}{K:Out->Heap->Bool}(hK:K (.ret (.bool (cV s))) h=true):Sem TP 66 [.agg (an s)] h K:=by
 refine Sem.data (r:=.bool (cV s)) ?_ (by simp [AV.cN,AV.pure,eu]) hK;clear hK;refine F.A0 ?_;rw [F.CJ];have b0:(Heap.alloc Heap.empty (.cells (an s))).get 0=some (.cells (an s)):=aB _ _;simp only [cY (cp s),aq,bT];generalize (Heap.alloc Heap.empty (.cells (an s)))=H at b0 ⊢;have fin:∀ (b:Bool),b=cV s->pO (.bool (cV s)) (.ret (.bool b)) H=true:=fun b hb=>by rw [hb];exact fY rfl
 generalize pO (.bool (cV s))=K at fin ⊢;have ls:ag none (.ptr 0 0) H=some (.int .i64 s.size):=by rw [aj b0];rfl
 have lr:ag none (.ptr 0 (0+1)) H=some (ak aQ 3 s.aE):=by rw [aj b0];rfl
 rw [Nat.zero_add] at lr;simp only [aR,reduceAdd,reduceEqDiff,reduceIte,ls,lr];by_cases s1:s.size<1
 ·simp only [fy s1,aK];exact fin _ (by rw [cV,eR (by omega:¬ 1<=s.size),Bool.false_and])
 simp only [eR s1,aJ];by_cases s2:64<s.size
 ·simp only [fy s2,aK];exact fin _ (by rw [cV,eR (by omega:¬ s.size<=64),Bool.false_and,Bool.and_false])
 simp only [eR s2,aJ];by_cases s3:8<s.aE.l.length
 ·simp only [fy (by omega:(8:Int)<(s.aE.l.length:Int)),aK];exact fin _ (by rw [cV,eR (by omega:¬ s.aE.l.length<=8),Bool.false_and,Bool.and_false,Bool.and_false])
 simp only [eR (by omega:¬ (8:Int)<(s.aE.l.length:Int)),aJ]
 replace fin:∀ (b:Bool),b=EN (oL s) s.aE.l.length->K (.ret (.bool b)) H=true:=fun b hb=>fin b (by
  rw [cV,fy (by omega:1<=s.size),fy (by omega:s.size<=64),fy (by omega:s.aE.l.length<=8)];exact hb)
 obtain ⟨n,hn⟩:∃ n:Nat,s.size=(n:Int):=⟨s.size.toNat,by omega⟩
 have DZ:s.size.toNat=n:=by omega
 rw [hn] at ls;refine aD 0 s.aE.l.length (zero_le _) (fun i e h'=>h'=H/\e 1 = .ptr 0 0/\e 3 = .int .i64 (i:Int)/\∀ j,j<i->oL s j=true) ⟨rfl,rfl,rfl,fun j hj=>by omega⟩ ?_ ?_
 ·rintro i e h' _ hi ⟨rfl,e1,e3,ht⟩ K' oZ fW Jf hp;have hv:s.aE.l[i]?=some s.aE.l[i]:=eA hi;generalize s.aE.l[i]=r at hv;have Wp:r.ok:=hs.2 r (ig hv);have He:oL s i=(nj n r&&!((s.aE.l.take i).any fun q=>q.name==r.name)):=by rw [oL,hv,DZ]
  have bad:∀ (e:Env),oL s i=false->e 2 = .bool false->F.cm.cQ K .ret ⟨e,53,[],h'⟩=true:=fun e hb he=>by
   rw [F.cm.bC,he];exact fin _ (jg hi hb).symm
  rw [F.cm.aT];simp only [e1,e3,aR,reduceAdd,reduceEqDiff,reduceIte,ls,lr,bh hi,aV s.aE hi,Mv hv];refine ah (fJ (by omega) (by omega) Wp ?_);simp only [aR,reduceAdd,reduceEqDiff,reduceIte]
  cases w1:nj n r with
  |false=>
   simp only [Bool.not_false,aK];rw [Jf];exact bad _ (by rw [He,w1,Bool.false_and]) rfl
  |true=>
  simp only [Bool.not_true,aJ];refine aD 0 i (zero_le _) (fun k e h2=>h2=h'/\e 1 = .ptr 0 0/\e 3 = .int .i64 (i:Int)/\e 4 = .int .i64 (k:Int)/\((s.aE.l.take k).any fun q=>q.name==r.name)=false) ⟨rfl,e1,e3,rfl,rfl⟩ ?_ ?_
  ·rintro k e h2 _ hk ⟨rfl,e1,e3,e4,VD⟩ K2 pV gi rN FD;have hki:k<s.aE.l.length:=by omega
   have Xy:s.aE.l[k]?=some s.aE.l[k]:=eA hki;generalize s.aE.l[k]=q at Xy;rw [F.cm.dh];simp only [e1,e3,e4,aR,reduceAdd,reduceEqDiff,reduceIte,lr,bh hk,aV s.aE hi,aV s.aE hki,qB hv,qB Xy]
   cases w2:q.name==r.name with
   |true=>
    simp only [aK];rw [rN,F.cm.jC,Jf];exact bad _ (by rw [He,Qi Xy hk w2];simp) rfl
   |false=>
    simp only [aJ,aI hk (by have:=hs.1;omega),aq];exact pV _ _ ⟨rfl,e1,e3,rfl,yl Xy VD w2⟩
  ·rintro e h2 ⟨rfl,e1,e3,e4,VD⟩ K2 gi;rw [F.cm.dh];simp only [e3,e4,aR,reduceAdd,reduceEqDiff,reduceIte,aW];rw [gi,F.cm.cx];simp only [aR,reduceAdd,reduceEqDiff,reduceIte,e3,aI hi hs.1];refine oZ _ _ ⟨rfl,e1,rfl,fun j hj=>?_⟩;by_cases Gz:j<i
   ·exact ht j Gz
   ·obtain rfl:j=i:=by omega
    rw [He,w1,VD];rfl
 ·rintro e h' ⟨rfl,e1,e3,ht⟩ K' fW;rw [F.cm.aT];simp only [e1,e3,aR,reduceAdd,reduceEqDiff,reduceIte,lr,aW];rw [fW,F.cm.aG];exact fin _ (nT ht).symm
def gm(nm:b7)(k:Int)(q:Rel):Bool:=(q.name==nm)&&decide (q.arity=k)
def fQ(nm:b7)(q:Rel):Bool:=q.name==nm
theorem eU{s:cD}(hs:s.ok){nm:b7}{h:Heap}{K:Out->Heap->Bool}(hK:K (.ret (.int .i64 (iM (fQ nm) s.aE.l))) h=true):Sem TP 69 [.agg (an s),.str nm] h K:=by
 refine Sem.data (r:=.int .i64 (iM (fQ nm) s.aE.l)) ?_ (by simp [AV.cN,AV.pure,eu]) hK;clear hK;refine F.CL ?_;rw [F.EA];have b0:(Heap.alloc Heap.empty (.cells (an s))).get 0=some (.cells (an s)):=aB _ _;simp only [cY (cp s),aq,bT];generalize (Heap.alloc Heap.empty (.cells (an s)))=H at b0 ⊢;have fin:∀ b:Int,b=iM (fQ nm) s.aE.l->pO (.int .i64 (iM (fQ nm) s.aE.l)) (.ret (.int .i64 b)) H=true:=fun b hb=>by rw [hb];exact fY rfl
 have lr:ag none (.ptr 0 1) H=some (ak aQ 3 s.aE):=by rw [aj b0];rfl
 refine aD 0 s.aE.l.length (zero_le _) (fun i e h'=>h'=H/\e 1 = .str nm/\e 2 = .ptr 0 0/\e 5 = .int .i64 (i:Int)/\iM (fQ nm) s.aE.l=tZ (fQ nm) (s.aE.l.drop i) i) ⟨rfl,rfl,rfl,rfl,rfl⟩ ?_ ?_
 ·rintro i e h' _ hi ⟨rfl,e1,e2,e5,ht⟩ K' hn fW hr hp;have hv:s.aE.l[i]?=some s.aE.l[i]:=eA hi;generalize s.aE.l[i]=r at hv;rw [Jg hv] at ht;rw [F.eU.aT];simp only [e1,e2,e5,aR,reduceAdd,reduceEqDiff,reduceIte,lr,bh hi,aV s.aE hi,qB hv]
  cases hq:r.name==nm with
  |true=>
   simp only [aK];rw [hr,F.eU.bC];rw [if_pos (show fQ nm r=true from hq)] at ht;simp only [bK,reduceEqDiff,reduceIte,e5];exact fin _ ht.symm
  |false=>
   simp only [aJ,aI hi hs.1,aq];rw [if_neg (by rw [fQ,hq];decide)] at ht;exact hn _ _ ⟨rfl,e1,e2,rfl,ht⟩
 ·rintro e h' ⟨rfl,e1,e2,e5,ht⟩ K' fW;rw [F.eU.aT];simp only [e1,e2,e5,aR,reduceAdd,reduceEqDiff,reduceIte,lr,aW];rw [fW,F.eU.aG];rw [drop_of_length_le (dM _)] at ht;exact fin _ ht.symm
theorem Wq{b1 b2:Nat}{v:Rel}{k:Int}(g1:h.get b1=some (.cells [.str nm]))(g2:h.get b2=some (.cells [.int .i64 k]))(n1:b1<h.next)(n2:b2<h.next)(h':Heap)(hx:bA h h')(K:Out->Heap->Bool)(hK:∀ Ox,bA h' Ox->K (.ret (.bool (gm nm k v))) Ox=true) :
  Sem TP 94 ([]++([.agg (aQ v)]++[.ptr b1 0,.ptr b2 0])) h' K:=by
 refine F.zn ?_;rw [F.A5];have gi:bA h' (Heap.alloc h' (.cells (aQ v))):=bA.alloc _ _;have g0:(Heap.alloc h' (.cells (aQ v))).get h'.next=some (.cells (aQ v)):=aB _ _
 have q1:(Heap.alloc h' (.cells (aQ v))).get b1=some (.cells [.str nm]):=by rw [gi.get b1 (Nat.lt_of_lt_of_le n1 hx.next),hx.get b1 n1];exact g1
 have q2:(Heap.alloc h' (.cells (aQ v))).get b2=some (.cells [.int .i64 k]):=by rw [gi.get b2 (Nat.lt_of_lt_of_le n2 hx.next),hx.get b2 n2];exact g2
 simp only [cY (fP v),aq];generalize (Heap.alloc h' (.cells (aQ v)))=H at g0 q1 q2 gi ⊢;simp only [aR,reduceAdd,reduceEqDiff,reduceIte,aj g0,aj q1,aj q2];rw [show (aQ v)[0]?=some (.str v.name) from rfl,show (aQ v)[1]?=some (.int .i64 v.arity) from rfl];simp only [aR,reduceAdd,reduceEqDiff,reduceIte,cw];have:=hK _ gi;unfold gm at this
 cases hq:v.name==nm with
 |true=>simp only [aK];rw [hq,Bool.true_and] at this;exact this
 |false=>simp only [aJ];rw [hq,Bool.false_and] at this;exact this
theorem rG{s:cD}(hs:s.ok){k:Int}(hK:K (.ret (.int .i64 (iM (gm nm k) s.aE.l))) h=true):Sem TP 53 [.agg (an s),.str nm,.int .i64 k] h K:=by
 refine Sem.data (r:=.int .i64 (iM (gm nm k) s.aE.l)) ?_ (by simp [AV.cN,AV.pure,eu]) hK;clear hK;refine F.CN ?_;rw [F.EC];simp only [cY (cp s),pE (x:=.int .i64 _) rfl,pE (x:=.str _) rfl,aq,bT,Heap.aL];have g0:(Heap.alloc (Heap.alloc (Heap.alloc Heap.empty (.cells (an s))) (.cells [.str nm])) (.cells [.int .i64 k])).get 0=some (.cells (an s)):=by simp [Heap.aU,bT]
 have g1:(Heap.alloc (Heap.alloc (Heap.alloc Heap.empty (.cells (an s))) (.cells [.str nm])) (.cells [.int .i64 k])).get 1=some (.cells [.str nm]):=by simp [Heap.aU,bT]
 have g2:(Heap.alloc (Heap.alloc (Heap.alloc Heap.empty (.cells (an s))) (.cells [.str nm])) (.cells [.int .i64 k])).get 2=some (.cells [.int .i64 k]):=by simp [Heap.aU,bT]
 have gn:(Heap.alloc (Heap.alloc (Heap.alloc Heap.empty (.cells (an s))) (.cells [.str nm])) (.cells [.int .i64 k])).next=3:=rfl
 generalize (Heap.alloc (Heap.alloc (Heap.alloc Heap.empty (.cells (an s))) (.cells [.str nm])) (.cells [.int .i64 k]))=H at g0 g1 g2 gn ⊢;have lr:ag none (.ptr 0 1) H=some (ak aQ 3 s.aE):=by rw [aj g0];rfl
 simp only [aR,reduceAdd,reduceEqDiff,reduceIte,lr];refine ah (vV (Qf dR s.aE) hs.1 (p:=gm nm k) (fun v h2 gi K2 UF=>Wq g1 g2 (by omega) (by omega) h2 gi K2 UF) fun h2 gi=>?_);simp only [aR,reduceAdd,reduceEqDiff,reduceIte];exact fY rfl
theorem qC{s:cD}{r:Rel}(hr:s.aE.l[i]?=some r):ag none (.dO (s.aE.l.flatMap aQ) (i*3+2)) h=some (ak cU 1 r.aM):=by
 rw [fI dR hr (by omega)];rfl
theorem bY{s:cD}(hs:s.ok){b:Nat}{h:Heap}(hb:h.get b=some (.cells (an s))){K:Out->Heap->Bool}(hK:∀ x,K (.ret (.bool x)) h=true):Sem TP 42 [.slice b 0 1 2] h K:=by
 refine F.Ey ?_;rw [F.GQ];have lr:ag none (.ptr b 1) h=some (ak aQ 3 s.aE):=by rw [aj hb];rfl
 have ia:dG 2 (.slice b 0 1 2) (.int .i64 ((0:Nat):Int))=some (.ptr b 0):=rfl;have hl:∀ h:Heap,bU .slice (.slice b 0 1 2) h=some (.int .i64 ((1:Nat):Int)):=fun _=>rfl
 have num:∀ e:Env,(∃ x:Int,e 4 = .int .i64 x)->F.bY.cQ K (.exit 0) ⟨e,89,[],h⟩=true:=fun e ⟨x,hx⟩=>by
  rw [F.bY.aG];simp only [hx,aR,reduceAdd,reduceEqDiff,reduceIte];exact hK _
 refine aD 0 1 (zero_le _) (fun i e h'=>h'=h/\e 0 = .slice b 0 1 2/\(∃ x:Int,e 3 = .int .i64 x)/\(∃ x:Int,e 4 = .int .i64 x)/\e 5 = .int .i64 (i:Int)) ⟨rfl,rfl,⟨0,rfl⟩,⟨0,rfl⟩,rfl⟩ ?_ ?_
 ·rintro i e h' _ hi ⟨rfl,e0,e3,e4,e5⟩ K' hn hx hr hp;obtain rfl:i=0:=by omega
  rw [F.bY.aT];simp only [e0,e5,hl,ia,lr,aR,reduceAdd,reduceEqDiff,reduceIte,bh hi];by_cases q1:12<s.aE.l.length
  ·simp only [fy (by omega:(12:Int)<(s.aE.l.length:Int)),aK];rw [hr,F.bY.bC];simp only [bK,reduceEqDiff,reduceIte];exact hK _
  simp only [eR (by omega:¬ (12:Int)<(s.aE.l.length:Int)),aJ];refine aD 0 s.aE.l.length (zero_le _) (fun k e h2=>h2=h'/\e 0 = .slice b 0 1 2/\(∃ x:Int,e 3 = .int .i64 x)/\(∃ x:Int,e 4 = .int .i64 x)/\e 5 = .int .i64 ((0:Nat):Int)/\e 6 = .int .i64 (k:Int)) ⟨rfl,e0,e3,e4,e5,rfl⟩ ?_ ?_
  ·rintro k e h2 _ hk ⟨rfl,e0,⟨x3,e3⟩,e4,e5,e6⟩ K2 pV gi rN FD;have hv:s.aE.l[k]?=some s.aE.l[k]:=eA hk;generalize s.aE.l[k]=r at hv;have Wp:r.ok:=hs.2 r (ig hv);obtain ⟨y,hy⟩:=Py x3 (r.aM.l.length:Int)
   have ret:∀ e:Env,e 2 = .bool false->F.bY.jU K' .ret ⟨e,89,[],h2⟩=true:=fun e he=>by
    rw [F.bY.jC,hr,F.bY.bC,he];exact hK _
   rw [F.bY.dh];simp only [e0,e3,e5,e6,ia,lr,aR,reduceAdd,reduceEqDiff,reduceIte,bh hk,aV s.aE hk,qC hv,qB hv,hy]
   cases decide ((1500:Int)<y) with
   |true=>
    simp only [aK];rw [rN];exact ret _ rfl
   |false=>
   simp only [aJ]
   cases decide ((1000:Int)<(r.name.length:Int)) with
   |true=>
    simp only [aK];rw [rN];exact ret _ rfl
   |false=>
   simp only [aJ];refine aD 0 r.aM.l.length (zero_le _) (fun j e h3=>h3=h2/\e 0 = .slice b 0 1 2/\(∃ x:Int,e 3 = .int .i64 x)/\(∃ x:Int,e 4 = .int .i64 x)/\e 5 = .int .i64 ((0:Nat):Int)/\e 6 = .int .i64 (k:Int)/\e 7 = .int .i64 (j:Int)) ⟨rfl,e0,⟨y,rfl⟩,e4,e5,e6,rfl⟩ ?_ ?_
   ·rintro j e h3 _ hj ⟨rfl,e0,e3,⟨x4,e4⟩,e5,e6,e7⟩ K3 UY KR Xk hp3;have ht:r.aM.l[j]?=some r.aM.l[j]:=eA hj;generalize r.aM.l[j]=t at ht;obtain ⟨z,hz⟩:=Py x4 (t.l.length:Int);rw [F.bY.mg];simp only [e0,e4,e5,e6,e7,ia,lr,aR,reduceAdd,reduceEqDiff,reduceIte,aV s.aE hk,qC hv,bh hj,aV r.aM hj,ic ht,hz,aI hj Wp.2.1];exact UY _ _ ⟨rfl,e0,e3,⟨z,rfl⟩,e5,e6,rfl⟩
   ·rintro e h3 ⟨rfl,e0,e3,e4,e5,e6,e7⟩ K3 KR;rw [F.bY.mg];simp only [e0,e5,e6,e7,ia,lr,aR,reduceAdd,reduceEqDiff,reduceIte,aV s.aE hk,qC hv,aW];rw [KR,F.bY.iU];simp only [aR,reduceAdd,reduceEqDiff,reduceIte,e6,aI hk hs.1];exact pV _ _ ⟨rfl,e0,e3,e4,e5,rfl⟩
  ·rintro e h2 ⟨rfl,e0,e3,e4,e5,e6⟩ K2 gi;rw [F.bY.dh];simp only [e0,e5,e6,ia,lr,aR,reduceAdd,reduceEqDiff,reduceIte,aW];rw [gi,F.bY.cx];simp only [aR,reduceAdd,reduceEqDiff,reduceIte,e5,aI hi (show (1:Nat)<=cM by unfold cM;omega)];exact hn _ _ ⟨rfl,e0,e3,e4,rfl⟩
 ·rintro e h' ⟨rfl,e0,e3,e4,e5⟩ K' hx;rw [F.bY.aT];simp only [e0,e5,hl,aR,reduceAdd,reduceEqDiff,reduceIte,aW];rw [hx];exact num _ e4
theorem Own.kH{enc:α->List AV}{l:List α}(o:Own enc sz k h a l):bw (AV.dy a)=true/\(AV.dy a).length=1/\AV.dy a = [a]:=by cases o<;>exact ⟨rfl,rfl,rfl⟩
def Bh(s:cD)(y:b7×Int):Bool:=match s.aE.l.find? (fQ y.1) with
 |some r=>decide (r.arity=y.2)
 |none=>false
theorem Dw{α:Type}(p:α->Bool):∀ (l:List α) (i:Nat),(tZ p l i = -1/\l.find? p=none)\/∃ (j:Nat) (v:α),tZ p l i=((i+j:Nat):Int)/\l[j]?=some v/\l.find? p=some v
 |[],i=>.inl ⟨rfl,rfl⟩
 |x :: l,i=>by
  rw [tZ,find?_cons]
  cases hp:p x with
  |true=>exact .inr ⟨0,x,by simp,rfl,rfl⟩
  |false=>
   simp only [false_eq_true,if_false];rcases Dw p l (i+1) with ⟨h1,h2⟩|⟨j,v,h1,h2,h3⟩
   ·exact .inl ⟨h1,h2⟩
   ·exact .inr ⟨j+1,v,by rw [h1];congr 1;omega,by simpa using h2,h3⟩
theorem lD(p:α->Bool)(l:List α):(iM p l = -1/\l.find? p=none)\/∃ (j:Nat) (v:α),iM p l=(j:Int)/\l[j]?=some v/\l.find? p=some v:=by
 rcases Dw p l 0 with h|⟨j,v,h1,h2,h3⟩
 ·exact .inl h
 ·exact .inr ⟨j,v,by rw [iM,h1,Nat.zero_add],h2,h3⟩
theorem zG{s:cD}{r:Rel}(hr:s.aE.l[i]?=some r):ag none (.dO (s.aE.l.flatMap aQ) (i*3+1)) h=some (.int .i64 r.arity):=by
 rw [fI dR hr (by omega)];rfl
theorem abo{y:b7×Int}(hy:x.l[i]?=some y):ag none (.dO (x.l.flatMap nh) (i*2)) h=some (.str y.1):=by
 have:=fI (h:=h) oI hy (k:=0) (by omega);rw [Nat.add_zero] at this;rw [this];rfl
theorem Wr{y:b7×Int}(hy:x.l[i]?=some y):ag none (.dO (x.l.flatMap nh) (i*2+1)) h=some (.int .i64 y.2):=by
 rw [fI oI hy (by omega)];rfl
theorem NK(y:b7×Int):AV.cN (nh y)=true:=rfl
theorem eT{s:cD}(hs:s.ok){x:Sl (b7×Int)}(hx:x.l.length<=cM){h:Heap}{K:Out->Heap->Bool}(hK:K (.ret (.bool (x.l.all (Bh s)))) h=true):Sem TP 67 [.agg (an s),ak nh 2 x] h K:=by
 refine Sem.data (r:=.bool (x.l.all (Bh s))) ?_ (by simp [AV.cN,AV.pure,eu,cc NK]) hK;clear hK;refine F.CK ?_;rw [F.Ez];have b0:(Heap.alloc Heap.empty (.cells (an s))).get 0=some (.cells (an s)):=aB _ _;simp only [cY (cp s),aq,bT];generalize (Heap.alloc Heap.empty (.cells (an s)))=H at b0 ⊢;have fin:∀ b:Bool,b=x.l.all (Bh s)->pO (.bool (x.l.all (Bh s))) (.ret (.bool b)) H=true:=fun b hb=>by rw [hb];exact fY rfl
 have lr:ag none (.ptr 0 1) H=some (ak aQ 3 s.aE):=by rw [aj b0];rfl
 have lw:ag (some 2) (.ptr 0 0) H=some (.agg (an s)):=by rw [aj b0,cE (cs:=an s) (n:=2) rfl]
 refine aD 0 x.l.length (zero_le _) (fun i e h'=>h'=H/\e 1=ak nh 2 x/\e 2 = .ptr 0 0/\e 5 = .int .i64 (i:Int)/\(x.l.take i).all (Bh s)=true) ⟨rfl,rfl,rfl,rfl,rfl⟩ ?_ ?_
 ·rintro i e h' _ hi ⟨rfl,e1,e2,e5,ht⟩ K' hn fW hr hp;have hv:x.l[i]?=some x.l[i]:=eA hi;generalize x.l[i]=y at hv;rw [F.eT.aT];simp only [e1,e2,e5,aR,reduceAdd,reduceEqDiff,reduceIte,lw,bh hi,aV x hi,abo hv];refine ah (eU hs ?_);simp only [aR,reduceAdd,reduceEqDiff,reduceIte];rcases lD (fQ y.1) s.aE.l with ⟨h1,h2⟩|⟨j,r,h1,h2,h3⟩
  ·rw [h1];simp only [show decide ((-1:Int)<0)=true from rfl,aK];rw [hr,F.eT.bC];simp only [bK,reduceEqDiff,reduceIte];exact fin _ (all_false hv (by rw [Bh,h2])).symm
  ·rw [h1];have hj:j<s.aE.l.length:=(kg.1 h2).1;simp only [eR (by omega:¬ ((j:Int)<0)),aJ,aR,reduceAdd,reduceEqDiff,reduceIte,e1,e2,e5,lr,aV s.aE hj,zG h2,aV x hi,Wr hv,cw];by_cases hq:r.arity=y.2
   ·simp only [fy hq,Bool.not_true,aJ,aI hi hx,aq];exact hn _ _ ⟨rfl,e1,e2,rfl,jm hv ht (by rw [Bh,h3];exact fy hq)⟩
   ·simp only [eR hq,Bool.not_false,aK];rw [hr,F.eT.bC];simp only [bK,reduceEqDiff,reduceIte];exact fin _ (all_false hv (by rw [Bh,h3];exact eR hq)).symm
 ·rintro e h' ⟨rfl,e1,e2,e5,ht⟩ K' fW;rw [F.eT.aT];simp only [e1,e5,aR,reduceAdd,reduceEqDiff,reduceIte,aW];rw [fW,F.eT.aG];rw [kf (dM _)] at ht;exact fin _ ht.symm
theorem XC(s:St):dw TP s Tryz.f183.results.toList=(match ag (some 3) (s.env 8) s.h,(some []:Option (List AV)) with|some v,some vs=>some (v :: vs)|_,_=>none):=by kernel_rfl
theorem Dx{s:cD}(hv:cV s=true){r:Rel}(hr:s.aE.l[i]?=some r):nj s.size.toNat r=true:=by
 simp only [cV,and_eq_true] at hv;have:=yy hv.2.2.2 (kg.1 hr).1;rw [oL,hr] at this;simp only [and_eq_true] at this;exact this.1
theorem iW{s:cD}(hv:cV s=true):∃ n:Nat,s.size=(n:Int)/\1<=n/\n<=64/\s.aE.l.length<=8:=by
 simp only [cV,and_eq_true,decide_eq_true_eq] at hv;exact ⟨s.size.toNat,by omega,by omega,by omega,hv.2.2.1⟩
theorem Hf{r:Rel}(h:nj n r=true):∃ k:Nat,r.arity=(k:Int)/\k<=12/\n ^ k<=4096/\yq n k r.aM.l=true:=by
 simp only [nj,and_eq_true,decide_eq_true_eq] at h;exact ⟨r.arity.toNat,by omega,by omega,h.2.2.2.1,h.2.2.2.2⟩
theorem rH{s:cD}(hv:cV s=true):(s.aE.l.map Rel.name).Nodup:=by
 simp only [cV,and_eq_true] at hv;unfold List.Nodup;rw [pairwise_iff_getElem];intro i j hi hj hij e;rw [length_map] at hi hj;have:=yy hv.2.2.2 hj;rw [oL,eA hj] at this;simp only [and_eq_true,not_eq_true'] at this;rw [getElem_map,getElem_map] at e;have h2:=Qi (p:=fun q:Rel=>q.name==s.aE.l[j].name) (eA hi) hij (by simpa using e);rw [h2] at this;cases this.2
theorem FQ:∀ {l:List Rel},(l.map Rel.name).Nodup->∀ (nm:b7) (k:Int),l.find? (gm nm k)=match l.find? (fQ nm) with
  |some r=>if r.arity=k then some r else none
  |none=>none
 |[],_,nm,k=>rfl
 |q :: l,hn,nm,k=>by
  rw [map_cons,nodup_cons] at hn;rw [find?_cons,find?_cons]
  cases hq:fQ nm q with
  |true=>
   have pe:q.name==nm:=hq;simp only;by_cases ha:q.arity=k
   ·have:gm nm k q=true:=(by rw [gm,pe,fy ha];rfl);rw [this,if_pos ha]
   ·have:gm nm k q=false:=(by rw [gm,eR ha,Bool.and_false]);rw [this,if_neg ha];simp only;rw [find?_eq_none];intro r hr hs;simp only [gm,and_eq_true,beq_iff_eq] at hs pe;exact hn.1 (by rw [pe,<- hs.1];exact List.mem_map_of_mem hr)
  |false=>
   have pe:(q.name==nm)=false:=hq;have:gm nm k q=false:=by rw [gm,pe,Bool.false_and]
   rw [this];exact FQ hn.2 nm k
theorem Jh{s:cD}(hv:cV s=true)(y:b7×Int):Bh s y=(s.aE.l.find? (gm y.1 y.2)).isSome:=by
 rw [FQ (rH hv),Bh]
 cases s.aE.l.find? (fQ y.1) with
 |none=>rfl
 |some r=>
  simp only;by_cases h:r.arity=y.2
  ·rw [if_pos h,fy h];rfl
  ·rw [if_neg h,eR h];rfl
theorem TB(l:List Int):bw (l.map iv)=true:=by
 induction l with
 |nil=>rfl
 |cons a l ih=>simp only [map_cons,bw,ih,Bool.and_true];rfl
theorem zH{src:AV}{l:List Int}(r:Row encI 1 (h.alloc (.cells [])) src l)(hl:l.length<=1000000) :
  ∃ b h',b6 1 8 (.slice h.next 0 0 1) src (h.alloc (.cells []))=some (.slice b 0 l.length 1,h')/\h'.get b=some (.cells (l.map iv))/\bA h h'/\h.next<=b/\b<h'.next:=by
 have hm:cG=140737488355328:=rfl;have g:(h.alloc (.cells [])).get h.next=some (.cells []):=aB _ _
 have rc:=r.cells;rw [<- tE] at rc;by_cases hz:l.length=0
 ·have:l = []:=eq_nil_of_length_eq_zero hz;subst this;refine ⟨h.next,h.alloc (.cells []),?_,g,bA.alloc _ _,dM _,lt_succ_self _⟩;simp only [length_nil] at rc;simp [b6,r.len,rc]
 ·refine ⟨h.next+1,((h.alloc (.cells [])).set h.next .dead).alloc (.cells (l.map iv)),?_,?_,?_,by omega,?_⟩
  ·simp only [b6,r.len,rc,if_true,if_neg hz,g];rw [if_pos (by simp [TB];omega)];simp [Heap.bt,Heap.aL]
  ·have:=aB ((h.alloc (.cells [])).set h.next .dead) (.cells (l.map iv))
   rwa [Heap.bt,Heap.aL] at this
  ·exact ((bA.alloc h (.cells [])).set (dM _) _).trans (bA.alloc _ _)
  ·rw [Heap.aL,Heap.bt,Heap.aL];omega
def TC(n:Nat)(t:List Int):List (List Int):=(List.range n).map fun (x:Nat)=>t++[(x:Int)]
def stepT(n:Nat)(out:List (List Int)):List (List Int):=out.flatMap (TC n)
def Ji(n:Nat):Nat->List (List Int)
 |0=>[[]]
 |k+1=>stepT n (Ji n k)
theorem Dy(n:Nat)(t:List Int):(TC n t).length=n:=by simp [TC]
theorem zI{n:Nat}:∀ {out:List (List Int)} {r x:Nat} {t:List Int},out[r]?=some t->x<n->(stepT n out)[r*n+x]?=some (t++[(x:Int)])
 |[],r,x,t,h,_=>by simp at h
 |u :: out,0,x,t,h,hx=>by
  simp at h;subst h;rw [stepT,flatMap_cons,Nat.zero_mul,Nat.zero_add,getElem?_append_left (by rw [Dy];exact hx)];simp [TC,getElem?_range hx]
 |u :: out,r+1,x,t,h,hx=>by
  rw [stepT,flatMap_cons,getElem?_append_right (by rw [Dy,succ_mul];omega),Dy];have:(r+1)*n+x-n=r*n+x:=by rw [succ_mul];omega
  rw [this];exact zI (out:=out) (by simpa using h) hx
theorem TD{t:List Int}{x:Nat}(ht:jo n t=true)(hx:x<n):jo n (t++[(x:Int)])=true:=by
 unfold jo at ht ⊢;rw [all_append,ht];simp;omega
theorem FR{n:Nat}(hn:1<=n):∀ (k r:Nat),r<n ^ k->∃ t,(Ji n k)[r]?=some t/\t.length=k/\jo n t=true/\nc n t=r
 |0,r,h=>by
  obtain rfl:r=0:=by simp at h;omega
  exact ⟨[],rfl,rfl,rfl,rfl⟩
 |k+1,r,h=>by
  have hr:r/n<n ^ k:=Nat.div_lt_of_lt_mul (by rw [Nat.mul_comm,<- Nat.pow_succ];exact h);have hx:r%n<n:=mod_lt _ hn;obtain ⟨t,h1,h2,h3,h4⟩:=FR hn k (r/n) hr;refine ⟨t++[((r%n:Nat):Int)],?_,by simp [h2],TD h3 hx,?_⟩
  ·have:=zI (n:=n) h1 hx;rw [Ji]
   rwa [div_add_mod' r n] at this
  ·unfold nc at h4 ⊢;rw [tN,h4];simp only [vr,Int.toNat_natCast];exact div_add_mod' r n
theorem uQ:fS [] [] []=some []:=rfl
theorem abp(p:PB):fS [.ax] [(0,1)] [.slice p.1 0 p.2.length 1]=some (Nx p):=rfl
theorem fo{x:Sl (Sl Int)}(hx:x.l.length<=1000000)(ht:∀ t ∈ x.l,t.l.length<=1000000){h:Heap}{K:Out->Heap->Bool}(hK:∀ y:Sl (Sl Int),y.l.map Sl.l=x.l.map Sl.l->K (.ret (ak cU 1 y)) h=true):Sem TP 72 [ak cU 1 x] h K:=by
 have hm:cG=140737488355328:=rfl;have hbig:x.l.length<=cM:=by unfold cM;omega
 have main:Sem TP 72 [ak cU 1 x] Heap.empty (fun o h'=>yes (∃ v,∃ y:Sl (Sl Int),o = .ret v/\y.l.map Sl.l=x.l.map Sl.l/\Fz true h' v (ak cU 1 y))):=by
  refine F.zq ?_;rw [F.A6];refine aD 0 x.l.length (zero_le _) (fun i e h'=>∃ a ps,Df 0 h' a ps/\ps.map (·.2)=(x.l.take i).map Sl.l/\e 0=ak cU 1 x/\e 3=a/\e 4 = .int .i64 (i:Int)) ⟨_,_,.nil _ _,rfl,rfl,rfl,rfl⟩ ?_ ?_
  ·rintro i e h' _ hi ⟨a,ps,nst,wh,e0,e3,e4⟩ K' hn fW hr hp;have hv:x.l[i]?=some x.l[i]:=eA hi;generalize x.l[i]=t at hv;have Dz:=ht t (ig hv);have sI:ps.length=i:=by have:=congrArg List.length wh;rw [length_map,length_map,length_take,Nat.min_eq_left (by omega)] at this;exact this
   obtain ⟨b,h5,a5,g5,x5,l5,m5⟩:=zH (uK mT t (h'.alloc (.cells []))) Dz;have aez:=nst.ext x5;obtain ⟨a6,h6,e6,aeA,_⟩:=aez.push (zero_le _) (by rw [hm];omega) (b,t.l) (zero_le _) m5 (fun hb=>by have:=nst.own.lt hb;simp only at this;omega) g5;rw [F.fo.aT];simp only [e0,e3,e4,aR,reduceAdd,reduceEqDiff,reduceIte,bh hi,uQ,aV x hi,ic hv,a5,abp (b,t.l),e6,aI hi hbig];exact hn _ _ ⟨_,_,aeA,by rw [map_append,wh,take_add_one,hv,map_append];rfl,e0,rfl,rfl⟩
  ·rintro e h' ⟨a,ps,nst,wh,e0,e3,e4⟩ K' fW;rw [F.fo.aT];simp only [e0,e4,aR,reduceAdd,reduceEqDiff,reduceIte,aW];rw [fW,F.fo.aG];simp only [bK,reduceEqDiff,reduceIte,e3];obtain ⟨y,hy1,hy2⟩:=nst.yM (old:=true);exact ct.2 ⟨a,y,rfl,by rw [hy1,wh,kf (dM _)],hy2⟩
 refine main.frozen (by simp [AV.cN,cc mH]) fun o h' ho=>?_;obtain ⟨v,y,rfl,hy,hf⟩:=ct.1 ho;exact ⟨v,_,rfl,hf,hK y hy⟩
structure cD.small (s:cD):Prop where
 aE:s.aE.l.length<=1000
 Hg:∀ r ∈ s.aE.l,r.aM.l.length<=10000
 XD:∀ r ∈ s.aE.l,∀ t ∈ r.aM.l,t.l.length<=1000
theorem cD.small.Ws{s:cD}(hs:s.small):s.aE.l.length<=cM:=by have:=hs.aE;unfold cM;omega
theorem TE(nm:b7)(k:Int)(y:Sl (Sl Int)):iy [.str [],.int .i64 0,.ax] [(0,1),(1,1),(2,1)] [.str nm,.int .i64 k,ak cU 1 y]=some (.agg (aQ ⟨nm,k,y⟩)):=by cases y<;>rfl
theorem Mw(r:Rel):fS [.str [],.int .i64 0,.ax] [(0,3)] [.agg (aQ r)]=some (aQ r):=by
 obtain ⟨nm,k,y⟩:=r;cases y<;>rfl
theorem Qj(s:St):dw TP s Tryz.f25.results.toList=(match ag (some 2) (s.env 2) s.h,(some []:Option (List AV)) with|some v,some vs=>some (v :: vs)|_,_=>none):=by kernel_rfl
theorem gE{s:cD}(hs:s.small){h:Heap}{K:Out->Heap->Bool}(hK:∀ a h' rs,bA h h'->Own aQ 3 h.next h' a rs->rs.map bX=s.aE.l.map bX->K (.ret (.agg [.int .i64 s.size,a])) h'=true):Sem TP 25 [.agg (an s)] h K:=by
 have hm:cG=140737488355328:=rfl;refine F.CR ?_;rw [F.EF];simp only [cY (cp s),aq,Heap.aL];have g0:(Heap.alloc (Heap.alloc h (.cells (an s))) (.cells [.int .i64 0,.ax])).get h.next=some (.cells (an s)):=by rw [Heap.aU,Heap.aL,if_neg (by omega)];exact aB _ _
 have g1:(Heap.alloc (Heap.alloc h (.cells (an s))) (.cells [.int .i64 0,.ax])).get (h.next+1)=some (.cells [.int .i64 0,.ax]):=aB _ _;have gn:(Heap.alloc (Heap.alloc h (.cells (an s))) (.cells [.int .i64 0,.ax])).next=h.next+2:=rfl
 have gx:bA h (Heap.alloc (Heap.alloc h (.cells (an s))) (.cells [.int .i64 0,.ax])):=(bA.alloc _ _).trans (bA.alloc _ _);generalize (Heap.alloc (Heap.alloc h (.cells (an s))) (.cells [.int .i64 0,.ax]))=H1 at g0 g1 gn gx ⊢;have lz:ag none (.ptr h.next 0) H1=some (.int .i64 s.size):=by rw [aj g0];rfl
 have ha:iy [.int .i64 0,.ax] [(0,1)] [.int .i64 s.size]=some (.agg [.int .i64 s.size,.ax]):=rfl;obtain ⟨H2,qH,p2,po,pn⟩:=cu (h:=H1) (zs:=[.int .i64 0,.ax]) (cs:=[.int .i64 s.size,.ax]) (n:=2) rfl rfl rfl;rw [gn] at p2 po pn qH;have p0:H2.get h.next=some (.cells (an s)):=by rw [po _ (by omega)];exact g0
 have p1:H2.get (h.next+1)=some (.cells [.int .i64 0,.ax]):=by rw [po _ (by omega)];exact g1
 have px:bA h H2:=⟨by omega,fun b hb=>by rw [po _ (by omega)];exact gx.get b hb⟩
 simp only [aR,reduceAdd,reduceEqDiff,reduceIte,lz,ha,gn,qH]
 refine aD 0 s.aE.l.length (zero_le _) (fun i e h'=>∃ a rs,h'.get h.next=some (.cells (an s))/\h'.get (h.next+1)=some (.cells [.int .i64 0,.ax])/\h'.get (h.next+2)=some (.cells [.int .i64 s.size,a])/\Own aQ 3 (h.next+3) h' a rs/\rs.map bX=(s.aE.l.take i).map bX/\bA h h'/\h.next+3<=h'.next /\
  e 1 = .ptr h.next 0/\e 2 = .ptr (h.next+1) 0/\e 3 = .ptr (h.next+2) 0/\e 4 = .int .i64 (i:Int)) ⟨_,[],p0,p1,p2,.nil,rfl,px,by omega,rfl,rfl,rfl,rfl⟩ ?_ ?_
 ·rintro i e h' _ hi ⟨a,rs,q0,q1,q2,o,Jj,qx,qn,e1,e2,e3,e4⟩ K' hn fW hr hp;have hv:s.aE.l[i]?=some s.aE.l[i]:=eA hi;generalize s.aE.l[i]=r at hv;have nR:=ig hv;have lr:ag none (.ptr h.next 1) h'=some (ak aQ 3 s.aE):=by rw [aj q0];rfl
  have lo:ag none (.ptr (h.next+2) 1) h'=some a:=by rw [aj q2];rfl
  have hrl:rs.length=i:=by have:=congrArg List.length Jj;rw [length_map,length_map,length_take,Nat.min_eq_left (by omega)] at this;exact this
  rw [F.gE.aT];simp only [e1,e3,e4,aR,reduceAdd,reduceEqDiff,reduceIte,lr,lo,bh hi,aV s.aE hi,qB hv,zG hv,qC hv];refine ah (fo (by have:=hs.Hg r nR;omega) (fun t ht=>by have:=hs.XD r nR t ht;omega) fun y hy=>?_);obtain ⟨a5,h5,p5,o5,f5,n5,x5,b5⟩:=o.push dR fP (by omega) (bytes:=48) (by have:=hs.aE;rw [hm];omega) ⟨r.name,r.arity,y⟩;have hne:cz a≠some (h.next+2):=fun hb=>by have:=o.ge hb;omega
  have s2:h5.get (h.next+2)=some (.cells [.int .i64 s.size,a]):=by rw [f5 _ (by omega) hne];exact q2
  have c5:=o5.kH
  have st:aY 1 (.ptr (h.next+2) 1) a5 h5=some (h5.set (h.next+2) (.cells [.int .i64 s.size,a5])):=by
   rw [cF (n:=1) s2 c5.2.1 c5.1 (by simp),c5.2.2];rfl
  simp only [kK,lr,lo,qB hv,zG hv,aq,AV.beq_refl,Bool.and_self,if_true,TE,Mw,p5,iZ,e3,e4,Pd,Nat.zero_add,st,aI hi hs.Ws];refine hn _ _ ⟨a5,rs++[⟨r.name,r.arity,y⟩],?_,?_,?_,o5.kE (by omega) _,?_,?_,by rw [Heap.bt];omega,e1,e2,e3,rfl⟩
  ·rw [Heap.aN,if_neg (by omega),f5 _ (by omega) (fun hb=>by have:=o.ge hb;omega)];exact q0
  ·rw [Heap.aN,if_neg (by omega),f5 _ (by omega) (fun hb=>by have:=o.ge hb;omega)];exact q1
  ·rw [Heap.aN,if_pos rfl]
  ·rw [map_append,Jj,take_add_one,hv,map_append];simp [bX,hy]
  ·exact (x5 h qx (by omega)).set (by omega) _
 ·rintro e h' ⟨a,rs,q0,q1,q2,o,Jj,qx,qn,e1,e2,e3,e4⟩ K' fW;have lr:ag none (.ptr h.next 1) h'=some (ak aQ 3 s.aE):=by rw [aj q0];rfl
  have lo:ag (some 2) (.ptr (h.next+2) 0) h'=some (.agg [.int .i64 s.size,a]):=by rw [aj q2];rfl
  have c:=o.kH
  have Bi:bw [.int .i64 s.size,a]=true:=by
   have:=c.1;rw [c.2.2] at this;simp only [bw,Bool.and_true] at this ⊢;rw [this];rfl
  have st:aY 2 (.ptr (h.next+1) 0) (.agg [.int .i64 s.size,a]) h'=some (h'.set (h.next+1) (.cells [.int .i64 s.size,a])):=by
   rw [cF (n:=2) (v:=.agg [.int .i64 s.size,a]) q1 rfl Bi (by simp)];rfl
  have Qk:ag (some 2) (.ptr (h.next+1) 0) (h'.set (h.next+1) (.cells [.int .i64 s.size,a]))=some (.agg [.int .i64 s.size,a]):=by rw [aj (cs:=[.int .i64 s.size,a]) (by rw [Heap.aN,if_pos rfl])];rfl
  rw [F.gE.aT];simp only [e1,e4,aR,reduceAdd,reduceEqDiff,reduceIte,lr,aW];rw [fW,F.gE.aG];simp only [bK,reduceEqDiff,reduceIte,e2,e3,lo,st,aq,Qj,Qk,oneOf];rw [kf (dM _)] at Jj;exact hK a _ rs (qx.set (by omega) _) ((o.kE (by omega) _).C6 (by omega)) Jj
theorem Jk{n:Nat}:∀ {a b:List Int} (r:Nat),a.length=b.length->jo n a=true->jo n b=true->dm a b=true->vr n a r<vr n b r
 |[],_,r,_,_,_,h=>by simp [dm] at h
 |_ :: _,[],r,_,_,_,h=>by simp [dm] at h
 |x :: a,y :: b,r,hl,ha,hb,h=>by
  have UZ:=ha;have eW:=hb;simp only [jo,all_cons,and_eq_true,not_eq_true',decide_eq_false_iff_not] at ha hb;have ia:jo n a=true:=by unfold jo;simpa using ha.2
  have ib:jo n b=true:=by unfold jo;simpa using hb.2
  have Ca:a.length=b.length:=by simpa using hl
  rw [dm] at h;simp only [vr];by_cases e:x=y
  ·subst e;rw [if_pos rfl] at h;exact Jk _ Ca ia ib h
  ·rw [if_neg e] at h;have UO:=of_decide_eq_true h
   have lo:∀ (l:List Int) (r:Nat),r*n ^ l.length<=vr n l r:=by
    intro l
    induction l with
    |nil=>intro r;simp [vr]
    |cons z l ih=>
     intro r;rw [vr];refine Nat.le_trans ?_ (ih _);rw [length_cons,Nat.pow_succ,Nat.mul_comm (n ^ l.length) n,<- Nat.mul_assoc];exact mul_le_mul_right _ (le_add_right _ _)
   have hi:∀ (l:List Int) (r:Nat),jo n l=true->vr n l r<(r+1)*n ^ l.length:=by
    intro l
    induction l with
    |nil=>intro r _;simp [vr]
    |cons z l ih=>
     intro r hz;simp only [jo,all_cons,and_eq_true,not_eq_true',decide_eq_false_iff_not] at hz;rw [vr];refine Nat.lt_of_lt_of_le (ih _ (by unfold jo;simpa using hz.2)) ?_;rw [length_cons,Nat.pow_succ,Nat.mul_comm (n ^ l.length) n,<- Nat.mul_assoc];refine mul_le_mul_right _ ?_;rw [succ_mul];omega
   have q1:=hi a (r*n+x.toNat) ia;have q2:=lo b (r*n+y.toNat)
   have q3:(r*n+x.toNat+1)*n ^ a.length<=(r*n+y.toNat)*n ^ b.length:=by
    rw [Ca];exact mul_le_mul_right _ (by omega)
   omega
theorem FT{a b:List Int}(hl:a.length=b.length)(ha:jo n a=true)(hb:jo n b=true)(h:dm a b=true):nc n a<nc n b:=Jk 0 hl ha hb h
def nI(n:Nat):Nat->Nat->List Int
 |0,_=>[]
 |k+1,r=>nI n k (r/n)++[((r%n:Nat):Int)]
theorem FU{n:Nat}(hn:1<=n):∀ (k r:Nat),r<n ^ k->(Ji n k)[r]?=some (nI n k r)
 |0,r,h=>by
  obtain rfl:r=0:=by simp at h;omega
  rfl
 |k+1,r,h=>by
  have hr:r/n<n ^ k:=Nat.div_lt_of_lt_mul (by rw [Nat.mul_comm,<- Nat.pow_succ];exact h);have hx:r%n<n:=mod_lt _ hn;have:=zI (n:=n) (FU hn k (r/n) hr) hx;rw [Ji,nI]
  rwa [div_add_mod' r n] at this
theorem Hh(hn:1<=n){r:Nat}(h:r<n ^ k):jo n (nI n k r)=true/\nc n (nI n k r)=r:=by
 obtain ⟨t,h1,h2,h3,h4⟩:=FR hn k r h;rw [FU hn k r h] at h1;cases h1;exact ⟨h3,h4⟩
theorem TF{a:Nat}(hb:0<b):aF .rem (.int .i64 (a:Int)) (.int .i64 (b:Int))=some (.int .i64 ((a%b:Nat):Int)):=by
 have h:¬ (b:Int)=0:=by omega
 simp only [aF,if_true,if_neg h];rw [Int.tmod_eq_emod_of_nonneg (by omega)];rfl
theorem TG{a:Nat}(hb:0<b)(ha:a<=1000000):aF .quo (.int .i64 (a:Int)) (.int .i64 (b:Int))=some (.int .i64 ((a/b:Nat):Int)):=by
 have h:¬ (b:Int)=0:=by omega
 simp only [aF,if_true,if_neg h];have e:((a:Int).tdiv (b:Int))=((a/b:Nat):Int):=by rw [Int.tdiv_eq_ediv_of_nonneg (by omega)];rfl
 have:a/b<=a:=div_le_self _ _;rw [e];generalize a/b=q at this;rw [IntWalk.i64_in _ (by omega)]
theorem gl{n k r:Nat}(n1:1<=n)(xh:n<=64)(hk:k<=12)(hc:n ^ k<=4096)(hr:r<n ^ k){h:Heap}{K:Out->Heap->Bool}(hK:∀ t:Sl Int,t.l=nI n k r->K (.ret (.tuple [ak encI 1 t,.int .i64 0])) h=true):Sem TP 63 [.int .i64 (n:Int),.int .i64 (k:Int),.int .i64 (r:Int)] h K:=by
 have main:Sem TP 63 [.int .i64 (n:Int),.int .i64 (k:Int),.int .i64 (r:Int)] Heap.empty (fun o h'=>yes (∃ v,∃ t:Sl Int,o = .ret (.tuple [v,.int .i64 0])/\t.l=nI n k r/\Fz true h' v (ak encI 1 t))):=by
  refine F.A7 ?_;rw [F.CS];refine ah (tW n1 xh (by unfold cM;omega) ?_);rw [NI,if_neg (by omega),if_neg (by omega)];have Jd:aF .sub (.int .i64 (k:Int)) (.int .i64 1)=some (.int .i64 ((k:Int)-1)):=pz (by omega) (by omega);simp only [aR,reduceAdd,reduceEqDiff,reduceIte,beq_self_eq_true,Bool.not_true,eR (by omega:¬ (r:Int)<0),eR (by omega:¬ ((n ^ k:Nat):Int)<=(r:Int)),BC (show k<=1000000 by omega),bT,Jd]
  refine k7 (fun j e h'=>∃ (q:Nat) (Rk:List Int),j<=k/\nI n k r=nI n j q++Rk/\j+Rk.length=k/\q<=4096/\h'.get 0=some (.cells ((replicate j (0:Int)++Rk).map iv))/\e 0 = .int .i64 (n:Int)/\e 2 = .int .i64 (q:Int)/\e 10 = .slice 0 0 k 1/\e 11 = .int .i64 ((j:Int)-1)) k
   ⟨r,[],dM _,by simp,rfl,by omega,by rw [append_nil];exact aB _ _,rfl,rfl,rfl,rfl⟩ ?_
  rintro j e h' ⟨q,Rk,hj,ht,hl,hq,g0,e0,e2,kF,qI⟩;rw [F.gl.aT]
  cases j with
  |zero=>
   simp only [qI,qW,aq,cC,eR (by omega:¬ (0:Int)<=((0:Nat):Int)-1),aJ,oB];rw [F.gl.aG];simp only [bK,reduceEqDiff,reduceIte,kF];rw [replicate_zero,nil_append] at g0;refine ct.2 ⟨_,some Rk,rfl,by rw [ht,nI];rfl,?_⟩;have:=IE g0
   rwa [show Rk.length=k by omega] at this
  |succ j=>
   have aeD:((j+1:Nat):Int)-1=(j:Int):=by omega
   have hjk:j<k:=by omega
   have lN:(replicate (j+1) (0:Int)++Rk).set j ((q%n:Nat):Int)=replicate j 0++(((q%n:Nat):Int) :: Rk):=by
    rw [replicate_succ',append_assoc,set_append_right _ _ (by simp)];simp
   have Da:aF .sub (.int .i64 (j:Int)) (.int .i64 1)=some (.int .i64 ((j:Int)-1)):=pz (by omega) (by omega);rw [aeD] at qI;simp only [e0,e2,kF,qI,qW,aq,cC,fy (by omega:(0:Int)<=(j:Int)),aK,TF n1,TG n1 (show q<=1000000 by omega),nr hjk,yj g0 (show j<(replicate (j+1) (0:Int)++Rk).length by simp;omega),Da];refine ct.2 ⟨j,by omega,rfl,rfl,⟨q/n,(((q%n:Nat):Int) :: Rk),by omega,?_,by simp;omega,by have:=div_le_self q n;omega,by rw [Heap.aN,if_pos rfl,lN],e0,rfl,kF,rfl⟩⟩;rw [ht,nI,append_assoc];rfl
 refine main.frozen (by simp [AV.cN,AV.pure]) fun o h' ho=>?_;obtain ⟨v,t,rfl,ht,hf⟩:=ct.1 ho;have:=lF.cons hf (lF.cons (.scalar (.int .i64 0) rfl) lF.nil);exact ⟨_,_,rfl,.tuple _ _ this.len this.rel,hK t ht⟩
theorem Jl{m:mF}(hb:h.get b=some (.map es ck))(hm:tG es m)(k:b7)(v:AV) :
  ∃ xA GI,eS .string (.map b) (.str k) v h=some (h.set b (.map xA GI))/\tG xA (m.qX k v):=by
 obtain ⟨r,hr,uC⟩:=tG.jB (k:=k) 0 hm;simp only [eS,hb,pY,pX,if_true,hr]
 cases r with
 |none=>simp at uC;exact ⟨_,_,rfl,hm.append uC v ck⟩
 |some jv=>
  obtain ⟨n,hj,_,e⟩:=uC;obtain ⟨j,w⟩:=jv;simp only [Nat.zero_add] at hj;subst hj;exact ⟨_,_,rfl,e v⟩
theorem Ql(m:mF)(k j:b7)(v:AV):(m.qX k v).find j=if j=k then some v else m.find j:=by
 induction m with
 |nil=>
  simp only [mF.qX,mF.find,find?_cons,find?_nil];by_cases h:j=k
  ·subst h;simp
  ·have:(j==k)=false:=by simpa using h
   rw [this,if_neg h]
 |cons p m ih=>
  simp only [mF.qX];by_cases hk:k=p.1
  ·rw [if_pos (by simpa using hk)];subst hk;simp only [mF.find,find?_cons];by_cases h:j=p.1
   ·subst h;simp
   ·have:(j==p.1)=false:=by simpa using h
    rw [this,if_neg h]
  ·rw [if_neg (by simpa using hk)];simp only [mF.find,find?_cons] at ih ⊢;by_cases h:j=p.1
   ·subst h;simp only [beq_self_eq_true,map_some];rw [if_neg (Ne.symm hk)]
   ·have:(j==p.1)=false:=by simpa using h
    rw [this];exact ih
theorem Qm{l:List (Sl Int)}(h:yq n k l=true)(ht:l[i]?=some t):t.l.length=k/\jo n t.l=true:=by
 have:=yy h (kg.1 ht).1;unfold lU at this;rw [ht] at this;simp only [and_eq_true,decide_eq_true_eq] at this;exact ⟨this.1,this.2.1⟩
theorem rV{α β:Type}{enc:α->List AV}{lH:β->List AV}{h:Heap}:∀ {l:List (α×β)},(∀ p ∈ l,lF true h (enc p.1) (lH p.2))->lF true h (l.flatMap fun p=>enc p.1) (l.flatMap fun p=>lH p.2)
 |[],_=>.nil
 |p :: l,hp=>by
  rw [flatMap_cons,flatMap_cons];exact lF.append (hp p mem_cons_self) (rV fun q hq=>hp q (mem_cons_of_mem _ hq))
structure jy {α β:Type} (X:Nat->Prop) (enc:α->List AV) (lH:β->List AV) (sz k:Nat) (h:Heap) (a:AV) (l:List (α×β)):Prop where
 own:Own enc sz k h a (l.map (·.1))
 yM:∀ p ∈ l,∀ h',(∀ b,k<=b->b<h.next->¬ X b->cz a≠some b->h'.get b=h.get b)->lF true h' (enc p.1) (lH p.2)
 av:∀ b,cz a=some b->¬ X b
section
variable {α β:Type} {X:Nat->Prop} {enc:α->List AV} {lH:β->List AV} {sz k:Nat} {h h':Heap} {a:AV} {l:List (α×β)}
theorem jy.nil:jy X enc lH sz k h .ax []:=⟨.nil,fun p hp=>(by cases hp),fun b hb=>(by cases hb)⟩
theorem Own.agree{enc:α->List AV}{h':Heap}{l:List α}(o:Own enc sz k h a l)(hb:∀ b,cz a=some b->h'.get b=h.get b)(hn:h.next<=h'.next):Own enc sz k h' a l:=by
 cases o with
 |nil=>exact .nil
 |row b l h1 h2 h3=>exact .row b _ h1 (Nat.lt_of_lt_of_le h2 hn) (by rw [hb b rfl];exact h3)
theorem jy.gj(o:jy X enc lH sz k h a l)(hb:∀ b,k<=b->b<h.next->¬ X b->h'.get b=h.get b)(hn:h.next<=h'.next):jy X enc lH sz k h' a l:=
 ⟨o.own.agree (fun b e=>hb b (o.own.ge e) (o.own.lt e) (o.av b e)) hn,fun p hp h2 hh=>o.yM p hp h2 fun b b1 b2 b3 b4=>by rw [hh b b1 (Nat.lt_of_lt_of_le b2 hn) b3 b4,hb b b1 b2 b3],o.av⟩
theorem jy.ext(o:jy X enc lH sz k h a l)(hx:bA h h'):jy X enc lH sz k h' a l:=o.gj (fun b _ b2 _=>hx.get b b2) hx.next
theorem jy.low(o:jy X enc lH sz k h a l){d:Nat}(hd:d<k)(x:jV):jy X enc lH sz k (h.set d x) a l:=
 o.gj (fun b b1 _ _=>by rw [Heap.aN,if_neg (by omega)]) (by rw [Heap.bt];exact dM _)
theorem jy.aeE(o:jy X enc lH sz k h a l){d:Nat}(hd:X d)(x:jV):jy X enc lH sz k (h.set d x) a l:=
 o.gj (fun b b1 _ b3=>by rw [Heap.aN,if_neg (fun e=>b3 (by rw [e];exact hd))]) (by rw [Heap.bt];exact dM _)
theorem jy.C6(o:jy X enc lH sz k h a l){j:Nat}(hj:j<=k):jy X enc lH sz j h a l:=
 ⟨o.own.C6 hj,fun p hp h2 hh=>o.yM p hp h2 fun b b1 b2 b3 b4=>hh b (Nat.le_trans hj b1) b2 b3 b4,o.av⟩
theorem jy.aeF(o:jy (fun _=>False) enc lH sz k h a l)(hx:bA h h'){Y:Nat->Prop}(hY:∀ b,Y b->h.next<=b):jy Y enc lH sz k h' a l:=
 ⟨o.own.ext hx,fun p hp h2 hh=>o.yM p hp h2 fun b b1 b2 _ b4=>by rw [hh b b1 (Nat.lt_of_lt_of_le b2 hx.next) (fun y=>by have:=hY b y;omega) b4,hx.get b b2],fun b e y=>by have:=hY b y;have:=o.own.lt e;omega⟩
theorem jy.push(o:jy X enc lH sz k h a l)(he:∀ x,(enc x).length=sz)(h1:∀ x,bw (enc x)=true)(hk:k<=h.next){bytes:Nat}(hroom:(l.length+1)*bytes<=cG)(v:α)(w:β)(hX:∀ b,X b->b<h.next)
  (hf:∀ h',(∀ b,k<=b->b<h.next->¬ X b->cz a≠some b->h'.get b=h.get b)->lF true h' (enc v) (lH w)) :
  ∃ a' h',b6 sz bytes a (.slice h.next 0 1 sz) (h.alloc (.cells (enc v)))=some (a',h')/\jy X enc lH sz k h' a' (l++[(v,w)])/\(∀ c,c<h.next->cz a≠some c->h'.get c=h.get c)/\h.next<=h'.next/\(∀ h0,bA h0 h->h0.next<=k->bA h0 h')/\∀ c,cz a'=some c->h.next<=c:=by
 obtain ⟨a',h',e1,o1,f1,n1,x1,b1⟩:=o.own.push he h1 hk (bytes:=bytes) (by simpa using hroom) v;refine ⟨a',h',e1,⟨by rw [map_append];exact o1,fun p hp h2 hh=>?_,fun b e x=>by have:=b1 b e;have:=hX b x;omega⟩,f1,n1,x1,b1⟩
 have xg:∀ b,k<=b->b<h.next->¬ X b->cz a≠some b->h2.get b=h.get b:=fun b c1 c2 c3 c4=>by
  rw [hh b c1 (by omega) c3 (fun e=>by have:=b1 b e;omega),f1 b c2 c4]
 rcases mem_append.1 hp with hp|hp
 ·exact o.yM p hp h2 xg
 ·rw [mem_singleton] at hp;subst hp;exact hf h2 xg
theorem jy.data(o:jy X enc lH sz k h a l):∃ x:Sl β,x.l=l.map (·.2)/\∀ h2,(∀ b,k<=b->b<h.next->¬ X b->h2.get b=h.get b)->Fz true h2 a (ak lH sz x):=by
 obtain ⟨ow,fr,av⟩:=o;generalize hm:l.map (·.1)=m at ow
 cases ow with
 |nil=>
  have:l = []:=by simpa using hm
  subst this;exact ⟨none,rfl,fun h2 _=>.dP rfl⟩
 |row b m h1 h2 h3=>
  subst hm;refine ⟨some (l.map (·.2)),rfl,fun g hg=>?_⟩;have fl:lF true g (l.flatMap fun p=>enc p.1) (l.flatMap fun p=>lH p.2):=rV fun p hp=>fr p hp g fun c c1 c2 c3 c4=>hg c c1 c2 c3;have e1:(l.map (·.1)).flatMap enc=l.flatMap fun p=>enc p.1:=by rw [flatMap_map]
  have e2:(l.map (·.2)).flatMap lH=l.flatMap fun p=>lH p.2:=by rw [flatMap_map]
  have:ak lH sz (some (l.map (·.2))) = .au (l.flatMap fun p=>lH p.2) 0 l.length sz:=by simp only [ak,e2,length_map]
  rw [this,length_map];exact .slice b 0 l.length sz _ _ (by rw [hg b h1 h2 (av b rfl),h3,e1]) fl.len fl.rel
theorem jy.fz(o:jy X enc lH sz k h a l):∃ x:Sl β,x.l=l.map (·.2)/\Fz true h a (ak lH sz x):=by
 obtain ⟨x,h1,h2⟩:=o.data;exact ⟨x,h1,h2 h fun _ _ _ _=>rfl⟩
end
def NL:={ v:AV // bw [v]=true/\v.dy = [v] }
abbrev vu:=b7×Int×NL
def gX(r:vu):List AV:=[.str r.1,.int .i64 r.2.1,r.2.2.1]
theorem lE(r:vu):(gX r).length=3:=rfl
theorem uR(r:vu):bw (gX r)=true:=by
 have:=r.2.2.2.1;unfold gX;simp only [bw,Bool.and_true] at this ⊢;rw [this];rfl
theorem mP{enc:α->List AV}{l:List α}(o:Own enc sz k h a l):bw [a]=true/\a.dy = [a]:=by cases o<;>exact ⟨rfl,rfl⟩
theorem KV(r:vu):fS [.str [],.int .i64 0,.ax] [(0,3)] [.agg (gX r)]=some (gX r):=by
 have ho:=uR r
 have hf:og [.str [],.int .i64 0,.ax] [(0,3)] [.agg (gX r)]=some (gX r):=by
  have hc:AV.dy (.agg (gX r))=gX r:=rfl;have hp:ei [.str [],.int .i64 0,.ax] 0 (gX r)=gX r:=rfl;simp only [og,hc,hp,ho,lE];rfl
 unfold fS;rw [hf];simp only [ho,if_true]
abbrev Qn(X:Nat->Prop)(k:Nat)(h:Heap)(a:AV)(l:List (vu×Rel)):Prop:=jy X gX aQ 3 k h a l
theorem KW{k:Int}{v:NL}{x:Sl (Sl Int)}(hf:Fz true h v.1 (ak cU 1 x)):lF true h (gX (nm,k,v)) (aQ ⟨nm,k,x⟩):=
 .cons (.scalar _ rfl) (.cons (.scalar _ rfl) (.cons hf .nil))
theorem Hi(d:TypeId){enc:α->List AV}(x:Sl α):jA (.slice d) (ak enc sz x) .ax=some (.bool (match x with|none=>true|some _=>false)):=by cases x<;>rfl
theorem Mx(y:Sl Int):fS [.ax] [(0,1)] [ak encI 1 y]=some (cU y):=by cases y<;>rfl
theorem DA(y:Sl Int):bw (cU y)=true:=by cases y<;>rfl
theorem jy.zJ{enc:α->List AV}{l:List α}(o:Own enc sz k h a l)(hf:∀ v,AV.cN (enc v)=true):jy (fun _=>False) enc enc sz k h a (l.map fun v=>(v,v)):=
 ⟨by rw [List.map_map];simpa [Function.comp_def] using o,fun p hp h' _=>by
  obtain ⟨v,_,rfl⟩:=mem_map.1 hp
  exact .dP (hf v),fun _ _ h=>h⟩
theorem nJ(ht:t.l.length<=1000000)(hK:∀ y:Sl Int,y.l=t.l->K (.ret (ak encI 1 y)) h=true):Sem TP 49 [ak encI 1 t] h K:=by
 have main:Sem TP 49 [ak encI 1 t] Heap.empty (fun o h'=>yes (∃ v,∃ y:Sl Int,o = .ret v/\y.l=t.l/\Fz true h' v (ak encI 1 y))):=by
  refine F.jP ?_;rw [F.kj];simp only [Hi,aR,reduceAdd,reduceEqDiff,reduceIte]
  cases t with
  |none=>simp only [aK];exact ct.2 ⟨_,none,rfl,rfl,.dP rfl⟩
  |some l=>
   obtain ⟨b,h',a1,a2,_,_,_⟩:=zH (uK mT (some l) (Heap.empty.alloc (.cells []))) ht;simp only [aJ,uQ,aq,a1,iZ];exact ct.2 ⟨_,some l,rfl,rfl,ym a2⟩
 refine main.frozen (by simp [AV.cN,cc j4]) fun o h' ho=>?_;obtain ⟨v,y,rfl,hy,hf⟩:=ct.1 ho;exact ⟨v,_,rfl,hf,hK y hy⟩
theorem FV(s:St):dw TP s Tryz.f46.results.toList=(match ag (some 2) (s.env 2) s.h,(some []:Option (List AV)) with|some v,some vs=>some (v :: vs)|_,_=>none):=by kernel_rfl
set_option maxHeartbeats 2000000 in
theorem cJ{s:cD}(hs:s.small){h:Heap}{K:Out->Heap->Bool}(hK:∀ a h' l,bA h h'->Qn (fun _=>False) h.next h' a l->(l.map fun p=>bX p.2)=s.aE.l.map bX->K (.ret (.agg [.int .i64 s.size,a])) h'=true):Sem TP 46 [.agg (an s)] h K:=by
 have hm:cG=140737488355328:=rfl;have hbig:=hs.Ws;refine F.tj ?_;rw [F.vN];simp only [cY (cp s),aq,Heap.aL];have g0:(Heap.alloc (Heap.alloc h (.cells (an s))) (.cells [.int .i64 0,.ax])).get h.next=some (.cells (an s)):=by rw [Heap.aU,Heap.aL,if_neg (by omega)];exact aB _ _
 have g1:(Heap.alloc (Heap.alloc h (.cells (an s))) (.cells [.int .i64 0,.ax])).get (h.next+1)=some (.cells [.int .i64 0,.ax]):=aB _ _;have gn:(Heap.alloc (Heap.alloc h (.cells (an s))) (.cells [.int .i64 0,.ax])).next=h.next+2:=rfl
 have gx:bA h (Heap.alloc (Heap.alloc h (.cells (an s))) (.cells [.int .i64 0,.ax])):=(bA.alloc _ _).trans (bA.alloc _ _);generalize (Heap.alloc (Heap.alloc h (.cells (an s))) (.cells [.int .i64 0,.ax]))=H1 at g0 g1 gn gx ⊢;have lz:ag none (.ptr h.next 0) H1=some (.int .i64 s.size):=by rw [aj g0];rfl
 have ha:iy [.int .i64 0,.ax] [(0,1)] [.int .i64 s.size]=some (.agg [.int .i64 s.size,.ax]):=rfl;obtain ⟨H2,qH,p2,po,pn⟩:=cu (h:=H1) (zs:=[.int .i64 0,.ax]) (cs:=[.int .i64 s.size,.ax]) (n:=2) rfl rfl rfl;rw [gn] at p2 po pn qH;have p0:H2.get h.next=some (.cells (an s)):=by rw [po _ (by omega)];exact g0
 have p1:H2.get (h.next+1)=some (.cells [.int .i64 0,.ax]):=by rw [po _ (by omega)];exact g1
 have px:bA h H2:=⟨by omega,fun b hb=>by rw [po _ (by omega)];exact gx.get b hb⟩
 have lr:ag none (.ptr h.next 1) H2=some (ak aQ 3 s.aE):=by rw [aj p0];rfl
 simp only [aR,reduceAdd,reduceEqDiff,reduceIte,lz,ha,gn,qH,lr]
 refine aD 0 s.aE.l.length (zero_le _) (fun i e h'=>∃ a l,h'.get (h.next+1)=some (.cells [.int .i64 0,.ax])/\h'.get (h.next+2)=some (.cells [.int .i64 s.size,a])/\Qn (fun _=>False) (h.next+3) h' a l/\(l.map fun p=>bX p.2)=(s.aE.l.take i).map bX/\bA h h'/\h.next+3<=h'.next /\
  e 2 = .ptr (h.next+1) 0/\e 3 = .ptr (h.next+2) 0/\e 13=ak aQ 3 s.aE/\e 14 = .int .i64 (s.aE.l.length:Int)/\e 15 = .int .i64 (i:Int)) ⟨_,[],p1,p2,.nil,rfl,px,by omega,rfl,rfl,rfl,rfl,rfl⟩ ?_ ?_
 ·rintro i e h' _ hi ⟨a,l,q1,q2,o,hl,qx,qn,e2,e3,pQ,oK,nQ⟩ K' hn fW hr hp;have hv:s.aE.l[i]?=some s.aE.l[i]:=eA hi;generalize s.aE.l[i]=r at hv;have nR:=ig hv;have PW:l.length=i:=by have:=congrArg List.length hl;rw [length_map,length_map,length_take,Nat.min_eq_left (by omega)] at this;exact this
  obtain ⟨H3,LV,p3,Qo,TH⟩:=cu (h:=h') (zs:=[.str [],.int .i64 0,.ax]) (cs:=aQ r) (n:=3) rfl rfl (fP r);have xg:iy [.str [],.int .i64 0,.ax] [(0,1),(1,1)] [.str r.name,.int .i64 r.arity]=some (.agg [.str r.name,.int .i64 r.arity,.ax]):=rfl;have l0:ag none (.ptr h'.next 0) H3=some (.str r.name):=by rw [aj p3];rfl
  have l1:ag none (.ptr h'.next 1) H3=some (.int .i64 r.arity):=by rw [aj p3];rfl
  obtain ⟨H4,Oy,p4,KX,Wt⟩:=cu (h:=H3) (zs:=[.str [],.int .i64 0,.ax]) (cs:=[.str r.name,.int .i64 r.arity,.ax]) (n:=3) rfl rfl rfl;rw [TH] at Oy p4 KX Wt;have x4:bA h' H4:=⟨by omega,fun b hb=>by rw [KX b (by omega),Qo b (by omega)]⟩
  have l2:ag none (.ptr h'.next 2) H4=some (ak cU 1 r.aM):=by rw [aj (show H4.get h'.next=some (.cells (aQ r)) by rw [KX _ (by omega)];exact p3)];rfl
  have Dz:=hs.Hg r nR;have XE:r.aM.l.length<=cM:=by unfold cM;omega
  rw [F.cJ.aT];simp only [pQ,oK,nQ,aR,reduceAdd,reduceEqDiff,reduceIte,bh hi,aV s.aE hi,dF dR hv,LV];simp only [aR,reduceAdd,reduceEqDiff,reduceIte,l0,l1,xg,TH,Oy,l2]
  refine aD 0 r.aM.l.length (zero_le _) (fun j e h2=>∃ tv ts,h2.get (h'.next+1)=some (.cells [.str r.name,.int .i64 r.arity,tv])/\Own cU 1 (h'.next+2) h2 tv ts/\ts.map Sl.l=(r.aM.l.take j).map Sl.l/\bA h' h2/\h'.next+2<=h2.next /\
   e 2 = .ptr (h.next+1) 0/\e 3 = .ptr (h.next+2) 0/\e 13=ak aQ 3 s.aE/\e 14 = .int .i64 (s.aE.l.length:Int)/\e 15 = .int .i64 (i:Int)/\e 6 = .ptr (h'.next+1) 0/\e 25=ak cU 1 r.aM/\e 26 = .int .i64 (r.aM.l.length:Int)/\e 27 = .int .i64 (j:Int))
   ⟨_,[],p4,.nil,rfl,x4,by omega,e2,e3,pQ,oK,nQ,rfl,rfl,rfl,rfl⟩ ?_ ?_
  ·rintro j e h2 _ hj ⟨tv,ts,q6,ot,DC,x2,Qp,e2,e3,pQ,oK,nQ,e6,KY,BF,BG⟩ K2 uO gi rN FD;have Hj:r.aM.l[j]?=some r.aM.l[j]:=eA hj;generalize r.aM.l[j]=t at Hj;have abq:ts.length=j:=by have:=congrArg List.length DC;rw [length_map,length_map,length_take,Nat.min_eq_left (by omega)] at this;exact this
   have lt:ag none (.ptr (h'.next+1) 2) h2=some tv:=by rw [aj q6];rfl
   rw [F.cJ.dh];simp only [e6,KY,BF,BG,aR,reduceAdd,reduceEqDiff,reduceIte,bh hj,aV r.aM hj,ic Hj,lt];refine ah (nJ (by have:=hs.XD r nR t (ig Hj);omega) fun y hy=>?_);obtain ⟨a5,h5,c5,o5,f5,n5,w5,b5⟩:=ot.push qt DA Qp (bytes:=24) (by rw [hm];omega) y;have hne:cz tv≠some (h'.next+1):=fun hb=>by have:=ot.ge hb;omega
   have s6:h5.get (h'.next+1)=some (.cells [.str r.name,.int .i64 r.arity,tv]):=by rw [f5 _ (by omega) hne];exact q6
   have c6:=o5.kH
   have st:aY 1 (.ptr (h'.next+1) 2) a5 h5=some (h5.set (h'.next+1) (.cells [.str r.name,.int .i64 r.arity,a5])):=by
    rw [cF (n:=1) s6 c6.2.1 c6.1 (by simp),c6.2.2];rfl
   simp only [aR,reduceAdd,reduceEqDiff,reduceIte,lt,AV.beq_refl,Bool.and_self,if_true,Mx,c5,e6,BG,st,aI hj XE];refine uO _ _ ⟨a5,ts++[y],by rw [Heap.aN,if_pos rfl],o5.kE (by omega) _,?_,(w5 h' x2 (by omega)).set (by omega) _,by rw [Heap.bt];omega,e2,e3,pQ,oK,nQ,e6,KY,BF,rfl⟩;rw [map_append,DC,take_add_one,Hj,map_append];simp [hy]
  ·rintro e h2 ⟨tv,ts,q6,ot,DC,x2,Qp,e2,e3,pQ,oK,nQ,e6,KY,BF,BG⟩ K2 gi;rw [kf (dM _)] at DC;have o2:=o.ext x2;obtain ⟨BH,JT⟩:=mP ot;have lq:ag (some 3) (.ptr (h'.next+1) 0) h2=some (.agg (gX (r.name,r.arity,⟨tv,BH,JT⟩))):=by rw [aj q6];rfl
   have lo:ag none (.ptr (h.next+2) 1) h2=some a:=by rw [aj (show h2.get (h.next+2)=some (.cells [.int .i64 s.size,a]) by rw [x2.get _ (by omega)];exact q2)];rfl
   obtain ⟨x,jG,KR⟩:=(jy.zJ ot mH).data;have I2:x.l=ts:=by rw [jG,List.map_map];simp [Function.comp_def]
   obtain ⟨a5,h5,c5,o5,f5,n5,w5,b5⟩:=o2.push lE uR (by omega) (bytes:=48) (by have:=hs.aE;rw [hm];omega) (r.name,r.arity,⟨tv,BH,JT⟩) ⟨r.name,r.arity,x⟩ (fun _ h=>h.elim)
    (fun g hg=>KW (KR g fun b b1 b2 _=>hg b (by omega) b2 (fun h=>h) (fun hb=>by have:=o.own.lt hb;omega)))
   have hne:cz a≠some (h.next+2):=fun hb=>by have:=o.own.ge hb;omega
   have Wu:cz a≠some (h.next+1):=fun hb=>by have:=o.own.ge hb;omega
   have s2:h5.get (h.next+2)=some (.cells [.int .i64 s.size,a]):=by rw [f5 _ (by omega) hne,x2.get _ (by omega)];exact q2
   have s1:h5.get (h.next+1)=some (.cells [.int .i64 0,.ax]):=by rw [f5 _ (by omega) Wu,x2.get _ (by omega)];exact q1
   have c6:=o5.own.kH
   have st:aY 1 (.ptr (h.next+2) 1) a5 h5=some (h5.set (h.next+2) (.cells [.int .i64 s.size,a5])):=by
    rw [cF (n:=1) s2 c6.2.1 c6.1 (by simp),c6.2.2];rfl
   rw [F.cJ.dh];simp only [BF,BG,aR,reduceAdd,reduceEqDiff,reduceIte,aW];rw [gi,F.cJ.cx];simp only [aR,reduceAdd,reduceEqDiff,reduceIte,e3,e6,nQ,lo,lq,KV,c5,st,aI hi hbig];refine hn _ _ ⟨a5,_,?_,?_,o5.low (by omega) _,?_,(w5 h (qx.trans x2) (by omega)).set (by omega) _,by rw [Heap.bt];omega,e2,e3,pQ,oK,rfl⟩
   ·rw [Heap.aN,if_neg (by omega)];exact s1
   ·rw [Heap.aN,if_pos rfl]
   ·rw [map_append,hl,take_add_one,hv,map_append];simp [bX,I2,DC]
 ·rintro e h' ⟨a,l,q1,q2,o,hl,qx,qn,e2,e3,pQ,oK,nQ⟩ K' fW;rw [kf (dM _)] at hl;have lo:ag (some 2) (.ptr (h.next+2) 0) h'=some (.agg [.int .i64 s.size,a]):=by rw [aj q2];rfl
  have c:=o.own.kH
  have Bi:bw [.int .i64 s.size,a]=true:=by
   have:=c.1;rw [c.2.2] at this;simp only [bw,Bool.and_true] at this ⊢;rw [this];rfl
  have st:aY 2 (.ptr (h.next+1) 0) (.agg [.int .i64 s.size,a]) h'=some (h'.set (h.next+1) (.cells [.int .i64 s.size,a])):=by
   rw [cF (n:=2) (v:=.agg [.int .i64 s.size,a]) q1 rfl Bi (by simp)];rfl
  have Qk:ag (some 2) (.ptr (h.next+1) 0) (h'.set (h.next+1) (.cells [.int .i64 s.size,a]))=some (.agg [.int .i64 s.size,a]):=by rw [aj (cs:=[.int .i64 s.size,a]) (by rw [Heap.aN,if_pos rfl])];rfl
  rw [F.cJ.aT];simp only [oK,nQ,aR,reduceAdd,reduceEqDiff,reduceIte,aW];rw [fW,F.cJ.aG];simp only [bK,reduceEqDiff,reduceIte,e2,e3,lo,st,aq,FV,Qk,oneOf];exact hK a _ l (qx.set (by omega) _) ((o.low (by omega) _).C6 (by omega)) hl
abbrev Lk:=b7->Nat->Bool
def Jm(n:Nat)(L:Lk)(r:aO)(vs:List Int):Bool:=r.body.l.all fun c=>iR n L c (ep vs (eN r c))
def FW(n:Nat)(r:aO)(vs:List Int):Nat:=nc n (ep vs (placesOf (varsOf r) r.args.l))
def Hw(n:Nat)(r:aO)(vs:List Int):Prop:=vs.length=(varsOf r).length/\jo n vs=true
def lZ(n:Nat)(rs:List aO)(L:Lk):Prop:=∀ r ∈ rs,∀ vs,Hw n r vs->Jm n L r vs=true->L r.name (FW n r vs)=true
structure Over (rs:List aO) (L C:Lk):Prop where
 le:∀ nm k,L nm k=true->C nm k=true
 off:∀ nm,(∀ r ∈ rs,r.name≠nm)->∀ k,C nm k=L nm k
structure nK (n:Nat) (rs:List aO) (L L':Lk):Prop where
 over:Over rs L L'
 closed:lZ n rs L'
 least:∀ C,Over rs L C->lZ n rs C->∀ nm k,L' nm k=true->C nm k=true
theorem Over.refl(rs:List aO)(L:Lk):Over rs L L:=⟨fun _ _ h=>h,fun _ _ _=>rfl⟩
theorem nK.unique{L A B:Lk}(h:nK n rs L A)(g:nK n rs L B):A=B:=by
 funext nm k;rw [Bool.eq_iff_iff];exact ⟨h.least B g.over g.closed nm k,g.least A h.over h.closed nm k⟩
def DD(rs:List aO):Prop:=∀ r ∈ rs,∀ c ∈ r.body.l,c.kind=0->c.neg=true->∀ q ∈ rs,q.name≠c.name
theorem FX{A C:Lk}(hs:DD rs)(hle:∀ nm k,A nm k=true->C nm k=true)(aeG:∀ nm,(∀ r ∈ rs,r.name≠nm)->∀ k,C nm k=A nm k)(hr:r ∈ rs){c:eO}(hc:c ∈ r.body.l){t:List Int}(h:iR n A c t=true):iR n C c t=true:=by
 unfold iR at h ⊢;by_cases k0:c.kind=0
 ·rw [if_pos k0] at h ⊢
  cases hn:c.neg with
  |false=>
   rw [hn] at h;have:A c.name (nc n t)=true:=by simpa using h
   rw [hle _ _ this];rfl
  |true=>
   rw [hn] at h;rw [aeG c.name (fun q hq=>hs r hr c hc k0 hn q hq)];exact h
 ·rw [if_neg k0] at h ⊢;exact h
inductive mo (n:Nat) (rs:List aO) (lv:ew.Lv) (L0:Lk):Nat->Lk->Prop
 |zero:mo n rs lv L0 0 L0
 |succ (l:Nat) (L L':Lk):mo n rs lv L0 l L->nK n (gw lv rs l) L L'->mo n rs lv L0 (l+1) L'
theorem mo.unique{n:Nat}{rs:List aO}{lv:ew.Lv}{L0:Lk}:∀ {l:Nat} {A B:Lk},mo n rs lv L0 l A->mo n rs lv L0 l B->A=B
 |0,A,B,h,g=>by cases h;cases g;rfl
 |l+1,A,B,h,g=>by
  cases h with
  |succ _ La _ ha la=>
   cases g with
   |succ _ Lb _ hb lb=>
    obtain rfl:=mo.unique ha hb;exact la.unique lb
theorem nK.nil{L:Lk}:nK n [] L L:=⟨.refl _ _,fun r hr=>(by cases hr),fun C ho _ nm k h=>ho.le nm k h⟩
theorem Hl{l:Nat}(h:∀ r ∈ rs,lv r.name<l):gw lv rs l = []:=by
 unfold gw;rw [filter_eq_nil_iff];intro r hr;have:=h r hr;simp;omega
theorem mo.more{n:Nat}{rs:List aO}{lv:ew.Lv}{L0:Lk}{t:Nat}{L:Lk}(h:mo n rs lv L0 t L)(ht:∀ r ∈ rs,lv r.name<t):∀ d,mo n rs lv L0 (t+d) L
 |0=>h
 |d+1=>by
  refine .succ (t+d) L L (mo.more h ht d) ?_;rw [Hl fun r hr=>by have:=ht r hr;omega];exact .nil
theorem mo.same{L0:Lk}{s t:Nat}{A B:Lk}(h:mo n rs lv L0 s A)(g:mo n rs lv L0 t B)(hs:∀ r ∈ rs,lv r.name<s)(ht:∀ r ∈ rs,lv r.name<t):A=B:=by
 have h1:=h.more hs t;have g1:=g.more ht s;rw [Nat.add_comm t s] at g1;exact h1.unique g1
def My(rs:List aO)(lv:ew.Lv):Prop:=∀ r ∈ rs,∀ c ∈ r.body.l,c.kind=0->(∃ q ∈ rs,q.name=c.name)->lv c.name+(if c.neg=true then 1 else 0)<=lv r.name
theorem My.abr(h:My rs lv)(l:Nat):DD (gw lv rs l):=by
 intro r hr c hc k0 hn q hq e;unfold gw at hr hq;simp only [mem_filter,decide_eq_true_eq] at hr hq;have:=h r hr.1 c hc k0 ⟨q,hq.1,e⟩;rw [hn,if_pos rfl,<- e,hq.2,hr.2] at this;omega
theorem Az{l:Nat}:r ∈ gw lv rs l↔r ∈ rs/\lv r.name=l:=by
 unfold gw;simp [mem_filter]
theorem zK{p:Nat×List Bool}(hp:D nm=some p){rk:Nat}(EP:rk<p.2.length)(x:b7)(k:Nat):eP (kO D nm p.1 (p.2.set rk true)) x k=(eP D x k||(decide (x=nm)&&decide (k=rk))):=by
 unfold eP kO;by_cases hx:x=nm
 ·subst hx;rw [if_pos rfl,hp];simp only [decide_true,Bool.true_and];by_cases hk:k=rk
  ·subst hk;rw [getD_eq_getElem?_getD,getElem?_set,if_pos rfl,if_pos EP];simp
  ·rw [getD_eq_getElem?_getD,getElem?_set,if_neg (fun e=>hk e.symm),<- getD_eq_getElem?_getD,eR hk,Bool.or_false]
 ·rw [if_neg hx,eR hx,Bool.false_and,Bool.or_false]
theorem Wv(a b:Int):a<=Mp a b/\b<=Mp a b:=by unfold Mp;split<;>omega
theorem wW:∀ (ps:List Nat) (a:Int),a<=ps.foldl (fun a (p:Nat)=>Mp a (p:Int)) a/\∀ p ∈ ps,(p:Int)<=ps.foldl (fun a (p:Nat)=>Mp a (p:Int)) a
 |[],a=>⟨Int.le_refl _,fun p hp=>by cases hp⟩
 |q :: ps,a=>by
  have h:=wW ps (Mp a (q:Int));have g:=Wv a (q:Int);refine ⟨by simp only [foldl_cons];omega,fun p hp=>?_⟩;simp only [foldl_cons];rcases mem_cons.1 hp with rfl|hp
  ·omega
  ·exact h.2 p hp
theorem DE{p:Nat}(hp:p ∈ ps):(p:Int)<=iE ps:=(wW ps (-1)).2 p hp
theorem Qq(h:∀ p ∈ ps,p<k):iE ps<(k:Int):=by
 unfold iE
 have:∀ (ps:List Nat) (a:Int),a<(k:Int)->(∀ p ∈ ps,p<k)->ps.foldl (fun a (p:Nat)=>Mp a (p:Int)) a<(k:Int):=by
  intro ps
  induction ps with
  |nil=>intro a ha _;exact ha
  |cons q ps ih=>
   intro a ha hq;simp only [foldl_cons];refine ih _ ?_ fun p hp=>hq p (mem_cons_of_mem _ hp);have:=hq q mem_cons_self;unfold Mp;split<;>omega
 exact this ps (-1) (by omega) h
theorem NM(ps:List Nat):-1<=iE ps:=(wW ps (-1)).1
theorem yz{a b:List Int}(h:∀ p ∈ ps,a.getD p 0=b.getD p 0):ep a ps=ep b ps:=by
 unfold ep;exact map_congr_left h
theorem TI{c:eO}(hc:c ∈ r.body.l):iE (eN r c)<((varsOf r).length:Int):=Qq (qu (zB hc))
theorem getD_set_ne{a:List Int}(h:i≠v)(x:Int):(a.set v x).getD i 0=a.getD i 0:=by
 rw [getD_eq_getElem?_getD,getElem?_set,if_neg (fun e=>h e.symm),<- getD_eq_getElem?_getD]
theorem Jn{a:List Int}(h:v<a.length)(x:Int):(a.set v x).getD v 0=x:=by
 rw [getD_eq_getElem?_getD,getElem?_set,if_pos rfl,if_pos h];rfl
theorem uS{L:Lk}{u:Int}:Bg n L r vs u=true↔∀ c ∈ r.body.l,iE (eN r c)=u->iR n L c (ep vs (eN r c))=true:=by
 unfold Bg;rw [List.all_eq_true];refine ⟨fun h c hc e=>?_,fun h c hc=>?_⟩
 ·have:=h c hc;rw [fy e] at this;exact this
 ·by_cases e:iE (eN r c)=u
  ·rw [h c hc e,Bool.or_true]
  ·rw [eR e];rfl
structure Mid (rs:List aO) (L C:Lk) (s:DB×Bool):Prop where
 over:Over rs L (eP s.1)
 le:∀ nm k,eP s.1 nm k=true->C nm k=true
theorem Mid.off{rs:List aO}{L C:Lk}{s:DB×Bool}(m:Mid rs L C s)(hC:Over rs L C):∀ nm,(∀ r ∈ rs,r.name≠nm)->∀ k,C nm k=eP s.1 nm k:=fun nm hn k=>by rw [hC.off nm hn,m.over.off nm hn]
theorem TJ{L C:Lk}(hcl:lZ n rs C)(hr:r ∈ rs)(ha:Hw n r vs)(yA:Jm n C r vs=true)(hh:∀ p,s.1 r.name=some p->p.2.length=n ^ r.args.l.length)(m:Mid rs L C s):Mid rs L C (sr n r vs s):=by
 unfold sr
 cases hp:s.1 r.name with
 |none=>exact m
 |some p=>
  simp only;split
  ·exact m
  ·have sI:∀ p ∈ placesOf (varsOf r) r.args.l,p<vs.length:=by rw [ha.1];exact qu uL
   have qv:(placesOf (varsOf r) r.args.l).length=r.args.l.length:=by unfold placesOf;simp
   have EP:nc n (ep vs (placesOf (varsOf r) r.args.l))<p.2.length:=by
    have:=wP (uN ha.2 sI);rw [rD,qv] at this;rw [hh p hp];exact this
   have hC:=hcl r hr vs ha yA;unfold FW at hC;refine ⟨⟨fun nm k h=>?_,fun nm hn k=>?_⟩,fun nm k h=>?_⟩
   ·simp only [zK hp EP,m.over.le nm k h,Bool.true_or]
   ·simp only [zK hp EP,eR (fun e:nm=r.name=>hn r hr e.symm),Bool.false_and,Bool.or_false];exact m.over.off nm hn k
   ·simp only [zK hp EP,or_eq_true,and_eq_true,decide_eq_true_eq] at h;rcases h with h|⟨rfl,rfl⟩
    ·exact m.le nm k h
    ·exact hC
theorem Mz{N:Nat}(h:∀ p,s.1 nm=some p->p.2.length=N):∀ p,(sr n r vs s).1 nm=some p->p.2.length=N:=by
 intro p hp;unfold sr at hp
 cases hq:s.1 r.name with
 |none=>rw [hq] at hp;exact h p hp
 |some q=>
  rw [hq] at hp;simp only at hp;split at hp
  ·exact h p hp
  ·unfold kO at hp;simp only at hp;split at hp
   ·rename_i e;subst e;cases hp;simp only [length_set];exact h q hq
   ·exact h p hp
theorem FY{n:Nat}{rs:List aO}{L C:Lk}(hs:DD rs)(hC:Over rs L C)(hcl:lZ n rs C){r:aO}(hr:r ∈ rs):∀ (m v:Nat) (vs:List Int) (s:DB×Bool),v+m=(varsOf r).length->Hw n r vs->Mid rs L C s->(∀ p,s.1 r.name=some p->p.2.length=n ^ r.args.l.length) ->
  (∀ c ∈ r.body.l,iE (eN r c)<(v:Int)->iR n C c (ep vs (eN r c))=true) ->
  Mid rs L C (ij (fun s=>s.1) (sr n r) n r m v vs s).2/\(∀ p,(ij (fun s=>s.1) (sr n r) n r m v vs s).2.1 r.name=some p->p.2.length=n ^ r.args.l.length)/\Hw n r (ij (fun s=>s.1) (sr n r) n r m v vs s).1/\∀ i,i<v->(ij (fun s=>s.1) (sr n r) n r m v vs s).1.getD i 0=vs.getD i 0
 |0,v,vs,s,hv,ha,hm,hl,hc=>by
  refine ⟨TJ hcl hr ha ?_ hl hm,Mz hl,ha,fun _ _=>rfl⟩;unfold Jm;rw [List.all_eq_true];intro c G5;refine hc c G5 ?_;have:=TI G5;omega
 |m+1,v,vs,s,hv,ha,hm,hl,hc=>by
  refine ju (P:=fun (a:List Int×(DB×Bool))=>Mid rs L C a.2/\(∀ p,a.2.1 r.name=some p->p.2.length=n ^ r.args.l.length)/\Hw n r a.1/\∀ i,i<v->a.1.getD i 0=vs.getD i 0) ⟨hm,hl,ha,fun _ _=>rfl⟩ fun a x hx hP=>?_;obtain ⟨p1,p2,p3,p4⟩:=hP;have UT:=mem_range.1 hx;have Qg:Hw n r (a.1.set v (x:Int)):=⟨by rw [length_set];exact p3.1,rE p3.2 v UT⟩
  have xg:∀ i,i<v->(a.1.set v (x:Int)).getD i 0=vs.getD i 0:=fun i hi=>by rw [getD_set_ne (by omega)];exact p4 i hi
  unfold kQ;split
  ·rename_i wQ;rw [uS] at wQ
   obtain ⟨q1,q2,q3,q4⟩:=FY hs hC hcl hr m (v+1) (a.1.set v (x:Int)) a.2 (by omega) Qg p1 p2 fun c G5 hlt=>by
    by_cases e:iE (eN r c)=(v:Int)
    ·exact FX hs p1.le (p1.off hC) hr G5 (wQ c G5 e)
    ·have UW:iE (eN r c)<(v:Int):=(by omega);rw [yz (b:=vs) fun p hp=>xg p (by have:=DE hp;omega)];exact hc c G5 UW
   exact ⟨q1,q2,q3,fun i hi=>by rw [q4 i (by omega)];exact xg i hi⟩
  ·exact ⟨p1,p2,Qg,xg⟩
theorem KZ(n1:1<=n){L C:Lk}(hs:DD rs)(hC:Over rs L C)(hcl:lZ n rs C)(hr:r ∈ rs)(hm:Mid rs L C s)(hl:∀ p,s.1 r.name=some p->p.2.length=n ^ r.args.l.length):Mid rs L C (kG n r s):=by
 unfold kG vU;split
 ·rename_i wQ;rw [uS] at wQ;have ha:Hw n r (replicate (varsOf r).length 0):=⟨by simp,BE n1 _⟩
  refine (FY hs hC hcl hr (varsOf r).length 0 _ s (by omega) ha hm hl fun c G5 hlt=>?_).1;have h1:=NM (eN r c);exact FX hs hm.le (hm.off hC) hr G5 (wQ c G5 (by omega))
 ·exact hm
def nu(n:Nat)(rs:List aO)(D:DB):Prop:=∀ r ∈ rs,∀ p,D r.name=some p->p.2.length=n ^ r.args.l.length
theorem NN(h:nu n rs s.1):nu n rs (sr n r vs s).1:=fun q hq=>Mz (h q hq)
theorem Ho(n1:1<=n)(h:nu n rs s.1):nu n rs (kG n r s).1:=rF (Q:=fun s:DB×Bool=>nu n rs s.1) n1 (fun vs s _ _ h=>NN h) h
theorem NO(n1:1<=n){L C:Lk}(hs:DD rs)(hC:Over rs L C)(hcl:lZ n rs C)(hm:Mid rs L C s)(hl:nu n rs s.1):Mid rs L C (lY n rs s)/\nu n rs (lY n rs s).1:=by
 unfold lY;exact ju (P:=fun s:DB×Bool=>Mid rs L C s/\nu n rs s.1) ⟨hm,hl⟩ fun s r hr h=>⟨KZ n1 hs hC hcl hr h.1 (h.2 r hr),Ho n1 h.2⟩
theorem FZ(n1:1<=n){C:Lk}(hs:DD rs)(hC:Over rs (eP D0) C)(hcl:lZ n rs C)(hl:nu n rs D0)(hr:Reach n rs D0 D):Mid rs (eP D0) C (D,false)/\nu n rs D:=by
 induction hr with
 |refl=>exact ⟨⟨.refl _ _,hC.le⟩,hl⟩
 |step D _ ih=>
  obtain ⟨h1,h2⟩:=NO n1 hs hC hcl ih.1 ih.2;exact ⟨⟨h1.over,h1.le⟩,h2⟩
def Still(s0 s:DB×Bool):Prop:=s.2=false->s=s0
theorem NP{s0:DB×Bool}(h:Still s0 s):Still s0 (sr n r vs s):=by
 intro hf;unfold sr at hf ⊢
 cases hp:s.1 r.name with
 |none=>rw [hp] at hf;exact h hf
 |some p=>
  rw [hp] at hf;simp only at hf ⊢;split at hf
  ·rename_i e;rw [if_pos e];exact h hf
  ·cases hf
theorem ua{n:Nat}{r:aO}{s0:DB×Bool}:∀ (m v:Nat) (vs:List Int) (s:DB×Bool),Still s0 s->Still s0 (ij (fun s=>s.1) (sr n r) n r m v vs s).2
 |0,v,vs,s,h=>NP h
 |m+1,v,vs,s,h=>by
  refine ju (P:=fun (a:List Int×(DB×Bool))=>Still s0 a.2) h fun a x _ ha=>?_;unfold kQ;split
  ·exact ua m (v+1) _ _ ha
  ·exact ha
theorem yB{s0:DB×Bool}(h:Still s0 s):Still s0 (kG n r s):=by
 unfold kG vU;split
 ·exact ua _ _ _ _ h
 ·exact h
theorem rI{α β:Type}{st:α->DB×Bool}{f:α->β->α}(hf:∀ s0 a b,Still s0 (st a)->Still s0 (st (f a b))):∀ (l:List β) (a:α) {D:DB},st (l.foldl f a)=(D,false)->st a=(D,false)
 |[],a,D,h=>h
 |b :: l,a,D,h=>by
  have h1:=rI hf l (f a b) h;have h2:Still (st a) (st (f a b)):=hf (st a) a b (fun _=>rfl);rw [<- h2 (by rw [h1]),h1]
theorem DF{β:Type}{f:α->β->α}{l:List β}{b:β}(hb:b ∈ l)(a:α):∃ l1 l2,l=l1++b :: l2/\l.foldl f a=l2.foldl f (f (l1.foldl f a) b):=by
 obtain ⟨l1,l2,h⟩:=append_of_mem hb;exact ⟨l1,l2,h,by rw [h,foldl_append,foldl_cons]⟩
theorem AA{m:Nat}(s0:DB×Bool)(a:List Int×(DB×Bool))(x:Nat)(h:Still s0 a.2):Still s0 (kQ (fun s=>s.1) n r v (ij (fun s=>s.1) (sr n r) n r m (v+1)) a x).2:=by
 unfold kQ;split
 ·exact ua m (v+1) _ _ h
 ·exact h
theorem AB{n:Nat}{r:aO}:∀ (m v:Nat) (vs:List Int) (s:DB×Bool),Hw n r vs->Hw n r (ij (fun s=>s.1) (sr n r) n r m v vs s).1/\∀ i,i<v->(ij (fun s=>s.1) (sr n r) n r m v vs s).1.getD i 0=vs.getD i 0
 |0,v,vs,s,ha=>⟨ha,fun _ _=>rfl⟩
 |m+1,v,vs,s,ha=>by
  refine ju (P:=fun (a:List Int×(DB×Bool))=>Hw n r a.1/\∀ i,i<v->a.1.getD i 0=vs.getD i 0) ⟨ha,fun _ _=>rfl⟩ fun a y hy hP=>?_;have hyn:y<n:=mem_range.1 hy;have Qg:Hw n r (a.1.set v (y:Int)):=⟨by rw [length_set];exact hP.1.1,rE hP.1.2 v hyn⟩
  have Qr:∀ i,i<v->(a.1.set v (y:Int)).getD i 0=vs.getD i 0:=fun i hi=>by rw [getD_set_ne (by omega)];exact hP.2 i hi
  unfold kQ;split
  ·obtain ⟨w1,w2⟩:=AB m (v+1) (a.1.set v (y:Int)) a.2 Qg;exact ⟨w1,fun i hi=>by rw [w2 i (by omega)];exact Qr i hi⟩
  ·exact ⟨Qg,Qr⟩
theorem F5{n:Nat}{r:aO}{D:DB}(hD:∃ p,D r.name=some p):∀ (m v:Nat) (vs:List Int),v+m=(varsOf r).length->Hw n r vs->(ij (fun s=>s.1) (sr n r) n r m v vs (D,false)).2=(D,false) ->
  ∀ us,Hw n r us->(∀ i,i<v->us.getD i 0=vs.getD i 0)->Jm n (eP D) r us=true->eP D r.name (FW n r us)=true
 |0,v,vs,hv,ha,hf,us,hu,xg,yA=>by
  obtain ⟨p,hp⟩:=hD
  have:us=vs:=by
   refine ext_getElem? fun i=>?_;by_cases hi:i<(varsOf r).length
   ·have:=xg i (by omega);rw [getD_eq_getElem?_getD,getD_eq_getElem?_getD,eA (by rw [hu.1];exact hi),eA (by rw [ha.1];exact hi)] at this;rw [eA (by rw [hu.1];exact hi),eA (by rw [ha.1];exact hi)];exact congrArg some this
   ·rw [getElem?_eq_none (by rw [hu.1];omega),getElem?_eq_none (by rw [ha.1];omega)]
  subst this;have hf':sr n r us (D,false)=(D,false):=hf;unfold sr at hf';simp only [hp] at hf';unfold eP FW;simp only [hp];split at hf'
  ·assumption
  ·exact absurd (congrArg Prod.snd hf') (by simp)
 |m+1,v,vs,hv,ha,hf,us,hu,xg,yA=>by
  have D3:v<us.length:=by rw [hu.1];omega
  have hin:=PJ hu.2 (eA D3);obtain ⟨x,hx⟩:∃ x:Nat,us[v]=(x:Int):=⟨us[v].toNat,by omega⟩
  have UT:x<n:=by omega
  have hux:us.getD v 0=(x:Int):=by rw [getD_eq_getElem?_getD,eA D3];exact hx
  have hf0:((List.range n).foldl (kQ (fun s=>s.1) n r v (ij (fun s=>s.1) (sr n r) n r m (v+1))) (vs,((D,false):DB×Bool))).2=(D,false):=hf;obtain ⟨l1,l2,hl,hfo⟩:=DF (f:=kQ (fun s=>s.1) n r v (ij (fun s=>s.1) (sr n r) n r m (v+1))) (mem_range.2 UT) (vs,((D,false):DB×Bool));rw [hfo] at hf0;have h1:=rI (st:=fun a:List Int×(DB×Bool)=>a.2) (fun s0 a b h=>AA s0 a b h) l2 _ hf0
  have TK:(l1.foldl (kQ (fun s=>s.1) n r v (ij (fun s=>s.1) (sr n r) n r m (v+1))) (vs,((D,false):DB×Bool))).2=(D,false):=by
   have h2:=AA (m:=m) (n:=n) (r:=r) (v:=v) _ (l1.foldl (kQ (fun s=>s.1) n r v (ij (fun s=>s.1) (sr n r) n r m (v+1))) (vs,((D,false):DB×Bool))) x (fun _=>rfl);exact (h2 (congrArg Prod.snd h1)).symm.trans h1
  have kV:Hw n r (l1.foldl (kQ (fun s=>s.1) n r v (ij (fun s=>s.1) (sr n r) n r m (v+1))) (vs,((D,false):DB×Bool))).1/\∀ i,i<v->(l1.foldl (kQ (fun s=>s.1) n r v (ij (fun s=>s.1) (sr n r) n r m (v+1))) (vs,((D,false):DB×Bool))).1.getD i 0=vs.getD i 0:=by
   refine ju (P:=fun (a:List Int×(DB×Bool))=>Hw n r a.1/\∀ i,i<v->a.1.getD i 0=vs.getD i 0) ⟨ha,fun _ _=>rfl⟩ fun a y hy hP=>?_;have hyn:y<n:=mem_range.1 (by rw [hl];exact mem_append_left _ hy);have Qg:Hw n r (a.1.set v (y:Int)):=⟨by rw [length_set];exact hP.1.1,rE hP.1.2 v hyn⟩
   have Qr:∀ i,i<v->(a.1.set v (y:Int)).getD i 0=vs.getD i 0:=fun i hi=>by rw [getD_set_ne (by omega)];exact hP.2 i hi
   unfold kQ;split
   ·obtain ⟨w1,w2⟩:=AB (n:=n) (r:=r) m (v+1) (a.1.set v (y:Int)) a.2 Qg;exact ⟨w1,fun i hi=>by rw [w2 i (by omega)];exact Qr i hi⟩
   ·exact ⟨Qg,Qr⟩
  generalize Tu:l1.foldl (kQ (fun s=>s.1) n r v (ij (fun s=>s.1) (sr n r) n r m (v+1))) (vs,((D,false):DB×Bool))=acc at h1 TK kV;obtain ⟨av,sv⟩:=acc;replace TK:sv=(D,false):=TK;subst TK
  have abt:∀ i,i<v+1->us.getD i 0=(av.set v (x:Int)).getD i 0:=fun i hi=>by
   by_cases e:i=v
   ·subst e;rw [hux,Jn (by rw [kV.1.1];omega)]
   ·rw [getD_set_ne e,kV.2 i (by omega)];exact xg i (by omega)
  have wQ:Bg n (eP D) r (av.set v (x:Int)) (v:Int)=true:=by
   rw [uS];intro c hc e;rw [yz (b:=us) fun p hp=>(abt p (by have:=DE hp;omega)).symm];unfold Jm at yA;rw [List.all_eq_true] at yA;exact yA c hc
  unfold kQ at h1;simp only [wQ,if_true] at h1;exact F5 hD m (v+1) (av.set v (x:Int)) (by omega) ⟨by rw [length_set];exact kV.1.1,rE kV.1.2 v UT⟩ h1 us hu abt yA
theorem K4(n1:1<=n)(hD:∃ p,D r.name=some p)(h:kG n r (D,false)=(D,false))(us:List Int)(hu:Hw n r us)(yA:Jm n (eP D) r us=true):eP D r.name (FW n r us)=true:=by
 unfold kG vU at h
 have wQ:Bg n (eP D) r (replicate (varsOf r).length 0) (-1)=true:=by
  rw [uS];intro c hc e
  have Dm:eN r c = []:=by
   cases wh:eN r c with
   |nil=>rfl
   |cons p ps=>
    have:=DE (ps:=eN r c) (p:=p) (by rw [wh];exact mem_cons_self);omega
  unfold Jm at yA;rw [List.all_eq_true] at yA;have:=yA c hc;rw [Dm] at this ⊢;exact this
 simp only [wQ,if_true] at h;exact F5 hD (varsOf r).length 0 _ (by omega) ⟨by simp,BE n1 _⟩ h us hu (fun i hi=>by omega) yA
theorem NQ(n1:1<=n)(hD:∀ r ∈ rs,∃ p,D r.name=some p)(h:lY n rs (D,false)=(D,false)):lZ n rs (eP D):=by
 intro r hr us hu yA;obtain ⟨l1,l2,hl,hfo⟩:=DF (f:=fun s r=>kG n r s) hr ((D,false):DB×Bool);unfold lY at h;rw [hfo] at h;have h1:=rI (st:=fun a:DB×Bool=>a) (f:=fun s r=>kG n r s) (fun s0 a b h=>yB h) l2 _ h;have h2:=rI (st:=fun a:DB×Bool=>a) (f:=fun s (r:aO)=>kG n r s) (fun s0 a b h=>yB h) [r] (l1.foldl (fun s r=>kG n r s) (D,false)) (D:=D) (by simpa using h1);replace h2:l1.foldl (fun s r=>kG n r s) ((D,false):DB×Bool)=(D,false):=h2;rw [h2] at h1;exact K4 n1 (hD r hr) h1 us hu yA
theorem NR(n1:1<=n)(hr:Reach n rs D0 D)(h:∃ p,D0 nm=some p):∃ p,D nm=some p:=by
 induction hr with
 |refl=>exact h
 |step D _ ih=>
  show ∃ p,(lY n rs (D,false)).1 nm=some p;unfold lY;refine ju (P:=fun s:DB×Bool=>∃ p,s.1 nm=some p) ih fun s r _ hs=>?_;refine rF (Q:=fun s:DB×Bool=>∃ p,s.1 nm=some p) n1 (fun vs s _ _ hs=>?_) hs;obtain ⟨p,hp⟩:=hs;unfold sr
  cases hq:s.1 r.name with
  |none=>exact ⟨p,hp⟩
  |some q=>
   simp only;split
   ·exact ⟨p,hp⟩
   ·unfold kO;by_cases e:nm=r.name
    ·exact ⟨_,if_pos e⟩
    ·exact ⟨p,by simp only [if_neg e];exact hp⟩
theorem Jo(n1:1<=n)(hs:DD rs)(hl:nu n rs D0)(hD:∀ r ∈ rs,∃ p,D0 r.name=some p)(hr:Reach n rs D0 D)(hp:lY n rs (D,false)=(D,false)):nK n rs (eP D0) (eP D):=by
 have hcl:=NQ n1 (fun r hq=>NR n1 hr (hD r hq)) hp;refine ⟨?_,hcl,fun C hC hcC=>(FZ n1 hs hC hcC hl hr).1.le⟩
 have top:Over rs (eP D0) (fun nm k=>if (∃ r ∈ rs,r.name=nm) then true else eP D0 nm k):=⟨fun nm k h=>by
   by_cases e:∃ r ∈ rs,r.name=nm
   ·simp [e]
   ·simp [e,h],fun nm hn k=>by
   rw [if_neg];rintro ⟨r,h1,h2⟩
   exact hn r h1 h2⟩
 exact (FZ (C:=fun nm k=>if (∃ r ∈ rs,r.name=nm) then true else eP D0 nm k) n1 hs top (fun r hr vs _ _=>if_pos ⟨r,hr,rfl⟩) hl hr).1.over
theorem nu.NF{A B:DB}(h:nu n rs A)(hd:eB B A):nu n rs B:=fun r hr p hp=>by
 obtain ⟨p0,h1,_,h3⟩:=hd.back hp;rw [h3];exact h r hr p0 h1
theorem K5(n1:1<=n)(hr:Reach n rs D0 D):eB D D0:=by
 induction hr with
 |refl=>exact fun _=>rfl
 |step D _ ih=>
  show eB (lY n rs (D,false)).1 D0;unfold lY;refine ju (P:=fun s:DB×Bool=>eB s.1 D0) ih fun s r _ hs=>?_;refine rF (Q:=fun s:DB×Bool=>eB s.1 D0) n1 (fun vs s _ _ hs=>?_) hs;unfold sr
  cases hq:s.1 r.name with
  |none=>exact hs
  |some q=>
   simp only;split
   ·exact hs
   ·exact hs.set hq (by simp)
theorem NS(n1:1<=n)(UW:My rs lv)(hl:nu n rs D0)(hD:∀ r ∈ rs,∃ p,D0 r.name=some p):∀ {t:Nat} {D:DB},FN n rs lv D0 t D->mo n rs lv (eP D0) t (eP D)/\eB D D0:=by
 intro t D h
 induction h with
 |zero=>exact ⟨.zero,fun _=>rfl⟩
 |succ l D D' _ hr hp ih=>
  have hd:=(K5 n1 hr).trans ih.2;refine ⟨.succ l _ _ ih.1 (Jo n1 (UW.abr l) (fun r hr=>hl.NF ih.2 r (Az.1 hr).1) (fun r hr=>?_) hr hp),hd⟩;obtain ⟨p,h1⟩:=hD r (Az.1 hr).1;obtain ⟨q,h2,_⟩:=ih.2.get h1;exact ⟨q,h2⟩
theorem uc(n:Nat):∀ k r,(nI n k r).length=k
 |0,_=>rfl
 |k+1,r=>by rw [nI,length_append,uc n k];rfl
def K6(es:List Entry)(ck:Nat)(m:eE):Prop:=j6 es m/\jQ es ck/\(m.map (·.1)).Nodup
theorem yC{v w:AV}{m:eE}(hP:h.get P=some (.cells [v,.map M,w]))(hM:h.get M=some (.map es ck))(hm0:K6 es ck m)(Rg:P<h.next)(Wf:M<h.next){xs:Sl b7}
  (hK:∀ h' xA GI,h'.get M=some (.map xA GI)->K6 xA GI (m.qX nm xs.l.length)->(∀ b,b<h.next->b≠M->h'.get b=h.get b)->h.next<=h'.next->K (.ret (.bool (Nw m nm xs.l.length))) h'=true) :
  Sem TP 139 [.ptr P 0,.agg [.str nm,ak encS 1 xs]] h K:=by
 obtain ⟨hm,hB,P0⟩:=hm0;unfold Nw at hK;refine F.qm ?_;rw [F.rq];have hb:eX (.agg [.str nm,ak encS 1 xs])=some (iD nm xs):=cY (zx nm xs);simp only [hb,aq];have g0:(Heap.alloc h (.cells (iD nm xs))).get h.next=some (.cells (iD nm xs)):=aB _ _
 have gP:(Heap.alloc h (.cells (iD nm xs))).get P=some (.cells [v,.map M,w]):=by rw [Heap.aU,if_neg (by omega)];exact hP
 have gM:(Heap.alloc h (.cells (iD nm xs))).get M=some (.map es ck):=by rw [Heap.aU,if_neg (by omega)];exact hM
 have gx:bA h (Heap.alloc h (.cells (iD nm xs))):=bA.alloc _ _;generalize (Heap.alloc h (.cells (iD nm xs)))=H at g0 gP gM gx ⊢;have Tp:∀ x,(H.set M x).get h.next=some (.cells (iD nm xs)):=fun x=>by rw [Heap.aN,if_neg (by omega)];exact g0
 obtain ⟨xA,GI,hu,Ww⟩:=Co gM hm nm xs.l.length;simp only [aR,reduceAdd,reduceEqDiff,reduceIte,cq,aj gP,aj g0,iD,qY gM hm,hu];have fin:=hK (H.set M (.map xA GI)) xA GI (by rw [Heap.aN,if_pos rfl]) ⟨Ww,vO gM hB hu (by rw [Heap.aN,if_pos rfl]),FB P0 nm _⟩ (fun b hb hne=>by rw [Heap.aN,if_neg hne];exact gx.get b hb) (by rw [Heap.bt];exact gx.next)
 cases hf:m.find nm with
 |none=>
  rw [hf] at fin;simp only [isSome_none,Bool.not_false,aK];exact fin
 |some k=>
  rw [hf] at fin;simp only [isSome_some,Bool.not_true,aJ,getD_some,aR,reduceAdd,reduceEqDiff,reduceIte,aj (Tp _),iD,cw];exact fin
set_option maxHeartbeats 1000000 in
theorem NT(kV:∀ r ∈ rules.l,r.ok)(jz:∀ r ∈ rules.l,r.mc)
  (Dm:¬ kN rules.l->∀ h',(∀ b,b<h.next->h'.get b=h.get b)->K (.ret (.tuple [.ey,.bool false])) h'=true)
  (zD:∀ h' P A M ks k,kN rules.l->ew.dr (bL rules.l) (ew.iter (bL rules.l) k)->h'.get P=some (.cells [ak aP 3 rules,.map A,.map M])->fq (bF rules.l) h' M ks (ew.iter (bL rules.l) k)->ks.Nodup->P<h'.next->M<h'.next->∀ m es ck,dV rules.l []=some m->h'.get A=some (.map es ck)->K6 es ck m->h.next<=A->A<M->M<P->(∀ b,b<h.next->h'.get b=h.get b)->K (.ret (.tuple [.ptr P 0,.bool true])) h'=true):Sem TP 98 [ak aP 3 rules] h K:=by
 refine F.GO ?_;rw [F.Iw];simp only [Heap.aL,aaW,aaX,aq]
 have gA:(Heap.alloc (Heap.alloc (Heap.alloc h (.map [] 0)) (.map [] 0)) (.cells [ak aP 3 rules,.map h.next,.map (h.next+1)])).get h.next=some (.map [] 0):=by
  rw [Heap.aU,Heap.aL,Heap.aL,if_neg (by omega),Heap.aU,Heap.aL,if_neg (by omega)];exact aB _ _
 have gM:(Heap.alloc (Heap.alloc (Heap.alloc h (.map [] 0)) (.map [] 0)) (.cells [ak aP 3 rules,.map h.next,.map (h.next+1)])).get (h.next+1)=some (.map [] 0):=by
  rw [Heap.aU,Heap.aL,Heap.aL,if_neg (by omega)];exact aB _ _
 have gP:(Heap.alloc (Heap.alloc (Heap.alloc h (.map [] 0)) (.map [] 0)) (.cells [ak aP 3 rules,.map h.next,.map (h.next+1)])).get (h.next+1+1)=some (.cells [ak aP 3 rules,.map h.next,.map (h.next+1)]):=aB _ _;have gn:(Heap.alloc (Heap.alloc (Heap.alloc h (.map [] 0)) (.map [] 0)) (.cells [ak aP 3 rules,.map h.next,.map (h.next+1)])).next=h.next+1+1+1:=rfl
 have gF:∀ b,b<h.next->(Heap.alloc (Heap.alloc (Heap.alloc h (.map [] 0)) (.map [] 0)) (.cells [ak aP 3 rules,.map h.next,.map (h.next+1)])).get b=h.get b:=(((bA.alloc _ _).trans (bA.alloc _ _)).trans (bA.alloc _ _)).get
 generalize (Heap.alloc (Heap.alloc (Heap.alloc h (.map [] 0)) (.map [] 0)) (.cells [ak aP 3 rules,.map h.next,.map (h.next+1)]))=H0 at gA gM gP gn gF ⊢;obtain ⟨A,hA⟩:∃ A,A=h.next:=⟨_,rfl⟩
 obtain ⟨M,hM⟩:∃ M,M=h.next+1:=⟨_,rfl⟩
 obtain ⟨P,hP⟩:∃ P,P=h.next+1+1:=⟨_,rfl⟩
 rw [<- hP] at gP gn ⊢;rw [<- hM] at gM gP ⊢;rw [<- hA] at gA gP gF ⊢;have hAM:A<M:=by omega
 have hMP:M<P:=by omega
 clear hM hP;simp only [aR,reduceAdd,reduceEqDiff,reduceIte];by_cases h61:60<rules.l.length
 ·simp only [fy (by omega:(60:Int)<(rules.l.length:Int)),aK];exact Dm (fun hg=>by have:=hg.mc;omega) _ (fun b hb=>gF b (by omega))
 have sq:rules.l.length<=60:=by omega
 simp only [eR (by omega:¬ (60:Int)<(rules.l.length:Int)),aJ];have hbig:rules.l.length<=cM:=by unfold cM;omega
 have bad:dV rules.l []=none->∀ h',(∀ b,b<A->h'.get b=h.get b)->K (.ret (.tuple [.ey,.bool false])) h'=true:=fun hn h' hf=>Dm (fun hg=>by obtain ⟨m,hm⟩:=hg.go;rw [hn] at hm;cases hm) h' (fun b hb=>hf b (by omega))
 refine aD 0 rules.l.length (zero_le _) (fun i e h'=>∃ m ks es ck,(∀ b,b<A->h'.get b=h.get b)/\dV rules.l []=dV (rules.l.drop i) m/\h'.get A=some (.map es ck)/\K6 es ck m/\fq (bF (rules.l.take i)) h' M ks (fun _=>0)/\ks.Nodup /\
  h'.get P=some (.cells [ak aP 3 rules,.map A,.map M])/\P<h'.next/\e 4 = .ptr P 0/\e 17=ak aP 3 rules/\e 18 = .int .i64 (rules.l.length:Int)/\e 19 = .int .i64 (i:Int))
  ⟨[],[],[],0,gF,rfl,gA,⟨trivial,jQ.nil 0,nodup_nil⟩,⟨[],0,[],gM,trivial,jQ.nil 0,rfl,fun x=>by simp [bF,eE.find]⟩,nodup_nil,gP,by omega,rfl,rfl,rfl,rfl⟩ ?_ ?_
 ·rintro i e h' _ hi ⟨m,ks,es,ck,hF,hm,qA,XF,la,BD,qP,Rg,e4,tV,Rl,Rm⟩ K' hn hx hr hp;have hv:rules.l[i]?=some rules.l[i]:=eA hi;generalize rules.l[i]=r at hv;have Jp:=kV r (ig hv);have hrf:=jz r (ig hv);obtain ⟨H,Da,g1,go,gn1⟩:=cu (h:=h') (zs:=[.str [],.ax,.ax]) (cs:=aP r) (n:=3) rfl rfl (j9 r);have pA:H.get A=some (.map es ck):=by rw [go A (by omega)];exact qA
  have pP:H.get P=some (.cells [ak aP 3 rules,.map A,.map M]):=by rw [go P (by omega)];exact qP
  have pl:fq (bF (rules.l.take i)) H M ks (fun _=>0):=la.gj (go M (by omega));rw [FE hv,dV] at hm;rw [F.cj.aT];simp only [e4,tV,Rl,Rm,aR,reduceAdd,reduceEqDiff,reduceIte,bh hi,aV rules hi,dF gv hv,Da];simp only [aR,reduceAdd,reduceEqDiff,reduceIte,aj g1,aP,Mk];refine ah (C7 Jp.2.1 ?_);simp only [aR,reduceAdd,reduceEqDiff,reduceIte]
  cases ha:mj r.name r.args.l with
  |false=>
   rw [ha,cond_false] at hm;simp only [Bool.not_false,aK];rw [hr,F.cj.bC];exact bad hm _ (fun b hb=>by rw [go b (by omega)];exact hF b hb)
  |true=>
  rw [ha,cond_true,FG] at hm;simp only [Bool.not_true,aJ,aR,reduceAdd,reduceEqDiff,reduceIte,aj g1,aP,Mk,e4];refine ah (yC pP pA XF (by omega) (by omega) fun h3 es3 ck3 a1 a2 a3 a4=>?_);simp only [aR,reduceAdd,reduceEqDiff,reduceIte]
  cases hq:Nw m r.name r.args.l.length with
  |false=>
   rw [hq,if_neg (by simp)] at hm;simp only [Bool.not_false,aK];rw [hr,F.cj.bC];exact bad hm _ (fun b hb=>by rw [a3 b (by omega) (by omega),go b (by omega)];exact hF b hb)
  |true=>
  rw [hq,if_pos rfl] at hm;have g3:h3.get h'.next=some (.cells (aP r)):=by rw [a3 _ (by omega) (by omega)];exact g1
  have P3:h3.get P=some (.cells [ak aP 3 rules,.map A,.map M]):=by rw [a3 P (by omega) (by omega)];exact pP
  have l3:fq (bF (rules.l.take i)) h3 M ks (fun _=>0):=pl.gj (a3 M (by omega) (by omega));simp only [Bool.not_true,aJ,aR,reduceAdd,reduceEqDiff,reduceIte,aj g3,aP];by_cases uH:20<r.body.l.length
  ·simp only at hm;rw [if_pos uH] at hm;simp only [fy (by omega:(20:Int)<(r.body.l.length:Int)),aK];rw [hr,F.cj.bC];exact bad hm _ (fun b hb=>by rw [a3 b (by omega) (by omega),go b (by omega)];exact hF b hb)
  simp only at hm;rw [if_neg uH] at hm;simp only [eR (by omega:¬ (20:Int)<(r.body.l.length:Int)),aJ,aR,reduceAdd,reduceEqDiff,reduceIte,aj g3,aP,rC];refine ah (di hrf fun x jG=>?_);simp only [aR,reduceAdd,reduceEqDiff,reduceIte,jG];by_cases IK:12<(varsOf r).length
  ·rw [if_pos IK] at hm;simp only [fy (by omega:(12:Int)<((varsOf r).length:Int)),aK];rw [hr,F.cj.bC];exact bad hm _ (fun b hb=>by rw [a3 b (by omega) (by omega),go b (by omega)];exact hF b hb)
  rw [if_neg IK] at hm;simp only [eR (by omega:¬ (12:Int)<((varsOf r).length:Int)),aJ,aR,reduceAdd,reduceEqDiff,reduceIte,aj g3,aP];have Au:r.body.l.length<=cM:=by unfold cM;omega
  refine aD 0 r.body.l.length (zero_le _) (fun j e h2=>∃ m2 U0 U1,(∀ b,b<A->h2.get b=h.get b)/\nH r.body.l (m.qX r.name r.args.l.length)=nH (r.body.l.drop j) m2/\h2.get A=some (.map U0 U1)/\K6 U0 U1 m2/\fq (bF (rules.l.take i)) h2 M ks (fun _=>0) /\
   h2.get P=some (.cells [ak aP 3 rules,.map A,.map M])/\h2.get h'.next=some (.cells (aP r))/\h'.next<h2.next/\e 4 = .ptr P 0/\e 6 = .ptr h'.next 0/\e 17=ak aP 3 rules/\e 18 = .int .i64 (rules.l.length:Int)/\e 19 = .int .i64 (i:Int) /\
   e 47=ak bM 4 r.body/\e 48 = .int .i64 (r.body.l.length:Int)/\e 49 = .int .i64 (j:Int))
   ⟨_,es3,ck3,fun b hb=>by rw [a3 b (by omega) (by omega),go b (by omega)];exact hF b hb,rfl,a1,a2,l3,P3,g3,by omega,e4,rfl,tV,Rl,Rm,rfl,rfl,rfl⟩ ?_ ?_
  ·rintro j e h2 _ hj ⟨m2,U0,U1,hF2,Ii,qA2,TL,Rh,qP2,qR2,pV,e4,e6,tV,Rl,Rm,e47,e48,e49⟩ K2 uO gi rN FD;have hc:r.body.l[j]?=some r.body.l[j]:=eA hj;generalize r.body.l[j]=c at hc;have I7:=Jp.2.2.2.2 c (ig hc);obtain ⟨H2,qH,k1,ko,kn⟩:=cu (h:=h2) (zs:=[.int .i64 0,.bool false,.str [],.ax]) (cs:=bM c) (n:=4) rfl rfl (iw c);have kA:H2.get A=some (.map U0 U1):=by rw [ko A (by omega)];exact qA2
   have kP:H2.get P=some (.cells [ak aP 3 rules,.map A,.map M]):=by rw [ko P (by omega)];exact qP2
   have kR:H2.get h'.next=some (.cells (aP r)):=by rw [ko _ (by omega)];exact qR2
   have kl:fq (bF (rules.l.take i)) H2 M ks (fun _=>0):=Rh.gj (ko M (by omega));rw [FE hc,nH] at Ii;rw [F.cj.dh];simp only [e4,e6,tV,Rl,Rm,e47,e48,e49,aR,reduceAdd,reduceEqDiff,reduceIte,bh hj,aV r.body hj,dF iu hc,qH];simp only [aR,reduceAdd,reduceEqDiff,reduceIte,aj k1,bM,G1];refine ah (fU I7 ?_);simp only [aR,reduceAdd,reduceEqDiff,reduceIte]
   cases UU:gG c with
   |false=>
    rw [UU,cond_false] at Ii;rw [Ii] at hm;simp only [Bool.not_false,aK];rw [rN,F.cj.jC,hr,F.cj.bC];exact bad hm _ (fun b hb=>by rw [ko b (by omega)];exact hF2 b hb)
   |true=>
   rw [UU,cond_true] at Ii;simp only [Bool.not_true,aJ,aR,reduceAdd,reduceEqDiff,reduceIte,aj k1,bM,cw];by_cases k0:c.kind=0
   ·rw [if_pos k0,FG] at Ii;simp only [fy k0,aK,aR,reduceAdd,reduceEqDiff,reduceIte,aj k1,bM,Mj,e4];refine ah (yC kP kA TL (by omega) (by omega) fun h4 es4 ck4 b1 b2 b3 b4=>?_);simp only [aR,reduceAdd,reduceEqDiff,reduceIte]
    cases Qs:Nw m2 c.name c.args.l.length with
    |false=>
     rw [Qs,if_neg (by simp)] at Ii;simp only at Ii;rw [Ii] at hm;simp only [Bool.not_false,aK];rw [rN,F.cj.jC,hr,F.cj.bC];exact bad hm _ (fun b hb=>by rw [b3 b (by omega) (by omega),ko b (by omega)];exact hF2 b hb)
    |true=>
     rw [Qs,if_pos rfl] at Ii;simp only [Bool.not_true,aJ,e49,aI hj Au,aq];refine uO _ _ ⟨_,es4,ck4,fun b hb=>by rw [b3 b (by omega) (by omega),ko b (by omega)];exact hF2 b hb,Ii,b1,b2,kl.gj (b3 M (by omega) (by omega)),?_,?_,by omega,e4,e6,tV,Rl,Rm,e47,e48,rfl⟩
     ·rw [b3 P (by omega) (by omega)];exact kP
     ·rw [b3 _ (by omega) (by omega)];exact kR
   ·rw [if_neg k0] at Ii;simp only [eR k0,aJ,e49,aI hj Au,aq];exact uO _ _ ⟨m2,U0,U1,fun b hb=>by rw [ko b (by omega)];exact hF2 b hb,Ii,kA,TL,kl,kP,kR,by omega,e4,e6,tV,Rl,Rm,e47,e48,rfl⟩
  ·rintro e h2 ⟨m2,U0,U1,hF2,Ii,qA2,TL,Rh,qP2,qR2,pV,e4,e6,tV,Rl,Rm,e47,e48,e49⟩ K2 gi;rw [drop_of_length_le (dM _),nH] at Ii;rw [Ii] at hm;simp only at hm;obtain ⟨h5,ks5,u1,u2,u3,u4,u5⟩:=Rh.add BD r.name;rw [F.cj.dh];simp only [e48,e49,aR,reduceAdd,reduceEqDiff,reduceIte,aW];rw [gi,F.cj.cx];simp only [e4,e6,Rm,aR,reduceAdd,reduceEqDiff,reduceIte,cq,aj qP2,aj qR2,aP,u1,aI hi hbig];refine hn _ _ ⟨m2,ks5,U0,U1,fun b hb=>by rw [u4 b (by omega)];exact hF2 b hb,hm,by rw [u4 A (by omega)];exact qA2,TL,?_,u3,by rw [u4 P (by omega)];exact qP2,by omega,e4,tV,Rl,rfl⟩;have:bF (rules.l.take (i+1))=bF (rules.l.take i)++[r.name]:=by unfold bF;rw [take_add_one,hv];simp
   rw [this];exact u2
 ·rintro e h' ⟨m,ks,es,ck,hF,hm,qA,XF,la,BD,qP,Rg,e4,tV,Rl,Rm⟩ K' hx;rw [drop_of_length_le (dM _),dV] at hm;rw [kf (dM _)] at la;have jE:=je hm
  have aeL:ks.length<=60:=by
   have:=ew.pW BD (m:=bF rules.l) fun x hx=>(la.mem x).1 hx;have h1:(bF rules.l).length=rules.l.length:=by simp [bF]
   omega
  rw [F.cj.aT];simp only [Rl,Rm,aR,reduceAdd,reduceEqDiff,reduceIte,aW];rw [hx,F.cj.aG];simp only [e4,aR,reduceAdd,reduceEqDiff,reduceIte,cq,aj qP,la.len,aI (i:=ks.length) (n:=61) (by omega) (by unfold cM;omega)]
  refine aD 0 (ks.length+1) (zero_le _) (fun i e h'=>(∀ b,b<A->h'.get b=h.get b)/\h'.get A=some (.map es ck)/\fq (bF rules.l) h' M ks (ew.iter (bL rules.l) i)/\h'.get P=some (.cells [ak aP 3 rules,.map A,.map M])/\P<h'.next/\(∀ j,j<i->¬ ew.dr (bL rules.l) (ew.iter (bL rules.l) j)) /\
   e 4 = .ptr P 0/\e 82 = .int .i64 ((ks.length+1:Nat):Int)/\e 83 = .int .i64 (i:Int)) ⟨hF,qA,la,qP,Rg,fun j hj=>by omega,e4,rfl,rfl⟩ ?_ ?_
  ·rintro i e h2 _ hi ⟨hF2,qA2,l2,q2,n2,Ts,e4,e82,e83⟩ K2 pV gi rN FD;rw [F.cj.mg];simp only [e4,e82,e83,aR,reduceAdd,reduceEqDiff,reduceIte,bh hi];refine ah (KI (N:=i*1200) q2 l2 n2 (by omega) sq (fun r hr=>⟨(jE r hr).2.1,List.mem_map_of_mem hr⟩) (wN sq (fun r hr=>(jE r hr).2.1) i) (by omega) fun h3 l3 f3 n3=>?_);simp only [aR,reduceAdd,reduceEqDiff,reduceIte,not_not];have qA3:h3.get A=some (.map es ck):=by rw [f3 A (by omega) (by omega)];exact qA2
   have q3:h3.get P=some (.cells [ak aP 3 rules,.map A,.map M]):=by rw [f3 P n2 (by omega)];exact q2
   by_cases iG:ew.dr (bL rules.l) (ew.iter (bL rules.l) i)
   ·have Jc:ew.dr (jj (bF rules.l) rules.l) (ew.iter (bL rules.l) i):=iG;simp only [fy Jc,aK];rw [rN,F.cj.xY];simp only [bK,reduceEqDiff,reduceIte,e4];rw [ew.vZ Jc] at l3;exact zD h3 P A M ks i ⟨sq,⟨m,hm⟩,i,iG⟩ iG q3 l3 BD (by omega) (by omega) m es ck hm qA3 XF (by omega) hAM hMP (fun b hb=>by rw [f3 b (by omega) (by omega)];exact hF2 b (by omega))
   ·have Jc:¬ ew.dr (jj (bF rules.l) rules.l) (ew.iter (bL rules.l) i):=iG;simp only [eR Jc,aJ,e83,aI hi (show ks.length+1<=cM by unfold cM;omega),aq]
    exact pV _ _ ⟨fun b hb=>by rw [f3 b (by omega) (by omega)];exact hF2 b hb,qA3,l3,q3,by omega,fun j hj=>by
     by_cases hji:j=i
     ·subst hji;exact iG
     ·exact Ts j (by omega),e4,e82,rfl⟩
  ·rintro e h2 ⟨hF2,_,l2,q2,n2,Ts,e4,e82,e83⟩ K2 gi;rw [F.cj.mg];simp only [e82,e83,aR,reduceAdd,reduceEqDiff,reduceIte,aW];rw [gi,F.cj.iU];refine Dm (fun hg=>?_) _ (fun b hb=>hF2 b (by omega));obtain ⟨k,hk⟩:=hg.lev;refine Ts ks.length (by omega) (ew.settle (fun e he=>?_) hk);obtain ⟨r,hr,c,hc,_,hin,rfl⟩:=tM he;exact ⟨(la.mem _).2 hin,(la.mem _).2 (List.mem_map_of_mem hr)⟩
theorem NU(D:DB)(nm:b7)(b:Nat)(d d':List Bool):kO (kO D nm b d) nm b d'=kO D nm b d':=by
 funext j;unfold kO;by_cases e:j=nm
 ·rw [if_pos e,if_pos e]
 ·rw [if_neg e,if_neg e,if_neg e]
theorem qD(D:DB)(nm:b7)(b:Nat)(d:List Bool):kO D nm b d nm=some (b,d):=if_pos rfl
theorem BI{j:b7}(h:j≠nm)(b:Nat)(d:List Bool):kO D nm b d j=D j:=if_neg h
theorem eo.add(b:eo D h B lo)(DY:lo<=h.next)(N:Nat)(nm:b7) :
  ∃ h',eS .string (.map B) (.str nm) (.slice h.next 0 N 1) (h.alloc (.cells ((replicate N false).map bv)))=some h'/\eo (kO D nm h.next (replicate N false)) h' B lo/\(∀ c,c<h.next->c≠B->h'.get c=h.get c)/\h'.next=h.next+1:=by
 obtain ⟨es,ck,m,e1,e2,e3⟩:=b.ex;have hB:=b.lt;have a1:(h.alloc (.cells ((replicate N false).map bv))).get B=some (.map es ck):=by rw [Heap.aU,if_neg (by omega)];exact e1
 obtain ⟨xA,GI,hu,Ww⟩:=Jl a1 e2 nm (.slice h.next 0 N 1);refine ⟨_,hu,⟨⟨xA,GI,_,by rw [Heap.aN,if_pos rfl],Ww,fun j=>?_⟩,fun j q hq=>?_,fun j j' q q' hq pe Wh=>?_,by rw [Heap.bt,Heap.aL];omega⟩,fun c hc NV=>by rw [Heap.aN,if_neg NV,Heap.aU,if_neg (by omega)],by rw [Heap.bt,Heap.aL]⟩
 ·rw [Ql];unfold kO;by_cases e:j=nm
  ·rw [if_pos e,if_pos e,map_some,length_replicate]
  ·rw [if_neg e,if_neg e,e3]
 ·unfold kO at hq;by_cases e:j=nm
  ·rw [if_pos e] at hq;cases hq;exact ⟨DY,by rw [Heap.bt,Heap.aL];exact lt_succ_self _,by show h.next≠B;omega,by rw [Heap.aN,if_neg (by show h.next≠B;omega)];exact aB _ _⟩
  ·rw [if_neg e] at hq;obtain ⟨k1,k2,k3,k4⟩:=b.Fw j q hq;exact ⟨k1,by rw [Heap.bt,Heap.aL];omega,k3,by rw [Heap.aN,if_neg k3,Heap.aU,if_neg (by omega)];exact k4⟩
 ·unfold kO at hq pe;by_cases e:j=nm
  ·by_cases e':j'=nm
   ·rw [e,e']
   ·rw [if_pos e] at hq;rw [if_neg e'] at pe;cases hq;have:=(b.Fw j' q' pe).2.1;simp only at Wh;omega
  ·by_cases e':j'=nm
   ·rw [if_neg e] at hq;rw [if_pos e'] at pe;cases pe;have:=(b.Fw j q hq).2.1;simp only at Wh;omega
   ·rw [if_neg e] at hq;rw [if_neg e'] at pe;exact b.inj j j' q q' hq pe Wh
theorem Wx{R:AV}(hS:h.get S=some (.cells [.int .i64 (n:Int),R]))(h1:1<=n){x:Sl Int}(hk:x.l.length=k)(hx:k<=12)(hc:n ^ k<=4096)(hb:jo n x.l=true)
  (hK:K (.ret (.int .i64 ((nc n x.l:Nat):Int))) h=true):Sem TP 101 [.ptr S 0,ak encI 1 x] h K:=KM hS h1 (by omega) (by rw [hk];exact hc) hb hK
theorem TM(hk:k<=12)(hc:n ^ k<=4096):NI n k = .tuple [.int .i64 ((n ^ k:Nat):Int),.int .i64 0]:=by rw [NI,if_neg (by omega),if_neg (by omega)]
set_option maxHeartbeats 1000000 in
theorem Hp{SB:Nat}{s:cD}{D1:DB}(mI:s.ok)(uT:cV s=true)(hn:s.size=(n:Int))(n1:1<=n)(xh:n<=64)
  (hS:h.get S=some (.cells [.int .i64 (n:Int),.map B])) (hSB:h.get SB=some (.cells (an s))) (hD:eo D1 h B lo) (aby:S≠B) (abz:SB≠B) (Tr:S<h.next) (Wy:SB<h.next) (DY:lo<=h.next)
  (q3:e0 3 = .ptr SB 0) (q7:e0 7 = .ptr P 0) (q17:e0 17 = .ptr S 0) (aeM:e0 154=ak aQ 3 s.aE) (aeN:e0 155 = .int .i64 (s.aE.l.length:Int)) (aeO:e0 156 = .int .i64 0)
  (done:∀ h' D',eo D' h' B lo->(∀ r ∈ s.aE.l,∃ b,h.next<=b/\D' r.name=some (b,bitsOf n r.arity.toNat r.aM.l))->(∀ nm,(∀ r ∈ s.aE.l,r.name≠nm)->D' nm=D1 nm)->(∀ c,c<h.next->c≠B->h'.get c=h.get c)->h.next<=h'.next->K (.ret (.tuple [.ptr P 0,.ptr S 0,.int .i64 0])) h'=true) :
  bW (EV F.az.L5) ⟨e0,198,[],h⟩ (F.az.L5k K)=true:=by
 have hbig:=mI.1;have hBn:=hD.lt
 refine aD 0 s.aE.l.length (zero_le _) (fun i e h'=>∃ D,eo D h' B lo/\(∀ r ∈ s.aE.l.take i,∃ b,h.next<=b/\D r.name=some (b,bitsOf n r.arity.toNat r.aM.l))/\(∀ nm,(∀ r ∈ s.aE.l.take i,r.name≠nm)->D nm=D1 nm)/\(∀ c,c<h.next->c≠B->h'.get c=h.get c)/\h.next<=h'.next /\
  e 3 = .ptr SB 0/\e 7 = .ptr P 0/\e 17 = .ptr S 0/\e 154=ak aQ 3 s.aE/\e 155 = .int .i64 (s.aE.l.length:Int)/\e 156 = .int .i64 (i:Int))
  ⟨D1,hD,fun r hr=>(by cases hr),fun _ _=>rfl,fun _ _ _=>rfl,dM _,q3,q7,q17,aeM,aeN,aeO⟩ ?_ ?_
 ·rintro i e h' _ hi ⟨D,hDa,u0,TN,hfr,oZ,e3,e7,tV,K7,Jq,Jr⟩ K' DZ hx hr hp;have hv:s.aE.l[i]?=some s.aE.l[i]:=eA hi;generalize s.aE.l[i]=r at hv;have Wp:r.ok:=mI.2 r (ig hv);have Qh:=Dx uT hv;rw [show s.size.toNat=n by omega] at Qh;obtain ⟨k,hk,NC,hkc,TO⟩:=Hf Qh;have hkn:r.arity.toNat=k:=by omega
  obtain ⟨H,Da,g1,go,gn⟩:=cu (h:=h') (zs:=[.str [],.int .i64 0,.ax]) (cs:=aQ r) (n:=3) rfl rfl (fP r);have xH:bA h' H:=⟨by omega,fun b hb=>go b (by omega)⟩
  have pSB:H.get SB=some (.cells (an s)):=by rw [xH.get _ (by omega),hfr _ Wy abz];exact hSB
  have pS:H.get S=some (.cells [.int .i64 (n:Int),.map B]):=by rw [xH.get _ (by omega),hfr _ Tr aby];exact hS
  have hDH:=hDa.ext xH;have lz:ag none (.ptr SB 0) H=some (.int .i64 (n:Int)):=by rw [aj pSB,<- hn];rfl
  have la:ag none (.ptr h'.next 1) H=some (.int .i64 (k:Int)):=by rw [aj g1,<- hk];rfl
  have ln:ag none (.ptr h'.next 0) H=some (.str r.name):=by rw [aj g1];rfl
  obtain ⟨h2,hu,hD2,Vv,pV⟩:=hDH.add (by omega) (n ^ k) r.name;have lt:ag none (.ptr h'.next 2) h2=some (ak cU 1 r.aM):=by rw [aj (show h2.get h'.next=some (.cells (aQ r)) by rw [Vv _ (by omega) (by omega)];exact g1)];rfl
  rw [F.az.UM];simp only [K7,Jq,Jr,e3,tV,aR,reduceAdd,reduceEqDiff,reduceIte,bh hi,aV s.aE hi,dF dR hv,Da];simp only [aR,reduceAdd,reduceEqDiff,reduceIte,lz,la];refine ah (tW n1 xh (by unfold cM;omega) ?_);rw [TM NC hkc];simp only [aR,reduceAdd,reduceEqDiff,reduceIte,cq,aj pS,ln,Mm (show n ^ k<=1000000 by omega),hu,lt]
  refine aD 0 r.aM.l.length (zero_le _) (fun j e h3=>∃ d,bitsOf n k r.aM.l=oM n (r.aM.l.drop j) d/\d.length=n ^ k/\eo (kO D r.name H.next d) h3 B lo/\(∀ c,c<H.next->c≠B->h3.get c=H.get c)/\h3.next=h2.next /\
   e 3 = .ptr SB 0/\e 7 = .ptr P 0/\e 17 = .ptr S 0/\e 154=ak aQ 3 s.aE/\e 155 = .int .i64 (s.aE.l.length:Int)/\e 156 = .int .i64 (i:Int)/\e 25 = .ptr h'.next 0/\e 177=ak cU 1 r.aM/\e 178 = .int .i64 (r.aM.l.length:Int)/\e 179 = .int .i64 (j:Int))
   ⟨_,rfl,by simp,hD2,Vv,rfl,e3,e7,tV,K7,Jq,Jr,rfl,rfl,rfl,rfl⟩ ?_ ?_
  ·rintro j e h3 _ hj ⟨d,hd,hdl,hD3,hf3,UY,e3,e7,tV,K7,Jq,Jr,KY,Wz,TQ,WA⟩ K2 uO gi rN FD;have Hj:r.aM.l[j]?=some r.aM.l[j]:=eA hj;generalize r.aM.l[j]=t at Hj;obtain ⟨Dz,Ym⟩:=Qm TO Hj;rw [Ny Hj] at hd;have EP:nc n t.l<d.length:=by have:=wP Ym;rw [Dz] at this;omega
   have wS:h3.get S=some (.cells [.int .i64 (n:Int),.map B]):=by rw [hf3 _ (by omega) aby];exact pS
   have wR:h3.get h'.next=some (.cells (aQ r)):=by rw [hf3 _ (by omega) (by omega)];exact g1
   have lnm:ag none (.ptr h'.next 0) h3=some (.str r.name):=by rw [aj wR];rfl
   have Qt:=hD3.look (qD D r.name H.next d);obtain ⟨_,_,_,m7⟩:=hD3.Fw r.name _ (qD D r.name H.next d);simp only at Qt m7;have lN:=hD3.set (qD D r.name H.next d) (d:=d.set (nc n t.l) true) (by simp);rw [NU] at lN;simp only at lN;rw [F.az.UN];simp only [tV,KY,Wz,TQ,WA,aR,reduceAdd,reduceEqDiff,reduceIte,bh hj,aV r.aM hj,ic Hj,cq,aj wS,lnm,Qt];refine ah (Wx wS n1 Dz NC hkc Ym ?_);simp only [aR,reduceAdd,reduceEqDiff,reduceIte,aj wS,lnm,Qt,AV.beq_refl,Bool.and_self,Bool.and_true,if_true,nr EP,IS m7 EP,aI hj Wp.2.1];exact uO _ _ ⟨_,hd,by simpa using hdl,lN,fun c hc NV=>by rw [Heap.aN,if_neg (by omega)];exact hf3 c hc NV,by rw [Heap.bt];exact UY,e3,e7,tV,K7,Jq,Jr,KY,Wz,TQ,rfl⟩
  ·rintro e h3 ⟨d,hd,hdl,hD3,hf3,UY,e3,e7,tV,K7,Jq,Jr,KY,Wz,TQ,WA⟩ K2 gi;rw [drop_of_length_le (dM _)] at hd;simp only [oM] at hd;rw [F.az.UN];simp only [TQ,WA,aR,reduceAdd,reduceEqDiff,reduceIte,aW];rw [gi,F.az.Ns];simp only [aR,reduceAdd,reduceEqDiff,reduceIte,Jr,aI hi hbig];refine DZ _ _ ⟨kO D r.name H.next d,hD3,fun q hq=>?_,fun nm xj=>?_,fun c hc NV=>by rw [hf3 c (by omega) NV,xH.get c (by omega)];exact hfr c hc NV,by omega,e3,e7,tV,K7,Jq,rfl⟩
   ·rw [take_add_one,hv] at hq;rcases mem_append.1 hq with pe|pe
    ·by_cases e:q.name=r.name
     ·obtain ⟨a,ha⟩:=mem_iff_getElem?.1 pe
      have UZ:s.aE.l[a]?=some q:=by
       rw [getElem?_take] at ha;split at ha
       ·exact ha
       ·cases ha
      have hai:a<i:=by
       rw [getElem?_take] at ha;split at ha
       ·assumption
       ·cases ha
      have:=nS (rH uT) (i:=a) (j:=i) (s:=q.name) (by rw [getElem?_map,UZ];rfl) (by rw [getElem?_map,hv,e];rfl);omega
     ·obtain ⟨b,b1,b2⟩:=u0 q pe;exact ⟨b,b1,by rw [BI e];exact b2⟩
    ·simp only [toList_some,mem_singleton] at pe;subst pe;exact ⟨H.next,by omega,by rw [qD,hkn,hd]⟩
   ·have h1:nm≠r.name:=fun e=>xj r (by rw [take_add_one,hv];simp) e.symm;rw [BI h1];exact TN nm fun q hq=>xj q (by rw [take_add_one,hv];exact mem_append_left _ hq)
 ·rintro e h' ⟨D,hDa,u0,TN,hfr,oZ,e3,e7,tV,K7,Jq,Jr⟩ K' hx;rw [kf (dM _)] at u0 TN;rw [F.az.UM];simp only [Jq,Jr,aR,reduceAdd,reduceEqDiff,reduceIte,aW];rw [hx,F.az.Nr];simp only [bK,reduceEqDiff,reduceIte,e7,tV];exact done h' D hDa u0 TN hfr oZ
def Rn(m:eE)(p:b7×Int):Option eE:=match m.find p.1 with
 |none=>some (m.qX p.1 p.2)
 |some k=>if k=p.2 then some (m.qX p.1 p.2) else none
def ud:List (b7×Int)->eE->Option eE
 |[],m=>some m
 |p :: l,m=>match Rn m p with|none=>none|some m'=>ud l m'
theorem Js(m:eE)(nm:b7)(n:Nat):Dc m nm n=Rn m (nm,(n:Int)):=rfl
theorem AD:∀ (a b:List (b7×Int)) (m:eE),ud (a++b) m=match ud a m with|none=>none|some m'=>ud b m'
 |[],b,m=>rfl
 |p :: a,b,m=>by
  rw [cons_append,ud,ud]
  cases Rn m p with
  |none=>rfl
  |some m'=>exact AD a b m'
theorem wX:∀ (cs:List eO) (m:eE),nH cs m=if cs.all gG=true then ud (dX cs) m else none
 |[],m=>rfl
 |c :: cs,m=>by
  rw [nH,all_cons]
  cases hc:gG c with
  |false=>simp
  |true=>
   rw [cond_true,Bool.true_and];by_cases k0:c.kind=0
   ·have TR:dX (c :: cs)=(c.name,(c.args.l.length:Int)) :: dX cs:=(by unfold dX;simp [k0]);rw [if_pos k0,TR,ud,Js]
    cases Rn m (c.name,(c.args.l.length:Int)) with
    |none=>simp
    |some m'=>exact wX cs m'
   ·have TR:dX (c :: cs)=dX cs:=(by unfold dX;simp [k0]);rw [if_neg k0,TR];exact wX cs m
theorem rJ:∀ (rs:List aO) (m:eE),dV rs m=if rs.all jx=true then ud (cB rs) m else none
 |[],m=>rfl
 |r :: rs,m=>by
  have He:cB (r :: rs)=(r.name,(r.args.l.length:Int)) :: (dX r.body.l++cB rs):=by unfold cB;simp [tT]
  rw [dV,all_cons,He,ud,Av,Js];unfold jx
  cases h1:ef r.name with
  |false=>simp
  |true=>
  cases h2:lX r.args.l with
  |false=>simp
  |true=>
  simp only [Bool.true_and,cond_true];by_cases h3:r.body.l.length<=20
  ·by_cases h4:(varsOf r).length<=12
   ·rw [fy h3,fy h4,Bool.true_and,Bool.and_true]
    cases Rn m (r.name,(r.args.l.length:Int)) with
    |none=>simp
    |some m1=>
     simp only;rw [if_neg (by omega),if_neg (by omega),wX,AD]
     cases h5:r.body.l.all gG with
     |false=>simp
     |true=>
      rw [if_pos rfl,Bool.true_and]
      cases ud (dX r.body.l) m1 with
      |none=>simp
      |some m2=>exact rJ rs m2
   ·rw [eR h4,Bool.and_false,Bool.and_false,Bool.false_and,if_neg (by simp)]
    cases Rn m (r.name,(r.args.l.length:Int)) with
    |none=>rfl
    |some m1=>simp only;rw [if_neg (by omega),if_pos (by omega)]
  ·rw [eR h3,Bool.false_and,Bool.false_and,if_neg (by simp)]
   cases Rn m (r.name,(r.args.l.length:Int)) with
   |none=>rfl
   |some m1=>simp only;rw [if_pos (by omega)]
def Hq(l:List (b7×Int)):Prop:=∀ p ∈ l,∀ q ∈ l,p.1=q.1->p.2=q.2
theorem DG:∀ (l:List (b7×Int)) (m:eE),(∃ m',ud l m=some m')↔((∀ p ∈ l,∀ k,m.find p.1=some k->k=p.2)/\Hq l)
 |[],m=>⟨fun _=>⟨fun p hp=>(by cases hp),fun p hp=>(by cases hp)⟩,fun _=>⟨m,rfl⟩⟩
 |p :: l,m=>by
  have fu:∀ q:b7×Int,(m.qX p.1 p.2).find q.1=if q.1=p.1 then some p.2 else m.find q.1:=fun q=>uI m p.1 q.1 p.2
  have key:(∃ m',ud l (m.qX p.1 p.2)=some m')/\(∀ k,m.find p.1=some k->k=p.2)↔((∀ q ∈ p :: l,∀ k,m.find q.1=some k->k=q.2)/\Hq (p :: l)):=by
   rw [DG l];constructor
   ·rintro ⟨⟨h1,h2⟩,h3⟩;have hp:∀ q ∈ l,q.1=p.1->p.2=q.2:=fun q hq e=>h1 q hq p.2 (by rw [fu,if_pos e]);refine ⟨fun q hq k hk=>?_,fun a ha b hb e=>?_⟩
    ·rcases mem_cons.1 hq with rfl|hq
     ·exact h3 k hk
     ·by_cases e:q.1=p.1
      ·rw [e] at hk;rw [h3 k hk,hp q hq e]
      ·exact h1 q hq k (by rw [fu,if_neg e];exact hk)
    ·rcases mem_cons.1 ha with UZ|UZ<;>rcases mem_cons.1 hb with eW|eW
     ·rw [UZ,eW]
     ·rw [UZ] at e ⊢;exact hp b eW e.symm
     ·rw [eW] at e ⊢;exact (hp a UZ e).symm
     ·exact h2 a UZ b eW e
   ·rintro ⟨h1,h2⟩;refine ⟨⟨fun q hq k hk=>?_,fun a ha b hb e=>h2 a (mem_cons_of_mem _ ha) b (mem_cons_of_mem _ hb) e⟩,fun k hk=>h1 p mem_cons_self k hk⟩;rw [fu] at hk;by_cases e:q.1=p.1
    ·rw [if_pos e] at hk;cases hk;exact h2 p mem_cons_self q (mem_cons_of_mem _ hq) e.symm
    ·rw [if_neg e] at hk;exact h1 q (mem_cons_of_mem _ hq) k hk
  rw [<- key,ud];unfold Rn
  cases hf:m.find p.1 with
  |none=>simp
  |some k=>
   by_cases hk:k=p.2
   ·subst hk;simp
   ·simp [hk]
theorem uU(rs:List aO):kN rs↔(rs.length<=60/\rs.all jx=true/\Hq (cB rs)/\∃ k,ew.dr (bL rs) (ew.iter (bL rs) k)):=by
 have h0:∀ p ∈ cB rs,∀ k,eE.find [] p.1=some k->k=p.2:=fun p _ k hk=>by simp [eE.find] at hk
 constructor
 ·rintro ⟨h1,⟨m,h2⟩,h3⟩;rw [rJ] at h2;split at h2
  ·rename_i ha;exact ⟨h1,ha,((DG _ _).1 ⟨m,h2⟩).2,h3⟩
  ·cases h2
 ·rintro ⟨h1,h2,h3,h4⟩;obtain ⟨m,hm⟩:=(DG (cB rs) []).2 ⟨h0,h3⟩;exact ⟨h1,⟨m,by rw [rJ,if_pos h2];exact hm⟩,h4⟩
theorem Jt{p:b7×Int}(hp:x.l[i]?=some p):ag none (.dO (x.l.flatMap nh) (i*2)) h=some (.str p.1):=fI oI hp (by omega:0<2)
theorem K8{p:b7×Int}(hp:x.l[i]?=some p):ag none (.dO (x.l.flatMap nh) (i*2+1)) h=some (.int .i64 p.2):=fI oI hp (by omega:1<2)
set_option maxHeartbeats 1000000 in
theorem bD{rules:Sl aO}(kV:∀ r ∈ rules.l,r.ok)(jz:∀ r ∈ rules.l,r.mc){h:Heap}{K:Out->Heap->Bool}(hK:∀ b:Bool,(b=true↔kN rules.l)->K (.ret (.bool b)) h=true):Sem TP 65 [ak aP 3 rules] h K:=by
 have gen:∀ R:Out->Heap->Bool,(∀ (b:Bool) h',(b=true↔kN rules.l)->R (.ret (.bool b)) h'=true)->Sem TP 65 [ak aP 3 rules] Heap.empty R:=by
  intro R fin;refine F.AW ?_;rw [F.CH];have no:∀ h',¬ kN rules.l->R (.ret (.bool false)) h'=true:=fun h' hn=>fin false h' ⟨fun h=>(by cases h),fun h=>absurd h hn⟩;simp only [aR,reduceAdd,reduceEqDiff,reduceIte];by_cases h61:60<rules.l.length
  ·simp only [fy (by omega:(60:Int)<(rules.l.length:Int)),aK];exact no _ (fun hg=>by have:=hg.mc;omega)
  have sq:rules.l.length<=60:=by omega
  have hbig:rules.l.length<=cM:=by unfold cM;omega
  simp only [eR (by omega:¬ (60:Int)<(rules.l.length:Int)),aJ];refine aD 0 rules.l.length (zero_le _) (fun i e h'=>e 0=ak aP 3 rules/\e 3 = .int .i64 (i:Int)/\(rules.l.take i).all jx=true) ⟨rfl,rfl,rfl⟩ ?_ ?_
  ·rintro i e h' _ hi ⟨e0,e3,ht⟩ K' hn hx hr hp;have hv:rules.l[i]?=some rules.l[i]:=eA hi;generalize rules.l[i]=r at hv;rw [F.bD.aT];simp only [e0,e3,aR,reduceAdd,reduceEqDiff,reduceIte,bh hi,aV rules hi,dF gv hv];refine ah (cO (kV r (ig hv)) (jz r (ig hv)) ?_);simp only [aR,reduceAdd,reduceEqDiff,reduceIte]
   cases hq:jx r with
   |false=>
    simp only [Bool.not_false,aK];rw [hr,F.bD.bC]
    exact no _ (fun hg=>by
     have:=((uU _).1 hg).2.1
     rw [all_false hv hq] at this;cases this)
   |true=>
    simp only [Bool.not_true,aJ,aI hi hbig,aq];exact hn _ _ ⟨e0,rfl,jm hv ht hq⟩
  ·rintro e h' ⟨e0,e3,ht⟩ K' hx;rw [kf (dM _)] at ht
   have uH:∀ r ∈ rules.l,r.body.l.length<=20:=fun r hr=>by
    have:=List.all_eq_true.1 ht r hr;unfold jx at this;simp only [and_eq_true,decide_eq_true_eq] at this;exact this.2.2.1
   rw [F.bD.aT];simp only [e0,e3,aR,reduceAdd,reduceEqDiff,reduceIte,aW];rw [hx,F.bD.aG];simp only [e0,aR,reduceAdd,reduceEqDiff,reduceIte];refine ah (cL sq uH fun x jG=>?_);simp only [aR,reduceAdd,reduceEqDiff,reduceIte];have I2:x.l.length<=1260:=by rw [jG];have:=tU rules.l uH;omega
   have Mo:x.l.length<=cM:=by unfold cM;omega
   refine aD 0 x.l.length (zero_le _) (fun i e h'=>e 0=ak aP 3 rules/\e 4=ak nh 2 x/\e 5 = .int .i64 (i:Int)/\∀ a b p q,a<b->b<i->x.l[a]?=some p->x.l[b]?=some q->p.1=q.1->p.2=q.2) ⟨e0,rfl,rfl,fun a b p q h1 h2=>by omega⟩ ?_ ?_
   ·rintro i e h' _ hi ⟨e0,e4,e5,xg⟩ K1 FL Qb OV Rj;have Ty:x.l[i]?=some x.l[i]:=eA hi;generalize x.l[i]=q at Ty;rw [F.bD.dh];simp only [e4,e5,aR,reduceAdd,reduceEqDiff,reduceIte,bh hi];refine aD 0 i (zero_le _) (fun j e h'=>e 0=ak aP 3 rules/\e 4=ak nh 2 x/\e 5 = .int .i64 (i:Int)/\e 6 = .int .i64 (j:Int)/\∀ a p,a<j->x.l[a]?=some p->p.1=q.1->p.2=q.2) ⟨e0,e4,e5,rfl,fun a p h1=>by omega⟩ ?_ ?_
    ·rintro j e h' _ hj ⟨e0,e4,e5,e6,haj⟩ K2 pV gi rN FD;have hjx:j<x.l.length:=by omega
     have XG:x.l[j]?=some x.l[j]:=eA hjx;generalize x.l[j]=p at XG;have hib:i<=cM:=by omega
     rw [F.bD.mg];simp only [e4,e5,e6,aR,reduceAdd,reduceEqDiff,reduceIte,bh hj,aV x hi,aV x hjx,Jt Ty,Jt XG,rA];by_cases hq:p.1=q.1
     ·simp only [fy hq,aK,e4,e5,e6,aR,reduceAdd,reduceEqDiff,reduceIte,aV x hi,aV x hjx,K8 Ty,K8 XG,cw];by_cases Qs:p.2=q.2
      ·simp only [fy Qs,Bool.not_true,aJ,aI hj hib,aq];refine pV _ _ ⟨e0,e4,e5,rfl,fun a p' h1 h2=>?_⟩;by_cases WB:a=j
       ·subst WB;rw [XG] at h2;cases h2;exact fun _=>Qs
       ·exact haj a p' (by omega) h2
      ·simp only [eR Qs,Bool.not_false,aK];rw [rN,F.bD.xY,OV,F.bD.jC];exact no _ (fun hg=>Qs (((uU _).1 hg).2.2.1 p (by rw [<- jG];exact ig XG) q (by rw [<- jG];exact ig Ty) hq))
     ·simp only [eR hq,aJ,aI hj hib,aq];refine pV _ _ ⟨e0,e4,e5,rfl,fun a p' h1 h2=>?_⟩;by_cases WB:a=j
      ·subst WB;rw [XG] at h2;cases h2;exact fun e=>absurd e hq
      ·exact haj a p' (by omega) h2
    ·rintro e h' ⟨e0,e4,e5,e6,haj⟩ K2 gi;rw [F.bD.mg];simp only [e5,e6,aR,reduceAdd,reduceEqDiff,reduceIte,aW];rw [gi,F.bD.iU];simp only [e5,aR,reduceAdd,reduceEqDiff,reduceIte,aI hi Mo];refine FL _ _ ⟨e0,e4,rfl,fun a b p' q' h1 h2 h3 h4=>?_⟩;by_cases hb:b=i
     ·subst hb;rw [Ty] at h4;cases h4;exact haj a p' h1 h3
     ·exact xg a b p' q' h1 (by omega) h3 h4
   ·rintro e h' ⟨e0,e4,e5,xg⟩ K1 Qb
    have WC:Hq (cB rules.l):=fun p hp q hq e=>by
     rw [<- jG] at hp hq;obtain ⟨a,ha⟩:=mem_iff_getElem?.1 hp;obtain ⟨b,hb⟩:=mem_iff_getElem?.1 hq;have hal:=(kg.1 ha).1;have Wo:=(kg.1 hb).1;rcases Nat.lt_trichotomy a b with h|h|h
     ·exact xg a b p q h Wo ha hb e
     ·subst h;rw [ha] at hb;cases hb;rfl
     ·exact (xg b a q p h hal hb ha e.symm).symm
    rw [F.bD.dh];simp only [e4,e5,aR,reduceAdd,reduceEqDiff,reduceIte,aW];rw [Qb,F.bD.cx];simp only [e0,aR,reduceAdd,reduceEqDiff,reduceIte];refine ah (bp sq uH (fun hk=>?_) (fun y k hk hy=>?_))
    ·simp only [aR,reduceAdd,reduceEqDiff,reduceIte];exact no _ (fun hg=>by obtain ⟨k,h⟩:=hg.lev;exact hk k h)
    ·simp only [aR,reduceAdd,reduceEqDiff,reduceIte];exact fin true _ ⟨fun _=>(uU _).2 ⟨sq,ht,WC,k,hk⟩,fun _=>rfl⟩
 have main:=gen (fun o h'=>yes (∃ b:Bool,o = .ret (.bool b)/\(b=true↔kN rules.l))) (fun b h' hb=>ct.2 ⟨b,rfl,hb⟩);refine main.frozen (by simp [AV.cN,cc fN]) fun o h' ho=>?_;obtain ⟨b,rfl,hb⟩:=ct.1 ho;exact ⟨_,_,rfl,.scalar _ rfl,hK b hb⟩
end
end Go.AM