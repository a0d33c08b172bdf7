/- Parts of the proof. Conditions: none. -/
import Derived.Test.YtfdanacohcffmaaGreatKf19
import Derived.Test.YtfdanacohcffmaaGreatKf25
set_option linter.unusedSimpArgs false
set_option linter.unusedVariables false
namespace Go.AM
open List Nat Bool Option
open Go Go.Proofs
noncomputable section
variable {K:Out->Heap->Bool} {h:Heap} {rs:List aP} {n i k sz b ck lo v S B P M:Nat} {r:aP} {lv:ey.Lv} {s:DB×Bool} {α:Type} {es:List Entry} {x:Sl (b6×Int)} {vs:List Int} {nm:b6} {D0 D:DB} {rules:Sl aP} {p:Nat->Bool} {g ng:FuncId} {ps:List Nat} {t:Sl Int} {a:AV} {e0:Env} {na nb:List AV}
structure Qt (S n:Nat) (D0:DB) (ps:List yP) (ng:FuncId) (na nb:List AV):Prop where
 n1:1<=n
 xG:n<=64
 abr:∀ p ∈ ps,p.ok
 rows:∀ nm p,D0 nm=some p->p.1≠S
 ask:∀ p ∈ ps,∀ D,eB D D0->F9 n D p.r
 head:∀ p ∈ ps,n ^ p.r.args.l.length<=4096/\p.r.args.l.length<=12/\∃ q,D0 p.r.name=some q/\q.2.length=n ^ p.r.args.l.length
 note:∀ (i:Int) (r:aP) (k:Int) (hd:Sl Int) (cs:Sl (Sl Int)) (ls:Sl Int) (y:AV) (h:Heap) (K:Out->Heap->Bool),(∀ h',bu h h'->K (.ret (.tuple [])) h'=true)->Sem TP ng (na++([.agg (bR i r k (an encI 1 hd) (an cX 1 cs) (an encI 1 ls)),y]++nb)) h K
set_option maxHeartbeats 2000000 in
theorem Jt{k0:Nat}{ps:List yP}{a1:AV}(o:Qt S n D0 ps ng na nb)(hS:h.get S=some (.cells [.int .i64 (n:Int),.map B]))(TQ:S<h.next)(hD:ei D0 h B lo)
  (wI:Own uc 8 k0 h a1 ps) (XY:∀ b,cD a1=some b->∀ nm p,D0 nm=some p->b≠p.1) (sX:ps.length<=60)
  (hK:∀ h' D',Reach n (ps.map (·.r)) D0 D'->mw n (ps.map (·.r)) (D',false)=(D',false)->eB D' D0->ei D' h' B lo->(∀ b,b<h.next->(∀ nm p,D0 nm=some p->b≠p.1)->h'.get b=h.get b)->h.next<=h'.next->K (.ret (.tuple [])) h'=true) :
  Sem TP 103 [.ptr S 0,a1,.func ng na nb] h K:=by
 have hbig:ps.length<=cN:=by unfold cN;omega
 have Ej:∀ nm p,D0 nm=some p->p.1<h.next:=fun nm p hp=>(hD.FU nm p hp).2.1
 have hBn:=hD.lt;have hBr:∀ nm p,D0 nm=some p->B≠p.1:=fun nm p hp=>Ne.symm (hD.FU nm p hp).2.2.1;refine F.sF ?_;rw [F.tG];simp only [pR (x:=.ptr S 0) rfl,pR (x:=.func ng na nb) rfl,aq,Heap.aM]
 have g3:((h.alloc (.cells [.ptr S 0])).alloc (.cells [.func ng na nb])).get h.next=some (.cells [.ptr S 0]):=by
  rw [Heap.aV,Heap.aM,if_neg (by omega)];exact aA _ _
 have g5:((h.alloc (.cells [.ptr S 0])).alloc (.cells [.func ng na nb])).get (h.next+1)=some (.cells [.func ng na nb]):=aA _ _;have gx:bu h ((h.alloc (.cells [.ptr S 0])).alloc (.cells [.func ng na nb])):=(bu.alloc _ _).trans (bu.alloc _ _);have gn:((h.alloc (.cells [.ptr S 0])).alloc (.cells [.func ng na nb])).next=h.next+1+1:=rfl
 generalize ((h.alloc (.cells [.ptr S 0])).alloc (.cells [.func ng na nb]))=H2 at g3 g5 gx gn ⊢;obtain ⟨H3,s6,a6,o6,n6⟩:=mV (h:=H2) (z:=.bool false) (v:=.bool true) rfl rfl;rw [gn] at s6 a6;simp only [s6,aq];have x3:bu h H3:=gx.trans ⟨by omega,fun b hb=>o6 b (by omega)⟩
 refine AQ (fun m e h'=>∃ (D:DB) (more:Bool) (P6:Nat),e 1=a1/\e 3 = .ptr h.next 0/\e 5 = .ptr (h.next+1) 0/\e 6 = .ptr P6 0/\h'.get P6=some (.cells [.bool more])/\h.next+1<P6/\P6<h'.next/\h'.get h.next=some (.cells [.ptr S 0])/\h'.get (h.next+1)=some (.cells [.func ng na nb]) /\
  Reach n (ps.map (·.r)) D0 D/\eB D D0/\ei D h' B lo/\(∀ b,b<h.next->(∀ nm p,D0 nm=some p->b≠p.1)->h'.get b=h.get b)/\h.next<=h'.next /\
  ((more=true/\m=DC (ps.map (·.r.name)) D+1)\/(more=false/\m=0/\mw n (ps.map (·.r)) (D,false)=(D,false)))) _
  ⟨D0,true,h.next+1+1,rfl,rfl,rfl,rfl,a6,by omega,by omega,by rw [o6 _ (by omega)];exact g3,by rw [o6 _ (by omega)];exact g5,.refl,fun _=>rfl,hD.ext x3,fun b hb _=>x3.get b hb,x3.next,.inl ⟨rfl,rfl⟩⟩ ?_
 rintro m e h' ⟨D,more,P6,e1,e3,e5,e6,q6,q6l,q6n,q3,q5,hre,xq,oW,hfr,pF,UY⟩ K0 RI YR hr0;rw [F.bX.aT];simp only [e6,aR,reduceAdd,reduceEqDiff,reduceIte,aj q6];rcases UY with ⟨Yr,hm⟩|⟨Yr,hm,abt⟩
 ·subst Yr;have st:aS 1 (.ptr P6 0) (.bool false) h'=some (h'.set P6 (.cells [.bool false])):=by rw [cq (n:=1) q6 rfl rfl (by simp)];rfl
  have abu:∀ h,bW .slice a1 h=some (.int .i64 (ps.length:Int)):=fun h=>wI.len;simp only [aL,st,aR,reduceAdd,reduceEqDiff,reduceIte,e1,abu];have f0:∀ b,b≠P6->(h'.set P6 (.cells [.bool false])).get b=h'.get b:=fun b hb=>by rw [Heap.aK,if_neg hb]
  have f6:(h'.set P6 (.cells [.bool false])).get P6=some (.cells [.bool false]):=by rw [Heap.aK,if_pos rfl]
  have fn:(h'.set P6 (.cells [.bool false])).next=h'.next:=Heap.bl _ _ _
  have fD:ei D (h'.set P6 (.cells [.bool false])) B lo:=by
   obtain ⟨es,ck,mm,z1,z2,z3⟩:=oW.ex;refine ⟨⟨es,ck,mm,by rw [f0 _ (by omega)];exact z1,z2,z3⟩,fun nm p hp=>?_,oW.inj,by rw [fn];exact oW.lt⟩;obtain ⟨c1,c2,c3,c4⟩:=oW.FU nm p hp;obtain ⟨p0,d1,d2,_⟩:=xq.back hp;have:=Ej nm p0 d1;exact ⟨c1,by rw [fn];exact c2,c3,by rw [f0 _ (by omega)];exact c4⟩
  refine aE 0 ps.length (zero_le _) (fun i e h2=>∃ s:DB×Bool,s=mw n ((ps.map (·.r)).take i) (D,false)/\Jq (ps.map (·.r.name)) D0 D s/\ei s.1 h2 B lo/\h2.get P6=some (.cells [.bool s.2])/\h2.get h.next=some (.cells [.ptr S 0])/\h2.get (h.next+1)=some (.cells [.func ng na nb]) /\
   (∀ b,b<h.next->(∀ nm p,D0 nm=some p->b≠p.1)->h2.get b=h.get b)/\h'.next<=h2.next/\e 1=a1/\e 3 = .ptr h.next 0/\e 5 = .ptr (h.next+1) 0/\e 6 = .ptr P6 0/\e 10=a1/\e 11 = .int .i64 (ps.length:Int)/\e 12 = .int .i64 (i:Int))
   ⟨(D,false),rfl,⟨xq,dL _,fun h=>(by cases h),fun _=>rfl⟩,fD,f6,by rw [f0 _ (by omega)];exact q3,by rw [f0 _ (by omega)];exact q5,fun b hb hb2=>by rw [f0 _ (by omega)];exact hfr b hb hb2,by omega,e1,e3,e5,e6,rfl,rfl,rfl⟩ ?_ ?_
  ·rintro i e h2 _ hi ⟨s,hs,hq,w1,w6,w3,w5,wf,wn,e1,e3,e5,e6,kM,qY,BA⟩ K1 MT jO Pj X1;have hv:ps[i]?=some ps[i]:=ep hi;generalize ps[i]=p at hv;have Gd:=ig hv;have pok:=o.abr p Gd
   have aey:Own uc 8 k0 h2 a1 ps:=by
    cases wI with
    |nil=>exact .nil
    |row b l z1 z2 z3=>exact .row b _ z1 (by omega) (by rw [wf b z2 (XY b rfl)];exact z3)
   obtain ⟨b,_,_,i1,i2,_⟩:=aey.get Gb hv;obtain ⟨H,iP,hL,ho,hn⟩:=cr (h:=h2) (zs:=[.int .i64 0,.str [],.ax,.ax,.int .i64 0,.ax,.ax,.ax]) (cs:=uc p) (n:=8) rfl rfl (Gc p);have xH:bu h2 H:=⟨by omega,fun b hb=>ho b (by omega)⟩
   have hL':=hL;simp only [uc,bR] at hL';have hSH:H.get S=some (.cells [.int .i64 (n:Int),.map B]):=by rw [xH.get S (by omega),wf S TQ (fun nm p hp=>Ne.symm (o.rows nm p hp))];exact hS
   rw [F.bX.dr];simp only [kM,qY,BA,aR,reduceAdd,reduceEqDiff,reduceIte,bh hi,i1,i2,iP,e3];simp only [aj (show H.get h.next=some (.cells [.ptr S 0]) by rw [xH.get _ (by omega)];exact w3),aj hL',MQ,aR,reduceAdd,reduceEqDiff,reduceIte,e5,e6]
   have so:MS S B n lo H.next h.next (h.next+1) P6 h2.next D0 p.r (varsOf p.r).length p.hd ng na nb:=
    ⟨o.n1,o.xG,⟨by omega,by omega,by omega,by omega,by omega,by omega⟩,fun nm q hq=>by have:=Ej nm q hq;exact ⟨by omega,o.rows nm q hq,by omega,by omega,by omega,by omega⟩,⟨by omega,by omega,by omega,by omega,by omega⟩,o.ask p Gd,o.head p Gd,rfl,pok.hd,o.note⟩
   have sa:oX S B n lo H.next h.next (h.next+1) P6 h2.next D0 p.r p.i (varsOf p.r).length p.hd p.cs p.ls ng na nb H s H:=
    ⟨hSH,w1.ext xH,hq.NZ,by rw [xH.get _ (by omega)];exact w3,by rw [xH.get _ (by omega)];exact w5,by rw [xH.get _ (by omega)];exact w6,hL,dL _,fun _ _ _ _=>rfl⟩
   refine ah (Li (Lj so) pok.mC rfl pok.NX pok.cs pok.ls sa (dL _) fun h5 b5 f5 n5=>?_);simp only [aR,reduceAdd,reduceEqDiff,reduceIte,BA,aI hi hbig];have hvr:(ps.map (·.r))[i]?=some p.r:=by rw [getElem?_map,hv];rfl
   refine MT _ _ ⟨kN n p.r s,by rw [Ll hvr,<- hs],Jr o.n1 (List.mem_map_of_mem (f:=fun q:yP=>q.r.name) Gd) (o.head p Gd).2.2 hq,b5.hD,b5.h6,b5.h3,b5.h5,fun b b1 b2=>?_,by omega,e1,e3,e5,e6,kM,qY,rfl⟩;rw [b5.old b (by omega) (by omega) b2,xH.get b (by omega),wf b b1 b2]
  ·rintro e h2 ⟨s,hs,hq,w1,w6,w3,w5,wf,wn,e1,e3,e5,e6,kM,qY,BA⟩ K1 jO;rw [kC (by simp)] at hs;obtain ⟨H,iP,hL,ho,hn⟩:=mV (h:=h2) (z:=.bool false) (v:=.bool s.2) rfl rfl;have xH:bu h2 H:=⟨by omega,fun b hb=>ho b (by omega)⟩
   rw [F.bX.dr];simp only [qY,BA,aR,reduceAdd,reduceEqDiff,reduceIte,aX];rw [jO,F.bX.cz];simp only [e6,aR,reduceAdd,reduceEqDiff,reduceIte,aj w6,iP];have aez:Reach n (ps.map (·.r)) D0 s.1:=by rw [hs];exact .step D hre
   have com:∀ (m':Nat) (e':Env),e' 1=a1->e' 3 = .ptr h.next 0->e' 5 = .ptr (h.next+1) 0->e' 6 = .ptr h2.next 0->m'<m->((s.2=true/\m'=DC (ps.map (·.r.name)) s.1+1)\/(s.2=false/\m'=0/\mw n (ps.map (·.r)) (s.1,false)=(s.1,false)))->K0 .normal ⟨e',22,[],H⟩=true:=fun m' e' e1 e3 e5 e6 uO hc=>
    RI m' _ _ uO ⟨s.1,s.2,h2.next,e1,e3,e5,e6,hL,by omega,by omega,by rw [xH.get _ (by omega)];exact w3,by rw [xH.get _ (by omega)];exact w5,aez,hq.NZ,w1.ext xH,fun b b1 b2=>by rw [xH.get b (by omega)];exact wf b b1 b2,by omega,hc⟩
   cases qX:s.2 with
   |true=>
    have:=hq.lt qX;exact com (DC (ps.map (·.r.name)) s.1+1) _ e1 e3 e5 rfl (by omega) (.inl ⟨qX,rfl⟩)
   |false=>
    have h1:=hq.same qX;exact com 0 _ e1 e3 e5 rfl (by omega) (.inr ⟨qX,rfl,by rw [h1,<- hs,<- h1,<- qX]⟩)
 ·subst Yr;simp only [aJ];rw [YR,F.bX.aF];exact hK h' D hre abt xq oW hfr pF
def Rel.ok(r:Rel):Prop:=r.name.length<=cN/\r.aN.l.length<=cN/\∀ t ∈ r.aN.l,t.l.length<=cN
def cM.ok(s:cM):Prop:=s.aC.l.length<=cN/\∀ r ∈ s.aC.l,r.ok
theorem Ju(hn:(es.map (·.2.2)).Nodup){e:Entry}(he:e ∈ es):lG e.2.2 es=some e:=by
 induction es with
 |nil=>cases he
 |cons a es ih=>
  rw [map_cons,nodup_cons] at hn;rw [lG];by_cases h:a.2.2=e.2.2
  ·rw [if_pos h];rw [mem_cons] at he;rcases he with rfl|he
   ·rfl
   ·exact absurd (by rw [h];exact List.mem_map_of_mem he) hn.1
  ·rw [if_neg h];rw [mem_cons] at he;rcases he with rfl|he
   ·exact absurd rfl h
   ·exact ih hn.2 he
theorem DE{defs:List pJ}{K:R->Bool}:∀ {ps:List (AV×Heap)},(∀ p ∈ ps,K (.ok p.1 defs p.2)=true)->l9 defs K ps=true
 |[],_=>rfl
 |p :: ps,h=>by
  rw [l9,h p mem_cons_self,Bool.true_and];exact DE fun q hq=>h q (mem_cons_of_mem _ hq)
theorem DF{r m:Nat}{seen:List Nat}{defs:List pJ}{K:R->Bool}(hr:h.get r=some (.fW (some m) ck seen ck))(hm:h.get m=some (.map es ck))(hB:jY es ck)(og:r≠m)
  (abw:(∀ e ∈ es,e.2.2 ∈ seen)->K (.ok (.tuple [.bool false]) defs h)=true)
  (kD:∀ e ∈ es,e.2.2 ∉ seen->sQ (.ptr r 0) (h.set r (.fW (some m) ck (seen++[e.2.2]) ck))=some (.tuple [e.1,e.2.1])->K (.ok (.tuple [.bool true,e.1,e.2.1]) defs (h.set r (.fW (some m) ck (seen++[e.2.2]) ck)))=true) :
  af (xK false (.ptr r 0) h) (l9 defs K)=true:=by
 have hc:∀ o ∈ sO es ck seen,(o=none/\∀ e ∈ es,e.2.2 ∈ seen)\/∃ e,o=some e/\e ∈ es/\e.2.2 ∉ seen:=by
  intro o ho;unfold sO at ho;simp only [mem_append,mem_map] at ho;rcases ho with ho|⟨e,he,rfl⟩
  ·split at ho
   ·rename_i hem;simp only [mem_singleton] at ho;refine .inl ⟨ho,fun e he=>?_⟩;rw [isEmpty_iff,filter_eq_nil_iff] at hem;have hlt:=hB.lt e he;by_cases hs:e.2.2 ∈ seen
    ·exact hs
    ·exact absurd (fE hlt) (hem e (by rw [mem_filter];exact ⟨he,by simpa using hs⟩))
   ·cases ho
  ·refine .inr ⟨e,rfl,?_⟩
   have:e ∈ es.filter fun e=>!seen.contains e.2.2:=by
    rcases he with he|he
    ·exact (mem_filter.1 he).1
    ·exact (mem_filter.1 he).1
   rw [mem_filter] at this;exact ⟨this.1,by simpa using this.2⟩
 have hne:sO es ck seen≠[]:=by
  unfold sO;intro he;simp only [append_eq_nil_iff,map_eq_nil_iff] at he;obtain ⟨h1,h2,_⟩:=he;rw [h2] at h1;simp at h1
 have aeA:(!seen.isEmpty&&!es.isEmpty&&es.all (fun e=>decide (e.2.2>=ck)))=false:=by
  cases es with
  |nil=>simp
  |cons e es=>
   have:=hB.lt e mem_cons_self;rw [all_cons,eT (by omega),Bool.false_and,Bool.and_false]
 unfold xK;simp only [hr,hm,aeA,false_eq_true,if_false]
 cases hcs:sO es ck seen with
 |nil=>exact absurd hcs hne
 |cons c cs=>
  rw [hcs] at hc;simp only [aq];refine DE fun p hp=>?_;rw [mem_map] at hp;obtain ⟨o,ho,rfl⟩:=hp;rcases hc o ho with ⟨rfl,lY⟩|⟨e,rfl,he,hs⟩
  ·exact abw lY
  ·refine kD e he hs ?_;unfold sQ;simp only [Heap.aK,if_true,if_neg (Ne.symm og),hm,getLast?_concat,Ju hB.nodup he]
theorem ki.TV:∀ {es:List Entry} {m:eF},ki es m->∀ p ∈ m,∃ e ∈ es,e.1 = .str p.1/\e.2.1 = .int .i64 p.2
 |_,[],_,p,hp=>by cases hp
 |[],q :: m,h,_,_=>h.elim
 |e0 :: es,q :: m,⟨h1,h2,h3⟩,p,hp=>by
  rcases mem_cons.1 hp with rfl|hp
  ·exact ⟨e0,mem_cons_self,h1,h2⟩
  ·obtain ⟨e,he,r⟩:=ki.TV h3 p hp;exact ⟨e,mem_cons_of_mem _ he,r⟩
def DG(es:List Entry)(seen:List Nat):Nat:=(es.filter fun e=>!seen.contains e.2.2).length
theorem Qu{seen:List Nat}{e:Entry}(he:e ∈ es)(hs:e.2.2 ∉ seen):DG es (seen++[e.2.2])<DG es seen:=by
 have h1:(es.filter fun a=>!(seen++[e.2.2]).contains a.2.2)=(es.filter fun a=>!seen.contains a.2.2).filter fun a=>!(a.2.2==e.2.2):=by
  rw [List.filter_filter];refine filter_congr fun a _=>?_;rw [Bool.eq_iff_iff];simp;exact And.comm
 unfold DG;rw [h1];refine length_filter_lt_length_iff_exists.2 ⟨e,mem_filter.2 ⟨he,by simpa using hs⟩,by simp⟩
theorem zS{f:St->(AX->St->Bool)->Bool}{K:AX->St->Bool}{defs:List pJ}{h0:Heap}(es:List Entry)(J:List Nat->Env->Heap->Prop)(hJ:J [] e0 h0)
  (step:∀ seen e h,J seen e h->∀ K':AX->St->Bool,(∀ en ∈ es,en.2.2 ∉ seen->∀ e' h',J (seen++[en.2.2]) e' h'->K' .normal ⟨e',n,defs,h'⟩=true)->(∀ id s,K' (.exit id) s=K (.exit id) s)->(∀ s,K' .ret s=K .ret s)->(∀ v s,K' (.panic v) s=K (.panic v) s)->f ⟨e,n,defs,h⟩ K'=true) :
  bY f ⟨e0,n,defs,h0⟩ K=true:=by
 refine lp (fun m e h=>∃ seen,m=DG es seen/\J seen e h) (DG es []) ⟨[],rfl,hJ⟩ fun m e h hi=>?_;obtain ⟨seen,rfl,hj⟩:=hi;exact step seen e h hj _ (fun en su hs e' h' GW=>rA (I:=fun m e h=>∃ seen,m=DG es seen/\J seen e h) (DG es (seen++[en.2.2])) (Qu su hs) ⟨_,rfl,GW⟩) (fun _ _=>rfl) (fun _=>rfl) (fun _ _=>rfl)
theorem eB.trans{A B C:DB}(h1:eB A B)(h2:eB B C):eB A C:=fun nm=>(h1 nm).trans (h2 nm)
def gG(lv:ey.Lv)(rs:List aP)(l:Nat):List aP:=rs.filter fun r=>decide (lv r.name=l)
inductive Ge (n:Nat) (rs:List aP) (lv:ey.Lv) (D0:DB):Nat->DB->Prop
 |zero:Ge n rs lv D0 0 D0
 |succ (l:Nat) (D D':DB):Ge n rs lv D0 l D->Reach n (gG lv rs l) D D'->mw n (gG lv rs l) (D',false)=(D',false)->Ge n rs lv D0 (l+1) D'
theorem HC{l:Nat}(hr:rs[i]?=some r):gG lv (rs.take (i+1)) l=gG lv (rs.take i) l++if lv r.name=l then [r] else []:=by
 unfold gG;rw [take_add_one,hr,toList_some,filter_append];by_cases h:lv r.name=l<;>simp [h]
theorem WM(p:yP):gd [.int .i64 0,.str [],.ax,.ax,.int .i64 0,.ax,.ax,.ax] [(0,8)] [.agg (uc p)]=some (uc p):=by
 obtain ⟨i,r,hd,cs,ls⟩:=p;obtain ⟨nm,xs,ys⟩:=r;cases hd<;>cases cs<;>cases ls<;>cases xs<;>cases ys<;>rfl
structure Qv (S n:Nat) (D0:DB) (rs:List aP) (ng:FuncId) (na nb:List AV):Prop where
 n1:1<=n
 xG:n<=64
 mC:∀ r ∈ rs,r.mC
 NX:∀ r ∈ rs,(varsOf r).length<=12
 rows:∀ nm p,D0 nm=some p->p.1≠S
 ask:∀ r ∈ rs,∀ D,eB D D0->F9 n D r
 head:∀ r ∈ rs,n ^ r.args.l.length<=4096/\r.args.l.length<=12/\∃ q,D0 r.name=some q/\q.2.length=n ^ r.args.l.length
 note:∀ (i:Int) (r:aP) (k:Int) (hd:Sl Int) (cs:Sl (Sl Int)) (ls:Sl Int) (y:AV) (h:Heap) (K:Out->Heap->Bool),(∀ h',bu h h'->K (.ret (.tuple [])) h'=true)->Sem TP ng (na++([.agg (bR i r k (an encI 1 hd) (an cX 1 cs) (an encI 1 ls)),y]++nb)) h K
 Qw:rs.length<=60
theorem Jv{A:Nat}{hs ks:List b6}(o:Qv S n D0 rules.l ng na nb){l:Nat}{K:AX->St->Bool}
  (hP:h.get P=some (.cells [an aO 3 rules,.map A,.map M])) (RF:P<h.next) (hl:fC hs h M ks lv) (WC:M<h.next) (hin:∀ r ∈ rules.l,r.name ∈ hs)
  (q0:e0 0 = .ptr P 0) (q1:e0 1 = .ptr S 0) (q2:e0 2 = .func ng na nb) (q9:e0 9 = .int .i64 (l:Int)) (q10:e0 10 = .ax) (q33:e0 33=an aO 3 rules) (q34:e0 34 = .int .i64 (rules.l.length:Int)) (q35:e0 35 = .int .i64 0) {T:AV} (q26:e0 26=T) (q27:e0 27 = .int .i64 (l:Int))
  (done:∀ (e:Env) h' a ps,bu h h'->Own uc 8 h.next h' a ps->(∀ p ∈ ps,p.ok)->ps.map (·.r)=gG lv rules.l l->e 0 = .ptr P 0->e 1 = .ptr S 0->e 2 = .func ng na nb->e 10=a->e 26=T->e 27 = .int .i64 (l:Int)->F.aY.y8 K (.exit 4) ⟨e,62,[],h'⟩=true) :
  bY (EV F.aY.L2) ⟨e0,62,[],h⟩ (F.aY.y8 K)=true:=by
 have hbig:rules.l.length<=cN:=by have:=o.Qw;unfold cN;omega
 refine aE 0 rules.l.length (zero_le _) (fun i e h'=>∃ a ps,bu h h'/\Own uc 8 h.next h' a ps/\(∀ p ∈ ps,p.ok)/\ps.map (·.r)=gG lv (rules.l.take i) l/\e 0 = .ptr P 0/\e 1 = .ptr S 0/\e 2 = .func ng na nb/\e 9 = .int .i64 (l:Int)/\e 10=a/\e 33=an aO 3 rules/\e 34 = .int .i64 (rules.l.length:Int)/\e 35 = .int .i64 (i:Int)/\e 26=T/\e 27 = .int .i64 (l:Int))
  ⟨.ax,[],bu.refl _,.nil,fun p hp=>(by cases hp),rfl,q0,q1,q2,q9,q10,q33,q34,q35,q26,q27⟩ ?_ ?_
 ·rintro i e h' _ hi ⟨a,ps,hx,oa,lu,wI,e0,e1,e2,e9,kM,e33,WN,e35,BX,BY⟩ K' hn fK hr hp;have hv:rules.l[i]?=some rules.l[i]:=ep hi;generalize rules.l[i]=r at hv;have og:=ig hv;obtain ⟨H,Fc,g1,go,gn⟩:=cr (h:=h') (zs:=[.str [],.ax,.ax]) (cs:=aO r) (n:=3) rfl rfl (kr r);have xH:bu h H:=hx.trans ⟨by omega,fun b hb=>go b (by omega)⟩;have pP:H.get P=some (.cells [an aO 3 rules,.map A,.map M]):=by rw [xH.get P RF];exact hP
  have pl:fC hs H M ks lv:=hl.gr (xH.get M WC);have iP:=HC (lv:=lv) (l:=l) hv;rw [F.aY.mG];simp only [e0,e9,kM,e33,WN,e35,aR,reduceAdd,reduceEqDiff,reduceIte,bh hi,aW rules hi,dm gE hv,Fc];simp only [aR,reduceAdd,reduceEqDiff,reduceIte,ct,aj pP,aj g1,aO,pl.Vj,if_pos (hin r og),cA];by_cases Vo:lv r.name=l
  ·rw [if_pos Vo] at iP;simp only [fE (by omega:(lv r.name:Int)=(l:Int)),aL,aR,reduceAdd,reduceEqDiff,reduceIte,aj g1,aO,rO];refine ah (cE (o.mC r og) fun hd cs ls h1 h2 h3=>?_);have ny:=WM ⟨(i:Int),r,hd,cs,ls⟩;have oH:=oa.ext (h':=H) ⟨by omega,fun b hb=>go b (by omega)⟩
   have aby:ps.length<=60:=by
    have z1:=congrArg List.length wI;rw [length_map] at z1;have z2:(gG lv (rules.l.take i) l).length<=(rules.l.take i).length:=length_filter_le _ _;have z3:=length_take_le' i rules.l;have:=o.Qw;omega
   obtain ⟨a2,h3',p1,p2,p3,p4,p5,p6⟩:=oH.push Gb Gc xH.next (bytes:=152) (by unfold cI;omega) ⟨(i:Int),r,hd,cs,ls⟩
   simp only [uc] at ny p1;simp only [aR,reduceAdd,reduceEqDiff,reduceIte,ny,kM,p1,e35,aI hi hbig];refine hn _ _ ⟨a2,_,p5 h xH (dL _),p2,fun p hp=>?_,by rw [map_append,wI,iP];rfl,e0,e1,e2,e9,rfl,e33,WN,rfl,BX,BY⟩;rcases mem_append.1 hp with hp|hp
   ·exact lu p hp
   ·rw [mem_singleton] at hp;subst hp;exact ⟨o.mC r og,o.NX r og,h1,h2,h3⟩
  ·rw [if_neg Vo,append_nil] at iP;simp only [eT (by omega:¬ (lv r.name:Int)=(l:Int)),aJ,e35,aI hi hbig,aq];exact hn _ _ ⟨a,ps,xH,oa.ext ⟨by omega,fun b hb=>go b (by omega)⟩,lu,by rw [iP];exact wI,e0,e1,e2,e9,kM,e33,WN,rfl,BX,BY⟩
 ·rintro e h' ⟨a,ps,hx,oa,lu,wI,e0,e1,e2,e9,kM,e33,WN,e35,BX,BY⟩ K' fK;rw [F.aY.mG];simp only [WN,e35,aR,reduceAdd,reduceEqDiff,reduceIte,aX];rw [fK];rw [kC (dL _)] at wI;exact done _ h' a ps hx oa lu wI e0 e1 e2 kM BX BY
def qL(ns:List b6)(lv:ey.Lv):List Int:=ns.map fun s=>(lv s:Int)
theorem DH(ns:List b6)(lv:ey.Lv):(qL ns lv).length=ns.length:=by simp [qL]
theorem qM{ns:List b6}{s:b6}(h:ns[i]?=some s):(qL ns lv)[i]?=some (lv s:Int):=by
 unfold qL;rw [getElem?_map,h];rfl
theorem oh{α:Type}:∀ {l:List α} {i j:Nat} {s:α},l.Nodup->l[i]?=some s->l[j]?=some s->i=j
 |[],i,j,s,_,h,_=>by simp at h
 |a :: l,0,0,s,_,_,_=>rfl
 |a :: l,0,j+1,s,hn,h1,h2=>by
  simp only [getElem?_cons_zero,Option.some.injEq,getElem?_cons_succ] at h1 h2;subst h1;exact absurd (ig h2) (nodup_cons.1 hn).1
 |a :: l,i+1,0,s,hn,h1,h2=>by
  simp only [getElem?_cons_zero,Option.some.injEq,getElem?_cons_succ] at h1 h2;subst h2;exact absurd (ig h1) (nodup_cons.1 hn).1
 |a :: l,i+1,j+1,s,hn,h1,h2=>by
  rw [getElem?_cons_succ] at h1 h2;rw [oh (nodup_cons.1 hn).2 h1 h2]
theorem Qx{ns:List b6}(hn:ns.Nodup){e:ey.Edge}{a:Nat}(ha:ns[a]?=some e.h)(hlt:lv e.h<lv e.b+e.w):(qL ns lv).set a ((lv e.b+e.w:Nat):Int)=qL ns (ey.gZ lv e):=by
 have hal:=(jJ.1 ha).1;refine ext_getElem? fun j=>?_;rw [getElem?_set];have vz:∀ x,ey.gZ lv e x=if x=e.h then lv e.b+e.w else lv x:=fun x=>by unfold ey.gZ;rw [if_pos hlt]
 by_cases hj:a=j
 ·subst hj;rw [if_pos rfl,if_pos (by rw [DH];exact hal),qM ha,vz,if_pos rfl]
 ·rw [if_neg hj]
  cases hs:ns[j]? with
  |none=>unfold qL;rw [getElem?_map,getElem?_map,hs];rfl
  |some t=>
   rw [qM hs,qM hs,vz,if_neg];intro e1;subst e1;exact hj (oh hn ha hs)
theorem Jw{e:ey.Edge}{s:b6}(h:s≠e.h):ey.gZ lv e s=lv s:=by
 unfold ey.gZ;split
 ·exact if_neg h
 ·rfl
set_option maxHeartbeats 2000000 in
theorem bp{rules:Sl aP}(sJ:rules.l.length<=60)(uV:∀ r ∈ rules.l,r.body.l.length<=20){h:Heap}{K:Out->Heap->Bool}
  (y9:(∀ k,¬ ey.di (bK rules.l) (ey.iter (bK rules.l) k))->K (.ret (.tuple [.ax,.bool false])) h=true)
  (zR:∀ (y:Sl Int) k,ey.di (bK rules.l) (ey.iter (bK rules.l) k)->y.l=qL (eG rules.l) (ey.iter (bK rules.l) k)->K (.ret (.tuple [an encI 1 y,.bool true])) h=true) :
  Sem TP 114 [an aO 3 rules] h K:=by
 have hbig:rules.l.length<=cN:=by unfold cN;omega
 have hN:∀ e ∈ bK rules.l,e.b ∈ eG rules.l/\e.h ∈ eG rules.l:=fun e he=>by
  obtain ⟨r,hr,c,hc,_,hin,rfl⟩:=tX he;exact ⟨(fS _).2 hin,(fS _).2 (List.mem_map_of_mem hr)⟩
 have hw:∀ e ∈ bK rules.l,e.w<=1:=fun e he=>by
  obtain ⟨r,hr,c,hc,_,hin,rfl⟩:=tX he;exact Ld r c
 have Qs:=AR (pV rules.l);have hdl:(eG rules.l).length<=60:=by have:=oY rules.l;omega
 have main:Sem TP 114 [an aO 3 rules] Heap.empty (fun o h'=>yes (((∀ k,¬ ey.di (bK rules.l) (ey.iter (bK rules.l) k))/\o = .ret (.tuple [.ax,.bool false])) \/
   ∃ (a:AV) (y:Sl Int) (k:Nat),o = .ret (.tuple [a,.bool true])/\Fz true h' a (an encI 1 y)/\ey.di (bK rules.l) (ey.iter (bK rules.l) k)/\y.l=qL (eG rules.l) (ey.iter (bK rules.l) k))):=by
  refine F.zD ?_;rw [F.Bg]
  generalize hR:(fun (o:Out) (h':Heap)=>yes (((∀ k,¬ ey.di (bK rules.l) (ey.iter (bK rules.l) k))/\o = .ret (.tuple [.ax,.bool false])) \/
   ∃ (a:AV) (y:Sl Int) (k:Nat),o = .ret (.tuple [a,.bool true])/\Fz true h' a (an encI 1 y)/\ey.di (bK rules.l) (ey.iter (bK rules.l) k)/\y.l=qL (eG rules.l) (ey.iter (bK rules.l) k)))=R
  have aeB:(∀ k,¬ ey.di (bK rules.l) (ey.iter (bK rules.l) k))->∀ h',R (.ret (.tuple [.ax,.bool false])) h'=true:=fun hk h'=>by
   subst hR;exact cw.2 (.inl ⟨hk,rfl⟩)
  have abz:∀ h' a (y:Sl Int) k,Fz true h' a (an encI 1 y)->ey.di (bK rules.l) (ey.iter (bK rules.l) k)->y.l=qL (eG rules.l) (ey.iter (bK rules.l) k)->R (.ret (.tuple [a,.bool true])) h'=true:=fun h' a y k q1 q2 q3=>by
   subst hR;exact cw.2 (.inr ⟨a,y,k,rfl,q1,q2,q3⟩)
  clear hR;refine ah (dA sJ fun x jO=>?_);have Jn:x.l.length<=60:=by rw [jO];exact hdl
  have MO:x.l.length<=cN:=by unfold cN;omega
  simp only [aR,reduceAdd,reduceEqDiff,reduceIte,BU (show x.l.length<=1000000 by omega)]
  have gU:(Heap.alloc Heap.empty (.cells ((replicate x.l.length (0:Int)).map iv))).get 0=some (.cells ((qL x.l (ey.iter (bK rules.l) 0)).map iv)):=by
   have:qL x.l (ey.iter (bK rules.l) 0)=replicate x.l.length (0:Int):=by
    show x.l.map (fun _=>(0:Int))=_;exact map_const'
   rw [this];exact aA _ _
  have gn:(Heap.alloc Heap.empty (.cells ((replicate x.l.length (0:Int)).map iv))).next=1:=rfl
  simp only [bU];generalize (Heap.alloc Heap.empty (.cells ((replicate x.l.length (0:Int)).map iv)))=H0 at gU gn ⊢;rw [<- jO] at hN Qs abz
  refine AQ (fun m e h'=>∃ k,h'.get 0=some (.cells ((qL x.l (ey.iter (bK rules.l) k)).map iv))/\0<h'.next/\(∀ s,ey.iter (bK rules.l) k s<=x.l.length)/\e 0=an aO 3 rules/\e 4=an encS 1 x/\e 5 = .slice 0 0 x.l.length 1 /\
   ((e 6 = .bool true/\m=x.l.length*x.l.length+2-(x.l.map (ey.iter (bK rules.l) k)).sum)\/(e 6 = .bool false/\m=0/\ey.di (bK rules.l) (ey.iter (bK rules.l) k)))) _
   ⟨0,gU,by omega,fun s=>zero_le _,rfl,rfl,rfl,.inl ⟨rfl,rfl⟩⟩ ?_
  rintro m e h' ⟨k,qU,qn,bd,e0,e4,e5,UY⟩ K0 RI YR hr0;rw [F.bp.aT];rcases UY with ⟨e6,hm⟩|⟨e6,hm,iP⟩
  ·have TW:(x.l.map (ey.iter (bK rules.l) k)).sum<=x.l.length*x.l.length:=ey.Kl x.l fun s _=>bd s;simp only [e6,cC,aL]
   refine aE 0 rules.l.length (zero_le _) (fun i e h'=>∃ cur ch,ey.RS (ey.iter (bK rules.l) k) cur (jq (bE rules.l) (rules.l.take i)) ch/\h'.get 0=some (.cells ((qL x.l cur).map iv))/\0<h'.next/\(∀ s,cur s<=x.l.length) /\
    e 0=an aO 3 rules/\e 4=an encS 1 x/\e 5 = .slice 0 0 x.l.length 1/\e 6 = .bool ch/\e 7 = .int .i64 (i:Int)) ⟨_,false,ey.RS.nil _,qU,qn,bd,e0,e4,e5,rfl,rfl⟩ ?_ ?_
   ·rintro i e h' _ hi ⟨cur,ch,rs,qU,qn,bd,e0,e4,e5,e6,e7⟩ K1 MT Qy Pj X1;have hv:rules.l[i]?=some rules.l[i]:=ep hi;generalize rules.l[i]=r at hv;have abe:=uV r (ig hv);have AO:r.body.l.length<=cN:=by unfold cN;omega
    have abA:r.name ∈ x.l:=(by rw [jO];exact (fS _).2 (List.mem_map_of_mem (ig hv)));have ld:∀ j,j<3->∀ h,ag none (.dN (rules.l.flatMap aO) (i*3+j)) h=(aO r)[j]?:=fun j hj h=>fL gE hv hj;have ld0:∀ h,ag none (.dN (rules.l.flatMap aO) (i*3)) h=some (.str r.name):=fun h=>ld 0 (by omega) h;rw [F.bp.dr];simp only [e0,e4,e7,aR,reduceAdd,reduceEqDiff,reduceIte,bh hi,aW rules hi,ld0];refine ah (dX MO (fun a ha=>?_) (fun HD=>absurd abA HD));have hal:=(jJ.1 ha).1;simp only [aR,reduceAdd,reduceEqDiff,reduceIte]
    refine aE 0 r.body.l.length (zero_le _) (fun j e h2=>∃ cur ch,ey.RS (ey.iter (bK rules.l) k) cur (jq (bE rules.l) (rules.l.take i)++nC (bE rules.l) r (r.body.l.take j)) ch/\h2.get 0=some (.cells ((qL x.l cur).map iv))/\0<h2.next/\(∀ s,s≠r.name->cur s<=x.l.length)/\(∀ s,cur s<=x.l.length+j) /\
     e 0=an aO 3 rules/\e 4=an encS 1 x/\e 5 = .slice 0 0 x.l.length 1/\e 6 = .bool ch/\e 7 = .int .i64 (i:Int)/\e 8 = .int .i64 (a:Int)/\e 9 = .int .i64 (j:Int))
     ⟨cur,ch,by simpa [nC] using rs,qU,qn,fun s _=>bd s,by simpa using bd,e0,e4,e5,e6,e7,rfl,rfl⟩ ?_ ?_
    ·rintro j e h2 _ hj ⟨cur,ch,rs,qU,qn,bd1,bd2,e0,e4,e5,e6,e7,e8,e9⟩ K2 pH gm rY F5;have hc:r.body.l[j]?=some r.body.l[j]:=ep hj;generalize r.body.l[j]=c at hc;obtain ⟨H2,qX,k1,ko,kn⟩:=cr (h:=h2) (zs:=[.int .i64 0,.bool false,.str [],.ax]) (cs:=bL c) (n:=4) rfl rfl (iC c);have kU:H2.get 0=some (.cells ((qL x.l cur).map iv)):=by rw [ko 0 (by omega)];exact qU
     have iP:=AJ (hs:=bE rules.l) (r:=r) hc
     have skip:mo (bE rules.l) r c = []->∀ e':Env,e' 0=an aO 3 rules->e' 4=an encS 1 x->e' 5 = .slice 0 0 x.l.length 1->e' 6 = .bool ch->e' 7 = .int .i64 (i:Int)->e' 8 = .int .i64 (a:Int)->e' 9 = .int .i64 ((j+1:Nat):Int)->K2 .normal ⟨e',89,[],H2⟩=true:=by
      intro OR e' e0 e4 e5 e6 e7 e8 e9;rw [OR,append_nil] at iP;exact pH _ _ ⟨cur,ch,by rw [iP];exact rs,kU,by omega,bd1,fun s=>by have:=bd2 s;omega,e0,e4,e5,e6,e7,e8,e9⟩
     rw [F.bp.mG];simp only [e0,e4,e7,e9,aR,reduceAdd,reduceEqDiff,reduceIte,aW rules hi,ld 2 (by omega),aO,bh hj,aW r.body hj,dm iB hc,qX];simp only [aR,reduceAdd,reduceEqDiff,reduceIte,aj k1,bL];refine ah (dX MO (fun b hb=>?_) (fun HD=>?_))
     ·have WO:=(jJ.1 hb).1;have aeC:c.name ∈ bE rules.l:=by rw [<- fS,<- jO];exact ig hb
      simp only [aR,reduceAdd,reduceEqDiff,reduceIte,aj k1,bL,cA];by_cases k0:c.kind=0
      ·have OR:mo (bE rules.l) r c = [fA r c]:=(by unfold mo;rw [if_pos ⟨k0,aeC⟩]);rw [OR] at iP;simp only [fE k0,aL,fE (show (0:Int)<=(b:Int) by omega),e5,nF WO,nN kU (qM hb),aR,reduceAdd,reduceEqDiff,reduceIte,aj k1,bL]
       have J:∀ e':Env,e' 0=an aO 3 rules->e' 4=an encS 1 x->e' 5 = .slice 0 0 x.l.length 1->e' 6 = .bool ch->e' 7 = .int .i64 (i:Int)->e' 8 = .int .i64 (a:Int)->e' 9 = .int .i64 (j:Int)->e' 12 = .int .i64 ((cur c.name+(fA r c).w:Nat):Int) ->
         F.bp.J0 K2 ⟨e',89,[],H2⟩=true:=by
        intro e' e0 e4 e5 e6 e7 e8 e9 BA;rw [F.bp.yu];simp only [e5,e8,BA,nF hal,nN kU (qM ha),aR,reduceAdd,reduceEqDiff,reduceIte];by_cases hlt:cur r.name<cur c.name+(fA r c).w
        ·have me:=Qx Qs (e:=fA r c) ha hlt;have Qz:=yH (v:=((cur c.name+(fA r c).w:Nat):Int)) kU (i:=a) (by rw [DH];exact hal);have abD:(qL x.l cur).set a ((cur c.name+(fA r c).w:Nat):Int)=qL x.l (ey.gZ cur (fA r c)):=me;rw [abD] at Qz;simp only [bh hlt,aL,e5,e8,e9,BA,nF hal,Qz,aR,reduceAdd,reduceEqDiff,reduceIte,aI hj AO];refine pH _ _ ⟨_,true,?_,by rw [Heap.aK,if_pos rfl],by rw [Heap.bl];omega,fun s hs=>?_,fun s=>?_,e0,e4,e5,rfl,e7,e8,rfl⟩
         ·rw [iP,<- append_assoc];exact rs.up hlt
         ·rw [Jw (e:=fA r c) hs];exact bd1 s hs
         ·have:=ey.sN (e:=fA r c) bd2 (Ld r c) s;omega
        ·simp only [eT (by omega:¬ ((cur r.name:Int)<((cur c.name+(fA r c).w:Nat):Int))),aJ,e9,aI hj AO,aq];exact pH _ _ ⟨cur,ch,by rw [iP,<- append_assoc];exact rs.same hlt,kU,by omega,bd1,fun s=>by have:=bd2 s;omega,e0,e4,e5,e6,e7,e8,rfl⟩
       cases hng:c.neg with
       |true=>
        have hw1:(fA r c).w=1:=(by unfold fA;simp [hng]);have Dr:=aI (i:=cur c.name) (n:=2000000) (by have:=bd2 c.name;omega) (by unfold cN;omega);simp only [aL,Dr,aq];exact J _ e0 e4 e5 e6 e7 e8 e9 (by rw [hw1];rfl)
       |false=>
        have hw1:(fA r c).w=0:=(by unfold fA;simp [hng]);simp only [aJ];exact J _ e0 e4 e5 e6 e7 e8 e9 (by rw [hw1];rfl)
      ·simp only [eT k0,aJ,e9,aI hj AO,aq];exact skip (by unfold mo;rw [if_neg (fun h=>k0 h.1)]) _ e0 e4 e5 e6 e7 e8 rfl
     ·have abE:c.name ∉ bE rules.l:=fun h=>HD (by rw [jO];exact (fS _).2 h);have OR:mo (bE rules.l) r c = []:=by unfold mo;rw [if_neg (fun h=>abE h.2)]
      simp only [aR,reduceAdd,reduceEqDiff,reduceIte,aj k1,bL,cA];by_cases k0:c.kind=0
      ·simp only [fE k0,aL,show decide ((0:Int)<=-1)=false from rfl,aJ,e9,aI hj AO,aq];exact skip OR _ e0 e4 e5 e6 e7 e8 rfl
      ·simp only [eT k0,aJ,e9,aI hj AO,aq];exact skip OR _ e0 e4 e5 e6 e7 e8 rfl
    ·rintro e h2 ⟨cur,ch,rs,qU,qn,bd1,bd2,e0,e4,e5,e6,e7,e8,e9⟩ K2 gm;rw [kC (dL _),<- Dq hv] at rs;rw [F.bp.mG];simp only [e0,e7,e9,aR,reduceAdd,reduceEqDiff,reduceIte,aW rules hi,ld 2 (by omega),aO,aX];rw [gm,F.bp.iZ];simp only [e4,e5,e7,e8,nF hal,nN qU (qM ha),aR,reduceAdd,reduceEqDiff,reduceIte];by_cases Ph:x.l.length<cur r.name
     ·simp only [bh Ph,aL];rw [Pj,F.bp.jG,hr0,F.bp.bB];refine aeB (ey.high (N:=x.l) hN hw (k:=k) (E1:=jq (bE rules.l) (rules.l.take (i+1))) (E2:=jq (bE rules.l) (rules.l.drop (i+1))) ?_ abA (by rw [<- rs.eq];exact Ph)) _;unfold bK jq;rw [<- flatMap_append,take_append_drop]
     ·simp only [eT (by omega:¬ ((x.l.length:Int)<(cur r.name:Int))),aJ,e7,aI hi hbig,aq];refine MT _ _ ⟨cur,ch,rs,qU,qn,fun s=>?_,e0,e4,e5,e6,rfl⟩;by_cases hs:s=r.name
      ·subst hs;omega
      ·exact bd1 s hs
   ·rintro e h' ⟨cur,ch,rs,qU,qn,bd',e0,e4,e5,e6,e7⟩ K1 Qy;rw [kC (dL _)] at rs;obtain ⟨d1,d2⟩:=rs.done;have d1':cur=ey.iter (bK rules.l) (k+1):=d1;rw [F.bp.dr];simp only [e0,e7,aR,reduceAdd,reduceEqDiff,reduceIte,aX];rw [Qy,F.bp.cz];by_cases iP:ey.di (bK rules.l) (ey.iter (bK rules.l) k)
    ·have Jx:ey.di (jq (bE rules.l) rules.l) (ey.iter (bK rules.l) k):=iP;rw [fE Jx] at d2;have d3:cur=ey.iter (bK rules.l) k:=by rw [d1];exact ey.wD iP
     rw [d3] at qU;exact RI 0 _ _ (by omega) ⟨k,qU,qn,bd,e0,e4,e5,.inr ⟨by simp only [bO,reduceEqDiff,reduceIte,e6,d2];rfl,rfl,iP⟩⟩
    ·have Jx:¬ ey.di (jq (bE rules.l) rules.l) (ey.iter (bK rules.l) k):=iP;rw [eT Jx] at d2;rw [d1'] at qU bd';have h1:=ey.Nb hN iP;have h2:(x.l.map (ey.iter (bK rules.l) (k+1))).sum<=x.l.length*x.l.length:=ey.Kl x.l fun s _=>bd' s;have h3:(x.l.map (ey.iter (bK rules.l) k)).sum<(x.l.map (ey.iter (bK rules.l) (k+1))).sum:=h1;exact RI _ _ _ (by rw [hm];omega) ⟨k+1,qU,qn,bd',e0,e4,e5,.inl ⟨by simp only [bO,reduceEqDiff,reduceIte,e6,d2];rfl,rfl⟩⟩
  ·simp only [e6,cC,aJ];rw [YR,F.bp.aF];simp only [bO,reduceEqDiff,reduceIte,e5];have hf:=I4 qU;rw [DH] at hf;exact abz _ _ (some (qL x.l (ey.iter (bK rules.l) k))) k hf iP rfl
 refine main.frozen (by simp [AV.cL,cj fR]) fun o h' ho=>?_;rcases cw.1 ho with ⟨hb,rfl⟩|⟨a,y,k,rfl,f1,iP,s3⟩
 ·exact ⟨_,_,rfl,.dO rfl,y9 hb⟩
 ·have fl:=lQ.cons f1 (lQ.cons (Fz.scalar (.bool true) rfl) lQ.nil);exact ⟨_,_,rfl,.tuple _ _ fl.len fl.rel,zR y k iP s3⟩
set_option maxHeartbeats 2000000 in
theorem N7{A:Nat}{hs ks:List b6}(o:Qv S n D0 rules.l ng na nb)
  (hP:h.get P=some (.cells [an aO 3 rules,.map A,.map M])) (RF:P<h.next) (hl:fC hs h M ks lv) (BV:ks.Nodup) (WC:M<h.next) (hin:∀ r ∈ rules.l,r.name ∈ hs) (Vo:∀ x,lv x<=1000000)
  (hS:h.get S=some (.cells [.int .i64 (n:Int),.map B])) (TQ:S<h.next) (hD:ei D0 h B lo) (hPM:∀ nm p,D0 nm=some p->p.1≠P/\p.1≠M)
  (hK:∀ h' D' T,(∀ x ∈ hs,lv x<=T)->Ge n rules.l lv D0 (T+1) D'->eB D' D0->ei D' h' B lo->(∀ b,b<h.next->(∀ nm p,D0 nm=some p->b≠p.1)->h'.get b=h.get b)->h.next<=h'.next->K (.ret (.tuple [])) h'=true) :
  Sem TP 59 [.ptr P 0,.ptr S 0,.func ng na nb] h K:=by
 obtain ⟨es,ck,m,z1,z2,z3,z4,z5⟩:=hl.ex;have aeE:(m.map (·.1)).Nodup:=by rw [z4];exact BV
 have EA:∀ p ∈ m,p.1 ∈ hs/\p.2=(lv p.1:Int):=fun p hp=>by
  have h1:=uX aeE hp;rw [z5] at h1;by_cases hh:p.1 ∈ hs
  ·rw [if_pos hh] at h1;exact ⟨hh,(Option.some.inj h1).symm⟩
  ·rw [if_neg hh] at h1;cases h1
 refine F.sG ?_;rw [F.tI];have XU:mM .map (.map M) h=some (.ptr h.next 0,h.alloc (.fW (some M) ck [] ck)):=by simp only [mM,z1]
 simp only [aR,reduceAdd,reduceEqDiff,reduceIte,ct,aj hP,XU]
 refine zS es (fun seen e hh=>∃ t:Nat,e 6 = .int .i64 (t:Int)/\(∀ en ∈ es,en.2.2 ∈ seen->∀ v:Nat,en.2.1 = .int .i64 (v:Int)->v<=t)/\t<=1000000/\hh.get h.next=some (.fW (some M) ck seen ck)/\(∀ b,b<h.next->hh.get b=h.get b)/\h.next<hh.next /\
  e 0 = .ptr P 0/\e 1 = .ptr S 0/\e 2 = .func ng na nb/\e 17 = .ptr h.next 0)
  ⟨0,rfl,fun en _ su=>(by cases su),by omega,aA _ _,fun b hb=>by rw [Heap.aV,if_neg (by omega)],by rw [Heap.aM];omega,rfl,rfl,rfl,rfl⟩ ?_
 rintro seen e hh ⟨t,e6,ht,ht6,w3,wf,wn,e0,e1,e2,uf⟩ K' QA hex TX abF;rw [F.aY.aT];simp only [uf];refine DF w3 (by rw [wf M WC];exact z1) z3 (by omega) (fun lY=>?_) (fun en su hns Cs=>?_)
 ·simp only [G2,nV,aq,cC,aJ];rw [hex,F.aY.aF]
  have aeF:∀ x ∈ hs,lv x<=t:=fun x hx=>by
   have h1:m.find x=some (lv x:Int):=by rw [z5,if_pos hx]
   obtain ⟨en,su,h2,h3⟩:=z2.TV _ (qH h1);exact ht en su (lY en su) (lv x) h3
  have Dr:=aI (i:=t) (n:=1000001) (by omega) (by unfold cN;omega);simp only [aR,reduceAdd,reduceEqDiff,reduceIte,e6,Dr]
  refine aE 0 (t+1) (zero_le _) (fun l e h'=>∃ D,Ge n rules.l lv D0 l D/\eB D D0/\ei D h' B lo/\(∀ b,b<h.next->(∀ nm p,D0 nm=some p->b≠p.1)->h'.get b=h.get b)/\h.next<=h'.next/\e 0 = .ptr P 0/\e 1 = .ptr S 0/\e 2 = .func ng na nb/\e 26 = .int .i64 ((t+1:Nat):Int)/\e 27 = .int .i64 (l:Int))
   ⟨D0,.zero,fun _=>rfl,hD.ext ⟨by omega,fun b hb=>wf b hb⟩,fun b hb _=>wf b hb,by omega,e0,e1,e2,rfl,rfl⟩ ?_ ?_
  ·rintro l e h' _ hlt ⟨D,hrun,xq,oW,hfr,pF,e0,e1,e2,BX,BY⟩ K1 MT jO Pj X1;have aeG:∀ nm p,D0 nm=some p->P≠p.1:=fun nm p hp=>Ne.symm (hPM nm p hp).1;have notM:∀ nm p,D0 nm=some p->M≠p.1:=fun nm p hp=>Ne.symm (hPM nm p hp).2;have pP:h'.get P=some (.cells [an aO 3 rules,.map A,.map M]):=by rw [hfr P RF aeG];exact hP
   have pl:fC hs h' M ks lv:=hl.gr (hfr M WC notM);rw [F.aY.dr];simp only [e0,BX,BY,aR,reduceAdd,reduceEqDiff,reduceIte,bh hlt,ct,aj pP];refine Jv o (l:=l) pP (by omega) pl (by omega) hin e0 e1 e2 rfl rfl rfl rfl rfl BX BY fun e' h3 a ps Lm oa lu wI f0 f1 f2 f10 f26 f27=>?_;rw [F.aY.iZ];simp only [f1,f2,f10];have hS3:h3.get S=some (.cells [.int .i64 (n:Int),.map B]):=by rw [Lm.get S (by omega),hfr S TQ (fun nm p hp=>Ne.symm (o.rows nm p hp))];exact hS
   have Fh:∀ p ∈ ps,p.r ∈ rules.l:=fun p hp=>by
    have:p.r ∈ gG lv rules.l l:=(by rw [<- wI];exact List.mem_map_of_mem hp);exact (mem_filter.1 this).1
   have aby:ps.length<=60:=by
    have y1:=congrArg List.length wI;rw [length_map] at y1;have y2:(gG lv rules.l l).length<=rules.l.length:=length_filter_le _ _;have:=o.Qw;omega
   have po:Qt S n D ps ng na nb:=
    ⟨o.n1,o.xG,lu,fun nm p hp=>by obtain ⟨p0,y1,y2,_⟩:=xq.back hp;rw [y2];exact o.rows nm p0 y1,fun p hp D' r7=>o.ask _ (Fh p hp) D' (r7.trans xq),
     fun p hp=>by
      obtain ⟨y1,y2,q,y3,y4⟩:=o.head _ (Fh p hp);obtain ⟨q',y5,_,y6⟩:=xq.get y3
      exact ⟨y1,y2,q',y5,by rw [y6];exact y4⟩,o.note⟩
   have hDn:∀ nm p,D nm=some p->p.1<h'.next:=fun nm p hp=>(oW.FU nm p hp).2.1
   refine ah (Jt po hS3 (by have:=Lm.next;omega) (oW.ext Lm) oa (fun b hb nm p hp=>by have:=oa.ge hb;have:=hDn nm p hp;omega) aby fun h4 D4 k1 k2 k3 k4 k5 k6=>?_);simp only [aR,reduceAdd,reduceEqDiff,reduceIte,f27,aI hlt (show t+1<=cN by unfold cN;omega)];rw [wI] at k1 k2;refine MT _ _ ⟨D4,.succ l D D4 hrun k1 k2,k3.trans xq,k4,fun b b1 b2=>?_,by have:=Lm.next;omega,f0,f1,f2,f26,rfl⟩;rw [k5 b (by have:=Lm.next;omega) (fun nm p hp=>by obtain ⟨p0,y1,y2,_⟩:=xq.back hp;rw [y2];exact b2 nm p0 y1),Lm.get b (by omega),hfr b b1 b2]
  ·rintro e h' ⟨D,hrun,xq,oW,hfr,pF,e0,e1,e2,BX,BY⟩ K1 jO;rw [F.aY.dr];simp only [BX,BY,aR,reduceAdd,reduceEqDiff,reduceIte,aX];rw [jO,F.aY.cz];exact hK h' D t aeF hrun xq oW hfr pF
 ·obtain ⟨p,Gd,MT,pH⟩:=z2.mem en su;obtain ⟨hph,XS⟩:=EA p Gd;rw [XS] at pH;have ajV:=Vo p.1;simp only [G2,nV,uN,aq,cC,aL,uf,Cs,e6,pH,Jj]
  have hmx:MP (t:Int) (lv p.1:Int)=((if lv p.1>t then lv p.1 else t:Nat):Int):=by
   unfold MP;by_cases Ph:lv p.1>t
   ·rw [if_pos Ph,if_pos (by omega)]
   ·rw [if_neg Ph,if_neg (by omega)]
  refine QA en su hns _ _ ⟨if lv p.1>t then lv p.1 else t,by rw [hmx];rfl,fun Vp Jy gC v hv=>?_,by split<;>omega,by rw [Heap.aK,if_pos rfl],fun b hb=>by rw [Heap.aK,if_neg (by omega)];exact wf b hb,by rw [Heap.bl];exact wn,e0,e1,e2,uf⟩;rcases mem_append.1 gC with gC|gC
  ·have:=ht Vp Jy gC v hv;split<;>omega
  ·rw [mem_singleton] at gC
   have hee:Vp=en:=by
    have hb:=z3.nodup;obtain ⟨i,hi⟩:=mem_iff_getElem?.1 su;obtain ⟨j,hj⟩:=mem_iff_getElem?.1 Jy;have vr:(es.map (·.2.2))[i]?=some en.2.2:=by rw [getElem?_map,hi];rfl
    have GW:(es.map (·.2.2))[j]?=some en.2.2:=by rw [getElem?_map,hj,<- gC];rfl
    have hij:=oh hb vr GW;subst hij;rw [hi] at hj;exact (Option.some.inj hj).symm
   rw [hee,pH] at hv;have:v=lv p.1:=by injection hv with _ h3;omega
   rw [this];split<;>omega
theorem gW{n:Int}{x:Sl Int}(hx:x.l.length<=cN){h:Heap}{K:Out->Heap->Bool}(hK:K (.ret (.bool (jC n x.l))) h=true):Sem TP 125 [.int .i64 n,an encI 1 x] h K:=by
 refine F.Hj ?_;rw [F.IX];refine aE 0 x.l.length (zero_le _) (fun i e h'=>h'=h/\e 0 = .int .i64 n/\e 1=an encI 1 x/\e 5 = .int .i64 (i:Int)/\jC n (x.l.take i)=true) ⟨rfl,rfl,rfl,rfl,rfl⟩ ?_ ?_
 ·rintro i e h' _ hi ⟨rfl,e0,e1,e5,ht⟩ K' hn fK hr hp;have hv:x.l[i]?=some x.l[i]:=ep hi;rw [F.gW.aT];simp only [e0,e1,e5,aR,reduceAdd,reduceEqDiff,reduceIte,bh hi,aW x hi,ja hv];by_cases h1:x.l[i]<0
  ·simp only [fE h1,aL];rw [hr,F.gW.bB];have:jC n x.l=false:=all_false hv (by simp [h1]);rw [this] at hK;exact hK
  ·simp only [eT h1,aJ];by_cases h2:n<=x.l[i]
   ·simp only [fE h2,aL];rw [hr,F.gW.bB];have:jC n x.l=false:=all_false hv (by simp [h2]);rw [this] at hK;exact hK
   ·simp only [eT h2,aJ,aI hi hx,aq];exact hn _ _ ⟨rfl,e0,e1,rfl,ju hv ht (by simp [h1,h2])⟩
 ·rintro e h' ⟨rfl,e0,e1,e5,ht⟩ K' fK;rw [F.gW.aT];simp only [e0,e1,e5,aR,reduceAdd,reduceEqDiff,reduceIte,aX];rw [fK,F.gW.aF];rw [kC (dL _)] at ht;rw [ht] at hK;exact hK
theorem Fi{x:Sl Int}(hx:x.l.length<=cN){a b:List AV}{p:Int->Bool}(hp:∀ (v:Int) (K:Out->Heap->Bool),K (.ret (.bool (p v))) h=true->Sem TP g (a++([.int .i64 v]++b)) h K)
  (hK:∀ n:Int,decide (0<=n)=x.l.any p->K (.ret (.int .i64 n)) h=true):Sem TP 91 [an encI 1 x,.func g a b] h K:=by
 refine F.mT ?_;rw [F.nr];simp only [aR,reduceAdd,reduceEqDiff,reduceIte];refine aE 0 x.l.length (zero_le _) (fun i e h'=>h'=h/\e 0=an encI 1 x/\e 1 = .func g a b/\e 7 = .int .i64 (x.l.length:Int)/\e 8 = .int .i64 (i:Int)/\(x.l.take i).any p=false) ⟨rfl,rfl,rfl,rfl,rfl,rfl⟩ ?_ ?_
 ·rintro i e h' _ hi ⟨rfl,e0,e1,e7,e8,ht⟩ K' hn fK hr Cm;have hv:x.l[i]?=some x.l[i]:=ep hi;rw [F.bQ.aT];simp only [e0,e1,e7,e8,aR,reduceAdd,reduceEqDiff,reduceIte,bh hi,aW x hi,ja hv,fF];refine ah (hp _ _ ?_);simp only [aR,reduceAdd,reduceEqDiff,reduceIte]
  cases hq:p x.l[i] with
  |true=>
   simp only [aL];rw [hr,F.bQ.bB];refine hK (i:Int) ?_;rw [fE (by omega:(0:Int)<=(i:Int))];exact (List.any_eq_true.2 ⟨_,ig hv,hq⟩).symm
  |false=>
   simp only [aJ,aI hi hx,aq];exact hn _ _ ⟨rfl,e0,e1,e7,rfl,by rw [take_add_one,hv,any_append,ht];simp [hq]⟩
 ·rintro e h' ⟨rfl,e0,e1,e7,e8,ht⟩ K' fK;rw [F.bQ.aT];simp only [e0,e1,e7,e8,aR,reduceAdd,reduceEqDiff,reduceIte,aX];rw [fK,F.bQ.aF];rw [kC (dL _)] at ht;exact hK (-1) (by rw [ht];rfl)
theorem qN{x:Sl Int}(hx:x.l.length<=cN){a b:List AV}{p:Int->Bool}(hp:∀ (v:Int) (K:Out->Heap->Bool),K (.ret (.bool (p v))) h=true->Sem TP g (a++([.int .i64 v]++b)) h K)
  (hK:K (.ret (.bool (x.l.any p))) h=true):Sem TP 47 [an encI 1 x,.func g a b] h K:=by
 refine F.lR ?_;rw [F.mh];refine ah (Fi hx hp fun n hn=>?_);simp only [aR,reduceAdd,reduceEqDiff,reduceIte];rw [hn];exact hK
def DI(n:Int)(x:Int):Bool:=decide (x<0)||decide (n<=x)
theorem QB(n:Int)(l:List Int):jC n l = !(l.any (DI n)):=by
 unfold jC DI
 induction l with
 |nil=>rfl
 |cons a l ih=>simp only [all_cons,any_cons,ih];cases decide (a<0)<;>cases decide (n<=a)<;>rfl
theorem bV{cs:List AV}(h:cs.length=n):jl (some n) cs 0=some (.agg cs):=by
 simp [jl,h,kC]
theorem ij{n k:Nat}(h1:1<=n)(h2:n<=64)(hk:k<=cN){h:Heap}{K:Out->Heap->Bool}(hK:∀ v:Nat,(n ^ k<=4096->v=n ^ k)->(4096<n ^ k->4096<v)->K (.ret (.int .i64 (v:Int))) h=true) :
  Sem TP 155 [.int .i64 (n:Int),.int .i64 (k:Int)] h K:=by
 refine F.EP ?_;rw [F.Hh];refine aE 0 k (zero_le _) (fun i e h'=>h'=h/\e 0 = .int .i64 (n:Int)/\e 1 = .int .i64 (k:Int)/\e 6 = .int .i64 (i:Int)/\e 5 = .int .i64 ((n ^ i:Nat):Int)/\n ^ i<=262144) ⟨rfl,rfl,rfl,rfl,rfl,by simp⟩ ?_ ?_
 ·rintro i e h' _ hi ⟨rfl,e0,e1,e6,e5,hb⟩ K' hn hx hr hp;rw [F.ij.aT];simp only [e0,e1,e5,e6,aR,reduceAdd,reduceEqDiff,reduceIte,bh hi];by_cases hc:n ^ i<=4096
  ·have hm:n ^ i*n<=4096*64:=Nat.mul_le_mul hc h2;have uO:((n ^ i:Nat):Int)*(n:Int)=((n ^ (i+1):Nat):Int):=by rw [Nat.pow_succ,Int.natCast_mul]
   have hs:n ^ (i+1)<=262144:=by rw [Nat.pow_succ];omega
   have hmul:aG .mul (.int .i64 ((n ^ i:Nat):Int)) (.int .i64 (n:Int))=some (.int .i64 ((n ^ (i+1):Nat):Int)):=by
    rw [uL (by rw [uO];omega) (by rw [uO];omega),uO]
   simp only [fE (by omega:((n ^ i:Nat):Int)<=4096),aL,hmul,aI hi hk,aq];exact hn _ _ ⟨rfl,e0,e1,rfl,rfl,hs⟩
  ·simp only [eT (by omega:¬ ((n ^ i:Nat):Int)<=4096),aJ];rw [hx,F.ij.aF];simp only [e5,bO,reduceEqDiff,reduceIte];have:=Le h1 (Nat.le_of_lt hi);exact hK _ (fun h=>by omega) (fun _=>by omega)
 ·rintro e h' ⟨rfl,e0,e1,e6,e5,hb⟩ K' hx;rw [F.ij.aT];simp only [e0,e1,e5,e6,aR,reduceAdd,reduceEqDiff,reduceIte,aX];rw [hx,F.ij.aF];simp only [e5,bO,reduceEqDiff,reduceIte];exact hK _ (fun _=>rfl) (fun h=>h)
def Ln(n k:Nat):Int:=if n ^ k<=4096 then ((n ^ k:Nat):Int) else -1
theorem dY{n k:Nat}(h1:1<=n)(h2:n<=64)(hk:k<=cN){h:Heap}{K:Out->Heap->Bool}(hK:K (.ret (.int .i64 (Ln n k))) h=true) :
  Sem TP 108 [.int .i64 (n:Int),.int .i64 (k:Int),.int .i64 4096] h K:=by
 refine F.Bl ?_;rw [F.C8];refine aE 0 k (zero_le _) (fun i e h'=>h'=h/\e 0 = .int .i64 (n:Int)/\e 2 = .int .i64 4096/\e 8 = .int .i64 (k:Int)/\e 9 = .int .i64 (i:Int)/\e 7 = .int .i64 ((n ^ i:Nat):Int)/\n ^ i<=4096) ⟨rfl,rfl,rfl,rfl,rfl,rfl,by simp⟩ ?_ ?_
 ·rintro i e h' _ hi ⟨rfl,e0,e2,e8,e9,e7,hb⟩ K' hn hx hr hp;rw [F.dY.aT];have hm:n ^ i*n<=4096*64:=Nat.mul_le_mul hb h2;have uO:((n ^ i:Nat):Int)*(n:Int)=((n ^ (i+1):Nat):Int):=by rw [Nat.pow_succ,Int.natCast_mul]
  have hs:n ^ (i+1)<=262144:=by rw [Nat.pow_succ];omega
  have hmul:aG .mul (.int .i64 ((n ^ i:Nat):Int)) (.int .i64 (n:Int))=some (.int .i64 ((n ^ (i+1):Nat):Int)):=by
   rw [uL (by rw [uO];omega) (by rw [uO];omega),uO]
  simp only [e0,e2,e7,e8,e9,aR,reduceAdd,reduceEqDiff,reduceIte,bh hi,hmul];by_cases hc:n ^ (i+1)<=4096
  ·simp only [eT (by omega:¬ (4096:Int)<((n ^ (i+1):Nat):Int)),aJ,aI hi hk,aq];exact hn _ _ ⟨rfl,e0,e2,e8,rfl,rfl,hc⟩
  ·simp only [fE (by omega:(4096:Int)<((n ^ (i+1):Nat):Int)),aL];rw [hr,F.dY.bB];simp only [bO,reduceEqDiff,reduceIte];have:=Le h1 (show i+1<=k from hi);rw [Ln,if_neg (by omega)] at hK;exact hK
 ·rintro e h' ⟨rfl,e0,e2,e8,e9,e7,hb⟩ K' hx;rw [F.dY.aT];simp only [e8,e9,aR,reduceAdd,reduceEqDiff,reduceIte,aX];rw [hx,F.dY.aF];simp only [e7,bO,reduceEqDiff,reduceIte];rw [Ln,if_pos hb] at hK;exact hK
def N8(n k:Nat):AV:=if 12<k then .tuple [.int .i64 0,.int .i64 2] else if 4096<n ^ k then .tuple [.int .i64 0,.int .i64 5] else .tuple [.int .i64 ((n ^ k:Nat):Int),.int .i64 0]
theorem ug(h1:1<=n)(h2:n<=64)(hk:k<=cN)(hK:K (.ret (N8 n k)) h=true):Sem TP 99 [.int .i64 (n:Int),.int .i64 (k:Int)] h K:=by
 refine F.Bk ?_;rw [F.C6];simp only [aR,reduceAdd,reduceEqDiff,reduceIte,eT (by omega:¬ (n:Int)<1),eT (by omega:¬ (64:Int)<(n:Int)),eT (by omega:¬ (k:Int)<0)];unfold N8 at hK;by_cases I8:12<k
 ·rw [if_pos I8] at hK;simp only [fE (by omega:(12:Int)<(k:Int)),aL];exact hK
 ·rw [if_neg I8] at hK;simp only [eT (by omega:¬ (12:Int)<(k:Int)),aJ];refine ah (dY h1 h2 hk ?_);simp only [aR,reduceAdd,reduceEqDiff,reduceIte];by_cases hc:n ^ k<=4096
  ·rw [if_neg (by omega)] at hK;simp only [Ln,if_pos hc,eT (by omega:¬ ((n ^ k:Nat):Int)<0),aJ];exact hK
  ·rw [if_pos (by omega)] at hK;simp only [Ln,if_neg hc,fE (by omega:(-1:Int)<0),aL];exact hK
theorem Lo{n:Int}(hb:h.get b=some (.cells [.int .i64 n]))(v:Int)(K:Out->Heap->Bool)(hK:K (.ret (.bool (DI n v))) h=true):Sem TP 93 ([]++([.int .i64 v]++[.ptr b 0])) h K:=by
 refine F.tJ ?_;rw [F.vI];simp only [aj hb,aR,reduceAdd,reduceEqDiff,reduceIte];unfold DI at hK;by_cases h1:v<0<;>by_cases h2:n<=v<;>simpa [h1,h2] using hK
theorem uh{n:Int}{x:Sl Int}(hx:x.l.length<=cN)(hK:K (.ret (.bool (jC n x.l))) h=true):Sem TP 52 [.int .i64 n,an encI 1 x] h K:=by
 refine Sem.data (r:=.bool (jC n x.l)) ?_ (by simp [AV.cL,AV.pure,cj kf]) hK;refine F.wY ?_;rw [F.yB];simp only [pR (x:=.int .i64 _) rfl,aq,bU];have g0:(Heap.alloc Heap.empty (.cells [.int .i64 n])).get 0=some (.cells [.int .i64 n]):=aA _ _;refine ah (qN hx (Lo g0) ?_);simp only [aR,reduceAdd,reduceEqDiff,reduceIte];rw [QB];exact gh rfl
theorem xu{l m:List Int}{a b:Int}(ha:l[i]?=some a)(hb:m[i]?=some b):dg (l.drop i) (m.drop i)=if a=b then dg (l.drop (i+1)) (m.drop (i+1)) else decide (a<b):=by
 have h1:=(jJ.1 ha).1;have h2:=(jJ.1 hb).1;rw [drop_eq_getElem_cons h1,drop_eq_getElem_cons h2];rw [ep h1] at ha;rw [ep h2] at hb;cases ha;cases hb;rfl
theorem fG{x y:Sl Int}(hx:x.l.length<=cN)(Vh:x.l.length=y.l.length){h:Heap}{K:Out->Heap->Bool}(hK:K (.ret (.bool (dg x.l y.l))) h=true):Sem TP 156 [an encI 1 x,an encI 1 y] h K:=by
 refine F.C7 ?_;rw [F.ET];refine aE 0 x.l.length (zero_le _) (fun i e h'=>h'=h/\e 0=an encI 1 x/\e 1=an encI 1 y/\e 5 = .int .i64 (i:Int)/\dg x.l y.l=dg (x.l.drop i) (y.l.drop i)) ⟨rfl,rfl,rfl,rfl,rfl⟩ ?_ ?_
 ·rintro i e h' _ hi ⟨rfl,e0,e1,e5,hl⟩ K' hn fK hr hp;have BR:i<y.l.length:=by omega
  have hv:x.l[i]?=some x.l[i]:=ep hi;have hw:y.l[i]?=some y.l[i]:=ep BR;rw [xu hv hw] at hl;generalize x.l[i]=a at hv hl;generalize y.l[i]=b at hw hl;rw [F.fG.aT];simp only [e0,e1,e5,aR,reduceAdd,reduceEqDiff,reduceIte,bh hi,aW x hi,aW y BR,ja hv,ja hw,cA];by_cases pG:a=b
  ·rw [if_pos pG] at hl;simp only [fE pG,Bool.not_true,aJ,aI hi hx,aq];exact hn _ _ ⟨rfl,e0,e1,rfl,hl⟩
  ·rw [if_neg pG] at hl;simp only [eT pG,Bool.not_false,aL];rw [hr,F.fG.bB];simp only [bO,reduceEqDiff,reduceIte];rw [hl] at hK;exact hK
 ·rintro e h' ⟨rfl,e0,e1,e5,hl⟩ K' fK;rw [F.fG.aT];simp only [e0,e5,aR,reduceAdd,reduceEqDiff,reduceIte,aX];rw [fK,F.fG.aF];rw [drop_of_length_le (dL _)] at hl;rw [hl] at hK;exact hK
theorem Gf{a:Int}(hK:K (.ret (.bool false)) h=true):Sem TP 136 [.int .i64 a] h K:=by
 refine F.yD ?_;rw [F.zJ];simp only [aR,reduceAdd,reduceEqDiff,reduceIte,beq_self_eq_true,Bool.not_true];exact hK
theorem AS{a b:Int}(hK:∀ c:Int,(c=0↔a=b)->(c<0↔a<b)->K (.ret (.int .i64 c)) h=true):Sem TP 95 [.int .i64 a,.int .i64 b] h K:=by
 refine F.vH ?_;rw [F.wZ];refine ah (Gf ?_);simp only [aR,reduceAdd,reduceEqDiff,reduceIte];refine ah (Gf ?_);simp only [aR,reduceAdd,reduceEqDiff,reduceIte];by_cases h1:a<b
 ·simp only [fE h1,aL];exact hK _ (by omega) (by omega)
 ·simp only [eT h1,aJ];by_cases h2:b<a
  ·simp only [fE h2,aL];exact hK _ (by omega) (by omega)
  ·simp only [eT h2,aJ];exact hK _ (by omega) (by omega)
theorem DJ{x y:Sl Int}(hx:x.l.length<=cN)(Vh:x.l.length=y.l.length)(hK:∀ c:Int,decide (0<=c) = !(dg x.l y.l)->K (.ret (.int .i64 c)) h=true):Sem TP 55 [an encI 1 x,an encI 1 y] h K:=by
 refine F.jr ?_;rw [F.jH];simp only [aR,reduceAdd,reduceEqDiff,reduceIte];refine aE 0 x.l.length (zero_le _) (fun i e h'=>h'=h/\e 0=an encI 1 x/\e 1=an encI 1 y/\e 9=an encI 1 x/\e 10 = .int .i64 (x.l.length:Int)/\e 11 = .int .i64 (i:Int)/\dg x.l y.l=dg (x.l.drop i) (y.l.drop i)) ⟨rfl,rfl,rfl,rfl,rfl,rfl,rfl⟩ ?_ ?_
 ·rintro i e h' _ hi ⟨rfl,e0,e1,e9,kM,qY,hl⟩ K' hn fK hr hp;have BR:i<y.l.length:=by omega
  have hv:x.l[i]?=some x.l[i]:=ep hi;have hw:y.l[i]?=some y.l[i]:=ep BR;rw [xu hv hw] at hl;generalize x.l[i]=a at hv hl;generalize y.l[i]=b at hw hl;rw [F.bD.aT];simp only [e0,e1,e9,kM,qY,aR,reduceAdd,reduceEqDiff,reduceIte,bh hi,aW x hi,aW y BR,ja hv,ja hw,eT (by omega:¬ (y.l.length:Int)<=(i:Int))];refine ah (AS fun c c1 c2=>?_);simp only [aR,reduceAdd,reduceEqDiff,reduceIte,cA];by_cases pG:a=b
  ·rw [if_pos pG] at hl;simp only [fE (c1.2 pG),Bool.not_true,aJ,aI hi hx,aq];exact hn _ _ ⟨rfl,e0,e1,e9,kM,rfl,hl⟩
  ·rw [if_neg pG] at hl;simp only [eT (fun h=>pG (c1.1 h)),Bool.not_false,aL];rw [hr,F.bD.bB];simp only [bO,reduceEqDiff,reduceIte];refine hK c ?_;rw [hl];by_cases hlt:a<b
   ·rw [fE hlt,eT (by have:=c2.2 hlt;omega)];rfl
   ·rw [eT hlt,fE (by have:=mt c2.1 hlt;omega)];rfl
 ·rintro e h' ⟨rfl,e0,e1,e9,kM,qY,hl⟩ K' fK;rw [F.bD.aT];simp only [kM,qY,aR,reduceAdd,reduceEqDiff,reduceIte,aX];rw [fK,F.bD.aF];simp only [e0,e1,aR,reduceAdd,reduceEqDiff,reduceIte,eT (by omega:¬ (x.l.length:Int)<(y.l.length:Int))];rw [drop_of_length_le (dL _)] at hl;exact hK 0 (by rw [hl];rfl)
structure View {α:Type} (enc:α->List AV) (sz:Nat) (a:AV) (l:List α):Prop where
 len:∀ h:Heap,bW .slice a h=some (.int .i64 (l.length:Int))
 at_:∀ (i:Nat) (v:α),l[i]?=some v->∃ cs o,(∀ k:IntKind,dH sz a (.int k (i:Int))=some (.dN cs o))/\(∀ h:Heap,ag (some sz) (.dN cs o) h=some (.agg (enc v)))/\∀ (m:Nat),m<sz->∀ h:Heap,ag none (.dN cs (o+m)) h=(enc v)[m]?
theorem QC{enc:α->List AV}(he:∀ a,(enc a).length=sz)(x:Sl α):View enc sz (an enc sz x) x.l where
 len h:=II x h
 at_ i v hv:=⟨x.l.flatMap enc,i*sz,fun k=>aW x (jJ.1 hv).1,fun h=>dm he hv,fun m hm h=>fL he hv hm⟩
theorem N9{enc:α->List AV}(he:∀ a,(enc a).length=sz)(x:Sl α)(hi:i<=x.l.length) :
  ∃ a,(∀ k:IntKind,iW (some sz) (an enc sz x) none (some (.int k (i:Int)))=some a)/\View enc sz a (x.l.take i):=by
 cases x with
 |none=>
  simp only [Sl.Wc,length_nil,le_zero_eq] at hi;subst hi;exact ⟨.ax,fun k=>by simp [iW,an,lP,pZ,asNat],⟨fun h=>rfl,fun j v hv=>by simp at hv⟩⟩
 |some l=>
  simp only [Sl.KS] at hi ⊢;refine ⟨.au (l.flatMap enc) 0 i sz,fun k=>?_,⟨fun h=>by simp [bW,Nat.min_eq_left hi],fun j v hv=>?_⟩⟩
  ·simp [iW,an,lP,pZ,asNat,hi]
  ·have hj:j<i:=by have:=(jJ.1 hv).1;rw [length_take] at this;omega
   rw [getElem?_take_of_lt hj] at hv;exact ⟨l.flatMap enc,j*sz,fun k=>by simp [dH,asNat,hj],fun h=>dm he hv,fun m hm h=>fL he hv hm⟩
def aQ(r:Rel):List AV:=[.str r.name,.int .i64 r.arity,an cX 1 r.aN]
theorem dQ(r:Rel):(aQ r).length=3:=rfl
theorem uj(r:Rel):AV.cL (aQ r)=true:=by simp [aQ,AV.cL,AV.pure,cj mW]
theorem fT(r:Rel):bw (aQ r)=true:=by unfold aQ;simp only [bw,gi,Bool.and_true];rfl
def ak(s:cM):List AV:=[.int .i64 s.size,an aQ 3 s.aC]
theorem eu(s:cM):AV.cL (ak s)=true:=by simp [ak,AV.cL,AV.pure,cj uj]
theorem bS(s:cM):bw (ak s)=true:=by unfold ak;simp only [bw,gi,Bool.and_true];rfl
theorem om(h:∀ j,j<n->p j=true):Fe p n=true:=by
 rw [Fe,List.all_eq_true];exact fun x hx=>h x (mem_range.1 hx)
theorem jk(hi:i<n)(h:p i=false):Fe p n=false:=by
 rw [eq_false_iff];intro hh;rw [Fe,List.all_eq_true] at hh;have:=hh i (mem_range.2 hi);rw [h] at this;cases this
theorem yQ(h:Fe p n=true)(hi:i<n):p i=true:=by
 rw [Fe,List.all_eq_true] at h;exact h i (mem_range.2 hi)
theorem MU{l:List (Sl Int)}(h:mq n k l i=true)(ht:l[i]?=some t):t.l.length=k:=by
 unfold mq at h;rw [ht] at h;simp only [and_eq_true,decide_eq_true_eq] at h;exact h.1
theorem cZ{n k:Nat}{r:Rel}(hr:r.ok)(ha:r.arity=(k:Int)){h:Heap}{K:Out->Heap->Bool}(hK:K (.ret (.bool (yM n k r.aN.l))) h=true):Sem TP 109 [.int .i64 (n:Int),.agg (aQ r)] h K:=by
 refine Sem.data (r:=.bool (yM n k r.aN.l)) ?_ (by simp [AV.cL,AV.pure,uj]) hK;clear hK;refine F.zG ?_;rw [F.Bn];have b0:(Heap.alloc Heap.empty (.cells (aQ r))).get 0=some (.cells (aQ r)):=aA _ _;simp only [cT (fT r),aq,bU];generalize (Heap.alloc Heap.empty (.cells (aQ r)))=H at b0 ⊢;have fin:∀ b:Bool,b=yM n k r.aN.l->qh (.bool (yM n k r.aN.l)) (.ret (.bool b)) H=true:=fun b hb=>by rw [hb];exact gh rfl
 simp only [aR,reduceAdd,reduceEqDiff,reduceIte,aj b0,aQ];refine aE 0 r.aN.l.length (zero_le _) (fun i e h'=>h'=H/\e 0 = .int .i64 (n:Int)/\e 3 = .ptr 0 0/\e 8=an cX 1 r.aN/\e 9 = .int .i64 (r.aN.l.length:Int)/\e 10 = .int .i64 (i:Int)/\∀ j,j<i->mq n k r.aN.l j=true) ⟨rfl,rfl,rfl,rfl,rfl,rfl,fun j hj=>by omega⟩ ?_ ?_
 ·rintro i e h' _ hi ⟨rfl,e0,e3,e8,e9,kM,ht⟩ K' hn fK Jz hp;have hv:r.aN.l[i]?=some r.aN.l[i]:=ep hi;generalize r.aN.l[i]=t at hv;have X2:t.l.length<=cN:=hr.2.2 t (ig hv)
  have bad:mq n k r.aN.l i=false->F.cZ.cQ (qh (.bool (yM n k r.aN.l))) .ret ⟨aa e 4 (.bool false),42,[],h'⟩=true:=fun hb=>by
   rw [F.cZ.bB];simp only [bO,reduceEqDiff,reduceIte];exact fin _ (jk hi hb).symm
  rw [F.cZ.aT];simp only [e0,e3,e8,e9,kM,aR,reduceAdd,reduceEqDiff,reduceIte,bh hi,aW r.aN hi,ir hv,aj b0,aQ,cA,ha];by_cases h1:t.l.length=k
  ·simp only [fE (by omega:(t.l.length:Int)=(k:Int)),Bool.not_true,aJ];refine ah (uh X2 ?_);simp only [aR,reduceAdd,reduceEqDiff,reduceIte]
   cases h2:jC n t.l with
   |false=>
    simp only [Bool.not_false,aL];rw [Jz,F.cZ.bB];simp only [bO,reduceEqDiff,reduceIte];exact fin _ (jk hi (by simp [mq,hv,h2])).symm
   |true=>
    simp only [Bool.not_true,aJ]
    cases i with
    |zero=>
     simp only [show decide ((0:Int)<((0:Nat):Int))=false from rfl,aJ,aI hi hr.2.1,aq];refine hn _ _ ⟨rfl,e0,e3,e8,e9,rfl,fun j hj=>?_⟩;obtain rfl:j=0:=by omega
     simp [mq,hv,h1,h2]
    |succ i=>
     have hi0:i<r.aN.l.length:=(by omega);have Eh:r.aN.l[i]?=some r.aN.l[i]:=ep hi0;generalize r.aN.l[i]=p at Eh;have sX:p.l.length=k:=MU (ht i (by omega)) Eh;have VZ:p.l.length<=cN:=hr.2.2 p (ig Eh)
     have Fh:aG .sub (.int .i64 ((i+1:Nat):Int)) (.int .i64 1)=some (.int .i64 (i:Int)):=by
      have:=hr.2.1;unfold cN at this;rw [yh (by omega) (by omega)];congr 2;omega
     simp only [fE (by omega:(0:Int)<((i+1:Nat):Int)),aL,aR,reduceAdd,reduceEqDiff,reduceIte,e3,aj b0,aQ,Fh,aW r.aN hi0,ir Eh];refine ah (DJ VZ (by omega) fun c hc=>?_);simp only [aR,reduceAdd,reduceEqDiff,reduceIte,hc]
     cases h3:dg p.l t.l with
     |false=>
      simp only [Bool.not_false,aL];rw [Jz,F.cZ.bB];simp only [bO,reduceEqDiff,reduceIte];exact fin _ (jk hi (by simp [mq,hv,Eh,h3])).symm
     |true=>
      simp only [Bool.not_true,aJ,aI hi hr.2.1,aq];refine hn _ _ ⟨rfl,e0,e3,e8,e9,rfl,fun j hj=>?_⟩;by_cases GW:j<i+1
      ·exact ht j GW
      ·obtain rfl:j=i+1:=by omega
       simp [mq,hv,Eh,h1,h2,h3]
  ·simp only [eT (by omega:¬ (t.l.length:Int)=(k:Int)),Bool.not_false,aL];rw [Jz,F.cZ.bB];simp only [bO,reduceEqDiff,reduceIte];exact fin _ (jk hi (by simp [mq,hv,h1])).symm
 ·rintro e h' ⟨rfl,e0,e3,e8,e9,kM,ht⟩ K' fK;rw [F.cZ.aT];simp only [e9,kM,aR,reduceAdd,reduceEqDiff,reduceIte,aX];rw [fK,F.cZ.aF];exact fin _ (om ht).symm
theorem fM{n:Nat}(h1:1<=n)(h2:n<=64){r:Rel}(hr:r.ok){h:Heap}{K:Out->Heap->Bool}(hK:K (.ret (.bool (nD n r))) h=true):Sem TP 115 [.int .i64 (n:Int),.agg (aQ r)] h K:=by
 refine Sem.data (r:=.bool (nD n r)) ?_ (by simp [AV.cL,AV.pure,uj]) hK;clear hK;refine F.ES ?_;rw [F.Hi];have b0:(Heap.alloc Heap.empty (.cells (aQ r))).get 0=some (.cells (aQ r)):=aA _ _;simp only [cT (fT r),aq,bU];generalize (Heap.alloc Heap.empty (.cells (aQ r)))=H at b0 ⊢;have fin:∀ b:Bool,b=nD n r->qh (.bool (nD n r)) (.ret (.bool b)) H=true:=fun b hb=>by rw [hb];exact gh rfl
 simp only [aR,reduceAdd,reduceEqDiff,reduceIte,aj b0,aQ];refine ah (ef ?_);simp only [aR,reduceAdd,reduceEqDiff,reduceIte]
 cases hn:ec r.name with
 |false=>simp only [Bool.not_false,aL];exact fin _ (by simp [nD,hn])
 |true=>
 simp only [Bool.not_true,aJ,aR,reduceAdd,reduceEqDiff,reduceIte,aj b0,aQ];by_cases ha:r.arity<0
 ·simp only [fE ha,aL];exact fin _ (by rw [nD,eT (by omega:¬ 0<=r.arity)];simp)
 simp only [eT ha,aJ];by_cases QD:12<r.arity
 ·simp only [fE QD,aL];exact fin _ (by rw [nD,eT (by omega:¬ r.arity<=12)];simp)
 simp only [eT QD,aJ];obtain ⟨k,hk⟩:∃ k:Nat,r.arity=(k:Int):=⟨r.arity.toNat,by omega⟩
 rw [hk];refine ah (ij h1 h2 (show k<=cN by unfold cN;omega) fun v v1 v2=>?_);simp only [aR,reduceAdd,reduceEqDiff,reduceIte]
 have QE:nD n r=(decide (n ^ k<=4096)&&yM n k r.aN.l):=by
  rw [nD,hn,fE (by omega:0<=r.arity),fE (by omega:r.arity<=12),hk];rfl
 replace fin:∀ b:Bool,b=(decide (n ^ k<=4096)&&yM n k r.aN.l)->qh (.bool (nD n r)) (.ret (.bool b)) H=true:=fun b hb=>fin b (hb.trans QE.symm);by_cases hc:n ^ k<=4096
 ·have:=v1 hc;simp only [eT (by omega:¬ (4096:Int)<(v:Int)),aJ];replace fin:∀ b:Bool,b=yM n k r.aN.l->qh (.bool (nD n r)) (.ret (.bool b)) H=true:=fun b hb=>fin b (by rw [fE hc,Bool.true_and];exact hb);refine aE 0 r.aN.l.length (zero_le _) (fun i e h'=>h'=H/\e 0 = .int .i64 (n:Int)/\e 3 = .ptr 0 0/\e 5 = .int .i64 (i:Int)/\∀ j,j<i->mq n k r.aN.l j=true) ⟨rfl,rfl,rfl,rfl,fun j hj=>by omega⟩ ?_ ?_
  ·rintro i e h' _ hi ⟨rfl,e0,e3,e5,ht⟩ K' hn fK Jz hp;have hv:r.aN.l[i]?=some r.aN.l[i]:=ep hi;generalize r.aN.l[i]=t at hv;have X2:t.l.length<=cN:=hr.2.2 t (ig hv);rw [F.fM.aT];simp only [e0,e3,e5,aR,reduceAdd,reduceEqDiff,reduceIte,aj b0,aQ,bh hi,aW r.aN hi,ir hv,cA,hk];by_cases q1:t.l.length=k
   ·simp only [fE (by omega:(t.l.length:Int)=(k:Int)),Bool.not_true,aJ];refine ah (gW X2 ?_);simp only [aR,reduceAdd,reduceEqDiff,reduceIte]
    cases q2:jC n t.l with
    |false=>
     simp only [Bool.not_false,aL];rw [Jz,F.fM.bB];simp only [bO,reduceEqDiff,reduceIte];exact fin _ (jk hi (by simp [mq,hv,q2])).symm
    |true=>
     simp only [Bool.not_true,aJ]
     cases i with
     |zero=>
      simp only [show decide ((0:Int)<((0:Nat):Int))=false from rfl,aJ,aI hi hr.2.1,aq];refine hn _ _ ⟨rfl,e0,e3,rfl,fun j hj=>?_⟩;obtain rfl:j=0:=by omega
      simp [mq,hv,q1,q2]
     |succ i=>
      have hi0:i<r.aN.l.length:=(by omega);have Eh:r.aN.l[i]?=some r.aN.l[i]:=ep hi0;generalize r.aN.l[i]=p at Eh;have sX:p.l.length=k:=MU (ht i (by omega)) Eh;have VZ:p.l.length<=cN:=hr.2.2 p (ig Eh)
      have Fh:aG .sub (.int .i64 ((i+1:Nat):Int)) (.int .i64 1)=some (.int .i64 (i:Int)):=by
       have:=hr.2.1;unfold cN at this;rw [yh (by omega) (by omega)];congr 2;omega
      simp only [fE (by omega:(0:Int)<((i+1:Nat):Int)),aL,aR,reduceAdd,reduceEqDiff,reduceIte,e3,e5,aj b0,aQ,Fh,aW r.aN hi0,aW r.aN hi,ir Eh,ir hv];refine ah (fG VZ (by omega) ?_);simp only [aR,reduceAdd,reduceEqDiff,reduceIte]
      cases q3:dg p.l t.l with
      |false=>
       simp only [Bool.not_false,aL];rw [Jz,F.fM.bB];simp only [bO,reduceEqDiff,reduceIte];exact fin _ (jk hi (by simp [mq,hv,Eh,q3])).symm
      |true=>
       simp only [Bool.not_true,aJ,aI hi hr.2.1,aq];refine hn _ _ ⟨rfl,e0,e3,rfl,fun j hj=>?_⟩;by_cases GW:j<i+1
       ·exact ht j GW
       ·obtain rfl:j=i+1:=by omega
        simp [mq,hv,Eh,q1,q2,q3]
   ·simp only [eT (by omega:¬ (t.l.length:Int)=(k:Int)),Bool.not_false,aL];rw [Jz,F.fM.bB];simp only [bO,reduceEqDiff,reduceIte];exact fin _ (jk hi (by simp [mq,hv,q1])).symm
  ·rintro e h' ⟨rfl,e0,e3,e5,ht⟩ K' fK;rw [F.fM.aT];simp only [e3,e5,aR,reduceAdd,reduceEqDiff,reduceIte,aj b0,aQ,aX];rw [fK,F.fM.aF];exact fin _ (om ht).symm
 ·have:=v2 (by omega);simp only [fE (by omega:(4096:Int)<(v:Int)),aL];exact fin _ (by rw [eT hc];rfl)
def uk{α:Type}(p:α->Bool):List α->Nat->Int
 |[],_=>-1
 |x :: l,i=>if p x=true then (i:Int) else uk p l (i+1)
def jb{α:Type}(p:α->Bool)(l:List α):Int:=uk p l 0
theorem JA{p:α->Bool}{l:List α}{v:α}(hv:l[i]?=some v):uk p (l.drop i) i=if p v=true then (i:Int) else uk p (l.drop (i+1)) (i+1):=by
 have h1:=(jJ.1 hv).1;rw [drop_eq_getElem_cons h1];rw [ep h1] at hv;cases hv;rfl
theorem Gg{α:Type}(p:α->Bool):∀ (l:List α) (i:Nat),decide (0<=uk p l i)=l.any p
 |[],i=>rfl
 |x :: l,i=>by
  rw [uk,any_cons]
  cases hp:p x with
  |true=>simp
  |false=>simpa using Gg p l (i+1)
theorem Lq(p:α->Bool)(l:List α):decide (0<=jb p l)=l.any p:=Gg p l 0
theorem wz{x:AV}{l:List Rel}(hv:View aQ 3 x l)(hl:l.length<=cN){a b:List AV}{p:Rel->Bool}
  (hp:∀ (v:Rel) (h':Heap),bu h h'->∀ (K:Out->Heap->Bool),(∀ Kg,bu h' Kg->K (.ret (.bool (p v))) Kg=true)->Sem TP g (a++([.agg (aQ v)]++b)) h' K)
  (hK:∀ h',bu h h'->K (.ret (.int .i64 (jb p l))) h'=true):Sem TP 76 [x,.func g a b] h K:=by
 refine F.jW ?_;rw [F.kj];simp only [hv.len,aq];refine aE 0 l.length (zero_le _) (fun i e h'=>bu h h'/\e 0=x/\e 1 = .func g a b/\e 7 = .int .i64 (l.length:Int)/\e 8 = .int .i64 (i:Int)/\jb p l=uk p (l.drop i) i) ⟨bu.refl _,rfl,rfl,rfl,rfl,rfl⟩ ?_ ?_
 ·rintro i e h' _ hi ⟨hx,e0,e1,e7,e8,ht⟩ K' hn fK hr Cm;have TY:l[i]?=some l[i]:=ep hi;generalize l[i]=v at TY;obtain ⟨cs,o,v1,v2,_⟩:=hv.at_ i v TY;rw [JA TY] at ht;rw [F.bt.aT];simp only [e0,e1,e7,e8,aR,reduceAdd,reduceEqDiff,reduceIte,bh hi,v1,v2,fF];refine ah (hp v h' hx _ fun Kg gm=>?_);simp only [aR,reduceAdd,reduceEqDiff,reduceIte]
  cases hq:p v with
  |true=>
   simp only [aL];rw [hr,F.bt.bB];simp only [bO,reduceEqDiff,reduceIte];rw [if_pos hq] at ht;rw [ht] at hK;exact hK _ (hx.trans gm)
  |false=>
   simp only [aJ,aI hi hl,aq];rw [if_neg (by rw [hq];decide)] at ht;exact hn _ _ ⟨hx.trans gm,e0,e1,e7,rfl,ht⟩
 ·rintro e h' ⟨hx,e0,e1,e7,e8,ht⟩ K' fK;rw [F.bt.aT];simp only [e0,e1,e7,e8,aR,reduceAdd,reduceEqDiff,reduceIte,aX];rw [fK,F.bt.aF];rw [drop_of_length_le (dL _)] at ht;rw [ht] at hK;exact hK _ hx
theorem zT{x:AV}{l:List Rel}(hv:View aQ 3 x l)(hl:l.length<=cN){a b:List AV}{p:Rel->Bool}
  (hp:∀ (v:Rel) (h':Heap),bu h h'->∀ (K:Out->Heap->Bool),(∀ Kg,bu h' Kg->K (.ret (.bool (p v))) Kg=true)->Sem TP g (a++([.agg (aQ v)]++b)) h' K)
  (hK:∀ h',bu h h'->K (.ret (.bool (l.any p))) h'=true):Sem TP 110 [x,.func g a b] h K:=by
 refine F.jt ?_;rw [F.jB];refine ah (wz hv hl hp fun h' hx=>?_);simp only [aR,reduceAdd,reduceEqDiff,reduceIte];rw [Lq];exact hK _ hx
theorem MV{s:cM}{r:Rel}(hr:s.aC.l[i]?=some r):ag (some 3) (.dN (s.aC.l.flatMap aQ) (i*3)) h=some (.agg (aQ r)):=dm dQ hr
theorem TZ{r v:Rel}(hb:h.get b=some (.cells (aQ r)))(Nd:b<h.next)(h':Heap)(hx:bu h h')(K:Out->Heap->Bool)(hK:∀ Kg,bu h' Kg->K (.ret (.bool (v.name==r.name))) Kg=true) :
  Sem TP 111 ([]++([.agg (aQ v)]++[.ptr b 0])) h' K:=by
 refine F.yC ?_;rw [F.zH];have ff:h'.get b=some (.cells (aQ r)):=by rw [hx.get b Nd];exact hb
 have gm:bu h' (Heap.alloc h' (.cells (aQ v))):=bu.alloc _ _;have g0:(Heap.alloc h' (.cells (aQ v))).get h'.next=some (.cells (aQ v)):=aA _ _
 have g1:(Heap.alloc h' (.cells (aQ v))).get b=some (.cells (aQ r)):=by rw [gm.get b (Nat.lt_of_lt_of_le Nd hx.next)];exact ff
 simp only [cT (fT v),aq];generalize (Heap.alloc h' (.cells (aQ v)))=H at g0 g1 gm ⊢;simp only [aR,reduceAdd,reduceEqDiff,reduceIte,aj g0,aj g1];rw [show (aQ v)[0]?=some (.str v.name) from rfl,show (aQ r)[0]?=some (.str r.name) from rfl];simp only [aR,reduceAdd,reduceEqDiff,reduceIte];exact hK _ gm
theorem dG{s:cM}(hs:s.ok){h:Heap}{K:Out->Heap->Bool}(hK:K (.ret (.bool (cG s))) h=true):Sem TP 64 [.agg (ak s)] h K:=by
 refine Sem.data (r:=.bool (cG s)) ?_ (by simp [AV.cL,AV.pure,eu]) hK;clear hK;refine F.Bj ?_;rw [F.C0];have b0:(Heap.alloc Heap.empty (.cells (ak s))).get 0=some (.cells (ak s)):=aA _ _;have bn:1<=(Heap.alloc Heap.empty (.cells (ak s))).next:=dL _
 simp only [cT (bS s),aq,bU];generalize (Heap.alloc Heap.empty (.cells (ak s)))=H at b0 bn ⊢;have fin:∀ (b:Bool) (H:Heap),b=cG s->qh (.bool (cG s)) (.ret (.bool b)) H=true:=fun b H hb=>by rw [hb];exact gh rfl
 generalize qh (.bool (cG s))=K at fin ⊢;simp only [aR,reduceAdd,reduceEqDiff,reduceIte,aj b0,ak];by_cases s1:s.size<1
 ·simp only [fE s1,aL];exact fin _ _ (by rw [cG,eT (by omega:¬ 1<=s.size),Bool.false_and])
 simp only [eT s1,aJ];by_cases s2:64<s.size
 ·simp only [fE s2,aL];exact fin _ _ (by rw [cG,eT (by omega:¬ s.size<=64),Bool.false_and,Bool.and_false])
 simp only [eT s2,aJ];by_cases s3:8<s.aC.l.length
 ·simp only [fE (by omega:(8:Int)<(s.aC.l.length:Int)),aL];exact fin _ _ (by rw [cG,eT (by omega:¬ s.aC.l.length<=8),Bool.false_and,Bool.and_false,Bool.and_false])
 simp only [eT (by omega:¬ (8:Int)<(s.aC.l.length:Int)),aJ]
 replace fin:∀ (b:Bool) (H:Heap),b=Fe (oU s) s.aC.l.length->K (.ret (.bool b)) H=true:=fun b H hb=>fin b H (by
  rw [cG,fE (by omega:1<=s.size),fE (by omega:s.size<=64),fE (by omega:s.aC.l.length<=8)];exact hb)
 obtain ⟨n,hn⟩:∃ n:Nat,s.size=(n:Int):=⟨s.size.toNat,by omega⟩
 have A4:s.size.toNat=n:=by omega
 refine aE 0 s.aC.l.length (zero_le _) (fun i e h'=>h'.get 0=some (.cells (ak s))/\1<=h'.next/\e 1 = .ptr 0 0/\e 20=an aQ 3 s.aC/\e 21 = .int .i64 (s.aC.l.length:Int)/\e 22 = .int .i64 (i:Int)/\∀ j,j<i->oU s j=true) ⟨b0,bn,rfl,rfl,rfl,rfl,fun j hj=>by omega⟩ ?_ ?_
 ·rintro i e h' _ hi ⟨q0,qn,e1,Hw,AL,Bz,ht⟩ K' pF fK Jz hp;have hv:s.aC.l[i]?=some s.aC.l[i]:=ep hi;generalize s.aC.l[i]=r at hv;have WQ:r.ok:=hs.2 r (ig hv);have HE:oU s i=(nD n r&&!((s.aC.l.take i).any fun q=>q.name==r.name)):=by rw [oU,hv,A4]
  have bad:∀ (e:Env) (h:Heap),oU s i=false->e 2 = .bool false->F.dG.cQ K .ret ⟨e,63,[],h⟩=true:=fun e h hb he=>by
   rw [F.dG.bB,he];exact fin _ _ (jk hi hb).symm
  obtain ⟨H,iP,g1,go,gn⟩:=cr (h:=h') (zs:=[.str [],.int .i64 0,.ax]) (cs:=aQ r) (n:=3) rfl rfl (fT r);have p0:H.get 0=some (.cells (ak s)):=by rw [go _ (by omega)];exact q0
  rw [F.dG.aT];simp only [e1,Hw,AL,Bz,aR,reduceAdd,reduceEqDiff,reduceIte,bh hi,aW s.aC hi,MV hv,iP,aj g1,bV (dQ r)];rw [show (aQ r)[0]?=some (.str r.name) from rfl];simp only [aR,reduceAdd,reduceEqDiff,reduceIte];refine ah (dP ?_);simp only [aR,reduceAdd,reduceEqDiff,reduceIte]
  cases w1:ec r.name with
  |false=>
   simp only [Bool.not_false,aL];rw [Jz];exact bad _ _ (by rw [HE,nD,w1];simp) rfl
  |true=>
  simp only [Bool.not_true,aJ,aR,reduceAdd,reduceEqDiff,reduceIte,aj g1];rw [show (aQ r)[1]?=some (.int .i64 r.arity) from rfl];simp only [aR,reduceAdd,reduceEqDiff,reduceIte];by_cases w2:r.arity<0
  ·simp only [fE w2,aL];rw [Jz];exact bad _ _ (by rw [HE,nD,eT (by omega:¬ 0<=r.arity)];simp) rfl
  simp only [eT w2,aJ];by_cases w3:12<r.arity
  ·simp only [fE w3,aL];rw [Jz];exact bad _ _ (by rw [HE,nD,eT (by omega:¬ r.arity<=12)];simp) rfl
  simp only [eT w3,aJ,aj p0,aR,reduceAdd,reduceEqDiff,reduceIte,e1];rw [show (ak s)[0]?=some (.int .i64 s.size) from rfl];obtain ⟨k,hk⟩:∃ k:Nat,r.arity=(k:Int):=⟨r.arity.toNat,by omega⟩
  simp only [aR,reduceAdd,reduceEqDiff,reduceIte,hn,hk];refine ah (dY (by omega) (by omega) (show k<=cN by unfold cN;omega) ?_);simp only [aR,reduceAdd,reduceEqDiff,reduceIte]
  have T0:oU s i=(decide (n ^ k<=4096)&&yM n k r.aN.l&&!((s.aC.l.take i).any fun q=>q.name==r.name)):=by
   rw [HE,nD,w1,fE (by omega:0<=r.arity),fE (by omega:r.arity<=12),hk];simp
  by_cases w4:n ^ k<=4096
  ·simp only [Ln,if_pos w4,eT (by omega:¬ ((n ^ k:Nat):Int)<0),aJ,aR,reduceAdd,reduceEqDiff,reduceIte,aj p0,aj g1,bV (dQ r),e1];rw [show (ak s)[0]?=some (.int .i64 s.size) from rfl];simp only [aR,reduceAdd,reduceEqDiff,reduceIte,hn];refine ah (cZ WQ hk ?_);simp only [aR,reduceAdd,reduceEqDiff,reduceIte]
   cases w5:yM n k r.aN.l with
   |false=>
    simp only [Bool.not_false,aL];rw [Jz];exact bad _ _ (by rw [T0,w5];simp) rfl
   |true=>
   simp only [Bool.not_true,aJ,aR,reduceAdd,reduceEqDiff,reduceIte,aj p0,e1];rw [show (ak s)[1]?=some (an aQ 3 s.aC) from rfl];obtain ⟨a,ha,X3⟩:=N9 dQ s.aC (Nat.le_of_lt hi);simp only [aR,reduceAdd,reduceEqDiff,reduceIte,ha];have hlt:(s.aC.l.take i).length<=cN:=by rw [length_take];have:=hs.1;omega
   refine ah (zT (p:=fun q=>q.name==r.name) X3 hlt (fun v h2 gm K2 U8=>TZ g1 (by omega) h2 gm K2 U8) fun h2 gm=>?_);simp only [aR,reduceAdd,reduceEqDiff,reduceIte]
   cases w6:(s.aC.l.take i).any fun q=>q.name==r.name with
   |true=>
    simp only [aL];rw [Jz];exact bad _ _ (by rw [T0,w6];simp) rfl
   |false=>
    simp only [aJ,aI hi hs.1,aq,Bz];refine pF _ _ ⟨by rw [gm.get 0 (by omega)];exact p0,by have:=gm.next;omega,e1,Hw,AL,rfl,fun j hj=>?_⟩;by_cases GW:j<i
    ·exact ht j GW
    ·obtain rfl:j=i:=by omega
     rw [T0,w5,w6,fE w4];rfl
  ·simp only [Ln,if_neg w4,fE (by omega:(-1:Int)<0),aL];rw [Jz];exact bad _ _ (by rw [T0,eT w4];simp) rfl
 ·rintro e h' ⟨q0,qn,e1,Hw,AL,Bz,ht⟩ K' fK;rw [F.dG.aT];simp only [AL,Bz,aR,reduceAdd,reduceEqDiff,reduceIte,aX];rw [fK,F.dG.aF];exact fin _ _ (om ht).symm
theorem QF{p:α->Bool}{l:List α}{a:α}(ha:l[i]?=some a)(hi:i<k)(hp:p a=true):(l.take k).any p=true:=by
 rw [List.any_eq_true];exact ⟨a,ig (by rw [getElem?_take_of_lt hi];exact ha),hp⟩
theorem qO{s:cM}{r:Rel}(hr:s.aC.l[i]?=some r):ag none (.dN (s.aC.l.flatMap aQ) (i*3)) h=some (.str r.name):=by
 have:=fL (h:=h) dQ hr (k:=0) (by omega);rw [Nat.add_zero] at this;rw [this];rfl
theorem cp{s:cM}(hs:s.ok){h:Heap}{K:Out->Heap->Bool}(hK:K (.ret (.bool (cG s))) h=true):Sem TP 66 [.agg (ak s)] h K:=by
 refine Sem.data (r:=.bool (cG s)) ?_ (by simp [AV.cL,AV.pure,eu]) hK;clear hK;refine F.Bi ?_;rw [F.CX];have b0:(Heap.alloc Heap.empty (.cells (ak s))).get 0=some (.cells (ak s)):=aA _ _;simp only [cT (bS s),aq,bU];generalize (Heap.alloc Heap.empty (.cells (ak s)))=H at b0 ⊢;have fin:∀ (b:Bool),b=cG s->qh (.bool (cG s)) (.ret (.bool b)) H=true:=fun b hb=>by rw [hb];exact gh rfl
 generalize qh (.bool (cG s))=K at fin ⊢;have ls:ag none (.ptr 0 0) H=some (.int .i64 s.size):=by rw [aj b0];rfl
 have lr:ag none (.ptr 0 (0+1)) H=some (an aQ 3 s.aC):=by rw [aj b0];rfl
 rw [Nat.zero_add] at lr;simp only [aR,reduceAdd,reduceEqDiff,reduceIte,ls,lr];by_cases s1:s.size<1
 ·simp only [fE s1,aL];exact fin _ (by rw [cG,eT (by omega:¬ 1<=s.size),Bool.false_and])
 simp only [eT s1,aJ];by_cases s2:64<s.size
 ·simp only [fE s2,aL];exact fin _ (by rw [cG,eT (by omega:¬ s.size<=64),Bool.false_and,Bool.and_false])
 simp only [eT s2,aJ];by_cases s3:8<s.aC.l.length
 ·simp only [fE (by omega:(8:Int)<(s.aC.l.length:Int)),aL];exact fin _ (by rw [cG,eT (by omega:¬ s.aC.l.length<=8),Bool.false_and,Bool.and_false,Bool.and_false])
 simp only [eT (by omega:¬ (8:Int)<(s.aC.l.length:Int)),aJ]
 replace fin:∀ (b:Bool),b=Fe (oU s) s.aC.l.length->K (.ret (.bool b)) H=true:=fun b hb=>fin b (by
  rw [cG,fE (by omega:1<=s.size),fE (by omega:s.size<=64),fE (by omega:s.aC.l.length<=8)];exact hb)
 obtain ⟨n,hn⟩:∃ n:Nat,s.size=(n:Int):=⟨s.size.toNat,by omega⟩
 have A4:s.size.toNat=n:=by omega
 rw [hn] at ls;refine aE 0 s.aC.l.length (zero_le _) (fun i e h'=>h'=H/\e 1 = .ptr 0 0/\e 3 = .int .i64 (i:Int)/\∀ j,j<i->oU s j=true) ⟨rfl,rfl,rfl,fun j hj=>by omega⟩ ?_ ?_
 ·rintro i e h' _ hi ⟨rfl,e1,e3,ht⟩ K' pF fK Jz hp;have hv:s.aC.l[i]?=some s.aC.l[i]:=ep hi;generalize s.aC.l[i]=r at hv;have WQ:r.ok:=hs.2 r (ig hv);have HE:oU s i=(nD n r&&!((s.aC.l.take i).any fun q=>q.name==r.name)):=by rw [oU,hv,A4]
  have bad:∀ (e:Env),oU s i=false->e 2 = .bool false->F.cp.cQ K .ret ⟨e,53,[],h'⟩=true:=fun e hb he=>by
   rw [F.cp.bB,he];exact fin _ (jk hi hb).symm
  rw [F.cp.aT];simp only [e1,e3,aR,reduceAdd,reduceEqDiff,reduceIte,ls,lr,bh hi,aW s.aC hi,MV hv];refine ah (fM (by omega) (by omega) WQ ?_);simp only [aR,reduceAdd,reduceEqDiff,reduceIte]
  cases w1:nD n r with
  |false=>
   simp only [Bool.not_false,aL];rw [Jz];exact bad _ (by rw [HE,w1,Bool.false_and]) rfl
  |true=>
  simp only [Bool.not_true,aJ];refine aE 0 i (zero_le _) (fun k e h2=>h2=h'/\e 1 = .ptr 0 0/\e 3 = .int .i64 (i:Int)/\e 4 = .int .i64 (k:Int)/\((s.aC.l.take k).any fun q=>q.name==r.name)=false) ⟨rfl,e1,e3,rfl,rfl⟩ ?_ ?_
  ·rintro k e h2 _ hk ⟨rfl,e1,e3,e4,V2⟩ K2 pH gm rY F5;have hki:k<s.aC.l.length:=by omega
   have XZ:s.aC.l[k]?=some s.aC.l[k]:=ep hki;generalize s.aC.l[k]=q at XZ;rw [F.cp.dr];simp only [e1,e3,e4,aR,reduceAdd,reduceEqDiff,reduceIte,lr,bh hk,aW s.aC hi,aW s.aC hki,qO hv,qO XZ]
   cases w2:q.name==r.name with
   |true=>
    simp only [aL];rw [rY,F.cp.jG,Jz];exact bad _ (by rw [HE,QF XZ hk w2];simp) rfl
   |false=>
    simp only [aJ,aI hk (by have:=hs.1;omega),aq];exact pH _ _ ⟨rfl,e1,e3,rfl,yI XZ V2 w2⟩
  ·rintro e h2 ⟨rfl,e1,e3,e4,V2⟩ K2 gm;rw [F.cp.dr];simp only [e3,e4,aR,reduceAdd,reduceEqDiff,reduceIte,aX];rw [gm,F.cp.cz];simp only [aR,reduceAdd,reduceEqDiff,reduceIte,e3,aI hi hs.1];refine pF _ _ ⟨rfl,e1,rfl,fun j hj=>?_⟩;by_cases GW:j<i
   ·exact ht j GW
   ·obtain rfl:j=i:=by omega
    rw [HE,w1,V2];rfl
 ·rintro e h' ⟨rfl,e1,e3,ht⟩ K' fK;rw [F.cp.aT];simp only [e1,e3,aR,reduceAdd,reduceEqDiff,reduceIte,lr,aX];rw [fK,F.cp.aF];exact fin _ (om ht).symm
def gv(nm:b6)(k:Int)(q:Rel):Bool:=(q.name==nm)&&decide (q.arity=k)
def fU(nm:b6)(q:Rel):Bool:=q.name==nm
theorem eW{s:cM}(hs:s.ok){nm:b6}{h:Heap}{K:Out->Heap->Bool}(hK:K (.ret (.int .i64 (jb (fU nm) s.aC.l))) h=true):Sem TP 69 [.agg (ak s),.str nm] h K:=by
 refine Sem.data (r:=.int .i64 (jb (fU nm) s.aC.l)) ?_ (by simp [AV.cL,AV.pure,eu]) hK;clear hK;refine F.CZ ?_;rw [F.EO];have b0:(Heap.alloc Heap.empty (.cells (ak s))).get 0=some (.cells (ak s)):=aA _ _;simp only [cT (bS s),aq,bU];generalize (Heap.alloc Heap.empty (.cells (ak s)))=H at b0 ⊢;have fin:∀ b:Int,b=jb (fU nm) s.aC.l->qh (.int .i64 (jb (fU nm) s.aC.l)) (.ret (.int .i64 b)) H=true:=fun b hb=>by rw [hb];exact gh rfl
 have lr:ag none (.ptr 0 1) H=some (an aQ 3 s.aC):=by rw [aj b0];rfl
 refine aE 0 s.aC.l.length (zero_le _) (fun i e h'=>h'=H/\e 1 = .str nm/\e 2 = .ptr 0 0/\e 5 = .int .i64 (i:Int)/\jb (fU nm) s.aC.l=uk (fU nm) (s.aC.l.drop i) i) ⟨rfl,rfl,rfl,rfl,rfl⟩ ?_ ?_
 ·rintro i e h' _ hi ⟨rfl,e1,e2,e5,ht⟩ K' hn fK hr hp;have hv:s.aC.l[i]?=some s.aC.l[i]:=ep hi;generalize s.aC.l[i]=r at hv;rw [JA hv] at ht;rw [F.eW.aT];simp only [e1,e2,e5,aR,reduceAdd,reduceEqDiff,reduceIte,lr,bh hi,aW s.aC hi,qO hv]
  cases hq:r.name==nm with
  |true=>
   simp only [aL];rw [hr,F.eW.bB];rw [if_pos (show fU nm r=true from hq)] at ht;simp only [bO,reduceEqDiff,reduceIte,e5];exact fin _ ht.symm
  |false=>
   simp only [aJ,aI hi hs.1,aq];rw [if_neg (by rw [fU,hq];decide)] at ht;exact hn _ _ ⟨rfl,e1,e2,rfl,ht⟩
 ·rintro e h' ⟨rfl,e1,e2,e5,ht⟩ K' fK;rw [F.eW.aT];simp only [e1,e2,e5,aR,reduceAdd,reduceEqDiff,reduceIte,lr,aX];rw [fK,F.eW.aF];rw [drop_of_length_le (dL _)] at ht;exact fin _ ht.symm
theorem WR{b1 b2:Nat}{v:Rel}{k:Int}(g1:h.get b1=some (.cells [.str nm]))(g2:h.get b2=some (.cells [.int .i64 k]))(n1:b1<h.next)(n2:b2<h.next)(h':Heap)(hx:bu h h')(K:Out->Heap->Bool)(hK:∀ Kg,bu h' Kg->K (.ret (.bool (gv nm k v))) Kg=true) :
  Sem TP 94 ([]++([.agg (aQ v)]++[.ptr b1 0,.ptr b2 0])) h' K:=by
 refine F.zI ?_;rw [F.Bo];have gm:bu h' (Heap.alloc h' (.cells (aQ v))):=bu.alloc _ _;have g0:(Heap.alloc h' (.cells (aQ v))).get h'.next=some (.cells (aQ v)):=aA _ _
 have q1:(Heap.alloc h' (.cells (aQ v))).get b1=some (.cells [.str nm]):=by rw [gm.get b1 (Nat.lt_of_lt_of_le n1 hx.next),hx.get b1 n1];exact g1
 have q2:(Heap.alloc h' (.cells (aQ v))).get b2=some (.cells [.int .i64 k]):=by rw [gm.get b2 (Nat.lt_of_lt_of_le n2 hx.next),hx.get b2 n2];exact g2
 simp only [cT (fT v),aq];generalize (Heap.alloc h' (.cells (aQ v)))=H at g0 q1 q2 gm ⊢;simp only [aR,reduceAdd,reduceEqDiff,reduceIte,aj g0,aj q1,aj q2];rw [show (aQ v)[0]?=some (.str v.name) from rfl,show (aQ v)[1]?=some (.int .i64 v.arity) from rfl];simp only [aR,reduceAdd,reduceEqDiff,reduceIte,cA];have:=hK _ gm;unfold gv at this
 cases hq:v.name==nm with
 |true=>simp only [aL];rw [hq,Bool.true_and] at this;exact this
 |false=>simp only [aJ];rw [hq,Bool.false_and] at this;exact this
theorem rS{s:cM}(hs:s.ok){k:Int}(hK:K (.ret (.int .i64 (jb (gv nm k) s.aC.l))) h=true):Sem TP 53 [.agg (ak s),.str nm,.int .i64 k] h K:=by
 refine Sem.data (r:=.int .i64 (jb (gv nm k) s.aC.l)) ?_ (by simp [AV.cL,AV.pure,eu]) hK;clear hK;refine F.C5 ?_;rw [F.ER];simp only [cT (bS s),pR (x:=.int .i64 _) rfl,pR (x:=.str _) rfl,aq,bU,Heap.aM];have g0:(Heap.alloc (Heap.alloc (Heap.alloc Heap.empty (.cells (ak s))) (.cells [.str nm])) (.cells [.int .i64 k])).get 0=some (.cells (ak s)):=by simp [Heap.aV,bU]
 have g1:(Heap.alloc (Heap.alloc (Heap.alloc Heap.empty (.cells (ak s))) (.cells [.str nm])) (.cells [.int .i64 k])).get 1=some (.cells [.str nm]):=by simp [Heap.aV,bU]
 have g2:(Heap.alloc (Heap.alloc (Heap.alloc Heap.empty (.cells (ak s))) (.cells [.str nm])) (.cells [.int .i64 k])).get 2=some (.cells [.int .i64 k]):=by simp [Heap.aV,bU]
 have gn:(Heap.alloc (Heap.alloc (Heap.alloc Heap.empty (.cells (ak s))) (.cells [.str nm])) (.cells [.int .i64 k])).next=3:=rfl
 generalize (Heap.alloc (Heap.alloc (Heap.alloc Heap.empty (.cells (ak s))) (.cells [.str nm])) (.cells [.int .i64 k]))=H at g0 g1 g2 gn ⊢;have lr:ag none (.ptr 0 1) H=some (an aQ 3 s.aC):=by rw [aj g0];rfl
 simp only [aR,reduceAdd,reduceEqDiff,reduceIte,lr];refine ah (wz (QC dQ s.aC) hs.1 (p:=gv nm k) (fun v h2 gm K2 U8=>WR g1 g2 (by omega) (by omega) h2 gm K2 U8) fun h2 gm=>?_);simp only [aR,reduceAdd,reduceEqDiff,reduceIte];exact gh rfl
theorem qQ{s:cM}{r:Rel}(hr:s.aC.l[i]?=some r):ag none (.dN (s.aC.l.flatMap aQ) (i*3+2)) h=some (an cX 1 r.aN):=by
 rw [fL dQ hr (by omega)];rfl
theorem bZ{s:cM}(hs:s.ok){b:Nat}{h:Heap}(hb:h.get b=some (.cells (ak s))){K:Out->Heap->Bool}(hK:∀ x,K (.ret (.bool x)) h=true):Sem TP 42 [.slice b 0 1 2] h K:=by
 refine F.EM ?_;rw [F.Hg];have lr:ag none (.ptr b 1) h=some (an aQ 3 s.aC):=by rw [aj hb];rfl
 have ia:dH 2 (.slice b 0 1 2) (.int .i64 ((0:Nat):Int))=some (.ptr b 0):=rfl;have hl:∀ h:Heap,bW .slice (.slice b 0 1 2) h=some (.int .i64 ((1:Nat):Int)):=fun _=>rfl
 have num:∀ e:Env,(∃ x:Int,e 4 = .int .i64 x)->F.bZ.cQ K (.exit 0) ⟨e,89,[],h⟩=true:=fun e ⟨x,hx⟩=>by
  rw [F.bZ.aF];simp only [hx,aR,reduceAdd,reduceEqDiff,reduceIte];exact hK _
 refine aE 0 1 (zero_le _) (fun i e h'=>h'=h/\e 0 = .slice b 0 1 2/\(∃ x:Int,e 3 = .int .i64 x)/\(∃ x:Int,e 4 = .int .i64 x)/\e 5 = .int .i64 (i:Int)) ⟨rfl,rfl,⟨0,rfl⟩,⟨0,rfl⟩,rfl⟩ ?_ ?_
 ·rintro i e h' _ hi ⟨rfl,e0,e3,e4,e5⟩ K' hn hx hr hp;obtain rfl:i=0:=by omega
  rw [F.bZ.aT];simp only [e0,e5,hl,ia,lr,aR,reduceAdd,reduceEqDiff,reduceIte,bh hi];by_cases q1:12<s.aC.l.length
  ·simp only [fE (by omega:(12:Int)<(s.aC.l.length:Int)),aL];rw [hr,F.bZ.bB];simp only [bO,reduceEqDiff,reduceIte];exact hK _
  simp only [eT (by omega:¬ (12:Int)<(s.aC.l.length:Int)),aJ];refine aE 0 s.aC.l.length (zero_le _) (fun k e h2=>h2=h'/\e 0 = .slice b 0 1 2/\(∃ x:Int,e 3 = .int .i64 x)/\(∃ x:Int,e 4 = .int .i64 x)/\e 5 = .int .i64 ((0:Nat):Int)/\e 6 = .int .i64 (k:Int)) ⟨rfl,e0,e3,e4,e5,rfl⟩ ?_ ?_
  ·rintro k e h2 _ hk ⟨rfl,e0,⟨x3,e3⟩,e4,e5,e6⟩ K2 pH gm rY F5;have hv:s.aC.l[k]?=some s.aC.l[k]:=ep hk;generalize s.aC.l[k]=r at hv;have WQ:r.ok:=hs.2 r (ig hv);obtain ⟨y,hy⟩:=P4 x3 (r.aN.l.length:Int)
   have ret:∀ e:Env,e 2 = .bool false->F.bZ.kJ K' .ret ⟨e,89,[],h2⟩=true:=fun e he=>by
    rw [F.bZ.jG,hr,F.bZ.bB,he];exact hK _
   rw [F.bZ.dr];simp only [e0,e3,e5,e6,ia,lr,aR,reduceAdd,reduceEqDiff,reduceIte,bh hk,aW s.aC hk,qQ hv,qO hv,hy]
   cases decide ((1500:Int)<y) with
   |true=>
    simp only [aL];rw [rY];exact ret _ rfl
   |false=>
   simp only [aJ]
   cases decide ((1000:Int)<(r.name.length:Int)) with
   |true=>
    simp only [aL];rw [rY];exact ret _ rfl
   |false=>
   simp only [aJ];refine aE 0 r.aN.l.length (zero_le _) (fun j e h3=>h3=h2/\e 0 = .slice b 0 1 2/\(∃ x:Int,e 3 = .int .i64 x)/\(∃ x:Int,e 4 = .int .i64 x)/\e 5 = .int .i64 ((0:Nat):Int)/\e 6 = .int .i64 (k:Int)/\e 7 = .int .i64 (j:Int)) ⟨rfl,e0,⟨y,rfl⟩,e4,e5,e6,rfl⟩ ?_ ?_
   ·rintro j e h3 _ hj ⟨rfl,e0,e3,⟨x4,e4⟩,e5,e6,e7⟩ K3 Vq Lm XL hp3;have ht:r.aN.l[j]?=some r.aN.l[j]:=ep hj;generalize r.aN.l[j]=t at ht;obtain ⟨z,hz⟩:=P4 x4 (t.l.length:Int);rw [F.bZ.mG];simp only [e0,e4,e5,e6,e7,ia,lr,aR,reduceAdd,reduceEqDiff,reduceIte,aW s.aC hk,qQ hv,bh hj,aW r.aN hj,ir ht,hz,aI hj WQ.2.1];exact Vq _ _ ⟨rfl,e0,e3,⟨z,rfl⟩,e5,e6,rfl⟩
   ·rintro e h3 ⟨rfl,e0,e3,e4,e5,e6,e7⟩ K3 Lm;rw [F.bZ.mG];simp only [e0,e5,e6,e7,ia,lr,aR,reduceAdd,reduceEqDiff,reduceIte,aW s.aC hk,qQ hv,aX];rw [Lm,F.bZ.iZ];simp only [aR,reduceAdd,reduceEqDiff,reduceIte,e6,aI hk hs.1];exact pH _ _ ⟨rfl,e0,e3,e4,e5,rfl⟩
  ·rintro e h2 ⟨rfl,e0,e3,e4,e5,e6⟩ K2 gm;rw [F.bZ.dr];simp only [e0,e5,e6,ia,lr,aR,reduceAdd,reduceEqDiff,reduceIte,aX];rw [gm,F.bZ.cz];simp only [aR,reduceAdd,reduceEqDiff,reduceIte,e5,aI hi (show (1:Nat)<=cN by unfold cN;omega)];exact hn _ _ ⟨rfl,e0,e3,e4,rfl⟩
 ·rintro e h' ⟨rfl,e0,e3,e4,e5⟩ K' hx;rw [F.bZ.aT];simp only [e0,e5,hl,aR,reduceAdd,reduceEqDiff,reduceIte,aX];rw [hx];exact num _ e4
theorem Own.lC{enc:α->List AV}{l:List α}(o:Own enc sz k h a l):bw (AV.dz a)=true/\(AV.dz a).length=1/\AV.dz a = [a]:=by cases o<;>exact ⟨rfl,rfl,rfl⟩
def BC(s:cM)(y:b6×Int):Bool:=match s.aC.l.find? (fU y.1) with
 |some r=>decide (r.arity=y.2)
 |none=>false
theorem DK{α:Type}(p:α->Bool):∀ (l:List α) (i:Nat),(uk p l i = -1/\l.find? p=none)\/∃ (j:Nat) (v:α),uk p l i=((i+j:Nat):Int)/\l[j]?=some v/\l.find? p=some v
 |[],i=>.inl ⟨rfl,rfl⟩
 |x :: l,i=>by
  rw [uk,find?_cons]
  cases hp:p x with
  |true=>exact .inr ⟨0,x,by simp,rfl,rfl⟩
  |false=>
   simp only [false_eq_true,if_false];rcases DK p l (i+1) with ⟨h1,h2⟩|⟨j,v,h1,h2,h3⟩
   ·exact .inl ⟨h1,h2⟩
   ·exact .inr ⟨j+1,v,by rw [h1];congr 1;omega,by simpa using h2,h3⟩
theorem lK(p:α->Bool)(l:List α):(jb p l = -1/\l.find? p=none)\/∃ (j:Nat) (v:α),jb p l=(j:Int)/\l[j]?=some v/\l.find? p=some v:=by
 rcases DK p l 0 with h|⟨j,v,h1,h2,h3⟩
 ·exact .inl h
 ·exact .inr ⟨j,v,by rw [jb,h1,Nat.zero_add],h2,h3⟩
theorem zU{s:cM}{r:Rel}(hr:s.aC.l[i]?=some r):ag none (.dN (s.aC.l.flatMap aQ) (i*3+1)) h=some (.int .i64 r.arity):=by
 rw [fL dQ hr (by omega)];rfl
theorem abI{y:b6×Int}(hy:x.l[i]?=some y):ag none (.dN (x.l.flatMap nB) (i*2)) h=some (.str y.1):=by
 have:=fL (h:=h) oR hy (k:=0) (by omega);rw [Nat.add_zero] at this;rw [this];rfl
theorem WS{y:b6×Int}(hy:x.l[i]?=some y):ag none (.dN (x.l.flatMap nB) (i*2+1)) h=some (.int .i64 y.2):=by
 rw [fL oR hy (by omega)];rfl
theorem Oa(y:b6×Int):AV.cL (nB y)=true:=rfl
theorem eV{s:cM}(hs:s.ok){x:Sl (b6×Int)}(hx:x.l.length<=cN){h:Heap}{K:Out->Heap->Bool}(hK:K (.ret (.bool (x.l.all (BC s)))) h=true):Sem TP 67 [.agg (ak s),an nB 2 x] h K:=by
 refine Sem.data (r:=.bool (x.l.all (BC s))) ?_ (by simp [AV.cL,AV.pure,eu,cj Oa]) hK;clear hK;refine F.CY ?_;rw [F.EN];have b0:(Heap.alloc Heap.empty (.cells (ak s))).get 0=some (.cells (ak s)):=aA _ _;simp only [cT (bS s),aq,bU];generalize (Heap.alloc Heap.empty (.cells (ak s)))=H at b0 ⊢;have fin:∀ b:Bool,b=x.l.all (BC s)->qh (.bool (x.l.all (BC s))) (.ret (.bool b)) H=true:=fun b hb=>by rw [hb];exact gh rfl
 have lr:ag none (.ptr 0 1) H=some (an aQ 3 s.aC):=by rw [aj b0];rfl
 have lw:ag (some 2) (.ptr 0 0) H=some (.agg (ak s)):=by rw [aj b0,bV (cs:=ak s) (n:=2) rfl]
 refine aE 0 x.l.length (zero_le _) (fun i e h'=>h'=H/\e 1=an nB 2 x/\e 2 = .ptr 0 0/\e 5 = .int .i64 (i:Int)/\(x.l.take i).all (BC s)=true) ⟨rfl,rfl,rfl,rfl,rfl⟩ ?_ ?_
 ·rintro i e h' _ hi ⟨rfl,e1,e2,e5,ht⟩ K' hn fK hr hp;have hv:x.l[i]?=some x.l[i]:=ep hi;generalize x.l[i]=y at hv;rw [F.eV.aT];simp only [e1,e2,e5,aR,reduceAdd,reduceEqDiff,reduceIte,lw,bh hi,aW x hi,abI hv];refine ah (eW hs ?_);simp only [aR,reduceAdd,reduceEqDiff,reduceIte];rcases lK (fU y.1) s.aC.l with ⟨h1,h2⟩|⟨j,r,h1,h2,h3⟩
  ·rw [h1];simp only [show decide ((-1:Int)<0)=true from rfl,aL];rw [hr,F.eV.bB];simp only [bO,reduceEqDiff,reduceIte];exact fin _ (all_false hv (by rw [BC,h2])).symm
  ·rw [h1];have hj:j<s.aC.l.length:=(jJ.1 h2).1;simp only [eT (by omega:¬ ((j:Int)<0)),aJ,aR,reduceAdd,reduceEqDiff,reduceIte,e1,e2,e5,lr,aW s.aC hj,zU h2,aW x hi,WS hv,cA];by_cases hq:r.arity=y.2
   ·simp only [fE hq,Bool.not_true,aJ,aI hi hx,aq];exact hn _ _ ⟨rfl,e1,e2,rfl,ju hv ht (by rw [BC,h3];exact fE hq)⟩
   ·simp only [eT hq,Bool.not_false,aL];rw [hr,F.eV.bB];simp only [bO,reduceEqDiff,reduceIte];exact fin _ (all_false hv (by rw [BC,h3];exact eT hq)).symm
 ·rintro e h' ⟨rfl,e1,e2,e5,ht⟩ K' fK;rw [F.eV.aT];simp only [e1,e5,aR,reduceAdd,reduceEqDiff,reduceIte,aX];rw [fK,F.eV.aF];rw [kC (dL _)] at ht;exact fin _ ht.symm
theorem X4(s:St):dh TP s Tryz.f183.results.toList=(match ag (some 3) (s.env 8) s.h,(some []:Option (List AV)) with|some v,some vs=>some (v :: vs)|_,_=>none):=by kernel_rfl
theorem DL{s:cM}(hv:cG s=true){r:Rel}(hr:s.aC.l[i]?=some r):nD s.size.toNat r=true:=by
 simp only [cG,and_eq_true] at hv;have:=yQ hv.2.2.2 (jJ.1 hr).1;rw [oU,hr] at this;simp only [and_eq_true] at this;exact this.1
theorem jA{s:cM}(hv:cG s=true):∃ n:Nat,s.size=(n:Int)/\1<=n/\n<=64/\s.aC.l.length<=8:=by
 simp only [cG,and_eq_true,decide_eq_true_eq] at hv;exact ⟨s.size.toNat,by omega,by omega,by omega,hv.2.2.1⟩
theorem HF{r:Rel}(h:nD n r=true):∃ k:Nat,r.arity=(k:Int)/\k<=12/\n ^ k<=4096/\yM n k r.aN.l=true:=by
 simp only [nD,and_eq_true,decide_eq_true_eq] at h;exact ⟨r.arity.toNat,by omega,by omega,h.2.2.2.1,h.2.2.2.2⟩
theorem rT{s:cM}(hv:cG s=true):(s.aC.l.map Rel.name).Nodup:=by
 simp only [cG,and_eq_true] at hv;unfold List.Nodup;rw [pairwise_iff_getElem];intro i j hi hj hij e;rw [length_map] at hi hj;have:=yQ hv.2.2.2 hj;rw [oU,ep hj] at this;simp only [and_eq_true,not_eq_true'] at this;rw [getElem_map,getElem_map] at e;have h2:=QF (p:=fun q:Rel=>q.name==s.aC.l[j].name) (ep hi) hij (by simpa using e);rw [h2] at this;cases this.2
theorem Gh:∀ {l:List Rel},(l.map Rel.name).Nodup->∀ (nm:b6) (k:Int),l.find? (gv nm k)=match l.find? (fU nm) with
  |some r=>if r.arity=k then some r else none
  |none=>none
 |[],_,nm,k=>rfl
 |q :: l,hn,nm,k=>by
  rw [map_cons,nodup_cons] at hn;rw [find?_cons,find?_cons]
  cases hq:fU nm q with
  |true=>
   have nU:q.name==nm:=hq;simp only;by_cases ha:q.arity=k
   ·have:gv nm k q=true:=(by rw [gv,nU,fE ha];rfl);rw [this,if_pos ha]
   ·have:gv nm k q=false:=(by rw [gv,eT ha,Bool.and_false]);rw [this,if_neg ha];simp only;rw [find?_eq_none];intro r hr hs;simp only [gv,and_eq_true,beq_iff_eq] at hs nU;exact hn.1 (by rw [nU,<- hs.1];exact List.mem_map_of_mem hr)
  |false=>
   have nU:(q.name==nm)=false:=hq;have:gv nm k q=false:=by rw [gv,nU,Bool.false_and]
   rw [this];exact Gh hn.2 nm k
theorem JB{s:cM}(hv:cG s=true)(y:b6×Int):BC s y=(s.aC.l.find? (gv y.1 y.2)).isSome:=by
 rw [Gh (rT hv),BC]
 cases s.aC.l.find? (fU y.1) with
 |none=>rfl
 |some r=>
  simp only;by_cases h:r.arity=y.2
  ·rw [if_pos h,fE h];rfl
  ·rw [if_neg h,eT h];rfl
theorem T1(l:List Int):bw (l.map iv)=true:=by
 induction l with
 |nil=>rfl
 |cons a l ih=>simp only [map_cons,bw,ih,Bool.and_true];rfl
theorem zV{src:AV}{l:List Int}(r:Row encI 1 (h.alloc (.cells [])) src l)(hl:l.length<=1000000) :
  ∃ b h',b7 1 8 (.slice h.next 0 0 1) src (h.alloc (.cells []))=some (.slice b 0 l.length 1,h')/\h'.get b=some (.cells (l.map iv))/\bu h h'/\h.next<=b/\b<h'.next:=by
 have hm:cI=140737488355328:=rfl;have g:(h.alloc (.cells [])).get h.next=some (.cells []):=aA _ _
 have rc:=r.cells;rw [<- tO] at rc;by_cases hz:l.length=0
 ·have:l = []:=eq_nil_of_length_eq_zero hz;subst this;refine ⟨h.next,h.alloc (.cells []),?_,g,bu.alloc _ _,dL _,lt_succ_self _⟩;simp only [length_nil] at rc;simp [b7,r.len,rc]
 ·refine ⟨h.next+1,((h.alloc (.cells [])).set h.next .dead).alloc (.cells (l.map iv)),?_,?_,?_,by omega,?_⟩
  ·simp only [b7,r.len,rc,if_true,if_neg hz,g];rw [if_pos (by simp [T1];omega)];simp [Heap.bl,Heap.aM]
  ·have:=aA ((h.alloc (.cells [])).set h.next .dead) (.cells (l.map iv))
   rwa [Heap.bl,Heap.aM] at this
  ·exact ((bu.alloc h (.cells [])).set (dL _) _).trans (bu.alloc _ _)
  ·rw [Heap.aM,Heap.bl,Heap.aM];omega
def T2(n:Nat)(t:List Int):List (List Int):=(List.range n).map fun (x:Nat)=>t++[(x:Int)]
def stepT(n:Nat)(out:List (List Int)):List (List Int):=out.flatMap (T2 n)
def JC(n:Nat):Nat->List (List Int)
 |0=>[[]]
 |k+1=>stepT n (JC n k)
theorem DM(n:Nat)(t:List Int):(T2 n t).length=n:=by simp [T2]
theorem zW{n:Nat}:∀ {out:List (List Int)} {r x:Nat} {t:List Int},out[r]?=some t->x<n->(stepT n out)[r*n+x]?=some (t++[(x:Int)])
 |[],r,x,t,h,_=>by simp at h
 |u :: out,0,x,t,h,hx=>by
  simp at h;subst h;rw [stepT,flatMap_cons,Nat.zero_mul,Nat.zero_add,getElem?_append_left (by rw [DM];exact hx)];simp [T2,getElem?_range hx]
 |u :: out,r+1,x,t,h,hx=>by
  rw [stepT,flatMap_cons,getElem?_append_right (by rw [DM,succ_mul];omega),DM];have:(r+1)*n+x-n=r*n+x:=by rw [succ_mul];omega
  rw [this];exact zW (out:=out) (by simpa using h) hx
theorem T3{t:List Int}{x:Nat}(ht:jC n t=true)(hx:x<n):jC n (t++[(x:Int)])=true:=by
 unfold jC at ht ⊢;rw [all_append,ht];simp;omega
theorem Gi{n:Nat}(hn:1<=n):∀ (k r:Nat),r<n ^ k->∃ t,(JC n k)[r]?=some t/\t.length=k/\jC n t=true/\nA n t=r
 |0,r,h=>by
  obtain rfl:r=0:=by simp at h;omega
  exact ⟨[],rfl,rfl,rfl,rfl⟩
 |k+1,r,h=>by
  have hr:r/n<n ^ k:=Nat.div_lt_of_lt_mul (by rw [Nat.mul_comm,<- Nat.pow_succ];exact h);have hx:r%n<n:=mod_lt _ hn;obtain ⟨t,h1,h2,h3,h4⟩:=Gi hn k (r/n) hr;refine ⟨t++[((r%n:Nat):Int)],?_,by simp [h2],T3 h3 hx,?_⟩
  ·have:=zW (n:=n) h1 hx;rw [JC]
   rwa [div_add_mod' r n] at this
  ·unfold nA at h4 ⊢;rw [tY,h4];simp only [vO,Int.toNat_natCast];exact div_add_mod' r n
theorem u7:gd [] [] []=some []:=rfl
theorem abJ(p:PB):gd [.ax] [(0,1)] [.slice p.1 0 p.2.length 1]=some (NS p):=rfl
theorem fB{x:Sl (Sl Int)}(hx:x.l.length<=1000000)(ht:∀ t ∈ x.l,t.l.length<=1000000){h:Heap}{K:Out->Heap->Bool}(hK:∀ y:Sl (Sl Int),y.l.map Sl.l=x.l.map Sl.l->K (.ret (an cX 1 y)) h=true):Sem TP 72 [an cX 1 x] h K:=by
 have hm:cI=140737488355328:=rfl;have hbig:x.l.length<=cN:=by unfold cN;omega
 have main:Sem TP 72 [an cX 1 x] Heap.empty (fun o h'=>yes (∃ v,∃ y:Sl (Sl Int),o = .ret v/\y.l.map Sl.l=x.l.map Sl.l/\Fz true h' v (an cX 1 y))):=by
  refine F.zK ?_;rw [F.Bp];refine aE 0 x.l.length (zero_le _) (fun i e h'=>∃ a ps,Dw 0 h' a ps/\ps.map (·.2)=(x.l.take i).map Sl.l/\e 0=an cX 1 x/\e 3=a/\e 4 = .int .i64 (i:Int)) ⟨_,_,.nil _ _,rfl,rfl,rfl,rfl⟩ ?_ ?_
  ·rintro i e h' _ hi ⟨a,ps,nst,wI,e0,e3,e4⟩ K' hn fK hr hp;have hv:x.l[i]?=some x.l[i]:=ep hi;generalize x.l[i]=t at hv;have DN:=ht t (ig hv);have sX:ps.length=i:=by have:=congrArg List.length wI;rw [length_map,length_map,length_take,Nat.min_eq_left (by omega)] at this;exact this
   obtain ⟨b,h5,a5,g5,x5,l5,m5⟩:=zV (uY nk t (h'.alloc (.cells []))) DN;have aeH:=nst.ext x5;obtain ⟨a6,h6,e6,aeI,_⟩:=aeH.push (zero_le _) (by rw [hm];omega) (b,t.l) (zero_le _) m5 (fun hb=>by have:=nst.own.lt hb;simp only at this;omega) g5;rw [F.fB.aT];simp only [e0,e3,e4,aR,reduceAdd,reduceEqDiff,reduceIte,bh hi,u7,aW x hi,ir hv,a5,abJ (b,t.l),e6,aI hi hbig];exact hn _ _ ⟨_,_,aeI,by rw [map_append,wI,take_add_one,hv,map_append];rfl,e0,rfl,rfl⟩
  ·rintro e h' ⟨a,ps,nst,wI,e0,e3,e4⟩ K' fK;rw [F.fB.aT];simp only [e0,e4,aR,reduceAdd,reduceEqDiff,reduceIte,aX];rw [fK,F.fB.aF];simp only [bO,reduceEqDiff,reduceIte,e3];obtain ⟨y,hy1,hy2⟩:=nst.y7 (old:=true);exact cw.2 ⟨a,y,rfl,by rw [hy1,wI,kC (dL _)],hy2⟩
 refine main.frozen (by simp [AV.cL,cj mW]) fun o h' ho=>?_;obtain ⟨v,y,rfl,hy,hf⟩:=cw.1 ho;exact ⟨v,_,rfl,hf,hK y hy⟩
structure cM.small (s:cM):Prop where
 aC:s.aC.l.length<=1000
 Fj:∀ r ∈ s.aC.l,r.aN.l.length<=10000
 X5:∀ r ∈ s.aC.l,∀ t ∈ r.aN.l,t.l.length<=1000
theorem cM.small.ok'{s:cM}(hs:s.small):s.aC.l.length<=cN:=by have:=hs.aC;unfold cN;omega
theorem T4(nm:b6)(k:Int)(y:Sl (Sl Int)):iw [.str [],.int .i64 0,.ax] [(0,1),(1,1),(2,1)] [.str nm,.int .i64 k,an cX 1 y]=some (.agg (aQ ⟨nm,k,y⟩)):=by cases y<;>rfl
theorem MW(r:Rel):gd [.str [],.int .i64 0,.ax] [(0,3)] [.agg (aQ r)]=some (aQ r):=by
 obtain ⟨nm,k,y⟩:=r;cases y<;>rfl
theorem QG(s:St):dh TP s Tryz.f25.results.toList=(match ag (some 2) (s.env 2) s.h,(some []:Option (List AV)) with|some v,some vs=>some (v :: vs)|_,_=>none):=by kernel_rfl
theorem gJ{s:cM}(hs:s.small){h:Heap}{K:Out->Heap->Bool}(hK:∀ a h' rs,bu h h'->Own aQ 3 h.next h' a rs->rs.map bH=s.aC.l.map bH->K (.ret (.agg [.int .i64 s.size,a])) h'=true):Sem TP 25 [.agg (ak s)] h K:=by
 have hm:cI=140737488355328:=rfl;refine F.C9 ?_;rw [F.EU];simp only [cT (bS s),aq,Heap.aM];have g0:(Heap.alloc (Heap.alloc h (.cells (ak s))) (.cells [.int .i64 0,.ax])).get h.next=some (.cells (ak s)):=by rw [Heap.aV,Heap.aM,if_neg (by omega)];exact aA _ _
 have g1:(Heap.alloc (Heap.alloc h (.cells (ak s))) (.cells [.int .i64 0,.ax])).get (h.next+1)=some (.cells [.int .i64 0,.ax]):=aA _ _;have gn:(Heap.alloc (Heap.alloc h (.cells (ak s))) (.cells [.int .i64 0,.ax])).next=h.next+2:=rfl
 have gx:bu h (Heap.alloc (Heap.alloc h (.cells (ak s))) (.cells [.int .i64 0,.ax])):=(bu.alloc _ _).trans (bu.alloc _ _);generalize (Heap.alloc (Heap.alloc h (.cells (ak s))) (.cells [.int .i64 0,.ax]))=H1 at g0 g1 gn gx ⊢;have lz:ag none (.ptr h.next 0) H1=some (.int .i64 s.size):=by rw [aj g0];rfl
 have ha:iw [.int .i64 0,.ax] [(0,1)] [.int .i64 s.size]=some (.agg [.int .i64 s.size,.ax]):=rfl;obtain ⟨H2,qX,p2,po,pn⟩:=cr (h:=H1) (zs:=[.int .i64 0,.ax]) (cs:=[.int .i64 s.size,.ax]) (n:=2) rfl rfl rfl;rw [gn] at p2 po pn qX;have p0:H2.get h.next=some (.cells (ak s)):=by rw [po _ (by omega)];exact g0
 have p1:H2.get (h.next+1)=some (.cells [.int .i64 0,.ax]):=by rw [po _ (by omega)];exact g1
 have px:bu h H2:=⟨by omega,fun b hb=>by rw [po _ (by omega)];exact gx.get b hb⟩
 simp only [aR,reduceAdd,reduceEqDiff,reduceIte,lz,ha,gn,qX]
 refine aE 0 s.aC.l.length (zero_le _) (fun i e h'=>∃ a rs,h'.get h.next=some (.cells (ak s))/\h'.get (h.next+1)=some (.cells [.int .i64 0,.ax])/\h'.get (h.next+2)=some (.cells [.int .i64 s.size,a])/\Own aQ 3 (h.next+3) h' a rs/\rs.map bH=(s.aC.l.take i).map bH/\bu h h'/\h.next+3<=h'.next /\
  e 1 = .ptr h.next 0/\e 2 = .ptr (h.next+1) 0/\e 3 = .ptr (h.next+2) 0/\e 4 = .int .i64 (i:Int)) ⟨_,[],p0,p1,p2,.nil,rfl,px,by omega,rfl,rfl,rfl,rfl⟩ ?_ ?_
 ·rintro i e h' _ hi ⟨a,rs,q0,q1,q2,o,JD,qx,qn,e1,e2,e3,e4⟩ K' hn fK hr hp;have hv:s.aC.l[i]?=some s.aC.l[i]:=ep hi;generalize s.aC.l[i]=r at hv;have og:=ig hv;have lr:ag none (.ptr h.next 1) h'=some (an aQ 3 s.aC):=by rw [aj q0];rfl
  have lo:ag none (.ptr (h.next+2) 1) h'=some a:=by rw [aj q2];rfl
  have hrl:rs.length=i:=by have:=congrArg List.length JD;rw [length_map,length_map,length_take,Nat.min_eq_left (by omega)] at this;exact this
  rw [F.gJ.aT];simp only [e1,e3,e4,aR,reduceAdd,reduceEqDiff,reduceIte,lr,lo,bh hi,aW s.aC hi,qO hv,zU hv,qQ hv];refine ah (fB (by have:=hs.Fj r og;omega) (fun t ht=>by have:=hs.X5 r og t ht;omega) fun y hy=>?_);obtain ⟨a5,h5,p5,o5,f5,n5,x5,b5⟩:=o.push dQ fT (by omega) (bytes:=48) (by have:=hs.aC;rw [hm];omega) ⟨r.name,r.arity,y⟩;have hne:cD a≠some (h.next+2):=fun hb=>by have:=o.ge hb;omega
  have s2:h5.get (h.next+2)=some (.cells [.int .i64 s.size,a]):=by rw [f5 _ (by omega) hne];exact q2
  have c5:=o5.lC
  have st:aS 1 (.ptr (h.next+2) 1) a5 h5=some (h5.set (h.next+2) (.cells [.int .i64 s.size,a5])):=by
   rw [cq (n:=1) s2 c5.2.1 c5.1 (by simp),c5.2.2];rfl
  simp only [kS,lr,lo,qO hv,zU hv,aq,AV.beq_refl,Bool.and_self,if_true,T4,MW,p5,je,e3,e4,PE,Nat.zero_add,st,aI hi hs.ok'];refine hn _ _ ⟨a5,rs++[⟨r.name,r.arity,y⟩],?_,?_,?_,o5.kL (by omega) _,?_,?_,by rw [Heap.bl];omega,e1,e2,e3,rfl⟩
  ·rw [Heap.aK,if_neg (by omega),f5 _ (by omega) (fun hb=>by have:=o.ge hb;omega)];exact q0
  ·rw [Heap.aK,if_neg (by omega),f5 _ (by omega) (fun hb=>by have:=o.ge hb;omega)];exact q1
  ·rw [Heap.aK,if_pos rfl]
  ·rw [map_append,JD,take_add_one,hv,map_append];simp [bH,hy]
  ·exact (x5 h qx (by omega)).set (by omega) _
 ·rintro e h' ⟨a,rs,q0,q1,q2,o,JD,qx,qn,e1,e2,e3,e4⟩ K' fK;have lr:ag none (.ptr h.next 1) h'=some (an aQ 3 s.aC):=by rw [aj q0];rfl
  have lo:ag (some 2) (.ptr (h.next+2) 0) h'=some (.agg [.int .i64 s.size,a]):=by rw [aj q2];rfl
  have c:=o.lC
  have BD:bw [.int .i64 s.size,a]=true:=by
   have:=c.1;rw [c.2.2] at this;simp only [bw,Bool.and_true] at this ⊢;rw [this];rfl
  have st:aS 2 (.ptr (h.next+1) 0) (.agg [.int .i64 s.size,a]) h'=some (h'.set (h.next+1) (.cells [.int .i64 s.size,a])):=by
   rw [cq (n:=2) (v:=.agg [.int .i64 s.size,a]) q1 rfl BD (by simp)];rfl
  have QH:ag (some 2) (.ptr (h.next+1) 0) (h'.set (h.next+1) (.cells [.int .i64 s.size,a]))=some (.agg [.int .i64 s.size,a]):=by rw [aj (cs:=[.int .i64 s.size,a]) (by rw [Heap.aK,if_pos rfl])];rfl
  rw [F.gJ.aT];simp only [e1,e4,aR,reduceAdd,reduceEqDiff,reduceIte,lr,aX];rw [fK,F.gJ.aF];simp only [bO,reduceEqDiff,reduceIte,e2,e3,lo,st,aq,QG,QH,oneOf];rw [kC (dL _)] at JD;exact hK a _ rs (qx.set (by omega) _) ((o.kL (by omega) _).Dl (by omega)) JD
theorem JE{n:Nat}:∀ {a b:List Int} (r:Nat),a.length=b.length->jC n a=true->jC n b=true->dg a b=true->vO n a r<vO n b r
 |[],_,r,_,_,_,h=>by simp [dg] at h
 |_ :: _,[],r,_,_,_,h=>by simp [dg] at h
 |x :: a,y :: b,r,hl,ha,hb,h=>by
  have Vr:=ha;have ff:=hb;simp only [jC,all_cons,and_eq_true,not_eq_true',decide_eq_false_iff_not] at ha hb;have ia:jC n a=true:=by unfold jC;simpa using ha.2
  have ib:jC n b=true:=by unfold jC;simpa using hb.2
  have Cq:a.length=b.length:=by simpa using hl
  rw [dg] at h;simp only [vO];by_cases e:x=y
  ·subst e;rw [if_pos rfl] at h;exact JE _ Cq ia ib h
  ·rw [if_neg e] at h;have Vh:=of_decide_eq_true h
   have lo:∀ (l:List Int) (r:Nat),r*n ^ l.length<=vO n l r:=by
    intro l
    induction l with
    |nil=>intro r;simp [vO]
    |cons z l ih=>
     intro r;rw [vO];refine Nat.le_trans ?_ (ih _);rw [length_cons,Nat.pow_succ,Nat.mul_comm (n ^ l.length) n,<- Nat.mul_assoc];exact mul_le_mul_right _ (le_add_right _ _)
   have hi:∀ (l:List Int) (r:Nat),jC n l=true->vO n l r<(r+1)*n ^ l.length:=by
    intro l
    induction l with
    |nil=>intro r _;simp [vO]
    |cons z l ih=>
     intro r hz;simp only [jC,all_cons,and_eq_true,not_eq_true',decide_eq_false_iff_not] at hz;rw [vO];refine Nat.lt_of_lt_of_le (ih _ (by unfold jC;simpa using hz.2)) ?_;rw [length_cons,Nat.pow_succ,Nat.mul_comm (n ^ l.length) n,<- Nat.mul_assoc];refine mul_le_mul_right _ ?_;rw [succ_mul];omega
   have q1:=hi a (r*n+x.toNat) ia;have q2:=lo b (r*n+y.toNat)
   have q3:(r*n+x.toNat+1)*n ^ a.length<=(r*n+y.toNat)*n ^ b.length:=by
    rw [Cq];exact mul_le_mul_right _ (by omega)
   omega
theorem Gj{a b:List Int}(hl:a.length=b.length)(ha:jC n a=true)(hb:jC n b=true)(h:dg a b=true):nA n a<nA n b:=JE 0 hl ha hb h
def nP(n:Nat):Nat->Nat->List Int
 |0,_=>[]
 |k+1,r=>nP n k (r/n)++[((r%n:Nat):Int)]
theorem Gk{n:Nat}(hn:1<=n):∀ (k r:Nat),r<n ^ k->(JC n k)[r]?=some (nP n k r)
 |0,r,h=>by
  obtain rfl:r=0:=by simp at h;omega
  rfl
 |k+1,r,h=>by
  have hr:r/n<n ^ k:=Nat.div_lt_of_lt_mul (by rw [Nat.mul_comm,<- Nat.pow_succ];exact h);have hx:r%n<n:=mod_lt _ hn;have:=zW (n:=n) (Gk hn k (r/n) hr) hx;rw [JC,nP]
  rwa [div_add_mod' r n] at this
theorem HG(hn:1<=n){r:Nat}(h:r<n ^ k):jC n (nP n k r)=true/\nA n (nP n k r)=r:=by
 obtain ⟨t,h1,h2,h3,h4⟩:=Gi hn k r h;rw [Gk hn k r h] at h1;cases h1;exact ⟨h3,h4⟩
theorem T6{a:Nat}(hb:0<b):aG .rem (.int .i64 (a:Int)) (.int .i64 (b:Int))=some (.int .i64 ((a%b:Nat):Int)):=by
 have h:¬ (b:Int)=0:=by omega
 simp only [aG,if_true,if_neg h];rw [Int.tmod_eq_emod_of_nonneg (by omega)];rfl
theorem T7{a:Nat}(hb:0<b)(ha:a<=1000000):aG .quo (.int .i64 (a:Int)) (.int .i64 (b:Int))=some (.int .i64 ((a/b:Nat):Int)):=by
 have h:¬ (b:Int)=0:=by omega
 simp only [aG,if_true,if_neg h];have e:((a:Int).tdiv (b:Int))=((a/b:Nat):Int):=by rw [Int.tdiv_eq_ediv_of_nonneg (by omega)];rfl
 have:a/b<=a:=div_le_self _ _;rw [e];generalize a/b=q at this;rw [IntWalk.i64_in _ (by omega)]
theorem gu{n k r:Nat}(n1:1<=n)(xG:n<=64)(hk:k<=12)(hc:n ^ k<=4096)(hr:r<n ^ k){h:Heap}{K:Out->Heap->Bool}(hK:∀ t:Sl Int,t.l=nP n k r->K (.ret (.tuple [an encI 1 t,.int .i64 0])) h=true):Sem TP 63 [.int .i64 (n:Int),.int .i64 (k:Int),.int .i64 (r:Int)] h K:=by
 have main:Sem TP 63 [.int .i64 (n:Int),.int .i64 (k:Int),.int .i64 (r:Int)] Heap.empty (fun o h'=>yes (∃ v,∃ t:Sl Int,o = .ret (.tuple [v,.int .i64 0])/\t.l=nP n k r/\Fz true h' v (an encI 1 t))):=by
  refine F.Bq ?_;rw [F.Da];refine ah (ug n1 xG (by unfold cN;omega) ?_);rw [N8,if_neg (by omega),if_neg (by omega)];have Fh:aG .sub (.int .i64 (k:Int)) (.int .i64 1)=some (.int .i64 ((k:Int)-1)):=yh (by omega) (by omega);simp only [aR,reduceAdd,reduceEqDiff,reduceIte,beq_self_eq_true,Bool.not_true,eT (by omega:¬ (r:Int)<0),eT (by omega:¬ ((n ^ k:Nat):Int)<=(r:Int)),BU (show k<=1000000 by omega),bU,Fh]
  refine lp (fun j e h'=>∃ (q:Nat) (RJ:List Int),j<=k/\nP n k r=nP n j q++RJ/\j+RJ.length=k/\q<=4096/\h'.get 0=some (.cells ((replicate j (0:Int)++RJ).map iv))/\e 0 = .int .i64 (n:Int)/\e 2 = .int .i64 (q:Int)/\e 10 = .slice 0 0 k 1/\e 11 = .int .i64 ((j:Int)-1)) k
   ⟨r,[],dL _,by simp,rfl,by omega,by rw [append_nil];exact aA _ _,rfl,rfl,rfl,rfl⟩ ?_
  rintro j e h' ⟨q,RJ,hj,ht,hl,hq,g0,e0,e2,kM,qY⟩;rw [F.gu.aT]
  cases j with
  |zero=>
   simp only [qY,rC,aq,cC,eT (by omega:¬ (0:Int)<=((0:Nat):Int)-1),aJ,oM];rw [F.gu.aF];simp only [bO,reduceEqDiff,reduceIte,kM];rw [replicate_zero,nil_append] at g0;refine cw.2 ⟨_,some RJ,rfl,by rw [ht,nP];rfl,?_⟩;have:=I4 g0
   rwa [show RJ.length=k by omega] at this
  |succ j=>
   have aeL:((j+1:Nat):Int)-1=(j:Int):=by omega
   have hjk:j<k:=by omega
   have me:(replicate (j+1) (0:Int)++RJ).set j ((q%n:Nat):Int)=replicate j 0++(((q%n:Nat):Int) :: RJ):=by
    rw [replicate_succ',append_assoc,set_append_right _ _ (by simp)];simp
   have Fc:aG .sub (.int .i64 (j:Int)) (.int .i64 1)=some (.int .i64 ((j:Int)-1)):=yh (by omega) (by omega);rw [aeL] at qY;simp only [e0,e2,kM,qY,rC,aq,cC,fE (by omega:(0:Int)<=(j:Int)),aL,T6 n1,T7 n1 (show q<=1000000 by omega),nF hjk,yH g0 (show j<(replicate (j+1) (0:Int)++RJ).length by simp;omega),Fc];refine cw.2 ⟨j,by omega,rfl,rfl,⟨q/n,(((q%n:Nat):Int) :: RJ),by omega,?_,by simp;omega,by have:=div_le_self q n;omega,by rw [Heap.aK,if_pos rfl,me],e0,rfl,kM,rfl⟩⟩;rw [ht,nP,append_assoc];rfl
 refine main.frozen (by simp [AV.cL,AV.pure]) fun o h' ho=>?_;obtain ⟨v,t,rfl,ht,hf⟩:=cw.1 ho;have:=lQ.cons hf (lQ.cons (.scalar (.int .i64 0) rfl) lQ.nil);exact ⟨_,_,rfl,.tuple _ _ this.len this.rel,hK t ht⟩
theorem JF{m:mU}(hb:h.get b=some (.map es ck))(hm:tQ es m)(k:b6)(v:AV) :
  ∃ xT G4,eU .string (.map b) (.str k) v h=some (h.set b (.map xT G4))/\tQ xT (m.rD k v):=by
 obtain ⟨r,hr,uO⟩:=tQ.jF (k:=k) 0 hm;simp only [eU,hb,qu,qt,if_true,hr]
 cases r with
 |none=>simp at uO;exact ⟨_,_,rfl,hm.append uO v ck⟩
 |some jv=>
  obtain ⟨n,hj,_,e⟩:=uO;obtain ⟨j,w⟩:=jv;simp only [Nat.zero_add] at hj;subst hj;exact ⟨_,_,rfl,e v⟩
theorem QI(m:mU)(k j:b6)(v:AV):(m.rD k v).find j=if j=k then some v else m.find j:=by
 induction m with
 |nil=>
  simp only [mU.rD,mU.find,find?_cons,find?_nil];by_cases h:j=k
  ·subst h;simp
  ·have:(j==k)=false:=by simpa using h
   rw [this,if_neg h]
 |cons p m ih=>
  simp only [mU.rD];by_cases hk:k=p.1
  ·rw [if_pos (by simpa using hk)];subst hk;simp only [mU.find,find?_cons];by_cases h:j=p.1
   ·subst h;simp
   ·have:(j==p.1)=false:=by simpa using h
    rw [this,if_neg h]
  ·rw [if_neg (by simpa using hk)];simp only [mU.find,find?_cons] at ih ⊢;by_cases h:j=p.1
   ·subst h;simp only [beq_self_eq_true,map_some];rw [if_neg (Ne.symm hk)]
   ·have:(j==p.1)=false:=by simpa using h
    rw [this];exact ih
theorem QJ{l:List (Sl Int)}(h:yM n k l=true)(ht:l[i]?=some t):t.l.length=k/\jC n t.l=true:=by
 have:=yQ h (jJ.1 ht).1;unfold mq at this;rw [ht] at this;simp only [and_eq_true,decide_eq_true_eq] at this;exact ⟨this.1,this.2.1⟩
theorem si{α β:Type}{enc:α->List AV}{lT:β->List AV}{h:Heap}:∀ {l:List (α×β)},(∀ p ∈ l,lQ true h (enc p.1) (lT p.2))->lQ true h (l.flatMap fun p=>enc p.1) (l.flatMap fun p=>lT p.2)
 |[],_=>.nil
 |p :: l,hp=>by
  rw [flatMap_cons,flatMap_cons];exact lQ.append (hp p mem_cons_self) (si fun q hq=>hp q (mem_cons_of_mem _ hq))
structure jE {α β:Type} (X:Nat->Prop) (enc:α->List AV) (lT:β->List AV) (sz k:Nat) (h:Heap) (a:AV) (l:List (α×β)):Prop where
 own:Own enc sz k h a (l.map (·.1))
 y7:∀ p ∈ l,∀ h',(∀ b,k<=b->b<h.next->¬ X b->cD a≠some b->h'.get b=h.get b)->lQ true h' (enc p.1) (lT p.2)
 av:∀ b,cD a=some b->¬ X b
section
variable {α β:Type} {X:Nat->Prop} {enc:α->List AV} {lT:β->List AV} {sz k:Nat} {h h':Heap} {a:AV} {l:List (α×β)}
theorem jE.nil:jE X enc lT sz k h .ax []:=⟨.nil,fun p hp=>(by cases hp),fun b hb=>(by cases hb)⟩
theorem Own.agree{enc:α->List AV}{h':Heap}{l:List α}(o:Own enc sz k h a l)(hb:∀ b,cD a=some b->h'.get b=h.get b)(hn:h.next<=h'.next):Own enc sz k h' a l:=by
 cases o with
 |nil=>exact .nil
 |row b l h1 h2 h3=>exact .row b _ h1 (Nat.lt_of_lt_of_le h2 hn) (by rw [hb b rfl];exact h3)
theorem jE.gr(o:jE X enc lT sz k h a l)(hb:∀ b,k<=b->b<h.next->¬ X b->h'.get b=h.get b)(hn:h.next<=h'.next):jE X enc lT sz k h' a l:=
 ⟨o.own.agree (fun b e=>hb b (o.own.ge e) (o.own.lt e) (o.av b e)) hn,fun p hp h2 hh=>o.y7 p hp h2 fun b b1 b2 b3 b4=>by rw [hh b b1 (Nat.lt_of_lt_of_le b2 hn) b3 b4,hb b b1 b2 b3],o.av⟩
theorem jE.ext(o:jE X enc lT sz k h a l)(hx:bu h h'):jE X enc lT sz k h' a l:=o.gr (fun b _ b2 _=>hx.get b b2) hx.next
theorem jE.low(o:jE X enc lT sz k h a l){d:Nat}(hd:d<k)(x:j5):jE X enc lT sz k (h.set d x) a l:=
 o.gr (fun b b1 _ _=>by rw [Heap.aK,if_neg (by omega)]) (by rw [Heap.bl];exact dL _)
theorem jE.aeM(o:jE X enc lT sz k h a l){d:Nat}(hd:X d)(x:j5):jE X enc lT sz k (h.set d x) a l:=
 o.gr (fun b b1 _ b3=>by rw [Heap.aK,if_neg (fun e=>b3 (by rw [e];exact hd))]) (by rw [Heap.bl];exact dL _)
theorem jE.Dl(o:jE X enc lT sz k h a l){j:Nat}(hj:j<=k):jE X enc lT sz j h a l:=
 ⟨o.own.Dl hj,fun p hp h2 hh=>o.y7 p hp h2 fun b b1 b2 b3 b4=>hh b (Nat.le_trans hj b1) b2 b3 b4,o.av⟩
theorem jE.aeN(o:jE (fun _=>False) enc lT sz k h a l)(hx:bu h h'){Y:Nat->Prop}(hY:∀ b,Y b->h.next<=b):jE Y enc lT sz k h' a l:=
 ⟨o.own.ext hx,fun p hp h2 hh=>o.y7 p hp h2 fun b b1 b2 _ b4=>by rw [hh b b1 (Nat.lt_of_lt_of_le b2 hx.next) (fun y=>by have:=hY b y;omega) b4,hx.get b b2],fun b e y=>by have:=hY b y;have:=o.own.lt e;omega⟩
theorem jE.push(o:jE X enc lT sz k h a l)(he:∀ x,(enc x).length=sz)(h1:∀ x,bw (enc x)=true)(hk:k<=h.next){bytes:Nat}(hroom:(l.length+1)*bytes<=cI)(v:α)(w:β)(hX:∀ b,X b->b<h.next)
  (hf:∀ h',(∀ b,k<=b->b<h.next->¬ X b->cD a≠some b->h'.get b=h.get b)->lQ true h' (enc v) (lT w)) :
  ∃ a' h',b7 sz bytes a (.slice h.next 0 1 sz) (h.alloc (.cells (enc v)))=some (a',h')/\jE X enc lT sz k h' a' (l++[(v,w)])/\(∀ c,c<h.next->cD a≠some c->h'.get c=h.get c)/\h.next<=h'.next/\(∀ h0,bu h0 h->h0.next<=k->bu h0 h')/\∀ c,cD a'=some c->h.next<=c:=by
 obtain ⟨a',h',e1,o1,f1,n1,x1,b1⟩:=o.own.push he h1 hk (bytes:=bytes) (by simpa using hroom) v;refine ⟨a',h',e1,⟨by rw [map_append];exact o1,fun p hp h2 hh=>?_,fun b e x=>by have:=b1 b e;have:=hX b x;omega⟩,f1,n1,x1,b1⟩
 have xF:∀ b,k<=b->b<h.next->¬ X b->cD a≠some b->h2.get b=h.get b:=fun b c1 c2 c3 c4=>by
  rw [hh b c1 (by omega) c3 (fun e=>by have:=b1 b e;omega),f1 b c2 c4]
 rcases mem_append.1 hp with hp|hp
 ·exact o.y7 p hp h2 xF
 ·rw [mem_singleton] at hp;subst hp;exact hf h2 xF
theorem jE.data(o:jE X enc lT sz k h a l):∃ x:Sl β,x.l=l.map (·.2)/\∀ h2,(∀ b,k<=b->b<h.next->¬ X b->h2.get b=h.get b)->Fz true h2 a (an lT sz x):=by
 obtain ⟨ow,fr,av⟩:=o;generalize hm:l.map (·.1)=m at ow
 cases ow with
 |nil=>
  have:l = []:=by simpa using hm
  subst this;exact ⟨none,rfl,fun h2 _=>.dO rfl⟩
 |row b m h1 h2 h3=>
  subst hm;refine ⟨some (l.map (·.2)),rfl,fun g hg=>?_⟩;have fl:lQ true g (l.flatMap fun p=>enc p.1) (l.flatMap fun p=>lT p.2):=si fun p hp=>fr p hp g fun c c1 c2 c3 c4=>hg c c1 c2 c3;have e1:(l.map (·.1)).flatMap enc=l.flatMap fun p=>enc p.1:=by rw [flatMap_map]
  have e2:(l.map (·.2)).flatMap lT=l.flatMap fun p=>lT p.2:=by rw [flatMap_map]
  have:an lT sz (some (l.map (·.2))) = .au (l.flatMap fun p=>lT p.2) 0 l.length sz:=by simp only [an,e2,length_map]
  rw [this,length_map];exact .slice b 0 l.length sz _ _ (by rw [hg b h1 h2 (av b rfl),h3,e1]) fl.len fl.rel
theorem jE.fz(o:jE X enc lT sz k h a l):∃ x:Sl β,x.l=l.map (·.2)/\Fz true h a (an lT sz x):=by
 obtain ⟨x,h1,h2⟩:=o.data;exact ⟨x,h1,h2 h fun _ _ _ _=>rfl⟩
end
def Ob:={ v:AV // bw [v]=true/\v.dz = [v] }
abbrev vR:=b6×Int×Ob
def ic(r:vR):List AV:=[.str r.1,.int .i64 r.2.1,r.2.2.1]
theorem lM(r:vR):(ic r).length=3:=rfl
theorem u9(r:vR):bw (ic r)=true:=by
 have:=r.2.2.2.1;unfold ic;simp only [bw,Bool.and_true] at this ⊢;rw [this];rfl
theorem nc{enc:α->List AV}{l:List α}(o:Own enc sz k h a l):bw [a]=true/\a.dz = [a]:=by cases o<;>exact ⟨rfl,rfl⟩
theorem Lr(r:vR):gd [.str [],.int .i64 0,.ax] [(0,3)] [.agg (ic r)]=some (ic r):=by
 have ho:=u9 r
 have hf:oC [.str [],.int .i64 0,.ax] [(0,3)] [.agg (ic r)]=some (ic r):=by
  have hc:AV.dz (.agg (ic r))=ic r:=rfl;have hp:ee [.str [],.int .i64 0,.ax] 0 (ic r)=ic r:=rfl;simp only [oC,hc,hp,ho,lM];rfl
 unfold gd;rw [hf];simp only [ho,if_true]
abbrev QK(X:Nat->Prop)(k:Nat)(h:Heap)(a:AV)(l:List (vR×Rel)):Prop:=jE X ic aQ 3 k h a l
theorem Ls{k:Int}{v:Ob}{x:Sl (Sl Int)}(hf:Fz true h v.1 (an cX 1 x)):lQ true h (ic (nm,k,v)) (aQ ⟨nm,k,x⟩):=
 .cons (.scalar _ rfl) (.cons (.scalar _ rfl) (.cons hf .nil))
theorem HH(d:TypeId){enc:α->List AV}(x:Sl α):jK (.slice d) (an enc sz x) .ax=some (.bool (match x with|none=>true|some _=>false)):=by cases x<;>rfl
theorem MX(y:Sl Int):gd [.ax] [(0,1)] [an encI 1 y]=some (cX y):=by cases y<;>rfl
theorem DO(y:Sl Int):bw (cX y)=true:=by cases y<;>rfl
theorem jE.zX{enc:α->List AV}{l:List α}(o:Own enc sz k h a l)(hf:∀ v,AV.cL (enc v)=true):jE (fun _=>False) enc enc sz k h a (l.map fun v=>(v,v)):=
 ⟨by rw [List.map_map];simpa [Function.comp_def] using o,fun p hp h' _=>by
  obtain ⟨v,_,rfl⟩:=mem_map.1 hp
  exact .dO (hf v),fun _ _ h=>h⟩
theorem nQ(ht:t.l.length<=1000000)(hK:∀ y:Sl Int,y.l=t.l->K (.ret (an encI 1 y)) h=true):Sem TP 49 [an encI 1 t] h K:=by
 have main:Sem TP 49 [an encI 1 t] Heap.empty (fun o h'=>yes (∃ v,∃ y:Sl Int,o = .ret v/\y.l=t.l/\Fz true h' v (an encI 1 y))):=by
  refine F.jX ?_;rw [F.kE];simp only [HH,aR,reduceAdd,reduceEqDiff,reduceIte]
  cases t with
  |none=>simp only [aL];exact cw.2 ⟨_,none,rfl,rfl,.dO rfl⟩
  |some l=>
   obtain ⟨b,h',a1,a2,_,_,_⟩:=zV (uY nk (some l) (Heap.empty.alloc (.cells []))) ht;simp only [aJ,u7,aq,a1,je];exact cw.2 ⟨_,some l,rfl,rfl,yJ a2⟩
 refine main.frozen (by simp [AV.cL,cj kf]) fun o h' ho=>?_;obtain ⟨v,y,rfl,hy,hf⟩:=cw.1 ho;exact ⟨v,_,rfl,hf,hK y hy⟩
theorem Gl(s:St):dh TP s Tryz.f46.results.toList=(match ag (some 2) (s.env 2) s.h,(some []:Option (List AV)) with|some v,some vs=>some (v :: vs)|_,_=>none):=by kernel_rfl
set_option maxHeartbeats 2000000 in
theorem cF{s:cM}(hs:s.small){h:Heap}{K:Out->Heap->Bool}(hK:∀ a h' l,bu h h'->QK (fun _=>False) h.next h' a l->(l.map fun p=>bH p.2)=s.aC.l.map bH->K (.ret (.agg [.int .i64 s.size,a])) h'=true):Sem TP 46 [.agg (ak s)] h K:=by
 have hm:cI=140737488355328:=rfl;have hbig:=hs.ok';refine F.tK ?_;rw [F.wh];simp only [cT (bS s),aq,Heap.aM];have g0:(Heap.alloc (Heap.alloc h (.cells (ak s))) (.cells [.int .i64 0,.ax])).get h.next=some (.cells (ak s)):=by rw [Heap.aV,Heap.aM,if_neg (by omega)];exact aA _ _
 have g1:(Heap.alloc (Heap.alloc h (.cells (ak s))) (.cells [.int .i64 0,.ax])).get (h.next+1)=some (.cells [.int .i64 0,.ax]):=aA _ _;have gn:(Heap.alloc (Heap.alloc h (.cells (ak s))) (.cells [.int .i64 0,.ax])).next=h.next+2:=rfl
 have gx:bu h (Heap.alloc (Heap.alloc h (.cells (ak s))) (.cells [.int .i64 0,.ax])):=(bu.alloc _ _).trans (bu.alloc _ _);generalize (Heap.alloc (Heap.alloc h (.cells (ak s))) (.cells [.int .i64 0,.ax]))=H1 at g0 g1 gn gx ⊢;have lz:ag none (.ptr h.next 0) H1=some (.int .i64 s.size):=by rw [aj g0];rfl
 have ha:iw [.int .i64 0,.ax] [(0,1)] [.int .i64 s.size]=some (.agg [.int .i64 s.size,.ax]):=rfl;obtain ⟨H2,qX,p2,po,pn⟩:=cr (h:=H1) (zs:=[.int .i64 0,.ax]) (cs:=[.int .i64 s.size,.ax]) (n:=2) rfl rfl rfl;rw [gn] at p2 po pn qX;have p0:H2.get h.next=some (.cells (ak s)):=by rw [po _ (by omega)];exact g0
 have p1:H2.get (h.next+1)=some (.cells [.int .i64 0,.ax]):=by rw [po _ (by omega)];exact g1
 have px:bu h H2:=⟨by omega,fun b hb=>by rw [po _ (by omega)];exact gx.get b hb⟩
 have lr:ag none (.ptr h.next 1) H2=some (an aQ 3 s.aC):=by rw [aj p0];rfl
 simp only [aR,reduceAdd,reduceEqDiff,reduceIte,lz,ha,gn,qX,lr]
 refine aE 0 s.aC.l.length (zero_le _) (fun i e h'=>∃ a l,h'.get (h.next+1)=some (.cells [.int .i64 0,.ax])/\h'.get (h.next+2)=some (.cells [.int .i64 s.size,a])/\QK (fun _=>False) (h.next+3) h' a l/\(l.map fun p=>bH p.2)=(s.aC.l.take i).map bH/\bu h h'/\h.next+3<=h'.next /\
  e 2 = .ptr (h.next+1) 0/\e 3 = .ptr (h.next+2) 0/\e 13=an aQ 3 s.aC/\e 14 = .int .i64 (s.aC.l.length:Int)/\e 15 = .int .i64 (i:Int)) ⟨_,[],p1,p2,.nil,rfl,px,by omega,rfl,rfl,rfl,rfl,rfl⟩ ?_ ?_
 ·rintro i e h' _ hi ⟨a,l,q1,q2,o,hl,qx,qn,e2,e3,qi,oT,nZ⟩ K' hn fK hr hp;have hv:s.aC.l[i]?=some s.aC.l[i]:=ep hi;generalize s.aC.l[i]=r at hv;have og:=ig hv;have WJ:l.length=i:=by have:=congrArg List.length hl;rw [length_map,length_map,length_take,Nat.min_eq_left (by omega)] at this;exact this
  obtain ⟨H3,Mr,p3,QL,T8⟩:=cr (h:=h') (zs:=[.str [],.int .i64 0,.ax]) (cs:=aQ r) (n:=3) rfl rfl (fT r);have xF:iw [.str [],.int .i64 0,.ax] [(0,1),(1,1)] [.str r.name,.int .i64 r.arity]=some (.agg [.str r.name,.int .i64 r.arity,.ax]):=rfl;have l0:ag none (.ptr h'.next 0) H3=some (.str r.name):=by rw [aj p3];rfl
  have l1:ag none (.ptr h'.next 1) H3=some (.int .i64 r.arity):=by rw [aj p3];rfl
  obtain ⟨H4,OS,p4,Lt,WT⟩:=cr (h:=H3) (zs:=[.str [],.int .i64 0,.ax]) (cs:=[.str r.name,.int .i64 r.arity,.ax]) (n:=3) rfl rfl rfl;rw [T8] at OS p4 Lt WT;have x4:bu h' H4:=⟨by omega,fun b hb=>by rw [Lt b (by omega),QL b (by omega)]⟩
  have l2:ag none (.ptr h'.next 2) H4=some (an cX 1 r.aN):=by rw [aj (show H4.get h'.next=some (.cells (aQ r)) by rw [Lt _ (by omega)];exact p3)];rfl
  have DN:=hs.Fj r og;have X6:r.aN.l.length<=cN:=by unfold cN;omega
  rw [F.cF.aT];simp only [qi,oT,nZ,aR,reduceAdd,reduceEqDiff,reduceIte,bh hi,aW s.aC hi,dm dQ hv,Mr];simp only [aR,reduceAdd,reduceEqDiff,reduceIte,l0,l1,xF,T8,OS,l2]
  refine aE 0 r.aN.l.length (zero_le _) (fun j e h2=>∃ tv ts,h2.get (h'.next+1)=some (.cells [.str r.name,.int .i64 r.arity,tv])/\Own cX 1 (h'.next+2) h2 tv ts/\ts.map Sl.l=(r.aN.l.take j).map Sl.l/\bu h' h2/\h'.next+2<=h2.next /\
   e 2 = .ptr (h.next+1) 0/\e 3 = .ptr (h.next+2) 0/\e 13=an aQ 3 s.aC/\e 14 = .int .i64 (s.aC.l.length:Int)/\e 15 = .int .i64 (i:Int)/\e 6 = .ptr (h'.next+1) 0/\e 25=an cX 1 r.aN/\e 26 = .int .i64 (r.aN.l.length:Int)/\e 27 = .int .i64 (j:Int))
   ⟨_,[],p4,.nil,rfl,x4,by omega,e2,e3,qi,oT,nZ,rfl,rfl,rfl,rfl⟩ ?_ ?_
  ·rintro j e h2 _ hj ⟨tv,ts,q6,ot,JG,x2,QM,e2,e3,qi,oT,nZ,e6,Lu,BX,BY⟩ K2 u6 gm rY F5;have HI:r.aN.l[j]?=some r.aN.l[j]:=ep hj;generalize r.aN.l[j]=t at HI;have abL:ts.length=j:=by have:=congrArg List.length JG;rw [length_map,length_map,length_take,Nat.min_eq_left (by omega)] at this;exact this
   have lt:ag none (.ptr (h'.next+1) 2) h2=some tv:=by rw [aj q6];rfl
   rw [F.cF.dr];simp only [e6,Lu,BX,BY,aR,reduceAdd,reduceEqDiff,reduceIte,bh hj,aW r.aN hj,ir HI,lt];refine ah (nQ (by have:=hs.X5 r og t (ig HI);omega) fun y hy=>?_);obtain ⟨a5,h5,c5,o5,f5,n5,w5,b5⟩:=ot.push qI DO QM (bytes:=24) (by rw [hm];omega) y;have hne:cD tv≠some (h'.next+1):=fun hb=>by have:=ot.ge hb;omega
   have s6:h5.get (h'.next+1)=some (.cells [.str r.name,.int .i64 r.arity,tv]):=by rw [f5 _ (by omega) hne];exact q6
   have c6:=o5.lC
   have st:aS 1 (.ptr (h'.next+1) 2) a5 h5=some (h5.set (h'.next+1) (.cells [.str r.name,.int .i64 r.arity,a5])):=by
    rw [cq (n:=1) s6 c6.2.1 c6.1 (by simp),c6.2.2];rfl
   simp only [aR,reduceAdd,reduceEqDiff,reduceIte,lt,AV.beq_refl,Bool.and_self,if_true,MX,c5,e6,BY,st,aI hj X6];refine u6 _ _ ⟨a5,ts++[y],by rw [Heap.aK,if_pos rfl],o5.kL (by omega) _,?_,(w5 h' x2 (by omega)).set (by omega) _,by rw [Heap.bl];omega,e2,e3,qi,oT,nZ,e6,Lu,BX,rfl⟩;rw [map_append,JG,take_add_one,HI,map_append];simp [hy]
  ·rintro e h2 ⟨tv,ts,q6,ot,JG,x2,QM,e2,e3,qi,oT,nZ,e6,Lu,BX,BY⟩ K2 gm;rw [kC (dL _)] at JG;have o2:=o.ext x2;obtain ⟨BZ,Kh⟩:=nc ot;have lq:ag (some 3) (.ptr (h'.next+1) 0) h2=some (.agg (ic (r.name,r.arity,⟨tv,BZ,Kh⟩))):=by rw [aj q6];rfl
   have lo:ag none (.ptr (h.next+2) 1) h2=some a:=by rw [aj (show h2.get (h.next+2)=some (.cells [.int .i64 s.size,a]) by rw [x2.get _ (by omega)];exact q2)];rfl
   obtain ⟨x,jO,Lm⟩:=(jE.zX ot mW).data;have Jn:x.l=ts:=by rw [jO,List.map_map];simp [Function.comp_def]
   obtain ⟨a5,h5,c5,o5,f5,n5,w5,b5⟩:=o2.push lM u9 (by omega) (bytes:=48) (by have:=hs.aC;rw [hm];omega) (r.name,r.arity,⟨tv,BZ,Kh⟩) ⟨r.name,r.arity,x⟩ (fun _ h=>h.elim)
    (fun g hg=>Ls (Lm g fun b b1 b2 _=>hg b (by omega) b2 (fun h=>h) (fun hb=>by have:=o.own.lt hb;omega)))
   have hne:cD a≠some (h.next+2):=fun hb=>by have:=o.own.ge hb;omega
   have WU:cD a≠some (h.next+1):=fun hb=>by have:=o.own.ge hb;omega
   have s2:h5.get (h.next+2)=some (.cells [.int .i64 s.size,a]):=by rw [f5 _ (by omega) hne,x2.get _ (by omega)];exact q2
   have s1:h5.get (h.next+1)=some (.cells [.int .i64 0,.ax]):=by rw [f5 _ (by omega) WU,x2.get _ (by omega)];exact q1
   have c6:=o5.own.lC
   have st:aS 1 (.ptr (h.next+2) 1) a5 h5=some (h5.set (h.next+2) (.cells [.int .i64 s.size,a5])):=by
    rw [cq (n:=1) s2 c6.2.1 c6.1 (by simp),c6.2.2];rfl
   rw [F.cF.dr];simp only [BX,BY,aR,reduceAdd,reduceEqDiff,reduceIte,aX];rw [gm,F.cF.cz];simp only [aR,reduceAdd,reduceEqDiff,reduceIte,e3,e6,nZ,lo,lq,Lr,c5,st,aI hi hbig];refine hn _ _ ⟨a5,_,?_,?_,o5.low (by omega) _,?_,(w5 h (qx.trans x2) (by omega)).set (by omega) _,by rw [Heap.bl];omega,e2,e3,qi,oT,rfl⟩
   ·rw [Heap.aK,if_neg (by omega)];exact s1
   ·rw [Heap.aK,if_pos rfl]
   ·rw [map_append,hl,take_add_one,hv,map_append];simp [bH,Jn,JG]
 ·rintro e h' ⟨a,l,q1,q2,o,hl,qx,qn,e2,e3,qi,oT,nZ⟩ K' fK;rw [kC (dL _)] at hl;have lo:ag (some 2) (.ptr (h.next+2) 0) h'=some (.agg [.int .i64 s.size,a]):=by rw [aj q2];rfl
  have c:=o.own.lC
  have BD:bw [.int .i64 s.size,a]=true:=by
   have:=c.1;rw [c.2.2] at this;simp only [bw,Bool.and_true] at this ⊢;rw [this];rfl
  have st:aS 2 (.ptr (h.next+1) 0) (.agg [.int .i64 s.size,a]) h'=some (h'.set (h.next+1) (.cells [.int .i64 s.size,a])):=by
   rw [cq (n:=2) (v:=.agg [.int .i64 s.size,a]) q1 rfl BD (by simp)];rfl
  have QH:ag (some 2) (.ptr (h.next+1) 0) (h'.set (h.next+1) (.cells [.int .i64 s.size,a]))=some (.agg [.int .i64 s.size,a]):=by rw [aj (cs:=[.int .i64 s.size,a]) (by rw [Heap.aK,if_pos rfl])];rfl
  rw [F.cF.aT];simp only [oT,nZ,aR,reduceAdd,reduceEqDiff,reduceIte,aX];rw [fK,F.cF.aF];simp only [bO,reduceEqDiff,reduceIte,e2,e3,lo,st,aq,Gl,QH,oneOf];exact hK a _ l (qx.set (by omega) _) ((o.low (by omega) _).Dl (by omega)) hl
abbrev Lk:=b6->Nat->Bool
def JH(n:Nat)(L:Lk)(r:aP)(vs:List Int):Bool:=r.body.l.all fun c=>iV n L c (ej vs (eO r c))
def Gm(n:Nat)(r:aP)(vs:List Int):Nat:=nA n (ej vs (placesOf (varsOf r) r.args.l))
def HU(n:Nat)(r:aP)(vs:List Int):Prop:=vs.length=(varsOf r).length/\jC n vs=true
def mz(n:Nat)(rs:List aP)(L:Lk):Prop:=∀ r ∈ rs,∀ vs,HU n r vs->JH n L r vs=true->L r.name (Gm n r vs)=true
structure Over (rs:List aP) (L C:Lk):Prop where
 le:∀ nm k,L nm k=true->C nm k=true
 off:∀ nm,(∀ r ∈ rs,r.name≠nm)->∀ k,C nm k=L nm k
structure nR (n:Nat) (rs:List aP) (L L':Lk):Prop where
 over:Over rs L L'
 closed:mz n rs L'
 least:∀ C,Over rs L C->mz n rs C->∀ nm k,L' nm k=true->C nm k=true
theorem Over.refl(rs:List aP)(L:Lk):Over rs L L:=⟨fun _ _ h=>h,fun _ _ _=>rfl⟩
theorem nR.unique{L A B:Lk}(h:nR n rs L A)(g:nR n rs L B):A=B:=by
 funext nm k;rw [Bool.eq_iff_iff];exact ⟨h.least B g.over g.closed nm k,g.least A h.over h.closed nm k⟩
def DP(rs:List aP):Prop:=∀ r ∈ rs,∀ c ∈ r.body.l,c.kind=0->c.neg=true->∀ q ∈ rs,q.name≠c.name
theorem Gn{A C:Lk}(hs:DP rs)(hle:∀ nm k,A nm k=true->C nm k=true)(aeO:∀ nm,(∀ r ∈ rs,r.name≠nm)->∀ k,C nm k=A nm k)(hr:r ∈ rs){c:eP}(hc:c ∈ r.body.l){t:List Int}(h:iV n A c t=true):iV n C c t=true:=by
 unfold iV at h ⊢;by_cases k0:c.kind=0
 ·rw [if_pos k0] at h ⊢
  cases hn:c.neg with
  |false=>
   rw [hn] at h;have:A c.name (nA n t)=true:=by simpa using h
   rw [hle _ _ this];rfl
  |true=>
   rw [hn] at h;rw [aeO c.name (fun q hq=>hs r hr c hc k0 hn q hq)];exact h
 ·rw [if_neg k0] at h ⊢;exact h
inductive mJ (n:Nat) (rs:List aP) (lv:ey.Lv) (L0:Lk):Nat->Lk->Prop
 |zero:mJ n rs lv L0 0 L0
 |succ (l:Nat) (L L':Lk):mJ n rs lv L0 l L->nR n (gG lv rs l) L L'->mJ n rs lv L0 (l+1) L'
theorem mJ.unique{n:Nat}{rs:List aP}{lv:ey.Lv}{L0:Lk}:∀ {l:Nat} {A B:Lk},mJ n rs lv L0 l A->mJ n rs lv L0 l B->A=B
 |0,A,B,h,g=>by cases h;cases g;rfl
 |l+1,A,B,h,g=>by
  cases h with
  |succ _ La _ ha la=>
   cases g with
   |succ _ Lb _ hb lb=>
    obtain rfl:=mJ.unique ha hb;exact la.unique lb
theorem nR.nil{L:Lk}:nR n [] L L:=⟨.refl _ _,fun r hr=>(by cases hr),fun C ho _ nm k h=>ho.le nm k h⟩
theorem HJ{l:Nat}(h:∀ r ∈ rs,lv r.name<l):gG lv rs l = []:=by
 unfold gG;rw [filter_eq_nil_iff];intro r hr;have:=h r hr;simp;omega
theorem mJ.more{n:Nat}{rs:List aP}{lv:ey.Lv}{L0:Lk}{t:Nat}{L:Lk}(h:mJ n rs lv L0 t L)(ht:∀ r ∈ rs,lv r.name<t):∀ d,mJ n rs lv L0 (t+d) L
 |0=>h
 |d+1=>by
  refine .succ (t+d) L L (mJ.more h ht d) ?_;rw [HJ fun r hr=>by have:=ht r hr;omega];exact .nil
theorem mJ.same{L0:Lk}{s t:Nat}{A B:Lk}(h:mJ n rs lv L0 s A)(g:mJ n rs lv L0 t B)(hs:∀ r ∈ rs,lv r.name<s)(ht:∀ r ∈ rs,lv r.name<t):A=B:=by
 have h1:=h.more hs t;have g1:=g.more ht s;rw [Nat.add_comm t s] at g1;exact h1.unique g1
def MY(rs:List aP)(lv:ey.Lv):Prop:=∀ r ∈ rs,∀ c ∈ r.body.l,c.kind=0->(∃ q ∈ rs,q.name=c.name)->lv c.name+(if c.neg=true then 1 else 0)<=lv r.name
theorem MY.abM(h:MY rs lv)(l:Nat):DP (gG lv rs l):=by
 intro r hr c hc k0 hn q hq e;unfold gG at hr hq;simp only [mem_filter,decide_eq_true_eq] at hr hq;have:=h r hr.1 c hc k0 ⟨q,hq.1,e⟩;rw [hn,if_pos rfl,<- e,hq.2,hr.2] at this;omega
theorem AT{l:Nat}:r ∈ gG lv rs l↔r ∈ rs/\lv r.name=l:=by
 unfold gG;simp [mem_filter]
theorem zY{p:Nat×List Bool}(hp:D nm=some p){rk:Nat}(Fg:rk<p.2.length)(x:b6)(k:Nat):eR (kX D nm p.1 (p.2.set rk true)) x k=(eR D x k||(decide (x=nm)&&decide (k=rk))):=by
 unfold eR kX;by_cases hx:x=nm
 ·subst hx;rw [if_pos rfl,hp];simp only [decide_true,Bool.true_and];by_cases hk:k=rk
  ·subst hk;rw [getD_eq_getElem?_getD,getElem?_set,if_pos rfl,if_pos Fg];simp
  ·rw [getD_eq_getElem?_getD,getElem?_set,if_neg (fun e=>hk e.symm),<- getD_eq_getElem?_getD,eT hk,Bool.or_false]
 ·rw [if_neg hx,eT hx,Bool.false_and,Bool.or_false]
theorem WV(a b:Int):a<=MP a b/\b<=MP a b:=by unfold MP;split<;>omega
theorem xw:∀ (ps:List Nat) (a:Int),a<=ps.foldl (fun a (p:Nat)=>MP a (p:Int)) a/\∀ p ∈ ps,(p:Int)<=ps.foldl (fun a (p:Nat)=>MP a (p:Int)) a
 |[],a=>⟨Int.le_refl _,fun p hp=>by cases hp⟩
 |q :: ps,a=>by
  have h:=xw ps (MP a (q:Int));have g:=WV a (q:Int);refine ⟨by simp only [foldl_cons];omega,fun p hp=>?_⟩;simp only [foldl_cons];rcases mem_cons.1 hp with rfl|hp
  ·omega
  ·exact h.2 p hp
theorem DQ{p:Nat}(hp:p ∈ ps):(p:Int)<=iJ ps:=(xw ps (-1)).2 p hp
theorem QN(h:∀ p ∈ ps,p<k):iJ ps<(k:Int):=by
 unfold iJ
 have:∀ (ps:List Nat) (a:Int),a<(k:Int)->(∀ p ∈ ps,p<k)->ps.foldl (fun a (p:Nat)=>MP a (p:Int)) a<(k:Int):=by
  intro ps
  induction ps with
  |nil=>intro a ha _;exact ha
  |cons q ps ih=>
   intro a ha hq;simp only [foldl_cons];refine ih _ ?_ fun p hp=>hq p (mem_cons_of_mem _ hp);have:=hq q mem_cons_self;unfold MP;split<;>omega
 exact this ps (-1) (by omega) h
theorem Oc(ps:List Nat):-1<=iJ ps:=(xw ps (-1)).1
theorem yR{a b:List Int}(h:∀ p ∈ ps,a.getD p 0=b.getD p 0):ej a ps=ej b ps:=by
 unfold ej;exact map_congr_left h
theorem T9{c:eP}(hc:c ∈ r.body.l):iJ (eO r c)<((varsOf r).length:Int):=QN (qJ (zP hc))
theorem getD_set_ne{a:List Int}(h:i≠v)(x:Int):(a.set v x).getD i 0=a.getD i 0:=by
 rw [getD_eq_getElem?_getD,getElem?_set,if_neg (fun e=>h e.symm),<- getD_eq_getElem?_getD]
theorem JI{a:List Int}(h:v<a.length)(x:Int):(a.set v x).getD v 0=x:=by
 rw [getD_eq_getElem?_getD,getElem?_set,if_pos rfl,if_pos h];rfl
theorem ve{L:Lk}{u:Int}:BB n L r vs u=true↔∀ c ∈ r.body.l,iJ (eO r c)=u->iV n L c (ej vs (eO r c))=true:=by
 unfold BB;rw [List.all_eq_true];refine ⟨fun h c hc e=>?_,fun h c hc=>?_⟩
 ·have:=h c hc;rw [fE e] at this;exact this
 ·by_cases e:iJ (eO r c)=u
  ·rw [h c hc e,Bool.or_true]
  ·rw [eT e];rfl
structure Mid (rs:List aP) (L C:Lk) (s:DB×Bool):Prop where
 over:Over rs L (eR s.1)
 le:∀ nm k,eR s.1 nm k=true->C nm k=true
theorem Mid.off{rs:List aP}{L C:Lk}{s:DB×Bool}(m:Mid rs L C s)(hC:Over rs L C):∀ nm,(∀ r ∈ rs,r.name≠nm)->∀ k,C nm k=eR s.1 nm k:=fun nm hn k=>by rw [hC.off nm hn,m.over.off nm hn]
theorem Ua{L C:Lk}(hcl:mz n rs C)(hr:r ∈ rs)(ha:HU n r vs)(yS:JH n C r vs=true)(hh:∀ p,s.1 r.name=some p->p.2.length=n ^ r.args.l.length)(m:Mid rs L C s):Mid rs L C (sK n r vs s):=by
 unfold sK
 cases hp:s.1 r.name with
 |none=>exact m
 |some p=>
  simp only;split
  ·exact m
  ·have sX:∀ p ∈ placesOf (varsOf r) r.args.l,p<vs.length:=by rw [ha.1];exact qJ uZ
   have qK:(placesOf (varsOf r) r.args.l).length=r.args.l.length:=by unfold placesOf;simp
   have Fg:nA n (ej vs (placesOf (varsOf r) r.args.l))<p.2.length:=by
    have:=xm (u0 ha.2 sX);rw [rP,qK] at this;rw [hh p hp];exact this
   have hC:=hcl r hr vs ha yS;unfold Gm at hC;refine ⟨⟨fun nm k h=>?_,fun nm hn k=>?_⟩,fun nm k h=>?_⟩
   ·simp only [zY hp Fg,m.over.le nm k h,Bool.true_or]
   ·simp only [zY hp Fg,eT (fun e:nm=r.name=>hn r hr e.symm),Bool.false_and,Bool.or_false];exact m.over.off nm hn k
   ·simp only [zY hp Fg,or_eq_true,and_eq_true,decide_eq_true_eq] at h;rcases h with h|⟨rfl,rfl⟩
    ·exact m.le nm k h
    ·exact hC
theorem MZ{N:Nat}(h:∀ p,s.1 nm=some p->p.2.length=N):∀ p,(sK n r vs s).1 nm=some p->p.2.length=N:=by
 intro p hp;unfold sK at hp
 cases hq:s.1 r.name with
 |none=>rw [hq] at hp;exact h p hp
 |some q=>
  rw [hq] at hp;simp only at hp;split at hp
  ·exact h p hp
  ·unfold kX at hp;simp only at hp;split at hp
   ·rename_i e;subst e;cases hp;simp only [length_set];exact h q hq
   ·exact h p hp
theorem Gp{n:Nat}{rs:List aP}{L C:Lk}(hs:DP rs)(hC:Over rs L C)(hcl:mz n rs C){r:aP}(hr:r ∈ rs):∀ (m v:Nat) (vs:List Int) (s:DB×Bool),v+m=(varsOf r).length->HU n r vs->Mid rs L C s->(∀ p,s.1 r.name=some p->p.2.length=n ^ r.args.l.length) ->
  (∀ c ∈ r.body.l,iJ (eO r c)<(v:Int)->iV n C c (ej vs (eO r c))=true) ->
  Mid rs L C (iy (fun s=>s.1) (sK n r) n r m v vs s).2/\(∀ p,(iy (fun s=>s.1) (sK n r) n r m v vs s).2.1 r.name=some p->p.2.length=n ^ r.args.l.length)/\HU n r (iy (fun s=>s.1) (sK n r) n r m v vs s).1/\∀ i,i<v->(iy (fun s=>s.1) (sK n r) n r m v vs s).1.getD i 0=vs.getD i 0
 |0,v,vs,s,hv,ha,hm,hl,hc=>by
  refine ⟨Ua hcl hr ha ?_ hl hm,MZ hl,ha,fun _ _=>rfl⟩;unfold JH;rw [List.all_eq_true];intro c Hz;refine hc c Hz ?_;have:=T9 Hz;omega
 |m+1,v,vs,s,hv,ha,hm,hl,hc=>by
  refine jz (P:=fun (a:List Int×(DB×Bool))=>Mid rs L C a.2/\(∀ p,a.2.1 r.name=some p->p.2.length=n ^ r.args.l.length)/\HU n r a.1/\∀ i,i<v->a.1.getD i 0=vs.getD i 0) ⟨hm,hl,ha,fun _ _=>rfl⟩ fun a x hx hP=>?_;obtain ⟨p1,p2,p3,p4⟩:=hP;have Vm:=mem_range.1 hx;have QD:HU n r (a.1.set v (x:Int)):=⟨by rw [length_set];exact p3.1,rQ p3.2 v Vm⟩
  have xF:∀ i,i<v->(a.1.set v (x:Int)).getD i 0=vs.getD i 0:=fun i hi=>by rw [getD_set_ne (by omega)];exact p4 i hi
  unfold kY;split
  ·rename_i xo;rw [ve] at xo
   obtain ⟨q1,q2,q3,q4⟩:=Gp hs hC hcl hr m (v+1) (a.1.set v (x:Int)) a.2 (by omega) QD p1 p2 fun c Hz hlt=>by
    by_cases e:iJ (eO r c)=(v:Int)
    ·exact Gn hs p1.le (p1.off hC) hr Hz (xo c Hz e)
    ·have Vo:iJ (eO r c)<(v:Int):=(by omega);rw [yR (b:=vs) fun p hp=>xF p (by have:=DQ hp;omega)];exact hc c Hz Vo
   exact ⟨q1,q2,q3,fun i hi=>by rw [q4 i (by omega)];exact xF i hi⟩
  ·exact ⟨p1,p2,QD,xF⟩
theorem Lw(n1:1<=n){L C:Lk}(hs:DP rs)(hC:Over rs L C)(hcl:mz n rs C)(hr:r ∈ rs)(hm:Mid rs L C s)(hl:∀ p,s.1 r.name=some p->p.2.length=n ^ r.args.l.length):Mid rs L C (kN n r s):=by
 unfold kN wu;split
 ·rename_i xo;rw [ve] at xo;have ha:HU n r (replicate (varsOf r).length 0):=⟨by simp,BW n1 _⟩
  refine (Gp hs hC hcl hr (varsOf r).length 0 _ s (by omega) ha hm hl fun c Hz hlt=>?_).1;have h1:=Oc (eO r c);exact Gn hs hm.le (hm.off hC) hr Hz (xo c Hz (by omega))
 ·exact hm
def nH(n:Nat)(rs:List aP)(D:DB):Prop:=∀ r ∈ rs,∀ p,D r.name=some p->p.2.length=n ^ r.args.l.length
theorem Od(h:nH n rs s.1):nH n rs (sK n r vs s).1:=fun q hq=>MZ (h q hq)
theorem HK(n1:1<=n)(h:nH n rs s.1):nH n rs (kN n r s).1:=rR (Q:=fun s:DB×Bool=>nH n rs s.1) n1 (fun vs s _ _ h=>Od h) h
theorem Oe(n1:1<=n){L C:Lk}(hs:DP rs)(hC:Over rs L C)(hcl:mz n rs C)(hm:Mid rs L C s)(hl:nH n rs s.1):Mid rs L C (mw n rs s)/\nH n rs (mw n rs s).1:=by
 unfold mw;exact jz (P:=fun s:DB×Bool=>Mid rs L C s/\nH n rs s.1) ⟨hm,hl⟩ fun s r hr h=>⟨Lw n1 hs hC hcl hr h.1 (h.2 r hr),HK n1 h.2⟩
theorem Gq(n1:1<=n){C:Lk}(hs:DP rs)(hC:Over rs (eR D0) C)(hcl:mz n rs C)(hl:nH n rs D0)(hr:Reach n rs D0 D):Mid rs (eR D0) C (D,false)/\nH n rs D:=by
 induction hr with
 |refl=>exact ⟨⟨.refl _ _,hC.le⟩,hl⟩
 |step D _ ih=>
  obtain ⟨h1,h2⟩:=Oe n1 hs hC hcl ih.1 ih.2;exact ⟨⟨h1.over,h1.le⟩,h2⟩
def Still(s0 s:DB×Bool):Prop:=s.2=false->s=s0
theorem Of{s0:DB×Bool}(h:Still s0 s):Still s0 (sK n r vs s):=by
 intro hf;unfold sK at hf ⊢
 cases hp:s.1 r.name with
 |none=>rw [hp] at hf;exact h hf
 |some p=>
  rw [hp] at hf;simp only at hf ⊢;split at hf
  ·rename_i e;rw [if_pos e];exact h hf
  ·cases hf
theorem um{n:Nat}{r:aP}{s0:DB×Bool}:∀ (m v:Nat) (vs:List Int) (s:DB×Bool),Still s0 s->Still s0 (iy (fun s=>s.1) (sK n r) n r m v vs s).2
 |0,v,vs,s,h=>Of h
 |m+1,v,vs,s,h=>by
  refine jz (P:=fun (a:List Int×(DB×Bool))=>Still s0 a.2) h fun a x _ ha=>?_;unfold kY;split
  ·exact um m (v+1) _ _ ha
  ·exact ha
theorem yT{s0:DB×Bool}(h:Still s0 s):Still s0 (kN n r s):=by
 unfold kN wu;split
 ·exact um _ _ _ _ h
 ·exact h
theorem rU{α β:Type}{st:α->DB×Bool}{f:α->β->α}(hf:∀ s0 a b,Still s0 (st a)->Still s0 (st (f a b))):∀ (l:List β) (a:α) {D:DB},st (l.foldl f a)=(D,false)->st a=(D,false)
 |[],a,D,h=>h
 |b :: l,a,D,h=>by
  have h1:=rU hf l (f a b) h;have h2:Still (st a) (st (f a b)):=hf (st a) a b (fun _=>rfl);rw [<- h2 (by rw [h1]),h1]
theorem DR{β:Type}{f:α->β->α}{l:List β}{b:β}(hb:b ∈ l)(a:α):∃ l1 l2,l=l1++b :: l2/\l.foldl f a=l2.foldl f (f (l1.foldl f a) b):=by
 obtain ⟨l1,l2,h⟩:=append_of_mem hb;exact ⟨l1,l2,h,by rw [h,foldl_append,foldl_cons]⟩
theorem AU{m:Nat}(s0:DB×Bool)(a:List Int×(DB×Bool))(x:Nat)(h:Still s0 a.2):Still s0 (kY (fun s=>s.1) n r v (iy (fun s=>s.1) (sK n r) n r m (v+1)) a x).2:=by
 unfold kY;split
 ·exact um m (v+1) _ _ h
 ·exact h
theorem AW{n:Nat}{r:aP}:∀ (m v:Nat) (vs:List Int) (s:DB×Bool),HU n r vs->HU n r (iy (fun s=>s.1) (sK n r) n r m v vs s).1/\∀ i,i<v->(iy (fun s=>s.1) (sK n r) n r m v vs s).1.getD i 0=vs.getD i 0
 |0,v,vs,s,ha=>⟨ha,fun _ _=>rfl⟩
 |m+1,v,vs,s,ha=>by
  refine jz (P:=fun (a:List Int×(DB×Bool))=>HU n r a.1/\∀ i,i<v->a.1.getD i 0=vs.getD i 0) ⟨ha,fun _ _=>rfl⟩ fun a y hy hP=>?_;have hyn:y<n:=mem_range.1 hy;have QD:HU n r (a.1.set v (y:Int)):=⟨by rw [length_set];exact hP.1.1,rQ hP.1.2 v hyn⟩
  have QO:∀ i,i<v->(a.1.set v (y:Int)).getD i 0=vs.getD i 0:=fun i hi=>by rw [getD_set_ne (by omega)];exact hP.2 i hi
  unfold kY;split
  ·obtain ⟨w1,w2⟩:=AW m (v+1) (a.1.set v (y:Int)) a.2 QD;exact ⟨w1,fun i hi=>by rw [w2 i (by omega)];exact QO i hi⟩
  ·exact ⟨QD,QO⟩
theorem Gr{n:Nat}{r:aP}{D:DB}(hD:∃ p,D r.name=some p):∀ (m v:Nat) (vs:List Int),v+m=(varsOf r).length->HU n r vs->(iy (fun s=>s.1) (sK n r) n r m v vs (D,false)).2=(D,false) ->
  ∀ us,HU n r us->(∀ i,i<v->us.getD i 0=vs.getD i 0)->JH n (eR D) r us=true->eR D r.name (Gm n r us)=true
 |0,v,vs,hv,ha,hf,us,hu,xF,yS=>by
  obtain ⟨p,hp⟩:=hD
  have:us=vs:=by
   refine ext_getElem? fun i=>?_;by_cases hi:i<(varsOf r).length
   ·have:=xF i (by omega);rw [getD_eq_getElem?_getD,getD_eq_getElem?_getD,ep (by rw [hu.1];exact hi),ep (by rw [ha.1];exact hi)] at this;rw [ep (by rw [hu.1];exact hi),ep (by rw [ha.1];exact hi)];exact congrArg some this
   ·rw [getElem?_eq_none (by rw [hu.1];omega),getElem?_eq_none (by rw [ha.1];omega)]
  subst this;have hf':sK n r us (D,false)=(D,false):=hf;unfold sK at hf';simp only [hp] at hf';unfold eR Gm;simp only [hp];split at hf'
  ·assumption
  ·exact absurd (congrArg Prod.snd hf') (by simp)
 |m+1,v,vs,hv,ha,hf,us,hu,xF,yS=>by
  have Ei:v<us.length:=by rw [hu.1];omega
  have hin:=Qf hu.2 (ep Ei);obtain ⟨x,hx⟩:∃ x:Nat,us[v]=(x:Int):=⟨us[v].toNat,by omega⟩
  have Vm:x<n:=by omega
  have hux:us.getD v 0=(x:Int):=by rw [getD_eq_getElem?_getD,ep Ei];exact hx
  have hf0:((List.range n).foldl (kY (fun s=>s.1) n r v (iy (fun s=>s.1) (sK n r) n r m (v+1))) (vs,((D,false):DB×Bool))).2=(D,false):=hf;obtain ⟨l1,l2,hl,hfo⟩:=DR (f:=kY (fun s=>s.1) n r v (iy (fun s=>s.1) (sK n r) n r m (v+1))) (mem_range.2 Vm) (vs,((D,false):DB×Bool));rw [hfo] at hf0;have h1:=rU (st:=fun a:List Int×(DB×Bool)=>a.2) (fun s0 a b h=>AU s0 a b h) l2 _ hf0
  have Ub:(l1.foldl (kY (fun s=>s.1) n r v (iy (fun s=>s.1) (sK n r) n r m (v+1))) (vs,((D,false):DB×Bool))).2=(D,false):=by
   have h2:=AU (m:=m) (n:=n) (r:=r) (v:=v) _ (l1.foldl (kY (fun s=>s.1) n r v (iy (fun s=>s.1) (sK n r) n r m (v+1))) (vs,((D,false):DB×Bool))) x (fun _=>rfl);exact (h2 (congrArg Prod.snd h1)).symm.trans h1
  have lu:HU n r (l1.foldl (kY (fun s=>s.1) n r v (iy (fun s=>s.1) (sK n r) n r m (v+1))) (vs,((D,false):DB×Bool))).1/\∀ i,i<v->(l1.foldl (kY (fun s=>s.1) n r v (iy (fun s=>s.1) (sK n r) n r m (v+1))) (vs,((D,false):DB×Bool))).1.getD i 0=vs.getD i 0:=by
   refine jz (P:=fun (a:List Int×(DB×Bool))=>HU n r a.1/\∀ i,i<v->a.1.getD i 0=vs.getD i 0) ⟨ha,fun _ _=>rfl⟩ fun a y hy hP=>?_;have hyn:y<n:=mem_range.1 (by rw [hl];exact mem_append_left _ hy);have QD:HU n r (a.1.set v (y:Int)):=⟨by rw [length_set];exact hP.1.1,rQ hP.1.2 v hyn⟩
   have QO:∀ i,i<v->(a.1.set v (y:Int)).getD i 0=vs.getD i 0:=fun i hi=>by rw [getD_set_ne (by omega)];exact hP.2 i hi
   unfold kY;split
   ·obtain ⟨w1,w2⟩:=AW (n:=n) (r:=r) m (v+1) (a.1.set v (y:Int)) a.2 QD;exact ⟨w1,fun i hi=>by rw [w2 i (by omega)];exact QO i hi⟩
   ·exact ⟨QD,QO⟩
  generalize TT:l1.foldl (kY (fun s=>s.1) n r v (iy (fun s=>s.1) (sK n r) n r m (v+1))) (vs,((D,false):DB×Bool))=acc at h1 Ub lu;obtain ⟨av,sv⟩:=acc;replace Ub:sv=(D,false):=Ub;subst Ub
  have abN:∀ i,i<v+1->us.getD i 0=(av.set v (x:Int)).getD i 0:=fun i hi=>by
   by_cases e:i=v
   ·subst e;rw [hux,JI (by rw [lu.1.1];omega)]
   ·rw [getD_set_ne e,lu.2 i (by omega)];exact xF i (by omega)
  have xo:BB n (eR D) r (av.set v (x:Int)) (v:Int)=true:=by
   rw [ve];intro c hc e;rw [yR (b:=us) fun p hp=>(abN p (by have:=DQ hp;omega)).symm];unfold JH at yS;rw [List.all_eq_true] at yS;exact yS c hc
  unfold kY at h1;simp only [xo,if_true] at h1;exact Gr hD m (v+1) (av.set v (x:Int)) (by omega) ⟨by rw [length_set];exact lu.1.1,rQ lu.1.2 v Vm⟩ h1 us hu abN yS
theorem Lx(n1:1<=n)(hD:∃ p,D r.name=some p)(h:kN n r (D,false)=(D,false))(us:List Int)(hu:HU n r us)(yS:JH n (eR D) r us=true):eR D r.name (Gm n r us)=true:=by
 unfold kN wu at h
 have xo:BB n (eR D) r (replicate (varsOf r).length 0) (-1)=true:=by
  rw [ve];intro c hc e
  have y9:eO r c = []:=by
   cases wI:eO r c with
   |nil=>rfl
   |cons p ps=>
    have:=DQ (ps:=eO r c) (p:=p) (by rw [wI];exact mem_cons_self);omega
  unfold JH at yS;rw [List.all_eq_true] at yS;have:=yS c hc;rw [y9] at this ⊢;exact this
 simp only [xo,if_true] at h;exact Gr hD (varsOf r).length 0 _ (by omega) ⟨by simp,BW n1 _⟩ h us hu (fun i hi=>by omega) yS
theorem Og(n1:1<=n)(hD:∀ r ∈ rs,∃ p,D r.name=some p)(h:mw n rs (D,false)=(D,false)):mz n rs (eR D):=by
 intro r hr us hu yS;obtain ⟨l1,l2,hl,hfo⟩:=DR (f:=fun s r=>kN n r s) hr ((D,false):DB×Bool);unfold mw at h;rw [hfo] at h;have h1:=rU (st:=fun a:DB×Bool=>a) (f:=fun s r=>kN n r s) (fun s0 a b h=>yT h) l2 _ h;have h2:=rU (st:=fun a:DB×Bool=>a) (f:=fun s (r:aP)=>kN n r s) (fun s0 a b h=>yT h) [r] (l1.foldl (fun s r=>kN n r s) (D,false)) (D:=D) (by simpa using h1);replace h2:l1.foldl (fun s r=>kN n r s) ((D,false):DB×Bool)=(D,false):=h2;rw [h2] at h1;exact Lx n1 (hD r hr) h1 us hu yS
theorem Oh(n1:1<=n)(hr:Reach n rs D0 D)(h:∃ p,D0 nm=some p):∃ p,D nm=some p:=by
 induction hr with
 |refl=>exact h
 |step D _ ih=>
  show ∃ p,(mw n rs (D,false)).1 nm=some p;unfold mw;refine jz (P:=fun s:DB×Bool=>∃ p,s.1 nm=some p) ih fun s r _ hs=>?_;refine rR (Q:=fun s:DB×Bool=>∃ p,s.1 nm=some p) n1 (fun vs s _ _ hs=>?_) hs;obtain ⟨p,hp⟩:=hs;unfold sK
  cases hq:s.1 r.name with
  |none=>exact ⟨p,hp⟩
  |some q=>
   simp only;split
   ·exact ⟨p,hp⟩
   ·unfold kX;by_cases e:nm=r.name
    ·exact ⟨_,if_pos e⟩
    ·exact ⟨p,by simp only [if_neg e];exact hp⟩
theorem JJ(n1:1<=n)(hs:DP rs)(hl:nH n rs D0)(hD:∀ r ∈ rs,∃ p,D0 r.name=some p)(hr:Reach n rs D0 D)(hp:mw n rs (D,false)=(D,false)):nR n rs (eR D0) (eR D):=by
 have hcl:=Og n1 (fun r hq=>Oh n1 hr (hD r hq)) hp;refine ⟨?_,hcl,fun C hC hcC=>(Gq n1 hs hC hcC hl hr).1.le⟩
 have top:Over rs (eR D0) (fun nm k=>if (∃ r ∈ rs,r.name=nm) then true else eR D0 nm k):=⟨fun nm k h=>by
   by_cases e:∃ r ∈ rs,r.name=nm
   ·simp [e]
   ·simp [e,h],fun nm hn k=>by
   rw [if_neg];rintro ⟨r,h1,h2⟩
   exact hn r h1 h2⟩
 exact (Gq (C:=fun nm k=>if (∃ r ∈ rs,r.name=nm) then true else eR D0 nm k) n1 hs top (fun r hr vs _ _=>if_pos ⟨r,hr,rfl⟩) hl hr).1.over
theorem nH.NZ{A B:DB}(h:nH n rs A)(hd:eB B A):nH n rs B:=fun r hr p hp=>by
 obtain ⟨p0,h1,_,h3⟩:=hd.back hp;rw [h3];exact h r hr p0 h1
theorem LA(n1:1<=n)(hr:Reach n rs D0 D):eB D D0:=by
 induction hr with
 |refl=>exact fun _=>rfl
 |step D _ ih=>
  show eB (mw n rs (D,false)).1 D0;unfold mw;refine jz (P:=fun s:DB×Bool=>eB s.1 D0) ih fun s r _ hs=>?_;refine rR (Q:=fun s:DB×Bool=>eB s.1 D0) n1 (fun vs s _ _ hs=>?_) hs;unfold sK
  cases hq:s.1 r.name with
  |none=>exact hs
  |some q=>
   simp only;split
   ·exact hs
   ·exact hs.set hq (by simp)
theorem Oi(n1:1<=n)(Vo:MY rs lv)(hl:nH n rs D0)(hD:∀ r ∈ rs,∃ p,D0 r.name=some p):∀ {t:Nat} {D:DB},Ge n rs lv D0 t D->mJ n rs lv (eR D0) t (eR D)/\eB D D0:=by
 intro t D h
 induction h with
 |zero=>exact ⟨.zero,fun _=>rfl⟩
 |succ l D D' _ hr hp ih=>
  have hd:=(LA n1 hr).trans ih.2;refine ⟨.succ l _ _ ih.1 (JJ n1 (Vo.abM l) (fun r hr=>hl.NZ ih.2 r (AT.1 hr).1) (fun r hr=>?_) hr hp),hd⟩;obtain ⟨p,h1⟩:=hD r (AT.1 hr).1;obtain ⟨q,h2,_⟩:=ih.2.get h1;exact ⟨q,h2⟩
theorem uo(n:Nat):∀ k r,(nP n k r).length=k
 |0,_=>rfl
 |k+1,r=>by rw [nP,length_append,uo n k];rfl
def LB(es:List Entry)(ck:Nat)(m:eF):Prop:=ki es m/\jY es ck/\(m.map (·.1)).Nodup
theorem yU{v w:AV}{m:eF}(hP:h.get P=some (.cells [v,.map M,w]))(hM:h.get M=some (.map es ck))(hm0:LB es ck m)(RF:P<h.next)(WC:M<h.next){xs:Sl b6}
  (hK:∀ h' xT G4,h'.get M=some (.map xT G4)->LB xT G4 (m.rD nm xs.l.length)->(∀ b,b<h.next->b≠M->h'.get b=h.get b)->h.next<=h'.next->K (.ret (.bool (NR m nm xs.l.length))) h'=true) :
  Sem TP 139 [.ptr P 0,.agg [.str nm,an encS 1 xs]] h K:=by
 obtain ⟨hm,hB,Qs⟩:=hm0;unfold NR at hK;refine F.qF ?_;rw [F.rI];have hb:eZ (.agg [.str nm,an encS 1 xs])=some (iI nm xs):=cT (zN nm xs);simp only [hb,aq];have g0:(Heap.alloc h (.cells (iI nm xs))).get h.next=some (.cells (iI nm xs)):=aA _ _
 have gP:(Heap.alloc h (.cells (iI nm xs))).get P=some (.cells [v,.map M,w]):=by rw [Heap.aV,if_neg (by omega)];exact hP
 have gM:(Heap.alloc h (.cells (iI nm xs))).get M=some (.map es ck):=by rw [Heap.aV,if_neg (by omega)];exact hM
 have gx:bu h (Heap.alloc h (.cells (iI nm xs))):=bu.alloc _ _;generalize (Heap.alloc h (.cells (iI nm xs)))=H at g0 gP gM gx ⊢;have TN:∀ x,(H.set M x).get h.next=some (.cells (iI nm xs)):=fun x=>by rw [Heap.aK,if_neg (by omega)];exact g0
 obtain ⟨xT,G4,hu,WW⟩:=CD gM hm nm xs.l.length;simp only [aR,reduceAdd,reduceEqDiff,reduceIte,ct,aj gP,aj g0,iI,rE gM hm,hu];have fin:=hK (H.set M (.map xT G4)) xT G4 (by rw [Heap.aK,if_pos rfl]) ⟨WW,wj gM hB hu (by rw [Heap.aK,if_pos rfl]),FY Qs nm _⟩ (fun b hb hne=>by rw [Heap.aK,if_neg hne];exact gx.get b hb) (by rw [Heap.bl];exact gx.next)
 cases hf:m.find nm with
 |none=>
  rw [hf] at fin;simp only [isSome_none,Bool.not_false,aL];exact fin
 |some k=>
  rw [hf] at fin;simp only [isSome_some,Bool.not_true,aJ,getD_some,aR,reduceAdd,reduceEqDiff,reduceIte,aj (TN _),iI,cA];exact fin
set_option maxHeartbeats 1000000 in
theorem Oj(lu:∀ r ∈ rules.l,r.ok)(jN:∀ r ∈ rules.l,r.mC)
  (y9:¬ kW rules.l->∀ h',(∀ b,b<h.next->h'.get b=h.get b)->K (.ret (.tuple [.ez,.bool false])) h'=true)
  (zR:∀ h' P A M ks k,kW rules.l->ey.di (bK rules.l) (ey.iter (bK rules.l) k)->h'.get P=some (.cells [an aO 3 rules,.map A,.map M])->fC (bE rules.l) h' M ks (ey.iter (bK rules.l) k)->ks.Nodup->P<h'.next->M<h'.next->∀ m es ck,dS rules.l []=some m->h'.get A=some (.map es ck)->LB es ck m->h.next<=A->A<M->M<P->(∀ b,b<h.next->h'.get b=h.get b)->K (.ret (.tuple [.ptr P 0,.bool true])) h'=true):Sem TP 98 [an aO 3 rules] h K:=by
 refine F.He ?_;rw [F.IW];simp only [Heap.aM,abg,abh,aq]
 have gA:(Heap.alloc (Heap.alloc (Heap.alloc h (.map [] 0)) (.map [] 0)) (.cells [an aO 3 rules,.map h.next,.map (h.next+1)])).get h.next=some (.map [] 0):=by
  rw [Heap.aV,Heap.aM,Heap.aM,if_neg (by omega),Heap.aV,Heap.aM,if_neg (by omega)];exact aA _ _
 have gM:(Heap.alloc (Heap.alloc (Heap.alloc h (.map [] 0)) (.map [] 0)) (.cells [an aO 3 rules,.map h.next,.map (h.next+1)])).get (h.next+1)=some (.map [] 0):=by
  rw [Heap.aV,Heap.aM,Heap.aM,if_neg (by omega)];exact aA _ _
 have gP:(Heap.alloc (Heap.alloc (Heap.alloc h (.map [] 0)) (.map [] 0)) (.cells [an aO 3 rules,.map h.next,.map (h.next+1)])).get (h.next+1+1)=some (.cells [an aO 3 rules,.map h.next,.map (h.next+1)]):=aA _ _;have gn:(Heap.alloc (Heap.alloc (Heap.alloc h (.map [] 0)) (.map [] 0)) (.cells [an aO 3 rules,.map h.next,.map (h.next+1)])).next=h.next+1+1+1:=rfl
 have gF:∀ b,b<h.next->(Heap.alloc (Heap.alloc (Heap.alloc h (.map [] 0)) (.map [] 0)) (.cells [an aO 3 rules,.map h.next,.map (h.next+1)])).get b=h.get b:=(((bu.alloc _ _).trans (bu.alloc _ _)).trans (bu.alloc _ _)).get
 generalize (Heap.alloc (Heap.alloc (Heap.alloc h (.map [] 0)) (.map [] 0)) (.cells [an aO 3 rules,.map h.next,.map (h.next+1)]))=H0 at gA gM gP gn gF ⊢;obtain ⟨A,hA⟩:∃ A,A=h.next:=⟨_,rfl⟩
 obtain ⟨M,hM⟩:∃ M,M=h.next+1:=⟨_,rfl⟩
 obtain ⟨P,hP⟩:∃ P,P=h.next+1+1:=⟨_,rfl⟩
 rw [<- hP] at gP gn ⊢;rw [<- hM] at gM gP ⊢;rw [<- hA] at gA gP gF ⊢;have hAM:A<M:=by omega
 have hMP:M<P:=by omega
 clear hM hP;simp only [aR,reduceAdd,reduceEqDiff,reduceIte];by_cases h61:60<rules.l.length
 ·simp only [fE (by omega:(60:Int)<(rules.l.length:Int)),aL];exact y9 (fun hg=>by have:=hg.mC;omega) _ (fun b hb=>gF b (by omega))
 have sJ:rules.l.length<=60:=by omega
 simp only [eT (by omega:¬ (60:Int)<(rules.l.length:Int)),aJ];have hbig:rules.l.length<=cN:=by unfold cN;omega
 have bad:dS rules.l []=none->∀ h',(∀ b,b<A->h'.get b=h.get b)->K (.ret (.tuple [.ez,.bool false])) h'=true:=fun hn h' hf=>y9 (fun hg=>by obtain ⟨m,hm⟩:=hg.go;rw [hn] at hm;cases hm) h' (fun b hb=>hf b (by omega))
 refine aE 0 rules.l.length (zero_le _) (fun i e h'=>∃ m ks es ck,(∀ b,b<A->h'.get b=h.get b)/\dS rules.l []=dS (rules.l.drop i) m/\h'.get A=some (.map es ck)/\LB es ck m/\fC (bE (rules.l.take i)) h' M ks (fun _=>0)/\ks.Nodup /\
  h'.get P=some (.cells [an aO 3 rules,.map A,.map M])/\P<h'.next/\e 4 = .ptr P 0/\e 17=an aO 3 rules/\e 18 = .int .i64 (rules.l.length:Int)/\e 19 = .int .i64 (i:Int))
  ⟨[],[],[],0,gF,rfl,gA,⟨trivial,jY.nil 0,nodup_nil⟩,⟨[],0,[],gM,trivial,jY.nil 0,rfl,fun x=>by simp [bE,eF.find]⟩,nodup_nil,gP,by omega,rfl,rfl,rfl,rfl⟩ ?_ ?_
 ·rintro i e h' _ hi ⟨m,ks,es,ck,hF,hm,qA,X7,la,BV,qP,RF,e4,uf,RK,RM⟩ K' hn hx hr hp;have hv:rules.l[i]?=some rules.l[i]:=ep hi;generalize rules.l[i]=r at hv;have JK:=lu r (ig hv);have hrf:=jN r (ig hv);obtain ⟨H,Fc,g1,go,gn1⟩:=cr (h:=h') (zs:=[.str [],.ax,.ax]) (cs:=aO r) (n:=3) rfl rfl (kr r);have pA:H.get A=some (.map es ck):=by rw [go A (by omega)];exact qA
  have pP:H.get P=some (.cells [an aO 3 rules,.map A,.map M]):=by rw [go P (by omega)];exact qP
  have pl:fC (bE (rules.l.take i)) H M ks (fun _=>0):=la.gr (go M (by omega));rw [F6 hv,dS] at hm;rw [F.cm.aT];simp only [e4,uf,RK,RM,aR,reduceAdd,reduceEqDiff,reduceIte,bh hi,aW rules hi,dm gE hv,Fc];simp only [aR,reduceAdd,reduceEqDiff,reduceIte,aj g1,aO,MK];refine ah (Dm JK.2.1 ?_);simp only [aR,reduceAdd,reduceEqDiff,reduceIte]
  cases ha:mI r.name r.args.l with
  |false=>
   rw [ha,cond_false] at hm;simp only [Bool.not_false,aL];rw [hr,F.cm.bB];exact bad hm _ (fun b hb=>by rw [go b (by omega)];exact hF b hb)
  |true=>
  rw [ha,cond_true,F8] at hm;simp only [Bool.not_true,aJ,aR,reduceAdd,reduceEqDiff,reduceIte,aj g1,aO,MK,e4];refine ah (yU pP pA X7 (by omega) (by omega) fun h3 es3 ck3 a1 a2 a3 a4=>?_);simp only [aR,reduceAdd,reduceEqDiff,reduceIte]
  cases hq:NR m r.name r.args.l.length with
  |false=>
   rw [hq,if_neg (by simp)] at hm;simp only [Bool.not_false,aL];rw [hr,F.cm.bB];exact bad hm _ (fun b hb=>by rw [a3 b (by omega) (by omega),go b (by omega)];exact hF b hb)
  |true=>
  rw [hq,if_pos rfl] at hm;have g3:h3.get h'.next=some (.cells (aO r)):=by rw [a3 _ (by omega) (by omega)];exact g1
  have P3:h3.get P=some (.cells [an aO 3 rules,.map A,.map M]):=by rw [a3 P (by omega) (by omega)];exact pP
  have l3:fC (bE (rules.l.take i)) h3 M ks (fun _=>0):=pl.gr (a3 M (by omega) (by omega));simp only [Bool.not_true,aJ,aR,reduceAdd,reduceEqDiff,reduceIte,aj g3,aO];by_cases uV:20<r.body.l.length
  ·simp only at hm;rw [if_pos uV] at hm;simp only [fE (by omega:(20:Int)<(r.body.l.length:Int)),aL];rw [hr,F.cm.bB];exact bad hm _ (fun b hb=>by rw [a3 b (by omega) (by omega),go b (by omega)];exact hF b hb)
  simp only at hm;rw [if_neg uV] at hm;simp only [eT (by omega:¬ (20:Int)<(r.body.l.length:Int)),aJ,aR,reduceAdd,reduceEqDiff,reduceIte,aj g3,aO,rO];refine ah (de hrf fun x jO=>?_);simp only [aR,reduceAdd,reduceEqDiff,reduceIte,jO];by_cases I8:12<(varsOf r).length
  ·rw [if_pos I8] at hm;simp only [fE (by omega:(12:Int)<((varsOf r).length:Int)),aL];rw [hr,F.cm.bB];exact bad hm _ (fun b hb=>by rw [a3 b (by omega) (by omega),go b (by omega)];exact hF b hb)
  rw [if_neg I8] at hm;simp only [eT (by omega:¬ (12:Int)<((varsOf r).length:Int)),aJ,aR,reduceAdd,reduceEqDiff,reduceIte,aj g3,aO];have AO:r.body.l.length<=cN:=by unfold cN;omega
  refine aE 0 r.body.l.length (zero_le _) (fun j e h2=>∃ m2 Vs Vt,(∀ b,b<A->h2.get b=h.get b)/\nO r.body.l (m.rD r.name r.args.l.length)=nO (r.body.l.drop j) m2/\h2.get A=some (.map Vs Vt)/\LB Vs Vt m2/\fC (bE (rules.l.take i)) h2 M ks (fun _=>0) /\
   h2.get P=some (.cells [an aO 3 rules,.map A,.map M])/\h2.get h'.next=some (.cells (aO r))/\h'.next<h2.next/\e 4 = .ptr P 0/\e 6 = .ptr h'.next 0/\e 17=an aO 3 rules/\e 18 = .int .i64 (rules.l.length:Int)/\e 19 = .int .i64 (i:Int) /\
   e 47=an bL 4 r.body/\e 48 = .int .i64 (r.body.l.length:Int)/\e 49 = .int .i64 (j:Int))
   ⟨_,es3,ck3,fun b hb=>by rw [a3 b (by omega) (by omega),go b (by omega)];exact hF b hb,rfl,a1,a2,l3,P3,g3,by omega,e4,rfl,uf,RK,RM,rfl,rfl,rfl⟩ ?_ ?_
  ·rintro j e h2 _ hj ⟨m2,Vs,Vt,hF2,IG,qA2,Uc,RG,qP2,qR2,pH,e4,e6,uf,RK,RM,e47,e48,e49⟩ K2 u6 gm rY F5;have hc:r.body.l[j]?=some r.body.l[j]:=ep hj;generalize r.body.l[j]=c at hc;have Js:=JK.2.2.2.2 c (ig hc);obtain ⟨H2,qX,k1,ko,kn⟩:=cr (h:=h2) (zs:=[.int .i64 0,.bool false,.str [],.ax]) (cs:=bL c) (n:=4) rfl rfl (iC c);have kA:H2.get A=some (.map Vs Vt):=by rw [ko A (by omega)];exact qA2
   have kP:H2.get P=some (.cells [an aO 3 rules,.map A,.map M]):=by rw [ko P (by omega)];exact qP2
   have kR:H2.get h'.next=some (.cells (aO r)):=by rw [ko _ (by omega)];exact qR2
   have kl:fC (bE (rules.l.take i)) H2 M ks (fun _=>0):=RG.gr (ko M (by omega));rw [F6 hc,nO] at IG;rw [F.cm.dr];simp only [e4,e6,uf,RK,RM,e47,e48,e49,aR,reduceAdd,reduceEqDiff,reduceIte,bh hj,aW r.body hj,dm iB hc,qX];simp only [aR,reduceAdd,reduceEqDiff,reduceIte,aj k1,bL,Ht];refine ah (fY Js ?_);simp only [aR,reduceAdd,reduceEqDiff,reduceIte]
   cases Vn:gK c with
   |false=>
    rw [Vn,cond_false] at IG;rw [IG] at hm;simp only [Bool.not_false,aL];rw [rY,F.cm.jG,hr,F.cm.bB];exact bad hm _ (fun b hb=>by rw [ko b (by omega)];exact hF2 b hb)
   |true=>
   rw [Vn,cond_true] at IG;simp only [Bool.not_true,aJ,aR,reduceAdd,reduceEqDiff,reduceIte,aj k1,bL,cA];by_cases k0:c.kind=0
   ·rw [if_pos k0,F8] at IG;simp only [fE k0,aL,aR,reduceAdd,reduceEqDiff,reduceIte,aj k1,bL,MJ,e4];refine ah (yU kP kA Uc (by omega) (by omega) fun h4 es4 ck4 b1 b2 b3 b4=>?_);simp only [aR,reduceAdd,reduceEqDiff,reduceIte]
    cases QS:NR m2 c.name c.args.l.length with
    |false=>
     rw [QS,if_neg (by simp)] at IG;simp only at IG;rw [IG] at hm;simp only [Bool.not_false,aL];rw [rY,F.cm.jG,hr,F.cm.bB];exact bad hm _ (fun b hb=>by rw [b3 b (by omega) (by omega),ko b (by omega)];exact hF2 b hb)
    |true=>
     rw [QS,if_pos rfl] at IG;simp only [Bool.not_true,aJ,e49,aI hj AO,aq];refine u6 _ _ ⟨_,es4,ck4,fun b hb=>by rw [b3 b (by omega) (by omega),ko b (by omega)];exact hF2 b hb,IG,b1,b2,kl.gr (b3 M (by omega) (by omega)),?_,?_,by omega,e4,e6,uf,RK,RM,e47,e48,rfl⟩
     ·rw [b3 P (by omega) (by omega)];exact kP
     ·rw [b3 _ (by omega) (by omega)];exact kR
   ·rw [if_neg k0] at IG;simp only [eT k0,aJ,e49,aI hj AO,aq];exact u6 _ _ ⟨m2,Vs,Vt,fun b hb=>by rw [ko b (by omega)];exact hF2 b hb,IG,kA,Uc,kl,kP,kR,by omega,e4,e6,uf,RK,RM,e47,e48,rfl⟩
  ·rintro e h2 ⟨m2,Vs,Vt,hF2,IG,qA2,Uc,RG,qP2,qR2,pH,e4,e6,uf,RK,RM,e47,e48,e49⟩ K2 gm;rw [drop_of_length_le (dL _),nO] at IG;rw [IG] at hm;simp only at hm;obtain ⟨h5,ks5,u1,u2,u3,u4,u5⟩:=RG.add BV r.name;rw [F.cm.dr];simp only [e48,e49,aR,reduceAdd,reduceEqDiff,reduceIte,aX];rw [gm,F.cm.cz];simp only [e4,e6,RM,aR,reduceAdd,reduceEqDiff,reduceIte,ct,aj qP2,aj qR2,aO,u1,aI hi hbig];refine hn _ _ ⟨m2,ks5,Vs,Vt,fun b hb=>by rw [u4 b (by omega)];exact hF2 b hb,hm,by rw [u4 A (by omega)];exact qA2,Uc,?_,u3,by rw [u4 P (by omega)];exact qP2,by omega,e4,uf,RK,rfl⟩;have:bE (rules.l.take (i+1))=bE (rules.l.take i)++[r.name]:=by unfold bE;rw [take_add_one,hv];simp
   rw [this];exact u2
 ·rintro e h' ⟨m,ks,es,ck,hF,hm,qA,X7,la,BV,qP,RF,e4,uf,RK,RM⟩ K' hx;rw [drop_of_length_le (dL _),dS] at hm;rw [kC (dL _)] at la;have jL:=ji hm
  have aeS:ks.length<=60:=by
   have:=ey.qs BV (m:=bE rules.l) fun x hx=>(la.mem x).1 hx;have h1:(bE rules.l).length=rules.l.length:=by simp [bE]
   omega
  rw [F.cm.aT];simp only [RK,RM,aR,reduceAdd,reduceEqDiff,reduceIte,aX];rw [hx,F.cm.aF];simp only [e4,aR,reduceAdd,reduceEqDiff,reduceIte,ct,aj qP,la.len,aI (i:=ks.length) (n:=61) (by omega) (by unfold cN;omega)]
  refine aE 0 (ks.length+1) (zero_le _) (fun i e h'=>(∀ b,b<A->h'.get b=h.get b)/\h'.get A=some (.map es ck)/\fC (bE rules.l) h' M ks (ey.iter (bK rules.l) i)/\h'.get P=some (.cells [an aO 3 rules,.map A,.map M])/\P<h'.next/\(∀ j,j<i->¬ ey.di (bK rules.l) (ey.iter (bK rules.l) j)) /\
   e 4 = .ptr P 0/\e 82 = .int .i64 ((ks.length+1:Nat):Int)/\e 83 = .int .i64 (i:Int)) ⟨hF,qA,la,qP,RF,fun j hj=>by omega,e4,rfl,rfl⟩ ?_ ?_
  ·rintro i e h2 _ hi ⟨hF2,qA2,l2,q2,n2,TR,e4,e82,e83⟩ K2 pH gm rY F5;rw [F.cm.mG];simp only [e4,e82,e83,aR,reduceAdd,reduceEqDiff,reduceIte,bh hi];refine ah (Lc (N:=i*1200) q2 l2 n2 (by omega) sJ (fun r hr=>⟨(jL r hr).2.1,List.mem_map_of_mem hr⟩) (xj sJ (fun r hr=>(jL r hr).2.1) i) (by omega) fun h3 l3 f3 n3=>?_);simp only [aR,reduceAdd,reduceEqDiff,reduceIte,not_not];have qA3:h3.get A=some (.map es ck):=by rw [f3 A (by omega) (by omega)];exact qA2
   have q3:h3.get P=some (.cells [an aO 3 rules,.map A,.map M]):=by rw [f3 P n2 (by omega)];exact q2
   by_cases iP:ey.di (bK rules.l) (ey.iter (bK rules.l) i)
   ·have Jx:ey.di (jq (bE rules.l) rules.l) (ey.iter (bK rules.l) i):=iP;simp only [fE Jx,aL];rw [rY,F.cm.yw];simp only [bO,reduceEqDiff,reduceIte,e4];rw [ey.wD Jx] at l3;exact zR h3 P A M ks i ⟨sJ,⟨m,hm⟩,i,iP⟩ iP q3 l3 BV (by omega) (by omega) m es ck hm qA3 X7 (by omega) hAM hMP (fun b hb=>by rw [f3 b (by omega) (by omega)];exact hF2 b (by omega))
   ·have Jx:¬ ey.di (jq (bE rules.l) rules.l) (ey.iter (bK rules.l) i):=iP;simp only [eT Jx,aJ,e83,aI hi (show ks.length+1<=cN by unfold cN;omega),aq]
    exact pH _ _ ⟨fun b hb=>by rw [f3 b (by omega) (by omega)];exact hF2 b hb,qA3,l3,q3,by omega,fun j hj=>by
     by_cases hji:j=i
     ·subst hji;exact iP
     ·exact TR j (by omega),e4,e82,rfl⟩
  ·rintro e h2 ⟨hF2,_,l2,q2,n2,TR,e4,e82,e83⟩ K2 gm;rw [F.cm.mG];simp only [e82,e83,aR,reduceAdd,reduceEqDiff,reduceIte,aX];rw [gm,F.cm.iZ];refine y9 (fun hg=>?_) _ (fun b hb=>hF2 b (by omega));obtain ⟨k,hk⟩:=hg.lev;refine TR ks.length (by omega) (ey.settle (fun e he=>?_) hk);obtain ⟨r,hr,c,hc,_,hin,rfl⟩:=tX he;exact ⟨(la.mem _).2 hin,(la.mem _).2 (List.mem_map_of_mem hr)⟩
theorem Ol(D:DB)(nm:b6)(b:Nat)(d d':List Bool):kX (kX D nm b d) nm b d'=kX D nm b d':=by
 funext j;unfold kX;by_cases e:j=nm
 ·rw [if_pos e,if_pos e]
 ·rw [if_neg e,if_neg e,if_neg e]
theorem qR(D:DB)(nm:b6)(b:Nat)(d:List Bool):kX D nm b d nm=some (b,d):=if_pos rfl
theorem B0{j:b6}(h:j≠nm)(b:Nat)(d:List Bool):kX D nm b d j=D j:=if_neg h
theorem ei.add(b:ei D h B lo)(Eg:lo<=h.next)(N:Nat)(nm:b6) :
  ∃ h',eU .string (.map B) (.str nm) (.slice h.next 0 N 1) (h.alloc (.cells ((replicate N false).map bv)))=some h'/\ei (kX D nm h.next (replicate N false)) h' B lo/\(∀ c,c<h.next->c≠B->h'.get c=h.get c)/\h'.next=h.next+1:=by
 obtain ⟨es,ck,m,e1,e2,e3⟩:=b.ex;have hB:=b.lt;have a1:(h.alloc (.cells ((replicate N false).map bv))).get B=some (.map es ck):=by rw [Heap.aV,if_neg (by omega)];exact e1
 obtain ⟨xT,G4,hu,WW⟩:=JF a1 e2 nm (.slice h.next 0 N 1);refine ⟨_,hu,⟨⟨xT,G4,_,by rw [Heap.aK,if_pos rfl],WW,fun j=>?_⟩,fun j q hq=>?_,fun j j' q q' hq nU WE=>?_,by rw [Heap.bl,Heap.aM];omega⟩,fun c hc Om=>by rw [Heap.aK,if_neg Om,Heap.aV,if_neg (by omega)],by rw [Heap.bl,Heap.aM]⟩
 ·rw [QI];unfold kX;by_cases e:j=nm
  ·rw [if_pos e,if_pos e,map_some,length_replicate]
  ·rw [if_neg e,if_neg e,e3]
 ·unfold kX at hq;by_cases e:j=nm
  ·rw [if_pos e] at hq;cases hq;exact ⟨Eg,by rw [Heap.bl,Heap.aM];exact lt_succ_self _,by show h.next≠B;omega,by rw [Heap.aK,if_neg (by show h.next≠B;omega)];exact aA _ _⟩
  ·rw [if_neg e] at hq;obtain ⟨k1,k2,k3,k4⟩:=b.FU j q hq;exact ⟨k1,by rw [Heap.bl,Heap.aM];omega,k3,by rw [Heap.aK,if_neg k3,Heap.aV,if_neg (by omega)];exact k4⟩
 ·unfold kX at hq nU;by_cases e:j=nm
  ·by_cases e':j'=nm
   ·rw [e,e']
   ·rw [if_pos e] at hq;rw [if_neg e'] at nU;cases hq;have:=(b.FU j' q' nU).2.1;simp only at WE;omega
  ·by_cases e':j'=nm
   ·rw [if_neg e] at hq;rw [if_pos e'] at nU;cases nU;have:=(b.FU j q hq).2.1;simp only at WE;omega
   ·rw [if_neg e] at hq;rw [if_neg e'] at nU;exact b.inj j j' q q' hq nU WE
theorem WX{R:AV}(hS:h.get S=some (.cells [.int .i64 (n:Int),R]))(h1:1<=n){x:Sl Int}(hk:x.l.length=k)(hx:k<=12)(hc:n ^ k<=4096)(hb:jC n x.l=true)
  (hK:K (.ret (.int .i64 ((nA n x.l:Nat):Int))) h=true):Sem TP 101 [.ptr S 0,an encI 1 x] h K:=Lg hS h1 (by omega) (by rw [hk];exact hc) hb hK
theorem Ud(hk:k<=12)(hc:n ^ k<=4096):N8 n k = .tuple [.int .i64 ((n ^ k:Nat):Int),.int .i64 0]:=by rw [N8,if_neg (by omega),if_neg (by omega)]
set_option maxHeartbeats 1000000 in
theorem HL{SB:Nat}{s:cM}{D1:DB}(lU:s.ok)(vg:cG s=true)(hn:s.size=(n:Int))(n1:1<=n)(xG:n<=64)
  (hS:h.get S=some (.cells [.int .i64 (n:Int),.map B])) (hSB:h.get SB=some (.cells (ak s))) (hD:ei D1 h B lo) (abS:S≠B) (abT:SB≠B) (TQ:S<h.next) (WY:SB<h.next) (Eg:lo<=h.next)
  (q3:e0 3 = .ptr SB 0) (q7:e0 7 = .ptr P 0) (q17:e0 17 = .ptr S 0) (aeT:e0 154=an aQ 3 s.aC) (aeU:e0 155 = .int .i64 (s.aC.l.length:Int)) (aeV:e0 156 = .int .i64 0)
  (done:∀ h' D',ei D' h' B lo->(∀ r ∈ s.aC.l,∃ b,h.next<=b/\D' r.name=some (b,bitsOf n r.arity.toNat r.aN.l))->(∀ nm,(∀ r ∈ s.aC.l,r.name≠nm)->D' nm=D1 nm)->(∀ c,c<h.next->c≠B->h'.get c=h.get c)->h.next<=h'.next->K (.ret (.tuple [.ptr P 0,.ptr S 0,.int .i64 0])) h'=true) :
  bY (EV F.ay.L5) ⟨e0,198,[],h⟩ (F.ay.L5k K)=true:=by
 have hbig:=lU.1;have hBn:=hD.lt
 refine aE 0 s.aC.l.length (zero_le _) (fun i e h'=>∃ D,ei D h' B lo/\(∀ r ∈ s.aC.l.take i,∃ b,h.next<=b/\D r.name=some (b,bitsOf n r.arity.toNat r.aN.l))/\(∀ nm,(∀ r ∈ s.aC.l.take i,r.name≠nm)->D nm=D1 nm)/\(∀ c,c<h.next->c≠B->h'.get c=h.get c)/\h.next<=h'.next /\
  e 3 = .ptr SB 0/\e 7 = .ptr P 0/\e 17 = .ptr S 0/\e 154=an aQ 3 s.aC/\e 155 = .int .i64 (s.aC.l.length:Int)/\e 156 = .int .i64 (i:Int))
  ⟨D1,hD,fun r hr=>(by cases hr),fun _ _=>rfl,fun _ _ _=>rfl,dL _,q3,q7,q17,aeT,aeU,aeV⟩ ?_ ?_
 ·rintro i e h' _ hi ⟨D,hDa,vz,Ue,hfr,pF,e3,e7,uf,LC,JL,JM⟩ K' A4 hx hr hp;have hv:s.aC.l[i]?=some s.aC.l[i]:=ep hi;generalize s.aC.l[i]=r at hv;have WQ:r.ok:=lU.2 r (ig hv);have QE:=DL vg hv;rw [show s.size.toNat=n by omega] at QE;obtain ⟨k,hk,NX,hkc,Uf⟩:=HF QE;have hkn:r.arity.toNat=k:=by omega
  obtain ⟨H,Fc,g1,go,gn⟩:=cr (h:=h') (zs:=[.str [],.int .i64 0,.ax]) (cs:=aQ r) (n:=3) rfl rfl (fT r);have xH:bu h' H:=⟨by omega,fun b hb=>go b (by omega)⟩
  have pSB:H.get SB=some (.cells (ak s)):=by rw [xH.get _ (by omega),hfr _ WY abT];exact hSB
  have pS:H.get S=some (.cells [.int .i64 (n:Int),.map B]):=by rw [xH.get _ (by omega),hfr _ TQ abS];exact hS
  have hDH:=hDa.ext xH;have lz:ag none (.ptr SB 0) H=some (.int .i64 (n:Int)):=by rw [aj pSB,<- hn];rfl
  have la:ag none (.ptr h'.next 1) H=some (.int .i64 (k:Int)):=by rw [aj g1,<- hk];rfl
  have ln:ag none (.ptr h'.next 0) H=some (.str r.name):=by rw [aj g1];rfl
  obtain ⟨h2,hu,hD2,VU,pH⟩:=hDH.add (by omega) (n ^ k) r.name;have lt:ag none (.ptr h'.next 2) h2=some (an cX 1 r.aN):=by rw [aj (show h2.get h'.next=some (.cells (aQ r)) by rw [VU _ (by omega) (by omega)];exact g1)];rfl
  rw [F.ay.Vf];simp only [LC,JL,JM,e3,uf,aR,reduceAdd,reduceEqDiff,reduceIte,bh hi,aW s.aC hi,dm dQ hv,Fc];simp only [aR,reduceAdd,reduceEqDiff,reduceIte,lz,la];refine ah (ug n1 xG (by unfold cN;omega) ?_);rw [Ud NX hkc];simp only [aR,reduceAdd,reduceEqDiff,reduceIte,ct,aj pS,ln,MM (show n ^ k<=1000000 by omega),hu,lt]
  refine aE 0 r.aN.l.length (zero_le _) (fun j e h3=>∃ d,bitsOf n k r.aN.l=oV n (r.aN.l.drop j) d/\d.length=n ^ k/\ei (kX D r.name H.next d) h3 B lo/\(∀ c,c<H.next->c≠B->h3.get c=H.get c)/\h3.next=h2.next /\
   e 3 = .ptr SB 0/\e 7 = .ptr P 0/\e 17 = .ptr S 0/\e 154=an aQ 3 s.aC/\e 155 = .int .i64 (s.aC.l.length:Int)/\e 156 = .int .i64 (i:Int)/\e 25 = .ptr h'.next 0/\e 177=an cX 1 r.aN/\e 178 = .int .i64 (r.aN.l.length:Int)/\e 179 = .int .i64 (j:Int))
   ⟨_,rfl,by simp,hD2,VU,rfl,e3,e7,uf,LC,JL,JM,rfl,rfl,rfl,rfl⟩ ?_ ?_
  ·rintro j e h3 _ hj ⟨d,hd,hdl,hD3,hf3,Vq,e3,e7,uf,LC,JL,JM,Lu,WZ,Ug,W3⟩ K2 u6 gm rY F5;have HI:r.aN.l[j]?=some r.aN.l[j]:=ep hj;generalize r.aN.l[j]=t at HI;obtain ⟨DN,YP⟩:=QJ Uf HI;rw [NT HI] at hd;have Fg:nA n t.l<d.length:=by have:=xm YP;rw [DN] at this;omega
   have wS:h3.get S=some (.cells [.int .i64 (n:Int),.map B]):=by rw [hf3 _ (by omega) abS];exact pS
   have wR:h3.get h'.next=some (.cells (aQ r)):=by rw [hf3 _ (by omega) (by omega)];exact g1
   have lnm:ag none (.ptr h'.next 0) h3=some (.str r.name):=by rw [aj wR];rfl
   have QT:=hD3.look (qR D r.name H.next d);obtain ⟨_,_,_,ny⟩:=hD3.FU r.name _ (qR D r.name H.next d);simp only at QT ny;have me:=hD3.set (qR D r.name H.next d) (d:=d.set (nA n t.l) true) (by simp);rw [Ol] at me;simp only at me;rw [F.ay.Vg];simp only [uf,Lu,WZ,Ug,W3,aR,reduceAdd,reduceEqDiff,reduceIte,bh hj,aW r.aN hj,ir HI,ct,aj wS,lnm,QT];refine ah (WX wS n1 DN NX hkc YP ?_);simp only [aR,reduceAdd,reduceEqDiff,reduceIte,aj wS,lnm,QT,AV.beq_refl,Bool.and_self,Bool.and_true,if_true,nF Fg,Je ny Fg,aI hj WQ.2.1];exact u6 _ _ ⟨_,hd,by simpa using hdl,me,fun c hc Om=>by rw [Heap.aK,if_neg (by omega)];exact hf3 c hc Om,by rw [Heap.bl];exact Vq,e3,e7,uf,LC,JL,JM,Lu,WZ,Ug,rfl⟩
  ·rintro e h3 ⟨d,hd,hdl,hD3,hf3,Vq,e3,e7,uf,LC,JL,JM,Lu,WZ,Ug,W3⟩ K2 gm;rw [drop_of_length_le (dL _)] at hd;simp only [oV] at hd;rw [F.ay.Vg];simp only [Ug,W3,aR,reduceAdd,reduceEqDiff,reduceIte,aX];rw [gm,F.ay.NN];simp only [aR,reduceAdd,reduceEqDiff,reduceIte,JM,aI hi hbig];refine A4 _ _ ⟨kX D r.name H.next d,hD3,fun q hq=>?_,fun nm xI=>?_,fun c hc Om=>by rw [hf3 c (by omega) Om,xH.get c (by omega)];exact hfr c hc Om,by omega,e3,e7,uf,LC,JL,rfl⟩
   ·rw [take_add_one,hv] at hq;rcases mem_append.1 hq with nU|nU
    ·by_cases e:q.name=r.name
     ·obtain ⟨a,ha⟩:=mem_iff_getElem?.1 nU
      have Vr:s.aC.l[a]?=some q:=by
       rw [getElem?_take] at ha;split at ha
       ·exact ha
       ·cases ha
      have hai:a<i:=by
       rw [getElem?_take] at ha;split at ha
       ·assumption
       ·cases ha
      have:=oh (rT vg) (i:=a) (j:=i) (s:=q.name) (by rw [getElem?_map,Vr];rfl) (by rw [getElem?_map,hv,e];rfl);omega
     ·obtain ⟨b,b1,b2⟩:=vz q nU;exact ⟨b,b1,by rw [B0 e];exact b2⟩
    ·simp only [toList_some,mem_singleton] at nU;subst nU;exact ⟨H.next,by omega,by rw [qR,hkn,hd]⟩
   ·have h1:nm≠r.name:=fun e=>xI r (by rw [take_add_one,hv];simp) e.symm;rw [B0 h1];exact Ue nm fun q hq=>xI q (by rw [take_add_one,hv];exact mem_append_left _ hq)
 ·rintro e h' ⟨D,hDa,vz,Ue,hfr,pF,e3,e7,uf,LC,JL,JM⟩ K' hx;rw [kC (dL _)] at vz Ue;rw [F.ay.Vf];simp only [JL,JM,aR,reduceAdd,reduceEqDiff,reduceIte,aX];rw [hx,F.ay.NM];simp only [bO,reduceEqDiff,reduceIte,e7,uf];exact done h' D hDa vz Ue hfr pF
def RN(m:eF)(p:b6×Int):Option eF:=match m.find p.1 with
 |none=>some (m.rD p.1 p.2)
 |some k=>if k=p.2 then some (m.rD p.1 p.2) else none
def uq:List (b6×Int)->eF->Option eF
 |[],m=>some m
 |p :: l,m=>match RN m p with|none=>none|some m'=>uq l m'
theorem JN(m:eF)(nm:b6)(n:Nat):Dt m nm n=RN m (nm,(n:Int)):=rfl
theorem AY:∀ (a b:List (b6×Int)) (m:eF),uq (a++b) m=match uq a m with|none=>none|some m'=>uq b m'
 |[],b,m=>rfl
 |p :: a,b,m=>by
  rw [cons_append,uq,uq]
  cases RN m p with
  |none=>rfl
  |some m'=>exact AY a b m'
theorem xy:∀ (cs:List eP) (m:eF),nO cs m=if cs.all gK=true then uq (dV cs) m else none
 |[],m=>rfl
 |c :: cs,m=>by
  rw [nO,all_cons]
  cases hc:gK c with
  |false=>simp
  |true=>
   rw [cond_true,Bool.true_and];by_cases k0:c.kind=0
   ·have Uh:dV (c :: cs)=(c.name,(c.args.l.length:Int)) :: dV cs:=(by unfold dV;simp [k0]);rw [if_pos k0,Uh,uq,JN]
    cases RN m (c.name,(c.args.l.length:Int)) with
    |none=>simp
    |some m'=>exact xy cs m'
   ·have Uh:dV (c :: cs)=dV cs:=(by unfold dV;simp [k0]);rw [if_neg k0,Uh];exact xy cs m
theorem rV:∀ (rs:List aP) (m:eF),dS rs m=if rs.all jD=true then uq (cB rs) m else none
 |[],m=>rfl
 |r :: rs,m=>by
  have HE:cB (r :: rs)=(r.name,(r.args.l.length:Int)) :: (dV r.body.l++cB rs):=by unfold cB;simp [ud]
  rw [dS,all_cons,HE,uq,AP,JN];unfold jD
  cases h1:ec r.name with
  |false=>simp
  |true=>
  cases h2:mu r.args.l with
  |false=>simp
  |true=>
  simp only [Bool.true_and,cond_true];by_cases h3:r.body.l.length<=20
  ·by_cases h4:(varsOf r).length<=12
   ·rw [fE h3,fE h4,Bool.true_and,Bool.and_true]
    cases RN m (r.name,(r.args.l.length:Int)) with
    |none=>simp
    |some m1=>
     simp only;rw [if_neg (by omega),if_neg (by omega),xy,AY]
     cases h5:r.body.l.all gK with
     |false=>simp
     |true=>
      rw [if_pos rfl,Bool.true_and]
      cases uq (dV r.body.l) m1 with
      |none=>simp
      |some m2=>exact rV rs m2
   ·rw [eT h4,Bool.and_false,Bool.and_false,Bool.false_and,if_neg (by simp)]
    cases RN m (r.name,(r.args.l.length:Int)) with
    |none=>rfl
    |some m1=>simp only;rw [if_neg (by omega),if_pos (by omega)]
  ·rw [eT h3,Bool.false_and,Bool.false_and,if_neg (by simp)]
   cases RN m (r.name,(r.args.l.length:Int)) with
   |none=>rfl
   |some m1=>simp only;rw [if_pos (by omega)]
def HM(l:List (b6×Int)):Prop:=∀ p ∈ l,∀ q ∈ l,p.1=q.1->p.2=q.2
theorem DS:∀ (l:List (b6×Int)) (m:eF),(∃ m',uq l m=some m')↔((∀ p ∈ l,∀ k,m.find p.1=some k->k=p.2)/\HM l)
 |[],m=>⟨fun _=>⟨fun p hp=>(by cases hp),fun p hp=>(by cases hp)⟩,fun _=>⟨m,rfl⟩⟩
 |p :: l,m=>by
  have fu:∀ q:b6×Int,(m.rD p.1 p.2).find q.1=if q.1=p.1 then some p.2 else m.find q.1:=fun q=>uW m p.1 q.1 p.2
  have key:(∃ m',uq l (m.rD p.1 p.2)=some m')/\(∀ k,m.find p.1=some k->k=p.2)↔((∀ q ∈ p :: l,∀ k,m.find q.1=some k->k=q.2)/\HM (p :: l)):=by
   rw [DS l];constructor
   ·rintro ⟨⟨h1,h2⟩,h3⟩;have hp:∀ q ∈ l,q.1=p.1->p.2=q.2:=fun q hq e=>h1 q hq p.2 (by rw [fu,if_pos e]);refine ⟨fun q hq k hk=>?_,fun a ha b hb e=>?_⟩
    ·rcases mem_cons.1 hq with rfl|hq
     ·exact h3 k hk
     ·by_cases e:q.1=p.1
      ·rw [e] at hk;rw [h3 k hk,hp q hq e]
      ·exact h1 q hq k (by rw [fu,if_neg e];exact hk)
    ·rcases mem_cons.1 ha with Vr|Vr<;>rcases mem_cons.1 hb with ff|ff
     ·rw [Vr,ff]
     ·rw [Vr] at e ⊢;exact hp b ff e.symm
     ·rw [ff] at e ⊢;exact (hp a Vr e).symm
     ·exact h2 a Vr b ff e
   ·rintro ⟨h1,h2⟩;refine ⟨⟨fun q hq k hk=>?_,fun a ha b hb e=>h2 a (mem_cons_of_mem _ ha) b (mem_cons_of_mem _ hb) e⟩,fun k hk=>h1 p mem_cons_self k hk⟩;rw [fu] at hk;by_cases e:q.1=p.1
    ·rw [if_pos e] at hk;cases hk;exact h2 p mem_cons_self q (mem_cons_of_mem _ hq) e.symm
    ·rw [if_neg e] at hk;exact h1 q (mem_cons_of_mem _ hq) k hk
  rw [<- key,uq];unfold RN
  cases hf:m.find p.1 with
  |none=>simp
  |some k=>
   by_cases hk:k=p.2
   ·subst hk;simp
   ·simp [hk]
theorem vh(rs:List aP):kW rs↔(rs.length<=60/\rs.all jD=true/\HM (cB rs)/\∃ k,ey.di (bK rs) (ey.iter (bK rs) k)):=by
 have h0:∀ p ∈ cB rs,∀ k,eF.find [] p.1=some k->k=p.2:=fun p _ k hk=>by simp [eF.find] at hk
 constructor
 ·rintro ⟨h1,⟨m,h2⟩,h3⟩;rw [rV] at h2;split at h2
  ·rename_i ha;exact ⟨h1,ha,((DS _ _).1 ⟨m,h2⟩).2,h3⟩
  ·cases h2
 ·rintro ⟨h1,h2,h3,h4⟩;obtain ⟨m,hm⟩:=(DS (cB rs) []).2 ⟨h0,h3⟩;exact ⟨h1,⟨m,by rw [rV,if_pos h2];exact hm⟩,h4⟩
theorem JO{p:b6×Int}(hp:x.l[i]?=some p):ag none (.dN (x.l.flatMap nB) (i*2)) h=some (.str p.1):=fL oR hp (by omega:0<2)
theorem LD{p:b6×Int}(hp:x.l[i]?=some p):ag none (.dN (x.l.flatMap nB) (i*2+1)) h=some (.int .i64 p.2):=fL oR hp (by omega:1<2)
set_option maxHeartbeats 1000000 in
theorem bC{rules:Sl aP}(lu:∀ r ∈ rules.l,r.ok)(jN:∀ r ∈ rules.l,r.mC){h:Heap}{K:Out->Heap->Bool}(hK:∀ b:Bool,(b=true↔kW rules.l)->K (.ret (.bool b)) h=true):Sem TP 65 [an aO 3 rules] h K:=by
 have gen:∀ R:Out->Heap->Bool,(∀ (b:Bool) h',(b=true↔kW rules.l)->R (.ret (.bool b)) h'=true)->Sem TP 65 [an aO 3 rules] Heap.empty R:=by
  intro R fin;refine F.Bf ?_;rw [F.CV];have no:∀ h',¬ kW rules.l->R (.ret (.bool false)) h'=true:=fun h' hn=>fin false h' ⟨fun h=>(by cases h),fun h=>absurd h hn⟩;simp only [aR,reduceAdd,reduceEqDiff,reduceIte];by_cases h61:60<rules.l.length
  ·simp only [fE (by omega:(60:Int)<(rules.l.length:Int)),aL];exact no _ (fun hg=>by have:=hg.mC;omega)
  have sJ:rules.l.length<=60:=by omega
  have hbig:rules.l.length<=cN:=by unfold cN;omega
  simp only [eT (by omega:¬ (60:Int)<(rules.l.length:Int)),aJ];refine aE 0 rules.l.length (zero_le _) (fun i e h'=>e 0=an aO 3 rules/\e 3 = .int .i64 (i:Int)/\(rules.l.take i).all jD=true) ⟨rfl,rfl,rfl⟩ ?_ ?_
  ·rintro i e h' _ hi ⟨e0,e3,ht⟩ K' hn hx hr hp;have hv:rules.l[i]?=some rules.l[i]:=ep hi;generalize rules.l[i]=r at hv;rw [F.bC.aT];simp only [e0,e3,aR,reduceAdd,reduceEqDiff,reduceIte,bh hi,aW rules hi,dm gE hv];refine ah (cO (lu r (ig hv)) (jN r (ig hv)) ?_);simp only [aR,reduceAdd,reduceEqDiff,reduceIte]
   cases hq:jD r with
   |false=>
    simp only [Bool.not_false,aL];rw [hr,F.bC.bB]
    exact no _ (fun hg=>by
     have:=((vh _).1 hg).2.1
     rw [all_false hv hq] at this;cases this)
   |true=>
    simp only [Bool.not_true,aJ,aI hi hbig,aq];exact hn _ _ ⟨e0,rfl,ju hv ht hq⟩
  ·rintro e h' ⟨e0,e3,ht⟩ K' hx;rw [kC (dL _)] at ht
   have uV:∀ r ∈ rules.l,r.body.l.length<=20:=fun r hr=>by
    have:=List.all_eq_true.1 ht r hr;unfold jD at this;simp only [and_eq_true,decide_eq_true_eq] at this;exact this.2.2.1
   rw [F.bC.aT];simp only [e0,e3,aR,reduceAdd,reduceEqDiff,reduceIte,aX];rw [hx,F.bC.aF];simp only [e0,aR,reduceAdd,reduceEqDiff,reduceIte];refine ah (cK sJ uV fun x jO=>?_);simp only [aR,reduceAdd,reduceEqDiff,reduceIte];have Jn:x.l.length<=1260:=by rw [jO];have:=ue rules.l uV;omega
   have MO:x.l.length<=cN:=by unfold cN;omega
   refine aE 0 x.l.length (zero_le _) (fun i e h'=>e 0=an aO 3 rules/\e 4=an nB 2 x/\e 5 = .int .i64 (i:Int)/\∀ a b p q,a<b->b<i->x.l[a]?=some p->x.l[b]?=some q->p.1=q.1->p.2=q.2) ⟨e0,rfl,rfl,fun a b p q h1 h2=>by omega⟩ ?_ ?_
   ·rintro i e h' _ hi ⟨e0,e4,e5,xF⟩ K1 MT Qy Pj X1;have TY:x.l[i]?=some x.l[i]:=ep hi;generalize x.l[i]=q at TY;rw [F.bC.dr];simp only [e4,e5,aR,reduceAdd,reduceEqDiff,reduceIte,bh hi];refine aE 0 i (zero_le _) (fun j e h'=>e 0=an aO 3 rules/\e 4=an nB 2 x/\e 5 = .int .i64 (i:Int)/\e 6 = .int .i64 (j:Int)/\∀ a p,a<j->x.l[a]?=some p->p.1=q.1->p.2=q.2) ⟨e0,e4,e5,rfl,fun a p h1=>by omega⟩ ?_ ?_
    ·rintro j e h' _ hj ⟨e0,e4,e5,e6,haj⟩ K2 pH gm rY F5;have hjx:j<x.l.length:=by omega
     have X8:x.l[j]?=some x.l[j]:=ep hjx;generalize x.l[j]=p at X8;have hib:i<=cN:=by omega
     rw [F.bC.mG];simp only [e4,e5,e6,aR,reduceAdd,reduceEqDiff,reduceIte,bh hj,aW x hi,aW x hjx,JO TY,JO X8,rM];by_cases hq:p.1=q.1
     ·simp only [fE hq,aL,e4,e5,e6,aR,reduceAdd,reduceEqDiff,reduceIte,aW x hi,aW x hjx,LD TY,LD X8,cA];by_cases QS:p.2=q.2
      ·simp only [fE QS,Bool.not_true,aJ,aI hj hib,aq];refine pH _ _ ⟨e0,e4,e5,rfl,fun a p' h1 h2=>?_⟩;by_cases W4:a=j
       ·subst W4;rw [X8] at h2;cases h2;exact fun _=>QS
       ·exact haj a p' (by omega) h2
      ·simp only [eT QS,Bool.not_false,aL];rw [rY,F.bC.yw,Pj,F.bC.jG];exact no _ (fun hg=>QS (((vh _).1 hg).2.2.1 p (by rw [<- jO];exact ig X8) q (by rw [<- jO];exact ig TY) hq))
     ·simp only [eT hq,aJ,aI hj hib,aq];refine pH _ _ ⟨e0,e4,e5,rfl,fun a p' h1 h2=>?_⟩;by_cases W4:a=j
      ·subst W4;rw [X8] at h2;cases h2;exact fun e=>absurd e hq
      ·exact haj a p' (by omega) h2
    ·rintro e h' ⟨e0,e4,e5,e6,haj⟩ K2 gm;rw [F.bC.mG];simp only [e5,e6,aR,reduceAdd,reduceEqDiff,reduceIte,aX];rw [gm,F.bC.iZ];simp only [e5,aR,reduceAdd,reduceEqDiff,reduceIte,aI hi MO];refine MT _ _ ⟨e0,e4,rfl,fun a b p' q' h1 h2 h3 h4=>?_⟩;by_cases hb:b=i
     ·subst hb;rw [TY] at h4;cases h4;exact haj a p' h1 h3
     ·exact xF a b p' q' h1 (by omega) h3 h4
   ·rintro e h' ⟨e0,e4,e5,xF⟩ K1 Qy
    have W5:HM (cB rules.l):=fun p hp q hq e=>by
     rw [<- jO] at hp hq;obtain ⟨a,ha⟩:=mem_iff_getElem?.1 hp;obtain ⟨b,hb⟩:=mem_iff_getElem?.1 hq;have hal:=(jJ.1 ha).1;have WO:=(jJ.1 hb).1;rcases Nat.lt_trichotomy a b with h|h|h
     ·exact xF a b p q h WO ha hb e
     ·subst h;rw [ha] at hb;cases hb;rfl
     ·exact (xF b a q p h hal hb ha e.symm).symm
    rw [F.bC.dr];simp only [e4,e5,aR,reduceAdd,reduceEqDiff,reduceIte,aX];rw [Qy,F.bC.cz];simp only [e0,aR,reduceAdd,reduceEqDiff,reduceIte];refine ah (bp sJ uV (fun hk=>?_) (fun y k hk hy=>?_))
    ·simp only [aR,reduceAdd,reduceEqDiff,reduceIte];exact no _ (fun hg=>by obtain ⟨k,h⟩:=hg.lev;exact hk k h)
    ·simp only [aR,reduceAdd,reduceEqDiff,reduceIte];exact fin true _ ⟨fun _=>(vh _).2 ⟨sJ,ht,W5,k,hk⟩,fun _=>rfl⟩
 have main:=gen (fun o h'=>yes (∃ b:Bool,o = .ret (.bool b)/\(b=true↔kW rules.l))) (fun b h' hb=>cw.2 ⟨b,rfl,hb⟩);refine main.frozen (by simp [AV.cL,cj fR]) fun o h' ho=>?_;obtain ⟨b,rfl,hb⟩:=cw.1 ho;exact ⟨_,_,rfl,.scalar _ rfl,hK b hb⟩
end
end Go.AM