/- Parts of the proof. Conditions: none. -/
import Derived.Test.YtmkffehchicgaaaGreatPf15
import Derived.Test.YtmkffehchicgaaaGreatPf22
set_option linter.unusedSimpArgs false
set_option linter.unusedVariables false
namespace Go.AM
open List Nat Bool Option
open Go Go.Proofs
noncomputable section
variable {rs qs:List aR} {n i j l b ck sz S lo B P v M SB A:Nat} {K:Out->ag->Bool} {h:ag} {r:aR} {jx:bQ->Nat} {lv:eL.Lv} {vs a:List Int} {s:DB×Bool} {rules:Sl aR} {es:List Entry} {x:Sl (bQ×Int)} {nm:bQ} {α:Type} {D D0:DB} {p:Nat->Bool} {e0:Env} {g ng:FuncId} {ps:List Nat} {ks:List bQ} {c:dD} {m:fy} {na nb:List AV}
structure U1 (S n:Nat) (D0:DB) (ps:List Bo) (ng:FuncId) (na nb:List AV):Prop where
 n1:1<=n
 ov:n<=64
 af0:∀ p ∈ ps,p.ok
 rows:∀ nm p,D0 nm=some p->p.1≠S
 ask:∀ p ∈ ps,∀ D,fF D D0->zi n D p.r
 head:∀ p ∈ ps,n ^ p.r.args.l.length<=4096/\p.r.args.l.length<=12/\∃ q,D0 p.r.name=some q/\q.2.length=n ^ p.r.args.l.length
 note:∀ (i:Int) (r:aR) (k:Int) (hd:Sl Int) (cs:Sl (Sl Int)) (ls:Sl Int) (y:AV) (h:ag) (K:Out->ag->Bool),(∀ h',bG h h'->K (.ret (.tuple [])) h'=true)->Sem TP ng (na++([.agg (bu i r k (an encI 1 hd) (an eu 1 cs) (an encI 1 ls)),y]++nb)) h K
set_option maxHeartbeats 2000000 in
theorem MX{k0:Nat}{ps:List Bo}{a1:AV}(o:U1 S n D0 ps ng na nb)(hS:h.get S=some (.cells [.int .i64 (n:Int),.map B]))(Yt:S<h.next)(hD:eT D0 h B lo)
  (si:Own xu 8 k0 h a1 ps) (ZM:∀ b,eP a1=some b->∀ nm p,D0 nm=some p->b≠p.1) (mM:ps.length<=60)
  (hK:∀ h' D',Reach n (ps.map (·.r)) D0 D'->oz n (ps.map (·.r)) (D',false)=(D',false)->fF D' D0->eT D' h' B lo->(∀ b,b<h.next->(∀ nm p,D0 nm=some p->b≠p.1)->h'.get b=h.get b)->h.next<=h'.next->K (.ret (.tuple [])) h'=true) :
  Sem TP 110 [.ptr S 0,a1,.func ng na nb] h K:=by
 have j8:ps.length<=cu:=by unfold cu;omega
 have xz:∀ nm p,D0 nm=some p->p.1<h.next:=fun nm p hp=>(hD.mc nm p hp).2.1
 have hBn:=hD.lt;have hBr:∀ nm p,D0 nm=some p->B≠p.1:=fun nm p hp=>Ne.symm (hD.mc nm p hp).2.2.1;refine F.vT ?_;rw [F.wW];simp only [uJ (x:=.ptr S 0) rfl,uJ (x:=.func ng na nb) rfl,aq,ag.aV]
 have g3:((h.alloc (.cells [.ptr S 0])).alloc (.cells [.func ng na nb])).get h.next=some (.cells [.ptr S 0]):=by
  rw [ag.aW,ag.aV,if_neg (by omega)];exact aD _ _
 have g5:((h.alloc (.cells [.ptr S 0])).alloc (.cells [.func ng na nb])).get (h.next+1)=some (.cells [.func ng na nb]):=aD _ _;have gx:bG h ((h.alloc (.cells [.ptr S 0])).alloc (.cells [.func ng na nb])):=(bG.alloc _ _).trans (bG.alloc _ _);have gn:((h.alloc (.cells [.ptr S 0])).alloc (.cells [.func ng na nb])).next=h.next+1+1:=rfl
 generalize ((h.alloc (.cells [.ptr S 0])).alloc (.cells [.func ng na nb]))=H2 at g3 g5 gx gn ⊢;obtain ⟨H3,s6,a6,o6,n6⟩:=nt (h:=H2) (z:=.bool false) (v:=.bool true) rfl rfl;rw [gn] at s6 a6;simp only [s6,aq];have x3:bG h H3:=gx.trans ⟨by omega,fun b hb=>o6 b (by omega)⟩
 refine pU (fun m e h'=>∃ (D:DB) (more:Bool) (P6:Nat),e 1=a1/\e 3 = .ptr h.next 0/\e 5 = .ptr (h.next+1) 0/\e 6 = .ptr P6 0/\h'.get P6=some (.cells [.bool more])/\h.next+1<P6/\P6<h'.next/\h'.get h.next=some (.cells [.ptr S 0])/\h'.get (h.next+1)=some (.cells [.func ng na nb]) /\
  Reach n (ps.map (·.r)) D0 D/\fF D D0/\eT D h' B lo/\(∀ b,b<h.next->(∀ nm p,D0 nm=some p->b≠p.1)->h'.get b=h.get b)/\h.next<=h'.next /\
  ((more=true/\m=GC (ps.map (·.r.name)) D+1)\/(more=false/\m=0/\oz n (ps.map (·.r)) (D,false)=(D,false)))) _
  ⟨D0,true,h.next+1+1,rfl,rfl,rfl,rfl,a6,by omega,by omega,by rw [o6 _ (by omega)];exact g3,by rw [o6 _ (by omega)];exact g5,.refl,fun _=>rfl,hD.ext x3,fun b hb _=>x3.get b hb,x3.next,.inl ⟨rfl,rfl⟩⟩ ?_
 rintro m e h' ⟨D,more,P6,e1,e3,e5,e6,q6,q6l,q6n,q3,q5,hre,v8,oI,mI,oA,vt⟩ K0 hN0 ZI hr0;rw [F.cp.aT];simp only [e6,aS,reduceAdd,reduceEqDiff,reduceIte,ai q6];rcases vt with ⟨hm1,hm⟩|⟨hm1,hm,GG⟩
 ·subst hm1;have st:bh 1 (.ptr P6 0) (.bool false) h'=some (h'.set P6 (.cells [.bool false])):=by rw [cJ (n:=1) q6 rfl rfl (by simp)];rfl
  have af3:∀ h,b6 .slice a1 h=some (.int .i64 (ps.length:Int)):=fun h=>si.len;simp only [aF,st,aS,reduceAdd,reduceEqDiff,reduceIte,e1,af3];have f0:∀ b,b≠P6->(h'.set P6 (.cells [.bool false])).get b=h'.get b:=fun b hb=>by rw [ag.aP,if_neg hb]
  have f6:(h'.set P6 (.cells [.bool false])).get P6=some (.cells [.bool false]):=by rw [ag.aP,if_pos rfl]
  have fn:(h'.set P6 (.cells [.bool false])).next=h'.next:=ag.bq _ _ _
  have fD:eT D (h'.set P6 (.cells [.bool false])) B lo:=by
   obtain ⟨es,ck,mm,z1,z2,z3⟩:=oI.ex;refine ⟨⟨es,ck,mm,by rw [f0 _ (by omega)];exact z1,z2,z3⟩,fun nm p hp=>?_,oI.inj,by rw [fn];exact oI.lt⟩;obtain ⟨c1,c2,c3,c4⟩:=oI.mc nm p hp;obtain ⟨p0,d1,d2,_⟩:=v8.back hp;have:=xz nm p0 d1;exact ⟨c1,by rw [fn];exact c2,c3,by rw [f0 _ (by omega)];exact c4⟩
  refine aG 0 ps.length (zero_le _) (fun i e h2=>∃ s:DB×Bool,s=oz n ((ps.map (·.r)).take i) (D,false)/\MU (ps.map (·.r.name)) D0 D s/\eT s.1 h2 B lo/\h2.get P6=some (.cells [.bool s.2])/\h2.get h.next=some (.cells [.ptr S 0])/\h2.get (h.next+1)=some (.cells [.func ng na nb]) /\
   (∀ b,b<h.next->(∀ nm p,D0 nm=some p->b≠p.1)->h2.get b=h.get b)/\h'.next<=h2.next/\e 1=a1/\e 3 = .ptr h.next 0/\e 5 = .ptr (h.next+1) 0/\e 6 = .ptr P6 0/\e 10=a1/\e 11 = .int .i64 (ps.length:Int)/\e 12 = .int .i64 (i:Int))
   ⟨(D,false),rfl,⟨v8,dK _,fun h=>(by cases h),fun _=>rfl⟩,fD,f6,by rw [f0 _ (by omega)];exact q3,by rw [f0 _ (by omega)];exact q5,fun b hb IK=>by rw [f0 _ (by omega)];exact mI b hb IK,by omega,e1,e3,e5,e6,rfl,rfl,rfl⟩ ?_ ?_
  ·rintro i e h2 _ hi ⟨s,hs,hq,w1,w6,w3,w5,wf,wn,e1,e3,e5,e6,jH,jX,oX⟩ K1 QO jG T2 hp1;have hv:ps[i]?=some ps[i]:=ec hi;generalize ps[i]=p at hv;have O2:=iA hv;have pok:=o.af0 p O2
   have ajP:Own xu 8 k0 h2 a1 ps:=by
    cases si with
    |nil=>exact .nil
    |row b l z1 z2 z3=>exact .row b _ z1 (by omega) (by rw [wf b z2 (ZM b rfl)];exact z3)
   obtain ⟨b,_,_,i1,i2,_⟩:=ajP.get Jg hv;obtain ⟨H,ic,hL,ho,hn⟩:=cR (h:=h2) (zs:=[.int .i64 0,.str [],.au,.au,.int .i64 0,.au,.au,.au]) (cs:=xu p) (n:=8) rfl rfl (Jh p);have xH:bG h2 H:=⟨by omega,fun b hb=>ho b (by omega)⟩
   have hL':=hL;simp only [xu,bu] at hL';have hSH:H.get S=some (.cells [.int .i64 (n:Int),.map B]):=by rw [xH.get S (by omega),wf S Yt (fun nm p hp=>Ne.symm (o.rows nm p hp))];exact hS
   rw [F.cp.eC];simp only [jH,jX,oX,aS,reduceAdd,reduceEqDiff,reduceIte,bl hi,i1,i2,ic,e3];simp only [ai (show H.get h.next=some (.cells [.ptr S 0]) by rw [xH.get _ (by omega)];exact w3),ai hL',QM,aS,reduceAdd,reduceEqDiff,reduceIte,e5,e6]
   have so:QN S B n lo H.next h.next (h.next+1) P6 h2.next D0 p.r (varsOf p.r).length p.hd ng na nb:=
    ⟨o.n1,o.ov,⟨by omega,by omega,by omega,by omega,by omega,by omega⟩,fun nm q hq=>by have:=xz nm q hq;exact ⟨by omega,o.rows nm q hq,by omega,by omega,by omega,by omega⟩,⟨by omega,by omega,by omega,by omega,by omega⟩,o.ask p O2,o.head p O2,rfl,pok.hd,o.note⟩
   have sa:rV S B n lo H.next h.next (h.next+1) P6 h2.next D0 p.r p.i (varsOf p.r).length p.hd p.cs p.ls ng na nb H s H:=
    ⟨hSH,w1.ext xH,hq.Sd,by rw [xH.get _ (by omega)];exact w3,by rw [xH.get _ (by omega)];exact w5,by rw [xH.get _ (by omega)];exact w6,hL,dK _,fun _ _ _ _=>rfl⟩
   refine aj (OZ (O0 so) pok.kH rfl pok.Bn pok.cs pok.ls sa (dK _) fun h5 b5 f5 n5=>?_);simp only [aS,reduceAdd,reduceEqDiff,reduceIte,oX,aK hi j8];have QS:(ps.map (·.r))[i]?=some p.r:=by rw [getElem?_map,hv];rfl
   refine QO _ _ ⟨mH n p.r s,by rw [O1 QS,<- hs],MV o.n1 (List.mem_map_of_mem (f:=fun q:Bo=>q.r.name) O2) (o.head p O2).2.2 hq,b5.hD,b5.h6,b5.h3,b5.h5,fun b b1 b2=>?_,by omega,e1,e3,e5,e6,jH,jX,rfl⟩;rw [b5.old b (by omega) (by omega) b2,xH.get b (by omega),wf b b1 b2]
  ·rintro e h2 ⟨s,hs,hq,w1,w6,w3,w5,wf,wn,e1,e3,e5,e6,jH,jX,oX⟩ K1 jG;rw [kB (by simp)] at hs;obtain ⟨H,ic,hL,ho,hn⟩:=nt (h:=h2) (z:=.bool false) (v:=.bool s.2) rfl rfl;have xH:bG h2 H:=⟨by omega,fun b hb=>ho b (by omega)⟩
   rw [F.cp.eC];simp only [jX,oX,aS,reduceAdd,reduceEqDiff,reduceIte,aX];rw [jG,F.cp.cZ];simp only [e6,aS,reduceAdd,reduceEqDiff,reduceIte,ai w6,ic];have ajQ:Reach n (ps.map (·.r)) D0 s.1:=by rw [hs];exact .step D hre
   have com:∀ (m':Nat) (e':Env),e' 1=a1->e' 3 = .ptr h.next 0->e' 5 = .ptr (h.next+1) 0->e' 6 = .ptr h2.next 0->m'<m->((s.2=true/\m'=GC (ps.map (·.r.name)) s.1+1)\/(s.2=false/\m'=0/\oz n (ps.map (·.r)) (s.1,false)=(s.1,false)))->K0 .normal ⟨e',22,[],H⟩=true:=fun m' e' e1 e3 e5 e6 oE hc=>
    hN0 m' _ _ oE ⟨s.1,s.2,h2.next,e1,e3,e5,e6,hL,by omega,by omega,by rw [xH.get _ (by omega)];exact w3,by rw [xH.get _ (by omega)];exact w5,ajQ,hq.Sd,w1.ext xH,fun b b1 b2=>by rw [xH.get b (by omega)];exact wf b b1 b2,by omega,hc⟩
   cases qX:s.2 with
   |true=>
    have:=hq.lt qX;exact com (GC (ps.map (·.r.name)) s.1+1) _ e1 e3 e5 rfl (by omega) (.inl ⟨qX,rfl⟩)
   |false=>
    have h1:=hq.same qX;exact com 0 _ e1 e3 e5 rfl (by omega) (.inr ⟨qX,rfl,by rw [h1,<- hs,<- h1,<- qX]⟩)
 ·subst hm1;simp only [aE];rw [ZI,F.cp.aJ];exact hK h' D hre GG v8 oI mI oA
def Rel.ok(r:Rel):Prop:=r.name.length<=cu/\r.bW.l.length<=cu/\∀ t ∈ r.bW.l,t.l.length<=cu
def eG.ok(s:eG):Prop:=s.aY.l.length<=cu/\∀ r ∈ s.aY.l,r.ok
theorem MY(hn:(es.map (·.2.2)).Nodup){e:Entry}(he:e ∈ es):nG e.2.2 es=some e:=by
 induction es with
 |nil=>cases he
 |cons a es ih=>
  rw [map_cons,nodup_cons] at hn;rw [nG];by_cases h:a.2.2=e.2.2
  ·rw [if_pos h];rw [mem_cons] at he;rcases he with rfl|he
   ·rfl
   ·exact absurd (by rw [h];exact List.mem_map_of_mem he) hn.1
  ·rw [if_neg h];rw [mem_cons] at he;rcases he with rfl|he
   ·exact absurd rfl h
   ·exact ih hn.2 he
theorem GH{defs:List su}{K:R->Bool}:∀ {ps:List (AV×ag)},(∀ p ∈ ps,K (.ok p.1 defs p.2)=true)->nX defs K ps=true
 |[],_=>rfl
 |p :: ps,h=>by
  rw [nX,h p mem_cons_self,Bool.true_and];exact GH fun q hq=>h q (mem_cons_of_mem _ hq)
theorem GI{r m:Nat}{seen:List Nat}{defs:List su}{K:R->Bool}(hr:h.get r=some (.ij (some m) ck seen ck))(hm:h.get m=some (.map es ck))(hB:kq es ck)(lD:r≠m)
  (af5:(∀ e ∈ es,e.2.2 ∈ seen)->K (.ok (.tuple [.bool false]) defs h)=true)
  (ej:∀ e ∈ es,e.2.2 ∉ seen->wv (.ptr r 0) (h.set r (.ij (some m) ck (seen++[e.2.2]) ck))=some (.tuple [e.1,e.2.1])->K (.ok (.tuple [.bool true,e.1,e.2.1]) defs (h.set r (.ij (some m) ck (seen++[e.2.2]) ck)))=true) :
  af (Ao false (.ptr r 0) h) (nX defs K)=true:=by
 have hc:∀ o ∈ wu es ck seen,(o=none/\∀ e ∈ es,e.2.2 ∈ seen)\/∃ e,o=some e/\e ∈ es/\e.2.2 ∉ seen:=by
  intro o ho;unfold wu at ho;simp only [mem_append,mem_map] at ho;rcases ho with ho|⟨e,he,rfl⟩
  ·split at ho
   ·rename_i hem;simp only [mem_singleton] at ho;refine .inl ⟨ho,fun e he=>?_⟩;rw [isEmpty_iff,filter_eq_nil_iff] at hem;have eM:=hB.lt e he;by_cases hs:e.2.2 ∈ seen
    ·exact hs
    ·exact absurd (ey eM) (hem e (by rw [mem_filter];exact ⟨he,by simpa using hs⟩))
   ·cases ho
  ·refine .inr ⟨e,rfl,?_⟩
   have:e ∈ es.filter fun e=>!seen.contains e.2.2:=by
    rcases he with he|he
    ·exact (mem_filter.1 he).1
    ·exact (mem_filter.1 he).1
   rw [mem_filter] at this;exact ⟨this.1,by simpa using this.2⟩
 have lF:wu es ck seen≠[]:=by
  unfold wu;intro he;simp only [append_eq_nil_iff,map_eq_nil_iff] at he;obtain ⟨h1,h2,_⟩:=he;rw [h2] at h1;simp at h1
 have ajR:(!seen.isEmpty&&!es.isEmpty&&es.all (fun e=>decide (e.2.2>=ck)))=false:=by
  cases es with
  |nil=>simp
  |cons e es=>
   have:=hB.lt e mem_cons_self;rw [all_cons,ep (by omega),Bool.false_and,Bool.and_false]
 unfold Ao;simp only [hr,hm,ajR,false_eq_true,if_false]
 cases uq:wu es ck seen with
 |nil=>exact absurd uq lF
 |cons c cs=>
  rw [uq] at hc;simp only [aq];refine GH fun p hp=>?_;rw [mem_map] at hp;obtain ⟨o,ho,rfl⟩:=hp;rcases hc o ho with ⟨rfl,fh⟩|⟨e,rfl,he,hs⟩
  ·exact af5 fh
  ·refine ej e he hs ?_;unfold wv;simp only [ag.aP,if_true,if_neg (Ne.symm lD),hm,getLast?_concat,MY hB.nodup he]
theorem mF.Yv:∀ {es:List Entry} {m:fy},mF es m->∀ p ∈ m,∃ e ∈ es,e.1 = .str p.1/\e.2.1 = .int .i64 p.2
 |_,[],_,p,hp=>by cases hp
 |[],q :: m,h,_,_=>h.elim
 |e0 :: es,q :: m,⟨h1,h2,h3⟩,p,hp=>by
  rcases mem_cons.1 hp with rfl|hp
  ·exact ⟨e0,mem_cons_self,h1,h2⟩
  ·obtain ⟨e,he,r⟩:=mF.Yv h3 p hp;exact ⟨e,mem_cons_of_mem _ he,r⟩
def GJ(es:List Entry)(seen:List Nat):Nat:=(es.filter fun e=>!seen.contains e.2.2).length
theorem U2{seen:List Nat}{e:Entry}(he:e ∈ es)(hs:e.2.2 ∉ seen):GJ es (seen++[e.2.2])<GJ es seen:=by
 have h1:(es.filter fun a=>!(seen++[e.2.2]).contains a.2.2)=(es.filter fun a=>!seen.contains a.2.2).filter fun a=>!(a.2.2==e.2.2):=by
  rw [List.filter_filter];refine filter_congr fun a _=>?_;rw [Bool.eq_iff_iff];simp;exact And.comm
 unfold GJ;rw [h1];refine length_filter_lt_length_iff_exists.2 ⟨e,mem_filter.2 ⟨he,by simpa using hs⟩,by simp⟩
theorem Cu{f:St->(AX->St->Bool)->Bool}{K:AX->St->Bool}{defs:List su}{h0:ag}(es:List Entry)(J:List Nat->Env->ag->Prop)(hJ:J [] e0 h0)
  (step:∀ seen e h,J seen e h->∀ K':AX->St->Bool,(∀ en ∈ es,en.2.2 ∉ seen->∀ e' h',J (seen++[en.2.2]) e' h'->K' .normal ⟨e',n,defs,h'⟩=true)->(∀ id s,K' (.exit id) s=K (.exit id) s)->(∀ s,K' .ret s=K .ret s)->(∀ v s,K' (.panic v) s=K (.panic v) s)->f ⟨e,n,defs,h⟩ K'=true) :
  bX f ⟨e0,n,defs,h0⟩ K=true:=by
 refine nq (fun m e h=>∃ seen,m=GJ es seen/\J seen e h) (GJ es []) ⟨[],rfl,hJ⟩ fun m e h hi=>?_;obtain ⟨seen,rfl,hj⟩:=hi;exact step seen e h hj _ (fun en vM hs e' h' Ki=>uF (I:=fun m e h=>∃ seen,m=GJ es seen/\J seen e h) (GJ es (seen++[en.2.2])) (U2 vM hs) ⟨_,rfl,Ki⟩) (fun _ _=>rfl) (fun _=>rfl) (fun _ _=>rfl)
theorem fF.trans{A B C:DB}(h1:fF A B)(h2:fF B C):fF A C:=fun nm=>(h1 nm).trans (h2 nm)
def gz(lv:eL.Lv)(rs:List aR)(l:Nat):List aR:=rs.filter fun r=>decide (lv r.name=l)
inductive Ji (n:Nat) (rs:List aR) (lv:eL.Lv) (D0:DB):Nat->DB->Prop
 |zero:Ji n rs lv D0 0 D0
 |succ (l:Nat) (D D':DB):Ji n rs lv D0 l D->Reach n (gz lv rs l) D D'->oz n (gz lv rs l) (D',false)=(D',false)->Ji n rs lv D0 (l+1) D'
theorem Bp(hr:rs[i]?=some r):gz lv (rs.take (i+1)) l=gz lv (rs.take i) l++if lv r.name=l then [r] else []:=by
 unfold gz;rw [take_add_one,hr,toList_some,filter_append];by_cases h:lv r.name=l<;>simp [h]
theorem aa8(p:Bo):ig [.int .i64 0,.str [],.au,.au,.int .i64 0,.au,.au,.au] [(0,8)] [.agg (xu p)]=some (xu p):=by
 obtain ⟨i,r,hd,cs,ls⟩:=p;obtain ⟨nm,xs,ys⟩:=r;cases hd<;>cases cs<;>cases ls<;>cases xs<;>cases ys<;>rfl
structure U3 (S n:Nat) (D0:DB) (rs:List aR) (ng:FuncId) (na nb:List AV):Prop where
 n1:1<=n
 ov:n<=64
 kH:∀ r ∈ rs,r.kH
 Bn:∀ r ∈ rs,(varsOf r).length<=12
 rows:∀ nm p,D0 nm=some p->p.1≠S
 ask:∀ r ∈ rs,∀ D,fF D D0->zi n D r
 head:∀ r ∈ rs,n ^ r.args.l.length<=4096/\r.args.l.length<=12/\∃ q,D0 r.name=some q/\q.2.length=n ^ r.args.l.length
 note:∀ (i:Int) (r:aR) (k:Int) (hd:Sl Int) (cs:Sl (Sl Int)) (ls:Sl Int) (y:AV) (h:ag) (K:Out->ag->Bool),(∀ h',bG h h'->K (.ret (.tuple [])) h'=true)->Sem TP ng (na++([.agg (bu i r k (an encI 1 hd) (an eu 1 cs) (an encI 1 ls)),y]++nb)) h K
 U4:rs.length<=60
theorem MZ{hs:List bQ}(o:U3 S n D0 rules.l ng na nb){K:AX->St->Bool}
  (hP:h.get P=some (.cells [an aO 3 rules,.map A,.map M])) (QI:P<h.next) (hl:fZ hs h M ks lv) (UD:M<h.next) (mN:∀ r ∈ rules.l,r.name ∈ hs)
  (q0:e0 0 = .ptr P 0) (q1:e0 1 = .ptr S 0) (q2:e0 2 = .func ng na nb) (q9:e0 9 = .int .i64 (l:Int)) (q10:e0 10 = .au) (q33:e0 33=an aO 3 rules) (q34:e0 34 = .int .i64 (rules.l.length:Int)) (q35:e0 35 = .int .i64 0) {T:AV} (q26:e0 26=T) (q27:e0 27 = .int .i64 (l:Int))
  (done:∀ (e:Env) h' a ps,bG h h'->Own xu 8 h.next h' a ps->(∀ p ∈ ps,p.ok)->ps.map (·.r)=gz lv rules.l l->e 0 = .ptr P 0->e 1 = .ptr S 0->e 2 = .func ng na nb->e 10=a->e 26=T->e 27 = .int .i64 (l:Int)->F.br.vO K (.exit 4) ⟨e,62,[],h'⟩=true) :
  bX (EV F.br.L2) ⟨e0,62,[],h⟩ (F.br.vO K)=true:=by
 have j8:rules.l.length<=cu:=by have:=o.U4;unfold cu;omega
 refine aG 0 rules.l.length (zero_le _) (fun i e h'=>∃ a ps,bG h h'/\Own xu 8 h.next h' a ps/\(∀ p ∈ ps,p.ok)/\ps.map (·.r)=gz lv (rules.l.take i) l/\e 0 = .ptr P 0/\e 1 = .ptr S 0/\e 2 = .func ng na nb/\e 9 = .int .i64 (l:Int)/\e 10=a/\e 33=an aO 3 rules/\e 34 = .int .i64 (rules.l.length:Int)/\e 35 = .int .i64 (i:Int)/\e 26=T/\e 27 = .int .i64 (l:Int))
  ⟨.au,[],bG.refl _,.nil,fun p hp=>(by cases hp),rfl,q0,q1,q2,q9,q10,q33,q34,q35,q26,q27⟩ ?_ ?_
 ·rintro i e h' _ hi ⟨a,ps,hx,oa,lu,si,e0,e1,e2,e9,jH,e33,e34,e35,Yw,Yx⟩ K' hn iY hr hp;have hv:rules.l[i]?=some rules.l[i]:=ec hi;generalize rules.l[i]=r at hv;have lD:=iA hv;obtain ⟨H,EM,g1,go,gn⟩:=cR (h:=h') (zs:=[.str [],.au,.au]) (cs:=aO r) (n:=3) rfl rfl (jJ r);have xH:bG h H:=hx.trans ⟨by omega,fun b hb=>go b (by omega)⟩;have pP:H.get P=some (.cells [an aO 3 rules,.map A,.map M]):=by rw [xH.get P QI];exact hP
  have pl:fZ hs H M ks lv:=hl.eW (xH.get M UD);have ic:=Bp (lv:=lv) (l:=l) hv;rw [F.br.kE];simp only [e0,e9,jH,e33,e34,e35,aS,reduceAdd,reduceEqDiff,reduceIte,bl hi,aU rules hi,cX ei hv,EM];simp only [aS,reduceAdd,reduceEqDiff,reduceIte,bD,ai pP,ai g1,aO,pl.ZL,if_pos (mN r lD),ct];by_cases KR:lv r.name=l
  ·rw [if_pos KR] at ic;simp only [ey (by omega:(lv r.name:Int)=(l:Int)),aF,aS,reduceAdd,reduceEqDiff,reduceIte,ai g1,aO,om];refine aj (cI (o.kH r lD) fun hd cs ls h1 h2 h3=>?_);have jV:=aa8 ⟨(i:Int),r,hd,cs,ls⟩;have oH:=oa.ext (h':=H) ⟨by omega,fun b hb=>go b (by omega)⟩
   have af8:ps.length<=60:=by
    have z1:=congrArg List.length si;rw [length_map] at z1;have z2:(gz lv (rules.l.take i) l).length<=(rules.l.take i).length:=length_filter_le _ _;have z3:=length_take_le' i rules.l;have:=o.U4;omega
   obtain ⟨a2,h3',p1,p2,p3,p4,p5,p6⟩:=oH.push Jg Jh xH.next (bytes:=152) (by unfold dw;omega) ⟨(i:Int),r,hd,cs,ls⟩
   simp only [xu] at jV p1;simp only [aS,reduceAdd,reduceEqDiff,reduceIte,jV,jH,p1,e35,aK hi j8];refine hn _ _ ⟨a2,_,p5 h xH (dK _),p2,fun p hp=>?_,by rw [map_append,si,ic];rfl,e0,e1,e2,e9,rfl,e33,e34,rfl,Yw,Yx⟩;rcases mem_append.1 hp with hp|hp
   ·exact lu p hp
   ·rw [mem_singleton] at hp;subst hp;exact ⟨o.kH r lD,o.Bn r lD,h1,h2,h3⟩
  ·rw [if_neg KR,append_nil] at ic;simp only [ep (by omega:¬ (lv r.name:Int)=(l:Int)),aE,e35,aK hi j8,aq];exact hn _ _ ⟨a,ps,xH,oa.ext ⟨by omega,fun b hb=>go b (by omega)⟩,lu,by rw [ic];exact si,e0,e1,e2,e9,jH,e33,e34,rfl,Yw,Yx⟩
 ·rintro e h' ⟨a,ps,hx,oa,lu,si,e0,e1,e2,e9,jH,e33,e34,e35,Yw,Yx⟩ K' iY;rw [F.br.kE];simp only [e34,e35,aS,reduceAdd,reduceEqDiff,reduceIte,aX];rw [iY];rw [kB (dK _)] at si;exact done _ h' a ps hx oa lu si e0 e1 e2 jH Yw Yx
def tE(ns:List bQ)(lv:eL.Lv):List Int:=ns.map fun s=>(lv s:Int)
theorem Bq(ns:List bQ)(lv:eL.Lv):(tE ns lv).length=ns.length:=by simp [tE]
theorem rX{ns:List bQ}{s:bQ}(h:ns[i]?=some s):(tE ns lv)[i]?=some (lv s:Int):=by
 unfold tE;rw [getElem?_map,h];rfl
theorem kV{α:Type}:∀ {l:List α} {i j:Nat} {s:α},l.Nodup->l[i]?=some s->l[j]?=some s->i=j
 |[],i,j,s,_,h,_=>by simp at h
 |a :: l,0,0,s,_,_,_=>rfl
 |a :: l,0,j+1,s,hn,h1,h2=>by
  simp only [getElem?_cons_zero,Option.some.injEq,getElem?_cons_succ] at h1 h2;subst h1;exact absurd (iA h2) (nodup_cons.1 hn).1
 |a :: l,i+1,0,s,hn,h1,h2=>by
  simp only [getElem?_cons_zero,Option.some.injEq,getElem?_cons_succ] at h1 h2;subst h2;exact absurd (iA h1) (nodup_cons.1 hn).1
 |a :: l,i+1,j+1,s,hn,h1,h2=>by
  rw [getElem?_cons_succ] at h1 h2;rw [kV (nodup_cons.1 hn).2 h1 h2]
theorem U5{ns:List bQ}(hn:ns.Nodup){e:eL.Edge}{a:Nat}(ha:ns[a]?=some e.h)(eM:lv e.h<lv e.b+e.w):(tE ns lv).set a ((lv e.b+e.w:Nat):Int)=tE ns (eL.jf lv e):=by
 have yJ:=(oB.1 ha).1;refine ext_getElem? fun j=>?_;rw [getElem?_set];have yK:∀ x,eL.jf lv e x=if x=e.h then lv e.b+e.w else lv x:=fun x=>by unfold eL.jf;rw [if_pos eM]
 by_cases hj:a=j
 ·subst hj;rw [if_pos rfl,if_pos (by rw [Bq];exact yJ),rX ha,yK,if_pos rfl]
 ·rw [if_neg hj]
  cases hs:ns[j]? with
  |none=>unfold tE;rw [getElem?_map,getElem?_map,hs];rfl
  |some t=>
   rw [rX hs,rX hs,yK,if_neg];intro e1;subst e1;exact hj (kV hn ha hs)
theorem M0{e:eL.Edge}{s:bQ}(h:s≠e.h):eL.jf lv e s=lv s:=by
 unfold eL.jf;split
 ·exact if_neg h
 ·rfl
set_option maxHeartbeats 2000000 in
theorem bC{rules:Sl aR}(qd:rules.l.length<=60)(tC:∀ r ∈ rules.l,r.body.l.length<=20){h:ag}{K:Out->ag->Bool}
  (pX:(∀ k,¬ eL.dR (b7 rules.l) (eL.iter (b7 rules.l) k))->K (.ret (.tuple [.au,.bool false])) h=true)
  (GF:∀ (y:Sl Int) k,eL.dR (b7 rules.l) (eL.iter (b7 rules.l) k)->y.l=tE (dG rules.l) (eL.iter (b7 rules.l) k)->K (.ret (.tuple [an encI 1 y,.bool true])) h=true) :
  Sem TP 32 [an aO 3 rules] h K:=by
 have j8:rules.l.length<=cu:=by unfold cu;omega
 have hN:∀ e ∈ b7 rules.l,e.b ∈ dG rules.l/\e.h ∈ dG rules.l:=fun e he=>by
  obtain ⟨r,hr,c,hc,_,mN,rfl⟩:=rS he;exact ⟨(dJ _).2 mN,(dJ _).2 (List.mem_map_of_mem hr)⟩
 have hw:∀ e ∈ b7 rules.l,e.w<=1:=fun e he=>by
  obtain ⟨r,hr,c,hc,_,mN,rfl⟩:=rS he;exact KO r c
 have Ty:=xy (pW rules.l);have Ct:(dG rules.l).length<=60:=by have:=mV rules.l;omega
 have main:Sem TP 32 [an aO 3 rules] ag.empty (fun o h'=>yes (((∀ k,¬ eL.dR (b7 rules.l) (eL.iter (b7 rules.l) k))/\o = .ret (.tuple [.au,.bool false])) \/
   ∃ (a:AV) (y:Sl Int) (k:Nat),o = .ret (.tuple [a,.bool true])/\Fz true h' a (an encI 1 y)/\eL.dR (b7 rules.l) (eL.iter (b7 rules.l) k)/\y.l=tE (dG rules.l) (eL.iter (b7 rules.l) k))):=by
  refine F.B5 ?_;rw [F.DS]
  generalize hR:(fun (o:Out) (h':ag)=>yes (((∀ k,¬ eL.dR (b7 rules.l) (eL.iter (b7 rules.l) k))/\o = .ret (.tuple [.au,.bool false])) \/
   ∃ (a:AV) (y:Sl Int) (k:Nat),o = .ret (.tuple [a,.bool true])/\Fz true h' a (an encI 1 y)/\eL.dR (b7 rules.l) (eL.iter (b7 rules.l) k)/\y.l=tE (dG rules.l) (eL.iter (b7 rules.l) k)))=R
  have ajT:(∀ k,¬ eL.dR (b7 rules.l) (eL.iter (b7 rules.l) k))->∀ h',R (.ret (.tuple [.au,.bool false])) h'=true:=fun hk h'=>by
   subst hR;exact cO.2 (.inl ⟨hk,rfl⟩)
  have af9:∀ h' a (y:Sl Int) k,Fz true h' a (an encI 1 y)->eL.dR (b7 rules.l) (eL.iter (b7 rules.l) k)->y.l=tE (dG rules.l) (eL.iter (b7 rules.l) k)->R (.ret (.tuple [a,.bool true])) h'=true:=fun h' a y k q1 q2 q3=>by
   subst hR;exact cO.2 (.inr ⟨a,y,k,rfl,q1,q2,q3⟩)
  clear hR;refine aj (dm qd fun x jG=>?_);have Bl:x.l.length<=60:=by rw [jG];exact Ct
  have NV:x.l.length<=cu:=by unfold cu;omega
  simp only [aS,reduceAdd,reduceEqDiff,reduceIte,uV (show x.l.length<=1000000 by omega)]
  have gU:(ag.alloc ag.empty (.cells ((replicate x.l.length (0:Int)).map iv))).get 0=some (.cells ((tE x.l (eL.iter (b7 rules.l) 0)).map iv)):=by
   have:tE x.l (eL.iter (b7 rules.l) 0)=replicate x.l.length (0:Int):=by
    show x.l.map (fun _=>(0:Int))=_;exact map_const'
   rw [this];exact aD _ _
  have gn:(ag.alloc ag.empty (.cells ((replicate x.l.length (0:Int)).map iv))).next=1:=rfl
  simp only [bA];generalize (ag.alloc ag.empty (.cells ((replicate x.l.length (0:Int)).map iv)))=H0 at gU gn ⊢;rw [<- jG] at hN Ty af9
  refine pU (fun m e h'=>∃ k,h'.get 0=some (.cells ((tE x.l (eL.iter (b7 rules.l) k)).map iv))/\0<h'.next/\(∀ s,eL.iter (b7 rules.l) k s<=x.l.length)/\e 0=an aO 3 rules/\e 4=an encS 1 x/\e 5 = .slice 0 0 x.l.length 1 /\
   ((e 6 = .bool true/\m=x.l.length*x.l.length+2-(x.l.map (eL.iter (b7 rules.l) k)).sum)\/(e 6 = .bool false/\m=0/\eL.dR (b7 rules.l) (eL.iter (b7 rules.l) k)))) _
   ⟨0,gU,by omega,fun s=>zero_le _,rfl,rfl,rfl,.inl ⟨rfl,rfl⟩⟩ ?_
  rintro m e h' ⟨k,qU,qn,bd,e0,e4,e5,vt⟩ K0 hN0 ZI hr0;rw [F.bC.aT];rcases vt with ⟨e6,hm⟩|⟨e6,hm,ic⟩
  ·have U6:(x.l.map (eL.iter (b7 rules.l) k)).sum<=x.l.length*x.l.length:=eL.N7 x.l fun s _=>bd s;simp only [e6,cF,aF]
   refine aG 0 rules.l.length (zero_le _) (fun i e h'=>∃ cur ch,eL.RS (eL.iter (b7 rules.l) k) cur (mA (ax rules.l) (rules.l.take i)) ch/\h'.get 0=some (.cells ((tE x.l cur).map iv))/\0<h'.next/\(∀ s,cur s<=x.l.length) /\
    e 0=an aO 3 rules/\e 4=an encS 1 x/\e 5 = .slice 0 0 x.l.length 1/\e 6 = .bool ch/\e 7 = .int .i64 (i:Int)) ⟨_,false,eL.RS.nil _,qU,qn,bd,e0,e4,e5,rfl,rfl⟩ ?_ ?_
   ·rintro i e h' _ hi ⟨cur,ch,rs,qU,qn,bd,e0,e4,e5,e6,e7⟩ K1 QO O3 T2 hp1;have hv:rules.l[i]?=some rules.l[i]:=ec hi;generalize rules.l[i]=r at hv;have afO:=tC r (iA hv);have pH:r.body.l.length<=cu:=by unfold cu;omega
    have aga:r.name ∈ x.l:=(by rw [jG];exact (dJ _).2 (List.mem_map_of_mem (iA hv)));have ld:∀ j,j<3->∀ h,ah none (.dI (rules.l.flatMap aO) (i*3+j)) h=(aO r)[j]?:=fun j hj h=>fE ei hv hj;have ld0:∀ h,ah none (.dI (rules.l.flatMap aO) (i*3)) h=some (.str r.name):=fun h=>ld 0 (by omega) h;rw [F.bC.eC];simp only [e0,e4,e7,aS,reduceAdd,reduceEqDiff,reduceIte,bl hi,aU rules hi,ld0];refine aj (dQ NV (fun a ha=>?_) (fun KS=>absurd aga KS));have yJ:=(oB.1 ha).1;simp only [aS,reduceAdd,reduceEqDiff,reduceIte]
    refine aG 0 r.body.l.length (zero_le _) (fun j e h2=>∃ cur ch,eL.RS (eL.iter (b7 rules.l) k) cur (mA (ax rules.l) (rules.l.take i)++qt (ax rules.l) r (r.body.l.take j)) ch/\h2.get 0=some (.cells ((tE x.l cur).map iv))/\0<h2.next/\(∀ s,s≠r.name->cur s<=x.l.length)/\(∀ s,cur s<=x.l.length+j) /\
     e 0=an aO 3 rules/\e 4=an encS 1 x/\e 5 = .slice 0 0 x.l.length 1/\e 6 = .bool ch/\e 7 = .int .i64 (i:Int)/\e 8 = .int .i64 (a:Int)/\e 9 = .int .i64 (j:Int))
     ⟨cur,ch,by simpa [qt] using rs,qU,qn,fun s _=>bd s,by simpa using bd,e0,e4,e5,e6,e7,rfl,rfl⟩ ?_ ?_
    ·rintro j e h2 _ hj ⟨cur,ch,rs,qU,qn,bd1,bd2,e0,e4,e5,e6,e7,e8,e9⟩ K2 qM iu vL Il;have hc:r.body.l[j]?=some r.body.l[j]:=ec hj;generalize r.body.l[j]=c at hc;obtain ⟨H2,qX,k1,ko,kn⟩:=cR (h:=h2) (zs:=[.int .i64 0,.bool false,.str [],.au]) (cs:=bR c) (n:=4) rfl rfl (gQ c);have kU:H2.get 0=some (.cells ((tE x.l cur).map iv)):=by rw [ko 0 (by omega)];exact qU
     have ic:=Dk (hs:=ax rules.l) (r:=r) hc
     have skip:oq (ax rules.l) r c = []->∀ e':Env,e' 0=an aO 3 rules->e' 4=an encS 1 x->e' 5 = .slice 0 0 x.l.length 1->e' 6 = .bool ch->e' 7 = .int .i64 (i:Int)->e' 8 = .int .i64 (a:Int)->e' 9 = .int .i64 ((j+1:Nat):Int)->K2 .normal ⟨e',89,[],H2⟩=true:=by
      intro Tx e' e0 e4 e5 e6 e7 e8 e9;rw [Tx,append_nil] at ic;exact qM _ _ ⟨cur,ch,by rw [ic];exact rs,kU,by omega,bd1,fun s=>by have:=bd2 s;omega,e0,e4,e5,e6,e7,e8,e9⟩
     rw [F.bC.kE];simp only [e0,e4,e7,e9,aS,reduceAdd,reduceEqDiff,reduceIte,aU rules hi,ld 2 (by omega),aO,bl hj,aU r.body hj,cX gh hc,qX];simp only [aS,reduceAdd,reduceEqDiff,reduceIte,ai k1,bR];refine aj (dQ NV (fun b hb=>?_) (fun KS=>?_))
     ·have hbl:=(oB.1 hb).1;have ajU:c.name ∈ ax rules.l:=by rw [<- dJ,<- jG];exact iA hb
      simp only [aS,reduceAdd,reduceEqDiff,reduceIte,ai k1,bR,ct];by_cases k0:c.kind=0
      ·have Tx:oq (ax rules.l) r c = [gr r c]:=(by unfold oq;rw [if_pos ⟨k0,ajU⟩]);rw [Tx] at ic;simp only [ey k0,aF,ey (show (0:Int)<=(b:Int) by omega),e5,kF hbl,oe kU (rX hb),aS,reduceAdd,reduceEqDiff,reduceIte,ai k1,bR]
       have J:∀ e':Env,e' 0=an aO 3 rules->e' 4=an encS 1 x->e' 5 = .slice 0 0 x.l.length 1->e' 6 = .bool ch->e' 7 = .int .i64 (i:Int)->e' 8 = .int .i64 (a:Int)->e' 9 = .int .i64 (j:Int)->e' 12 = .int .i64 ((cur c.name+(gr r c).w:Nat):Int) ->
         F.bC.J0 K2 ⟨e',89,[],H2⟩=true:=by
        intro e' e0 e4 e5 e6 e7 e8 e9 oX;rw [F.bC.FN];simp only [e5,e8,oX,kF yJ,oe kU (rX ha),aS,reduceAdd,reduceEqDiff,reduceIte];by_cases eM:cur r.name<cur c.name+(gr r c).w
        ·have nT:=U5 Ty (e:=gr r c) ha eM;have U7:=pR (v:=((cur c.name+(gr r c).w:Nat):Int)) kU (i:=a) (by rw [Bq];exact yJ);have agd:(tE x.l cur).set a ((cur c.name+(gr r c).w:Nat):Int)=tE x.l (eL.jf cur (gr r c)):=nT;rw [agd] at U7;simp only [bl eM,aF,e5,e8,e9,oX,kF yJ,U7,aS,reduceAdd,reduceEqDiff,reduceIte,aK hj pH];refine qM _ _ ⟨_,true,?_,by rw [ag.aP,if_pos rfl],by rw [ag.bq];omega,fun s hs=>?_,fun s=>?_,e0,e4,e5,rfl,e7,e8,rfl⟩
         ·rw [ic,<- append_assoc];exact rs.up eM
         ·rw [M0 (e:=gr r c) hs];exact bd1 s hs
         ·have:=eL.wq (e:=gr r c) bd2 (KO r c) s;omega
        ·simp only [ep (by omega:¬ ((cur r.name:Int)<((cur c.name+(gr r c).w:Nat):Int))),aE,e9,aK hj pH,aq];exact qM _ _ ⟨cur,ch,by rw [ic,<- append_assoc];exact rs.same eM,kU,by omega,bd1,fun s=>by have:=bd2 s;omega,e0,e4,e5,e6,e7,e8,rfl⟩
       cases Yq:c.neg with
       |true=>
        have hw1:(gr r c).w=1:=(by unfold gr;simp [Yq]);have xk:=aK (i:=cur c.name) (n:=2000000) (by have:=bd2 c.name;omega) (by unfold cu;omega);simp only [aF,xk,aq];exact J _ e0 e4 e5 e6 e7 e8 e9 (by rw [hw1];rfl)
       |false=>
        have hw1:(gr r c).w=0:=(by unfold gr;simp [Yq]);simp only [aE];exact J _ e0 e4 e5 e6 e7 e8 e9 (by rw [hw1];rfl)
      ·simp only [ep k0,aE,e9,aK hj pH,aq];exact skip (by unfold oq;rw [if_neg (fun h=>k0 h.1)]) _ e0 e4 e5 e6 e7 e8 rfl
     ·have age:c.name ∉ ax rules.l:=fun h=>KS (by rw [jG];exact (dJ _).2 h);have Tx:oq (ax rules.l) r c = []:=by unfold oq;rw [if_neg (fun h=>age h.2)]
      simp only [aS,reduceAdd,reduceEqDiff,reduceIte,ai k1,bR,ct];by_cases k0:c.kind=0
      ·simp only [ey k0,aF,show decide ((0:Int)<=-1)=false from rfl,aE,e9,aK hj pH,aq];exact skip Tx _ e0 e4 e5 e6 e7 e8 rfl
      ·simp only [ep k0,aE,e9,aK hj pH,aq];exact skip Tx _ e0 e4 e5 e6 e7 e8 rfl
    ·rintro e h2 ⟨cur,ch,rs,qU,qn,bd1,bd2,e0,e4,e5,e6,e7,e8,e9⟩ K2 iu;rw [kB (dK _),<- Gq hv] at rs;rw [F.bC.kE];simp only [e0,e7,e9,aS,reduceAdd,reduceEqDiff,reduceIte,aU rules hi,ld 2 (by omega),aO,aX];rw [iu,F.bC.iM];simp only [e4,e5,e7,e8,kF yJ,oe qU (rX ha),aS,reduceAdd,reduceEqDiff,reduceIte];by_cases Ou:x.l.length<cur r.name
     ·simp only [bl Ou,aF];rw [T2,F.bC.k9,hr0,F.bC.bt];refine ajT (eL.high (N:=x.l) hN hw (k:=k) (E1:=mA (ax rules.l) (rules.l.take (i+1))) (E2:=mA (ax rules.l) (rules.l.drop (i+1))) ?_ aga (by rw [<- rs.eq];exact Ou)) _;unfold b7 mA;rw [<- flatMap_append,take_append_drop]
     ·simp only [ep (by omega:¬ ((x.l.length:Int)<(cur r.name:Int))),aE,e7,aK hi j8,aq];refine QO _ _ ⟨cur,ch,rs,qU,qn,fun s=>?_,e0,e4,e5,e6,rfl⟩;by_cases hs:s=r.name
      ·subst hs;omega
      ·exact bd1 s hs
   ·rintro e h' ⟨cur,ch,rs,qU,qn,bd',e0,e4,e5,e6,e7⟩ K1 O3;rw [kB (dK _)] at rs;obtain ⟨d1,d2⟩:=rs.done;have d1':cur=eL.iter (b7 rules.l) (k+1):=d1;rw [F.bC.eC];simp only [e0,e7,aS,reduceAdd,reduceEqDiff,reduceIte,aX];rw [O3,F.bC.cZ];by_cases ic:eL.dR (b7 rules.l) (eL.iter (b7 rules.l) k)
    ·have M1:eL.dR (mA (ax rules.l) rules.l) (eL.iter (b7 rules.l) k):=ic;rw [ey M1] at d2;have d3:cur=eL.iter (b7 rules.l) k:=by rw [d1];exact eL.zq ic
     rw [d3] at qU;exact hN0 0 _ _ (by omega) ⟨k,qU,qn,bd,e0,e4,e5,.inr ⟨by simp only [bg,reduceEqDiff,reduceIte,e6,d2];rfl,rfl,ic⟩⟩
    ·have M1:¬ eL.dR (mA (ax rules.l) rules.l) (eL.iter (b7 rules.l) k):=ic;rw [ep M1] at d2;rw [d1'] at qU bd';have h1:=eL.Rn hN ic;have h2:(x.l.map (eL.iter (b7 rules.l) (k+1))).sum<=x.l.length*x.l.length:=eL.N7 x.l fun s _=>bd' s;have h3:(x.l.map (eL.iter (b7 rules.l) k)).sum<(x.l.map (eL.iter (b7 rules.l) (k+1))).sum:=h1;exact hN0 _ _ _ (by rw [hm];omega) ⟨k+1,qU,qn,bd',e0,e4,e5,.inl ⟨by simp only [bg,reduceEqDiff,reduceIte,e6,d2];rfl,rfl⟩⟩
  ·simp only [e6,cF,aE];rw [ZI,F.bC.aJ];simp only [bg,reduceEqDiff,reduceIte,e5];have hf:=Uy qU;rw [Bq] at hf;exact af9 _ _ (some (tE x.l (eL.iter (b7 rules.l) k))) k hf ic rfl
 refine main.frozen (by simp [AV.cN,bI dW]) fun o h' ho=>?_;rcases cO.1 ho with ⟨hb,rfl⟩|⟨a,y,k,rfl,f1,ic,s3⟩
 ·exact ⟨_,_,rfl,.dP rfl,pX hb⟩
 ·have fl:=kD.cons f1 (kD.cons (Fz.scalar (.bool true) rfl) kD.nil);exact ⟨_,_,rfl,.tuple _ _ fl.len fl.rel,GF y k ic s3⟩
set_option maxHeartbeats 2000000 in
theorem Sf{hs:List bQ}(o:U3 S n D0 rules.l ng na nb)
  (hP:h.get P=some (.cells [an aO 3 rules,.map A,.map M])) (QI:P<h.next) (hl:fZ hs h M ks lv) (Jj:ks.Nodup) (UD:M<h.next) (mN:∀ r ∈ rules.l,r.name ∈ hs) (KR:∀ x,lv x<=1000000)
  (hS:h.get S=some (.cells [.int .i64 (n:Int),.map B])) (Yt:S<h.next) (hD:eT D0 h B lo) (hPM:∀ nm p,D0 nm=some p->p.1≠P/\p.1≠M)
  (hK:∀ h' D' T,(∀ x ∈ hs,lv x<=T)->Ji n rules.l lv D0 (T+1) D'->fF D' D0->eT D' h' B lo->(∀ b,b<h.next->(∀ nm p,D0 nm=some p->b≠p.1)->h'.get b=h.get b)->h.next<=h'.next->K (.ret (.tuple [])) h'=true) :
  Sem TP 46 [.ptr P 0,.ptr S 0,.func ng na nb] h K:=by
 obtain ⟨es,ck,m,z1,z2,z3,z4,z5⟩:=hl.ex;have ajW:(m.map (·.1)).Nodup:=by rw [z4];exact Jj
 have we:∀ p ∈ m,p.1 ∈ hs/\p.2=(lv p.1:Int):=fun p hp=>by
  have h1:=yt ajW hp;rw [z5] at h1;by_cases hh:p.1 ∈ hs
  ·rw [if_pos hh] at h1;exact ⟨hh,(Option.some.inj h1).symm⟩
  ·rw [if_neg hh] at h1;cases h1
 refine F.vU ?_;rw [F.wX];have hrg:oN .map (.map M) h=some (.ptr h.next 0,h.alloc (.ij (some M) ck [] ck)):=by simp only [oN,z1]
 simp only [aS,reduceAdd,reduceEqDiff,reduceIte,bD,ai hP,hrg]
 refine Cu es (fun seen e hh=>∃ t:Nat,e 6 = .int .i64 (t:Int)/\(∀ en ∈ es,en.2.2 ∈ seen->∀ v:Nat,en.2.1 = .int .i64 (v:Int)->v<=t)/\t<=1000000/\hh.get h.next=some (.ij (some M) ck seen ck)/\(∀ b,b<h.next->hh.get b=h.get b)/\h.next<hh.next /\
  e 0 = .ptr P 0/\e 1 = .ptr S 0/\e 2 = .func ng na nb/\e 17 = .ptr h.next 0)
  ⟨0,rfl,fun en _ vM=>(by cases vM),by omega,aD _ _,fun b hb=>by rw [ag.aW,if_neg (by omega)],by rw [ag.aV];omega,rfl,rfl,rfl,rfl⟩ ?_
 rintro seen e hh ⟨t,e6,ht,ht6,w3,wf,wn,e0,e1,e2,mW⟩ K' U8 hex Yy agf;rw [F.br.aT];simp only [mW];refine GI w3 (by rw [wf M UD];exact z1) z3 (by omega) (fun fh=>?_) (fun en vM hns Fg=>?_)
 ·simp only [Kq,qY,aq,cF,aE];rw [hex,F.br.aJ]
  have ajX:∀ x ∈ hs,lv x<=t:=fun x hx=>by
   have h1:m.find x=some (lv x:Int):=by rw [z5,if_pos hx]
   obtain ⟨en,vM,h2,h3⟩:=z2.Yv _ (tY h1);exact ht en vM (fh en vM) (lv x) h3
  have xk:=aK (i:=t) (n:=1000001) (by omega) (by unfold cu;omega);simp only [aS,reduceAdd,reduceEqDiff,reduceIte,e6,xk]
  refine aG 0 (t+1) (zero_le _) (fun l e h'=>∃ D,Ji n rules.l lv D0 l D/\fF D D0/\eT D h' B lo/\(∀ b,b<h.next->(∀ nm p,D0 nm=some p->b≠p.1)->h'.get b=h.get b)/\h.next<=h'.next/\e 0 = .ptr P 0/\e 1 = .ptr S 0/\e 2 = .func ng na nb/\e 26 = .int .i64 ((t+1:Nat):Int)/\e 27 = .int .i64 (l:Int))
   ⟨D0,.zero,fun _=>rfl,hD.ext ⟨by omega,fun b hb=>wf b hb⟩,fun b hb _=>wf b hb,by omega,e0,e1,e2,rfl,rfl⟩ ?_ ?_
  ·rintro l e h' _ eM ⟨D,iK,v8,oI,mI,oA,e0,e1,e2,Yw,Yx⟩ K1 QO jG T2 hp1;have ajY:∀ nm p,D0 nm=some p->P≠p.1:=fun nm p hp=>Ne.symm (hPM nm p hp).1;have notM:∀ nm p,D0 nm=some p->M≠p.1:=fun nm p hp=>Ne.symm (hPM nm p hp).2;have pP:h'.get P=some (.cells [an aO 3 rules,.map A,.map M]):=by rw [mI P QI ajY];exact hP
   have pl:fZ hs h' M ks lv:=hl.eW (mI M UD notM);rw [F.br.eC];simp only [e0,Yw,Yx,aS,reduceAdd,reduceEqDiff,reduceIte,bl eM,bD,ai pP];refine MZ o (l:=l) pP (by omega) pl (by omega) mN e0 e1 e2 rfl rfl rfl rfl rfl Yw Yx fun e' h3 a ps Iq oa lu si f0 f1 f2 f10 f26 f27=>?_;rw [F.br.iM];simp only [f1,f2,f10];have hS3:h3.get S=some (.cells [.int .i64 (n:Int),.map B]):=by rw [Iq.get S (by omega),mI S Yt (fun nm p hp=>Ne.symm (o.rows nm p hp))];exact hS
   have Ek:∀ p ∈ ps,p.r ∈ rules.l:=fun p hp=>by
    have:p.r ∈ gz lv rules.l l:=(by rw [<- si];exact List.mem_map_of_mem hp);exact (mem_filter.1 this).1
   have af8:ps.length<=60:=by
    have y1:=congrArg List.length si;rw [length_map] at y1;have y2:(gz lv rules.l l).length<=rules.l.length:=length_filter_le _ _;have:=o.U4;omega
   have po:U1 S n D ps ng na nb:=
    ⟨o.n1,o.ov,lu,fun nm p hp=>by obtain ⟨p0,y1,y2,_⟩:=v8.back hp;rw [y2];exact o.rows nm p0 y1,fun p hp D' ur=>o.ask _ (Ek p hp) D' (ur.trans v8),
     fun p hp=>by
      obtain ⟨y1,y2,q,y3,y4⟩:=o.head _ (Ek p hp);obtain ⟨q',y5,_,y6⟩:=v8.get y3
      exact ⟨y1,y2,q',y5,by rw [y6];exact y4⟩,o.note⟩
   have hDn:∀ nm p,D nm=some p->p.1<h'.next:=fun nm p hp=>(oI.mc nm p hp).2.1
   refine aj (MX po hS3 (by have:=Iq.next;omega) (oI.ext Iq) oa (fun b hb nm p hp=>by have:=oa.ge hb;have:=hDn nm p hp;omega) af8 fun h4 D4 k1 k2 k3 k4 k5 k6=>?_);simp only [aS,reduceAdd,reduceEqDiff,reduceIte,f27,aK eM (show t+1<=cu by unfold cu;omega)];rw [si] at k1 k2;refine QO _ _ ⟨D4,.succ l D D4 iK k1 k2,k3.trans v8,k4,fun b b1 b2=>?_,by have:=Iq.next;omega,f0,f1,f2,f26,rfl⟩;rw [k5 b (by have:=Iq.next;omega) (fun nm p hp=>by obtain ⟨p0,y1,y2,_⟩:=v8.back hp;rw [y2];exact b2 nm p0 y1),Iq.get b (by omega),mI b b1 b2]
  ·rintro e h' ⟨D,iK,v8,oI,mI,oA,e0,e1,e2,Yw,Yx⟩ K1 jG;rw [F.br.eC];simp only [Yw,Yx,aS,reduceAdd,reduceEqDiff,reduceIte,aX];rw [jG,F.br.cZ];exact hK h' D t ajX iK v8 oI mI oA
 ·obtain ⟨p,O2,QO,qM⟩:=z2.mem en vM;obtain ⟨hph,WZ⟩:=we p O2;rw [WZ] at qM;have apM:=KR p.1;simp only [Kq,qY,yl,aq,cF,aF,mW,Fg,e6,qM,MP]
  have hmx:QL (t:Int) (lv p.1:Int)=((if lv p.1>t then lv p.1 else t:Nat):Int):=by
   unfold QL;by_cases Ou:lv p.1>t
   ·rw [if_pos Ou,if_pos (by omega)]
   ·rw [if_neg Ou,if_neg (by omega)]
  refine U8 en vM hns _ _ ⟨if lv p.1>t then lv p.1 else t,by rw [hmx];rfl,fun ZQ M3 jc v hv=>?_,by split<;>omega,by rw [ag.aP,if_pos rfl],fun b hb=>by rw [ag.aP,if_neg (by omega)];exact wf b hb,by rw [ag.bq];exact wn,e0,e1,e2,mW⟩;rcases mem_append.1 jc with jc|jc
  ·have:=ht ZQ M3 jc v hv;split<;>omega
  ·rw [mem_singleton] at jc
   have hee:ZQ=en:=by
    have hb:=z3.nodup;obtain ⟨i,hi⟩:=mem_iff_getElem?.1 vM;obtain ⟨j,hj⟩:=mem_iff_getElem?.1 M3;have tj:(es.map (·.2.2))[i]?=some en.2.2:=by rw [getElem?_map,hi];rfl
    have Ki:(es.map (·.2.2))[j]?=some en.2.2:=by rw [getElem?_map,hj,<- jc];rfl
    have Wz:=kV hb tj Ki;subst Wz;rw [hi] at hj;exact (Option.some.inj hj).symm
   rw [hee,qM] at hv;have:v=lv p.1:=by injection hv with _ h3;omega
   rw [this];split<;>omega
theorem iN{n:Int}{x:Sl Int}(hx:x.l.length<=cu){h:ag}{K:Out->ag->Bool}(hK:K (.ret (.bool (iJ n x.l))) h=true):Sem TP 117 [.int .i64 n,an encI 1 x] h K:=by
 refine F.KE ?_;rw [F.Mx];refine aG 0 x.l.length (zero_le _) (fun i e h'=>h'=h/\e 0 = .int .i64 n/\e 1=an encI 1 x/\e 5 = .int .i64 (i:Int)/\iJ n (x.l.take i)=true) ⟨rfl,rfl,rfl,rfl,rfl⟩ ?_ ?_
 ·rintro i e h' _ hi ⟨rfl,e0,e1,e5,ht⟩ K' hn iY hr hp;have hv:x.l[i]?=some x.l[i]:=ec hi;rw [F.iN.aT];simp only [e0,e1,e5,aS,reduceAdd,reduceEqDiff,reduceIte,bl hi,aU x hi,fS hv];by_cases h1:x.l[i]<0
  ·simp only [ey h1,aF];rw [hr,F.iN.bt];have:iJ n x.l=false:=all_false hv (by simp [h1]);rw [this] at hK;exact hK
  ·simp only [ep h1,aE];by_cases h2:n<=x.l[i]
   ·simp only [ey h2,aF];rw [hr,F.iN.bt];have:iJ n x.l=false:=all_false hv (by simp [h2]);rw [this] at hK;exact hK
   ·simp only [ep h2,aE,aK hi hx,aq];exact hn _ _ ⟨rfl,e0,e1,rfl,kj hv ht (by simp [h1,h2])⟩
 ·rintro e h' ⟨rfl,e0,e1,e5,ht⟩ K' iY;rw [F.iN.aT];simp only [e0,e1,e5,aS,reduceAdd,reduceEqDiff,reduceIte,aX];rw [iY,F.iN.aJ];rw [kB (dK _)] at ht;rw [ht] at hK;exact hK
theorem Ir{x:Sl Int}(hx:x.l.length<=cu){a b:List AV}{p:Int->Bool}(hp:∀ (v:Int) (K:Out->ag->Bool),K (.ret (.bool (p v))) h=true->Sem TP g (a++([.int .i64 v]++b)) h K)
  (hK:∀ n:Int,decide (0<=n)=x.l.any p->K (.ret (.int .i64 n)) h=true):Sem TP 121 [an encI 1 x,.func g a b] h K:=by
 refine F.oW ?_;rw [F.pQ];simp only [aS,reduceAdd,reduceEqDiff,reduceIte];refine aG 0 x.l.length (zero_le _) (fun i e h'=>h'=h/\e 0=an encI 1 x/\e 1 = .func g a b/\e 7 = .int .i64 (x.l.length:Int)/\e 8 = .int .i64 (i:Int)/\(x.l.take i).any p=false) ⟨rfl,rfl,rfl,rfl,rfl,rfl⟩ ?_ ?_
 ·rintro i e h' _ hi ⟨rfl,e0,e1,e7,e8,ht⟩ K' hn iY hr vK;have hv:x.l[i]?=some x.l[i]:=ec hi;rw [F.cj.aT];simp only [e0,e1,e7,e8,aS,reduceAdd,reduceEqDiff,reduceIte,bl hi,aU x hi,fS hv,ju];refine aj (hp _ _ ?_);simp only [aS,reduceAdd,reduceEqDiff,reduceIte]
  cases hq:p x.l[i] with
  |true=>
   simp only [aF];rw [hr,F.cj.bt];refine hK (i:Int) ?_;rw [ey (by omega:(0:Int)<=(i:Int))];exact (List.any_eq_true.2 ⟨_,iA hv,hq⟩).symm
  |false=>
   simp only [aE,aK hi hx,aq];exact hn _ _ ⟨rfl,e0,e1,e7,rfl,by rw [take_add_one,hv,any_append,ht];simp [hq]⟩
 ·rintro e h' ⟨rfl,e0,e1,e7,e8,ht⟩ K' iY;rw [F.cj.aT];simp only [e0,e1,e7,e8,aS,reduceAdd,reduceEqDiff,reduceIte,aX];rw [iY,F.cj.aJ];rw [kB (dK _)] at ht;exact hK (-1) (by rw [ht];rfl)
theorem oY{x:Sl Int}(hx:x.l.length<=cu){a b:List AV}{p:Int->Bool}(hp:∀ (v:Int) (K:Out->ag->Bool),K (.ret (.bool (p v))) h=true->Sem TP g (a++([.int .i64 v]++b)) h K)
  (hK:K (.ret (.bool (x.l.any p))) h=true):Sem TP 67 [an encI 1 x,.func g a b] h K:=by
 refine F.nU ?_;rw [F.od];refine aj (Ir hx hp fun n hn=>?_);simp only [aS,reduceAdd,reduceEqDiff,reduceIte];rw [hn];exact hK
def Yz(n:Int)(x:Int):Bool:=decide (x<0)||decide (n<=x)
theorem aa9(n:Int)(l:List Int):iJ n l = !(l.any (Yz n)):=by
 unfold iJ Yz
 induction l with
 |nil=>rfl
 |cons a l ih=>simp only [all_cons,any_cons,ih];cases decide (a<0)<;>cases decide (n<=a)<;>rfl
theorem cQ{cs:List AV}(h:cs.length=n):kC (some n) cs 0=some (.agg cs):=by
 simp [kC,h,kB]
theorem gK{n k:Nat}(h1:1<=n)(h2:n<=64)(hk:k<=cu){h:ag}{K:Out->ag->Bool}(hK:∀ v:Nat,(n ^ k<=4096->v=n ^ k)->(4096<n ^ k->4096<v)->K (.ret (.int .i64 (v:Int))) h=true) :
  Sem TP 75 [.int .i64 (n:Int),.int .i64 (k:Int)] h K:=by
 refine F.HV ?_;rw [F.KC];refine aG 0 k (zero_le _) (fun i e h'=>h'=h/\e 0 = .int .i64 (n:Int)/\e 1 = .int .i64 (k:Int)/\e 6 = .int .i64 (i:Int)/\e 5 = .int .i64 ((n ^ i:Nat):Int)/\n ^ i<=262144) ⟨rfl,rfl,rfl,rfl,rfl,by simp⟩ ?_ ?_
 ·rintro i e h' _ hi ⟨rfl,e0,e1,e6,e5,hb⟩ K' hn hx hr hp;rw [F.gK.aT];simp only [e0,e1,e5,e6,aS,reduceAdd,reduceEqDiff,reduceIte,bl hi];by_cases hc:n ^ i<=4096
  ·have hm:n ^ i*n<=4096*64:=Nat.mul_le_mul hc h2;have oE:((n ^ i:Nat):Int)*(n:Int)=((n ^ (i+1):Nat):Int):=by rw [Nat.pow_succ,Int.natCast_mul]
   have hs:n ^ (i+1)<=262144:=by rw [Nat.pow_succ];omega
   have hmul:aL .mul (.int .i64 ((n ^ i:Nat):Int)) (.int .i64 (n:Int))=some (.int .i64 ((n ^ (i+1):Nat):Int)):=by
    rw [yh (by rw [oE];omega) (by rw [oE];omega),oE]
   simp only [ey (by omega:((n ^ i:Nat):Int)<=4096),aF,hmul,aK hi hk,aq];exact hn _ _ ⟨rfl,e0,e1,rfl,rfl,hs⟩
  ·simp only [ep (by omega:¬ ((n ^ i:Nat):Int)<=4096),aE];rw [hx,F.gK.aJ];simp only [e5,bg,reduceEqDiff,reduceIte];have:=KP h1 (Nat.le_of_lt hi);exact hK _ (fun h=>by omega) (fun _=>by omega)
 ·rintro e h' ⟨rfl,e0,e1,e6,e5,hb⟩ K' hx;rw [F.gK.aT];simp only [e0,e1,e5,e6,aS,reduceAdd,reduceEqDiff,reduceIte,aX];rw [hx,F.gK.aJ];simp only [e5,bg,reduceEqDiff,reduceIte];exact hK _ (fun _=>rfl) (fun h=>h)
def O4(n k:Nat):Int:=if n ^ k<=4096 then ((n ^ k:Nat):Int) else -1
theorem ff{n k:Nat}(h1:1<=n)(h2:n<=64)(hk:k<=cu){h:ag}{K:Out->ag->Bool}(hK:K (.ret (.int .i64 (O4 n k))) h=true) :
  Sem TP 136 [.int .i64 (n:Int),.int .i64 (k:Int),.int .i64 4096] h K:=by
 refine F.DX ?_;rw [F.F8];refine aG 0 k (zero_le _) (fun i e h'=>h'=h/\e 0 = .int .i64 (n:Int)/\e 2 = .int .i64 4096/\e 8 = .int .i64 (k:Int)/\e 9 = .int .i64 (i:Int)/\e 7 = .int .i64 ((n ^ i:Nat):Int)/\n ^ i<=4096) ⟨rfl,rfl,rfl,rfl,rfl,rfl,by simp⟩ ?_ ?_
 ·rintro i e h' _ hi ⟨rfl,e0,e2,e8,e9,e7,hb⟩ K' hn hx hr hp;rw [F.ff.aT];have hm:n ^ i*n<=4096*64:=Nat.mul_le_mul hb h2;have oE:((n ^ i:Nat):Int)*(n:Int)=((n ^ (i+1):Nat):Int):=by rw [Nat.pow_succ,Int.natCast_mul]
  have hs:n ^ (i+1)<=262144:=by rw [Nat.pow_succ];omega
  have hmul:aL .mul (.int .i64 ((n ^ i:Nat):Int)) (.int .i64 (n:Int))=some (.int .i64 ((n ^ (i+1):Nat):Int)):=by
   rw [yh (by rw [oE];omega) (by rw [oE];omega),oE]
  simp only [e0,e2,e7,e8,e9,aS,reduceAdd,reduceEqDiff,reduceIte,bl hi,hmul];by_cases hc:n ^ (i+1)<=4096
  ·simp only [ep (by omega:¬ (4096:Int)<((n ^ (i+1):Nat):Int)),aE,aK hi hk,aq];exact hn _ _ ⟨rfl,e0,e2,e8,rfl,rfl,hc⟩
  ·simp only [ey (by omega:(4096:Int)<((n ^ (i+1):Nat):Int)),aF];rw [hr,F.ff.bt];simp only [bg,reduceEqDiff,reduceIte];have:=KP h1 (show i+1<=k from hi);rw [O4,if_neg (by omega)] at hK;exact hK
 ·rintro e h' ⟨rfl,e0,e2,e8,e9,e7,hb⟩ K' hx;rw [F.ff.aT];simp only [e8,e9,aS,reduceAdd,reduceEqDiff,reduceIte,aX];rw [hx,F.ff.aJ];simp only [e7,bg,reduceEqDiff,reduceIte];rw [O4,if_pos hb] at hK;exact hK
def U9(n k:Nat):AV:=if 12<k then .tuple [.int .i64 0,.int .i64 2] else if 4096<n ^ k then .tuple [.int .i64 0,.int .i64 5] else .tuple [.int .i64 ((n ^ k:Nat):Int),.int .i64 0]
theorem Dr{k:Nat}(h1:1<=n)(h2:n<=64)(hk:k<=cu)(hK:K (.ret (U9 n k)) h=true):Sem TP 107 [.int .i64 (n:Int),.int .i64 (k:Int)] h K:=by
 refine F.DW ?_;rw [F.F6];simp only [aS,reduceAdd,reduceEqDiff,reduceIte,ep (by omega:¬ (n:Int)<1),ep (by omega:¬ (64:Int)<(n:Int)),ep (by omega:¬ (k:Int)<0)];unfold U9 at hK;by_cases Cp:12<k
 ·rw [if_pos Cp] at hK;simp only [ey (by omega:(12:Int)<(k:Int)),aF];exact hK
 ·rw [if_neg Cp] at hK;simp only [ep (by omega:¬ (12:Int)<(k:Int)),aE];refine aj (ff h1 h2 hk ?_);simp only [aS,reduceAdd,reduceEqDiff,reduceIte];by_cases hc:n ^ k<=4096
  ·rw [if_neg (by omega)] at hK;simp only [O4,if_pos hc,ep (by omega:¬ ((n ^ k:Nat):Int)<0),aE];exact hK
  ·rw [if_pos (by omega)] at hK;simp only [O4,if_neg hc,ey (by omega:(-1:Int)<0),aF];exact hK
theorem O5{n:Int}(hb:h.get b=some (.cells [.int .i64 n]))(v:Int)(K:Out->ag->Bool)(hK:K (.ret (.bool (Yz n v))) h=true):Sem TP 191 ([]++([.int .i64 v]++[.ptr b 0])) h K:=by
 refine F.wZ ?_;rw [F.yS];simp only [ai hb,aS,reduceAdd,reduceEqDiff,reduceIte];unfold Yz at hK;by_cases h1:v<0<;>by_cases h2:n<=v<;>simpa [h1,h2] using hK
theorem GK{n:Int}{x:Sl Int}(hx:x.l.length<=cu)(hK:K (.ret (.bool (iJ n x.l))) h=true):Sem TP 173 [.int .i64 n,an encI 1 x] h K:=by
 refine Sem.data (r:=.bool (iJ n x.l)) ?_ (by simp [AV.cN,AV.pure,bI jj]) hK;refine F.zS ?_;rw [F.A0];simp only [uJ (x:=.int .i64 _) rfl,aq,bA];have g0:(ag.alloc ag.empty (.cells [.int .i64 n])).get 0=some (.cells [.int .i64 n]):=aD _ _;refine aj (oY hx (O5 g0) ?_);simp only [aS,reduceAdd,reduceEqDiff,reduceIte];rw [aa9];exact c8 rfl
theorem GL{l m:List Int}{a b:Int}(ha:l[i]?=some a)(hb:m[i]?=some b):ji (l.drop i) (m.drop i)=if a=b then ji (l.drop (i+1)) (m.drop (i+1)) else decide (a<b):=by
 have h1:=(oB.1 ha).1;have h2:=(oB.1 hb).1;rw [drop_eq_getElem_cons h1,drop_eq_getElem_cons h2];rw [ec h1] at ha;rw [ec h2] at hb;cases ha;cases hb;rfl
theorem gE{x y:Sl Int}(hx:x.l.length<=cu)(hxy:x.l.length=y.l.length){h:ag}{K:Out->ag->Bool}(hK:K (.ret (.bool (ji x.l y.l))) h=true):Sem TP 118 [an encI 1 x,an encI 1 y] h K:=by
 refine F.F7 ?_;rw [F.HY];refine aG 0 x.l.length (zero_le _) (fun i e h'=>h'=h/\e 0=an encI 1 x/\e 1=an encI 1 y/\e 5 = .int .i64 (i:Int)/\ji x.l y.l=ji (x.l.drop i) (y.l.drop i)) ⟨rfl,rfl,rfl,rfl,rfl⟩ ?_ ?_
 ·rintro i e h' _ hi ⟨rfl,e0,e1,e5,hl⟩ K' hn iY hr hp;have NT:i<y.l.length:=by omega
  have hv:x.l[i]?=some x.l[i]:=ec hi;have hw:y.l[i]?=some y.l[i]:=ec NT;rw [GL hv hw] at hl;generalize x.l[i]=a at hv hl;generalize y.l[i]=b at hw hl;rw [F.gE.aT];simp only [e0,e1,e5,aS,reduceAdd,reduceEqDiff,reduceIte,bl hi,aU x hi,aU y NT,fS hv,fS hw,ct];by_cases zM:a=b
  ·rw [if_pos zM] at hl;simp only [ey zM,Bool.not_true,aE,aK hi hx,aq];exact hn _ _ ⟨rfl,e0,e1,rfl,hl⟩
  ·rw [if_neg zM] at hl;simp only [ep zM,Bool.not_false,aF];rw [hr,F.gE.bt];simp only [bg,reduceEqDiff,reduceIte];rw [hl] at hK;exact hK
 ·rintro e h' ⟨rfl,e0,e1,e5,hl⟩ K' iY;rw [F.gE.aT];simp only [e0,e5,aS,reduceAdd,reduceEqDiff,reduceIte,aX];rw [iY,F.gE.aJ];rw [drop_of_length_le (dK _)] at hl;rw [hl] at hK;exact hK
theorem Jk{a:Int}(hK:K (.ret (.bool false)) h=true):Sem TP 174 [.int .i64 a] h K:=by
 refine F.A2 ?_;rw [F.Cd];simp only [aS,reduceAdd,reduceEqDiff,reduceIte,beq_self_eq_true,Bool.not_true];exact hK
theorem M4{a b:Int}(hK:∀ c:Int,(c=0↔a=b)->(c<0↔a<b)->K (.ret (.int .i64 c)) h=true):Sem TP 142 [.int .i64 a,.int .i64 b] h K:=by
 refine F.yR ?_;rw [F.zT];refine aj (Jk ?_);simp only [aS,reduceAdd,reduceEqDiff,reduceIte];refine aj (Jk ?_);simp only [aS,reduceAdd,reduceEqDiff,reduceIte];by_cases h1:a<b
 ·simp only [ey h1,aF];exact hK _ (by omega) (by omega)
 ·simp only [ep h1,aE];by_cases h2:b<a
  ·simp only [ey h2,aF];exact hK _ (by omega) (by omega)
  ·simp only [ep h2,aE];exact hK _ (by omega) (by omega)
theorem GM{x y:Sl Int}(hx:x.l.length<=cu)(hxy:x.l.length=y.l.length)(hK:∀ c:Int,decide (0<=c) = !(ji x.l y.l)->K (.ret (.int .i64 c)) h=true):Sem TP 90 [an encI 1 x,an encI 1 y] h K:=by
 refine F.qp ?_;rw [F.qJ];simp only [aS,reduceAdd,reduceEqDiff,reduceIte];refine aG 0 x.l.length (zero_le _) (fun i e h'=>h'=h/\e 0=an encI 1 x/\e 1=an encI 1 y/\e 9=an encI 1 x/\e 10 = .int .i64 (x.l.length:Int)/\e 11 = .int .i64 (i:Int)/\ji x.l y.l=ji (x.l.drop i) (y.l.drop i)) ⟨rfl,rfl,rfl,rfl,rfl,rfl,rfl⟩ ?_ ?_
 ·rintro i e h' _ hi ⟨rfl,e0,e1,e9,jH,jX,hl⟩ K' hn iY hr hp;have NT:i<y.l.length:=by omega
  have hv:x.l[i]?=some x.l[i]:=ec hi;have hw:y.l[i]?=some y.l[i]:=ec NT;rw [GL hv hw] at hl;generalize x.l[i]=a at hv hl;generalize y.l[i]=b at hw hl;rw [F.cr.aT];simp only [e0,e1,e9,jH,jX,aS,reduceAdd,reduceEqDiff,reduceIte,bl hi,aU x hi,aU y NT,fS hv,fS hw,ep (by omega:¬ (y.l.length:Int)<=(i:Int))];refine aj (M4 fun c c1 c2=>?_);simp only [aS,reduceAdd,reduceEqDiff,reduceIte,ct];by_cases zM:a=b
  ·rw [if_pos zM] at hl;simp only [ey (c1.2 zM),Bool.not_true,aE,aK hi hx,aq];exact hn _ _ ⟨rfl,e0,e1,e9,jH,rfl,hl⟩
  ·rw [if_neg zM] at hl;simp only [ep (fun h=>zM (c1.1 h)),Bool.not_false,aF];rw [hr,F.cr.bt];simp only [bg,reduceEqDiff,reduceIte];refine hK c ?_;rw [hl];by_cases eM:a<b
   ·rw [ey eM,ep (by have:=c2.2 eM;omega)];rfl
   ·rw [ep eM,ey (by have:=mt c2.1 eM;omega)];rfl
 ·rintro e h' ⟨rfl,e0,e1,e9,jH,jX,hl⟩ K' iY;rw [F.cr.aT];simp only [jH,jX,aS,reduceAdd,reduceEqDiff,reduceIte,aX];rw [iY,F.cr.aJ];simp only [e0,e1,aS,reduceAdd,reduceEqDiff,reduceIte,ep (by omega:¬ (x.l.length:Int)<(y.l.length:Int))];rw [drop_of_length_le (dK _)] at hl;exact hK 0 (by rw [hl];rfl)
structure View {α:Type} (enc:α->List AV) (sz:Nat) (a:AV) (l:List α):Prop where
 len:∀ h:ag,b6 .slice a h=some (.int .i64 (l.length:Int))
 at_:∀ (i:Nat) (v:α),l[i]?=some v->∃ cs o,(∀ k:IntKind,dg sz a (.int k (i:Int))=some (.dI cs o))/\(∀ h:ag,ah (some sz) (.dI cs o) h=some (.agg (enc v)))/\∀ (m:Nat),m<sz->∀ h:ag,ah none (.dI cs (o+m)) h=(enc v)[m]?
theorem Va{enc:α->List AV}(he:∀ a,(enc a).length=sz)(x:Sl α):View enc sz (an enc sz x) x.l where
 len h:=Mk x h
 at_ i v hv:=⟨x.l.flatMap enc,i*sz,fun k=>aU x (oB.1 hv).1,fun h=>cX he hv,fun m hm h=>fE he hv hm⟩
theorem Sg{enc:α->List AV}(he:∀ a,(enc a).length=sz)(x:Sl α)(hi:i<=x.l.length) :
  ∃ a,(∀ k:IntKind,jr (some sz) (an enc sz x) none (some (.int k (i:Int)))=some a)/\View enc sz a (x.l.take i):=by
 cases x with
 |none=>
  simp only [Sl.aaI,length_nil,le_zero_eq] at hi;subst hi;exact ⟨.au,fun k=>by simp [jr,an,nS,rA,asNat],⟨fun h=>rfl,fun j v hv=>by simp at hv⟩⟩
 |some l=>
  simp only [Sl.OL] at hi ⊢;refine ⟨.ay (l.flatMap enc) 0 i sz,fun k=>?_,⟨fun h=>by simp [b6,Nat.min_eq_left hi],fun j v hv=>?_⟩⟩
  ·simp [jr,an,nS,rA,asNat,hi]
  ·have hj:j<i:=by have:=(oB.1 hv).1;rw [length_take] at this;omega
   rw [getElem?_take_of_lt hj] at hv;exact ⟨l.flatMap enc,j*sz,fun k=>by simp [dg,asNat,hj],fun h=>cX he hv,fun m hm h=>fE he hv hm⟩
def bO(r:Rel):List AV:=[.str r.name,.int .i64 r.arity,an eu 1 r.bW]
theorem iE(r:Rel):(bO r).length=3:=rfl
theorem sW(r:Rel):AV.cN (bO r)=true:=by simp [bO,AV.cN,AV.pure,bI tZ]
theorem kJ(r:Rel):bE (bO r)=true:=by unfold bO;simp only [bE,mj,Bool.and_true];rfl
def aB(s:eG):List AV:=[.int .i64 s.size,an bO 3 s.aY]
theorem ew(s:eG):AV.cN (aB s)=true:=by simp [aB,AV.cN,AV.pure,bI sW]
theorem dH(s:eG):bE (aB s)=true:=by unfold aB;simp only [bE,mj,Bool.and_true];rfl
theorem rf(h:∀ j,j<n->p j=true):Im p n=true:=by
 rw [Im,List.all_eq_true];exact fun x hx=>h x (mem_range.1 hx)
theorem kK(hi:i<n)(h:p i=false):Im p n=false:=by
 rw [eq_false_iff];intro hh;rw [Im,List.all_eq_true] at hh;have:=hh i (mem_range.2 hi);rw [h] at this;cases this
theorem xC(h:Im p n=true)(hi:i<n):p i=true:=by
 rw [Im,List.all_eq_true] at h;exact h i (mem_range.2 hi)
theorem KT{k:Nat}{l:List (Sl Int)}{t:Sl Int}(h:nL n k l i=true)(ht:l[i]?=some t):t.l.length=k:=by
 unfold nL at h;rw [ht] at h;simp only [and_eq_true,decide_eq_true_eq] at h;exact h.1
theorem dL{n k:Nat}{r:Rel}(hr:r.ok)(ha:r.arity=(k:Int)){h:ag}{K:Out->ag->Bool}(hK:K (.ret (.bool (yT n k r.bW.l))) h=true):Sem TP 137 [.int .i64 (n:Int),.agg (bO r)] h K:=by
 refine Sem.data (r:=.bool (yT n k r.bW.l)) ?_ (by simp [AV.cN,AV.pure,sW]) hK;clear hK;refine F.Ca ?_;rw [F.DY];have b0:(ag.alloc ag.empty (.cells (bO r))).get 0=some (.cells (bO r)):=aD _ _;simp only [cG (kJ r),aq,bA];generalize (ag.alloc ag.empty (.cells (bO r)))=H at b0 ⊢;have fin:∀ b:Bool,b=yT n k r.bW.l->qm (.bool (yT n k r.bW.l)) (.ret (.bool b)) H=true:=fun b hb=>by rw [hb];exact c8 rfl
 simp only [aS,reduceAdd,reduceEqDiff,reduceIte,ai b0,bO];refine aG 0 r.bW.l.length (zero_le _) (fun i e h'=>h'=H/\e 0 = .int .i64 (n:Int)/\e 3 = .ptr 0 0/\e 8=an eu 1 r.bW/\e 9 = .int .i64 (r.bW.l.length:Int)/\e 10 = .int .i64 (i:Int)/\∀ j,j<i->nL n k r.bW.l j=true) ⟨rfl,rfl,rfl,rfl,rfl,rfl,fun j hj=>by omega⟩ ?_ ?_
 ·rintro i e h' _ hi ⟨rfl,e0,e3,e8,e9,jH,ht⟩ K' hn iY yx hp;have hv:r.bW.l[i]?=some r.bW.l[i]:=ec hi;generalize r.bW.l[i]=t at hv;have hto:t.l.length<=cu:=hr.2.2 t (iA hv)
  have bad:nL n k r.bW.l i=false->F.dL.cM (qm (.bool (yT n k r.bW.l))) .ret ⟨aa e 4 (.bool false),42,[],h'⟩=true:=fun hb=>by
   rw [F.dL.bt];simp only [bg,reduceEqDiff,reduceIte];exact fin _ (kK hi hb).symm
  rw [F.dL.aT];simp only [e0,e3,e8,e9,jH,aS,reduceAdd,reduceEqDiff,reduceIte,bl hi,aU r.bW hi,ke hv,ai b0,bO,ct,ha];by_cases h1:t.l.length=k
  ·simp only [ey (by omega:(t.l.length:Int)=(k:Int)),Bool.not_true,aE];refine aj (GK hto ?_);simp only [aS,reduceAdd,reduceEqDiff,reduceIte]
   cases h2:iJ n t.l with
   |false=>
    simp only [Bool.not_false,aF];rw [yx,F.dL.bt];simp only [bg,reduceEqDiff,reduceIte];exact fin _ (kK hi (by simp [nL,hv,h2])).symm
   |true=>
    simp only [Bool.not_true,aE]
    cases i with
    |zero=>
     simp only [show decide ((0:Int)<((0:Nat):Int))=false from rfl,aE,aK hi hr.2.1,aq];refine hn _ _ ⟨rfl,e0,e3,e8,e9,rfl,fun j hj=>?_⟩;obtain rfl:j=0:=by omega
     simp [nL,hv,h1,h2]
    |succ i=>
     have We:i<r.bW.l.length:=(by omega);have BG:r.bW.l[i]?=some r.bW.l[i]:=ec We;generalize r.bW.l[i]=p at BG;have mM:p.l.length=k:=KT (ht i (by omega)) BG;have zH:p.l.length<=cu:=hr.2.2 p (iA BG)
     have Ek:aL .sub (.int .i64 ((i+1:Nat):Int)) (.int .i64 1)=some (.int .i64 (i:Int)):=by
      have:=hr.2.1;unfold cu at this;rw [EH (by omega) (by omega)];congr 2;omega
     simp only [ey (by omega:(0:Int)<((i+1:Nat):Int)),aF,aS,reduceAdd,reduceEqDiff,reduceIte,e3,ai b0,bO,Ek,aU r.bW We,ke BG];refine aj (GM zH (by omega) fun c hc=>?_);simp only [aS,reduceAdd,reduceEqDiff,reduceIte,hc]
     cases h3:ji p.l t.l with
     |false=>
      simp only [Bool.not_false,aF];rw [yx,F.dL.bt];simp only [bg,reduceEqDiff,reduceIte];exact fin _ (kK hi (by simp [nL,hv,BG,h3])).symm
     |true=>
      simp only [Bool.not_true,aE,aK hi hr.2.1,aq];refine hn _ _ ⟨rfl,e0,e3,e8,e9,rfl,fun j hj=>?_⟩;by_cases Ki:j<i+1
      ·exact ht j Ki
      ·obtain rfl:j=i+1:=by omega
       simp [nL,hv,BG,h1,h2,h3]
  ·simp only [ep (by omega:¬ (t.l.length:Int)=(k:Int)),Bool.not_false,aF];rw [yx,F.dL.bt];simp only [bg,reduceEqDiff,reduceIte];exact fin _ (kK hi (by simp [nL,hv,h1])).symm
 ·rintro e h' ⟨rfl,e0,e3,e8,e9,jH,ht⟩ K' iY;rw [F.dL.aT];simp only [e9,jH,aS,reduceAdd,reduceEqDiff,reduceIte,aX];rw [iY,F.dL.aJ];exact fin _ (rf ht).symm
theorem gL{n:Nat}(h1:1<=n)(h2:n<=64){r:Rel}(hr:r.ok){h:ag}{K:Out->ag->Bool}(hK:K (.ret (.bool (oG n r))) h=true):Sem TP 60 [.int .i64 (n:Int),.agg (bO r)] h K:=by
 refine Sem.data (r:=.bool (oG n r)) ?_ (by simp [AV.cN,AV.pure,sW]) hK;clear hK;refine F.HX ?_;rw [F.KD];have b0:(ag.alloc ag.empty (.cells (bO r))).get 0=some (.cells (bO r)):=aD _ _;simp only [cG (kJ r),aq,bA];generalize (ag.alloc ag.empty (.cells (bO r)))=H at b0 ⊢;have fin:∀ b:Bool,b=oG n r->qm (.bool (oG n r)) (.ret (.bool b)) H=true:=fun b hb=>by rw [hb];exact c8 rfl
 simp only [aS,reduceAdd,reduceEqDiff,reduceIte,ai b0,bO];refine aj (fq ?_);simp only [aS,reduceAdd,reduceEqDiff,reduceIte]
 cases hn:eU r.name with
 |false=>simp only [Bool.not_false,aF];exact fin _ (by simp [oG,hn])
 |true=>
 simp only [Bool.not_true,aE,aS,reduceAdd,reduceEqDiff,reduceIte,ai b0,bO];by_cases ha:r.arity<0
 ·simp only [ey ha,aF];exact fin _ (by rw [oG,ep (by omega:¬ 0<=r.arity)];simp)
 simp only [ep ha,aE];by_cases Jl:12<r.arity
 ·simp only [ey Jl,aF];exact fin _ (by rw [oG,ep (by omega:¬ r.arity<=12)];simp)
 simp only [ep Jl,aE];obtain ⟨k,hk⟩:∃ k:Nat,r.arity=(k:Int):=⟨r.arity.toNat,by omega⟩
 rw [hk];refine aj (gK h1 h2 (show k<=cu by unfold cu;omega) fun v v1 v2=>?_);simp only [aS,reduceAdd,reduceEqDiff,reduceIte]
 have Hu:oG n r=(decide (n ^ k<=4096)&&yT n k r.bW.l):=by
  rw [oG,hn,ey (by omega:0<=r.arity),ey (by omega:r.arity<=12),hk];rfl
 replace fin:∀ b:Bool,b=(decide (n ^ k<=4096)&&yT n k r.bW.l)->qm (.bool (oG n r)) (.ret (.bool b)) H=true:=fun b hb=>fin b (hb.trans Hu.symm);by_cases hc:n ^ k<=4096
 ·have:=v1 hc;simp only [ep (by omega:¬ (4096:Int)<(v:Int)),aE];replace fin:∀ b:Bool,b=yT n k r.bW.l->qm (.bool (oG n r)) (.ret (.bool b)) H=true:=fun b hb=>fin b (by rw [ey hc,Bool.true_and];exact hb);refine aG 0 r.bW.l.length (zero_le _) (fun i e h'=>h'=H/\e 0 = .int .i64 (n:Int)/\e 3 = .ptr 0 0/\e 5 = .int .i64 (i:Int)/\∀ j,j<i->nL n k r.bW.l j=true) ⟨rfl,rfl,rfl,rfl,fun j hj=>by omega⟩ ?_ ?_
  ·rintro i e h' _ hi ⟨rfl,e0,e3,e5,ht⟩ K' hn iY yx hp;have hv:r.bW.l[i]?=some r.bW.l[i]:=ec hi;generalize r.bW.l[i]=t at hv;have hto:t.l.length<=cu:=hr.2.2 t (iA hv);rw [F.gL.aT];simp only [e0,e3,e5,aS,reduceAdd,reduceEqDiff,reduceIte,ai b0,bO,bl hi,aU r.bW hi,ke hv,ct,hk];by_cases q1:t.l.length=k
   ·simp only [ey (by omega:(t.l.length:Int)=(k:Int)),Bool.not_true,aE];refine aj (iN hto ?_);simp only [aS,reduceAdd,reduceEqDiff,reduceIte]
    cases q2:iJ n t.l with
    |false=>
     simp only [Bool.not_false,aF];rw [yx,F.gL.bt];simp only [bg,reduceEqDiff,reduceIte];exact fin _ (kK hi (by simp [nL,hv,q2])).symm
    |true=>
     simp only [Bool.not_true,aE]
     cases i with
     |zero=>
      simp only [show decide ((0:Int)<((0:Nat):Int))=false from rfl,aE,aK hi hr.2.1,aq];refine hn _ _ ⟨rfl,e0,e3,rfl,fun j hj=>?_⟩;obtain rfl:j=0:=by omega
      simp [nL,hv,q1,q2]
     |succ i=>
      have We:i<r.bW.l.length:=(by omega);have BG:r.bW.l[i]?=some r.bW.l[i]:=ec We;generalize r.bW.l[i]=p at BG;have mM:p.l.length=k:=KT (ht i (by omega)) BG;have zH:p.l.length<=cu:=hr.2.2 p (iA BG)
      have Ek:aL .sub (.int .i64 ((i+1:Nat):Int)) (.int .i64 1)=some (.int .i64 (i:Int)):=by
       have:=hr.2.1;unfold cu at this;rw [EH (by omega) (by omega)];congr 2;omega
      simp only [ey (by omega:(0:Int)<((i+1:Nat):Int)),aF,aS,reduceAdd,reduceEqDiff,reduceIte,e3,e5,ai b0,bO,Ek,aU r.bW We,aU r.bW hi,ke BG,ke hv];refine aj (gE zH (by omega) ?_);simp only [aS,reduceAdd,reduceEqDiff,reduceIte]
      cases q3:ji p.l t.l with
      |false=>
       simp only [Bool.not_false,aF];rw [yx,F.gL.bt];simp only [bg,reduceEqDiff,reduceIte];exact fin _ (kK hi (by simp [nL,hv,BG,q3])).symm
      |true=>
       simp only [Bool.not_true,aE,aK hi hr.2.1,aq];refine hn _ _ ⟨rfl,e0,e3,rfl,fun j hj=>?_⟩;by_cases Ki:j<i+1
       ·exact ht j Ki
       ·obtain rfl:j=i+1:=by omega
        simp [nL,hv,BG,q1,q2,q3]
   ·simp only [ep (by omega:¬ (t.l.length:Int)=(k:Int)),Bool.not_false,aF];rw [yx,F.gL.bt];simp only [bg,reduceEqDiff,reduceIte];exact fin _ (kK hi (by simp [nL,hv,q1])).symm
  ·rintro e h' ⟨rfl,e0,e3,e5,ht⟩ K' iY;rw [F.gL.aT];simp only [e3,e5,aS,reduceAdd,reduceEqDiff,reduceIte,ai b0,bO,aX];rw [iY,F.gL.aJ];exact fin _ (rf ht).symm
 ·have:=v2 (by omega);simp only [ey (by omega:(4096:Int)<(v:Int)),aF];exact fin _ (by rw [ep hc];rfl)
def xD{α:Type}(p:α->Bool):List α->Nat->Int
 |[],_=>-1
 |x :: l,i=>if p x=true then (i:Int) else xD p l (i+1)
def ny{α:Type}(p:α->Bool)(l:List α):Int:=xD p l 0
theorem M5{p:α->Bool}{l:List α}{v:α}(hv:l[i]?=some v):xD p (l.drop i) i=if p v=true then (i:Int) else xD p (l.drop (i+1)) (i+1):=by
 have h1:=(oB.1 hv).1;rw [drop_eq_getElem_cons h1];rw [ec h1] at hv;cases hv;rfl
theorem Jm{α:Type}(p:α->Bool):∀ (l:List α) (i:Nat),decide (0<=xD p l i)=l.any p
 |[],i=>rfl
 |x :: l,i=>by
  rw [xD,any_cons]
  cases hp:p x with
  |true=>simp
  |false=>simpa using Jm p l (i+1)
theorem O6(p:α->Bool)(l:List α):decide (0<=ny p l)=l.any p:=Jm p l 0
theorem zj{x:AV}{l:List Rel}(hv:View bO 3 x l)(hl:l.length<=cu){a b:List AV}{p:Rel->Bool}
  (hp:∀ (v:Rel) (h':ag),bG h h'->∀ (K:Out->ag->Bool),(∀ Tz,bG h' Tz->K (.ret (.bool (p v))) Tz=true)->Sem TP g (a++([.agg (bO v)]++b)) h' K)
  (hK:∀ h',bG h h'->K (.ret (.int .i64 (ny p l))) h'=true):Sem TP 140 [x,.func g a b] h K:=by
 refine F.lT ?_;rw [F.mq];simp only [hv.len,aq];refine aG 0 l.length (zero_le _) (fun i e h'=>bG h h'/\e 0=x/\e 1 = .func g a b/\e 7 = .int .i64 (l.length:Int)/\e 8 = .int .i64 (i:Int)/\ny p l=xD p (l.drop i) i) ⟨bG.refl _,rfl,rfl,rfl,rfl,rfl⟩ ?_ ?_
 ·rintro i e h' _ hi ⟨hx,e0,e1,e7,e8,ht⟩ K' hn iY hr vK;have YA:l[i]?=some l[i]:=ec hi;generalize l[i]=v at YA;obtain ⟨cs,o,v1,v2,_⟩:=hv.at_ i v YA;rw [M5 YA] at ht;rw [F.bJ.aT];simp only [e0,e1,e7,e8,aS,reduceAdd,reduceEqDiff,reduceIte,bl hi,v1,v2,ju];refine aj (hp v h' hx _ fun Tz iu=>?_);simp only [aS,reduceAdd,reduceEqDiff,reduceIte]
  cases hq:p v with
  |true=>
   simp only [aF];rw [hr,F.bJ.bt];simp only [bg,reduceEqDiff,reduceIte];rw [if_pos hq] at ht;rw [ht] at hK;exact hK _ (hx.trans iu)
  |false=>
   simp only [aE,aK hi hl,aq];rw [if_neg (by rw [hq];decide)] at ht;exact hn _ _ ⟨hx.trans iu,e0,e1,e7,rfl,ht⟩
 ·rintro e h' ⟨hx,e0,e1,e7,e8,ht⟩ K' iY;rw [F.bJ.aT];simp only [e0,e1,e7,e8,aS,reduceAdd,reduceEqDiff,reduceIte,aX];rw [iY,F.bJ.aJ];rw [drop_of_length_le (dK _)] at ht;rw [ht] at hK;exact hK _ hx
theorem Cv{x:AV}{l:List Rel}(hv:View bO 3 x l)(hl:l.length<=cu){a b:List AV}{p:Rel->Bool}
  (hp:∀ (v:Rel) (h':ag),bG h h'->∀ (K:Out->ag->Bool),(∀ Tz,bG h' Tz->K (.ret (.bool (p v))) Tz=true)->Sem TP g (a++([.agg (bO v)]++b)) h' K)
  (hK:∀ h',bG h h'->K (.ret (.bool (l.any p))) h'=true):Sem TP 138 [x,.func g a b] h K:=by
 refine F.kO ?_;rw [F.kY];refine aj (zj hv hl hp fun h' hx=>?_);simp only [aS,reduceAdd,reduceEqDiff,reduceIte];rw [O6];exact hK _ hx
theorem QU{s:eG}{r:Rel}(hr:s.aY.l[i]?=some r):ah (some 3) (.dI (s.aY.l.flatMap bO) (i*3)) h=some (.agg (bO r)):=cX iE hr
theorem YB{r v:Rel}(hb:h.get b=some (.cells (bO r)))(IJ:b<h.next)(h':ag)(hx:bG h h')(K:Out->ag->Bool)(hK:∀ Tz,bG h' Tz->K (.ret (.bool (v.name==r.name))) Tz=true) :
  Sem TP 139 ([]++([.agg (bO v)]++[.ptr b 0])) h' K:=by
 refine F.A1 ?_;rw [F.Cb];have fY:h'.get b=some (.cells (bO r)):=by rw [hx.get b IJ];exact hb
 have iu:bG h' (ag.alloc h' (.cells (bO v))):=bG.alloc _ _;have g0:(ag.alloc h' (.cells (bO v))).get h'.next=some (.cells (bO v)):=aD _ _
 have g1:(ag.alloc h' (.cells (bO v))).get b=some (.cells (bO r)):=by rw [iu.get b (Nat.lt_of_lt_of_le IJ hx.next)];exact fY
 simp only [cG (kJ v),aq];generalize (ag.alloc h' (.cells (bO v)))=H at g0 g1 iu ⊢;simp only [aS,reduceAdd,reduceEqDiff,reduceIte,ai g0,ai g1];rw [show (bO v)[0]?=some (.str v.name) from rfl,show (bO r)[0]?=some (.str r.name) from rfl];simp only [aS,reduceAdd,reduceEqDiff,reduceIte];exact hK _ iu
theorem fe{s:eG}(hs:s.ok){h:ag}{K:Out->ag->Bool}(hK:K (.ret (.bool (dU s))) h=true):Sem TP 87 [.agg (aB s)] h K:=by
 refine Sem.data (r:=.bool (dU s)) ?_ (by simp [AV.cN,AV.pure,ew]) hK;clear hK;refine F.DV ?_;rw [F.FZ];have b0:(ag.alloc ag.empty (.cells (aB s))).get 0=some (.cells (aB s)):=aD _ _;have bn:1<=(ag.alloc ag.empty (.cells (aB s))).next:=dK _
 simp only [cG (dH s),aq,bA];generalize (ag.alloc ag.empty (.cells (aB s)))=H at b0 bn ⊢;have fin:∀ (b:Bool) (H:ag),b=dU s->qm (.bool (dU s)) (.ret (.bool b)) H=true:=fun b H hb=>by rw [hb];exact c8 rfl
 generalize qm (.bool (dU s))=K at fin ⊢;simp only [aS,reduceAdd,reduceEqDiff,reduceIte,ai b0,aB];by_cases s1:s.size<1
 ·simp only [ey s1,aF];exact fin _ _ (by rw [dU,ep (by omega:¬ 1<=s.size),Bool.false_and])
 simp only [ep s1,aE];by_cases s2:64<s.size
 ·simp only [ey s2,aF];exact fin _ _ (by rw [dU,ep (by omega:¬ s.size<=64),Bool.false_and,Bool.and_false])
 simp only [ep s2,aE];by_cases s3:8<s.aY.l.length
 ·simp only [ey (by omega:(8:Int)<(s.aY.l.length:Int)),aF];exact fin _ _ (by rw [dU,ep (by omega:¬ s.aY.l.length<=8),Bool.false_and,Bool.and_false,Bool.and_false])
 simp only [ep (by omega:¬ (8:Int)<(s.aY.l.length:Int)),aE]
 replace fin:∀ (b:Bool) (H:ag),b=Im (rT s) s.aY.l.length->K (.ret (.bool b)) H=true:=fun b H hb=>fin b H (by
  rw [dU,ey (by omega:1<=s.size),ey (by omega:s.size<=64),ey (by omega:s.aY.l.length<=8)];exact hb)
 obtain ⟨n,hn⟩:∃ n:Nat,s.size=(n:Int):=⟨s.size.toNat,by omega⟩
 have wj:s.size.toNat=n:=by omega
 refine aG 0 s.aY.l.length (zero_le _) (fun i e h'=>h'.get 0=some (.cells (aB s))/\1<=h'.next/\e 1 = .ptr 0 0/\e 20=an bO 3 s.aY/\e 21 = .int .i64 (s.aY.l.length:Int)/\e 22 = .int .i64 (i:Int)/\∀ j,j<i->rT s j=true) ⟨b0,bn,rfl,rfl,rfl,rfl,fun j hj=>by omega⟩ ?_ ?_
 ·rintro i e h' _ hi ⟨q0,qn,e1,Be,Ik,KJ,ht⟩ K' oA iY yx hp;have hv:s.aY.l[i]?=some s.aY.l[i]:=ec hi;generalize s.aY.l[i]=r at hv;have Vb:r.ok:=hs.2 r (iA hv);have u0:rT s i=(oG n r&&!((s.aY.l.take i).any fun q=>q.name==r.name)):=by rw [rT,hv,wj]
  have bad:∀ (e:Env) (h:ag),rT s i=false->e 2 = .bool false->F.fe.cM K .ret ⟨e,63,[],h⟩=true:=fun e h hb he=>by
   rw [F.fe.bt,he];exact fin _ _ (kK hi hb).symm
  obtain ⟨H,ic,g1,go,gn⟩:=cR (h:=h') (zs:=[.str [],.int .i64 0,.au]) (cs:=bO r) (n:=3) rfl rfl (kJ r);have p0:H.get 0=some (.cells (aB s)):=by rw [go _ (by omega)];exact q0
  rw [F.fe.aT];simp only [e1,Be,Ik,KJ,aS,reduceAdd,reduceEqDiff,reduceIte,bl hi,aU s.aY hi,QU hv,ic,ai g1,cQ (iE r)];rw [show (bO r)[0]?=some (.str r.name) from rfl];simp only [aS,reduceAdd,reduceEqDiff,reduceIte];refine aj (eS ?_);simp only [aS,reduceAdd,reduceEqDiff,reduceIte]
  cases w1:eU r.name with
  |false=>
   simp only [Bool.not_false,aF];rw [yx];exact bad _ _ (by rw [u0,oG,w1];simp) rfl
  |true=>
  simp only [Bool.not_true,aE,aS,reduceAdd,reduceEqDiff,reduceIte,ai g1];rw [show (bO r)[1]?=some (.int .i64 r.arity) from rfl];simp only [aS,reduceAdd,reduceEqDiff,reduceIte];by_cases w2:r.arity<0
  ·simp only [ey w2,aF];rw [yx];exact bad _ _ (by rw [u0,oG,ep (by omega:¬ 0<=r.arity)];simp) rfl
  simp only [ep w2,aE];by_cases w3:12<r.arity
  ·simp only [ey w3,aF];rw [yx];exact bad _ _ (by rw [u0,oG,ep (by omega:¬ r.arity<=12)];simp) rfl
  simp only [ep w3,aE,ai p0,aS,reduceAdd,reduceEqDiff,reduceIte,e1];rw [show (aB s)[0]?=some (.int .i64 s.size) from rfl];obtain ⟨k,hk⟩:∃ k:Nat,r.arity=(k:Int):=⟨r.arity.toNat,by omega⟩
  simp only [aS,reduceAdd,reduceEqDiff,reduceIte,hn,hk];refine aj (ff (by omega) (by omega) (show k<=cu by unfold cu;omega) ?_);simp only [aS,reduceAdd,reduceEqDiff,reduceIte]
  have YC:rT s i=(decide (n ^ k<=4096)&&yT n k r.bW.l&&!((s.aY.l.take i).any fun q=>q.name==r.name)):=by
   rw [u0,oG,w1,ey (by omega:0<=r.arity),ey (by omega:r.arity<=12),hk];simp
  by_cases w4:n ^ k<=4096
  ·simp only [O4,if_pos w4,ep (by omega:¬ ((n ^ k:Nat):Int)<0),aE,aS,reduceAdd,reduceEqDiff,reduceIte,ai p0,ai g1,cQ (iE r),e1];rw [show (aB s)[0]?=some (.int .i64 s.size) from rfl];simp only [aS,reduceAdd,reduceEqDiff,reduceIte,hn];refine aj (dL Vb hk ?_);simp only [aS,reduceAdd,reduceEqDiff,reduceIte]
   cases w5:yT n k r.bW.l with
   |false=>
    simp only [Bool.not_false,aF];rw [yx];exact bad _ _ (by rw [YC,w5];simp) rfl
   |true=>
   simp only [Bool.not_true,aE,aS,reduceAdd,reduceEqDiff,reduceIte,ai p0,e1];rw [show (aB s)[1]?=some (an bO 3 s.aY) from rfl];obtain ⟨a,ha,hva⟩:=Sg iE s.aY (Nat.le_of_lt hi);simp only [aS,reduceAdd,reduceEqDiff,reduceIte,ha];have eM:(s.aY.l.take i).length<=cu:=by rw [length_take];have:=hs.1;omega
   refine aj (Cv (p:=fun q=>q.name==r.name) hva eM (fun v h2 iu K2 Tt=>YB g1 (by omega) h2 iu K2 Tt) fun h2 iu=>?_);simp only [aS,reduceAdd,reduceEqDiff,reduceIte]
   cases w6:(s.aY.l.take i).any fun q=>q.name==r.name with
   |true=>
    simp only [aF];rw [yx];exact bad _ _ (by rw [YC,w6];simp) rfl
   |false=>
    simp only [aE,aK hi hs.1,aq,KJ];refine oA _ _ ⟨by rw [iu.get 0 (by omega)];exact p0,by have:=iu.next;omega,e1,Be,Ik,rfl,fun j hj=>?_⟩;by_cases Ki:j<i
    ·exact ht j Ki
    ·obtain rfl:j=i:=by omega
     rw [YC,w5,w6,ey w4];rfl
  ·simp only [O4,if_neg w4,ey (by omega:(-1:Int)<0),aF];rw [yx];exact bad _ _ (by rw [YC,ep w4];simp) rfl
 ·rintro e h' ⟨q0,qn,e1,Be,Ik,KJ,ht⟩ K' iY;rw [F.fe.aT];simp only [Ik,KJ,aS,reduceAdd,reduceEqDiff,reduceIte,aX];rw [iY,F.fe.aJ];exact fin _ _ (rf ht).symm
theorem Vc{p:α->Bool}{l:List α}{k:Nat}{a:α}(ha:l[i]?=some a)(hi:i<k)(hp:p a=true):(l.take k).any p=true:=by
 rw [List.any_eq_true];exact ⟨a,iA (by rw [getElem?_take_of_lt hi];exact ha),hp⟩
theorem rY{s:eG}{r:Rel}(hr:s.aY.l[i]?=some r):ah none (.dI (s.aY.l.flatMap bO) (i*3)) h=some (.str r.name):=by
 have:=fE (h:=h) iE hr (k:=0) (by omega);rw [Nat.add_zero] at this;rw [this];rfl
theorem cy{s:eG}(hs:s.ok){h:ag}{K:Out->ag->Bool}(hK:K (.ret (.bool (dU s))) h=true):Sem TP 17 [.agg (aB s)] h K:=by
 refine Sem.data (r:=.bool (dU s)) ?_ (by simp [AV.cN,AV.pure,ew]) hK;clear hK;refine F.DU ?_;rw [F.FU];have b0:(ag.alloc ag.empty (.cells (aB s))).get 0=some (.cells (aB s)):=aD _ _;simp only [cG (dH s),aq,bA];generalize (ag.alloc ag.empty (.cells (aB s)))=H at b0 ⊢;have fin:∀ (b:Bool),b=dU s->qm (.bool (dU s)) (.ret (.bool b)) H=true:=fun b hb=>by rw [hb];exact c8 rfl
 generalize qm (.bool (dU s))=K at fin ⊢;have ls:ah none (.ptr 0 0) H=some (.int .i64 s.size):=by rw [ai b0];rfl
 have lr:ah none (.ptr 0 (0+1)) H=some (an bO 3 s.aY):=by rw [ai b0];rfl
 rw [Nat.zero_add] at lr;simp only [aS,reduceAdd,reduceEqDiff,reduceIte,ls,lr];by_cases s1:s.size<1
 ·simp only [ey s1,aF];exact fin _ (by rw [dU,ep (by omega:¬ 1<=s.size),Bool.false_and])
 simp only [ep s1,aE];by_cases s2:64<s.size
 ·simp only [ey s2,aF];exact fin _ (by rw [dU,ep (by omega:¬ s.size<=64),Bool.false_and,Bool.and_false])
 simp only [ep s2,aE];by_cases s3:8<s.aY.l.length
 ·simp only [ey (by omega:(8:Int)<(s.aY.l.length:Int)),aF];exact fin _ (by rw [dU,ep (by omega:¬ s.aY.l.length<=8),Bool.false_and,Bool.and_false,Bool.and_false])
 simp only [ep (by omega:¬ (8:Int)<(s.aY.l.length:Int)),aE]
 replace fin:∀ (b:Bool),b=Im (rT s) s.aY.l.length->K (.ret (.bool b)) H=true:=fun b hb=>fin b (by
  rw [dU,ey (by omega:1<=s.size),ey (by omega:s.size<=64),ey (by omega:s.aY.l.length<=8)];exact hb)
 obtain ⟨n,hn⟩:∃ n:Nat,s.size=(n:Int):=⟨s.size.toNat,by omega⟩
 have wj:s.size.toNat=n:=by omega
 rw [hn] at ls;refine aG 0 s.aY.l.length (zero_le _) (fun i e h'=>h'=H/\e 1 = .ptr 0 0/\e 3 = .int .i64 (i:Int)/\∀ j,j<i->rT s j=true) ⟨rfl,rfl,rfl,fun j hj=>by omega⟩ ?_ ?_
 ·rintro i e h' _ hi ⟨rfl,e1,e3,ht⟩ K' oA iY yx hp;have hv:s.aY.l[i]?=some s.aY.l[i]:=ec hi;generalize s.aY.l[i]=r at hv;have Vb:r.ok:=hs.2 r (iA hv);have u0:rT s i=(oG n r&&!((s.aY.l.take i).any fun q=>q.name==r.name)):=by rw [rT,hv,wj]
  have bad:∀ (e:Env),rT s i=false->e 2 = .bool false->F.cy.cM K .ret ⟨e,53,[],h'⟩=true:=fun e hb he=>by
   rw [F.cy.bt,he];exact fin _ (kK hi hb).symm
  rw [F.cy.aT];simp only [e1,e3,aS,reduceAdd,reduceEqDiff,reduceIte,ls,lr,bl hi,aU s.aY hi,QU hv];refine aj (gL (by omega) (by omega) Vb ?_);simp only [aS,reduceAdd,reduceEqDiff,reduceIte]
  cases w1:oG n r with
  |false=>
   simp only [Bool.not_false,aF];rw [yx];exact bad _ (by rw [u0,w1,Bool.false_and]) rfl
  |true=>
  simp only [Bool.not_true,aE];refine aG 0 i (zero_le _) (fun k e h2=>h2=h'/\e 1 = .ptr 0 0/\e 3 = .int .i64 (i:Int)/\e 4 = .int .i64 (k:Int)/\((s.aY.l.take k).any fun q=>q.name==r.name)=false) ⟨rfl,e1,e3,rfl,rfl⟩ ?_ ?_
  ·rintro k e h2 _ hk ⟨rfl,e1,e3,e4,hk2⟩ K2 qM iu vL Il;have hki:k<s.aY.l.length:=by omega
   have hvk:s.aY.l[k]?=some s.aY.l[k]:=ec hki;generalize s.aY.l[k]=q at hvk;rw [F.cy.eC];simp only [e1,e3,e4,aS,reduceAdd,reduceEqDiff,reduceIte,lr,bl hk,aU s.aY hi,aU s.aY hki,rY hv,rY hvk]
   cases w2:q.name==r.name with
   |true=>
    simp only [aF];rw [vL,F.cy.k9,yx];exact bad _ (by rw [u0,Vc hvk hk w2];simp) rfl
   |false=>
    simp only [aE,aK hk (by have:=hs.1;omega),aq];exact qM _ _ ⟨rfl,e1,e3,rfl,xg hvk hk2 w2⟩
  ·rintro e h2 ⟨rfl,e1,e3,e4,hk2⟩ K2 iu;rw [F.cy.eC];simp only [e3,e4,aS,reduceAdd,reduceEqDiff,reduceIte,aX];rw [iu,F.cy.cZ];simp only [aS,reduceAdd,reduceEqDiff,reduceIte,e3,aK hi hs.1];refine oA _ _ ⟨rfl,e1,rfl,fun j hj=>?_⟩;by_cases Ki:j<i
   ·exact ht j Ki
   ·obtain rfl:j=i:=by omega
    rw [u0,w1,hk2];rfl
 ·rintro e h' ⟨rfl,e1,e3,ht⟩ K' iY;rw [F.cy.aT];simp only [e1,e3,aS,reduceAdd,reduceEqDiff,reduceIte,lr,aX];rw [iY,F.cy.aJ];exact fin _ (rf ht).symm
def nC(nm:bQ)(k:Int)(q:Rel):Bool:=(q.name==nm)&&decide (q.arity=k)
def eX(nm:bQ)(q:Rel):Bool:=q.name==nm
theorem fI{s:eG}(hs:s.ok){nm:bQ}{h:ag}{K:Out->ag->Bool}(hK:K (.ret (.int .i64 (ny (eX nm) s.aY.l))) h=true):Sem TP 54 [.agg (aB s),.str nm] h K:=by
 refine Sem.data (r:=.int .i64 (ny (eX nm) s.aY.l)) ?_ (by simp [AV.cN,AV.pure,ew]) hK;clear hK;refine F.FY ?_;rw [F.HU];have b0:(ag.alloc ag.empty (.cells (aB s))).get 0=some (.cells (aB s)):=aD _ _;simp only [cG (dH s),aq,bA];generalize (ag.alloc ag.empty (.cells (aB s)))=H at b0 ⊢;have fin:∀ b:Int,b=ny (eX nm) s.aY.l->qm (.int .i64 (ny (eX nm) s.aY.l)) (.ret (.int .i64 b)) H=true:=fun b hb=>by rw [hb];exact c8 rfl
 have lr:ah none (.ptr 0 1) H=some (an bO 3 s.aY):=by rw [ai b0];rfl
 refine aG 0 s.aY.l.length (zero_le _) (fun i e h'=>h'=H/\e 1 = .str nm/\e 2 = .ptr 0 0/\e 5 = .int .i64 (i:Int)/\ny (eX nm) s.aY.l=xD (eX nm) (s.aY.l.drop i) i) ⟨rfl,rfl,rfl,rfl,rfl⟩ ?_ ?_
 ·rintro i e h' _ hi ⟨rfl,e1,e2,e5,ht⟩ K' hn iY hr hp;have hv:s.aY.l[i]?=some s.aY.l[i]:=ec hi;generalize s.aY.l[i]=r at hv;rw [M5 hv] at ht;rw [F.fI.aT];simp only [e1,e2,e5,aS,reduceAdd,reduceEqDiff,reduceIte,lr,bl hi,aU s.aY hi,rY hv]
  cases hq:r.name==nm with
  |true=>
   simp only [aF];rw [hr,F.fI.bt];rw [if_pos (show eX nm r=true from hq)] at ht;simp only [bg,reduceEqDiff,reduceIte,e5];exact fin _ ht.symm
  |false=>
   simp only [aE,aK hi hs.1,aq];rw [if_neg (by rw [eX,hq];decide)] at ht;exact hn _ _ ⟨rfl,e1,e2,rfl,ht⟩
 ·rintro e h' ⟨rfl,e1,e2,e5,ht⟩ K' iY;rw [F.fI.aT];simp only [e1,e2,e5,aS,reduceAdd,reduceEqDiff,reduceIte,lr,aX];rw [iY,F.fI.aJ];rw [drop_of_length_le (dK _)] at ht;exact fin _ ht.symm
theorem aba{b1 b2:Nat}{v:Rel}{k:Int}(g1:h.get b1=some (.cells [.str nm]))(g2:h.get b2=some (.cells [.int .i64 k]))(n1:b1<h.next)(n2:b2<h.next)(h':ag)(hx:bG h h')(K:Out->ag->Bool)(hK:∀ Tz,bG h' Tz->K (.ret (.bool (nC nm k v))) Tz=true) :
  Sem TP 141 ([]++([.agg (bO v)]++[.ptr b1 0,.ptr b2 0])) h' K:=by
 refine F.Cc ?_;rw [F.DZ];have iu:bG h' (ag.alloc h' (.cells (bO v))):=bG.alloc _ _;have g0:(ag.alloc h' (.cells (bO v))).get h'.next=some (.cells (bO v)):=aD _ _
 have q1:(ag.alloc h' (.cells (bO v))).get b1=some (.cells [.str nm]):=by rw [iu.get b1 (Nat.lt_of_lt_of_le n1 hx.next),hx.get b1 n1];exact g1
 have q2:(ag.alloc h' (.cells (bO v))).get b2=some (.cells [.int .i64 k]):=by rw [iu.get b2 (Nat.lt_of_lt_of_le n2 hx.next),hx.get b2 n2];exact g2
 simp only [cG (kJ v),aq];generalize (ag.alloc h' (.cells (bO v)))=H at g0 q1 q2 iu ⊢;simp only [aS,reduceAdd,reduceEqDiff,reduceIte,ai g0,ai q1,ai q2];rw [show (bO v)[0]?=some (.str v.name) from rfl,show (bO v)[1]?=some (.int .i64 v.arity) from rfl];simp only [aS,reduceAdd,reduceEqDiff,reduceIte,ct];have:=hK _ iu;unfold nC at this
 cases hq:v.name==nm with
 |true=>simp only [aF];rw [hq,Bool.true_and] at this;exact this
 |false=>simp only [aE];rw [hq,Bool.false_and] at this;exact this
theorem O7{s:eG}(hs:s.ok){k:Int}(hK:K (.ret (.int .i64 (ny (nC nm k) s.aY.l))) h=true):Sem TP 88 [.agg (aB s),.str nm,.int .i64 k] h K:=by
 refine Sem.data (r:=.int .i64 (ny (nC nm k) s.aY.l)) ?_ (by simp [AV.cN,AV.pure,ew]) hK;clear hK;refine F.F5 ?_;rw [F.HW];simp only [cG (dH s),uJ (x:=.int .i64 _) rfl,uJ (x:=.str _) rfl,aq,bA,ag.aV];have g0:(ag.alloc (ag.alloc (ag.alloc ag.empty (.cells (aB s))) (.cells [.str nm])) (.cells [.int .i64 k])).get 0=some (.cells (aB s)):=by simp [ag.aW,bA]
 have g1:(ag.alloc (ag.alloc (ag.alloc ag.empty (.cells (aB s))) (.cells [.str nm])) (.cells [.int .i64 k])).get 1=some (.cells [.str nm]):=by simp [ag.aW,bA]
 have g2:(ag.alloc (ag.alloc (ag.alloc ag.empty (.cells (aB s))) (.cells [.str nm])) (.cells [.int .i64 k])).get 2=some (.cells [.int .i64 k]):=by simp [ag.aW,bA]
 have gn:(ag.alloc (ag.alloc (ag.alloc ag.empty (.cells (aB s))) (.cells [.str nm])) (.cells [.int .i64 k])).next=3:=rfl
 generalize (ag.alloc (ag.alloc (ag.alloc ag.empty (.cells (aB s))) (.cells [.str nm])) (.cells [.int .i64 k]))=H at g0 g1 g2 gn ⊢;have lr:ah none (.ptr 0 1) H=some (an bO 3 s.aY):=by rw [ai g0];rfl
 simp only [aS,reduceAdd,reduceEqDiff,reduceIte,lr];refine aj (zj (Va iE s.aY) hs.1 (p:=nC nm k) (fun v h2 iu K2 Tt=>aba g1 g2 (by omega) (by omega) h2 iu K2 Tt) fun h2 iu=>?_);simp only [aS,reduceAdd,reduceEqDiff,reduceIte];exact c8 rfl
theorem ua{s:eG}{r:Rel}(hr:s.aY.l[i]?=some r):ah none (.dI (s.aY.l.flatMap bO) (i*3+2)) h=some (an eu 1 r.bW):=by
 rw [fE iE hr (by omega)];rfl
theorem cq{s:eG}(hs:s.ok){b:Nat}{h:ag}(hb:h.get b=some (.cells (aB s))){K:Out->ag->Bool}(hK:∀ x,K (.ret (.bool x)) h=true):Sem TP 43 [.slice b 0 1 2] h K:=by
 refine F.HR ?_;rw [F.KB];have lr:ah none (.ptr b 1) h=some (an bO 3 s.aY):=by rw [ai hb];rfl
 have ia:dg 2 (.slice b 0 1 2) (.int .i64 ((0:Nat):Int))=some (.ptr b 0):=rfl;have hl:∀ h:ag,b6 .slice (.slice b 0 1 2) h=some (.int .i64 ((1:Nat):Int)):=fun _=>rfl
 have num:∀ e:Env,(∃ x:Int,e 4 = .int .i64 x)->F.cq.cM K (.exit 0) ⟨e,89,[],h⟩=true:=fun e ⟨x,hx⟩=>by
  rw [F.cq.aJ];simp only [hx,aS,reduceAdd,reduceEqDiff,reduceIte];exact hK _
 refine aG 0 1 (zero_le _) (fun i e h'=>h'=h/\e 0 = .slice b 0 1 2/\(∃ x:Int,e 3 = .int .i64 x)/\(∃ x:Int,e 4 = .int .i64 x)/\e 5 = .int .i64 (i:Int)) ⟨rfl,rfl,⟨0,rfl⟩,⟨0,rfl⟩,rfl⟩ ?_ ?_
 ·rintro i e h' _ hi ⟨rfl,e0,e3,e4,e5⟩ K' hn hx hr hp;obtain rfl:i=0:=by omega
  rw [F.cq.aT];simp only [e0,e5,hl,ia,lr,aS,reduceAdd,reduceEqDiff,reduceIte,bl hi];by_cases q1:12<s.aY.l.length
  ·simp only [ey (by omega:(12:Int)<(s.aY.l.length:Int)),aF];rw [hr,F.cq.bt];simp only [bg,reduceEqDiff,reduceIte];exact hK _
  simp only [ep (by omega:¬ (12:Int)<(s.aY.l.length:Int)),aE];refine aG 0 s.aY.l.length (zero_le _) (fun k e h2=>h2=h'/\e 0 = .slice b 0 1 2/\(∃ x:Int,e 3 = .int .i64 x)/\(∃ x:Int,e 4 = .int .i64 x)/\e 5 = .int .i64 ((0:Nat):Int)/\e 6 = .int .i64 (k:Int)) ⟨rfl,e0,e3,e4,e5,rfl⟩ ?_ ?_
  ·rintro k e h2 _ hk ⟨rfl,e0,⟨x3,e3⟩,e4,e5,e6⟩ K2 qM iu vL Il;have hv:s.aY.l[k]?=some s.aY.l[k]:=ec hk;generalize s.aY.l[k]=r at hv;have Vb:r.ok:=hs.2 r (iA hv);obtain ⟨y,hy⟩:=Uz x3 (r.bW.l.length:Int)
   have ret:∀ e:Env,e 2 = .bool false->F.cq.mO K' .ret ⟨e,89,[],h2⟩=true:=fun e he=>by
    rw [F.cq.k9,hr,F.cq.bt,he];exact hK _
   rw [F.cq.eC];simp only [e0,e3,e5,e6,ia,lr,aS,reduceAdd,reduceEqDiff,reduceIte,bl hk,aU s.aY hk,ua hv,rY hv,hy]
   cases decide ((1500:Int)<y) with
   |true=>
    simp only [aF];rw [vL];exact ret _ rfl
   |false=>
   simp only [aE]
   cases decide ((1000:Int)<(r.name.length:Int)) with
   |true=>
    simp only [aF];rw [vL];exact ret _ rfl
   |false=>
   simp only [aE];refine aG 0 r.bW.l.length (zero_le _) (fun j e h3=>h3=h2/\e 0 = .slice b 0 1 2/\(∃ x:Int,e 3 = .int .i64 x)/\(∃ x:Int,e 4 = .int .i64 x)/\e 5 = .int .i64 ((0:Nat):Int)/\e 6 = .int .i64 (k:Int)/\e 7 = .int .i64 (j:Int)) ⟨rfl,e0,⟨y,rfl⟩,e4,e5,e6,rfl⟩ ?_ ?_
   ·rintro j e h3 _ hj ⟨rfl,e0,e3,⟨x4,e4⟩,e5,e6,e7⟩ K3 Vd Iq Wd hp3;have ht:r.bW.l[j]?=some r.bW.l[j]:=ec hj;generalize r.bW.l[j]=t at ht;obtain ⟨z,hz⟩:=Uz x4 (t.l.length:Int);rw [F.cq.kE];simp only [e0,e4,e5,e6,e7,ia,lr,aS,reduceAdd,reduceEqDiff,reduceIte,aU s.aY hk,ua hv,bl hj,aU r.bW hj,ke ht,hz,aK hj Vb.2.1];exact Vd _ _ ⟨rfl,e0,e3,⟨z,rfl⟩,e5,e6,rfl⟩
   ·rintro e h3 ⟨rfl,e0,e3,e4,e5,e6,e7⟩ K3 Iq;rw [F.cq.kE];simp only [e0,e5,e6,e7,ia,lr,aS,reduceAdd,reduceEqDiff,reduceIte,aU s.aY hk,ua hv,aX];rw [Iq,F.cq.iM];simp only [aS,reduceAdd,reduceEqDiff,reduceIte,e6,aK hk hs.1];exact qM _ _ ⟨rfl,e0,e3,e4,e5,rfl⟩
  ·rintro e h2 ⟨rfl,e0,e3,e4,e5,e6⟩ K2 iu;rw [F.cq.eC];simp only [e0,e5,e6,ia,lr,aS,reduceAdd,reduceEqDiff,reduceIte,aX];rw [iu,F.cq.cZ];simp only [aS,reduceAdd,reduceEqDiff,reduceIte,e5,aK hi (show (1:Nat)<=cu by unfold cu;omega)];exact hn _ _ ⟨rfl,e0,e3,e4,rfl⟩
 ·rintro e h' ⟨rfl,e0,e3,e4,e5⟩ K' hx;rw [F.cq.aT];simp only [e0,e5,hl,aS,reduceAdd,reduceEqDiff,reduceIte,aX];rw [hx];exact num _ e4
theorem Own.GN{enc:α->List AV}{k:Nat}{a:AV}{l:List α}(o:Own enc sz k h a l):bE (AV.eN a)=true/\(AV.eN a).length=1/\AV.eN a = [a]:=by cases o<;>exact ⟨rfl,rfl,rfl⟩
def El(s:eG)(y:bQ×Int):Bool:=match s.aY.l.find? (eX y.1) with
 |some r=>decide (r.arity=y.2)
 |none=>false
theorem GO{α:Type}(p:α->Bool):∀ (l:List α) (i:Nat),(xD p l i = -1/\l.find? p=none)\/∃ (j:Nat) (v:α),xD p l i=((i+j:Nat):Int)/\l[j]?=some v/\l.find? p=some v
 |[],i=>.inl ⟨rfl,rfl⟩
 |x :: l,i=>by
  rw [xD,find?_cons]
  cases hp:p x with
  |true=>exact .inr ⟨0,x,by simp,rfl,rfl⟩
  |false=>
   simp only [false_eq_true,if_false];rcases GO p l (i+1) with ⟨h1,h2⟩|⟨j,v,h1,h2,h3⟩
   ·exact .inl ⟨h1,h2⟩
   ·exact .inr ⟨j+1,v,by rw [h1];congr 1;omega,by simpa using h2,h3⟩
theorem pY(p:α->Bool)(l:List α):(ny p l = -1/\l.find? p=none)\/∃ (j:Nat) (v:α),ny p l=(j:Int)/\l[j]?=some v/\l.find? p=some v:=by
 rcases GO p l 0 with h|⟨j,v,h1,h2,h3⟩
 ·exact .inl h
 ·exact .inr ⟨j,v,by rw [ny,h1,Nat.zero_add],h2,h3⟩
theorem yy{s:eG}{r:Rel}(hr:s.aY.l[i]?=some r):ah none (.dI (s.aY.l.flatMap bO) (i*3+1)) h=some (.int .i64 r.arity):=by
 rw [fE iE hr (by omega)];rfl
theorem agj{y:bQ×Int}(hy:x.l[i]?=some y):ah none (.dI (x.l.flatMap qq) (i*2)) h=some (.str y.1):=by
 have:=fE (h:=h) rP hy (k:=0) (by omega);rw [Nat.add_zero] at this;rw [this];rfl
theorem abb{y:bQ×Int}(hy:x.l[i]?=some y):ah none (.dI (x.l.flatMap qq) (i*2+1)) h=some (.int .i64 y.2):=by
 rw [fE rP hy (by omega)];rfl
theorem Sh(y:bQ×Int):AV.cN (qq y)=true:=rfl
theorem fU{s:eG}(hs:s.ok){x:Sl (bQ×Int)}(hx:x.l.length<=cu){h:ag}{K:Out->ag->Bool}(hK:K (.ret (.bool (x.l.all (El s)))) h=true):Sem TP 52 [.agg (aB s),an qq 2 x] h K:=by
 refine Sem.data (r:=.bool (x.l.all (El s))) ?_ (by simp [AV.cN,AV.pure,ew,bI Sh]) hK;clear hK;refine F.FV ?_;rw [F.HS];have b0:(ag.alloc ag.empty (.cells (aB s))).get 0=some (.cells (aB s)):=aD _ _;simp only [cG (dH s),aq,bA];generalize (ag.alloc ag.empty (.cells (aB s)))=H at b0 ⊢;have fin:∀ b:Bool,b=x.l.all (El s)->qm (.bool (x.l.all (El s))) (.ret (.bool b)) H=true:=fun b hb=>by rw [hb];exact c8 rfl
 have lr:ah none (.ptr 0 1) H=some (an bO 3 s.aY):=by rw [ai b0];rfl
 have lw:ah (some 2) (.ptr 0 0) H=some (.agg (aB s)):=by rw [ai b0,cQ (cs:=aB s) (n:=2) rfl]
 refine aG 0 x.l.length (zero_le _) (fun i e h'=>h'=H/\e 1=an qq 2 x/\e 2 = .ptr 0 0/\e 5 = .int .i64 (i:Int)/\(x.l.take i).all (El s)=true) ⟨rfl,rfl,rfl,rfl,rfl⟩ ?_ ?_
 ·rintro i e h' _ hi ⟨rfl,e1,e2,e5,ht⟩ K' hn iY hr hp;have hv:x.l[i]?=some x.l[i]:=ec hi;generalize x.l[i]=y at hv;rw [F.fU.aT];simp only [e1,e2,e5,aS,reduceAdd,reduceEqDiff,reduceIte,lw,bl hi,aU x hi,agj hv];refine aj (fI hs ?_);simp only [aS,reduceAdd,reduceEqDiff,reduceIte];rcases pY (eX y.1) s.aY.l with ⟨h1,h2⟩|⟨j,r,h1,h2,h3⟩
  ·rw [h1];simp only [show decide ((-1:Int)<0)=true from rfl,aF];rw [hr,F.fU.bt];simp only [bg,reduceEqDiff,reduceIte];exact fin _ (all_false hv (by rw [El,h2])).symm
  ·rw [h1];have hj:j<s.aY.l.length:=(oB.1 h2).1;simp only [ep (by omega:¬ ((j:Int)<0)),aE,aS,reduceAdd,reduceEqDiff,reduceIte,e1,e2,e5,lr,aU s.aY hj,yy h2,aU x hi,abb hv,ct];by_cases hq:r.arity=y.2
   ·simp only [ey hq,Bool.not_true,aE,aK hi hx,aq];exact hn _ _ ⟨rfl,e1,e2,rfl,kj hv ht (by rw [El,h3];exact ey hq)⟩
   ·simp only [ep hq,Bool.not_false,aF];rw [hr,F.fU.bt];simp only [bg,reduceEqDiff,reduceIte];exact fin _ (all_false hv (by rw [El,h3];exact ep hq)).symm
 ·rintro e h' ⟨rfl,e1,e2,e5,ht⟩ K' iY;rw [F.fU.aT];simp only [e1,e5,aS,reduceAdd,reduceEqDiff,reduceIte,aX];rw [iY,F.fU.aJ];rw [kB (dK _)] at ht;exact fin _ ht.symm
theorem O8(d:List Bool):d.map bv=d.flatMap HE:=by
 induction d with
 |nil=>rfl
 |cons a d ih=>rw [map_cons,flatMap_cons,ih];rfl
theorem M6{d:List Bool}(hb:h.get b=some (.cells (d.map bv))):Fz true h (.slice b 0 d.length 1) (an HE 1 (some d)):=by
 refine .slice b 0 d.length 1 _ _ hb (by rw [O8]) fun i x y hx hy=>?_;rw [O8,hy] at hx;cases hx;rw [<- O8,getElem?_map] at hy;obtain ⟨v,hv,rfl⟩:=map_eq_some_iff.1 hy;exact .scalar _ rfl
theorem iC{n:Nat}(h1:1<=n){x:Sl Int}(hx:x.l.length<=12)(hc:n ^ x.l.length<=4096)(hb:iJ n x.l=true){h:ag}{K:Out->ag->Bool}
  (hK:K (.ret (.int .i64 ((iy n x.l:Nat):Int))) h=true):Sem TP 189 [.int .i64 (n:Int),an encI 1 x] h K:=by
 have j8:x.l.length<=cu:=by unfold cu;omega
 refine F.FW ?_;rw [F.HT];refine aG 0 x.l.length (zero_le _) (fun i e h'=>h'=h/\e 0 = .int .i64 (n:Int)/\e 5 = .int .i64 ((iy n (x.l.take i):Nat):Int)/\e 1=an encI 1 x/\e 6 = .int .i64 (i:Int)) ⟨rfl,rfl,rfl,rfl,rfl⟩ ?_ ?_
 ·rintro i e h' _ hi ⟨rfl,e0,e5,e1,e6⟩ K' hn iY hr hp;have hv:x.l[i]?=some x.l[i]:=ec hi;rw [F.iC.aT];simp only [e0,e1,e5,e6,aS,reduceAdd,reduceEqDiff,reduceIte,bl hi,aU x hi,fS hv,(pT hb h1 hc hv).1,(pT hb h1 hc hv).2,aK hi j8];exact hn _ _ ⟨rfl,e0,rfl,e1,rfl⟩
 ·rintro e h' ⟨rfl,e0,e5,e1,e6⟩ K' iY;rw [F.iC.aT];simp only [e1,e6,aS,reduceAdd,reduceEqDiff,reduceIte,aX];rw [iY,F.iC.aJ];simp only [e5,bg,reduceEqDiff,reduceIte];rw [kB (dK _)];exact hK
theorem Jn(s:St):dV TP s Tryz.f162.results.toList=(match ah (some 3) (s.env 8) s.h,(some []:Option (List AV)) with|some v,some vs=>some (v :: vs)|_,_=>none):=by kernel_rfl
def Cw(nm:bQ)(k:Nat)(d:List Bool):List AV:=[.str nm,.int .i64 (k:Int),an HE 1 (some d)]
theorem ef{n k:Nat}(h1:1<=n)(h2:n<=64)(hk:k<=12)(hc:n ^ k<=4096){nm:bQ}{ts:Sl (Sl Int)}(hl:ts.l.length<=cu)(ht:yT n k ts.l=true){h:ag}{K:Out->ag->Bool}
  (hK:K (.ret (.agg (Cw nm k (bitsOf n k ts.l)))) h=true):Sem TP 162 [.int .i64 (n:Int),.str nm,.int .i64 (k:Int),an eu 1 ts] h K:=by
 refine Sem.data (r:=.agg (Cw nm k (bitsOf n k ts.l))) ?_ (by simp [AV.cN,AV.pure,bI tZ]) hK;clear hK;have WY:k<=cu:=by unfold cu;omega
 refine F.sQ ?_;rw [F.tU];refine aj (gK h1 h2 WY fun v v1 v2=>?_);have hv:=v1 hc;subst hv;simp only [gJ,EN (show n ^ k<=1000000 by omega),iL,bA,ag.aV];have ha:∀ b:Nat,jM [(.str []),(.int .i64 0),.au] [(0,1),(1,1),(2,1)] [.str nm,.int .i64 (k:Int),.slice b 0 (n ^ k) 1]=some (.agg [.str nm,.int .i64 (k:Int),.slice b 0 (n ^ k) 1]):=fun _=>rfl;simp only [ha,aq];have g0:((ag.alloc ag.empty (.cells [(.str []),(.int .i64 0),.au])).alloc (.cells ((replicate (n ^ k) false).map bv))).get 0=some (.cells [(.str []),(.int .i64 0),.au]):=by simp [ag.aW,bA]
 have g1:((ag.alloc ag.empty (.cells [(.str []),(.int .i64 0),.au])).alloc (.cells ((replicate (n ^ k) false).map bv))).get 1=some (.cells ((replicate (n ^ k) false).map bv)):=by simp [ag.aW,bA]
 have gn:((ag.alloc ag.empty (.cells [(.str []),(.int .i64 0),.au])).alloc (.cells ((replicate (n ^ k) false).map bv))).next=2:=rfl
 generalize ((ag.alloc ag.empty (.cells [(.str []),(.int .i64 0),.au])).alloc (.cells ((replicate (n ^ k) false).map bv)))=H0 at g0 g1 gn ⊢;obtain ⟨H,hs,p2,go,hn⟩:=cR (h:=H0) (zs:=[.str [],.int .i64 0,.au]) (cs:=[.str nm,.int .i64 (k:Int),.slice 1 0 (n ^ k) 1]) (n:=3) rfl rfl rfl;rw [gn] at hs p2;have p0:H.get 0=some (.cells [(.str []),(.int .i64 0),.au]):=by rw [go 0 (by omega)];exact g0
 have p1:H.get 1=some (.cells ((replicate (n ^ k) false).map bv)):=by rw [go 1 (by omega)];exact g1
 simp only [Nat.zero_add,reduceAdd,gn,hs,aq]
 refine aG 0 ts.l.length (zero_le _) (fun i e h'=>∃ d,bitsOf n k ts.l=kI n (ts.l.drop i) d/\d.length=n ^ k/\h'.get 0=some (.cells [(.str []),(.int .i64 0),.au])/\h'.get 1=some (.cells (d.map bv))/\h'.get 2=some (.cells [.str nm,.int .i64 (k:Int),.slice 1 0 (n ^ k) 1]) /\
  e 0 = .int .i64 (n:Int)/\e 3=an eu 1 ts/\e 8 = .ptr 0 0/\e 9 = .ptr 2 0/\e 10 = .int .i64 (i:Int)) ⟨_,rfl,by simp,p0,p1,p2,rfl,rfl,rfl,rfl,rfl⟩ ?_ ?_
 ·rintro i e h' _ hi ⟨d,hd,Ct,q0,q1,q2,e0,e3,e8,e9,jH⟩ K' oA hx hr hp;have hv:ts.l[i]?=some ts.l[i]:=ec hi;generalize ts.l[i]=t at hv;have u0:=xC ht hi;have z6:t.l.length=k:=KT u0 hv
  have NU:iJ n t.l=true:=by
   unfold nL at u0;rw [hv] at u0;simp only [and_eq_true] at u0;exact u0.2.1
  have sj:iy n t.l<n ^ k:=by have:=lX NU;rwa [z6] at this
  rw [Cs hv] at hd;have l2:ah none (.ptr 2 2) h'=some (.slice 1 0 (n ^ k) 1):=by rw [ai q2];rfl
  rw [F.ef.aT];simp only [e0,e3,e9,jH,aS,reduceAdd,reduceEqDiff,reduceIte,bl hi,aU ts hi,ke hv,l2];refine aj (iC h1 (by omega) (by rw [z6];exact hc) NU ?_);simp only [gJ,l2,aq,AV.beq_refl,Bool.and_self,if_true,kF sj,xo q1 (show iy n t.l<d.length by omega),aK hi hl,jH];exact oA _ _ ⟨_,hd,by simpa using Ct,by rw [ag.aP,if_neg (by omega)];exact q0,by rw [ag.aP,if_pos rfl],by rw [ag.aP,if_neg (by omega)];exact q2,e0,e3,e8,e9,rfl⟩
 ·rintro e h' ⟨d,hd,Ct,q0,q1,q2,e0,e3,e8,e9,jH⟩ K' hx;rw [F.ef.aT];simp only [e3,jH,aS,reduceAdd,reduceEqDiff,reduceIte,aX];rw [hx,F.ef.aJ];rw [drop_of_length_le (dK _)] at hd;simp only [kI] at hd;have l2:ah (some 3) (.ptr 2 0) h'=some (.agg [.str nm,.int .i64 (k:Int),.slice 1 0 (n ^ k) 1]):=by rw [ai q2];rfl
  have st:bh 3 (.ptr 0 0) (.agg [.str nm,.int .i64 (k:Int),.slice 1 0 (n ^ k) 1]) h'=some (h'.set 0 (.cells [.str nm,.int .i64 (k:Int),.slice 1 0 (n ^ k) 1])):=by
   rw [cJ (n:=3) q0 rfl rfl (by simp)];rfl
  have r0:(h'.set 0 (.cells [.str nm,.int .i64 (k:Int),.slice 1 0 (n ^ k) 1])).get 0=some (.cells [.str nm,.int .i64 (k:Int),.slice 1 0 (n ^ k) 1]):=by rw [ag.aP,if_pos rfl]
  have r1:(h'.set 0 (.cells [.str nm,.int .i64 (k:Int),.slice 1 0 (n ^ k) 1])).get 1=some (.cells (d.map bv)):=by rw [ag.aP,if_neg (by omega)];exact q1
  generalize (h'.set 0 (.cells [.str nm,.int .i64 (k:Int),.slice 1 0 (n ^ k) 1]))=H2 at st r0 r1;have l3:ah (some 3) (.ptr 0 0) H2=some (.agg [.str nm,.int .i64 (k:Int),.slice 1 0 (n ^ k) 1]):=by rw [ai r0];rfl
  simp only [bg,reduceEqDiff,reduceIte,e8,e9,l2,st,aq,Jn,l3,oneOf];have fb:=M6 r1;rw [Ct,<- hd] at fb;have:=kD.cons (.scalar (.str nm) rfl) (kD.cons (.scalar (.int .i64 (k:Int)) rfl) (kD.cons fb kD.nil));exact Ml (.agg _ _ this.len this.rel)
structure iV where
 name:bQ
 k:Nat
 bits:List Bool
def jC(t:iV):List AV:=Cw t.name t.k t.bits
def lY(n:Nat)(r:Rel):iV:=⟨r.name,r.arity.toNat,bitsOf n r.arity.toNat r.bW.l⟩
def jY(s:eG):List iV:=s.aY.l.map (lY s.size.toNat)
theorem xE{s:eG}(hv:dU s=true){r:Rel}(hr:s.aY.l[i]?=some r):oG s.size.toNat r=true:=by
 simp only [dU,and_eq_true] at hv;have:=xC hv.2.2.2 (oB.1 hr).1;rw [rT,hr] at this;simp only [and_eq_true] at this;exact this.1
theorem uc{s:eG}(hv:dU s=true):∃ n:Nat,s.size=(n:Int)/\1<=n/\n<=64/\s.aY.l.length<=8:=by
 simp only [dU,and_eq_true,decide_eq_true_eq] at hv;exact ⟨s.size.toNat,by omega,by omega,by omega,hv.2.2.1⟩
theorem yz{r:Rel}(h:oG n r=true):∃ k:Nat,r.arity=(k:Int)/\k<=12/\n ^ k<=4096/\yT n k r.bW.l=true:=by
 simp only [oG,and_eq_true,decide_eq_true_eq] at h;exact ⟨r.arity.toNat,by omega,by omega,h.2.2.2.1,h.2.2.2.2⟩
theorem nD{s:eG}(hv:dU s=true):(s.aY.l.map Rel.name).Nodup:=by
 simp only [dU,and_eq_true] at hv;unfold List.Nodup;rw [pairwise_iff_getElem];intro i j hi hj Wz e;rw [length_map] at hi hj;have:=xC hv.2.2.2 hj;rw [rT,ec hj] at this;simp only [and_eq_true,not_eq_true'] at this;rw [getElem_map,getElem_map] at e;have h2:=Vc (p:=fun q:Rel=>q.name==s.aY.l[j].name) (ec hi) Wz (by simpa using e);rw [h2] at this;cases this.2
theorem sX:∀ {l:List Rel},(l.map Rel.name).Nodup->∀ r ∈ l,l.find? (eX r.name)=some r
 |[],_,r,h=>by cases h
 |q :: l,hn,r,h=>by
  rw [map_cons,nodup_cons] at hn;rw [find?_cons];rcases mem_cons.1 h with rfl|h
  ·have:eX r.name r=true:=by simp [eX]
   rw [this]
  ·have:eX r.name q=false:=by
    simp only [eX,beq_eq_false_iff_ne];exact fun e=>hn.1 (e▸List.mem_map_of_mem h)
   rw [this];exact sX hn.2 r h
theorem Jo:∀ {l:List Rel},(l.map Rel.name).Nodup->∀ (nm:bQ) (k:Int),l.find? (nC nm k)=match l.find? (eX nm) with
  |some r=>if r.arity=k then some r else none
  |none=>none
 |[],_,nm,k=>rfl
 |q :: l,hn,nm,k=>by
  rw [map_cons,nodup_cons] at hn;rw [find?_cons,find?_cons]
  cases hq:eX nm q with
  |true=>
   have oS:q.name==nm:=hq;simp only;by_cases ha:q.arity=k
   ·have:nC nm k q=true:=(by rw [nC,oS,ey ha];rfl);rw [this,if_pos ha]
   ·have:nC nm k q=false:=(by rw [nC,ep ha,Bool.and_false]);rw [this,if_neg ha];simp only;rw [find?_eq_none];intro r hr hs;simp only [nC,and_eq_true,beq_iff_eq] at hs oS;exact hn.1 (by rw [oS,<- hs.1];exact List.mem_map_of_mem hr)
  |false=>
   have oS:(q.name==nm)=false:=hq;have:nC nm k q=false:=by rw [nC,oS,Bool.false_and]
   rw [this];exact Jo hn.2 nm k
theorem M7{s:eG}(hv:dU s=true)(y:bQ×Int):El s y=(s.aY.l.find? (nC y.1 y.2)).isSome:=by
 rw [Jo (nD hv),El]
 cases s.aY.l.find? (eX y.1) with
 |none=>rfl
 |some r=>
  simp only;by_cases h:r.arity=y.2
  ·rw [if_pos h,ey h];rfl
  ·rw [if_neg h,ep h];rfl
theorem YD(l:List Int):bE (l.map iv)=true:=by
 induction l with
 |nil=>rfl
 |cons a l ih=>simp only [map_cons,bE,ih,Bool.and_true];rfl
theorem Jp{src:AV}{l:List Int}(r:Row encI 1 (h.alloc (.cells [])) src l)(hl:l.length<=1000000) :
  ∃ b h',cz 1 8 (.slice h.next 0 0 1) src (h.alloc (.cells []))=some (.slice b 0 l.length 1,h')/\h'.get b=some (.cells (l.map iv))/\bG h h'/\h.next<=b/\b<h'.next:=by
 have hm:dw=140737488355328:=rfl;have g:(h.alloc (.cells [])).get h.next=some (.cells []):=aD _ _
 have rc:=r.cells;rw [<- tB] at rc;by_cases hz:l.length=0
 ·have:l = []:=eq_nil_of_length_eq_zero hz;subst this;refine ⟨h.next,h.alloc (.cells []),?_,g,bG.alloc _ _,dK _,lt_succ_self _⟩;simp only [length_nil] at rc;simp [cz,r.len,rc]
 ·refine ⟨h.next+1,((h.alloc (.cells [])).set h.next .dead).alloc (.cells (l.map iv)),?_,?_,?_,by omega,?_⟩
  ·simp only [cz,r.len,rc,if_true,if_neg hz,g];rw [if_pos (by simp [YD];omega)];simp [ag.bq,ag.aV]
  ·have:=aD ((h.alloc (.cells [])).set h.next .dead) (.cells (l.map iv))
   rwa [ag.bq,ag.aV] at this
  ·exact ((bG.alloc h (.cells [])).set (dK _) _).trans (bG.alloc _ _)
  ·rw [ag.aV,ag.bq,ag.aV];omega
def GP(n:Nat)(t:List Int):List (List Int):=(List.range n).map fun (x:Nat)=>t++[(x:Int)]
def stepT(n:Nat)(out:List (List Int)):List (List Int):=out.flatMap (GP n)
def xF(n:Nat):Nat->List (List Int)
 |0=>[[]]
 |k+1=>stepT n (xF n k)
theorem Cx(n:Nat)(l:List (List Int)):(stepT n l).length=l.length*n:=by
 induction l with
 |nil=>simp [stepT]
 |cons t l ih=>
  rw [stepT,flatMap_cons,length_append,<- stepT,ih,length_cons,succ_mul];simp [GP];omega
theorem yA(n:Nat):∀ k,(xF n k).length=n ^ k
 |0=>rfl
 |k+1=>by rw [xF,Cx,yA n k,Nat.pow_succ]
theorem O9{out:List (List Int)}{t:List Int}(ht:out[j]?=some t):stepT n (out.take (j+1))=stepT n (out.take j)++GP n t:=by
 rw [take_add_one,ht,stepT,flatMap_append];simp [stepT]
theorem xG(n:Nat)(t:List Int):(GP n t).length=n:=by simp [GP]
theorem Si{t:List Int}{x:Nat}(hx:x<n):(GP n t).take (x+1)=(GP n t).take x++[t++[(x:Int)]]:=by
 rw [take_add_one];congr 1;simp [GP,getElem?_range hx]
theorem Cy{n:Nat}:∀ {out:List (List Int)} {r x:Nat} {t:List Int},out[r]?=some t->x<n->(stepT n out)[r*n+x]?=some (t++[(x:Int)])
 |[],r,x,t,h,_=>by simp at h
 |u :: out,0,x,t,h,hx=>by
  simp at h;subst h;rw [stepT,flatMap_cons,Nat.zero_mul,Nat.zero_add,getElem?_append_left (by rw [xG];exact hx)];simp [GP,getElem?_range hx]
 |u :: out,r+1,x,t,h,hx=>by
  rw [stepT,flatMap_cons,getElem?_append_right (by rw [xG,succ_mul];omega),xG];have:(r+1)*n+x-n=r*n+x:=by rw [succ_mul];omega
  rw [this];exact Cy (out:=out) (by simpa using h) hx
theorem YE{t:List Int}{x:Nat}(ht:iJ n t=true)(hx:x<n):iJ n (t++[(x:Int)])=true:=by
 unfold iJ at ht ⊢;rw [all_append,ht];simp;omega
theorem Cz{n:Nat}(hn:1<=n):∀ (k r:Nat),r<n ^ k->∃ t,(xF n k)[r]?=some t/\t.length=k/\iJ n t=true/\iy n t=r
 |0,r,h=>by
  obtain rfl:r=0:=by simp at h;omega
  exact ⟨[],rfl,rfl,rfl,rfl⟩
 |k+1,r,h=>by
  have hr:r/n<n ^ k:=Nat.div_lt_of_lt_mul (by rw [Nat.mul_comm,<- Nat.pow_succ];exact h);have hx:r%n<n:=mod_lt _ hn;obtain ⟨t,h1,h2,h3,h4⟩:=Cz hn k (r/n) hr;refine ⟨t++[((r%n:Nat):Int)],?_,by simp [h2],YE h3 hx,?_⟩
  ·have:=Cy (n:=n) h1 hx;rw [xF]
   rwa [div_add_mod' r n] at this
  ·unfold iy at h4 ⊢;rw [xm,h4];simp only [vY,Int.toNat_natCast];exact div_add_mod' r n
theorem M8{n:Nat}:∀ (a b:List Int) (r s:Nat),a.length=b.length->iJ n a=true->iJ n b=true->vY n a r=vY n b s->a=b/\r=s
 |[],[],r,s,_,_,_,h=>⟨rfl,h⟩
 |x :: a,y :: b,r,s,hl,ha,hb,h=>by
  simp only [iJ,all_cons,and_eq_true,not_eq_true',decide_eq_false_iff_not] at ha hb;obtain ⟨e1,e2⟩:=M8 a b _ _ (by simpa using hl) (by unfold iJ;simpa using ha.2) (by unfold iJ;simpa using hb.2) h;subst e1;have hn:0<n:=by omega
  have hx:x.toNat<n:=by omega
  have hy:y.toNat<n:=by omega
  have h1:r=s:=by
   have q1:(r*n+x.toNat)/n=r:=by rw [Nat.mul_comm,mul_add_div hn,div_eq_of_lt hx];rfl
   have q2:(s*n+y.toNat)/n=s:=by rw [Nat.mul_comm,mul_add_div hn,div_eq_of_lt hy];rfl
   rw [<- q1,<- q2,e2]
  subst h1;exact ⟨by congr 1;omega,rfl⟩
theorem KU{b:List Int}(hl:a.length=b.length)(ha:iJ n a=true)(hb:iJ n b=true)(h:iy n a=iy n b):a=b:=(M8 a b 0 0 hl ha hb h).1
theorem cc{n k:Nat}(hn:1<=n)(hk:k<=12)(hc:n ^ k<=4096){h:ag}{K:Out->ag->Bool}(hK:∀ x:Sl (Sl Int),x.l.map Sl.l=xF n k->K (.ret (an eu 1 x)) h=true):Sem TP 18 [.int .i64 (n:Int),.int .i64 (k:Int)] h K:=by
 have hm:dw=140737488355328:=rfl
 have main:Sem TP 18 [.int .i64 (n:Int),.int .i64 (k:Int)] ag.empty (fun o h'=>yes (∃ v,∃ x:Sl (Sl Int),o = .ret v/\x.l.map Sl.l=xF n k/\Fz true h' v (an eu 1 x))):=by
  refine F.Ce ?_;rw [F.D2];have r0:ig [] [] []=some []:=rfl;have r1:∀ p:PB,ig [.au] [(0,1)] [.slice p.1 0 p.2.length 1]=some (Cr p):=fun _=>rfl;have r2:∀ x:Int,ig [.int .i64 0] [(0,1)] [.int .i64 x]=some [.int .i64 x]:=fun _=>rfl;have r1':ig [.au] [(0,1)] [.slice 0 0 0 1]=some (Cr (0,[])):=rfl;simp only [r0,aq,bA,r1'];have g0:(ag.alloc (ag.alloc ag.empty (.cells [])) (.cells (Cr (0,[])))).get 0=some (.cells []):=by simp [ag.aW,bA]
  have g1:(ag.alloc (ag.alloc ag.empty (.cells [])) (.cells (Cr (0,[])))).get 1=some (.cells (Cr (0,[]))):=by simp [ag.aW,bA]
  have gn:(ag.alloc (ag.alloc ag.empty (.cells [])) (.cells (Cr (0,[])))).next=2:=rfl
  have ge:(ag.alloc ag.empty (.cells [])).next=1:=rfl
  rw [ge];generalize (ag.alloc (ag.alloc ag.empty (.cells [])) (.cells (Cr (0,[]))))=H at g0 g1 gn ⊢
  have agk:xl 0 H (.slice 1 0 1 1) [(0,[])]:=⟨.row 1 [(0,[])] (zero_le _) (by omega) (by simpa using g1),fun p hp=>by
   rw [mem_singleton] at hp;subst hp;exact ⟨dK _,by show 0<H.next;omega,by simp [eP],g0⟩⟩
  refine aG 0 k (zero_le _) (fun i e h'=>∃ a ps,xl 0 h' a ps/\ps.map (·.2)=xF n i/\e 0 = .int .i64 (n:Int)/\e 1 = .int .i64 (k:Int)/\e 5=a/\e 6 = .int .i64 (i:Int)) ⟨_,_,agk,rfl,rfl,rfl,rfl,rfl⟩ ?_ ?_
  ·rintro i e h' _ hi ⟨a,ps,Ve,si,e0,e1,e5,e6⟩ K' hn0 ZI hr0 Ht;have mM:ps.length=n ^ i:=by have:=congrArg List.length si;rwa [length_map,yA] at this
   have mN:n ^ i*n<=4096:=by rw [<- Nat.pow_succ];exact Nat.le_trans (KP hn hi) hc
   have aj0:ps.length<=cu:=by unfold cu;have:=Nat.le_mul_of_pos_right (n ^ i) hn;omega
   rw [F.cc.aT];simp only [e0,e1,e5,e6,aS,reduceAdd,reduceEqDiff,reduceIte,bl hi]
   refine aG 0 ps.length (zero_le _) (fun j e h2=>bG h' h2/\∃ c qs,xl h'.next h2 c qs/\qs.map (·.2)=stepT n ((ps.map (·.2)).take j)/\e 0 = .int .i64 (n:Int)/\e 1 = .int .i64 (k:Int)/\e 5=a/\e 6 = .int .i64 (i:Int)/\e 7=c/\e 8 = .int .i64 (j:Int))
    ⟨bG.refl _,_,_,.nil _ _,rfl,e0,e1,e5,e6,rfl,rfl⟩ ?_ ?_
   ·rintro j e h2 _ hj ⟨iu,c,qs,YF,hqs,e0,e1,e5,e6,e7,e8⟩ K2 qM agl vL Il;have NW:ps[j]?=some ps[j]:=ec hj;generalize ps[j]=p at NW;have aj1:(ps.map (·.2))[j]?=some p.2:=by rw [getElem?_map,NW];rfl
    have hql:qs.length=j*n:=by
     have:=congrArg List.length hqs;rw [length_map,Cx,length_take,length_map,Nat.min_eq_left (by omega)] at this;exact this
    have hjn:j*n+n<=4096:=by
     have:(j+1)*n<=ps.length*n:=mul_le_mul_right n hj;rw [mM,succ_mul] at this;omega
    rw [F.cc.eC];simp only [e5,e8,Ve.own.len,aS,reduceAdd,reduceEqDiff,reduceIte,bl hj]
    refine aG 0 n (zero_le _) (fun x e h3=>bG h' h3/\∃ c qs,xl h'.next h3 c qs/\qs.map (·.2)=stepT n ((ps.map (·.2)).take j)++(GP n p.2).take x/\e 0 = .int .i64 (n:Int)/\e 1 = .int .i64 (k:Int)/\e 5=a/\e 6 = .int .i64 (i:Int)/\e 7=c/\e 8 = .int .i64 (j:Int)/\e 9 = .int .i64 (x:Int))
     ⟨iu,c,qs,YF,by rw [take_zero,append_nil];exact hqs,e0,e1,e5,e6,e7,e8,rfl⟩ ?_ ?_
    ·rintro x e h3 _ hx ⟨Iq,c,qs,YG,YH,e0,e1,e5,e6,e7,e8,e9⟩ K3 Vd YI Wd hp3
     have apQ:qs.length=j*n+x:=by
      have:=congrArg List.length YH;rw [length_map,length_append,Cx,length_take,length_map,Nat.min_eq_left (by omega),length_take,xG,Nat.min_eq_left (by omega)] at this;exact this
     obtain ⟨b,b1,b2,b3⟩:=Ve.at_ NW;obtain ⟨p1,p2,p3,p4⟩:=Ve.cell p (iA NW);have xa:bG h' (h3.alloc (.cells [])):=Iq.trans (bG.alloc _ _)
     have jV:Row encI 1 (h3.alloc (.cells [])) (.slice p.1 0 p.2.length 1) p.2:=by
      have hg:(h3.alloc (.cells [])).get p.1=some (.cells (p.2.map iv)):=(by rw [xa.get _ p2];exact p4);refine ⟨rfl,?_⟩;simp only [jE,hg,if_true];rw [if_pos (by simp),<- tB];simp only [drop_zero,Nat.mul_one];rw [kB (by simp)]
     have UJ:p.2.length<=1000000:=by
      have:p.2 ∈ xF n i:=(by rw [<- si];exact List.mem_map_of_mem (iA NW));obtain ⟨r,hr⟩:=getElem?_of_mem this;have eM:r<n ^ i:=by have:=(oB.1 hr).1;rwa [yA] at this
      obtain ⟨t,q1,q2,_⟩:=Cz hn i r eM;rw [hr] at q1;cases q1;omega
     obtain ⟨b4,h4,a4,g4,x4,l4,m4⟩:=Jp jV UJ;obtain ⟨b5,h5,a5,g5,f5,l5,m5⟩:=UH (h:=h4) g4 m4 UJ (x:Int);have x5:bG h3 h5:=⟨by have:=x4.next;omega,fun d hd=>by rw [f5 d (by have:=x4.next;omega) (by omega),x4.get d hd]⟩
     have abc:=YG.ext x5;have hx5:bG h' h5:=Iq.trans x5;obtain ⟨a6,h6,e6',abd,n6,_,x6,_⟩:=abc.push (by have:=hx5.next;omega) (by rw [hm];omega) (b5,p.2++[(x:Int)]) (by have:=x4.next;have:=Iq.next;show h'.next<=b5;omega) m5 (fun hb=>by have:=YG.own.lt hb;simp only at this;have:=x4.next;omega) g5;rw [F.cc.kE];simp only [e0,e5,e7,e8,e9,aS,reduceAdd,reduceEqDiff,reduceIte,bl hx,r0,b1,b3 _ xa,a4,r2,a5,r1 (b5,p.2++[(x:Int)]),e6',aK hx (show n<=cu by unfold cu;omega)];refine Vd _ _ ⟨x6 _ hx5 (dK _),a6,_,abd,?_,e0,e1,e5,e6,rfl,e8,rfl⟩;rw [map_append,YH,Si hx,append_assoc];rfl
    ·rintro e h3 ⟨Iq,c,qs,YG,YH,e0,e1,e5,e6,e7,e8,e9⟩ K3 YI;rw [F.cc.kE];simp only [e0,e9,aS,reduceAdd,reduceEqDiff,reduceIte,aX];rw [YI,F.cc.iM];simp only [aS,reduceAdd,reduceEqDiff,reduceIte,e8,aK hj aj0];refine qM _ _ ⟨Iq,c,qs,YG,?_,e0,e1,e5,e6,e7,rfl⟩;rw [YH,O9 aj1,kB (l:=GP n p.2) (by rw [xG];exact dK _)]
   ·rintro e h2 ⟨iu,c,qs,YF,hqs,e0,e1,e5,e6,e7,e8⟩ K2 agl;rw [F.cc.eC];simp only [e5,e8,Ve.own.len,aS,reduceAdd,reduceEqDiff,reduceIte,aX];rw [agl,F.cc.cZ];simp only [aS,reduceAdd,reduceEqDiff,reduceIte,e6,e7,aK hi (show k<=cu by unfold cu;omega)];refine hn0 _ _ ⟨c,qs,⟨YF.own.R3 (zero_le _),fun p hp=>?_⟩,?_,e0,e1,rfl,rfl⟩
    ·obtain ⟨q1,q2,q3,q4⟩:=YF.cell p hp;exact ⟨zero_le _,q2,q3,q4⟩
    ·rw [hqs,kB (by simp),si];rfl
  ·rintro e h' ⟨a,ps,Ve,si,e0,e1,e5,e6⟩ K' ZI;rw [F.cc.aT];simp only [e1,e6,aS,reduceAdd,reduceEqDiff,reduceIte,aX];rw [ZI,F.cc.aJ];simp only [bg,reduceEqDiff,reduceIte,e5];obtain ⟨x,jG,iu⟩:=Ve.Am (old:=true);exact cO.2 ⟨a,x,rfl,jG.trans si,iu⟩
 refine main.frozen (by simp [AV.cN,AV.pure]) fun o h' ho=>?_;obtain ⟨v,x,rfl,hx,hf⟩:=cO.1 ho;exact ⟨v,_,rfl,hf,hK x hx⟩
theorem Jq:ig [] [] []=some []:=rfl
theorem agm(p:PB):ig [.au] [(0,1)] [.slice p.1 0 p.2.length 1]=some (Cr p):=rfl
theorem gw{x:Sl (Sl Int)}(hx:x.l.length<=1000000)(ht:∀ t ∈ x.l,t.l.length<=1000000){h:ag}{K:Out->ag->Bool}(hK:∀ y:Sl (Sl Int),y.l.map Sl.l=x.l.map Sl.l->K (.ret (an eu 1 y)) h=true):Sem TP 119 [an eu 1 x] h K:=by
 have hm:dw=140737488355328:=rfl;have j8:x.l.length<=cu:=by unfold cu;omega
 have main:Sem TP 119 [an eu 1 x] ag.empty (fun o h'=>yes (∃ v,∃ y:Sl (Sl Int),o = .ret v/\y.l.map Sl.l=x.l.map Sl.l/\Fz true h' v (an eu 1 y))):=by
  refine F.Cf ?_;rw [F.D3];refine aG 0 x.l.length (zero_le _) (fun i e h'=>∃ a ps,xl 0 h' a ps/\ps.map (·.2)=(x.l.take i).map Sl.l/\e 0=an eu 1 x/\e 3=a/\e 4 = .int .i64 (i:Int)) ⟨_,_,.nil _ _,rfl,rfl,rfl,rfl⟩ ?_ ?_
  ·rintro i e h' _ hi ⟨a,ps,Ve,si,e0,e3,e4⟩ K' hn iY hr hp;have hv:x.l[i]?=some x.l[i]:=ec hi;generalize x.l[i]=t at hv;have z6:=ht t (iA hv);have mM:ps.length=i:=by have:=congrArg List.length si;rw [length_map,length_map,length_take,Nat.min_eq_left (by omega)] at this;exact this
   obtain ⟨b,h5,a5,g5,x5,l5,m5⟩:=Jp (KL rJ t (h'.alloc (.cells []))) z6;have abc:=Ve.ext x5;obtain ⟨a6,h6,e6,abd,_⟩:=abc.push (zero_le _) (by rw [hm];omega) (b,t.l) (zero_le _) m5 (fun hb=>by have:=Ve.own.lt hb;simp only at this;omega) g5;rw [F.gw.aT];simp only [e0,e3,e4,aS,reduceAdd,reduceEqDiff,reduceIte,bl hi,Jq,aU x hi,ke hv,a5,agm (b,t.l),e6,aK hi j8];exact hn _ _ ⟨_,_,abd,by rw [map_append,si,take_add_one,hv,map_append];rfl,e0,rfl,rfl⟩
  ·rintro e h' ⟨a,ps,Ve,si,e0,e3,e4⟩ K' iY;rw [F.gw.aT];simp only [e0,e4,aS,reduceAdd,reduceEqDiff,reduceIte,aX];rw [iY,F.gw.aJ];simp only [bg,reduceEqDiff,reduceIte,e3];obtain ⟨y,hy1,hy2⟩:=Ve.Am (old:=true);exact cO.2 ⟨a,y,rfl,by rw [hy1,si,kB (dK _)],hy2⟩
 refine main.frozen (by simp [AV.cN,bI tZ]) fun o h' ho=>?_;obtain ⟨v,y,rfl,hy,hf⟩:=cO.1 ho;exact ⟨v,_,rfl,hf,hK y hy⟩
structure eG.small (s:eG):Prop where
 aY:s.aY.l.length<=1000
 abe:∀ r ∈ s.aY.l,r.bW.l.length<=10000
 tup:∀ r ∈ s.aY.l,∀ t ∈ r.bW.l,t.l.length<=1000
theorem eG.small.ok'{s:eG}(hs:s.small):s.aY.l.length<=cu:=by have:=hs.aY;unfold cu;omega
theorem YJ(nm:bQ)(k:Int)(y:Sl (Sl Int)):jM [.str [],.int .i64 0,.au] [(0,1),(1,1),(2,1)] [.str nm,.int .i64 k,an eu 1 y]=some (.agg (bO ⟨nm,k,y⟩)):=by cases y<;>rfl
theorem QV(r:Rel):ig [.str [],.int .i64 0,.au] [(0,3)] [.agg (bO r)]=some (bO r):=by
 obtain ⟨nm,k,y⟩:=r;cases y<;>rfl
theorem Vf(s:St):dV TP s Tryz.f61.results.toList=(match ah (some 2) (s.env 2) s.h,(some []:Option (List AV)) with|some v,some vs=>some (v :: vs)|_,_=>none):=by kernel_rfl
theorem iT{s:eG}(hs:s.small){h:ag}{K:Out->ag->Bool}(hK:∀ a h' rs,bG h h'->Own bO 3 h.next h' a rs->rs.map dz=s.aY.l.map dz->K (.ret (.agg [.int .i64 s.size,a])) h'=true):Sem TP 61 [.agg (aB s)] h K:=by
 have hm:dw=140737488355328:=rfl;refine F.F9 ?_;rw [F.Ia];simp only [cG (dH s),aq,ag.aV];have g0:(ag.alloc (ag.alloc h (.cells (aB s))) (.cells [.int .i64 0,.au])).get h.next=some (.cells (aB s)):=by rw [ag.aW,ag.aV,if_neg (by omega)];exact aD _ _
 have g1:(ag.alloc (ag.alloc h (.cells (aB s))) (.cells [.int .i64 0,.au])).get (h.next+1)=some (.cells [.int .i64 0,.au]):=aD _ _;have gn:(ag.alloc (ag.alloc h (.cells (aB s))) (.cells [.int .i64 0,.au])).next=h.next+2:=rfl
 have gx:bG h (ag.alloc (ag.alloc h (.cells (aB s))) (.cells [.int .i64 0,.au])):=(bG.alloc _ _).trans (bG.alloc _ _);generalize (ag.alloc (ag.alloc h (.cells (aB s))) (.cells [.int .i64 0,.au]))=H1 at g0 g1 gn gx ⊢;have lz:ah none (.ptr h.next 0) H1=some (.int .i64 s.size):=by rw [ai g0];rfl
 have ha:jM [.int .i64 0,.au] [(0,1)] [.int .i64 s.size]=some (.agg [.int .i64 s.size,.au]):=rfl;obtain ⟨H2,qX,p2,po,pn⟩:=cR (h:=H1) (zs:=[.int .i64 0,.au]) (cs:=[.int .i64 s.size,.au]) (n:=2) rfl rfl rfl;rw [gn] at p2 po pn qX;have p0:H2.get h.next=some (.cells (aB s)):=by rw [po _ (by omega)];exact g0
 have p1:H2.get (h.next+1)=some (.cells [.int .i64 0,.au]):=by rw [po _ (by omega)];exact g1
 have px:bG h H2:=⟨by omega,fun b hb=>by rw [po _ (by omega)];exact gx.get b hb⟩
 simp only [aS,reduceAdd,reduceEqDiff,reduceIte,lz,ha,gn,qX]
 refine aG 0 s.aY.l.length (zero_le _) (fun i e h'=>∃ a rs,h'.get h.next=some (.cells (aB s))/\h'.get (h.next+1)=some (.cells [.int .i64 0,.au])/\h'.get (h.next+2)=some (.cells [.int .i64 s.size,a])/\Own bO 3 (h.next+3) h' a rs/\rs.map dz=(s.aY.l.take i).map dz/\bG h h'/\h.next+3<=h'.next /\
  e 1 = .ptr h.next 0/\e 2 = .ptr (h.next+1) 0/\e 3 = .ptr (h.next+2) 0/\e 4 = .int .i64 (i:Int)) ⟨_,[],p0,p1,p2,.nil,rfl,px,by omega,rfl,rfl,rfl,rfl⟩ ?_ ?_
 ·rintro i e h' _ hi ⟨a,rs,q0,q1,q2,o,tF,qx,qn,e1,e2,e3,e4⟩ K' hn iY hr hp;have hv:s.aY.l[i]?=some s.aY.l[i]:=ec hi;generalize s.aY.l[i]=r at hv;have lD:=iA hv;have lr:ah none (.ptr h.next 1) h'=some (an bO 3 s.aY):=by rw [ai q0];rfl
  have lo:ah none (.ptr (h.next+2) 1) h'=some a:=by rw [ai q2];rfl
  have Pa:rs.length=i:=by have:=congrArg List.length tF;rw [length_map,length_map,length_take,Nat.min_eq_left (by omega)] at this;exact this
  rw [F.iT.aT];simp only [e1,e3,e4,aS,reduceAdd,reduceEqDiff,reduceIte,lr,lo,bl hi,aU s.aY hi,rY hv,yy hv,ua hv];refine aj (gw (by have:=hs.abe r lD;omega) (fun t ht=>by have:=hs.tup r lD t ht;omega) fun y hy=>?_);obtain ⟨a5,h5,p5,o5,f5,n5,x5,b5⟩:=o.push iE kJ (by omega) (bytes:=48) (by have:=hs.aY;rw [hm];omega) ⟨r.name,r.arity,y⟩;have lF:eP a≠some (h.next+2):=fun hb=>by have:=o.ge hb;omega
  have s2:h5.get (h.next+2)=some (.cells [.int .i64 s.size,a]):=by rw [f5 _ (by omega) lF];exact q2
  have c5:=o5.GN
  have st:bh 1 (.ptr (h.next+2) 1) a5 h5=some (h5.set (h.next+2) (.cells [.int .i64 s.size,a5])):=by
   rw [cJ (n:=1) s2 c5.2.1 c5.1 (by simp),c5.2.2];rfl
  simp only [gJ,lr,lo,rY hv,yy hv,aq,AV.beq_refl,Bool.and_self,if_true,YJ,QV,p5,iL,e3,e4,OM,Nat.zero_add,st,aK hi hs.ok'];refine hn _ _ ⟨a5,rs++[⟨r.name,r.arity,y⟩],?_,?_,?_,o5.uW (by omega) _,?_,?_,by rw [ag.bq];omega,e1,e2,e3,rfl⟩
  ·rw [ag.aP,if_neg (by omega),f5 _ (by omega) (fun hb=>by have:=o.ge hb;omega)];exact q0
  ·rw [ag.aP,if_neg (by omega),f5 _ (by omega) (fun hb=>by have:=o.ge hb;omega)];exact q1
  ·rw [ag.aP,if_pos rfl]
  ·rw [map_append,tF,take_add_one,hv,map_append];simp [dz,hy]
  ·exact (x5 h qx (by omega)).set (by omega) _
 ·rintro e h' ⟨a,rs,q0,q1,q2,o,tF,qx,qn,e1,e2,e3,e4⟩ K' iY;have lr:ah none (.ptr h.next 1) h'=some (an bO 3 s.aY):=by rw [ai q0];rfl
  have lo:ah (some 2) (.ptr (h.next+2) 0) h'=some (.agg [.int .i64 s.size,a]):=by rw [ai q2];rfl
  have c:=o.GN
  have Is:bE [.int .i64 s.size,a]=true:=by
   have:=c.1;rw [c.2.2] at this;simp only [bE,Bool.and_true] at this ⊢;rw [this];rfl
  have st:bh 2 (.ptr (h.next+1) 0) (.agg [.int .i64 s.size,a]) h'=some (h'.set (h.next+1) (.cells [.int .i64 s.size,a])):=by
   rw [cJ (n:=2) (v:=.agg [.int .i64 s.size,a]) q1 rfl Is (by simp)];rfl
  have lo2:ah (some 2) (.ptr (h.next+1) 0) (h'.set (h.next+1) (.cells [.int .i64 s.size,a]))=some (.agg [.int .i64 s.size,a]):=by rw [ai (cs:=[.int .i64 s.size,a]) (by rw [ag.aP,if_pos rfl])];rfl
  rw [F.iT.aT];simp only [e1,e4,aS,reduceAdd,reduceEqDiff,reduceIte,lr,aX];rw [iY,F.iT.aJ];simp only [bg,reduceEqDiff,reduceIte,e2,e3,lo,st,aq,Vf,lo2,oneOf];rw [kB (dK _)] at tF;exact hK a _ rs (qx.set (by omega) _) ((o.uW (by omega) _).R3 (by omega)) tF
theorem M9{n:Nat}:∀ {a b:List Int} (r:Nat),a.length=b.length->iJ n a=true->iJ n b=true->ji a b=true->vY n a r<vY n b r
 |[],_,r,_,_,_,h=>by simp [ji] at h
 |_ :: _,[],r,_,_,_,h=>by simp [ji] at h
 |x :: a,y :: b,r,hl,ha,hb,h=>by
  have ZR:=ha;have fY:=hb;simp only [iJ,all_cons,and_eq_true,not_eq_true',decide_eq_false_iff_not] at ha hb;have ia:iJ n a=true:=by unfold iJ;simpa using ha.2
  have ib:iJ n b=true:=by unfold iJ;simpa using hb.2
  have DG:a.length=b.length:=by simpa using hl
  rw [ji] at h;simp only [vY];by_cases e:x=y
  ·subst e;rw [if_pos rfl] at h;exact M9 _ DG ia ib h
  ·rw [if_neg e] at h;have hxy:=of_decide_eq_true h
   have lo:∀ (l:List Int) (r:Nat),r*n ^ l.length<=vY n l r:=by
    intro l
    induction l with
    |nil=>intro r;simp [vY]
    |cons z l ih=>
     intro r;rw [vY];refine Nat.le_trans ?_ (ih _);rw [length_cons,Nat.pow_succ,Nat.mul_comm (n ^ l.length) n,<- Nat.mul_assoc];exact mul_le_mul_right _ (le_add_right _ _)
   have hi:∀ (l:List Int) (r:Nat),iJ n l=true->vY n l r<(r+1)*n ^ l.length:=by
    intro l
    induction l with
    |nil=>intro r _;simp [vY]
    |cons z l ih=>
     intro r hz;simp only [iJ,all_cons,and_eq_true,not_eq_true',decide_eq_false_iff_not] at hz;rw [vY];refine Nat.lt_of_lt_of_le (ih _ (by unfold iJ;simpa using hz.2)) ?_;rw [length_cons,Nat.pow_succ,Nat.mul_comm (n ^ l.length) n,<- Nat.mul_assoc];refine mul_le_mul_right _ ?_;rw [succ_mul];omega
   have q1:=hi a (r*n+x.toNat) ia;have q2:=lo b (r*n+y.toNat)
   have q3:(r*n+x.toNat+1)*n ^ a.length<=(r*n+y.toNat)*n ^ b.length:=by
    rw [DG];exact mul_le_mul_right _ (by omega)
   omega
theorem Jr{b:List Int}(hl:a.length=b.length)(ha:iJ n a=true)(hb:iJ n b=true)(h:ji a b=true):iy n a<iy n b:=M9 0 hl ha hb h
theorem Js{n r:Nat}:∀ (ts:List (Sl Int)) (d:List Bool),r<d.length->(kI n ts d).getD r false=(d.getD r false||(ts.map Sl.l).any fun u=>iy n u==r)
 |[],d,_=>by simp [kI]
 |t :: ts,d,hr=>by
  rw [kI,Js ts _ (by simpa using hr),map_cons,any_cons];by_cases h:iy n t.l=r
  ·rw [h,getD_eq_getElem?_getD,getElem?_set_self hr];simp
  ·have:(iy n t.l==r)=false:=by simpa using h
   rw [getD_eq_getElem?_getD,getElem?_set_ne h,<- getD_eq_getElem?_getD,this,Bool.false_or]
def cU(n:Nat):Nat->Nat->List Int
 |0,_=>[]
 |k+1,r=>cU n k (r/n)++[((r%n:Nat):Int)]
theorem CA{n:Nat}(hn:1<=n):∀ (k r:Nat),r<n ^ k->(xF n k)[r]?=some (cU n k r)
 |0,r,h=>by
  obtain rfl:r=0:=by simp at h;omega
  rfl
 |k+1,r,h=>by
  have hr:r/n<n ^ k:=Nat.div_lt_of_lt_mul (by rw [Nat.mul_comm,<- Nat.pow_succ];exact h);have hx:r%n<n:=mod_lt _ hn;have:=Cy (n:=n) (CA hn k (r/n) hr) hx;rw [xF,cU]
  rwa [div_add_mod' r n] at this
theorem m9(hn:1<=n){k r:Nat}(h:r<n ^ k):iJ n (cU n k r)=true/\iy n (cU n k r)=r:=by
 obtain ⟨t,h1,h2,h3,h4⟩:=Cz hn k r h;rw [CA hn k r h] at h1;cases h1;exact ⟨h3,h4⟩
theorem fJ{x:Sl (Sl Int)}{t:Sl Int}(hx:x.l.length<=cu)(ht:∀ u ∈ x.l,u.l.length<=cu){h:ag}{K:Out->ag->Bool}(hK:K (.ret (.bool ((x.l.map Sl.l).any fun u=>u==t.l))) h=true):Sem TP 21 [an eu 1 x,an encI 1 t] h K:=by
 refine F.D5 ?_;rw [F.Ga];refine aG 0 x.l.length (zero_le _) (fun i e h'=>h'=h/\e 0=an eu 1 x/\e 1=an encI 1 t/\e 5 = .int .i64 (i:Int)/\(((x.l.map Sl.l).take i).any fun u=>u==t.l)=false) ⟨rfl,rfl,rfl,rfl,rfl⟩ ?_ ?_
 ·rintro i e h' _ hi ⟨rfl,e0,e1,e5,hq⟩ K' hn iY hr hp;have hv:x.l[i]?=some x.l[i]:=ec hi;generalize x.l[i]=u at hv;have hv2:(x.l.map Sl.l)[i]?=some u.l:=by rw [getElem?_map,hv];rfl
  rw [F.fJ.aT];simp only [e0,e1,e5,aS,reduceAdd,reduceEqDiff,reduceIte,bl hi,aU x hi,ke hv];refine aj (fc (ht u (iA hv)) ?_);simp only [aS,reduceAdd,reduceEqDiff,reduceIte]
  cases h1:u.l==t.l with
  |true=>
   simp only [aF];rw [hr,F.fJ.bt];simp only [bg,reduceEqDiff,reduceIte];rw [List.any_eq_true.2 ⟨u.l,iA hv2,h1⟩] at hK;exact hK
  |false=>
   simp only [aE,e5,aK hi hx,aq];exact hn _ _ ⟨rfl,e0,e1,rfl,xg hv2 hq h1⟩
 ·rintro e h' ⟨rfl,e0,e1,e5,hq⟩ K' iY;rw [F.fJ.aT];simp only [e0,e5,aS,reduceAdd,reduceEqDiff,reduceIte,aX];rw [iY,F.fJ.aJ];rw [kB (by simp)] at hq;rw [hq] at hK;exact hK
inductive mJ where
 |mk (nE:Int) (eZ:Option (List Int)) (parts:Option (List mJ))
mutual
def dB:mJ->List AV
 |.mk r v none=>[.int .i64 r,an encI 1 v,.au]
 |.mk r v (some ps)=>[.int .i64 r,an encI 1 v,.ay (GQ ps) 0 ps.length 3]
def GQ:List mJ->List AV
 |[]=>[]
 |p :: ps=>dB p++GQ ps
end
theorem Jt:∀ ps:List mJ,GQ ps=ps.flatMap dB
 |[]=>by rw [GQ];rfl
 |p :: ps=>by rw [GQ,Jt ps,flatMap_cons]
theorem GR(r:Int)(v:Sl Int)(p:Sl mJ):dB (.mk r v p) = [.int .i64 r,an encI 1 v,an dB 3 p]:=by
 cases p with
 |none=>rw [dB];rfl
 |some ps=>rw [dB,Jt];rfl
def mJ.nE:mJ->Int|.mk r _ _=>r
def mJ.eZ:mJ->Sl Int|.mk _ v _=>v
def mJ.parts:mJ->Sl mJ|.mk _ _ p=>p
theorem ja(p:mJ):dB p = [.int .i64 p.nE,an encI 1 p.eZ,an dB 3 p.parts]:=by cases p;exact GR _ _ _
theorem nN(p:mJ):(dB p).length=3:=by rw [ja];rfl
inductive z7:mJ->Prop
 |mk (p:mJ):p.eZ.l.length<=cu->p.parts.l.length<=cu->(∀ q ∈ p.parts.l,z7 q)->z7 p
theorem mJ.u6{p q:mJ}(h:q ∈ p.parts.l):SizeOf.sizeOf q<SizeOf.sizeOf p:=by
 obtain ⟨r,v,ps⟩:=p
 cases ps with
 |none=>cases h
 |some l=>
  have:q ∈ l:=h;have:=sizeOf_lt_of_mem this;simp only [mJ.mk.sizeOf_spec,Option.some.sizeOf_spec];omega
theorem Ju:∀ {a b:List AV},AV.cN a=true->AV.cN b=true->AV.cN (a++b)=true
 |[],_,_,h=>h
 |x :: a,b,h,g=>by
  simp only [cons_append,AV.cN,and_eq_true] at h ⊢;exact ⟨h.1,Ju h.2 g⟩
theorem u7:∀ p:mJ,AV.cN (dB p)=true:=by
 intro p
 induction hn:SizeOf.sizeOf p using Nat.strongRecOn generalizing p with
 |_ n ih=>
  subst hn;rw [ja]
  have:(an dB 3 p.parts).pure=true:=by
   cases hp:p.parts with
   |none=>rfl
   |some l=>
    simp only [an,AV.pure]
    have key:∀ m:List mJ,(∀ q ∈ m,q ∈ l)->AV.cN (m.flatMap dB)=true:=by
     intro m
     induction m with
     |nil=>intro _;rfl
     |cons q m ihm=>
      intro hm;rw [flatMap_cons];refine Ju ?_ (ihm fun x hx=>hm x (mem_cons_of_mem _ hx));exact ih _ (mJ.u6 (p:=p) (by rw [hp];exact hm q mem_cons_self)) q rfl
    exact key l fun q hq=>hq
  simp [AV.cN,this,bI jj,AV.pure]
structure ZS where
 name:bQ
 t:Sl Int
def lZ(c:ZS):List AV:=[.str c.name,an encI 1 c.t]
def ZS.ok(c:ZS):Prop:=c.name.length<=cu/\c.t.l.length<=cu
def Wh(m:fy)(p:bQ×Int):Option fy:=match m.find p.1 with
 |none=>some (m.tP p.1 p.2)
 |some k=>if k=p.2 then some (m.tP p.1 p.2) else none
def xI:List (bQ×Int)->fy->Option fy
 |[],m=>some m
 |p :: l,m=>match Wh m p with|none=>none|some m'=>xI l m'
theorem Na(m:fy)(nm:bQ)(n:Nat):Gr m nm n=Wh m (nm,(n:Int)):=rfl
theorem Dt:∀ (a b:List (bQ×Int)) (m:fy),xI (a++b) m=match xI a m with|none=>none|some m'=>xI b m'
 |[],b,m=>rfl
 |p :: a,b,m=>by
  rw [cons_append,xI,xI]
  cases Wh m p with
  |none=>rfl
  |some m'=>exact Dt a b m'
theorem Aa:∀ (cs:List dD) (m:fy),qN cs m=if cs.all iU=true then xI (eY cs) m else none
 |[],m=>rfl
 |c :: cs,m=>by
  rw [qN,all_cons]
  cases hc:iU c with
  |false=>simp
  |true=>
   rw [cond_true,Bool.true_and];by_cases k0:c.kind=0
   ·have hca:eY (c :: cs)=(c.name,(c.args.l.length:Int)) :: eY cs:=(by unfold eY;simp [k0]);rw [if_pos k0,hca,xI,Na]
    cases Wh m (c.name,(c.args.l.length:Int)) with
    |none=>simp
    |some m'=>exact Aa cs m'
   ·have hca:eY (c :: cs)=eY cs:=(by unfold eY;simp [k0]);rw [if_neg k0,hca];exact Aa cs m
theorem u9:∀ (rs:List aR) (m:fy),dM rs m=if rs.all kZ=true then xI (cV rs) m else none
 |[],m=>rfl
 |r :: rs,m=>by
  have u0:cV (r :: rs)=(r.name,(r.args.l.length:Int)) :: (eY r.body.l++cV rs):=by unfold cV;simp [zY]
  rw [dM,all_cons,u0,xI,Dq,Na];unfold kZ
  cases h1:eU r.name with
  |false=>simp
  |true=>
  cases h2:ou r.args.l with
  |false=>simp
  |true=>
  simp only [Bool.true_and,cond_true];by_cases h3:r.body.l.length<=20
  ·by_cases h4:(varsOf r).length<=12
   ·rw [ey h3,ey h4,Bool.true_and,Bool.and_true]
    cases Wh m (r.name,(r.args.l.length:Int)) with
    |none=>simp
    |some m1=>
     simp only;rw [if_neg (by omega),if_neg (by omega),Aa,Dt]
     cases h5:r.body.l.all iU with
     |false=>simp
     |true=>
      rw [if_pos rfl,Bool.true_and]
      cases xI (eY r.body.l) m1 with
      |none=>simp
      |some m2=>exact u9 rs m2
   ·rw [ep h4,Bool.and_false,Bool.and_false,Bool.false_and,if_neg (by simp)]
    cases Wh m (r.name,(r.args.l.length:Int)) with
    |none=>rfl
    |some m1=>simp only;rw [if_neg (by omega),if_pos (by omega)]
  ·rw [ep h3,Bool.false_and,Bool.false_and,if_neg (by simp)]
   cases Wh m (r.name,(r.args.l.length:Int)) with
   |none=>rfl
   |some m1=>simp only;rw [if_pos (by omega)]
def KV(l:List (bQ×Int)):Prop:=∀ p ∈ l,∀ q ∈ l,p.1=q.1->p.2=q.2
theorem GS:∀ (l:List (bQ×Int)) (m:fy),(∃ m',xI l m=some m')↔((∀ p ∈ l,∀ k,m.find p.1=some k->k=p.2)/\KV l)
 |[],m=>⟨fun _=>⟨fun p hp=>(by cases hp),fun p hp=>(by cases hp)⟩,fun _=>⟨m,rfl⟩⟩
 |p :: l,m=>by
  have fu:∀ q:bQ×Int,(m.tP p.1 p.2).find q.1=if q.1=p.1 then some p.2 else m.find q.1:=fun q=>yq m p.1 q.1 p.2
  have key:(∃ m',xI l (m.tP p.1 p.2)=some m')/\(∀ k,m.find p.1=some k->k=p.2)↔((∀ q ∈ p :: l,∀ k,m.find q.1=some k->k=q.2)/\KV (p :: l)):=by
   rw [GS l];constructor
   ·rintro ⟨⟨h1,h2⟩,h3⟩;have hp:∀ q ∈ l,q.1=p.1->p.2=q.2:=fun q hq e=>h1 q hq p.2 (by rw [fu,if_pos e]);refine ⟨fun q hq k hk=>?_,fun a ha b hb e=>?_⟩
    ·rcases mem_cons.1 hq with rfl|hq
     ·exact h3 k hk
     ·by_cases e:q.1=p.1
      ·rw [e] at hk;rw [h3 k hk,hp q hq e]
      ·exact h1 q hq k (by rw [fu,if_neg e];exact hk)
    ·rcases mem_cons.1 ha with ZR|ZR<;>rcases mem_cons.1 hb with fY|fY
     ·rw [ZR,fY]
     ·rw [ZR] at e ⊢;exact hp b fY e.symm
     ·rw [fY] at e ⊢;exact (hp a ZR e).symm
     ·exact h2 a ZR b fY e
   ·rintro ⟨h1,h2⟩;refine ⟨⟨fun q hq k hk=>?_,fun a ha b hb e=>h2 a (mem_cons_of_mem _ ha) b (mem_cons_of_mem _ hb) e⟩,fun k hk=>h1 p mem_cons_self k hk⟩;rw [fu] at hk;by_cases e:q.1=p.1
    ·rw [if_pos e] at hk;cases hk;exact h2 p mem_cons_self q (mem_cons_of_mem _ hq) e.symm
    ·rw [if_neg e] at hk;exact h1 q (mem_cons_of_mem _ hq) k hk
  rw [<- key,xI];unfold Wh
  cases hf:m.find p.1 with
  |none=>simp
  |some k=>
   by_cases hk:k=p.2
   ·subst hk;simp
   ·simp [hk]
theorem yB(rs:List aR):nK rs↔(rs.length<=60/\rs.all kZ=true/\KV (cV rs)/\∃ k,eL.dR (b7 rs) (eL.iter (b7 rs) k)):=by
 have h0:∀ p ∈ cV rs,∀ k,fy.find [] p.1=some k->k=p.2:=fun p _ k hk=>by simp [fy.find] at hk
 constructor
 ·rintro ⟨h1,⟨m,h2⟩,h3⟩;rw [u9] at h2;split at h2
  ·rename_i ha;exact ⟨h1,ha,((GS _ _).1 ⟨m,h2⟩).2,h3⟩
  ·cases h2
 ·rintro ⟨h1,h2,h3,h4⟩;obtain ⟨m,hm⟩:=(GS (cV rs) []).2 ⟨h0,h3⟩;exact ⟨h1,⟨m,by rw [u9,if_pos h2];exact hm⟩,h4⟩
theorem Nb{p:bQ×Int}(hp:x.l[i]?=some p):ah none (.dI (x.l.flatMap qq) (i*2)) h=some (.str p.1):=fE rP hp (by omega:0<2)
theorem Pb{p:bQ×Int}(hp:x.l[i]?=some p):ah none (.dI (x.l.flatMap qq) (i*2+1)) h=some (.int .i64 p.2):=fE rP hp (by omega:1<2)
set_option maxHeartbeats 1000000 in
theorem bT{rules:Sl aR}(lu:∀ r ∈ rules.l,r.ok)(iF:∀ r ∈ rules.l,r.kH){h:ag}{K:Out->ag->Bool}(hK:∀ b:Bool,(b=true↔nK rules.l)->K (.ret (.bool b)) h=true):Sem TP 31 [an aO 3 rules] h K:=by
 have gen:∀ R:Out->ag->Bool,(∀ (b:Bool) h',(b=true↔nK rules.l)->R (.ret (.bool b)) h'=true)->Sem TP 31 [an aO 3 rules] ag.empty R:=by
  intro R fin;refine F.DR ?_;rw [F.FQ];have no:∀ h',¬ nK rules.l->R (.ret (.bool false)) h'=true:=fun h' hn=>fin false h' ⟨fun h=>(by cases h),fun h=>absurd h hn⟩;simp only [aS,reduceAdd,reduceEqDiff,reduceIte];by_cases h61:60<rules.l.length
  ·simp only [ey (by omega:(60:Int)<(rules.l.length:Int)),aF];exact no _ (fun hg=>by have:=hg.kH;omega)
  have qd:rules.l.length<=60:=by omega
  have j8:rules.l.length<=cu:=by unfold cu;omega
  simp only [ep (by omega:¬ (60:Int)<(rules.l.length:Int)),aE];refine aG 0 rules.l.length (zero_le _) (fun i e h'=>e 0=an aO 3 rules/\e 3 = .int .i64 (i:Int)/\(rules.l.take i).all kZ=true) ⟨rfl,rfl,rfl⟩ ?_ ?_
  ·rintro i e h' _ hi ⟨e0,e3,ht⟩ K' hn hx hr hp;have hv:rules.l[i]?=some rules.l[i]:=ec hi;generalize rules.l[i]=r at hv;rw [F.bT.aT];simp only [e0,e3,aS,reduceAdd,reduceEqDiff,reduceIte,bl hi,aU rules hi,cX ei hv];refine aj (dh (lu r (iA hv)) (iF r (iA hv)) ?_);simp only [aS,reduceAdd,reduceEqDiff,reduceIte]
   cases hq:kZ r with
   |false=>
    simp only [Bool.not_false,aF];rw [hr,F.bT.bt]
    exact no _ (fun hg=>by
     have:=((yB _).1 hg).2.1
     rw [all_false hv hq] at this;cases this)
   |true=>
    simp only [Bool.not_true,aE,aK hi j8,aq];exact hn _ _ ⟨e0,rfl,kj hv ht hq⟩
  ·rintro e h' ⟨e0,e3,ht⟩ K' hx;rw [kB (dK _)] at ht
   have tC:∀ r ∈ rules.l,r.body.l.length<=20:=fun r hr=>by
    have:=List.all_eq_true.1 ht r hr;unfold kZ at this;simp only [and_eq_true,decide_eq_true_eq] at this;exact this.2.2.1
   rw [F.bT.aT];simp only [e0,e3,aS,reduceAdd,reduceEqDiff,reduceIte,aX];rw [hx,F.bT.aJ];simp only [e0,aS,reduceAdd,reduceEqDiff,reduceIte];refine aj (cY qd tC fun x jG=>?_);simp only [aS,reduceAdd,reduceEqDiff,reduceIte];have Bl:x.l.length<=1260:=by rw [jG];have:=xw rules.l tC;omega
   have NV:x.l.length<=cu:=by unfold cu;omega
   refine aG 0 x.l.length (zero_le _) (fun i e h'=>e 0=an aO 3 rules/\e 4=an qq 2 x/\e 5 = .int .i64 (i:Int)/\∀ a b p q,a<b->b<i->x.l[a]?=some p->x.l[b]?=some q->p.1=q.1->p.2=q.2) ⟨e0,rfl,rfl,fun a b p q h1 h2=>by omega⟩ ?_ ?_
   ·rintro i e h' _ hi ⟨e0,e4,e5,wk⟩ K1 QO O3 T2 hp1;have YA:x.l[i]?=some x.l[i]:=ec hi;generalize x.l[i]=q at YA;rw [F.bT.eC];simp only [e4,e5,aS,reduceAdd,reduceEqDiff,reduceIte,bl hi];refine aG 0 i (zero_le _) (fun j e h'=>e 0=an aO 3 rules/\e 4=an qq 2 x/\e 5 = .int .i64 (i:Int)/\e 6 = .int .i64 (j:Int)/\∀ a p,a<j->x.l[a]?=some p->p.1=q.1->p.2=q.2) ⟨e0,e4,e5,rfl,fun a p h1=>by omega⟩ ?_ ?_
    ·rintro j e h' _ hj ⟨e0,e4,e5,e6,haj⟩ K2 qM iu vL Il;have hjx:j<x.l.length:=by omega
     have hvj:x.l[j]?=some x.l[j]:=ec hjx;generalize x.l[j]=p at hvj;have Lu:i<=cu:=by omega
     rw [F.bT.kE];simp only [e4,e5,e6,aS,reduceAdd,reduceEqDiff,reduceIte,bl hj,aU x hi,aU x hjx,Nb YA,Nb hvj,sR];by_cases hq:p.1=q.1
     ·simp only [ey hq,aF,e4,e5,e6,aS,reduceAdd,reduceEqDiff,reduceIte,aU x hi,aU x hjx,Pb YA,Pb hvj,ct];by_cases Vg:p.2=q.2
      ·simp only [ey Vg,Bool.not_true,aE,aK hj Lu,aq];refine qM _ _ ⟨e0,e4,e5,rfl,fun a p' h1 h2=>?_⟩;by_cases abg:a=j
       ·subst abg;rw [hvj] at h2;cases h2;exact fun _=>Vg
       ·exact haj a p' (by omega) h2
      ·simp only [ep Vg,Bool.not_false,aF];rw [vL,F.bT.AU,T2,F.bT.k9];exact no _ (fun hg=>Vg (((yB _).1 hg).2.2.1 p (by rw [<- jG];exact iA hvj) q (by rw [<- jG];exact iA YA) hq))
     ·simp only [ep hq,aE,aK hj Lu,aq];refine qM _ _ ⟨e0,e4,e5,rfl,fun a p' h1 h2=>?_⟩;by_cases abg:a=j
      ·subst abg;rw [hvj] at h2;cases h2;exact fun e=>absurd e hq
      ·exact haj a p' (by omega) h2
    ·rintro e h' ⟨e0,e4,e5,e6,haj⟩ K2 iu;rw [F.bT.kE];simp only [e5,e6,aS,reduceAdd,reduceEqDiff,reduceIte,aX];rw [iu,F.bT.iM];simp only [e5,aS,reduceAdd,reduceEqDiff,reduceIte,aK hi NV];refine QO _ _ ⟨e0,e4,rfl,fun a b p' q' h1 h2 h3 h4=>?_⟩;by_cases hb:b=i
     ·subst hb;rw [YA] at h4;cases h4;exact haj a p' h1 h3
     ·exact wk a b p' q' h1 (by omega) h3 h4
   ·rintro e h' ⟨e0,e4,e5,wk⟩ K1 O3
    have abh:KV (cV rules.l):=fun p hp q hq e=>by
     rw [<- jG] at hp hq;obtain ⟨a,ha⟩:=mem_iff_getElem?.1 hp;obtain ⟨b,hb⟩:=mem_iff_getElem?.1 hq;have yJ:=(oB.1 ha).1;have hbl:=(oB.1 hb).1;rcases Nat.lt_trichotomy a b with h|h|h
     ·exact wk a b p q h hbl ha hb e
     ·subst h;rw [ha] at hb;cases hb;rfl
     ·exact (wk b a q p h yJ hb ha e.symm).symm
    rw [F.bT.eC];simp only [e4,e5,aS,reduceAdd,reduceEqDiff,reduceIte,aX];rw [O3,F.bT.cZ];simp only [e0,aS,reduceAdd,reduceEqDiff,reduceIte];refine aj (bC qd tC (fun hk=>?_) (fun y k hk hy=>?_))
    ·simp only [aS,reduceAdd,reduceEqDiff,reduceIte];exact no _ (fun hg=>by obtain ⟨k,h⟩:=hg.lev;exact hk k h)
    ·simp only [aS,reduceAdd,reduceEqDiff,reduceIte];exact fin true _ ⟨fun _=>(yB _).2 ⟨qd,ht,abh,k,hk⟩,fun _=>rfl⟩
 have main:=gen (fun o h'=>yes (∃ b:Bool,o = .ret (.bool b)/\(b=true↔nK rules.l))) (fun b h' hb=>cO.2 ⟨b,rfl,hb⟩);refine main.frozen (by simp [AV.cN,bI dW]) fun o h' ho=>?_;obtain ⟨b,rfl,hb⟩:=cO.1 ho;exact ⟨_,_,rfl,.scalar _ rfl,hK b hb⟩
abbrev Lk:=bQ->Nat->Bool
def iz(n:Nat)(L:Lk)(r:aR)(vs:List Int):Bool:=r.body.l.all fun c=>dy n L c (aM vs (aQ r c))
def jb(n:Nat)(r:aR)(vs:List Int):Nat:=iy n (aM vs (placesOf (varsOf r) r.args.l))
def mX(n:Nat)(r:aR)(vs:List Int):Prop:=vs.length=(varsOf r).length/\iJ n vs=true
def lq(n:Nat)(rs:List aR)(L:Lk):Prop:=∀ r ∈ rs,∀ vs,mX n r vs->iz n L r vs=true->L r.name (jb n r vs)=true
structure Over (rs:List aR) (L C:Lk):Prop where
 le:∀ nm k,L nm k=true->C nm k=true
 off:∀ nm,(∀ r ∈ rs,r.name≠nm)->∀ k,C nm k=L nm k
structure sY (n:Nat) (rs:List aR) (L L':Lk):Prop where
 over:Over rs L L'
 closed:lq n rs L'
 least:∀ C,Over rs L C->lq n rs C->∀ nm k,L' nm k=true->C nm k=true
theorem Over.refl(rs:List aR)(L:Lk):Over rs L L:=⟨fun _ _ h=>h,fun _ _ _=>rfl⟩
theorem sY.unique{L A B:Lk}(h:sY n rs L A)(g:sY n rs L B):A=B:=by
 funext nm k;rw [Bool.eq_iff_iff];exact ⟨h.least B g.over g.closed nm k,g.least A h.over h.closed nm k⟩
def vE(rs:List aR):Prop:=∀ r ∈ rs,∀ c ∈ r.body.l,c.kind=0->c.neg=true->∀ q ∈ rs,q.name≠c.name
theorem CB{A C:Lk}(hs:vE rs)(hle:∀ nm k,A nm k=true->C nm k=true)(abi:∀ nm,(∀ r ∈ rs,r.name≠nm)->∀ k,C nm k=A nm k)(hr:r ∈ rs)(hc:c ∈ r.body.l){t:List Int}(h:dy n A c t=true):dy n C c t=true:=by
 unfold dy at h ⊢;by_cases k0:c.kind=0
 ·rw [if_pos k0] at h ⊢
  cases hn:c.neg with
  |false=>
   rw [hn] at h;have:A c.name (iy n t)=true:=by simpa using h
   rw [hle _ _ this];rfl
  |true=>
   rw [hn] at h;rw [abi c.name (fun q hq=>hs r hr c hc k0 hn q hq)];exact h
 ·rw [if_neg k0] at h ⊢;exact h
theorem Vh{A C:Lk}(hs:vE rs)(hle:∀ nm k,A nm k=true->C nm k=true)(abi:∀ nm,(∀ r ∈ rs,r.name≠nm)->∀ k,C nm k=A nm k)(hr:r ∈ rs)(h:iz n A r vs=true):iz n C r vs=true:=by
 unfold iz at h ⊢;rw [List.all_eq_true] at h ⊢;exact fun c hc=>CB hs hle abi hr hc (h c hc)
inductive jD (n:Nat) (rs:List aR) (lv:eL.Lv) (L0:Lk):Nat->Lk->Prop
 |zero:jD n rs lv L0 0 L0
 |succ (l:Nat) (L L':Lk):jD n rs lv L0 l L->sY n (gz lv rs l) L L'->jD n rs lv L0 (l+1) L'
theorem jD.unique{n:Nat}{rs:List aR}{lv:eL.Lv}{L0:Lk}:∀ {l:Nat} {A B:Lk},jD n rs lv L0 l A->jD n rs lv L0 l B->A=B
 |0,A,B,h,g=>by cases h;cases g;rfl
 |l+1,A,B,h,g=>by
  cases h with
  |succ _ La _ ha la=>
   cases g with
   |succ _ Lb _ hb lb=>
    obtain rfl:=jD.unique ha hb;exact la.unique lb
theorem sY.nil{L:Lk}:sY n [] L L:=⟨.refl _ _,fun r hr=>(by cases hr),fun C ho _ nm k h=>ho.le nm k h⟩
theorem KW(h:∀ r ∈ rs,lv r.name<l):gz lv rs l = []:=by
 unfold gz;rw [filter_eq_nil_iff];intro r hr;have:=h r hr;simp;omega
theorem jD.more{n:Nat}{rs:List aR}{lv:eL.Lv}{L0:Lk}{t:Nat}{L:Lk}(h:jD n rs lv L0 t L)(ht:∀ r ∈ rs,lv r.name<t):∀ d,jD n rs lv L0 (t+d) L
 |0=>h
 |d+1=>by
  refine .succ (t+d) L L (jD.more h ht d) ?_;rw [KW fun r hr=>by have:=ht r hr;omega];exact .nil
theorem jD.same{L0:Lk}{s t:Nat}{A B:Lk}(h:jD n rs lv L0 s A)(g:jD n rs lv L0 t B)(hs:∀ r ∈ rs,lv r.name<s)(ht:∀ r ∈ rs,lv r.name<t):A=B:=by
 have h1:=h.more hs t;have g1:=g.more ht s;rw [Nat.add_comm t s] at g1;exact h1.unique g1
def GU(rs:List aR)(lv:eL.Lv):Prop:=∀ r ∈ rs,∀ c ∈ r.body.l,c.kind=0->(∃ q ∈ rs,q.name=c.name)->lv c.name+(if c.neg=true then 1 else 0)<=lv r.name
theorem GU.ZT(h:GU rs lv)(l:Nat):vE (gz lv rs l):=by
 intro r hr c hc k0 hn q hq e;unfold gz at hr hq;simp only [mem_filter,decide_eq_true_eq] at hr hq;have:=h r hr.1 c hc k0 ⟨q,hq.1,e⟩;rw [hn,if_pos rfl,<- e,hq.2,hr.2] at this;omega
theorem pZ:r ∈ gz lv rs l↔r ∈ rs/\lv r.name=l:=by
 unfold gz;simp [mem_filter]
theorem jD.rest{L0:Lk}{A:Lk}(h:jD n rs lv L0 l A):∀ {t:Nat} {B:Lk},jD n rs lv L0 t B->l<=t->((∀ r ∈ rs,r.name≠nm)\/lv nm<l)->∀ k,B nm k=A nm k:=by
 intro t
 induction t with
 |zero=>
  intro B g hl hn k;have:l=0:=by omega
  subst this;rw [h.unique g]
 |succ t ih=>
  intro B g hl hn k;by_cases e:l=t+1
  ·subst e;rw [h.unique g]
  ·cases g with
   |succ _ L _ hg lg=>
    rw [<- ih hg (by omega) hn k];refine lg.over.off nm (fun r hr e'=>?_) k;obtain ⟨h1,h2⟩:=pZ.1 hr;rcases hn with hn|hn
    ·exact hn r h1 e'
    ·rw [e'] at h2;omega
theorem Sj{A B:Lk}(h:c.kind=0->∀ k,A c.name k=B c.name k)(t:List Int):dy n A c t=dy n B c t:=by
 unfold dy;by_cases k0:c.kind=0
 ·rw [if_pos k0,if_pos k0,h k0]
 ·rw [if_neg k0,if_neg k0]
theorem jD.split{n:Nat}{rs:List aR}{lv:eL.Lv}{L0:Lk}:∀ {t:Nat} {B:Lk},jD n rs lv L0 t B->∀ l,l<=t->∃ A,jD n rs lv L0 l A
 |0,B,h,l,hl=>⟨B,by obtain rfl:l=0:=by omega
                    exact h⟩
 |t+1,B,h,l,hl=>by
  by_cases e:l=t+1
  ·subst e;exact ⟨B,h⟩
  ·cases h with
   |succ _ L _ hg lg=>exact jD.split hg l (by omega)
theorem jD.Vi{L0:Lk}(KR:GU rs lv){t:Nat}{B A:Lk}(hr:r ∈ rs)(g:jD n rs lv L0 t B)(h:jD n rs lv L0 (lv r.name+1) A)(ht:lv r.name+1<=t)(vs:List Int):iz n B r vs=iz n A r vs:=by
 unfold iz;rw [Bool.eq_iff_iff,List.all_eq_true,List.all_eq_true]
 have key:∀ c ∈ r.body.l,dy n B c (aM vs (aQ r c))=dy n A c (aM vs (aQ r c)):=fun c hc=>by
  refine Sj (fun k0 k=>?_) _;refine h.rest g ht ?_ k;by_cases hd:∃ q ∈ rs,q.name=c.name
  ·exact .inr (by have:=KR r hr c hc k0 hd;omega)
  ·exact .inl fun q hq e=>hd ⟨q,hq,e⟩
 exact ⟨fun h1 c hc=>by rw [<- key c hc];exact h1 c hc,fun h1 c hc=>by rw [key c hc];exact h1 c hc⟩
theorem jD.closed{n:Nat}{rs:List aR}{lv:eL.Lv}{L0:Lk}(KR:GU rs lv){t:Nat}{B:Lk}(g:jD n rs lv L0 t B)(ht:∀ r ∈ rs,lv r.name<t):lq n rs B:=by
 intro r hr vs ha hb;have eM:=ht r hr;obtain ⟨A,hA⟩:=g.split (lv r.name+1) eM;rw [g.Vi KR hr hA eM] at hb
 have h2:A r.name (jb n r vs)=true:=by
  cases hA with
  |succ _ L _ hg lg=>exact lg.closed r (pZ.2 ⟨hr,rfl⟩) vs ha hb
 rw [hA.rest g eM (.inr (by omega))];exact h2
theorem CC{p:Nat×List Bool}(hp:D nm=some p){rk:Nat}(sj:rk<p.2.length)(x:bQ)(k:Nat):dA (mU D nm p.1 (p.2.set rk true)) x k=(dA D x k||(decide (x=nm)&&decide (k=rk))):=by
 unfold dA mU;by_cases hx:x=nm
 ·subst hx;rw [if_pos rfl,hp];simp only [decide_true,Bool.true_and];by_cases hk:k=rk
  ·subst hk;rw [getD_eq_getElem?_getD,getElem?_set,if_pos rfl,if_pos sj];simp
  ·rw [getD_eq_getElem?_getD,getElem?_set,if_neg (fun e=>hk e.symm),<- getD_eq_getElem?_getD,ep hk,Bool.or_false]
 ·rw [if_neg hx,ep hx,Bool.false_and,Bool.or_false]
theorem abj(a b:Int):a<=QL a b/\b<=QL a b:=by unfold QL;split<;>omega
theorem Ab:∀ (ps:List Nat) (a:Int),a<=ps.foldl (fun a (p:Nat)=>QL a (p:Int)) a/\∀ p ∈ ps,(p:Int)<=ps.foldl (fun a (p:Nat)=>QL a (p:Int)) a
 |[],a=>⟨Int.le_refl _,fun p hp=>by cases hp⟩
 |q :: ps,a=>by
  have h:=Ab ps (QL a (q:Int));have g:=abj a (q:Int);refine ⟨by simp only [foldl_cons];omega,fun p hp=>?_⟩;simp only [foldl_cons];rcases mem_cons.1 hp with rfl|hp
  ·omega
  ·exact h.2 p hp
theorem ud{p:Nat}(hp:p ∈ ps):(p:Int)<=iZ ps:=(Ab ps (-1)).2 p hp
theorem Vj{k:Nat}(h:∀ p ∈ ps,p<k):iZ ps<(k:Int):=by
 unfold iZ
 have:∀ (ps:List Nat) (a:Int),a<(k:Int)->(∀ p ∈ ps,p<k)->ps.foldl (fun a (p:Nat)=>QL a (p:Int)) a<(k:Int):=by
  intro ps
  induction ps with
  |nil=>intro a ha _;exact ha
  |cons q ps ih=>
   intro a ha hq;simp only [foldl_cons];refine ih _ ?_ fun p hp=>hq p (mem_cons_of_mem _ hp);have:=hq q mem_cons_self;unfold QL;split<;>omega
 exact this ps (-1) (by omega) h
theorem Jv(ps:List Nat):-1<=iZ ps:=(Ab ps (-1)).1
theorem qQ{b:List Int}(h:∀ p ∈ ps,a.getD p 0=b.getD p 0):aM a ps=aM b ps:=by
 unfold aM;exact map_congr_left h
theorem QW(hc:c ∈ r.body.l):iZ (aQ r c)<((varsOf r).length:Int):=Vj (hG (jm hc))
theorem getD_set_ne(h:i≠v)(x:Int):(a.set v x).getD i 0=a.getD i 0:=by
 rw [getD_eq_getElem?_getD,getElem?_set,if_neg (fun e=>h e.symm),<- getD_eq_getElem?_getD]
theorem Du(h:v<a.length)(x:Int):(a.set v x).getD v 0=x:=by
 rw [getD_eq_getElem?_getD,getElem?_set,if_pos rfl,if_pos h];rfl
theorem nO{L:Lk}{u:Int}:Bj n L r vs u=true↔∀ c ∈ r.body.l,iZ (aQ r c)=u->dy n L c (aM vs (aQ r c))=true:=by
 unfold Bj;rw [List.all_eq_true];refine ⟨fun h c hc e=>?_,fun h c hc=>?_⟩
 ·have:=h c hc;rw [ey e] at this;exact this
 ·by_cases e:iZ (aQ r c)=u
  ·rw [h c hc e,Bool.or_true]
  ·rw [ep e];rfl
structure Sk (rs:List aR) (L C:Lk) (s:DB×Bool):Prop where
 over:Over rs L (dA s.1)
 le:∀ nm k,dA s.1 nm k=true->C nm k=true
theorem Sk.off{rs:List aR}{L C:Lk}{s:DB×Bool}(m:Sk rs L C s)(hC:Over rs L C):∀ nm,(∀ r ∈ rs,r.name≠nm)->∀ k,C nm k=dA s.1 nm k:=fun nm hn k=>by rw [hC.off nm hn,m.over.off nm hn]
theorem YK{L C:Lk}(BF:lq n rs C)(hr:r ∈ rs)(ha:mX n r vs)(gd:iz n C r vs=true)(hh:∀ p,s.1 r.name=some p->p.2.length=n ^ r.args.l.length)(m:Sk rs L C s):Sk rs L C (wm n r vs s):=by
 unfold wm
 cases hp:s.1 r.name with
 |none=>exact m
 |some p=>
  simp only;split
  ·exact m
  ·have mM:∀ p ∈ placesOf (varsOf r) r.args.l,p<vs.length:=by rw [ha.1];exact hG jl
   have nM:(placesOf (varsOf r) r.args.l).length=r.args.l.length:=by unfold placesOf;simp
   have sj:iy n (aM vs (placesOf (varsOf r) r.args.l))<p.2.length:=by
    have:=lX (iD ha.2 mM);rw [fM,nM] at this;rw [hh p hp];exact this
   have hC:=BF r hr vs ha gd;unfold jb at hC;refine ⟨⟨fun nm k h=>?_,fun nm hn k=>?_⟩,fun nm k h=>?_⟩
   ·simp only [CC hp sj,m.over.le nm k h,Bool.true_or]
   ·simp only [CC hp sj,ep (fun e:nm=r.name=>hn r hr e.symm),Bool.false_and,Bool.or_false];exact m.over.off nm hn k
   ·simp only [CC hp sj,or_eq_true,and_eq_true,decide_eq_true_eq] at h;rcases h with h|⟨rfl,rfl⟩
    ·exact m.le nm k h
    ·exact hC
theorem QX{N:Nat}(h:∀ p,s.1 nm=some p->p.2.length=N):∀ p,(wm n r vs s).1 nm=some p->p.2.length=N:=by
 intro p hp;unfold wm at hp
 cases hq:s.1 r.name with
 |none=>rw [hq] at hp;exact h p hp
 |some q=>
  rw [hq] at hp;simp only at hp;split at hp
  ·exact h p hp
  ·unfold mU at hp;simp only at hp;split at hp
   ·rename_i e;subst e;cases hp;simp only [length_set];exact h q hq
   ·exact h p hp
theorem Jw{n:Nat}{rs:List aR}{L C:Lk}(hs:vE rs)(hC:Over rs L C)(BF:lq n rs C){r:aR}(hr:r ∈ rs):∀ (m v:Nat) (vs:List Int) (s:DB×Bool),v+m=(varsOf r).length->mX n r vs->Sk rs L C s->(∀ p,s.1 r.name=some p->p.2.length=n ^ r.args.l.length) ->
  (∀ c ∈ r.body.l,iZ (aQ r c)<(v:Int)->dy n C c (aM vs (aQ r c))=true) ->
  Sk rs L C (eV (fun s=>s.1) (wm n r) n r m v vs s).2/\(∀ p,(eV (fun s=>s.1) (wm n r) n r m v vs s).2.1 r.name=some p->p.2.length=n ^ r.args.l.length)/\mX n r (eV (fun s=>s.1) (wm n r) n r m v vs s).1/\∀ i,i<v->(eV (fun s=>s.1) (wm n r) n r m v vs s).1.getD i 0=vs.getD i 0
 |0,v,vs,s,hv,ha,hm,hl,hc=>by
  refine ⟨YK BF hr ha ?_ hl hm,QX hl,ha,fun _ _=>rfl⟩;unfold iz;rw [List.all_eq_true];intro c mu;refine hc c mu ?_;have:=QW mu;omega
 |m+1,v,vs,s,hv,ha,hm,hl,hc=>by
  refine eE (P:=fun (a:List Int×(DB×Bool))=>Sk rs L C a.2/\(∀ p,a.2.1 r.name=some p->p.2.length=n ^ r.args.l.length)/\mX n r a.1/\∀ i,i<v->a.1.getD i 0=vs.getD i 0) ⟨hm,hl,ha,fun _ _=>rfl⟩ fun a x hx hP=>?_;obtain ⟨p1,p2,p3,p4⟩:=hP;have OY:=mem_range.1 hx;have Jl:mX n r (a.1.set v (x:Int)):=⟨by rw [length_set];exact p3.1,oy p3.2 v OY⟩
  have wk:∀ i,i<v->(a.1.set v (x:Int)).getD i 0=vs.getD i 0:=fun i hi=>by rw [getD_set_ne (by omega)];exact p4 i hi
  unfold g8;split
  ·rename_i iQ;rw [nO] at iQ
   obtain ⟨q1,q2,q3,q4⟩:=Jw hs hC BF hr m (v+1) (a.1.set v (x:Int)) a.2 (by omega) Jl p1 p2 fun c mu eM=>by
    by_cases e:iZ (aQ r c)=(v:Int)
    ·exact CB hs p1.le (p1.off hC) hr mu (iQ c mu e)
    ·have KR:iZ (aQ r c)<(v:Int):=(by omega);rw [qQ (b:=vs) fun p hp=>wk p (by have:=ud hp;omega)];exact hc c mu KR
   exact ⟨q1,q2,q3,fun i hi=>by rw [q4 i (by omega)];exact wk i hi⟩
  ·exact ⟨p1,p2,Jl,wk⟩
theorem Pc(n1:1<=n){L C:Lk}(hs:vE rs)(hC:Over rs L C)(BF:lq n rs C)(hr:r ∈ rs)(hm:Sk rs L C s)(hl:∀ p,s.1 r.name=some p->p.2.length=n ^ r.args.l.length):Sk rs L C (mH n r s):=by
 unfold mH mB;split
 ·rename_i iQ;rw [nO] at iQ;have ha:mX n r (replicate (varsOf r).length 0):=⟨by simp,yw n1 _⟩
  refine (Jw hs hC BF hr (varsOf r).length 0 _ s (by omega) ha hm hl fun c mu eM=>?_).1;have h1:=Jv (aQ r c);exact CB hs hm.le (hm.off hC) hr mu (iQ c mu (by omega))
 ·exact hm
def qz(n:Nat)(rs:List aR)(D:DB):Prop:=∀ r ∈ rs,∀ p,D r.name=some p->p.2.length=n ^ r.args.l.length
theorem Sm(h:qz n rs s.1):qz n rs (wm n r vs s).1:=fun q hq=>QX (h q hq)
theorem KX(n1:1<=n)(h:qz n rs s.1):qz n rs (mH n r s).1:=uZ (Q:=fun s:DB×Bool=>qz n rs s.1) n1 (fun vs s _ _ h=>Sm h) h
theorem Sn(n1:1<=n){L C:Lk}(hs:vE rs)(hC:Over rs L C)(BF:lq n rs C)(hm:Sk rs L C s)(hl:qz n rs s.1):Sk rs L C (oz n rs s)/\qz n rs (oz n rs s).1:=by
 unfold oz;exact eE (P:=fun s:DB×Bool=>Sk rs L C s/\qz n rs s.1) ⟨hm,hl⟩ fun s r hr h=>⟨Pc n1 hs hC BF hr h.1 (h.2 r hr),KX n1 h.2⟩
theorem Jx(n1:1<=n){C:Lk}(hs:vE rs)(hC:Over rs (dA D0) C)(BF:lq n rs C)(hl:qz n rs D0)(hr:Reach n rs D0 D):Sk rs (dA D0) C (D,false)/\qz n rs D:=by
 induction hr with
 |refl=>exact ⟨⟨.refl _ _,hC.le⟩,hl⟩
 |step D _ ih=>
  obtain ⟨h1,h2⟩:=Sn n1 hs hC BF ih.1 ih.2;exact ⟨⟨h1.over,h1.le⟩,h2⟩
def Still(s0 s:DB×Bool):Prop:=s.2=false->s=s0
theorem Sp{s0:DB×Bool}(h:Still s0 s):Still s0 (wm n r vs s):=by
 intro hf;unfold wm at hf ⊢
 cases hp:s.1 r.name with
 |none=>rw [hp] at hf;exact h hf
 |some p=>
  rw [hp] at hf;simp only at hf ⊢;split at hf
  ·rename_i e;rw [if_pos e];exact h hf
  ·cases hf
theorem xJ{n:Nat}{r:aR}{s0:DB×Bool}:∀ (m v:Nat) (vs:List Int) (s:DB×Bool),Still s0 s->Still s0 (eV (fun s=>s.1) (wm n r) n r m v vs s).2
 |0,v,vs,s,h=>Sp h
 |m+1,v,vs,s,h=>by
  refine eE (P:=fun (a:List Int×(DB×Bool))=>Still s0 a.2) h fun a x _ ha=>?_;unfold g8;split
  ·exact xJ m (v+1) _ _ ha
  ·exact ha
theorem Br{s0:DB×Bool}(h:Still s0 s):Still s0 (mH n r s):=by
 unfold mH mB;split
 ·exact xJ _ _ _ _ h
 ·exact h
theorem va{α β:Type}{st:α->DB×Bool}{f:α->β->α}(hf:∀ s0 a b,Still s0 (st a)->Still s0 (st (f a b))):∀ (l:List β) (a:α) {D:DB},st (l.foldl f a)=(D,false)->st a=(D,false)
 |[],a,D,h=>h
 |b :: l,a,D,h=>by
  have h1:=va hf l (f a b) h;have h2:Still (st a) (st (f a b)):=hf (st a) a b (fun _=>rfl);rw [<- h2 (by rw [h1]),h1]
theorem oZ{β:Type}{f:α->β->α}{l:List β}{b:β}(hb:b ∈ l)(a:α):∃ l1 l2,l=l1++b :: l2/\l.foldl f a=l2.foldl f (f (l1.foldl f a) b):=by
 obtain ⟨l1,l2,h⟩:=append_of_mem hb;exact ⟨l1,l2,h,by rw [h,foldl_append,foldl_cons]⟩
theorem Dv{m:Nat}(s0:DB×Bool)(a:List Int×(DB×Bool))(x:Nat)(h:Still s0 a.2):Still s0 (g8 (fun s=>s.1) n r v (eV (fun s=>s.1) (wm n r) n r m (v+1)) a x).2:=by
 unfold g8;split
 ·exact xJ m (v+1) _ _ h
 ·exact h
theorem Dw{n:Nat}{r:aR}:∀ (m v:Nat) (vs:List Int) (s:DB×Bool),mX n r vs->mX n r (eV (fun s=>s.1) (wm n r) n r m v vs s).1/\∀ i,i<v->(eV (fun s=>s.1) (wm n r) n r m v vs s).1.getD i 0=vs.getD i 0
 |0,v,vs,s,ha=>⟨ha,fun _ _=>rfl⟩
 |m+1,v,vs,s,ha=>by
  refine eE (P:=fun (a:List Int×(DB×Bool))=>mX n r a.1/\∀ i,i<v->a.1.getD i 0=vs.getD i 0) ⟨ha,fun _ _=>rfl⟩ fun a y hy hP=>?_;have hyn:y<n:=mem_range.1 hy;have Jl:mX n r (a.1.set v (y:Int)):=⟨by rw [length_set];exact hP.1.1,oy hP.1.2 v hyn⟩
  have GV:∀ i,i<v->(a.1.set v (y:Int)).getD i 0=vs.getD i 0:=fun i hi=>by rw [getD_set_ne (by omega)];exact hP.2 i hi
  unfold g8;split
  ·obtain ⟨w1,w2⟩:=Dw m (v+1) (a.1.set v (y:Int)) a.2 Jl;exact ⟨w1,fun i hi=>by rw [w2 i (by omega)];exact GV i hi⟩
  ·exact ⟨Jl,GV⟩
theorem Jy{n:Nat}{r:aR}{D:DB}(hD:∃ p,D r.name=some p):∀ (m v:Nat) (vs:List Int),v+m=(varsOf r).length->mX n r vs->(eV (fun s=>s.1) (wm n r) n r m v vs (D,false)).2=(D,false) ->
  ∀ us,mX n r us->(∀ i,i<v->us.getD i 0=vs.getD i 0)->iz n (dA D) r us=true->dA D r.name (jb n r us)=true
 |0,v,vs,hv,ha,hf,us,hu,wk,gd=>by
  obtain ⟨p,hp⟩:=hD
  have:us=vs:=by
   refine ext_getElem? fun i=>?_;by_cases hi:i<(varsOf r).length
   ·have:=wk i (by omega);rw [getD_eq_getElem?_getD,getD_eq_getElem?_getD,ec (by rw [hu.1];exact hi),ec (by rw [ha.1];exact hi)] at this;rw [ec (by rw [hu.1];exact hi),ec (by rw [ha.1];exact hi)];exact congrArg some this
   ·rw [getElem?_eq_none (by rw [hu.1];omega),getElem?_eq_none (by rw [ha.1];omega)]
  subst this;have hf':wm n r us (D,false)=(D,false):=hf;unfold wm at hf';simp only [hp] at hf';unfold dA jb;simp only [hp];split at hf'
  ·assumption
  ·exact absurd (congrArg Prod.snd hf') (by simp)
 |m+1,v,vs,hv,ha,hf,us,hu,wk,gd=>by
  have tI:v<us.length:=by rw [hu.1];omega
  have mN:=OX hu.2 (ec tI);obtain ⟨x,hx⟩:∃ x:Nat,us[v]=(x:Int):=⟨us[v].toNat,by omega⟩
  have OY:x<n:=by omega
  have hux:us.getD v 0=(x:Int):=by rw [getD_eq_getElem?_getD,ec tI];exact hx
  have hf0:((List.range n).foldl (g8 (fun s=>s.1) n r v (eV (fun s=>s.1) (wm n r) n r m (v+1))) (vs,((D,false):DB×Bool))).2=(D,false):=hf;obtain ⟨l1,l2,hl,Vk⟩:=oZ (f:=g8 (fun s=>s.1) n r v (eV (fun s=>s.1) (wm n r) n r m (v+1))) (mem_range.2 OY) (vs,((D,false):DB×Bool));rw [Vk] at hf0;have h1:=va (st:=fun a:List Int×(DB×Bool)=>a.2) (fun s0 a b h=>Dv s0 a b h) l2 _ hf0
  have KY:(l1.foldl (g8 (fun s=>s.1) n r v (eV (fun s=>s.1) (wm n r) n r m (v+1))) (vs,((D,false):DB×Bool))).2=(D,false):=by
   have h2:=Dv (m:=m) (n:=n) (r:=r) (v:=v) _ (l1.foldl (g8 (fun s=>s.1) n r v (eV (fun s=>s.1) (wm n r) n r m (v+1))) (vs,((D,false):DB×Bool))) x (fun _=>rfl);exact (h2 (congrArg Prod.snd h1)).symm.trans h1
  have lu:mX n r (l1.foldl (g8 (fun s=>s.1) n r v (eV (fun s=>s.1) (wm n r) n r m (v+1))) (vs,((D,false):DB×Bool))).1/\∀ i,i<v->(l1.foldl (g8 (fun s=>s.1) n r v (eV (fun s=>s.1) (wm n r) n r m (v+1))) (vs,((D,false):DB×Bool))).1.getD i 0=vs.getD i 0:=by
   refine eE (P:=fun (a:List Int×(DB×Bool))=>mX n r a.1/\∀ i,i<v->a.1.getD i 0=vs.getD i 0) ⟨ha,fun _ _=>rfl⟩ fun a y hy hP=>?_;have hyn:y<n:=mem_range.1 (by rw [hl];exact mem_append_left _ hy);have Jl:mX n r (a.1.set v (y:Int)):=⟨by rw [length_set];exact hP.1.1,oy hP.1.2 v hyn⟩
   have GV:∀ i,i<v->(a.1.set v (y:Int)).getD i 0=vs.getD i 0:=fun i hi=>by rw [getD_set_ne (by omega)];exact hP.2 i hi
   unfold g8;split
   ·obtain ⟨w1,w2⟩:=Dw (n:=n) (r:=r) m (v+1) (a.1.set v (y:Int)) a.2 Jl;exact ⟨w1,fun i hi=>by rw [w2 i (by omega)];exact GV i hi⟩
   ·exact ⟨Jl,GV⟩
  generalize UW:l1.foldl (g8 (fun s=>s.1) n r v (eV (fun s=>s.1) (wm n r) n r m (v+1))) (vs,((D,false):DB×Bool))=acc at h1 KY lu;obtain ⟨av,sv⟩:=acc;replace KY:sv=(D,false):=KY;subst KY
  have Vl:∀ i,i<v+1->us.getD i 0=(av.set v (x:Int)).getD i 0:=fun i hi=>by
   by_cases e:i=v
   ·subst e;rw [hux,Du (by rw [lu.1.1];omega)]
   ·rw [getD_set_ne e,lu.2 i (by omega)];exact wk i (by omega)
  have iQ:Bj n (dA D) r (av.set v (x:Int)) (v:Int)=true:=by
   rw [nO];intro c hc e;rw [qQ (b:=us) fun p hp=>(Vl p (by have:=ud hp;omega)).symm];unfold iz at gd;rw [List.all_eq_true] at gd;exact gd c hc
  unfold g8 at h1;simp only [iQ,if_true] at h1;exact Jy hD m (v+1) (av.set v (x:Int)) (by omega) ⟨by rw [length_set];exact lu.1.1,oy lu.1.2 v OY⟩ h1 us hu Vl gd
theorem Pd(n1:1<=n)(hD:∃ p,D r.name=some p)(h:mH n r (D,false)=(D,false))(us:List Int)(hu:mX n r us)(gd:iz n (dA D) r us=true):dA D r.name (jb n r us)=true:=by
 unfold mH mB at h
 have iQ:Bj n (dA D) r (replicate (varsOf r).length 0) (-1)=true:=by
  rw [nO];intro c hc e
  have pX:aQ r c = []:=by
   cases si:aQ r c with
   |nil=>rfl
   |cons p ps=>
    have:=ud (ps:=aQ r c) (p:=p) (by rw [si];exact mem_cons_self);omega
  unfold iz at gd;rw [List.all_eq_true] at gd;have:=gd c hc;rw [pX] at this ⊢;exact this
 simp only [iQ,if_true] at h;exact Jy hD (varsOf r).length 0 _ (by omega) ⟨by simp,yw n1 _⟩ h us hu (fun i hi=>by omega) gd
theorem Sq(n1:1<=n)(hD:∀ r ∈ rs,∃ p,D r.name=some p)(h:oz n rs (D,false)=(D,false)):lq n rs (dA D):=by
 intro r hr us hu gd;obtain ⟨l1,l2,hl,Vk⟩:=oZ (f:=fun s r=>mH n r s) hr ((D,false):DB×Bool);unfold oz at h;rw [Vk] at h;have h1:=va (st:=fun a:DB×Bool=>a) (f:=fun s r=>mH n r s) (fun s0 a b h=>Br h) l2 _ h;have h2:=va (st:=fun a:DB×Bool=>a) (f:=fun s (r:aR)=>mH n r s) (fun s0 a b h=>Br h) [r] (l1.foldl (fun s r=>mH n r s) (D,false)) (D:=D) (by simpa using h1);replace h2:l1.foldl (fun s r=>mH n r s) ((D,false):DB×Bool)=(D,false):=h2;rw [h2] at h1;exact Pd n1 (hD r hr) h1 us hu gd
theorem Sr(n1:1<=n)(hr:Reach n rs D0 D)(h:∃ p,D0 nm=some p):∃ p,D nm=some p:=by
 induction hr with
 |refl=>exact h
 |step D _ ih=>
  show ∃ p,(oz n rs (D,false)).1 nm=some p;unfold oz;refine eE (P:=fun s:DB×Bool=>∃ p,s.1 nm=some p) ih fun s r _ hs=>?_;refine uZ (Q:=fun s:DB×Bool=>∃ p,s.1 nm=some p) n1 (fun vs s _ _ hs=>?_) hs;obtain ⟨p,hp⟩:=hs;unfold wm
  cases hq:s.1 r.name with
  |none=>exact ⟨p,hp⟩
  |some q=>
   simp only;split
   ·exact ⟨p,hp⟩
   ·unfold mU;by_cases e:nm=r.name
    ·exact ⟨_,if_pos e⟩
    ·exact ⟨p,by simp only [if_neg e];exact hp⟩
theorem Nc(n1:1<=n)(hs:vE rs)(hl:qz n rs D0)(hD:∀ r ∈ rs,∃ p,D0 r.name=some p)(hr:Reach n rs D0 D)(hp:oz n rs (D,false)=(D,false)):sY n rs (dA D0) (dA D):=by
 have BF:=Sq n1 (fun r hq=>Sr n1 hr (hD r hq)) hp;refine ⟨?_,BF,fun C hC hcC=>(Jx n1 hs hC hcC hl hr).1.le⟩
 have top:Over rs (dA D0) (fun nm k=>if (∃ r ∈ rs,r.name=nm) then true else dA D0 nm k):=⟨fun nm k h=>by
   by_cases e:∃ r ∈ rs,r.name=nm
   ·simp [e]
   ·simp [e,h],fun nm hn k=>by
   rw [if_neg];rintro ⟨r,h1,h2⟩
   exact hn r h1 h2⟩
 exact (Jx (C:=fun nm k=>if (∃ r ∈ rs,r.name=nm) then true else dA D0 nm k) n1 hs top (fun r hr vs _ _=>if_pos ⟨r,hr,rfl⟩) hl hr).1.over
theorem qz.Sd{A B:DB}(h:qz n rs A)(hd:fF B A):qz n rs B:=fun r hr p hp=>by
 obtain ⟨p0,h1,_,h3⟩:=hd.back hp;rw [h3];exact h r hr p0 h1
theorem Pe(n1:1<=n)(hr:Reach n rs D0 D):fF D D0:=by
 induction hr with
 |refl=>exact fun _=>rfl
 |step D _ ih=>
  show fF (oz n rs (D,false)).1 D0;unfold oz;refine eE (P:=fun s:DB×Bool=>fF s.1 D0) ih fun s r _ hs=>?_;refine uZ (Q:=fun s:DB×Bool=>fF s.1 D0) n1 (fun vs s _ _ hs=>?_) hs;unfold wm
  cases hq:s.1 r.name with
  |none=>exact hs
  |some q=>
   simp only;split
   ·exact hs
   ·exact hs.set hq (by simp)
theorem Ss(n1:1<=n)(KR:GU rs lv)(hl:qz n rs D0)(hD:∀ r ∈ rs,∃ p,D0 r.name=some p):∀ {t:Nat} {D:DB},Ji n rs lv D0 t D->jD n rs lv (dA D0) t (dA D)/\fF D D0:=by
 intro t D h
 induction h with
 |zero=>exact ⟨.zero,fun _=>rfl⟩
 |succ l D D' _ hr hp ih=>
  have hd:=(Pe n1 hr).trans ih.2;refine ⟨.succ l _ _ ih.1 (Nc n1 (KR.ZT l) (fun r hr=>hl.Sd ih.2 r (pZ.1 hr).1) (fun r hr=>?_) hr hp),hd⟩;obtain ⟨p,h1⟩:=hD r (pZ.1 hr).1;obtain ⟨q,h2,_⟩:=ih.2.get h1;exact ⟨q,h2⟩
theorem Nd{m:nW}(hb:h.get b=some (.map es ck))(hm:qL es m)(k:bQ)(v:AV) :
  ∃ wD EK,fT .string (.map b) (.str k) v h=some (h.set b (.map wD EK))/\qL wD (m.tP k v):=by
 obtain ⟨r,hr,oE⟩:=qL.jB (k:=k) 0 hm;simp only [fT,hb,pK,pJ,if_true,hr]
 cases r with
 |none=>simp at oE;exact ⟨_,_,rfl,hm.append oE v ck⟩
 |some jv=>
  obtain ⟨n,hj,_,e⟩:=oE;obtain ⟨j,w⟩:=jv;simp only [Nat.zero_add] at hj;subst hj;exact ⟨_,_,rfl,e v⟩
theorem Nf(m:nW)(k j:bQ)(v:AV):(m.tP k v).find j=if j=k then some v else m.find j:=by
 induction m with
 |nil=>
  simp only [nW.tP,nW.find,find?_cons,find?_nil];by_cases h:j=k
  ·subst h;simp
  ·have:(j==k)=false:=by simpa using h
   rw [this,if_neg h]
 |cons p m ih=>
  simp only [nW.tP];by_cases hk:k=p.1
  ·rw [if_pos (by simpa using hk)];subst hk;simp only [nW.find,find?_cons];by_cases h:j=p.1
   ·subst h;simp
   ·have:(j==p.1)=false:=by simpa using h
    rw [this,if_neg h]
  ·rw [if_neg (by simpa using hk)];simp only [nW.find,find?_cons] at ih ⊢;by_cases h:j=p.1
   ·subst h;simp only [beq_self_eq_true,map_some];rw [if_neg (Ne.symm hk)]
   ·have:(j==p.1)=false:=by simpa using h
    rw [this];exact ih
theorem Pf{k:Nat}{l:List (Sl Int)}(h:yT n k l=true){t:Sl Int}(ht:l[i]?=some t):t.l.length=k/\iJ n t.l=true:=by
 have:=xC h (oB.1 ht).1;unfold nL at this;rw [ht] at this;simp only [and_eq_true,decide_eq_true_eq] at this;exact ⟨this.1,this.2.1⟩
def cA(ts:List iV):Lk:=fun nm k=>match ts.find? (fun t=>t.name==nm) with|some t=>t.bits.getD k false|none=>false
theorem ue{ts:List iV}(hn:(ts.map iV.name).Nodup){t:iV}(ht:ts[j]?=some t)(k:Nat):cA ts t.name k=t.bits.getD k false:=by
 have:∀ (ts:List iV),(ts.map iV.name).Nodup->∀ t ∈ ts,ts.find? (fun q=>q.name==t.name)=some t:=by
  intro ts
  induction ts with
  |nil=>intro _ t ht;cases ht
  |cons q ts ih=>
   intro hn t ht;rw [map_cons,nodup_cons] at hn;rw [find?_cons];rcases mem_cons.1 ht with rfl|ht
   ·simp
   ·have:(q.name==t.name)=false:=by
     rw [beq_eq_false_iff_ne];exact fun e=>hn.1 (by rw [e];exact List.mem_map_of_mem ht)
    rw [this];exact ih hn.2 t ht
 unfold cA;rw [this ts hn t (iA ht)]
theorem Dx{nm:bQ}:∀ (ts:List iV) (j:Nat) (t t':iV),ts[j]?=some t->t'.name=t.name->t.name≠nm->(ts.set j t').find? (fun q=>q.name==nm)=ts.find? (fun q=>q.name==nm)
 |[],j,t,t',h,_,_=>by simp at h
 |q :: ts,0,t,t',h,hn,lF=>by
  simp at h;subst h;rw [set_cons_zero,find?_cons,find?_cons];rw [beq_eq_false_iff_ne.2 (by rw [hn];exact lF),beq_eq_false_iff_ne.2 lF]
 |q :: ts,j+1,t,t',h,hn,lF=>by
  rw [getElem?_cons_succ] at h;rw [set_cons_succ,find?_cons,find?_cons,Dx ts j t t' h hn lF]
theorem CD:∀ (ts:List iV) (j:Nat) (t t':iV),ts[j]?=some t->t'.name=t.name->(ts.set j t').map iV.name=ts.map iV.name
 |[],j,t,t',h,_=>by simp at h
 |q :: ts,0,t,t',h,hn=>by simp at h;subst h;simp [hn]
 |q :: ts,j+1,t,t',h,hn=>by
  rw [getElem?_cons_succ] at h;rw [set_cons_succ,map_cons,map_cons,CD ts j t t' h hn]
theorem CE{ts:List iV}(hn:(ts.map iV.name).Nodup){t:iV}(ht:ts[j]?=some t){rk:Nat}(sj:rk<t.bits.length)(x:bQ)(k:Nat) :
  cA (ts.set j ⟨t.name,t.k,t.bits.set rk true⟩) x k=(cA ts x k||(decide (x=t.name)&&decide (k=rk))):=by
 have hj:=(oB.1 ht).1;by_cases hx:x=t.name
 ·subst hx;have h1:=ue (ts:=ts.set j ⟨t.name,t.k,t.bits.set rk true⟩) (by rw [CD ts j t ⟨t.name,t.k,t.bits.set rk true⟩ ht rfl];exact hn) (j:=j) (t:=⟨t.name,t.k,t.bits.set rk true⟩) (by rw [getElem?_set,if_pos rfl,if_pos hj]) k;simp only at h1;rw [h1,ue hn ht k,ey rfl,Bool.true_and];by_cases hk:k=rk
  ·subst hk;rw [getD_eq_getElem?_getD,getElem?_set,if_pos rfl,if_pos sj];simp
  ·rw [getD_eq_getElem?_getD,getElem?_set,if_neg (fun e=>hk e.symm),<- getD_eq_getElem?_getD,ep hk,Bool.or_false]
 ·rw [ep hx,Bool.false_and,Bool.or_false];unfold cA;rw [Dx ts j t ⟨t.name,t.k,t.bits.set rk true⟩ ht rfl (fun e=>hx e.symm)]
def Hv(n:Nat)(r:aR)(j:Nat)(vs:List Int)(s:List iV×Bool):List iV×Bool:=
 match s.1[j]? with
 |none=>s
 |some t=>if t.bits.getD (jb n r vs) false=true then s else if iz n (cA s.1) r vs=true then (s.1.set j ⟨t.name,t.k,t.bits.set (jb n r vs) true⟩,true) else s
def gu(n:Nat)(r:aR)(j m:Nat)(s:List iV×Bool):List iV×Bool:=(List.range m).foldl (fun s i=>Hv n r j (cU n (varsOf r).length i) s) s
def nP(n:Nat)(jx:bQ->Nat)(rs:List aR)(s:List iV×Bool):List iV×Bool:=rs.foldl (fun s r=>gu n r (jx r.name) (n ^ (varsOf r).length) s) s
theorem xK(n:Nat)(r:aR)(j m:Nat)(s:List iV×Bool):gu n r j (m+1) s=Hv n r j (cU n (varsOf r).length m) (gu n r j m s):=by
 unfold gu;rw [range_succ,foldl_append];rfl
theorem Pg(s:List iV×Bool)(r:aR):nP n jx (rs++[r]) s=gu n r (jx r.name) (n ^ (varsOf r).length) (nP n jx rs s):=by
 unfold nP;rw [foldl_append];rfl
structure ir (n:Nat) (jx:bQ->Nat) (rs:List aR) (ts:List iV):Prop where
 nodup:(ts.map iV.name).Nodup
 at_:∀ r ∈ rs,∃ t,ts[jx r.name]?=some t/\t.name=r.name/\t.bits.length=n ^ r.args.l.length
theorem GW(ha:mX n r vs):jb n r vs<n ^ r.args.l.length:=by
 have mM:∀ p ∈ placesOf (varsOf r) r.args.l,p<vs.length:=by rw [ha.1];exact hG jl
 have nM:(placesOf (varsOf r) r.args.l).length=r.args.l.length:=by unfold placesOf;simp
 have:=lX (iD ha.2 mM);rw [fM,nM] at this;exact this
theorem Ph{s:List iV×Bool}(h:ir n jx rs s.1):ir n jx rs (Hv n r j vs s).1:=by
 unfold Hv
 cases ht:s.1[j]? with
 |none=>exact h
 |some t=>
  simp only;split
  ·exact h
  ·split
   ·refine ⟨by show ((s.1.set j ⟨t.name,t.k,t.bits.set (jb n r vs) true⟩).map iV.name).Nodup;rw [CD s.1 j t ⟨t.name,t.k,t.bits.set (jb n r vs) true⟩ ht rfl];exact h.nodup,fun q hq=>?_⟩;obtain ⟨u,h1,h2,h3⟩:=h.at_ q hq;simp only;by_cases e:jx q.name=j
    ·rw [e] at h1 ⊢;rw [ht] at h1;cases h1;exact ⟨⟨t.name,t.k,t.bits.set (jb n r vs) true⟩,by rw [getElem?_set,if_pos rfl,if_pos (oB.1 ht).1],h2,by simpa using h3⟩
    ·exact ⟨u,by rw [getElem?_set,if_neg (fun e'=>e e'.symm)];exact h1,h2,h3⟩
   ·exact h
structure KZ (rs:List aR) (L C:Lk) (s:List iV×Bool):Prop where
 over:Over rs L (cA s.1)
 le:∀ nm k,cA s.1 nm k=true->C nm k=true
theorem YL{L C:Lk}(hs:vE rs)(hC:Over rs L C)(BF:lq n rs C)(hr:r ∈ rs)(ha:mX n r vs){s:List iV×Bool}(ho:ir n jx rs s.1)(m:KZ rs L C s):KZ rs L C (Hv n r (jx r.name) vs s):=by
 unfold Hv;obtain ⟨t,ht,Em,z6⟩:=ho.at_ r hr;rw [ht];simp only;split
 ·exact m
 ·split
  ·rename_i gd;have sj:jb n r vs<t.bits.length:=by rw [z6];exact GW ha
   have agp:=Vh hs m.le (fun nm hn k=>by rw [hC.off nm hn,m.over.off nm hn]) hr gd;have hcC:=BF r hr vs ha agp;refine ⟨⟨fun nm k h=>?_,fun nm hn k=>?_⟩,fun nm k h=>?_⟩
   ·simp only [CE ho.nodup ht sj,m.over.le nm k h,Bool.true_or]
   ·simp only [CE ho.nodup ht sj,ep (fun e:nm=t.name=>hn r hr (by rw [e,Em])),Bool.false_and,Bool.or_false];exact m.over.off nm hn k
   ·simp only [CE ho.nodup ht sj,or_eq_true,and_eq_true,decide_eq_true_eq] at h;rcases h with h|⟨h1,h2⟩
    ·exact m.le nm k h
    ·rw [h1,Em,h2];exact hcC
  ·exact m
theorem jA(n:Nat):∀ k r,(cU n k r).length=k
 |0,_=>rfl
 |k+1,r=>by rw [cU,length_append,jA n k];rfl
theorem xL(n1:1<=n)(hi:i<n ^ (varsOf r).length):mX n r (cU n (varsOf r).length i):=⟨jA _ _ _,(m9 n1 hi).1⟩
theorem GX(n1:1<=n){us:List Int}(ha:mX n r us):∃ i,i<n ^ (varsOf r).length/\us=cU n (varsOf r).length i:=by
 have eM:iy n us<n ^ (varsOf r).length:=by have:=lX ha.2;rwa [ha.1] at this
 refine ⟨iy n us,eM,?_⟩;obtain ⟨h1,h2⟩:=m9 n1 eM;exact KU (by rw [jA,ha.1]) ha.2 h1 h2.symm
theorem Pj(n1:1<=n){L C:Lk}(hs:vE rs)(hC:Over rs L C)(BF:lq n rs C)(hr:r ∈ rs){s:List iV×Bool}(ho:ir n jx rs s.1)(m:KZ rs L C s) :
  ir n jx rs (gu n r (jx r.name) (n ^ (varsOf r).length) s).1/\KZ rs L C (gu n r (jx r.name) (n ^ (varsOf r).length) s):=by
 unfold gu;exact eE (P:=fun s:List iV×Bool=>ir n jx rs s.1/\KZ rs L C s) ⟨ho,m⟩ fun s i hi h=>⟨Ph h.1,YL hs hC BF hr (xL n1 (mem_range.1 hi)) h.1 h.2⟩
theorem Su(n1:1<=n){L C:Lk}(hs:vE rs)(hC:Over rs L C)(BF:lq n rs C){s:List iV×Bool}(ho:ir n jx rs s.1)(m:KZ rs L C s):ir n jx rs (nP n jx rs s).1/\KZ rs L C (nP n jx rs s):=by
 unfold nP;exact eE (P:=fun s:List iV×Bool=>ir n jx rs s.1/\KZ rs L C s) ⟨ho,m⟩ fun s r hr h=>Pj n1 hs hC BF hr h.1 h.2
def xM(s0 s:List iV×Bool):Prop:=s.2=false->s=s0
theorem CF{s0 s:List iV×Bool}(h:xM s0 s):xM s0 (Hv n r j vs s):=by
 intro hf;unfold Hv at hf ⊢
 cases ht:s.1[j]? with
 |none=>rw [ht] at hf;exact h hf
 |some t=>
  rw [ht] at hf;simp only at hf ⊢;split at hf
  ·rename_i e;rw [if_pos e];exact h hf
  ·rename_i e;rw [if_neg e];split at hf
   ·cases hf
   ·rename_i e2;rw [if_neg e2];exact h hf
theorem Bt{m:Nat}{s0 s:List iV×Bool}(h:xM s0 s):xM s0 (gu n r j m s):=by
 unfold gu;exact eE (P:=fun s=>xM s0 s) h fun s i _ hs=>CF hs
theorem qb{β:Type}{f:List iV×Bool->β->List iV×Bool}(hf:∀ s0 a b,xM s0 a->xM s0 (f a b)):∀ (l:List β) (a:List iV×Bool) {D:List iV},l.foldl f a=(D,false)->a=(D,false)
 |[],a,D,h=>h
 |b :: l,a,D,h=>by
  have h1:=qb hf l (f a b) h;have h2:xM a (f a b):=hf a a b (fun _=>rfl);rw [<- h2 (by rw [h1]),h1]
theorem Pk(n1:1<=n){ts:List iV}(hn:(ts.map iV.name).Nodup){t:iV}(ht:ts[j]?=some t)(Em:t.name=r.name)(h:gu n r j (n ^ (varsOf r).length) (ts,false)=(ts,false))(us:List Int)(hu:mX n r us)(gd:iz n (cA ts) r us=true):cA ts r.name (jb n r us)=true:=by
 obtain ⟨i,hi,rfl⟩:=GX n1 hu;obtain ⟨l1,l2,hl,Vk⟩:=oZ (f:=fun s i=>Hv n r j (cU n (varsOf r).length i) s) (mem_range.2 hi) ((ts,false):List iV×Bool);unfold gu at h;rw [Vk] at h;have h1:=qb (f:=fun s i=>Hv n r j (cU n (varsOf r).length i) s) (fun s0 a b h=>CF h) l2 _ h;have h2:=qb (f:=fun s i=>Hv n r j (cU n (varsOf r).length i) s) (fun s0 a b h=>CF h) [i] (l1.foldl (fun s i=>Hv n r j (cU n (varsOf r).length i) s) (ts,false)) (D:=ts) (by simpa using h1);rw [h2] at h1;unfold Hv at h1;simp only [ht,gd,if_true] at h1;have:=ue hn ht (jb n r (cU n (varsOf r).length i));rw [<- Em,this];split at h1
 ·assumption
 ·exact absurd (congrArg Prod.snd h1) (by simp)
theorem Sv(n1:1<=n){ts:List iV}(ho:ir n jx rs ts)(h:nP n jx rs (ts,false)=(ts,false)):lq n rs (cA ts):=by
 intro r hr us hu gd;obtain ⟨t,ht,Em,_⟩:=ho.at_ r hr;obtain ⟨l1,l2,hl,Vk⟩:=oZ (f:=fun s (r:aR)=>gu n r (jx r.name) (n ^ (varsOf r).length) s) hr ((ts,false):List iV×Bool);unfold nP at h;rw [Vk] at h;have h1:=qb (f:=fun s (r:aR)=>gu n r (jx r.name) (n ^ (varsOf r).length) s) (fun s0 a b h=>Bt h) l2 _ h;have h2:=qb (f:=fun s (r:aR)=>gu n r (jx r.name) (n ^ (varsOf r).length) s) (fun s0 a b h=>Bt h) [r] (l1.foldl (fun s (r:aR)=>gu n r (jx r.name) (n ^ (varsOf r).length) s) (ts,false)) (D:=ts) (by simpa using h1);rw [h2] at h1;exact Pk n1 ho.nodup ht Em h1 us hu gd
inductive vb (n:Nat) (jx:bQ->Nat) (rs:List aR) (T0:List iV):List iV->Prop
 |refl:vb n jx rs T0 T0
 |step (T:List iV):vb n jx rs T0 T->vb n jx rs T0 (nP n jx rs (T,false)).1
theorem Vm{s:List iV×Bool}(ho:ir n jx qs s.1):ir n jx qs (nP n jx rs s).1:=by
 unfold nP;refine eE (P:=fun s:List iV×Bool=>ir n jx qs s.1) ho fun s r _ h=>?_;unfold gu;exact eE (P:=fun s:List iV×Bool=>ir n jx qs s.1) h fun s i _ h=>Ph h
theorem ir.sub{ts:List iV}(h:ir n jx rs ts)(hs:∀ r ∈ qs,r ∈ rs):ir n jx qs ts:=⟨h.nodup,fun r hr=>h.at_ r (hs r hr)⟩
theorem yC{T0 T:List iV}(ho:ir n jx qs T0)(hr:vb n jx rs T0 T):ir n jx qs T:=by
 induction hr with
 |refl=>exact ho
 |step T _ ih=>exact Vm (s:=(T,false)) ih
theorem K4(n1:1<=n){T0 T:List iV}(hs:vE rs)(ho:ir n jx rs T0)(hr:vb n jx rs T0 T)(hp:nP n jx rs (T,false)=(T,false)):sY n rs (cA T0) (cA T):=by
 have key:∀ C,Over rs (cA T0) C->lq n rs C->KZ rs (cA T0) C (T,false):=fun C hC BF=>by
  clear hp
  induction hr with
  |refl=>exact ⟨.refl _ _,hC.le⟩
  |step T hT ih=>
   obtain ⟨_,h2⟩:=Su n1 hs hC BF (s:=(T,false)) (yC ho hT) ih;exact ⟨h2.over,h2.le⟩
 refine ⟨?_,Sv n1 (yC ho hr) hp,fun C hC hcC=>(key C hC hcC).le⟩
 have top:Over rs (cA T0) (fun nm k=>if (∃ r ∈ rs,r.name=nm) then true else cA T0 nm k):=⟨fun nm k h=>by
   by_cases e:∃ r ∈ rs,r.name=nm
   ·simp [e]
   ·simp [e,h],fun nm hn k=>by
   rw [if_neg];rintro ⟨r,h1,h2⟩
   exact hn r h1 h2⟩
 exact (key (fun nm k=>if (∃ r ∈ rs,r.name=nm) then true else cA T0 nm k) top fun r hr vs _ _=>if_pos ⟨r,hr,rfl⟩).over
inductive RunT (n:Nat) (jx:bQ->Nat) (rs:List aR) (lv:eL.Lv) (T0:List iV):Nat->List iV->Prop
 |zero:RunT n jx rs lv T0 0 T0
 |succ (l:Nat) (T T':List iV):RunT n jx rs lv T0 l T->vb n jx (gz lv rs l) T T'->nP n jx (gz lv rs l) (T',false)=(T',false)->RunT n jx rs lv T0 (l+1) T'
theorem GY(n1:1<=n){T0:List iV}(KR:GU rs lv)(ho:ir n jx rs T0):∀ {t:Nat} {T:List iV},RunT n jx rs lv T0 t T->jD n rs lv (cA T0) t (cA T)/\ir n jx rs T:=by
 intro t T h
 induction h with
 |zero=>exact ⟨.zero,ho⟩
 |succ l T T' _ hr hp ih=>
  exact ⟨.succ l _ _ ih.1 (K4 n1 (KR.ZT l) (ih.2.sub fun r hr=>(pZ.1 hr).1) hr hp),yC ih.2 hr⟩
def Pm(es:List Entry)(ck:Nat)(m:fy):Prop:=mF es m/\kq es ck/\(m.map (·.1)).Nodup
theorem Bu{v w:AV}(hP:h.get P=some (.cells [v,.map M,w]))(hM:h.get M=some (.map es ck))(hm0:Pm es ck m)(QI:P<h.next)(UD:M<h.next){xs:Sl bQ}
  (hK:∀ h' wD EK,h'.get M=some (.map wD EK)->Pm wD EK (m.tP nm xs.l.length)->(∀ b,b<h.next->b≠M->h'.get b=h.get b)->h.next<=h'.next->K (.ret (.bool (R8 m nm xs.l.length))) h'=true) :
  Sem TP 131 [.ptr P 0,.agg [.str nm,an encS 1 xs]] h K:=by
 obtain ⟨hm,hB,Ty⟩:=hm0;unfold R8 at hK;refine F.tR ?_;rw [F.uL];have hb:eR (.agg [.str nm,an encS 1 xs])=some (kr nm xs):=cG (Cn nm xs);simp only [hb,aq];have g0:(ag.alloc h (.cells (kr nm xs))).get h.next=some (.cells (kr nm xs)):=aD _ _
 have gP:(ag.alloc h (.cells (kr nm xs))).get P=some (.cells [v,.map M,w]):=by rw [ag.aW,if_neg (by omega)];exact hP
 have gM:(ag.alloc h (.cells (kr nm xs))).get M=some (.map es ck):=by rw [ag.aW,if_neg (by omega)];exact hM
 have gx:bG h (ag.alloc h (.cells (kr nm xs))):=bG.alloc _ _;generalize (ag.alloc h (.cells (kr nm xs)))=H at g0 gP gM gx ⊢;have Tw:∀ x,(H.set M x).get h.next=some (.cells (kr nm xs)):=fun x=>by rw [ag.aP,if_neg (by omega)];exact g0
 obtain ⟨wD,EK,hu,hue⟩:=Fw gM hm nm xs.l.length;simp only [aS,reduceAdd,reduceEqDiff,reduceIte,bD,ai gP,ai g0,kr,uK gM hm,hu];have fin:=hK (H.set M (.map wD EK)) wD EK (by rw [ag.aP,if_pos rfl]) ⟨hue,ze gM hB hu (by rw [ag.aP,if_pos rfl]),Ja Ty nm _⟩ (fun b hb lF=>by rw [ag.aP,if_neg lF];exact gx.get b hb) (by rw [ag.bq];exact gx.next)
 cases hf:m.find nm with
 |none=>
  rw [hf] at fin;simp only [isSome_none,Bool.not_false,aF];exact fin
 |some k=>
  rw [hf] at fin;simp only [isSome_some,Bool.not_true,aE,getD_some,aS,reduceAdd,reduceEqDiff,reduceIte,ai (Tw _),kr,ct];exact fin
set_option maxHeartbeats 1000000 in
theorem Sw(lu:∀ r ∈ rules.l,r.ok)(iF:∀ r ∈ rules.l,r.kH)
  (pX:¬ nK rules.l->∀ h',(∀ b,b<h.next->h'.get b=h.get b)->K (.ret (.tuple [.gC,.bool false])) h'=true)
  (GF:∀ h' P A M ks k,nK rules.l->eL.dR (b7 rules.l) (eL.iter (b7 rules.l) k)->h'.get P=some (.cells [an aO 3 rules,.map A,.map M])->fZ (ax rules.l) h' M ks (eL.iter (b7 rules.l) k)->ks.Nodup->P<h'.next->M<h'.next->∀ m es ck,dM rules.l []=some m->h'.get A=some (.map es ck)->Pm es ck m->h.next<=A->A<M->M<P->(∀ b,b<h.next->h'.get b=h.get b)->K (.ret (.tuple [.ptr P 0,.bool true])) h'=true):Sem TP 83 [an aO 3 rules] h K:=by
 refine F.KA ?_;rw [F.Mt];simp only [ag.aV,afP,afQ,aq]
 have gA:(ag.alloc (ag.alloc (ag.alloc h (.map [] 0)) (.map [] 0)) (.cells [an aO 3 rules,.map h.next,.map (h.next+1)])).get h.next=some (.map [] 0):=by
  rw [ag.aW,ag.aV,ag.aV,if_neg (by omega),ag.aW,ag.aV,if_neg (by omega)];exact aD _ _
 have gM:(ag.alloc (ag.alloc (ag.alloc h (.map [] 0)) (.map [] 0)) (.cells [an aO 3 rules,.map h.next,.map (h.next+1)])).get (h.next+1)=some (.map [] 0):=by
  rw [ag.aW,ag.aV,ag.aV,if_neg (by omega)];exact aD _ _
 have gP:(ag.alloc (ag.alloc (ag.alloc h (.map [] 0)) (.map [] 0)) (.cells [an aO 3 rules,.map h.next,.map (h.next+1)])).get (h.next+1+1)=some (.cells [an aO 3 rules,.map h.next,.map (h.next+1)]):=aD _ _;have gn:(ag.alloc (ag.alloc (ag.alloc h (.map [] 0)) (.map [] 0)) (.cells [an aO 3 rules,.map h.next,.map (h.next+1)])).next=h.next+1+1+1:=rfl
 have gF:∀ b,b<h.next->(ag.alloc (ag.alloc (ag.alloc h (.map [] 0)) (.map [] 0)) (.cells [an aO 3 rules,.map h.next,.map (h.next+1)])).get b=h.get b:=(((bG.alloc _ _).trans (bG.alloc _ _)).trans (bG.alloc _ _)).get
 generalize (ag.alloc (ag.alloc (ag.alloc h (.map [] 0)) (.map [] 0)) (.cells [an aO 3 rules,.map h.next,.map (h.next+1)]))=H0 at gA gM gP gn gF ⊢;obtain ⟨A,hA⟩:∃ A,A=h.next:=⟨_,rfl⟩
 obtain ⟨M,hM⟩:∃ M,M=h.next+1:=⟨_,rfl⟩
 obtain ⟨P,hP⟩:∃ P,P=h.next+1+1:=⟨_,rfl⟩
 rw [<- hP] at gP gn ⊢;rw [<- hM] at gM gP ⊢;rw [<- hA] at gA gP gF ⊢;have hAM:A<M:=by omega
 have hMP:M<P:=by omega
 clear hM hP;simp only [aS,reduceAdd,reduceEqDiff,reduceIte];by_cases h61:60<rules.l.length
 ·simp only [ey (by omega:(60:Int)<(rules.l.length:Int)),aF];exact pX (fun hg=>by have:=hg.kH;omega) _ (fun b hb=>gF b (by omega))
 have qd:rules.l.length<=60:=by omega
 simp only [ep (by omega:¬ (60:Int)<(rules.l.length:Int)),aE];have j8:rules.l.length<=cu:=by unfold cu;omega
 have bad:dM rules.l []=none->∀ h',(∀ b,b<A->h'.get b=h.get b)->K (.ret (.tuple [.gC,.bool false])) h'=true:=fun hn h' hf=>pX (fun hg=>by obtain ⟨m,hm⟩:=hg.go;rw [hn] at hm;cases hm) h' (fun b hb=>hf b (by omega))
 refine aG 0 rules.l.length (zero_le _) (fun i e h'=>∃ m ks es ck,(∀ b,b<A->h'.get b=h.get b)/\dM rules.l []=dM (rules.l.drop i) m/\h'.get A=some (.map es ck)/\Pm es ck m/\fZ (ax (rules.l.take i)) h' M ks (fun _=>0)/\ks.Nodup /\
  h'.get P=some (.cells [an aO 3 rules,.map A,.map M])/\P<h'.next/\e 4 = .ptr P 0/\e 17=an aO 3 rules/\e 18 = .int .i64 (rules.l.length:Int)/\e 19 = .int .i64 (i:Int))
  ⟨[],[],[],0,gF,rfl,gA,⟨trivial,kq.nil 0,nodup_nil⟩,⟨[],0,[],gM,trivial,kq.nil 0,rfl,fun x=>by simp [ax,fy.find]⟩,nodup_nil,gP,by omega,rfl,rfl,rfl,rfl⟩ ?_ ?_
 ·rintro i e h' _ hi ⟨m,ks,es,ck,hF,hm,qA,hmI,la,Jj,qP,QI,e4,mW,TA,Jz⟩ K' hn hx hr hp;have hv:rules.l[i]?=some rules.l[i]:=ec hi;generalize rules.l[i]=r at hv;have Ng:=lu r (iA hv);have hrf:=iF r (iA hv);obtain ⟨H,EM,g1,go,gn1⟩:=cR (h:=h') (zs:=[.str [],.au,.au]) (cs:=aO r) (n:=3) rfl rfl (jJ r);have pA:H.get A=some (.map es ck):=by rw [go A (by omega)];exact qA
  have pP:H.get P=some (.cells [an aO 3 rules,.map A,.map M]):=by rw [go P (by omega)];exact qP
  have pl:fZ (ax (rules.l.take i)) H M ks (fun _=>0):=la.eW (go M (by omega));rw [Jc hv,dM] at hm;rw [F.cw.aT];simp only [e4,mW,TA,Jz,aS,reduceAdd,reduceEqDiff,reduceIte,bl hi,aU rules hi,cX ei hv,EM];simp only [aS,reduceAdd,reduceEqDiff,reduceIte,ai g1,aO,QH];refine aj (Gp Ng.2.1 ?_);simp only [aS,reduceAdd,reduceEqDiff,reduceIte]
  cases ha:oo r.name r.args.l with
  |false=>
   rw [ha,cond_false] at hm;simp only [Bool.not_false,aF];rw [hr,F.cw.bt];exact bad hm _ (fun b hb=>by rw [go b (by omega)];exact hF b hb)
  |true=>
  rw [ha,cond_true,Je] at hm;simp only [Bool.not_true,aE,aS,reduceAdd,reduceEqDiff,reduceIte,ai g1,aO,QH,e4];refine aj (Bu pP pA hmI (by omega) (by omega) fun h3 es3 ck3 a1 a2 a3 a4=>?_);simp only [aS,reduceAdd,reduceEqDiff,reduceIte]
  cases hq:R8 m r.name r.args.l.length with
  |false=>
   rw [hq,if_neg (by simp)] at hm;simp only [Bool.not_false,aF];rw [hr,F.cw.bt];exact bad hm _ (fun b hb=>by rw [a3 b (by omega) (by omega),go b (by omega)];exact hF b hb)
  |true=>
  rw [hq,if_pos rfl] at hm;have g3:h3.get h'.next=some (.cells (aO r)):=by rw [a3 _ (by omega) (by omega)];exact g1
  have P3:h3.get P=some (.cells [an aO 3 rules,.map A,.map M]):=by rw [a3 P (by omega) (by omega)];exact pP
  have l3:fZ (ax (rules.l.take i)) h3 M ks (fun _=>0):=pl.eW (a3 M (by omega) (by omega));simp only [Bool.not_true,aE,aS,reduceAdd,reduceEqDiff,reduceIte,ai g3,aO];by_cases tC:20<r.body.l.length
  ·simp only at hm;rw [if_pos tC] at hm;simp only [ey (by omega:(20:Int)<(r.body.l.length:Int)),aF];rw [hr,F.cw.bt];exact bad hm _ (fun b hb=>by rw [a3 b (by omega) (by omega),go b (by omega)];exact hF b hb)
  simp only at hm;rw [if_neg tC] at hm;simp only [ep (by omega:¬ (20:Int)<(r.body.l.length:Int)),aE,aS,reduceAdd,reduceEqDiff,reduceIte,ai g3,aO,om];refine aj (dO hrf fun x jG=>?_);simp only [aS,reduceAdd,reduceEqDiff,reduceIte,jG];by_cases Cp:12<(varsOf r).length
  ·rw [if_pos Cp] at hm;simp only [ey (by omega:(12:Int)<((varsOf r).length:Int)),aF];rw [hr,F.cw.bt];exact bad hm _ (fun b hb=>by rw [a3 b (by omega) (by omega),go b (by omega)];exact hF b hb)
  rw [if_neg Cp] at hm;simp only [ep (by omega:¬ (12:Int)<((varsOf r).length:Int)),aE,aS,reduceAdd,reduceEqDiff,reduceIte,ai g3,aO];have pH:r.body.l.length<=cu:=by unfold cu;omega
  refine aG 0 r.body.l.length (zero_le _) (fun j e h2=>∃ m2 es2 ck2,(∀ b,b<A->h2.get b=h.get b)/\qN r.body.l (m.tP r.name r.args.l.length)=qN (r.body.l.drop j) m2/\h2.get A=some (.map es2 ck2)/\Pm es2 ck2 m2/\fZ (ax (rules.l.take i)) h2 M ks (fun _=>0) /\
   h2.get P=some (.cells [an aO 3 rules,.map A,.map M])/\h2.get h'.next=some (.cells (aO r))/\h'.next<h2.next/\e 4 = .ptr P 0/\e 6 = .ptr h'.next 0/\e 17=an aO 3 rules/\e 18 = .int .i64 (rules.l.length:Int)/\e 19 = .int .i64 (i:Int) /\
   e 47=an bR 4 r.body/\e 48 = .int .i64 (r.body.l.length:Int)/\e 49 = .int .i64 (j:Int))
   ⟨_,es3,ck3,fun b hb=>by rw [a3 b (by omega) (by omega),go b (by omega)];exact hF b hb,rfl,a1,a2,l3,P3,g3,by omega,e4,rfl,mW,TA,Jz,rfl,rfl,rfl⟩ ?_ ?_
  ·rintro j e h2 _ hj ⟨m2,es2,ck2,Vn,HD,qA2,YM,R7,qP2,qR2,qM,e4,e6,mW,TA,Jz,e47,e48,e49⟩ K2 sV iu vL Il;have hc:r.body.l[j]?=some r.body.l[j]:=ec hj;generalize r.body.l[j]=c at hc;have MW:=Ng.2.2.2.2 c (iA hc);obtain ⟨H2,qX,k1,ko,kn⟩:=cR (h:=h2) (zs:=[.int .i64 0,.bool false,.str [],.au]) (cs:=bR c) (n:=4) rfl rfl (gQ c);have kA:H2.get A=some (.map es2 ck2):=by rw [ko A (by omega)];exact qA2
   have kP:H2.get P=some (.cells [an aO 3 rules,.map A,.map M]):=by rw [ko P (by omega)];exact qP2
   have kR:H2.get h'.next=some (.cells (aO r)):=by rw [ko _ (by omega)];exact qR2
   have kl:fZ (ax (rules.l.take i)) H2 M ks (fun _=>0):=R7.eW (ko M (by omega));rw [Jc hc,qN] at HD;rw [F.cw.eC];simp only [e4,e6,mW,TA,Jz,e47,e48,e49,aS,reduceAdd,reduceEqDiff,reduceIte,bl hj,aU r.body hj,cX gh hc,qX];simp only [aS,reduceAdd,reduceEqDiff,reduceIte,ai k1,bR,EL];refine aj (iq MW ?_);simp only [aS,reduceAdd,reduceEqDiff,reduceIte]
   cases hco:iU c with
   |false=>
    rw [hco,cond_false] at HD;rw [HD] at hm;simp only [Bool.not_false,aF];rw [vL,F.cw.k9,hr,F.cw.bt];exact bad hm _ (fun b hb=>by rw [ko b (by omega)];exact Vn b hb)
   |true=>
   rw [hco,cond_true] at HD;simp only [Bool.not_true,aE,aS,reduceAdd,reduceEqDiff,reduceIte,ai k1,bR,ct];by_cases k0:c.kind=0
   ·rw [if_pos k0,Je] at HD;simp only [ey k0,aF,aS,reduceAdd,reduceEqDiff,reduceIte,ai k1,bR,QG,e4];refine aj (Bu kP kA YM (by omega) (by omega) fun h4 es4 ck4 b1 b2 b3 b4=>?_);simp only [aS,reduceAdd,reduceEqDiff,reduceIte]
    cases Vg:R8 m2 c.name c.args.l.length with
    |false=>
     rw [Vg,if_neg (by simp)] at HD;simp only at HD;rw [HD] at hm;simp only [Bool.not_false,aF];rw [vL,F.cw.k9,hr,F.cw.bt];exact bad hm _ (fun b hb=>by rw [b3 b (by omega) (by omega),ko b (by omega)];exact Vn b hb)
    |true=>
     rw [Vg,if_pos rfl] at HD;simp only [Bool.not_true,aE,e49,aK hj pH,aq];refine sV _ _ ⟨_,es4,ck4,fun b hb=>by rw [b3 b (by omega) (by omega),ko b (by omega)];exact Vn b hb,HD,b1,b2,kl.eW (b3 M (by omega) (by omega)),?_,?_,by omega,e4,e6,mW,TA,Jz,e47,e48,rfl⟩
     ·rw [b3 P (by omega) (by omega)];exact kP
     ·rw [b3 _ (by omega) (by omega)];exact kR
   ·rw [if_neg k0] at HD;simp only [ep k0,aE,e49,aK hj pH,aq];exact sV _ _ ⟨m2,es2,ck2,fun b hb=>by rw [ko b (by omega)];exact Vn b hb,HD,kA,YM,kl,kP,kR,by omega,e4,e6,mW,TA,Jz,e47,e48,rfl⟩
  ·rintro e h2 ⟨m2,es2,ck2,Vn,HD,qA2,YM,R7,qP2,qR2,qM,e4,e6,mW,TA,Jz,e47,e48,e49⟩ K2 iu;rw [drop_of_length_le (dK _),qN] at HD;rw [HD] at hm;simp only at hm;obtain ⟨h5,ks5,u1,u2,u3,u4,u5⟩:=R7.add Jj r.name;rw [F.cw.eC];simp only [e48,e49,aS,reduceAdd,reduceEqDiff,reduceIte,aX];rw [iu,F.cw.cZ];simp only [e4,e6,Jz,aS,reduceAdd,reduceEqDiff,reduceIte,bD,ai qP2,ai qR2,aO,u1,aK hi j8];refine hn _ _ ⟨m2,ks5,es2,ck2,fun b hb=>by rw [u4 b (by omega)];exact Vn b hb,hm,by rw [u4 A (by omega)];exact qA2,YM,?_,u3,by rw [u4 P (by omega)];exact qP2,by omega,e4,mW,TA,rfl⟩;have:ax (rules.l.take (i+1))=ax (rules.l.take i)++[r.name]:=by unfold ax;rw [take_add_one,hv];simp
   rw [this];exact u2
 ·rintro e h' ⟨m,ks,es,ck,hF,hm,qA,hmI,la,Jj,qP,QI,e4,mW,TA,Jz⟩ K' hx;rw [drop_of_length_le (dK _),dM] at hm;rw [kB (dK _)] at la;have gI:=gZ hm
  have ap4:ks.length<=60:=by
   have:=eL.tK Jj (m:=ax rules.l) fun x hx=>(la.mem x).1 hx;have h1:(ax rules.l).length=rules.l.length:=by simp [ax]
   omega
  rw [F.cw.aT];simp only [TA,Jz,aS,reduceAdd,reduceEqDiff,reduceIte,aX];rw [hx,F.cw.aJ];simp only [e4,aS,reduceAdd,reduceEqDiff,reduceIte,bD,ai qP,la.len,aK (i:=ks.length) (n:=61) (by omega) (by unfold cu;omega)]
  refine aG 0 (ks.length+1) (zero_le _) (fun i e h'=>(∀ b,b<A->h'.get b=h.get b)/\h'.get A=some (.map es ck)/\fZ (ax rules.l) h' M ks (eL.iter (b7 rules.l) i)/\h'.get P=some (.cells [an aO 3 rules,.map A,.map M])/\P<h'.next/\(∀ j,j<i->¬ eL.dR (b7 rules.l) (eL.iter (b7 rules.l) j)) /\
   e 4 = .ptr P 0/\e 82 = .int .i64 ((ks.length+1:Nat):Int)/\e 83 = .int .i64 (i:Int)) ⟨hF,qA,la,qP,QI,fun j hj=>by omega,e4,rfl,rfl⟩ ?_ ?_
  ·rintro i e h2 _ hi ⟨Vn,qA2,l2,q2,n2,US,e4,Vo,TB⟩ K2 qM iu vL Il;rw [F.cw.kE];simp only [e4,Vo,TB,aS,reduceAdd,reduceEqDiff,reduceIte,bl hi];refine aj (OW (N:=i*1200) q2 l2 n2 (by omega) qd (fun r hr=>⟨(gI r hr).2.1,List.mem_map_of_mem hr⟩) (zW qd (fun r hr=>(gI r hr).2.1) i) (by omega) fun h3 l3 f3 n3=>?_);simp only [aS,reduceAdd,reduceEqDiff,reduceIte,Bool.not_not];have qA3:h3.get A=some (.map es ck):=by rw [f3 A (by omega) (by omega)];exact qA2
   have q3:h3.get P=some (.cells [an aO 3 rules,.map A,.map M]):=by rw [f3 P n2 (by omega)];exact q2
   by_cases ic:eL.dR (b7 rules.l) (eL.iter (b7 rules.l) i)
   ·have M1:eL.dR (mA (ax rules.l) rules.l) (eL.iter (b7 rules.l) i):=ic;simp only [ey M1,aF];rw [vL,F.cw.AU];simp only [bg,reduceEqDiff,reduceIte,e4];rw [eL.zq M1] at l3;exact GF h3 P A M ks i ⟨qd,⟨m,hm⟩,i,ic⟩ ic q3 l3 Jj (by omega) (by omega) m es ck hm qA3 hmI (by omega) hAM hMP (fun b hb=>by rw [f3 b (by omega) (by omega)];exact Vn b (by omega))
   ·have M1:¬ eL.dR (mA (ax rules.l) rules.l) (eL.iter (b7 rules.l) i):=ic;simp only [ep M1,aE,TB,aK hi (show ks.length+1<=cu by unfold cu;omega),aq]
    exact qM _ _ ⟨fun b hb=>by rw [f3 b (by omega) (by omega)];exact Vn b hb,qA3,l3,q3,by omega,fun j hj=>by
     by_cases hji:j=i
     ·subst hji;exact ic
     ·exact US j (by omega),e4,Vo,rfl⟩
  ·rintro e h2 ⟨Vn,_,l2,q2,n2,US,e4,Vo,TB⟩ K2 iu;rw [F.cw.kE];simp only [Vo,TB,aS,reduceAdd,reduceEqDiff,reduceIte,aX];rw [iu,F.cw.iM];refine pX (fun hg=>?_) _ (fun b hb=>Vn b (by omega));obtain ⟨k,hk⟩:=hg.lev;refine US ks.length (by omega) (eL.settle (fun e he=>?_) hk);obtain ⟨r,hr,c,hc,_,mN,rfl⟩:=rS he;exact ⟨(la.mem _).2 mN,(la.mem _).2 (List.mem_map_of_mem hr)⟩
theorem Sx(D:DB)(nm:bQ)(b:Nat)(d d':List Bool):mU (mU D nm b d) nm b d'=mU D nm b d':=by
 funext j;unfold mU;by_cases e:j=nm
 ·rw [if_pos e,if_pos e]
 ·rw [if_neg e,if_neg e,if_neg e]
theorem uf(D:DB)(nm:bQ)(b:Nat)(d:List Bool):mU D nm b d nm=some (b,d):=if_pos rfl
theorem EP{j:bQ}(h:j≠nm)(b:Nat)(d:List Bool):mU D nm b d j=D j:=if_neg h
theorem eT.add(b:eT D h B lo)(hlo:lo<=h.next)(N:Nat)(nm:bQ) :
  ∃ h',fT .string (.map B) (.str nm) (.slice h.next 0 N 1) (h.alloc (.cells ((replicate N false).map bv)))=some h'/\eT (mU D nm h.next (replicate N false)) h' B lo/\(∀ c,c<h.next->c≠B->h'.get c=h.get c)/\h'.next=h.next+1:=by
 obtain ⟨es,ck,m,e1,e2,e3⟩:=b.ex;have hB:=b.lt;have a1:(h.alloc (.cells ((replicate N false).map bv))).get B=some (.map es ck):=by rw [ag.aW,if_neg (by omega)];exact e1
 obtain ⟨wD,EK,hu,hue⟩:=Nd a1 e2 nm (.slice h.next 0 N 1);refine ⟨_,hu,⟨⟨wD,EK,_,by rw [ag.aP,if_pos rfl],hue,fun j=>?_⟩,fun j q hq=>?_,fun j j' q q' hq oS hqq=>?_,by rw [ag.bq,ag.aV];omega⟩,fun c hc Sy=>by rw [ag.aP,if_neg Sy,ag.aW,if_neg (by omega)],by rw [ag.bq,ag.aV]⟩
 ·rw [Nf];unfold mU;by_cases e:j=nm
  ·rw [if_pos e,if_pos e,map_some,length_replicate]
  ·rw [if_neg e,if_neg e,e3]
 ·unfold mU at hq;by_cases e:j=nm
  ·rw [if_pos e] at hq;cases hq;exact ⟨hlo,by rw [ag.bq,ag.aV];exact lt_succ_self _,by show h.next≠B;omega,by rw [ag.aP,if_neg (by show h.next≠B;omega)];exact aD _ _⟩
  ·rw [if_neg e] at hq;obtain ⟨k1,k2,k3,k4⟩:=b.mc j q hq;exact ⟨k1,by rw [ag.bq,ag.aV];omega,k3,by rw [ag.aP,if_neg k3,ag.aW,if_neg (by omega)];exact k4⟩
 ·unfold mU at hq oS;by_cases e:j=nm
  ·by_cases e':j'=nm
   ·rw [e,e']
   ·rw [if_pos e] at hq;rw [if_neg e'] at oS;cases hq;have:=(b.mc j' q' oS).2.1;simp only at hqq;omega
  ·by_cases e':j'=nm
   ·rw [if_neg e] at hq;rw [if_pos e'] at oS;cases oS;have:=(b.mc j q hq).2.1;simp only at hqq;omega
   ·rw [if_neg e] at hq;rw [if_neg e'] at oS;exact b.inj j j' q q' hq oS hqq
theorem abn{R:AV}(hS:h.get S=some (.cells [.int .i64 (n:Int),R]))(h1:1<=n){x:Sl Int}{k:Nat}(hk:x.l.length=k)(hx:k<=12)(hc:n ^ k<=4096)(hb:iJ n x.l=true)
  (hK:K (.ret (.int .i64 ((iy n x.l:Nat):Int))) h=true):Sem TP 69 [.ptr S 0,an encI 1 x] h K:=Gz hS h1 (by omega) (by rw [hk];exact hc) hb hK
theorem YN{k:Nat}(hk:k<=12)(hc:n ^ k<=4096):U9 n k = .tuple [.int .i64 ((n ^ k:Nat):Int),.int .i64 0]:=by rw [U9,if_neg (by omega),if_neg (by omega)]
set_option maxHeartbeats 1000000 in
theorem K5{s:eG}{D1:DB}(qu:s.ok)(uu:dU s=true)(hn:s.size=(n:Int))(n1:1<=n)(ov:n<=64)
  (hS:h.get S=some (.cells [.int .i64 (n:Int),.map B])) (hSB:h.get SB=some (.cells (aB s))) (hD:eT D1 h B lo) (agv:S≠B) (agw:SB≠B) (Yt:S<h.next) (abo:SB<h.next) (hlo:lo<=h.next)
  (q3:e0 3 = .ptr SB 0) (q7:e0 7 = .ptr P 0) (YO:e0 17 = .ptr S 0) (aj7:e0 154=an bO 3 s.aY) (aj8:e0 155 = .int .i64 (s.aY.l.length:Int)) (aj9:e0 156 = .int .i64 0)
  (done:∀ h' D',eT D' h' B lo->(∀ r ∈ s.aY.l,∃ b,h.next<=b/\D' r.name=some (b,bitsOf n r.arity.toNat r.bW.l))->(∀ nm,(∀ r ∈ s.aY.l,r.name≠nm)->D' nm=D1 nm)->(∀ c,c<h.next->c≠B->h'.get c=h.get c)->h.next<=h'.next->K (.ret (.tuple [.ptr P 0,.ptr S 0,.int .i64 0])) h'=true) :
  bX (EV F.aC.L5) ⟨e0,198,[],h⟩ (F.aC.L5k K)=true:=by
 have j8:=qu.1;have hBn:=hD.lt
 refine aG 0 s.aY.l.length (zero_le _) (fun i e h'=>∃ D,eT D h' B lo/\(∀ r ∈ s.aY.l.take i,∃ b,h.next<=b/\D r.name=some (b,bitsOf n r.arity.toNat r.bW.l))/\(∀ nm,(∀ r ∈ s.aY.l.take i,r.name≠nm)->D nm=D1 nm)/\(∀ c,c<h.next->c≠B->h'.get c=h.get c)/\h.next<=h'.next /\
  e 3 = .ptr SB 0/\e 7 = .ptr P 0/\e 17 = .ptr S 0/\e 154=an bO 3 s.aY/\e 155 = .int .i64 (s.aY.l.length:Int)/\e 156 = .int .i64 (i:Int))
  ⟨D1,hD,fun r hr=>(by cases hr),fun _ _=>rfl,fun _ _ _=>rfl,dK _,q3,q7,YO,aj7,aj8,aj9⟩ ?_ ?_
 ·rintro i e h' _ hi ⟨D,hDa,yK,YP,mI,oA,e3,e7,mW,Pn,Nh,Ni⟩ K' wj hx hr hp;have hv:s.aY.l[i]?=some s.aY.l[i]:=ec hi;generalize s.aY.l[i]=r at hv;have Vb:r.ok:=qu.2 r (iA hv);have Hu:=xE uu hv;rw [show s.size.toNat=n by omega] at Hu;obtain ⟨k,hk,Bn,Wi,hkt⟩:=yz Hu;have hkn:r.arity.toNat=k:=by omega
  obtain ⟨H,EM,g1,go,gn⟩:=cR (h:=h') (zs:=[.str [],.int .i64 0,.au]) (cs:=bO r) (n:=3) rfl rfl (kJ r);have xH:bG h' H:=⟨by omega,fun b hb=>go b (by omega)⟩
  have pSB:H.get SB=some (.cells (aB s)):=by rw [xH.get _ (by omega),mI _ abo agw];exact hSB
  have pS:H.get S=some (.cells [.int .i64 (n:Int),.map B]):=by rw [xH.get _ (by omega),mI _ Yt agv];exact hS
  have hDH:=hDa.ext xH;have lz:ah none (.ptr SB 0) H=some (.int .i64 (n:Int)):=by rw [ai pSB,<- hn];rfl
  have la:ah none (.ptr h'.next 1) H=some (.int .i64 (k:Int)):=by rw [ai g1,<- hk];rfl
  have ln:ah none (.ptr h'.next 0) H=some (.str r.name):=by rw [ai g1];rfl
  obtain ⟨h2,hu,hD2,WD,qM⟩:=hDH.add (by omega) (n ^ k) r.name;have lt:ah none (.ptr h'.next 2) h2=some (an eu 1 r.bW):=by rw [ai (show h2.get h'.next=some (.cells (bO r)) by rw [WD _ (by omega) (by omega)];exact g1)];rfl
  rw [F.aC.Mv];simp only [Pn,Nh,Ni,e3,mW,aS,reduceAdd,reduceEqDiff,reduceIte,bl hi,aU s.aY hi,cX iE hv,EM];simp only [aS,reduceAdd,reduceEqDiff,reduceIte,lz,la];refine aj (Dr n1 ov (by unfold cu;omega) ?_);rw [YN Bn Wi];simp only [aS,reduceAdd,reduceEqDiff,reduceIte,bD,ai pS,ln,EN (show n ^ k<=1000000 by omega),hu,lt]
  refine aG 0 r.bW.l.length (zero_le _) (fun j e h3=>∃ d,bitsOf n k r.bW.l=kI n (r.bW.l.drop j) d/\d.length=n ^ k/\eT (mU D r.name H.next d) h3 B lo/\(∀ c,c<H.next->c≠B->h3.get c=H.get c)/\h3.next=h2.next /\
   e 3 = .ptr SB 0/\e 7 = .ptr P 0/\e 17 = .ptr S 0/\e 154=an bO 3 s.aY/\e 155 = .int .i64 (s.aY.l.length:Int)/\e 156 = .int .i64 (i:Int)/\e 25 = .ptr h'.next 0/\e 177=an eu 1 r.bW/\e 178 = .int .i64 (r.bW.l.length:Int)/\e 179 = .int .i64 (j:Int))
   ⟨_,rfl,by simp,hD2,WD,rfl,e3,e7,mW,Pn,Nh,Ni,rfl,rfl,rfl,rfl⟩ ?_ ?_
  ·rintro j e h3 _ hj ⟨d,hd,Ct,hD3,hf3,Vd,e3,e7,mW,Pn,Nh,Ni,e25,abq,YQ,abr⟩ K2 sV iu vL Il;have ZU:r.bW.l[j]?=some r.bW.l[j]:=ec hj;generalize r.bW.l[j]=t at ZU;obtain ⟨z6,NU⟩:=Pf hkt ZU;rw [Cs ZU] at hd;have sj:iy n t.l<d.length:=by have:=lX NU;rw [z6] at this;omega
   have wS:h3.get S=some (.cells [.int .i64 (n:Int),.map B]):=by rw [hf3 _ (by omega) agv];exact pS
   have wR:h3.get h'.next=some (.cells (bO r)):=by rw [hf3 _ (by omega) (by omega)];exact g1
   have lnm:ah none (.ptr h'.next 0) h3=some (.str r.name):=by rw [ai wR];rfl
   have BI:=hD3.look (uf D r.name H.next d);obtain ⟨_,_,_,jV⟩:=hD3.mc r.name _ (uf D r.name H.next d);simp only at BI jV;have nT:=hD3.set (uf D r.name H.next d) (d:=d.set (iy n t.l) true) (by simp);rw [Sx] at nT;simp only at nT;rw [F.aC.ZJ];simp only [mW,e25,abq,YQ,abr,aS,reduceAdd,reduceEqDiff,reduceIte,bl hj,aU r.bW hj,ke ZU,bD,ai wS,lnm,BI];refine aj (abn wS n1 z6 Bn Wi NU ?_);simp only [aS,reduceAdd,reduceEqDiff,reduceIte,ai wS,lnm,BI,AV.beq_refl,Bool.and_self,Bool.and_true,if_true,kF sj,xo jV sj,aK hj Vb.2.1];exact sV _ _ ⟨_,hd,by simpa using Ct,nT,fun c hc Sy=>by rw [ag.aP,if_neg (by omega)];exact hf3 c hc Sy,by rw [ag.bq];exact Vd,e3,e7,mW,Pn,Nh,Ni,e25,abq,YQ,rfl⟩
  ·rintro e h3 ⟨d,hd,Ct,hD3,hf3,Vd,e3,e7,mW,Pn,Nh,Ni,e25,abq,YQ,abr⟩ K2 iu;rw [drop_of_length_le (dK _)] at hd;simp only [kI] at hd;rw [F.aC.ZJ];simp only [YQ,abr,aS,reduceAdd,reduceEqDiff,reduceIte,aX];rw [iu,F.aC.RZ];simp only [aS,reduceAdd,reduceEqDiff,reduceIte,Ni,aK hi j8];refine wj _ _ ⟨mU D r.name H.next d,hD3,fun q hq=>?_,fun nm nx=>?_,fun c hc Sy=>by rw [hf3 c (by omega) Sy,xH.get c (by omega)];exact mI c hc Sy,by omega,e3,e7,mW,Pn,Nh,rfl⟩
   ·rw [take_add_one,hv] at hq;rcases mem_append.1 hq with oS|oS
    ·by_cases e:q.name=r.name
     ·obtain ⟨a,ha⟩:=mem_iff_getElem?.1 oS
      have ZR:s.aY.l[a]?=some q:=by
       rw [getElem?_take] at ha;split at ha
       ·exact ha
       ·cases ha
      have hai:a<i:=by
       rw [getElem?_take] at ha;split at ha
       ·assumption
       ·cases ha
      have:=kV (nD uu) (i:=a) (j:=i) (s:=q.name) (by rw [getElem?_map,ZR];rfl) (by rw [getElem?_map,hv,e];rfl);omega
     ·obtain ⟨b,b1,b2⟩:=yK q oS;exact ⟨b,b1,by rw [EP e];exact b2⟩
    ·simp only [toList_some,mem_singleton] at oS;subst oS;exact ⟨H.next,by omega,by rw [uf,hkn,hd]⟩
   ·have h1:nm≠r.name:=fun e=>nx r (by rw [take_add_one,hv];simp) e.symm;rw [EP h1];exact YP nm fun q hq=>nx q (by rw [take_add_one,hv];exact mem_append_left _ hq)
 ·rintro e h' ⟨D,hDa,yK,YP,mI,oA,e3,e7,mW,Pn,Nh,Ni⟩ K' hx;rw [kB (dK _)] at yK YP;rw [F.aC.Mv];simp only [Nh,Ni,aS,reduceAdd,reduceEqDiff,reduceIte,aX];rw [hx,F.aC.B7];simp only [bg,reduceEqDiff,reduceIte,e7,mW];exact done h' D hDa yK YP mI oA
theorem eT.uW{c:Nat}(b:eT D h B lo)(hc:c<lo)(Sy:c≠B)(x:mP):eT D (h.set c x) B lo:=by
 obtain ⟨es,ck,m,e1,e2,e3⟩:=b.ex;refine ⟨⟨es,ck,m,by rw [ag.aP,if_neg (Ne.symm Sy)];exact e1,e2,e3⟩,fun nm p hp=>?_,b.inj,by rw [ag.bq];exact b.lt⟩;obtain ⟨k1,k2,k3,k4⟩:=b.mc nm p hp;exact ⟨k1,by rw [ag.bq];exact k2,k3,by rw [ag.aP,if_neg (by omega)];exact k4⟩
theorem JA:∀ (l:List (bQ×Int)) (m m':fy),xI l m=some m'->∀ x k,m'.find x=some k↔((x,k) ∈ l\/m.find x=some k)
 |[],m,m',h,x,k=>by cases h;simp
 |p :: l,m,m',h,x,k=>by
  have fu:=yq m p.1 x p.2
  have hs:Wh m p=some (m.tP p.1 p.2)/\∀ j,m.find p.1=some j->j=p.2:=by
   rw [xI] at h;unfold Wh at h ⊢
   cases hf:m.find p.1 with
   |none=>simp
   |some j=>
    rw [hf] at h;by_cases e:j=p.2
    ·simp [e]
    ·simp [e] at h
  rw [xI,hs.1] at h;rw [JA l _ m' h x k,fu];by_cases e:x=p.1
  ·rw [if_pos e,mem_cons];subst e;constructor
   ·rintro (h1|h1)
    ·exact .inl (.inr h1)
    ·cases h1;exact .inl (.inl rfl)
   ·rintro ((h1|h1)|h1)
    ·exact .inr (by rw [<- h1])
    ·exact .inl h1
    ·exact .inr (by rw [hs.2 k h1])
  ·rw [if_neg e,mem_cons];constructor
   ·rintro (h1|h1)
    ·exact .inl (.inr h1)
    ·exact .inr h1
   ·rintro ((h1|h1)|h1)
    ·exact absurd (congrArg Prod.fst h1) e
    ·exact .inl h1
    ·exact .inr h1
theorem mw(h:dM rs []=some m)(x:bQ)(k:Int):m.find x=some k↔(x,k) ∈ cV rs:=by
 rw [u9] at h;split at h
 ·rw [JA _ _ _ h];simp [fy.find]
 ·cases h
theorem kW(hr:r ∈ rs):(r.name,(r.args.l.length:Int)) ∈ cV rs:=mem_flatMap.2 ⟨r,hr,mem_cons_self⟩
theorem mz{xs:List bQ}(h:oo nm xs=true):xs.length<=12:=by
 unfold oo at h;simp only [and_eq_true,decide_eq_true_eq] at h;omega
theorem Ac(n1:1<=n)(h:i<=j):n ^ i<=n ^ j:=Nat.pow_le_pow_right n1 h
set_option maxHeartbeats 1000000 in
theorem It{s:eG}(hn:s.size=(n:Int))(n1:1<=n)(ov:n<=64)(iF:∀ r ∈ rules.l,r.kH)(qd:rules.l.length<=60)(Cp:∀ r ∈ rules.l,(varsOf r).length<=12)
  (hSB:h.get SB=some (.cells (aB s))) (abo:SB<h.next) (q3:e0 3 = .ptr SB 0) (q7:e0 7 = .ptr P 0) (YO:e0 17 = .ptr S 0) (akd:e0 134=an aO 3 rules) (ake:e0 135 = .int .i64 (rules.l.length:Int)) (akf:e0 136 = .int .i64 0)
  (err:(∃ r ∈ rules.l,65536<n ^ (varsOf r).length)->∀ h',bG h h'->K (.ret (.tuple [.gC,.gC,.int .i64 5])) h'=true)
  (done:(∀ r ∈ rules.l,n ^ (varsOf r).length<=65536)->∀ (e:Env) h',bG h h'->e 3 = .ptr SB 0->e 7 = .ptr P 0->e 17 = .ptr S 0->F.aC.Uu K (.exit 6) ⟨e,198,[],h'⟩=true) :
  bX (EV F.aC.L3) ⟨e0,198,[],h⟩ (F.aC.Uu K)=true:=by
 have j8:rules.l.length<=cu:=by unfold cu;omega
 refine aG 0 rules.l.length (zero_le _) (fun i e h'=>bG h h'/\(∀ r ∈ rules.l.take i,n ^ (varsOf r).length<=65536)/\e 3 = .ptr SB 0/\e 7 = .ptr P 0/\e 17 = .ptr S 0/\e 134=an aO 3 rules/\e 135 = .int .i64 (rules.l.length:Int)/\e 136 = .int .i64 (i:Int))
  ⟨bG.refl _,fun r hr=>(by cases hr),q3,q7,YO,akd,ake,akf⟩ ?_ ?_
 ·rintro i e h' _ hi ⟨hx,lu,e3,e7,mW,Po,Nj,Nk⟩ K' wj iY hr hp;have hv:rules.l[i]?=some rules.l[i]:=ec hi;generalize rules.l[i]=r at hv;have lD:=iA hv;have agA:=Cp r lD;obtain ⟨H,EM,g1,go,gn⟩:=cR (h:=h') (zs:=[.str [],.au,.au]) (cs:=aO r) (n:=3) rfl rfl (jJ r);have xH:bG h H:=hx.trans ⟨by omega,fun b hb=>go b (by omega)⟩;have pSB:H.get SB=some (.cells (aB s)):=by rw [xH.get _ abo];exact hSB
  have lz:ah none (.ptr SB 0) H=some (.int .i64 (n:Int)):=by rw [ai pSB,<- hn];rfl
  rw [F.aC.Df];simp only [Po,Nj,Nk,aS,reduceAdd,reduceEqDiff,reduceIte,bl hi,aU rules hi,cX ei hv,EM];simp only [ai g1,aO,om,aq];refine aj (dO (iF r lD) fun x jG=>?_);simp only [aS,reduceAdd,reduceEqDiff,reduceIte];rw [jG];have hvb:(varsOf r).length<=cu:=by unfold cu;omega
  refine aG 0 (varsOf r).length (zero_le _) (fun j e h2=>h2=H/\n ^ j<=65536/\e 3 = .ptr SB 0/\e 7 = .ptr P 0/\e 17 = .ptr S 0/\e 134=an aO 3 rules/\e 135 = .int .i64 (rules.l.length:Int)/\e 136 = .int .i64 (i:Int)/\e 23 = .int .i64 ((n ^ j:Nat):Int)/\e 142 = .int .i64 ((varsOf r).length:Int)/\e 143 = .int .i64 (j:Int))
   ⟨rfl,by simp,e3,e7,mW,Po,Nj,Nk,rfl,rfl,rfl⟩ ?_ ?_
  ·rintro j e h2 _ hj ⟨rfl,NW,e3,e7,mW,Po,Nj,Nk,e23,YR,YS⟩ K2 sV iu vL Il;have si:n ^ (j+1)=n ^ j*n:=Nat.pow_succ n j;have hmul:n ^ j*n<=65536*64:=Nat.mul_le_mul NW ov;have hm:((n ^ j:Nat):Int)*(n:Int)=((n ^ (j+1):Nat):Int):=by rw [si,Int.natCast_mul]
   have K6:aL .mul (.int .i64 ((n ^ j:Nat):Int)) (.int .i64 (n:Int))=some (.int .i64 ((n ^ (j+1):Nat):Int)):=by rw [yh (by rw [hm];omega) (by rw [hm];omega),hm]
   rw [F.aC.FT];simp only [e3,e23,YR,YS,aS,reduceAdd,reduceEqDiff,reduceIte,bl hj,lz,K6];by_cases hbg:65536<n ^ (j+1)
   ·simp only [ey (by omega:(65536:Int)<((n ^ (j+1):Nat):Int)),aF];rw [vL,F.aC.W9,hr,F.aC.W8];simp only [bg,reduceEqDiff,reduceIte];exact err ⟨r,lD,by have:=Ac n1 (show j+1<=(varsOf r).length by omega);omega⟩ _ xH
   ·simp only [ep (by omega:¬ (65536:Int)<((n ^ (j+1):Nat):Int)),aE,YS,aK hj hvb,aq];exact sV _ _ ⟨rfl,by omega,e3,e7,mW,Po,Nj,Nk,rfl,YR,rfl⟩
  ·rintro e h2 ⟨rfl,NW,e3,e7,mW,Po,Nj,Nk,e23,YR,YS⟩ K2 iu;rw [F.aC.FT];simp only [YR,YS,aS,reduceAdd,reduceEqDiff,reduceIte,aX];rw [iu,F.aC.wY];simp only [aS,reduceAdd,reduceEqDiff,reduceIte,Nk,aK hi j8];refine wj _ _ ⟨xH,fun q hq=>?_,e3,e7,mW,Po,Nj,rfl⟩;rw [take_add_one,hv] at hq;rcases mem_append.1 hq with hq|hq
   ·exact lu q hq
   ·simp only [toList_some,mem_singleton] at hq;subst hq;exact NW
 ·rintro e h' ⟨hx,lu,e3,e7,mW,Po,Nj,Nk⟩ K' iY;rw [kB (dK _)] at lu;rw [F.aC.Df];simp only [Nj,Nk,aS,reduceAdd,reduceEqDiff,reduceIte,aX];rw [iY];exact done lu _ h' hx e3 e7 mW
set_option maxHeartbeats 1000000 in
theorem Iu{IT:Nat}{s:eG}{esA:List Entry}{ckA:Nat}{hR:AV}(hn:s.size=(n:Int))(n1:1<=n)(ov:n<=64)(Cp:∀ r ∈ rules.l,r.args.l.length<=12)(gI:dM rules.l []=some m)
  (hS:h.get S=some (.cells [.int .i64 (n:Int),.map B])) (hSB:h.get SB=some (.cells (aB s))) (hP:h.get P=some (.cells [hR,.map A,.map M])) (hA:h.get A=some (.map esA ckA)) (hmA:Pm esA ckA m) (hl:fZ (ax rules.l) h M ks lv)
  (hB:eT (fun _=>none) h B (IT+1)) (hIT:∀ es ck,h.get M=some (.map es ck)->h.get IT=some (.ij (some M) ck [] ck)) (ap7:h.next=IT+1) (o1:S<IT) (o2:SB<IT) (o3:P<IT) (o4:A<IT) (o5:M<IT) (o6:B<IT) (b1:S≠B) (b2:SB≠B) (b3:P≠B) (b4:A≠B) (b5:M≠B)
  (q0:e0 0=an aO 3 rules) (q3:e0 3 = .ptr SB 0) (q7:e0 7 = .ptr P 0) (YO:e0 17 = .ptr S 0) (akh:e0 108 = .ptr IT 0)
  (err:(∃ r ∈ rules.l,4096<n ^ r.args.l.length)->∀ h',(∀ c,c<IT->c≠B->h'.get c=h.get c)->K (.ret (.tuple [.gC,.gC,.int .i64 5])) h'=true)
  (done:∀ (e:Env) h' D,(∀ r ∈ rules.l,n ^ r.args.l.length<=4096)->eT D h' B (IT+1)->(∀ r ∈ rules.l,∃ b,D r.name=some (b,replicate (n ^ r.args.l.length) false))->(∀ nm p,D nm=some p->nm ∈ ax rules.l)->(∀ c,c<IT->c≠B->h'.get c=h.get c)->IT<h'.next ->
   e 0=an aO 3 rules->e 3 = .ptr SB 0->e 7 = .ptr P 0->e 17 = .ptr S 0->F.aC.vO K (.exit 4) ⟨e,198,[],h'⟩=true) :
  bX (EV F.aC.L2) ⟨e0,198,[],h⟩ (F.aC.vO K)=true:=by
 obtain ⟨es,ck,ml,z1,z2,z3,z4,z5⟩:=hl.ex;have w0:=hIT es ck z1;have Vp:∀ r ∈ rules.l,m.find r.name=some (r.args.l.length:Int):=fun r hr=>(mw gI _ _).2 (kW hr)
 refine Cu es (fun seen e hh=>∃ D,eT D hh B (IT+1)/\(∀ en ∈ es,en.2.2 ∈ seen->∀ r ∈ rules.l,en.1 = .str r.name->n ^ r.args.l.length<=4096/\∃ b,D r.name=some (b,replicate (n ^ r.args.l.length) false))/\(∀ nm p,D nm=some p->nm ∈ ax rules.l) /\
   hh.get IT=some (.ij (some M) ck seen ck)/\(∀ c,c<IT->c≠B->hh.get c=h.get c)/\IT<hh.next/\e 0=an aO 3 rules/\e 3 = .ptr SB 0/\e 7 = .ptr P 0/\e 17 = .ptr S 0/\e 108 = .ptr IT 0)
  ⟨_,hB,fun en _ vM=>(by cases vM),fun nm p hp=>(by cases hp),w0,fun _ _ _=>rfl,by omega,q0,q3,q7,YO,akh⟩ ?_
 rintro seen e hh ⟨D,hD,JB,ZV,w3,wf,wn,Pp,e3,e7,mW,abt⟩ K' U8 hex Yy agf;have hM:hh.get M=some (.map es ck):=by rw [wf M o5 b5];exact z1
 rw [F.aC.kE];simp only [abt];refine GI w3 hM z3 (by omega) (fun fh=>?_) (fun en vM hns Fg=>?_)
 ·simp only [Kq,aS,reduceAdd,reduceEqDiff,reduceIte];rw [hex]
  have hev:∀ r ∈ rules.l,∃ en ∈ es,en.1 = .str r.name:=fun r hr=>by
   have h1:ml.find r.name=some (lv r.name:Int):=by rw [z5,if_pos (show r.name ∈ ax rules.l from List.mem_map_of_mem hr)]
   obtain ⟨en,vM,h2,_⟩:=z2.Yv _ (tY h1);exact ⟨en,vM,h2⟩
  refine done _ hh D (fun r hr=>?_) hD (fun r hr=>?_) ZV wf wn Pp e3 e7 mW
  ·obtain ⟨en,vM,h2⟩:=hev r hr;exact (JB en vM (fh en vM) r hr h2).1
  ·obtain ⟨en,vM,h2⟩:=hev r hr;exact (JB en vM (fh en vM) r hr h2).2
 obtain ⟨p,O2,QO,qM⟩:=z2.mem en vM;have hph:p.1 ∈ ax rules.l:=(hl.mem p.1).1 (by rw [<- z4];exact List.mem_map_of_mem O2);obtain ⟨r,lD,xz⟩:=mem_map.1 hph;have vf:∀ c,c<IT->c≠B->(hh.set IT (.ij (some M) ck (seen++[en.2.2]) ck)).get c=h.get c:=fun c hc Sy=>by rw [ag.aP,if_neg (by omega)];exact wf c hc Sy
 have v3:(hh.set IT (.ij (some M) ck (seen++[en.2.2]) ck)).get IT=some (.ij (some M) ck (seen++[en.2.2]) ck):=by rw [ag.aP,if_pos rfl]
 have vn:(hh.set IT (.ij (some M) ck (seen++[en.2.2]) ck)).next=hh.next:=ag.bq _ _ _
 have vD:=hD.uW (c:=IT) (by omega) (by omega) (.ij (some M) ck (seen++[en.2.2]) ck);simp only [Kq,qY,yl,aq,cF,aF,Fg,e3,e7,mW,abt];clear Fg;generalize (hh.set IT (.ij (some M) ck (seen++[en.2.2]) ck))=H at vf v3 vn vD ⊢;have pSB:H.get SB=some (.cells (aB s)):=by rw [vf _ o2 b2];exact hSB
 have pS:H.get S=some (.cells [.int .i64 (n:Int),.map B]):=by rw [vf _ o1 b1];exact hS
 have pP:H.get P=some (.cells [hR,.map A,.map M]):=by rw [vf _ o3 b3];exact hP
 have pA:H.get A=some (.map esA ckA):=by rw [vf _ o4 b4];exact hA
 have lz:ah none (.ptr SB 0) H=some (.int .i64 (n:Int)):=by rw [ai pSB,<- hn];rfl
 have BI:dc .string (.int .i64 0) false (.map A) (.str r.name) H=some (.int .i64 (r.args.l.length:Int)):=by rw [xh pA hmA.1,Vp r lD];rfl
 have xq:=Cp r lD;simp only [aS,reduceAdd,reduceEqDiff,reduceIte,QO,<- xz,lz,bD,ai pP,BI];refine aj (Dr n1 ov (by unfold cu;omega) ?_);unfold U9;rw [if_neg (by omega)];by_cases vZ:4096<n ^ r.args.l.length
 ·rw [if_pos vZ];simp only [aS,reduceAdd,reduceEqDiff,reduceIte,ct];simp only [show (!decide ((5:Int)=0))=true from rfl,aF];rw [Yy,F.aC.AU];simp only [bg,reduceEqDiff,reduceIte];exact err ⟨r,lD,vZ⟩ _ vf
 ·rw [if_neg vZ];obtain ⟨h2,hu,hD2,WD,UE⟩:=vD.add (by omega) (n ^ r.args.l.length) r.name;simp only [aS,reduceAdd,reduceEqDiff,reduceIte,ct];simp only [show (!decide ((0:Int)=0))=false from rfl,aE,bD,aS,reduceAdd,reduceEqDiff,reduceIte,ai pS,EN (show n ^ r.args.l.length<=1000000 by omega),hu];refine U8 en vM hns _ _ ⟨mU D r.name H.next _,hD2,fun ZQ M3 Sz q hq ve=>?_,fun nm p' vK=>?_,by rw [WD _ (by omega) (by omega)];exact v3,fun c hc Sy=>by rw [WD c (by omega) Sy];exact vf c hc Sy,by omega,Pp,e3,e7,mW,abt⟩
  ·by_cases e:q.name=r.name
   ·have h1:=Vp q hq;rw [e,Vp r lD] at h1;have h2:r.args.l.length=q.args.l.length:=by have:=Option.some.inj h1;omega
    exact ⟨by rw [<- h2];omega,H.next,by rw [e,uf,h2]⟩
   ·rcases mem_append.1 Sz with Sz|Sz
    ·obtain ⟨a1,b,a2⟩:=JB ZQ M3 Sz q hq ve;exact ⟨a1,b,by rw [EP e];exact a2⟩
    ·rw [mem_singleton] at Sz
     have hee:ZQ=en:=by
      have hb:=z3.nodup;obtain ⟨i,hi⟩:=mem_iff_getElem?.1 vM;obtain ⟨j,hj⟩:=mem_iff_getElem?.1 M3;have tj:(es.map (·.2.2))[i]?=some en.2.2:=by rw [getElem?_map,hi];rfl
      have Ki:(es.map (·.2.2))[j]?=some en.2.2:=by rw [getElem?_map,hj,<- Sz];rfl
      have Wz:=kV hb tj Ki;subst Wz;rw [hi] at hj;exact (Option.some.inj hj).symm
     rw [hee,QO] at ve;injection ve with h3;exact absurd (h3.symm.trans xz.symm) e
  ·by_cases e:nm=r.name
   ·rw [e];exact List.mem_map_of_mem lD
   ·rw [EP e] at vK;exact ZV nm p' vK
end
end Go.AM