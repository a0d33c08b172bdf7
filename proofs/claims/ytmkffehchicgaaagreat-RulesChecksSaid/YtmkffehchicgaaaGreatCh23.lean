/- Parts of a proof, merged out of smaller texts: the abstract machine and what functions do. Conditions: none. -/
import Derived.Test.YtmkffehchicgaaaGreatCh15
import Derived.Test.YtmkffehchicgaaaGreatCh22
set_option linter.unusedSimpArgs false
set_option linter.unusedVariables false
namespace Go.AM
open Go Go.Proofs
noncomputable section
structure KW (S n:Nat) (D0:DB) (ps:List vt) (ng:FuncId) (na nb:List AV):Prop where
 n1:1≤n
 n64:n≤64
 plans:∀ p ∈ ps,p.ok
 rows:∀ nm p,D0 nm=some p→p.1≠S
 ask:∀ p ∈ ps,∀ D,eu D D0→Bc n D p.r
 head:∀ p ∈ ps,n ^ p.r.args.l.length≤4096∧p.r.args.l.length≤12∧∃ q,D0 p.r.name=some q∧q.2.length=n ^ p.r.args.l.length
 note:∀ (i:Int) (r:aB) (k:Int) (hd:Sl Int) (cs:Sl (Sl Int)) (ls:Sl Int) (y:AV) (h:ag) (K:Out→ag→Bool),(∀ h',bR h h'→K (.ret (.tuple [])) h'=true)→Sem Tryz.prog ng (na++([.agg (bI i r k (aq encI 1 hd) (aq eE 1 cs) (aq encI 1 ls)),y]++nb)) h K
set_option maxHeartbeats 2000000 in
theorem FL{S B n lo k0:Nat}{D0:DB}{ps:List vt}{a1:AV}{ng:FuncId}{na nb:List AV}(o:KW S n D0 ps ng na nb){h:ag}{K:Out→ag→Bool}(hS:h.get S=some (.cells [.int .i64 (n:Int),.map B]))(hSn:S<h.next)(hD:ef D0 h B lo)
  (hps:Own rD 8 k0 h a1 ps) (hpb:∀ b,ep a1=some b→∀ nm p,D0 nm=some p→b≠p.1) (hpl:ps.length≤60)
  (hK:∀ h' D',Reach n (ps.map (·.r)) D0 D'→kF n (ps.map (·.r)) (D',false)=(D',false)→eu D' D0→ef D' h' B lo→(∀ b,b<h.next→(∀ nm p,D0 nm=some p→b≠p.1)→h'.get b=h.get b)→h.next≤h'.next→K (.ret (.tuple [])) h'=true) :
  Sem Tryz.prog 110 [.ptr S 0,a1,.func ng na nb] h K:=by
 have hbig:ps.length≤cm:=by unfold cm;omega
 have hrn:∀ nm p,D0 nm=some p→p.1<h.next:=fun nm p hp=>(hD.blk nm p hp).2.1
 have hBn:=hD.lt
 have hBr:∀ nm p,D0 nm=some p→B≠p.1:=fun nm p hp=>Ne.symm (hD.blk nm p hp).2.2.1
 refine F.qp ?_
 rw [F.qY]
 simp only [oY (x:=.ptr S 0) rfl,oY (x:=.func ng na nb) rfl,bindO_some,ag.next_alloc]
 have g3:((h.alloc (.cells [.ptr S 0])).alloc (.cells [.func ng na nb])).get h.next=some (.cells [.ptr S 0]):=by
  rw [ag.aV,ag.next_alloc,if_neg (by omega)];exact aI _ _
 have g5:((h.alloc (.cells [.ptr S 0])).alloc (.cells [.func ng na nb])).get (h.next+1)=some (.cells [.func ng na nb]):=aI _ _
 have gx:bR h ((h.alloc (.cells [.ptr S 0])).alloc (.cells [.func ng na nb])):=(bR.alloc _ _).trans (bR.alloc _ _)
 have gn:((h.alloc (.cells [.ptr S 0])).alloc (.cells [.func ng na nb])).next=h.next+1+1:=rfl
 generalize ((h.alloc (.cells [.ptr S 0])).alloc (.cells [.func ng na nb]))=H2 at g3 g5 gx gn ⊢
 obtain ⟨H3,s6,a6,o6,n6⟩:=lu (h:=H2) (z:=.bool false) (v:=.bool true) rfl rfl
 rw [gn] at s6 a6
 simp only [s6,bindO_some]
 have x3:bR h H3:=gx.trans ⟨by omega,fun b hb=>o6 b (by omega)⟩
 refine xW (fun m e h'=>∃ (D:DB) (more:Bool) (P6:Nat),e 1=a1∧e 3 = .ptr h.next 0∧e 5 = .ptr (h.next+1) 0∧e 6 = .ptr P6 0∧h'.get P6=some (.cells [.bool more])∧h.next+1<P6∧P6<h'.next∧h'.get h.next=some (.cells [.ptr S 0])∧h'.get (h.next+1)=some (.cells [.func ng na nb]) ∧
  Reach n (ps.map (·.r)) D0 D∧eu D D0∧ef D h' B lo∧(∀ b,b<h.next→(∀ nm p,D0 nm=some p→b≠p.1)→h'.get b=h.get b)∧h.next≤h'.next ∧
  ((more=true∧m=Be (ps.map (·.r.name)) D+1)∨(more=false∧m=0∧kF n (ps.map (·.r)) (D,false)=(D,false)))) _
  ⟨D0,true,h.next+1+1,rfl,rfl,rfl,rfl,a6,by omega,by omega,by rw [o6 _ (by omega)];exact g3,by rw [o6 _ (by omega)];exact g5,.refl,fun _=>rfl,hD.ext x3,fun b hb _=>x3.get b hb,x3.next,.inl ⟨rfl,rfl⟩⟩ ?_
 rintro m e h' ⟨D,more,P6,e1,e3,e5,e6,q6,q6l,q6n,q3,q5,hre,hdim,hbit,hfr,hnx,hch⟩ K0 hN0 hx0 hr0
 rw [F.bV.aN]
 simp only [e6,aQ,Nat.reduceAdd,Nat.reduceEqDiff,reduceIte,an q6]
 rcases hch with ⟨hm1,hm⟩|⟨hm1,hm,hpass⟩
 ·subst hm1
  have st:bL 1 (.ptr P6 0) (.bool false) h'=some (h'.set P6 (.cells [.bool false])):=by rw [dV (n:=1) q6 rfl rfl (by simp)];rfl
  have hlena:∀ h,bQ .slice a1 h=some (.int .i64 (ps.length:Int)):=fun h=>hps.len
  simp only [aC,st,aQ,Nat.reduceAdd,Nat.reduceEqDiff,reduceIte,e1,hlena]
  have f0:∀ b,b≠P6→(h'.set P6 (.cells [.bool false])).get b=h'.get b:=fun b hb=>by rw [ag.aO,if_neg hb]
  have f6:(h'.set P6 (.cells [.bool false])).get P6=some (.cells [.bool false]):=by rw [ag.aO,if_pos rfl]
  have fn:(h'.set P6 (.cells [.bool false])).next=h'.next:=ag.next_set _ _ _
  have fD:ef D (h'.set P6 (.cells [.bool false])) B lo:=by
   obtain ⟨es,ck,mm,z1,z2,z3⟩:=hbit.ex
   refine ⟨⟨es,ck,mm,by rw [f0 _ (by omega)];exact z1,z2,z3⟩,fun nm p hp=>?_,hbit.inj,by rw [fn];exact hbit.lt⟩
   obtain ⟨c1,c2,c3,c4⟩:=hbit.blk nm p hp
   obtain ⟨p0,d1,d2,_⟩:=hdim.back hp
   have:=hrn nm p0 d1
   exact ⟨c1,by rw [fn];exact c2,c3,by rw [f0 _ (by omega)];exact c4⟩
  refine aE 0 ps.length (Nat.zero_le _) (fun i e h2=>∃ s:DB×Bool,s=kF n ((ps.map (·.r)).take i) (D,false)∧FJ (ps.map (·.r.name)) D0 D s∧ef s.1 h2 B lo∧h2.get P6=some (.cells [.bool s.2])∧h2.get h.next=some (.cells [.ptr S 0])∧h2.get (h.next+1)=some (.cells [.func ng na nb]) ∧
   (∀ b,b<h.next→(∀ nm p,D0 nm=some p→b≠p.1)→h2.get b=h.get b)∧h'.next≤h2.next∧e 1=a1∧e 3 = .ptr h.next 0∧e 5 = .ptr (h.next+1) 0∧e 6 = .ptr P6 0∧e 10=a1∧e 11 = .int .i64 (ps.length:Int)∧e 12 = .int .i64 (i:Int))
   ⟨(D,false),rfl,⟨hdim,Nat.le_refl _,fun h=>(by cases h),fun _=>rfl⟩,fD,f6,by rw [f0 _ (by omega)];exact q3,by rw [f0 _ (by omega)];exact q5,fun b hb hb2=>by rw [f0 _ (by omega)];exact hfr b hb hb2,by omega,e1,e3,e5,e6,rfl,rfl,rfl⟩ ?_ ?_
  ·rintro i e h2 _ hi ⟨s,hs,hq,w1,w6,w3,w5,wf,wn,e1,e3,e5,e6,e10,e11,e12⟩ K1 hn1 hx1 hr1 hp1
   have hv:ps[i]?=some ps[i]:=List.getElem?_eq_getElem hi
   generalize ps[i]=p at hv
   have hpm:=List.mem_of_getElem? hv
   have pok:=o.plans p hpm
   have hps2:Own rD 8 k0 h2 a1 ps:=by
    cases hps with
    |nil=>exact .nil
    |row b l z1 z2 z3=>exact .row b _ z1 (by omega) (by rw [wf b z2 (hpb b rfl)];exact z3)
   obtain ⟨b,_,_,i1,i2,_⟩:=hps2.get CP hv
   obtain ⟨H,hst,hL,ho,hn⟩:=cL (h:=h2) (zs:=[.int .i64 0,.str [],.nils,.nils,.int .i64 0,.nils,.nils,.nils]) (cs:=rD p) (n:=8) rfl rfl (CQ p)
   have xH:bR h2 H:=⟨by omega,fun b hb=>ho b (by omega)⟩
   have hL':=hL
   simp only [rD,bI] at hL'
   have hSH:H.get S=some (.cells [.int .i64 (n:Int),.map B]):=by rw [xH.get S (by omega),wf S hSn (fun nm p hp=>Ne.symm (o.rows nm p hp))];exact hS
   rw [F.bV.dS]
   simp only [e10,e11,e12,aQ,Nat.reduceAdd,Nat.reduceEqDiff,reduceIte,bf hi,i1,i2,hst,e3]
   simp only [an (show H.get h.next=some (.cells [.ptr S 0]) by rw [xH.get _ (by omega)];exact w3),an hL',Il,aQ,Nat.reduceAdd,Nat.reduceEqDiff,reduceIte,e5,e6]
   have so:Im S B n lo H.next h.next (h.next+1) P6 h2.next D0 p.r (varsOf p.r).length p.hd ng na nb:=
    ⟨o.n1,o.n64,⟨by omega,by omega,by omega,by omega,by omega,by omega⟩,fun nm q hq=>by have:=hrn nm q hq;exact ⟨by omega,o.rows nm q hq,by omega,by omega,by omega,by omega⟩,⟨by omega,by omega,by omega,by omega,by omega⟩,o.ask p hpm,o.head p hpm,rfl,pok.hd,o.note⟩
   have sa:m7 S B n lo H.next h.next (h.next+1) P6 h2.next D0 p.r p.i (varsOf p.r).length p.hd p.cs p.ls ng na nb H s H:=
    ⟨hSH,w1.ext xH,hq.Jm,by rw [xH.get _ (by omega)];exact w3,by rw [xH.get _ (by omega)];exact w5,by rw [xH.get _ (by omega)];exact w6,hL,Nat.le_refl _,fun _ _ _ _=>rfl⟩
   refine ak (G8 (G9 so) pok.kH rfl pok.k12 pok.cs pok.ls sa (Nat.le_refl _) fun h5 b5 f5 n5=>?_)
   simp only [aQ,Nat.reduceAdd,Nat.reduceEqDiff,reduceIte,e12,aK hi hbig]
   have hvr:(ps.map (·.r))[i]?=some p.r:=by rw [List.getElem?_map,hv];rfl
   refine hn1 _ _ ⟨jE n p.r s,by rw [He hvr,← hs],FK o.n1 (List.mem_map_of_mem (f:=fun q:vt=>q.r.name) hpm) (o.head p hpm).2.2 hq,b5.hD,b5.h6,b5.h3,b5.h5,fun b b1 b2=>?_,by omega,e1,e3,e5,e6,e10,e11,rfl⟩
   rw [b5.old b (by omega) (by omega) b2,xH.get b (by omega),wf b b1 b2]
  ·rintro e h2 ⟨s,hs,hq,w1,w6,w3,w5,wf,wn,e1,e3,e5,e6,e10,e11,e12⟩ K1 hx1
   rw [List.take_of_length_le (by simp)] at hs
   obtain ⟨H,hst,hL,ho,hn⟩:=lu (h:=h2) (z:=.bool false) (v:=.bool s.2) rfl rfl
   have xH:bR h2 H:=⟨by omega,fun b hb=>ho b (by omega)⟩
   rw [F.bV.dS]
   simp only [e11,e12,aQ,Nat.reduceAdd,Nat.reduceEqDiff,reduceIte,aT]
   rw [hx1,F.bV.cG]
   simp only [e6,aQ,Nat.reduceAdd,Nat.reduceEqDiff,reduceIte,an w6,hst]
   have hre':Reach n (ps.map (·.r)) D0 s.1:=by rw [hs];exact .step D hre
   have com:∀ (m':Nat) (e':Env),e' 1=a1→e' 3 = .ptr h.next 0→e' 5 = .ptr (h.next+1) 0→e' 6 = .ptr h2.next 0→m'<m→((s.2=true∧m'=Be (ps.map (·.r.name)) s.1+1)∨(s.2=false∧m'=0∧kF n (ps.map (·.r)) (s.1,false)=(s.1,false)))→K0 .normal ⟨e',22,[],H⟩=true:=fun m' e' e1 e3 e5 e6 hm' hc=>
    hN0 m' _ _ hm' ⟨s.1,s.2,h2.next,e1,e3,e5,e6,hL,by omega,by omega,by rw [xH.get _ (by omega)];exact w3,by rw [xH.get _ (by omega)];exact w5,hre',hq.Jm,w1.ext xH,fun b b1 b2=>by rw [xH.get b (by omega)];exact wf b b1 b2,by omega,hc⟩
   cases hs2:s.2 with
   |true=>
    have:=hq.lt hs2
    exact com (Be (ps.map (·.r.name)) s.1+1) _ e1 e3 e5 rfl (by omega) (.inl ⟨hs2,rfl⟩)
   |false=>
    have h1:=hq.same hs2
    exact com 0 _ e1 e3 e5 rfl (by omega) (.inr ⟨hs2,rfl,by rw [h1,← hs,← h1,← hs2]⟩)
 ·subst hm1
  simp only [aD]
  rw [hx0,F.bV.aG]
  exact hK h' D hre hpass hdim hbit hfr hnx
end
end Go.AM
namespace Go.AM
open Go Go.Proofs
noncomputable section
def Rel.ok(r:Rel):Prop:=r.name.length≤cm∧r.tuples.l.length≤cm∧∀ t ∈ r.tuples.l,t.l.length≤cm
def dw.ok(s:dw):Prop:=s.rels.l.length≤cm∧∀ r ∈ s.rels.l,r.ok
theorem FM{es:List Entry}(hn:(es.map (·.2.2)).Nodup){e:Entry}(he:e ∈ es):j5 e.2.2 es=some e:=by
 induction es with
 |nil=>cases he
 |cons a es ih=>
  rw [List.map_cons,List.nodup_cons] at hn
  rw [j5]
  by_cases h:a.2.2=e.2.2
  ·rw [if_pos h]
   rw [List.mem_cons] at he
   rcases he with rfl|he
   ·rfl
   ·exact absurd (by rw [h];exact List.mem_map_of_mem he) hn.1
  ·rw [if_neg h]
   rw [List.mem_cons] at he
   rcases he with rfl|he
   ·exact absurd rfl h
   ·exact ih hn.2 he
theorem Bg{defs:List mu}{K:R→Bool}:∀ {ps:List (AV×ag)},(∀ p ∈ ps,K (.ok p.1 defs p.2)=true)→kr defs K ps=true
 |[],_=>rfl
 |p :: ps,h=>by
  rw [kr,h p List.mem_cons_self,Bool.true_and]
  exact Bg fun q hq=>h q (List.mem_cons_of_mem _ hq)
theorem Bh{r m:Nat}{es:List Entry}{ck:Nat}{seen:List Nat}{h:ag}{defs:List mu}{K:R→Bool}(hr:h.get r=some (.miter (some m) ck seen ck))(hm:h.get m=some (.map es ck))(hB:je es ck)(hrm:r≠m)
  (hdone:(∀ e ∈ es,e.2.2 ∈ seen)→K (.ok (.tuple [.bool false]) defs h)=true)
  (hstep:∀ e ∈ es,e.2.2 ∉ seen→qE (.ptr r 0) (h.set r (.miter (some m) ck (seen++[e.2.2]) ck))=some (.tuple [e.1,e.2.1])→K (.ok (.tuple [.bool true,e.1,e.2.1]) defs (h.set r (.miter (some m) ck (seen++[e.2.2]) ck)))=true) :
  af (uy false (.ptr r 0) h) (kr defs K)=true:=by
 have hc:∀ o ∈ qD es ck seen,(o=none∧∀ e ∈ es,e.2.2 ∈ seen)∨∃ e,o=some e∧e ∈ es∧e.2.2 ∉ seen:=by
  intro o ho
  unfold qD at ho
  simp only [List.mem_append,List.mem_map] at ho
  rcases ho with ho|⟨e,he,rfl⟩
  ·split at ho
   ·rename_i hem
    simp only [List.mem_singleton] at ho
    refine .inl ⟨ho,fun e he=>?_⟩
    rw [List.isEmpty_iff,List.filter_eq_nil_iff] at hem
    have hlt:=hB.lt e he
    by_cases hs:e.2.2 ∈ seen
    ·exact hs
    ·exact absurd (decide_eq_true hlt) (hem e (by rw [List.mem_filter];exact ⟨he,by simpa using hs⟩))
   ·cases ho
  ·refine .inr ⟨e,rfl,?_⟩
   have:e ∈ es.filter fun e=>!seen.contains e.2.2:=by
    rcases he with he|he
    ·exact (List.mem_filter.1 he).1
    ·exact (List.mem_filter.1 he).1
   rw [List.mem_filter] at this
   exact ⟨this.1,by simpa using this.2⟩
 have hne:qD es ck seen≠[]:=by
  unfold qD
  intro he
  simp only [List.append_eq_nil_iff,List.map_eq_nil_iff] at he
  obtain ⟨h1,h2,_⟩:=he
  rw [h2] at h1
  simp at h1
 have hbad:(!seen.isEmpty&&!es.isEmpty&&es.all (fun e=>decide (e.2.2≥ck)))=false:=by
  cases es with
  |nil=>simp
  |cons e es=>
   have:=hB.lt e List.mem_cons_self
   rw [List.all_cons,decide_eq_false (by omega),Bool.false_and,Bool.and_false]
 unfold uy
 simp only [hr,hm,hbad,Bool.false_eq_true,if_false]
 cases hcs:qD es ck seen with
 |nil=>exact absurd hcs hne
 |cons c cs=>
  rw [hcs] at hc
  simp only [bindO_some]
  refine Bg fun p hp=>?_
  rw [List.mem_map] at hp
  obtain ⟨o,ho,rfl⟩:=hp
  rcases hc o ho with ⟨rfl,hall⟩|⟨e,rfl,he,hs⟩
  ·exact hdone hall
  ·refine hstep e he hs ?_
   unfold qE
   simp only [ag.aO,if_true,if_neg (Ne.symm hrm),hm,List.getLast?_concat,FM hB.nodup he]
theorem jC.mem':∀ {es:List Entry} {m:dF},jC es m→∀ p ∈ m,∃ e ∈ es,e.1 = .str p.1∧e.2.1 = .int .i64 p.2
 |_,[],_,p,hp=>by cases hp
 |[],q :: m,h,_,_=>h.elim
 |e0 :: es,q :: m,⟨h1,h2,h3⟩,p,hp=>by
  rcases List.mem_cons.1 hp with rfl|hp
  ·exact ⟨e0,List.mem_cons_self,h1,h2⟩
  ·obtain ⟨e,he,r⟩:=jC.mem' h3 p hp
   exact ⟨e,List.mem_cons_of_mem _ he,r⟩
def Bi(es:List Entry)(seen:List Nat):Nat:=(es.filter fun e=>!seen.contains e.2.2).length
theorem KX{es:List Entry}{seen:List Nat}{e:Entry}(he:e ∈ es)(hs:e.2.2 ∉ seen):Bi es (seen++[e.2.2])<Bi es seen:=by
 have h1:(es.filter fun a=>!(seen++[e.2.2]).contains a.2.2)=(es.filter fun a=>!seen.contains a.2.2).filter fun a=>!(a.2.2==e.2.2):=by
  rw [List.filter_filter]
  refine List.filter_congr fun a _=>?_
  rw [Bool.eq_iff_iff]
  simp
  exact And.comm
 unfold Bi
 rw [h1]
 refine List.length_filter_lt_length_iff_exists.2 ⟨e,List.mem_filter.2 ⟨he,by simpa using hs⟩,by simp⟩
theorem wM{f:St→(AX→St→Bool)→Bool}{K:AX→St→Bool}{n:Nat}{defs:List mu}{e0:Env}{h0:ag}(es:List Entry)(J:List Nat→Env→ag→Prop)(hJ:J [] e0 h0)
  (step:∀ seen e h,J seen e h→∀ K':AX→St→Bool,(∀ en ∈ es,en.2.2 ∉ seen→∀ e' h',J (seen++[en.2.2]) e' h'→K' .normal ⟨e',n,defs,h'⟩=true)→(∀ id s,K' (.exit id) s=K (.exit id) s)→(∀ s,K' .ret s=K .ret s)→(∀ v s,K' (.panic v) s=K (.panic v) s)→f ⟨e,n,defs,h⟩ K'=true) :
  bT f ⟨e0,n,defs,h0⟩ K=true:=by
 refine jb (fun m e h=>∃ seen,m=Bi es seen∧J seen e h) (Bi es []) ⟨[],rfl,hJ⟩ fun m e h hi=>?_
 obtain ⟨seen,rfl,hj⟩:=hi
 exact step seen e h hj _ (fun en hen hs e' h' hj'=>oV (I:=fun m e h=>∃ seen,m=Bi es seen∧J seen e h) (Bi es (seen++[en.2.2])) (KX hen hs) ⟨_,rfl,hj'⟩) (fun _ _=>rfl) (fun _=>rfl) (fun _ _=>rfl)
end
end Go.AM
namespace Go.AM
open Go Go.Proofs
noncomputable section
theorem eu.trans{A B C:DB}(h1:eu A B)(h2:eu B C):eu A C:=fun nm=>(h1 nm).trans (h2 nm)
def eX(lv:Lev.Lv)(rs:List aB)(l:Nat):List aB:=rs.filter fun r=>decide (lv r.name=l)
inductive CR (n:Nat) (rs:List aB) (lv:Lev.Lv) (D0:DB):Nat→DB→Prop
 |zero:CR n rs lv D0 0 D0
 |succ (l:Nat) (D D':DB):CR n rs lv D0 l D→Reach n (eX lv rs l) D D'→kF n (eX lv rs l) (D',false)=(D',false)→CR n rs lv D0 (l+1) D'
theorem vu{lv:Lev.Lv}{rs:List aB}{l i:Nat}{r:aB}(hr:rs[i]?=some r):eX lv (rs.take (i+1)) l=eX lv (rs.take i) l++if lv r.name=l then [r] else []:=by
 unfold eX;rw [List.take_add_one,hr,Option.toList_some,List.filter_append]
 by_cases h:lv r.name=l<;>simp [h]
theorem OV(p:vt):fR [.int .i64 0,.str [],.nils,.nils,.int .i64 0,.nils,.nils,.nils] [(0,8)] [.agg (rD p)]=some (rD p):=by
 obtain ⟨i,r,hd,cs,ls⟩:=p
 obtain ⟨nm,xs,ys⟩:=r
 cases hd<;>cases cs<;>cases ls<;>cases xs<;>cases ys<;>rfl
structure KY (S n:Nat) (D0:DB) (rs:List aB) (ng:FuncId) (na nb:List AV):Prop where
 n1:1≤n
 n64:n≤64
 kH:∀ r ∈ rs,r.kH
 k12:∀ r ∈ rs,(varsOf r).length≤12
 rows:∀ nm p,D0 nm=some p→p.1≠S
 ask:∀ r ∈ rs,∀ D,eu D D0→Bc n D r
 head:∀ r ∈ rs,n ^ r.args.l.length≤4096∧r.args.l.length≤12∧∃ q,D0 r.name=some q∧q.2.length=n ^ r.args.l.length
 note:∀ (i:Int) (r:aB) (k:Int) (hd:Sl Int) (cs:Sl (Sl Int)) (ls:Sl Int) (y:AV) (h:ag) (K:Out→ag→Bool),(∀ h',bR h h'→K (.ret (.tuple [])) h'=true)→Sem Tryz.prog ng (na++([.agg (bI i r k (aq encI 1 hd) (aq eE 1 cs) (aq encI 1 ls)),y]++nb)) h K
 few60:rs.length≤60
theorem FN{P M A S n:Nat}{D0:DB}{rules:Sl aB}{hs ks:List bC}{lv:Lev.Lv}{ng:FuncId}{na nb:List AV}(o:KY S n D0 rules.l ng na nb){l:Nat}{h:ag}{e0:Env}{K:AX→St→Bool}
  (hP:h.get P=some (.cells [aq aL 3 rules,.map A,.map M])) (hPn:P<h.next) (hl:fC hs h M ks lv) (hMn:M<h.next) (hin:∀ r ∈ rules.l,r.name ∈ hs)
  (q0:e0 0 = .ptr P 0) (q1:e0 1 = .ptr S 0) (q2:e0 2 = .func ng na nb) (q9:e0 9 = .int .i64 (l:Int)) (q10:e0 10 = .nils) (q33:e0 33=aq aL 3 rules) (q34:e0 34 = .int .i64 (rules.l.length:Int)) (q35:e0 35 = .int .i64 0) {T:AV} (q26:e0 26=T) (q27:e0 27 = .int .i64 (l:Int))
  (done:∀ (e:Env) h' a ps,bR h h'→Own rD 8 h.next h' a ps→(∀ p ∈ ps,p.ok)→ps.map (·.r)=eX lv rules.l l→e 0 = .ptr P 0→e 1 = .ptr S 0→e 2 = .func ng na nb→e 10=a→e 26=T→e 27 = .int .i64 (l:Int)→F.aW.sq K (.exit 4) ⟨e,62,[],h'⟩=true) :
  bT (au Tryz.prog (ah Tryz.prog) F.aW.L2) ⟨e0,62,[],h⟩ (F.aW.sq K)=true:=by
 have hbig:rules.l.length≤cm:=by have:=o.few60;unfold cm;omega
 refine aE 0 rules.l.length (Nat.zero_le _) (fun i e h'=>∃ a ps,bR h h'∧Own rD 8 h.next h' a ps∧(∀ p ∈ ps,p.ok)∧ps.map (·.r)=eX lv (rules.l.take i) l∧e 0 = .ptr P 0∧e 1 = .ptr S 0∧e 2 = .func ng na nb∧e 9 = .int .i64 (l:Int)∧e 10=a∧e 33=aq aL 3 rules∧e 34 = .int .i64 (rules.l.length:Int)∧e 35 = .int .i64 (i:Int)∧e 26=T∧e 27 = .int .i64 (l:Int))
  ⟨.nils,[],bR.refl _,.nil,fun p hp=>(by cases hp),rfl,q0,q1,q2,q9,q10,q33,q34,q35,q26,q27⟩ ?_ ?_
 ·rintro i e h' _ hi ⟨a,ps,hx,oa,hok,hps,e0,e1,e2,e9,e10,e33,e34,e35,e26,e27⟩ K' hn hx' hr hp
  have hv:rules.l[i]?=some rules.l[i]:=List.getElem?_eq_getElem hi
  generalize rules.l[i]=r at hv
  have hrm:=List.mem_of_getElem? hv
  obtain ⟨H,hs1,g1,go,gn⟩:=cL (h:=h') (zs:=[.str [],.nils,.nils]) (cs:=aL r) (n:=3) rfl rfl (ij r)
  have xH:bR h H:=hx.trans ⟨by omega,fun b hb=>go b (by omega)⟩
  have pP:H.get P=some (.cells [aq aL 3 rules,.map A,.map M]):=by rw [xH.get P hPn];exact hP
  have pl:fC hs H M ks lv:=hl.keep (xH.get M hMn)
  have hst:=vu (lv:=lv) (l:=l) hv
  rw [F.aW.iS]
  simp only [e0,e9,e10,e33,e34,e35,aQ,Nat.reduceAdd,Nat.reduceEqDiff,reduceIte,bf hi,aS rules hi,cZ eN hv,hs1]
  simp only [aQ,Nat.reduceAdd,Nat.reduceEqDiff,reduceIte,bS,an pP,an g1,aL,pl.Oj,if_pos (hin r hrm),ct]
  by_cases hlv:lv r.name=l
  ·rw [if_pos hlv] at hst
   simp only [decide_eq_true (by omega:(lv r.name:Int)=(l:Int)),aC,aQ,Nat.reduceAdd,Nat.reduceEqDiff,reduceIte,an g1,aL,lM]
   refine ak (cu (o.kH r hrm) fun hd cs ls h1 h2 h3=>?_)
   have hrow:=OV ⟨(i:Int),r,hd,cs,ls⟩
   have oH:=oa.ext (h':=H) ⟨by omega,fun b hb=>go b (by omega)⟩
   have hpsl:ps.length≤60:=by
    have z1:=congrArg List.length hps
    rw [List.length_map] at z1
    have z2:(eX lv (rules.l.take i) l).length≤(rules.l.take i).length:=List.length_filter_le _ _
    have z3:=List.length_take_le' i rules.l
    have:=o.few60
    omega
   obtain ⟨a2,h3',p1,p2,p3,p4,p5,p6⟩:=oH.push CP CQ xH.next (bytes:=152) (by unfold dm;omega) ⟨(i:Int),r,hd,cs,ls⟩
   simp only [rD] at hrow p1
   simp only [aQ,Nat.reduceAdd,Nat.reduceEqDiff,reduceIte,hrow,e10,p1,e35,aK hi hbig]
   refine hn _ _ ⟨a2,_,p5 h xH (Nat.le_refl _),p2,fun p hp=>?_,by rw [List.map_append,hps,hst];rfl,e0,e1,e2,e9,rfl,e33,e34,rfl,e26,e27⟩
   rcases List.mem_append.1 hp with hp|hp
   ·exact hok p hp
   ·rw [List.mem_singleton] at hp;subst hp
    exact ⟨o.kH r hrm,o.k12 r hrm,h1,h2,h3⟩
  ·rw [if_neg hlv,List.append_nil] at hst
   simp only [decide_eq_false (by omega:¬ (lv r.name:Int)=(l:Int)),aD,e35,aK hi hbig,bindO_some]
   exact hn _ _ ⟨a,ps,xH,oa.ext ⟨by omega,fun b hb=>go b (by omega)⟩,hok,by rw [hst];exact hps,e0,e1,e2,e9,e10,e33,e34,rfl,e26,e27⟩
 ·rintro e h' ⟨a,ps,hx,oa,hok,hps,e0,e1,e2,e9,e10,e33,e34,e35,e26,e27⟩ K' hx'
  rw [F.aW.iS]
  simp only [e34,e35,aQ,Nat.reduceAdd,Nat.reduceEqDiff,reduceIte,aT]
  rw [hx']
  rw [List.take_of_length_le (Nat.le_refl _)] at hps
  exact done _ h' a ps hx oa hok hps e0 e1 e2 e10 e26 e27
end
end Go.AM
namespace Go.AM
open Go Go.Proofs
noncomputable section
def nP(ns:List bC)(lv:Lev.Lv):List Int:=ns.map fun s=>(lv s:Int)
theorem vw(ns:List bC)(lv:Lev.Lv):(nP ns lv).length=ns.length:=by simp [nP]
theorem m9{ns:List bC}{lv:Lev.Lv}{i:Nat}{s:bC}(h:ns[i]?=some s):(nP ns lv)[i]?=some (lv s:Int):=by
 unfold nP;rw [List.getElem?_map,h];rfl
theorem lD{α:Type}:∀ {l:List α} {i j:Nat} {s:α},l.Nodup→l[i]?=some s→l[j]?=some s→i=j
 |[],i,j,s,_,h,_=>by simp at h
 |a :: l,0,0,s,_,_,_=>rfl
 |a :: l,0,j+1,s,hn,h1,h2=>by
  simp only [List.getElem?_cons_zero,Option.some.injEq,List.getElem?_cons_succ] at h1 h2
  subst h1
  exact absurd (List.mem_of_getElem? h2) (List.nodup_cons.1 hn).1
 |a :: l,i+1,0,s,hn,h1,h2=>by
  simp only [List.getElem?_cons_zero,Option.some.injEq,List.getElem?_cons_succ] at h1 h2
  subst h2
  exact absurd (List.mem_of_getElem? h1) (List.nodup_cons.1 hn).1
 |a :: l,i+1,j+1,s,hn,h1,h2=>by
  rw [List.getElem?_cons_succ] at h1 h2
  rw [lD (List.nodup_cons.1 hn).2 h1 h2]
theorem KZ{ns:List bC}(hn:ns.Nodup){lv:Lev.Lv}{e:Lev.Edge}{a:Nat}(ha:ns[a]?=some e.h)(hlt:lv e.h<lv e.b+e.w):(nP ns lv).set a ((lv e.b+e.w:Nat):Int)=nP ns (Lev.gh lv e):=by
 have hal:=(List.getElem?_eq_some_iff.1 ha).1
 refine List.ext_getElem? fun j=>?_
 rw [List.getElem?_set]
 have hrel:∀ x,Lev.gh lv e x=if x=e.h then lv e.b+e.w else lv x:=fun x=>by unfold Lev.gh;rw [if_pos hlt]
 by_cases hj:a=j
 ·subst hj
  rw [if_pos rfl,if_pos (by rw [vw];exact hal),m9 ha,hrel,if_pos rfl]
 ·rw [if_neg hj]
  cases hs:ns[j]? with
  |none=>unfold nP;rw [List.getElem?_map,List.getElem?_map,hs];rfl
  |some t=>
   rw [m9 hs,m9 hs,hrel,if_neg]
   intro e1
   subst e1
   exact hj (lD hn ha hs)
theorem FO{lv:Lev.Lv}{e:Lev.Edge}{s:bC}(h:s≠e.h):Lev.gh lv e s=lv s:=by
 unfold Lev.gh;split
 ·exact if_neg h
 ·rfl
set_option maxHeartbeats 2000000 in
theorem bh{rules:Sl aB}(h60:rules.l.length≤60)(h20:∀ r ∈ rules.l,r.body.l.length≤20){h:ag}{K:Out→ag→Bool}
  (hno:(∀ k,¬ Lev.de (bM rules.l) (Lev.iter (bM rules.l) k))→K (.ret (.tuple [.nils,.bool false])) h=true)
  (hyes:∀ (y:Sl Int) k,Lev.de (bM rules.l) (Lev.iter (bM rules.l) k)→y.l=nP (cU rules.l) (Lev.iter (bM rules.l) k)→K (.ret (.tuple [aq encI 1 y,.bool true])) h=true) :
  Sem Tryz.prog 32 [aq aL 3 rules] h K:=by
 have hbig:rules.l.length≤cm:=by unfold cm;omega
 have hN:∀ e ∈ bM rules.l,e.b ∈ cU rules.l∧e.h ∈ cU rules.l:=fun e he=>by
  obtain ⟨r,hr,c,hc,_,hin,rfl⟩:=mZ he
  exact ⟨(dx _).2 hin,(dx _).2 (List.mem_map_of_mem hr)⟩
 have hw:∀ e ∈ bM rules.l,e.w≤1:=fun e he=>by
  obtain ⟨r,hr,c,hc,_,hin,rfl⟩:=mZ he
  exact D6 r c
 have hnd:=rF (nE rules.l)
 have hdl:(cU rules.l).length≤60:=by have:=kG rules.l;omega
 have main:Sem Tryz.prog 32 [aq aL 3 rules] ag.empty (fun o h'=>yes (((∀ k,¬ Lev.de (bM rules.l) (Lev.iter (bM rules.l) k))∧o = .ret (.tuple [.nils,.bool false])) ∨
   ∃ (a:AV) (y:Sl Int) (k:Nat),o = .ret (.tuple [a,.bool true])∧Fz true h' a (aq encI 1 y)∧Lev.de (bM rules.l) (Lev.iter (bM rules.l) k)∧y.l=nP (cU rules.l) (Lev.iter (bM rules.l) k))):=by
  refine F.wh ?_
  rw [F.yz]
  generalize hR:(fun (o:Out) (h':ag)=>yes (((∀ k,¬ Lev.de (bM rules.l) (Lev.iter (bM rules.l) k))∧o = .ret (.tuple [.nils,.bool false])) ∨
   ∃ (a:AV) (y:Sl Int) (k:Nat),o = .ret (.tuple [a,.bool true])∧Fz true h' a (aq encI 1 y)∧Lev.de (bM rules.l) (Lev.iter (bM rules.l) k)∧y.l=nP (cU rules.l) (Lev.iter (bM rules.l) k)))=R
  have finN:(∀ k,¬ Lev.de (bM rules.l) (Lev.iter (bM rules.l) k))→∀ h',R (.ret (.tuple [.nils,.bool false])) h'=true:=fun hk h'=>by
   subst hR;exact cw.2 (.inl ⟨hk,rfl⟩)
  have finY:∀ h' a (y:Sl Int) k,Fz true h' a (aq encI 1 y)→Lev.de (bM rules.l) (Lev.iter (bM rules.l) k)→y.l=nP (cU rules.l) (Lev.iter (bM rules.l) k)→R (.ret (.tuple [a,.bool true])) h'=true:=fun h' a y k q1 q2 q3=>by
   subst hR;exact cw.2 (.inr ⟨a,y,k,rfl,q1,q2,q3⟩)
  clear hR
  refine ak (cM h60 fun x hx1=>?_)
  have hxl:x.l.length≤60:=by rw [hx1];exact hdl
  have hxb:x.l.length≤cm:=by unfold cm;omega
  simp only [aQ,Nat.reduceAdd,Nat.reduceEqDiff,reduceIte,sr (show x.l.length≤1000000 by omega)]
  have gU:(ag.alloc ag.empty (.cells ((List.replicate x.l.length (0:Int)).map iv))).get 0=some (.cells ((nP x.l (Lev.iter (bM rules.l) 0)).map iv)):=by
   have:nP x.l (Lev.iter (bM rules.l) 0)=List.replicate x.l.length (0:Int):=by
    show x.l.map (fun _=>(0:Int))=_;exact List.map_const'
   rw [this];exact aI _ _
  have gn:(ag.alloc ag.empty (.cells ((List.replicate x.l.length (0:Int)).map iv))).next=1:=rfl
  simp only [bp]
  generalize (ag.alloc ag.empty (.cells ((List.replicate x.l.length (0:Int)).map iv)))=H0 at gU gn ⊢
  rw [← hx1] at hN hnd finY
  refine xW (fun m e h'=>∃ k,h'.get 0=some (.cells ((nP x.l (Lev.iter (bM rules.l) k)).map iv))∧0<h'.next∧(∀ s,Lev.iter (bM rules.l) k s≤x.l.length)∧e 0=aq aL 3 rules∧e 4=aq encS 1 x∧e 5 = .slice 0 0 x.l.length 1 ∧
   ((e 6 = .bool true∧m=x.l.length*x.l.length+2-(x.l.map (Lev.iter (bM rules.l) k)).sum)∨(e 6 = .bool false∧m=0∧Lev.de (bM rules.l) (Lev.iter (bM rules.l) k)))) _
   ⟨0,gU,by omega,fun s=>Nat.zero_le _,rfl,rfl,rfl,.inl ⟨rfl,rfl⟩⟩ ?_
  rintro m e h' ⟨k,qU,qn,bd,e0,e4,e5,hch⟩ K0 hN0 hx0 hr0
  rw [F.bh.aN]
  rcases hch with ⟨e6,hm⟩|⟨e6,hm,hst⟩
  ·have hsum:(x.l.map (Lev.iter (bM rules.l) k)).sum≤x.l.length*x.l.length:=Lev.Gu x.l fun s _=>bd s
   simp only [e6,condB_bool,aC]
   refine aE 0 rules.l.length (Nat.zero_le _) (fun i e h'=>∃ cur ch,Lev.RS (Lev.iter (bM rules.l) k) cur (jz (aY rules.l) (rules.l.take i)) ch∧h'.get 0=some (.cells ((nP x.l cur).map iv))∧0<h'.next∧(∀ s,cur s≤x.l.length) ∧
    e 0=aq aL 3 rules∧e 4=aq encS 1 x∧e 5 = .slice 0 0 x.l.length 1∧e 6 = .bool ch∧e 7 = .int .i64 (i:Int)) ⟨_,false,Lev.RS.nil _,qU,qn,bd,e0,e4,e5,rfl,rfl⟩ ?_ ?_
   ·rintro i e h' _ hi ⟨cur,ch,rs,qU,qn,bd,e0,e4,e5,e6,e7⟩ K1 hn1 hx1' hr1 hp1
    have hv:rules.l[i]?=some rules.l[i]:=List.getElem?_eq_getElem hi
    generalize rules.l[i]=r at hv
    have hb20:=h20 r (List.mem_of_getElem? hv)
    have hbb:r.body.l.length≤cm:=by unfold cm;omega
    have hrin:r.name ∈ x.l:=by rw [hx1];exact (dx _).2 (List.mem_map_of_mem (List.mem_of_getElem? hv))
    have ld:∀ j,j<3→∀ h,ai none (.iptr (rules.l.flatMap aL) (i*3+j)) h=(aL r)[j]?:=fun j hj h=>eM eN hv hj
    have ld0:∀ h,ai none (.iptr (rules.l.flatMap aL) (i*3)) h=some (.str r.name):=fun h=>ld 0 (by omega) h
    rw [F.bh.dS]
    simp only [e0,e4,e7,aQ,Nat.reduceAdd,Nat.reduceEqDiff,reduceIte,bf hi,aS rules hi,ld0]
    refine ak (dL hxb (fun a ha=>?_) (fun hnot=>absurd hrin hnot))
    have hal:=(List.getElem?_eq_some_iff.1 ha).1
    simp only [aQ,Nat.reduceAdd,Nat.reduceEqDiff,reduceIte]
    refine aE 0 r.body.l.length (Nat.zero_le _) (fun j e h2=>∃ cur ch,Lev.RS (Lev.iter (bM rules.l) k) cur (jz (aY rules.l) (rules.l.take i)++mg (aY rules.l) r (r.body.l.take j)) ch∧h2.get 0=some (.cells ((nP x.l cur).map iv))∧0<h2.next∧(∀ s,s≠r.name→cur s≤x.l.length)∧(∀ s,cur s≤x.l.length+j) ∧
     e 0=aq aL 3 rules∧e 4=aq encS 1 x∧e 5 = .slice 0 0 x.l.length 1∧e 6 = .bool ch∧e 7 = .int .i64 (i:Int)∧e 8 = .int .i64 (a:Int)∧e 9 = .int .i64 (j:Int))
     ⟨cur,ch,by simpa [mg] using rs,qU,qn,fun s _=>bd s,by simpa using bd,e0,e4,e5,e6,e7,rfl,rfl⟩ ?_ ?_
    ·rintro j e h2 _ hj ⟨cur,ch,rs,qU,qn,bd1,bd2,e0,e4,e5,e6,e7,e8,e9⟩ K2 hn2 hx2 hr2 hp2
     have hc:r.body.l[j]?=some r.body.l[j]:=List.getElem?_eq_getElem hj
     generalize r.body.l[j]=c at hc
     obtain ⟨H2,hs2,k1,ko,kn⟩:=cL (h:=h2) (zs:=[.int .i64 0,.bool false,.str [],.nils]) (cs:=bO c) (n:=4) rfl rfl (gm c)
     have kU:H2.get 0=some (.cells ((nP x.l cur).map iv)):=by rw [ko 0 (by omega)];exact qU
     have hst:=xR (hs:=aY rules.l) (r:=r) hc
     have skip:kD (aY rules.l) r c = []→∀ e':Env,e' 0=aq aL 3 rules→e' 4=aq encS 1 x→e' 5 = .slice 0 0 x.l.length 1→e' 6 = .bool ch→e' 7 = .int .i64 (i:Int)→e' 8 = .int .i64 (a:Int)→e' 9 = .int .i64 ((j+1:Nat):Int)→K2 .normal ⟨e',89,[],H2⟩=true:=by
      intro hed e' e0 e4 e5 e6 e7 e8 e9
      rw [hed,List.append_nil] at hst
      exact hn2 _ _ ⟨cur,ch,by rw [hst];exact rs,kU,by omega,bd1,fun s=>by have:=bd2 s;omega,e0,e4,e5,e6,e7,e8,e9⟩
     rw [F.bh.iS]
     simp only [e0,e4,e7,e9,aQ,Nat.reduceAdd,Nat.reduceEqDiff,reduceIte,aS rules hi,ld 2 (by omega),aL,bf hj,aS r.body hj,cZ gl hc,hs2]
     simp only [aQ,Nat.reduceAdd,Nat.reduceEqDiff,reduceIte,an k1,bO]
     refine ak (dL hxb (fun b hb=>?_) (fun hnot=>?_))
     ·have hbl:=(List.getElem?_eq_some_iff.1 hb).1
      have hcin:c.name ∈ aY rules.l:=by rw [← dx,← hx1];exact List.mem_of_getElem? hb
      simp only [aQ,Nat.reduceAdd,Nat.reduceEqDiff,reduceIte,an k1,bO,ct]
      by_cases k0:c.kind=0
      ·have hed:kD (aY rules.l) r c = [eU r c]:=by unfold kD;rw [if_pos ⟨k0,hcin⟩]
       rw [hed] at hst
       simp only [decide_eq_true k0,aC,decide_eq_true (show (0:Int)≤(b:Int) by omega),e5,jy hbl,kC kU (m9 hb),aQ,Nat.reduceAdd,Nat.reduceEqDiff,reduceIte,an k1,bO]
       have J:∀ e':Env,e' 0=aq aL 3 rules→e' 4=aq encS 1 x→e' 5 = .slice 0 0 x.l.length 1→e' 6 = .bool ch→e' 7 = .int .i64 (i:Int)→e' 8 = .int .i64 (a:Int)→e' 9 = .int .i64 (j:Int)→e' 12 = .int .i64 ((cur c.name+(eU r c).w:Nat):Int) →
         F.bh.J0 K2 ⟨e',89,[],H2⟩=true:=by
        intro e' e0 e4 e5 e6 e7 e8 e9 e12
        rw [F.bh.Au]
        simp only [e5,e8,e12,jy hal,kC kU (m9 ha),aQ,Nat.reduceAdd,Nat.reduceEqDiff,reduceIte]
        by_cases hlt:cur r.name<cur c.name+(eU r c).w
        ·have hset:=KZ hnd (e:=eU r c) ha hlt
         have hstore:=mV (v:=((cur c.name+(eU r c).w:Nat):Int)) kU (i:=a) (by rw [vw];exact hal)
         have hset':(nP x.l cur).set a ((cur c.name+(eU r c).w:Nat):Int)=nP x.l (Lev.gh cur (eU r c)):=hset
         rw [hset'] at hstore
         simp only [bf hlt,aC,e5,e8,e9,e12,jy hal,hstore,aQ,Nat.reduceAdd,Nat.reduceEqDiff,reduceIte,aK hj hbb]
         refine hn2 _ _ ⟨_,true,?_,by rw [ag.aO,if_pos rfl],by rw [ag.next_set];omega,fun s hs=>?_,fun s=>?_,e0,e4,e5,rfl,e7,e8,rfl⟩
         ·rw [hst,← List.append_assoc];exact rs.up hlt
         ·rw [FO (e:=eU r c) hs];exact bd1 s hs
         ·have:=Lev.qB (e:=eU r c) bd2 (D6 r c) s;omega
        ·simp only [decide_eq_false (by omega:¬ ((cur r.name:Int)<((cur c.name+(eU r c).w:Nat):Int))),aD,e9,aK hj hbb,bindO_some]
         exact hn2 _ _ ⟨cur,ch,by rw [hst,← List.append_assoc];exact rs.same hlt,kU,by omega,bd1,fun s=>by have:=bd2 s;omega,e0,e4,e5,e6,e7,e8,rfl⟩
       cases hng:c.neg with
       |true=>
        have hw1:(eU r c).w=1:=by unfold eU;simp [hng]
        have hadd:=aK (i:=cur c.name) (n:=2000000) (by have:=bd2 c.name;omega) (by unfold cm;omega)
        simp only [aC,hadd,bindO_some]
        exact J _ e0 e4 e5 e6 e7 e8 e9 (by rw [hw1];rfl)
       |false=>
        have hw1:(eU r c).w=0:=by unfold eU;simp [hng]
        simp only [aD]
        exact J _ e0 e4 e5 e6 e7 e8 e9 (by rw [hw1];rfl)
      ·simp only [decide_eq_false k0,aD,e9,aK hj hbb,bindO_some]
       exact skip (by unfold kD;rw [if_neg (fun h=>k0 h.1)]) _ e0 e4 e5 e6 e7 e8 rfl
     ·have hcout:c.name ∉ aY rules.l:=fun h=>hnot (by rw [hx1];exact (dx _).2 h)
      have hed:kD (aY rules.l) r c = []:=by unfold kD;rw [if_neg (fun h=>hcout h.2)]
      simp only [aQ,Nat.reduceAdd,Nat.reduceEqDiff,reduceIte,an k1,bO,ct]
      by_cases k0:c.kind=0
      ·simp only [decide_eq_true k0,aC,show decide ((0:Int)≤-1)=false from rfl,aD,e9,aK hj hbb,bindO_some]
       exact skip hed _ e0 e4 e5 e6 e7 e8 rfl
      ·simp only [decide_eq_false k0,aD,e9,aK hj hbb,bindO_some]
       exact skip hed _ e0 e4 e5 e6 e7 e8 rfl
    ·rintro e h2 ⟨cur,ch,rs,qU,qn,bd1,bd2,e0,e4,e5,e6,e7,e8,e9⟩ K2 hx2
     rw [List.take_of_length_le (Nat.le_refl _),← A2 hv] at rs
     rw [F.bh.iS]
     simp only [e0,e7,e9,aQ,Nat.reduceAdd,Nat.reduceEqDiff,reduceIte,aS rules hi,ld 2 (by omega),aL,aT]
     rw [hx2,F.bh.gw]
     simp only [e4,e5,e7,e8,jy hal,kC qU (m9 ha),aQ,Nat.reduceAdd,Nat.reduceEqDiff,reduceIte]
     by_cases hgt:x.l.length<cur r.name
     ·simp only [bf hgt,aC]
      rw [hr1,F.bh.iR,hr0,F.bh.aZ]
      refine finN (Lev.high (N:=x.l) hN hw (k:=k) (E1:=jz (aY rules.l) (rules.l.take (i+1))) (E2:=jz (aY rules.l) (rules.l.drop (i+1))) ?_ hrin (by rw [← rs.eq];exact hgt)) _
      unfold bM jz
      rw [← List.flatMap_append,List.take_append_drop]
     ·simp only [decide_eq_false (by omega:¬ ((x.l.length:Int)<(cur r.name:Int))),aD,e7,aK hi hbig,bindO_some]
      refine hn1 _ _ ⟨cur,ch,rs,qU,qn,fun s=>?_,e0,e4,e5,e6,rfl⟩
      by_cases hs:s=r.name
      ·subst hs;omega
      ·exact bd1 s hs
   ·rintro e h' ⟨cur,ch,rs,qU,qn,bd',e0,e4,e5,e6,e7⟩ K1 hx1'
    rw [List.take_of_length_le (Nat.le_refl _)] at rs
    obtain ⟨d1,d2⟩:=rs.done
    have d1':cur=Lev.iter (bM rules.l) (k+1):=d1
    rw [F.bh.dS]
    simp only [e0,e7,aQ,Nat.reduceAdd,Nat.reduceEqDiff,reduceIte,aT]
    rw [hx1',F.bh.cG]
    by_cases hst:Lev.de (bM rules.l) (Lev.iter (bM rules.l) k)
    ·have hst':Lev.de (jz (aY rules.l) rules.l) (Lev.iter (bM rules.l) k):=hst
     rw [decide_eq_true hst'] at d2
     have d3:cur=Lev.iter (bM rules.l) k:=by rw [d1];exact Lev.tI hst
     rw [d3] at qU
     exact hN0 0 _ _ (by omega) ⟨k,qU,qn,bd,e0,e4,e5,.inr ⟨by simp only [bt,Nat.reduceEqDiff,reduceIte,e6,d2];rfl,rfl,hst⟩⟩
    ·have hst':¬ Lev.de (jz (aY rules.l) rules.l) (Lev.iter (bM rules.l) k):=hst
     rw [decide_eq_false hst'] at d2
     rw [d1'] at qU bd'
     have h1:=Lev.Iu hN hst
     have h2:(x.l.map (Lev.iter (bM rules.l) (k+1))).sum≤x.l.length*x.l.length:=Lev.Gu x.l fun s _=>bd' s
     have h3:(x.l.map (Lev.iter (bM rules.l) k)).sum<(x.l.map (Lev.iter (bM rules.l) (k+1))).sum:=h1
     exact hN0 _ _ _ (by rw [hm];omega) ⟨k+1,qU,qn,bd',e0,e4,e5,.inl ⟨by simp only [bt,Nat.reduceEqDiff,reduceIte,e6,d2];rfl,rfl⟩⟩
  ·simp only [e6,condB_bool,aD]
   rw [hx0,F.bh.aG]
   simp only [bt,Nat.reduceEqDiff,reduceIte,e5]
   have hf:=KA qU
   rw [vw] at hf
   exact finY _ _ (some (nP x.l (Lev.iter (bM rules.l) k))) k hf hst rfl
 refine main.frozen (by simp [AV.pureL,bF dR]) fun o h' ho=>?_
 rcases cw.1 ho with ⟨hb,rfl⟩|⟨a,y,k,rfl,f1,hst,s3⟩
 ·exact ⟨_,_,rfl,.dD rfl,hno hb⟩
 ·have fl:=jB.cons f1 (jB.cons (Fz.scalar (.bool true) rfl) jB.nil)
  exact ⟨_,_,rfl,.tuple _ _ fl.len fl.rel,hyes y k hst s3⟩
end
end Go.AM
namespace Go.AM
open Go Go.Proofs
noncomputable section
set_option maxHeartbeats 2000000 in
theorem I9{P M A B S n lo:Nat}{D0:DB}{rules:Sl aB}{hs ks:List bC}{lv:Lev.Lv}{ng:FuncId}{na nb:List AV}(o:KY S n D0 rules.l ng na nb){h:ag}{K:Out→ag→Bool}
  (hP:h.get P=some (.cells [aq aL 3 rules,.map A,.map M])) (hPn:P<h.next) (hl:fC hs h M ks lv) (hks:ks.Nodup) (hMn:M<h.next) (hin:∀ r ∈ rules.l,r.name ∈ hs) (hlv:∀ x,lv x≤1000000)
  (hS:h.get S=some (.cells [.int .i64 (n:Int),.map B])) (hSn:S<h.next) (hD:ef D0 h B lo) (hPM:∀ nm p,D0 nm=some p→p.1≠P∧p.1≠M)
  (hK:∀ h' D' T,(∀ x ∈ hs,lv x≤T)→CR n rules.l lv D0 (T+1) D'→eu D' D0→ef D' h' B lo→(∀ b,b<h.next→(∀ nm p,D0 nm=some p→b≠p.1)→h'.get b=h.get b)→h.next≤h'.next→K (.ret (.tuple [])) h'=true) :
  Sem Tryz.prog 46 [.ptr P 0,.ptr S 0,.func ng na nb] h K:=by
 obtain ⟨es,ck,m,z1,z2,z3,z4,z5⟩:=hl.ex
 have hmnd:(m.map (·.1)).Nodup:=by rw [z4];exact hks
 have hval:∀ p ∈ m,p.1 ∈ hs∧p.2=(lv p.1:Int):=fun p hp=>by
  have h1:=sw hmnd hp
  rw [z5] at h1
  by_cases hh:p.1 ∈ hs
  ·rw [if_pos hh] at h1;exact ⟨hh,(Option.some.inj h1).symm⟩
  ·rw [if_neg hh] at h1;cases h1
 refine F.qq ?_
 rw [F.qZ]
 have hrg:kV .map (.map M) h=some (.ptr h.next 0,h.alloc (.miter (some M) ck [] ck)):=by simp only [kV,z1]
 simp only [aQ,Nat.reduceAdd,Nat.reduceEqDiff,reduceIte,bS,an hP,hrg]
 refine wM es (fun seen e hh=>∃ t:Nat,e 6 = .int .i64 (t:Int)∧(∀ en ∈ es,en.2.2 ∈ seen→∀ v:Nat,en.2.1 = .int .i64 (v:Int)→v≤t)∧t≤1000000∧hh.get h.next=some (.miter (some M) ck seen ck)∧(∀ b,b<h.next→hh.get b=h.get b)∧h.next<hh.next ∧
  e 0 = .ptr P 0∧e 1 = .ptr S 0∧e 2 = .func ng na nb∧e 17 = .ptr h.next 0)
  ⟨0,rfl,fun en _ hen=>(by cases hen),by omega,aI _ _,fun b hb=>by rw [ag.aV,if_neg (by omega)],by rw [ag.next_alloc];omega,rfl,rfl,rfl,rfl⟩ ?_
 rintro seen e hh ⟨t,e6,ht,ht6,w3,wf,wn,e0,e1,e2,e17⟩ K' hnx' hex hret hpan
 rw [F.aW.aN]
 simp only [e17]
 refine Bh w3 (by rw [wf M hMn];exact z1) z3 (by omega) (fun hall=>?_) (fun en hen hns hent=>?_)
 ·simp only [DK,mE,bindO_some,condB_bool,aD]
  rw [hex,F.aW.aG]
  have htop:∀ x ∈ hs,lv x≤t:=fun x hx=>by
   have h1:m.find x=some (lv x:Int):=by rw [z5,if_pos hx]
   obtain ⟨en,hen,h2,h3⟩:=z2.mem' _ (ou h1)
   exact ht en hen (hall en hen) (lv x) h3
  have hadd:=aK (i:=t) (n:=1000001) (by omega) (by unfold cm;omega)
  simp only [aQ,Nat.reduceAdd,Nat.reduceEqDiff,reduceIte,e6,hadd]
  refine aE 0 (t+1) (Nat.zero_le _) (fun l e h'=>∃ D,CR n rules.l lv D0 l D∧eu D D0∧ef D h' B lo∧(∀ b,b<h.next→(∀ nm p,D0 nm=some p→b≠p.1)→h'.get b=h.get b)∧h.next≤h'.next∧e 0 = .ptr P 0∧e 1 = .ptr S 0∧e 2 = .func ng na nb∧e 26 = .int .i64 ((t+1:Nat):Int)∧e 27 = .int .i64 (l:Int))
   ⟨D0,.zero,fun _=>rfl,hD.ext ⟨by omega,fun b hb=>wf b hb⟩,fun b hb _=>wf b hb,by omega,e0,e1,e2,rfl,rfl⟩ ?_ ?_
  ·rintro l e h' _ hlt ⟨D,hrun,hdim,hbit,hfr,hnx,e0,e1,e2,e26,e27⟩ K1 hn1 hx1 hr1 hp1
   have notP:∀ nm p,D0 nm=some p→P≠p.1:=fun nm p hp=>Ne.symm (hPM nm p hp).1
   have notM:∀ nm p,D0 nm=some p→M≠p.1:=fun nm p hp=>Ne.symm (hPM nm p hp).2
   have pP:h'.get P=some (.cells [aq aL 3 rules,.map A,.map M]):=by rw [hfr P hPn notP];exact hP
   have pl:fC hs h' M ks lv:=hl.keep (hfr M hMn notM)
   rw [F.aW.dS]
   simp only [e0,e26,e27,aQ,Nat.reduceAdd,Nat.reduceEqDiff,reduceIte,bf hlt,bS,an pP]
   refine FN o (l:=l) pP (by omega) pl (by omega) hin e0 e1 e2 rfl rfl rfl rfl rfl e26 e27 fun e' h3 a ps hx3 oa hok hps f0 f1 f2 f10 f26 f27=>?_
   rw [F.aW.gw]
   simp only [f1,f2,f10]
   have hS3:h3.get S=some (.cells [.int .i64 (n:Int),.map B]):=by rw [hx3.get S (by omega),hfr S hSn (fun nm p hp=>Ne.symm (o.rows nm p hp))];exact hS
   have hsub:∀ p ∈ ps,p.r ∈ rules.l:=fun p hp=>by
    have:p.r ∈ eX lv rules.l l:=by rw [← hps];exact List.mem_map_of_mem hp
    exact (List.mem_filter.1 this).1
   have hpsl:ps.length≤60:=by
    have y1:=congrArg List.length hps
    rw [List.length_map] at y1
    have y2:(eX lv rules.l l).length≤rules.l.length:=List.length_filter_le _ _
    have:=o.few60
    omega
   have po:KW S n D ps ng na nb:=
    ⟨o.n1,o.n64,hok,fun nm p hp=>by obtain ⟨p0,y1,y2,_⟩:=hdim.back hp;rw [y2];exact o.rows nm p0 y1,fun p hp D' hd'=>o.ask _ (hsub p hp) D' (hd'.trans hdim),
     fun p hp=>by
      obtain ⟨y1,y2,q,y3,y4⟩:=o.head _ (hsub p hp)
      obtain ⟨q',y5,_,y6⟩:=hdim.get y3
      exact ⟨y1,y2,q',y5,by rw [y6];exact y4⟩,o.note⟩
   have hDn:∀ nm p,D nm=some p→p.1<h'.next:=fun nm p hp=>(hbit.blk nm p hp).2.1
   refine ak (FL po hS3 (by have:=hx3.next;omega) (hbit.ext hx3) oa (fun b hb nm p hp=>by have:=oa.ge hb;have:=hDn nm p hp;omega) hpsl fun h4 D4 k1 k2 k3 k4 k5 k6=>?_)
   simp only [aQ,Nat.reduceAdd,Nat.reduceEqDiff,reduceIte,f27,aK hlt (show t+1≤cm by unfold cm;omega)]
   rw [hps] at k1 k2
   refine hn1 _ _ ⟨D4,.succ l D D4 hrun k1 k2,k3.trans hdim,k4,fun b b1 b2=>?_,by have:=hx3.next;omega,f0,f1,f2,f26,rfl⟩
   rw [k5 b (by have:=hx3.next;omega) (fun nm p hp=>by obtain ⟨p0,y1,y2,_⟩:=hdim.back hp;rw [y2];exact b2 nm p0 y1),hx3.get b (by omega),hfr b b1 b2]
  ·rintro e h' ⟨D,hrun,hdim,hbit,hfr,hnx,e0,e1,e2,e26,e27⟩ K1 hx1
   rw [F.aW.dS]
   simp only [e26,e27,aQ,Nat.reduceAdd,Nat.reduceEqDiff,reduceIte,aT]
   rw [hx1,F.aW.cG]
   exact hK h' D t htop hrun hdim hbit hfr hnx
 ·obtain ⟨p,hpm,hn1,hn2⟩:=z2.mem en hen
  obtain ⟨hph,hpv⟩:=hval p hpm
  rw [hpv] at hn2
  have hlvp:=hlv p.1
  simp only [DK,mE,se,bindO_some,condB_bool,aC,e17,hent,e6,hn2,FE]
  have hmx:Ik (t:Int) (lv p.1:Int)=((if lv p.1>t then lv p.1 else t:Nat):Int):=by
   unfold Ik
   by_cases hgt:lv p.1>t
   ·rw [if_pos hgt,if_pos (by omega)]
   ·rw [if_neg hgt,if_neg (by omega)]
  refine hnx' en hen hns _ _ ⟨if lv p.1>t then lv p.1 else t,by rw [hmx];rfl,fun en' hen' hs' v hv=>?_,by split<;>omega,by rw [ag.aO,if_pos rfl],fun b hb=>by rw [ag.aO,if_neg (by omega)];exact wf b hb,by rw [ag.next_set];exact wn,e0,e1,e2,e17⟩
  rcases List.mem_append.1 hs' with hs'|hs'
  ·have:=ht en' hen' hs' v hv
   split<;>omega
  ·rw [List.mem_singleton] at hs'
   have hee:en'=en:=by
    have hb:=z3.nodup
    obtain ⟨i,hi⟩:=List.mem_iff_getElem?.1 hen
    obtain ⟨j,hj⟩:=List.mem_iff_getElem?.1 hen'
    have hi':(es.map (·.2.2))[i]?=some en.2.2:=by rw [List.getElem?_map,hi];rfl
    have hj':(es.map (·.2.2))[j]?=some en.2.2:=by rw [List.getElem?_map,hj,← hs'];rfl
    have hij:=lD hb hi' hj'
    subst hij
    rw [hi] at hj;exact (Option.some.inj hj).symm
   rw [hee,hn2] at hv
   have:v=lv p.1:=by injection hv with _ h3;omega
   rw [this]
   split<;>omega
end
end Go.AM
namespace Go.AM
open Go Go.Proofs
noncomputable section
theorem fP{n:Int}{x:Sl Int}(hx:x.l.length≤cm){h:ag}{K:Out→ag→Bool}(hK:K (.ret (.bool (gQ n x.l))) h=true):Sem Tryz.prog 117 [.int .i64 n,aq encI 1 x] h K:=by
 refine F.DW ?_
 rw [F.Fi]
 refine aE 0 x.l.length (Nat.zero_le _) (fun i e h'=>h'=h∧e 0 = .int .i64 n∧e 1=aq encI 1 x∧e 5 = .int .i64 (i:Int)∧gQ n (x.l.take i)=true) ⟨rfl,rfl,rfl,rfl,rfl⟩ ?_ ?_
 ·rintro i e h' _ hi ⟨rfl,e0,e1,e5,ht⟩ K' hn hx' hr hp
  have hv:x.l[i]?=some x.l[i]:=List.getElem?_eq_getElem hi
  rw [F.fP.aN]
  simp only [e0,e1,e5,aQ,Nat.reduceAdd,Nat.reduceEqDiff,reduceIte,bf hi,aS x hi,eT hv]
  by_cases h1:x.l[i]<0
  ·simp only [decide_eq_true h1,aC]
   rw [hr,F.fP.aZ]
   have:gQ n x.l=false:=all_false hv (by simp [h1])
   rw [this] at hK;exact hK
  ·simp only [decide_eq_false h1,aD]
   by_cases h2:n≤x.l[i]
   ·simp only [decide_eq_true h2,aC]
    rw [hr,F.fP.aZ]
    have:gQ n x.l=false:=all_false hv (by simp [h2])
    rw [this] at hK;exact hK
   ·simp only [decide_eq_false h2,aD,aK hi hx,bindO_some]
    exact hn _ _ ⟨rfl,e0,e1,rfl,ic hv ht (by simp [h1,h2])⟩
 ·rintro e h' ⟨rfl,e0,e1,e5,ht⟩ K' hx'
  rw [F.fP.aN]
  simp only [e0,e1,e5,aQ,Nat.reduceAdd,Nat.reduceEqDiff,reduceIte,aT]
  rw [hx',F.fP.aG]
  rw [List.take_of_length_le (Nat.le_refl _)] at ht
  rw [ht] at hK;exact hK
theorem Cf{x:Sl Int}(hx:x.l.length≤cm){g:FuncId}{a b:List AV}{h:ag}{p:Int→Bool}(hp:∀ (v:Int) (K:Out→ag→Bool),K (.ret (.bool (p v))) h=true→Sem Tryz.prog g (a++([.int .i64 v]++b)) h K)
  {K:Out→ag→Bool} (hK:∀ n:Int,decide (0≤n)=x.l.any p→K (.ret (.int .i64 n)) h=true):Sem Tryz.prog 121 [aq encI 1 x,.func g a b] h K:=by
 refine F.k9 ?_
 rw [F.lT]
 simp only [aQ,Nat.reduceAdd,Nat.reduceEqDiff,reduceIte]
 refine aE 0 x.l.length (Nat.zero_le _) (fun i e h'=>h'=h∧e 0=aq encI 1 x∧e 1 = .func g a b∧e 7 = .int .i64 (x.l.length:Int)∧e 8 = .int .i64 (i:Int)∧(x.l.take i).any p=false) ⟨rfl,rfl,rfl,rfl,rfl,rfl⟩ ?_ ?_
 ·rintro i e h' _ hi ⟨rfl,e0,e1,e7,e8,ht⟩ K' hn hx' hr hp'
  have hv:x.l[i]?=some x.l[i]:=List.getElem?_eq_getElem hi
  rw [F.bU.aN]
  simp only [e0,e1,e7,e8,aQ,Nat.reduceAdd,Nat.reduceEqDiff,reduceIte,bf hi,aS x hi,eT hv,callV_func]
  refine ak (hp _ _ ?_)
  simp only [aQ,Nat.reduceAdd,Nat.reduceEqDiff,reduceIte]
  cases hq:p x.l[i] with
  |true=>
   simp only [aC]
   rw [hr,F.bU.aZ]
   refine hK (i:Int) ?_
   rw [decide_eq_true (by omega:(0:Int)≤(i:Int))]
   exact (List.any_eq_true.2 ⟨_,List.mem_of_getElem? hv,hq⟩).symm
  |false=>
   simp only [aD,aK hi hx,bindO_some]
   exact hn _ _ ⟨rfl,e0,e1,e7,rfl,by rw [List.take_add_one,hv,List.any_append,ht];simp [hq]⟩
 ·rintro e h' ⟨rfl,e0,e1,e7,e8,ht⟩ K' hx'
  rw [F.bU.aN]
  simp only [e0,e1,e7,e8,aQ,Nat.reduceAdd,Nat.reduceEqDiff,reduceIte,aT]
  rw [hx',F.bU.aG]
  rw [List.take_of_length_le (Nat.le_refl _)] at ht
  exact hK (-1) (by rw [ht];rfl)
theorem oy{x:Sl Int}(hx:x.l.length≤cm){g:FuncId}{a b:List AV}{h:ag}{p:Int→Bool}(hp:∀ (v:Int) (K:Out→ag→Bool),K (.ret (.bool (p v))) h=true→Sem Tryz.prog g (a++([.int .i64 v]++b)) h K)
  {K:Out→ag→Bool} (hK:K (.ret (.bool (x.l.any p))) h=true):Sem Tryz.prog 67 [aq encI 1 x,.func g a b] h K:=by
 refine F.ki ?_
 rw [F.kB]
 refine ak (Cf hx hp fun n hn=>?_)
 simp only [aQ,Nat.reduceAdd,Nat.reduceEqDiff,reduceIte]
 rw [hn];exact hK
def NB(n:Int)(x:Int):Bool:=decide (x<0)||decide (n≤x)
theorem OW(n:Int)(l:List Int):gQ n l = !(l.any (NB n)):=by
 unfold gQ NB
 induction l with
 |nil=>rfl
 |cons a l ih=>simp only [List.all_cons,List.any_cons,ih];cases decide (a<0)<;>cases decide (n≤a)<;>rfl
theorem c8{cs:List AV}{n:Nat}(h:cs.length=n):hG (some n) cs 0=some (.agg cs):=by
 simp [hG,h,List.take_of_length_le]
theorem fL{n k:Nat}(h1:1≤n)(h2:n≤64)(hk:k≤cm){h:ag}{K:Out→ag→Bool}(hK:∀ v:Nat,(n ^ k≤4096→v=n ^ k)→(4096<n ^ k→4096<v)→K (.ret (.int .i64 (v:Int))) h=true) :
  Sem Tryz.prog 75 [.int .i64 (n:Int),.int .i64 (k:Int)] h K:=by
 refine F.B4 ?_
 rw [F.DU]
 refine aE 0 k (Nat.zero_le _) (fun i e h'=>h'=h∧e 0 = .int .i64 (n:Int)∧e 1 = .int .i64 (k:Int)∧e 6 = .int .i64 (i:Int)∧e 5 = .int .i64 ((n ^ i:Nat):Int)∧n ^ i≤262144) ⟨rfl,rfl,rfl,rfl,rfl,by simp⟩ ?_ ?_
 ·rintro i e h' _ hi ⟨rfl,e0,e1,e6,e5,hb⟩ K' hn hx hr hp
  rw [F.fL.aN]
  simp only [e0,e1,e5,e6,aQ,Nat.reduceAdd,Nat.reduceEqDiff,reduceIte,bf hi]
  by_cases hc:n ^ i≤4096
  ·have hm:n ^ i*n≤4096*64:=Nat.mul_le_mul hc h2
   have hm':((n ^ i:Nat):Int)*(n:Int)=((n ^ (i+1):Nat):Int):=by rw [Nat.pow_succ,Int.natCast_mul]
   have hs:n ^ (i+1)≤262144:=by rw [Nat.pow_succ];omega
   have hmul:aJ .mul (.int .i64 ((n ^ i:Nat):Int)) (.int .i64 (n:Int))=some (.int .i64 ((n ^ (i+1):Nat):Int)):=by
    rw [r8 (by rw [hm'];omega) (by rw [hm'];omega),hm']
   simp only [decide_eq_true (by omega:((n ^ i:Nat):Int)≤4096),aC,hmul,aK hi hk,bindO_some]
   exact hn _ _ ⟨rfl,e0,e1,rfl,rfl,hs⟩
  ·simp only [decide_eq_false (by omega:¬ ((n ^ i:Nat):Int)≤4096),aD]
   rw [hx,F.fL.aG]
   simp only [e5,bt,Nat.reduceEqDiff,reduceIte]
   have:=D8 h1 (Nat.le_of_lt hi)
   exact hK _ (fun h=>by omega) (fun _=>by omega)
 ·rintro e h' ⟨rfl,e0,e1,e6,e5,hb⟩ K' hx
  rw [F.fL.aN]
  simp only [e0,e1,e5,e6,aQ,Nat.reduceAdd,Nat.reduceEqDiff,reduceIte,aT]
  rw [hx,F.fL.aG]
  simp only [e5,bt,Nat.reduceEqDiff,reduceIte]
  exact hK _ (fun _=>rfl) (fun h=>h)
def Hf(n k:Nat):Int:=if n ^ k≤4096 then ((n ^ k:Nat):Int) else -1
theorem dZ{n k:Nat}(h1:1≤n)(h2:n≤64)(hk:k≤cm){h:ag}{K:Out→ag→Bool}(hK:K (.ret (.int .i64 (Hf n k))) h=true) :
  Sem Tryz.prog 136 [.int .i64 (n:Int),.int .i64 (k:Int),.int .i64 4096] h K:=by
 refine F.yE ?_
 rw [F.AI]
 refine aE 0 k (Nat.zero_le _) (fun i e h'=>h'=h∧e 0 = .int .i64 (n:Int)∧e 2 = .int .i64 4096∧e 8 = .int .i64 (k:Int)∧e 9 = .int .i64 (i:Int)∧e 7 = .int .i64 ((n ^ i:Nat):Int)∧n ^ i≤4096) ⟨rfl,rfl,rfl,rfl,rfl,rfl,by simp⟩ ?_ ?_
 ·rintro i e h' _ hi ⟨rfl,e0,e2,e8,e9,e7,hb⟩ K' hn hx hr hp
  rw [F.dZ.aN]
  have hm:n ^ i*n≤4096*64:=Nat.mul_le_mul hb h2
  have hm':((n ^ i:Nat):Int)*(n:Int)=((n ^ (i+1):Nat):Int):=by rw [Nat.pow_succ,Int.natCast_mul]
  have hs:n ^ (i+1)≤262144:=by rw [Nat.pow_succ];omega
  have hmul:aJ .mul (.int .i64 ((n ^ i:Nat):Int)) (.int .i64 (n:Int))=some (.int .i64 ((n ^ (i+1):Nat):Int)):=by
   rw [r8 (by rw [hm'];omega) (by rw [hm'];omega),hm']
  simp only [e0,e2,e7,e8,e9,aQ,Nat.reduceAdd,Nat.reduceEqDiff,reduceIte,bf hi,hmul]
  by_cases hc:n ^ (i+1)≤4096
  ·simp only [decide_eq_false (by omega:¬ (4096:Int)<((n ^ (i+1):Nat):Int)),aD,aK hi hk,bindO_some]
   exact hn _ _ ⟨rfl,e0,e2,e8,rfl,rfl,hc⟩
  ·simp only [decide_eq_true (by omega:(4096:Int)<((n ^ (i+1):Nat):Int)),aC]
   rw [hr,F.dZ.aZ]
   simp only [bt,Nat.reduceEqDiff,reduceIte]
   have:=D8 h1 (show i+1≤k from hi)
   rw [Hf,if_neg (by omega)] at hK
   exact hK
 ·rintro e h' ⟨rfl,e0,e2,e8,e9,e7,hb⟩ K' hx
  rw [F.dZ.aN]
  simp only [e8,e9,aQ,Nat.reduceAdd,Nat.reduceEqDiff,reduceIte,aT]
  rw [hx,F.dZ.aG]
  simp only [e7,bt,Nat.reduceEqDiff,reduceIte]
  rw [Hf,if_pos hb] at hK
  exact hK
def K4(n k:Nat):AV:=if 12<k then .tuple [.int .i64 0,.int .i64 2] else if 4096<n ^ k then .tuple [.int .i64 0,.int .i64 5] else .tuple [.int .i64 ((n ^ k:Nat):Int),.int .i64 0]
theorem xX{n k:Nat}(h1:1≤n)(h2:n≤64)(hk:k≤cm){h:ag}{K:Out→ag→Bool}(hK:K (.ret (K4 n k)) h=true):Sem Tryz.prog 107 [.int .i64 (n:Int),.int .i64 (k:Int)] h K:=by
 refine F.yD ?_
 rw [F.AG]
 simp only [aQ,Nat.reduceAdd,Nat.reduceEqDiff,reduceIte,decide_eq_false (by omega:¬ (n:Int)<1),decide_eq_false (by omega:¬ (64:Int)<(n:Int)),decide_eq_false (by omega:¬ (k:Int)<0)]
 unfold K4 at hK
 by_cases h12:12<k
 ·rw [if_pos h12] at hK
  simp only [decide_eq_true (by omega:(12:Int)<(k:Int)),aC];exact hK
 ·rw [if_neg h12] at hK
  simp only [decide_eq_false (by omega:¬ (12:Int)<(k:Int)),aD]
  refine ak (dZ h1 h2 hk ?_)
  simp only [aQ,Nat.reduceAdd,Nat.reduceEqDiff,reduceIte]
  by_cases hc:n ^ k≤4096
  ·rw [if_neg (by omega)] at hK
   simp only [Hf,if_pos hc,decide_eq_false (by omega:¬ ((n ^ k:Nat):Int)<0),aD];exact hK
  ·rw [if_pos (by omega)] at hK
   simp only [Hf,if_neg hc,decide_eq_true (by omega:(-1:Int)<0),aC];exact hK
theorem Hg{b:Nat}{h:ag}{n:Int}(hb:h.get b=some (.cells [.int .i64 n]))(v:Int)(K:Out→ag→Bool)(hK:K (.ret (.bool (NB n v))) h=true):Sem Tryz.prog 191 ([]++([.int .i64 v]++[.ptr b 0])) h K:=by
 refine F.rf ?_
 rw [F.sY]
 simp only [an hb,aQ,Nat.reduceAdd,Nat.reduceEqDiff,reduceIte]
 unfold NB at hK
 by_cases h1:v<0<;>by_cases h2:n≤v<;>simpa [h1,h2] using hK
theorem Bj{n:Int}{x:Sl Int}(hx:x.l.length≤cm){h:ag}{K:Out→ag→Bool}(hK:K (.ret (.bool (gQ n x.l))) h=true):Sem Tryz.prog 173 [.int .i64 n,aq encI 1 x] h K:=by
 refine Sem.data (r:=.bool (gQ n x.l)) ?_ (by simp [AV.pureL,AV.pure,bF iL]) hK
 refine F.ua ?_
 rw [F.va]
 simp only [oY (x:=.int .i64 _) rfl,bindO_some,bp]
 have g0:(ag.alloc ag.empty (.cells [.int .i64 n])).get 0=some (.cells [.int .i64 n]):=aI _ _
 refine ak (oy hx (Hg g0) ?_)
 simp only [aQ,Nat.reduceAdd,Nat.reduceEqDiff,reduceIte]
 rw [OW]
 exact cK rfl
theorem Bk{l m:List Int}{i:Nat}{a b:Int}(ha:l[i]?=some a)(hb:m[i]?=some b):gj (l.drop i) (m.drop i)=if a=b then gj (l.drop (i+1)) (m.drop (i+1)) else decide (a<b):=by
 have h1:=(List.getElem?_eq_some_iff.1 ha).1
 have h2:=(List.getElem?_eq_some_iff.1 hb).1
 rw [List.drop_eq_getElem_cons h1,List.drop_eq_getElem_cons h2]
 rw [List.getElem?_eq_getElem h1] at ha
 rw [List.getElem?_eq_getElem h2] at hb
 cases ha;cases hb;rfl
theorem eY{x y:Sl Int}(hx:x.l.length≤cm)(hxy:x.l.length=y.l.length){h:ag}{K:Out→ag→Bool}(hK:K (.ret (.bool (gj x.l y.l))) h=true):Sem Tryz.prog 118 [aq encI 1 x,aq encI 1 y] h K:=by
 refine F.AH ?_
 rw [F.B7]
 refine aE 0 x.l.length (Nat.zero_le _) (fun i e h'=>h'=h∧e 0=aq encI 1 x∧e 1=aq encI 1 y∧e 5 = .int .i64 (i:Int)∧gj x.l y.l=gj (x.l.drop i) (y.l.drop i)) ⟨rfl,rfl,rfl,rfl,rfl⟩ ?_ ?_
 ·rintro i e h' _ hi ⟨rfl,e0,e1,e5,hl⟩ K' hn hx' hr hp
  have hi2:i<y.l.length:=by omega
  have hv:x.l[i]?=some x.l[i]:=List.getElem?_eq_getElem hi
  have hw:y.l[i]?=some y.l[i]:=List.getElem?_eq_getElem hi2
  rw [Bk hv hw] at hl
  generalize x.l[i]=a at hv hl
  generalize y.l[i]=b at hw hl
  rw [F.eY.aN]
  simp only [e0,e1,e5,aQ,Nat.reduceAdd,Nat.reduceEqDiff,reduceIte,bf hi,aS x hi,aS y hi2,eT hv,eT hw,ct]
  by_cases hab:a=b
  ·rw [if_pos hab] at hl
   simp only [decide_eq_true hab,Bool.not_true,aD,aK hi hx,bindO_some]
   exact hn _ _ ⟨rfl,e0,e1,rfl,hl⟩
  ·rw [if_neg hab] at hl
   simp only [decide_eq_false hab,Bool.not_false,aC]
   rw [hr,F.eY.aZ]
   simp only [bt,Nat.reduceEqDiff,reduceIte]
   rw [hl] at hK;exact hK
 ·rintro e h' ⟨rfl,e0,e1,e5,hl⟩ K' hx'
  rw [F.eY.aN]
  simp only [e0,e5,aQ,Nat.reduceAdd,Nat.reduceEqDiff,reduceIte,aT]
  rw [hx',F.eY.aG]
  rw [List.drop_of_length_le (Nat.le_refl _)] at hl
  rw [hl] at hK;exact hK
theorem CS{a:Int}{h:ag}{K:Out→ag→Bool}(hK:K (.ret (.bool false)) h=true):Sem Tryz.prog 174 [.int .i64 a] h K:=by
 refine F.ve ?_
 rw [F.wu]
 simp only [aQ,Nat.reduceAdd,Nat.reduceEqDiff,reduceIte,beq_self_eq_true,Bool.not_true]
 exact hK
theorem FP{a b:Int}{h:ag}{K:Out→ag→Bool}(hK:∀ c:Int,(c=0↔a=b)→(c<0↔a<b)→K (.ret (.int .i64 c)) h=true):Sem Tryz.prog 142 [.int .i64 a,.int .i64 b] h K:=by
 refine F.sX ?_
 rw [F.uc]
 refine ak (CS ?_)
 simp only [aQ,Nat.reduceAdd,Nat.reduceEqDiff,reduceIte]
 refine ak (CS ?_)
 simp only [aQ,Nat.reduceAdd,Nat.reduceEqDiff,reduceIte]
 by_cases h1:a<b
 ·simp only [decide_eq_true h1,aC];exact hK _ (by omega) (by omega)
 ·simp only [decide_eq_false h1,aD]
  by_cases h2:b<a
  ·simp only [decide_eq_true h2,aC];exact hK _ (by omega) (by omega)
  ·simp only [decide_eq_false h2,aD];exact hK _ (by omega) (by omega)
theorem Bl{x y:Sl Int}(hx:x.l.length≤cm)(hxy:x.l.length=y.l.length){h:ag}{K:Out→ag→Bool}(hK:∀ c:Int,decide (0≤c) = !(gj x.l y.l)→K (.ret (.int .i64 c)) h=true):Sem Tryz.prog 90 [aq encI 1 x,aq encI 1 y] h K:=by
 refine F.mc ?_
 rw [F.mC]
 simp only [aQ,Nat.reduceAdd,Nat.reduceEqDiff,reduceIte]
 refine aE 0 x.l.length (Nat.zero_le _) (fun i e h'=>h'=h∧e 0=aq encI 1 x∧e 1=aq encI 1 y∧e 9=aq encI 1 x∧e 10 = .int .i64 (x.l.length:Int)∧e 11 = .int .i64 (i:Int)∧gj x.l y.l=gj (x.l.drop i) (y.l.drop i)) ⟨rfl,rfl,rfl,rfl,rfl,rfl,rfl⟩ ?_ ?_
 ·rintro i e h' _ hi ⟨rfl,e0,e1,e9,e10,e11,hl⟩ K' hn hx' hr hp
  have hi2:i<y.l.length:=by omega
  have hv:x.l[i]?=some x.l[i]:=List.getElem?_eq_getElem hi
  have hw:y.l[i]?=some y.l[i]:=List.getElem?_eq_getElem hi2
  rw [Bk hv hw] at hl
  generalize x.l[i]=a at hv hl
  generalize y.l[i]=b at hw hl
  rw [F.bX.aN]
  simp only [e0,e1,e9,e10,e11,aQ,Nat.reduceAdd,Nat.reduceEqDiff,reduceIte,bf hi,aS x hi,aS y hi2,eT hv,eT hw,decide_eq_false (by omega:¬ (y.l.length:Int)≤(i:Int))]
  refine ak (FP fun c c1 c2=>?_)
  simp only [aQ,Nat.reduceAdd,Nat.reduceEqDiff,reduceIte,ct]
  by_cases hab:a=b
  ·rw [if_pos hab] at hl
   simp only [decide_eq_true (c1.2 hab),Bool.not_true,aD,aK hi hx,bindO_some]
   exact hn _ _ ⟨rfl,e0,e1,e9,e10,rfl,hl⟩
  ·rw [if_neg hab] at hl
   simp only [decide_eq_false (fun h=>hab (c1.1 h)),Bool.not_false,aC]
   rw [hr,F.bX.aZ]
   simp only [bt,Nat.reduceEqDiff,reduceIte]
   refine hK c ?_
   rw [hl]
   by_cases hlt:a<b
   ·rw [decide_eq_true hlt,decide_eq_false (by have:=c2.2 hlt;omega)];rfl
   ·rw [decide_eq_false hlt,decide_eq_true (by have:=mt c2.1 hlt;omega)];rfl
 ·rintro e h' ⟨rfl,e0,e1,e9,e10,e11,hl⟩ K' hx'
  rw [F.bX.aN]
  simp only [e10,e11,aQ,Nat.reduceAdd,Nat.reduceEqDiff,reduceIte,aT]
  rw [hx',F.bX.aG]
  simp only [e0,e1,aQ,Nat.reduceAdd,Nat.reduceEqDiff,reduceIte,decide_eq_false (by omega:¬ (x.l.length:Int)<(y.l.length:Int))]
  rw [List.drop_of_length_le (Nat.le_refl _)] at hl
  exact hK 0 (by rw [hl];rfl)
structure View {α:Type} (enc:α→List AV) (sz:Nat) (a:AV) (l:List α):Prop where
 len:∀ h:ag,bQ .slice a h=some (.int .i64 (l.length:Int))
 at_:∀ (i:Nat) (v:α),l[i]?=some v→∃ cs o,(∀ k:IntKind,cS sz a (.int k (i:Int))=some (.iptr cs o))∧(∀ h:ag,ai (some sz) (.iptr cs o) h=some (.agg (enc v)))∧∀ (m:Nat),m<sz→∀ h:ag,ai none (.iptr cs (o+m)) h=(enc v)[m]?
theorem K5{α:Type}{enc:α→List AV}{sz:Nat}(he:∀ a,(enc a).length=sz)(x:Sl α):View enc sz (aq enc sz x) x.l where
 len h:=E3 x h
 at_ i v hv:=⟨x.l.flatMap enc,i*sz,fun k=>aS x (List.getElem?_eq_some_iff.1 hv).1,fun h=>cZ he hv,fun m hm h=>eM he hv hm⟩
theorem Ja{α:Type}{enc:α→List AV}{sz:Nat}(he:∀ a,(enc a).length=sz)(x:Sl α){i:Nat}(hi:i≤x.l.length) :
  ∃ a,(∀ k:IntKind,gr (some sz) (aq enc sz x) none (some (.int k (i:Int)))=some a)∧View enc sz a (x.l.take i):=by
 cases x with
 |none=>
  simp only [Sl.l_none,List.length_nil,Nat.le_zero_eq] at hi
  subst hi
  exact ⟨.nils,fun k=>by simp [gr,aq,kI,mM,asNat],⟨fun h=>rfl,fun j v hv=>by simp at hv⟩⟩
 |some l=>
  simp only [Sl.l_some] at hi ⊢
  refine ⟨.islice (l.flatMap enc) 0 i sz,fun k=>?_,⟨fun h=>by simp [bQ,Nat.min_eq_left hi],fun j v hv=>?_⟩⟩
  ·simp [gr,aq,kI,mM,asNat,hi]
  ·have hj:j<i:=by have:=(List.getElem?_eq_some_iff.1 hv).1;rw [List.length_take] at this;omega
   rw [List.getElem?_take_of_lt hj] at hv
   exact ⟨l.flatMap enc,j*sz,fun k=>by simp [cS,asNat,hj],fun h=>cZ he hv,fun m hm h=>eM he hv hm⟩
def bA(r:Rel):List AV:=[.str r.name,.int .i64 r.arity,aq eE 1 r.tuples]
theorem fN(r:Rel):(bA r).length=3:=rfl
theorem nF(r:Rel):AV.pureL (bA r)=true:=by simp [bA,AV.pureL,AV.pure,bF ov]
theorem iD(r:Rel):br (bA r)=true:=by unfold bA;simp only [br,jm,Bool.and_true];rfl
def aA(s:dw):List AV:=[.int .i64 s.size,aq bA 3 s.rels]
theorem er(s:dw):AV.pureL (aA s)=true:=by simp [aA,AV.pureL,AV.pure,bF nF]
theorem cR(s:dw):br (aA s)=true:=by unfold aA;simp only [br,jm,Bool.and_true];rfl
theorem mG{p:Nat→Bool}{n:Nat}(h:∀ j,j<n→p j=true):Ce p n=true:=by
 rw [Ce,List.all_eq_true];exact fun x hx=>h x (List.mem_range.1 hx)
theorem iE{p:Nat→Bool}{n i:Nat}(hi:i<n)(h:p i=false):Ce p n=false:=by
 rw [Bool.eq_false_iff];intro hh
 rw [Ce,List.all_eq_true] at hh
 have:=hh i (List.mem_range.2 hi)
 rw [h] at this;cases this
theorem rG{p:Nat→Bool}{n:Nat}(h:Ce p n=true){i:Nat}(hi:i<n):p i=true:=by
 rw [Ce,List.all_eq_true] at h
 exact h i (List.mem_range.2 hi)
theorem D9{n k:Nat}{l:List (Sl Int)}{i:Nat}{t:Sl Int}(h:ke n k l i=true)(ht:l[i]?=some t):t.l.length=k:=by
 unfold ke at h
 rw [ht] at h
 simp only [Bool.and_eq_true,decide_eq_true_eq] at h
 exact h.1
theorem cP{n k:Nat}{r:Rel}(hr:r.ok)(ha:r.arity=(k:Int)){h:ag}{K:Out→ag→Bool}(hK:K (.ret (.bool (sZ n k r.tuples.l))) h=true):Sem Tryz.prog 137 [.int .i64 (n:Int),.agg (bA r)] h K:=by
 refine Sem.data (r:=.bool (sZ n k r.tuples.l)) ?_ (by simp [AV.pureL,AV.pure,nF]) hK
 clear hK
 refine F.wm ?_
 rw [F.yF]
 have b0:(ag.alloc ag.empty (.cells (bA r))).get 0=some (.cells (bA r)):=aI _ _
 simp only [cA (iD r),bindO_some,bp]
 generalize (ag.alloc ag.empty (.cells (bA r)))=H at b0 ⊢
 have fin:∀ b:Bool,b=sZ n k r.tuples.l→mS (.bool (sZ n k r.tuples.l)) (.ret (.bool b)) H=true:=fun b hb=>by rw [hb];exact cK rfl
 simp only [aQ,Nat.reduceAdd,Nat.reduceEqDiff,reduceIte,an b0,bA]
 refine aE 0 r.tuples.l.length (Nat.zero_le _) (fun i e h'=>h'=H∧e 0 = .int .i64 (n:Int)∧e 3 = .ptr 0 0∧e 8=aq eE 1 r.tuples∧e 9 = .int .i64 (r.tuples.l.length:Int)∧e 10 = .int .i64 (i:Int)∧∀ j,j<i→ke n k r.tuples.l j=true) ⟨rfl,rfl,rfl,rfl,rfl,rfl,fun j hj=>by omega⟩ ?_ ?_
 ·rintro i e h' _ hi ⟨rfl,e0,e3,e8,e9,e10,ht⟩ K' hn hx' hrr hp
  have hv:r.tuples.l[i]?=some r.tuples.l[i]:=List.getElem?_eq_getElem hi
  generalize r.tuples.l[i]=t at hv
  have hto:t.l.length≤cm:=hr.2.2 t (List.mem_of_getElem? hv)
  have bad:ke n k r.tuples.l i=false→F.cP.cy (mS (.bool (sZ n k r.tuples.l))) .ret ⟨aa e 4 (.bool false),42,[],h'⟩=true:=fun hb=>by
   rw [F.cP.aZ]
   simp only [bt,Nat.reduceEqDiff,reduceIte]
   exact fin _ (iE hi hb).symm
  rw [F.cP.aN]
  simp only [e0,e3,e8,e9,e10,aQ,Nat.reduceAdd,Nat.reduceEqDiff,reduceIte,bf hi,aS r.tuples hi,iT hv,an b0,bA,ct,ha]
  by_cases h1:t.l.length=k
  ·simp only [decide_eq_true (by omega:(t.l.length:Int)=(k:Int)),Bool.not_true,aD]
   refine ak (Bj hto ?_)
   simp only [aQ,Nat.reduceAdd,Nat.reduceEqDiff,reduceIte]
   cases h2:gQ n t.l with
   |false=>
    simp only [Bool.not_false,aC]
    rw [hrr,F.cP.aZ]
    simp only [bt,Nat.reduceEqDiff,reduceIte]
    exact fin _ (iE hi (by simp [ke,hv,h2])).symm
   |true=>
    simp only [Bool.not_true,aD]
    cases i with
    |zero=>
     simp only [show decide ((0:Int)<((0:Nat):Int))=false from rfl,aD,aK hi hr.2.1,bindO_some]
     refine hn _ _ ⟨rfl,e0,e3,e8,e9,rfl,fun j hj=>?_⟩
     obtain rfl:j=0:=by omega
     simp [ke,hv,h1,h2]
    |succ i=>
     have hi0:i<r.tuples.l.length:=by omega
     have hv0:r.tuples.l[i]?=some r.tuples.l[i]:=List.getElem?_eq_getElem hi0
     generalize r.tuples.l[i]=p at hv0
     have hpl:p.l.length=k:=D9 (ht i (by omega)) hv0
     have hpo:p.l.length≤cm:=hr.2.2 p (List.mem_of_getElem? hv0)
     have hsub:aJ .sub (.int .i64 ((i+1:Nat):Int)) (.int .i64 1)=some (.int .i64 (i:Int)):=by
      have:=hr.2.1;unfold cm at this
      rw [zl (by omega) (by omega)];congr 2;omega
     simp only [decide_eq_true (by omega:(0:Int)<((i+1:Nat):Int)),aC,aQ,Nat.reduceAdd,Nat.reduceEqDiff,reduceIte,e3,an b0,bA,hsub,aS r.tuples hi0,iT hv0]
     refine ak (Bl hpo (by omega) fun c hc=>?_)
     simp only [aQ,Nat.reduceAdd,Nat.reduceEqDiff,reduceIte,hc]
     cases h3:gj p.l t.l with
     |false=>
      simp only [Bool.not_false,aC]
      rw [hrr,F.cP.aZ]
      simp only [bt,Nat.reduceEqDiff,reduceIte]
      exact fin _ (iE hi (by simp [ke,hv,hv0,h3])).symm
     |true=>
      simp only [Bool.not_true,aD,aK hi hr.2.1,bindO_some]
      refine hn _ _ ⟨rfl,e0,e3,e8,e9,rfl,fun j hj=>?_⟩
      by_cases hj':j<i+1
      ·exact ht j hj'
      ·obtain rfl:j=i+1:=by omega
       simp [ke,hv,hv0,h1,h2,h3]
  ·simp only [decide_eq_false (by omega:¬ (t.l.length:Int)=(k:Int)),Bool.not_false,aC]
   rw [hrr,F.cP.aZ]
   simp only [bt,Nat.reduceEqDiff,reduceIte]
   exact fin _ (iE hi (by simp [ke,hv,h1])).symm
 ·rintro e h' ⟨rfl,e0,e3,e8,e9,e10,ht⟩ K' hx'
  rw [F.cP.aN]
  simp only [e9,e10,aQ,Nat.reduceAdd,Nat.reduceEqDiff,reduceIte,aT]
  rw [hx',F.cP.aG]
  exact fin _ (mG ht).symm
theorem fe{n:Nat}(h1:1≤n)(h2:n≤64){r:Rel}(hr:r.ok){h:ag}{K:Out→ag→Bool}(hK:K (.ret (.bool (kM n r))) h=true):Sem Tryz.prog 60 [.int .i64 (n:Int),.agg (bA r)] h K:=by
 refine Sem.data (r:=.bool (kM n r)) ?_ (by simp [AV.pureL,AV.pure,nF]) hK
 clear hK
 refine F.B6 ?_
 rw [F.DV]
 have b0:(ag.alloc ag.empty (.cells (bA r))).get 0=some (.cells (bA r)):=aI _ _
 simp only [cA (iD r),bindO_some,bp]
 generalize (ag.alloc ag.empty (.cells (bA r)))=H at b0 ⊢
 have fin:∀ b:Bool,b=kM n r→mS (.bool (kM n r)) (.ret (.bool b)) H=true:=fun b hb=>by rw [hb];exact cK rfl
 simp only [aQ,Nat.reduceAdd,Nat.reduceEqDiff,reduceIte,an b0,bA]
 refine ak (ee ?_)
 simp only [aQ,Nat.reduceAdd,Nat.reduceEqDiff,reduceIte]
 cases hn:ec r.name with
 |false=>simp only [Bool.not_false,aC];exact fin _ (by simp [kM,hn])
 |true=>
 simp only [Bool.not_true,aD,aQ,Nat.reduceAdd,Nat.reduceEqDiff,reduceIte,an b0,bA]
 by_cases ha:r.arity<0
 ·simp only [decide_eq_true ha,aC];exact fin _ (by rw [kM,decide_eq_false (by omega:¬ 0≤r.arity)];simp)
 simp only [decide_eq_false ha,aD]
 by_cases ha2:12<r.arity
 ·simp only [decide_eq_true ha2,aC];exact fin _ (by rw [kM,decide_eq_false (by omega:¬ r.arity≤12)];simp)
 simp only [decide_eq_false ha2,aD]
 obtain ⟨k,hk⟩:∃ k:Nat,r.arity=(k:Int):=⟨r.arity.toNat,by omega⟩
 rw [hk]
 refine ak (fL h1 h2 (show k≤cm by unfold cm;omega) fun v v1 v2=>?_)
 simp only [aQ,Nat.reduceAdd,Nat.reduceEqDiff,reduceIte]
 have hrb:kM n r=(decide (n ^ k≤4096)&&sZ n k r.tuples.l):=by
  rw [kM,hn,decide_eq_true (by omega:0≤r.arity),decide_eq_true (by omega:r.arity≤12),hk];rfl
 replace fin:∀ b:Bool,b=(decide (n ^ k≤4096)&&sZ n k r.tuples.l)→mS (.bool (kM n r)) (.ret (.bool b)) H=true:=fun b hb=>fin b (hb.trans hrb.symm)
 by_cases hc:n ^ k≤4096
 ·have:=v1 hc
  simp only [decide_eq_false (by omega:¬ (4096:Int)<(v:Int)),aD]
  replace fin:∀ b:Bool,b=sZ n k r.tuples.l→mS (.bool (kM n r)) (.ret (.bool b)) H=true:=fun b hb=>fin b (by rw [decide_eq_true hc,Bool.true_and];exact hb)
  refine aE 0 r.tuples.l.length (Nat.zero_le _) (fun i e h'=>h'=H∧e 0 = .int .i64 (n:Int)∧e 3 = .ptr 0 0∧e 5 = .int .i64 (i:Int)∧∀ j,j<i→ke n k r.tuples.l j=true) ⟨rfl,rfl,rfl,rfl,fun j hj=>by omega⟩ ?_ ?_
  ·rintro i e h' _ hi ⟨rfl,e0,e3,e5,ht⟩ K' hn hx' hrr hp
   have hv:r.tuples.l[i]?=some r.tuples.l[i]:=List.getElem?_eq_getElem hi
   generalize r.tuples.l[i]=t at hv
   have hto:t.l.length≤cm:=hr.2.2 t (List.mem_of_getElem? hv)
   rw [F.fe.aN]
   simp only [e0,e3,e5,aQ,Nat.reduceAdd,Nat.reduceEqDiff,reduceIte,an b0,bA,bf hi,aS r.tuples hi,iT hv,ct,hk]
   by_cases q1:t.l.length=k
   ·simp only [decide_eq_true (by omega:(t.l.length:Int)=(k:Int)),Bool.not_true,aD]
    refine ak (fP hto ?_)
    simp only [aQ,Nat.reduceAdd,Nat.reduceEqDiff,reduceIte]
    cases q2:gQ n t.l with
    |false=>
     simp only [Bool.not_false,aC]
     rw [hrr,F.fe.aZ]
     simp only [bt,Nat.reduceEqDiff,reduceIte]
     exact fin _ (iE hi (by simp [ke,hv,q2])).symm
    |true=>
     simp only [Bool.not_true,aD]
     cases i with
     |zero=>
      simp only [show decide ((0:Int)<((0:Nat):Int))=false from rfl,aD,aK hi hr.2.1,bindO_some]
      refine hn _ _ ⟨rfl,e0,e3,rfl,fun j hj=>?_⟩
      obtain rfl:j=0:=by omega
      simp [ke,hv,q1,q2]
     |succ i=>
      have hi0:i<r.tuples.l.length:=by omega
      have hv0:r.tuples.l[i]?=some r.tuples.l[i]:=List.getElem?_eq_getElem hi0
      generalize r.tuples.l[i]=p at hv0
      have hpl:p.l.length=k:=D9 (ht i (by omega)) hv0
      have hpo:p.l.length≤cm:=hr.2.2 p (List.mem_of_getElem? hv0)
      have hsub:aJ .sub (.int .i64 ((i+1:Nat):Int)) (.int .i64 1)=some (.int .i64 (i:Int)):=by
       have:=hr.2.1;unfold cm at this
       rw [zl (by omega) (by omega)];congr 2;omega
      simp only [decide_eq_true (by omega:(0:Int)<((i+1:Nat):Int)),aC,aQ,Nat.reduceAdd,Nat.reduceEqDiff,reduceIte,e3,e5,an b0,bA,hsub,aS r.tuples hi0,aS r.tuples hi,iT hv0,iT hv]
      refine ak (eY hpo (by omega) ?_)
      simp only [aQ,Nat.reduceAdd,Nat.reduceEqDiff,reduceIte]
      cases q3:gj p.l t.l with
      |false=>
       simp only [Bool.not_false,aC]
       rw [hrr,F.fe.aZ]
       simp only [bt,Nat.reduceEqDiff,reduceIte]
       exact fin _ (iE hi (by simp [ke,hv,hv0,q3])).symm
      |true=>
       simp only [Bool.not_true,aD,aK hi hr.2.1,bindO_some]
       refine hn _ _ ⟨rfl,e0,e3,rfl,fun j hj=>?_⟩
       by_cases hj':j<i+1
       ·exact ht j hj'
       ·obtain rfl:j=i+1:=by omega
        simp [ke,hv,hv0,q1,q2,q3]
   ·simp only [decide_eq_false (by omega:¬ (t.l.length:Int)=(k:Int)),Bool.not_false,aC]
    rw [hrr,F.fe.aZ]
    simp only [bt,Nat.reduceEqDiff,reduceIte]
    exact fin _ (iE hi (by simp [ke,hv,q1])).symm
  ·rintro e h' ⟨rfl,e0,e3,e5,ht⟩ K' hx'
   rw [F.fe.aN]
   simp only [e3,e5,aQ,Nat.reduceAdd,Nat.reduceEqDiff,reduceIte,an b0,bA,aT]
   rw [hx',F.fe.aG]
   exact fin _ (mG ht).symm
 ·have:=v2 (by omega)
  simp only [decide_eq_true (by omega:(4096:Int)<(v:Int)),aC]
  exact fin _ (by rw [decide_eq_false hc];rfl)
def rH{α:Type}(p:α→Bool):List α→Nat→Int
 |[],_=>-1
 |x :: l,i=>if p x=true then (i:Int) else rH p l (i+1)
def jW{α:Type}(p:α→Bool)(l:List α):Int:=rH p l 0
theorem FQ{α:Type}{p:α→Bool}{l:List α}{i:Nat}{v:α}(hv:l[i]?=some v):rH p (l.drop i) i=if p v=true then (i:Int) else rH p (l.drop (i+1)) (i+1):=by
 have h1:=(List.getElem?_eq_some_iff.1 hv).1
 rw [List.drop_eq_getElem_cons h1]
 rw [List.getElem?_eq_getElem h1] at hv
 cases hv;rfl
theorem CT{α:Type}(p:α→Bool):∀ (l:List α) (i:Nat),decide (0≤rH p l i)=l.any p
 |[],i=>rfl
 |x :: l,i=>by
  rw [rH,List.any_cons]
  cases hp:p x with
  |true=>simp
  |false=>simpa using CT p l (i+1)
theorem Hh{α:Type}(p:α→Bool)(l:List α):decide (0≤jW p l)=l.any p:=CT p l 0
theorem tF{x:AV}{l:List Rel}(hv:View bA 3 x l)(hl:l.length≤cm){g:FuncId}{a b:List AV}{h:ag}{p:Rel→Bool}
  (hp:∀ (v:Rel) (h':ag),bR h h'→∀ (K:Out→ag→Bool),(∀ h'',bR h' h''→K (.ret (.bool (p v))) h''=true)→Sem Tryz.prog g (a++([.agg (bA v)]++b)) h' K)
  {K:Out→ag→Bool} (hK:∀ h',bR h h'→K (.ret (.int .i64 (jW p l))) h'=true):Sem Tryz.prog 140 [x,.func g a b] h K:=by
 refine F.jd ?_
 rw [F.jo]
 simp only [hv.len,bindO_some]
 refine aE 0 l.length (Nat.zero_le _) (fun i e h'=>bR h h'∧e 0=x∧e 1 = .func g a b∧e 7 = .int .i64 (l.length:Int)∧e 8 = .int .i64 (i:Int)∧jW p l=rH p (l.drop i) i) ⟨bR.refl _,rfl,rfl,rfl,rfl,rfl⟩ ?_ ?_
 ·rintro i e h' _ hi ⟨hx,e0,e1,e7,e8,ht⟩ K' hn hx' hr hp'
  have hvi:l[i]?=some l[i]:=List.getElem?_eq_getElem hi
  generalize l[i]=v at hvi
  obtain ⟨cs,o,v1,v2,_⟩:=hv.at_ i v hvi
  rw [FQ hvi] at ht
  rw [F.bq.aN]
  simp only [e0,e1,e7,e8,aQ,Nat.reduceAdd,Nat.reduceEqDiff,reduceIte,bf hi,v1,v2,callV_func]
  refine ak (hp v h' hx _ fun h'' hx2=>?_)
  simp only [aQ,Nat.reduceAdd,Nat.reduceEqDiff,reduceIte]
  cases hq:p v with
  |true=>
   simp only [aC]
   rw [hr,F.bq.aZ]
   simp only [bt,Nat.reduceEqDiff,reduceIte]
   rw [if_pos hq] at ht
   rw [ht] at hK
   exact hK _ (hx.trans hx2)
  |false=>
   simp only [aD,aK hi hl,bindO_some]
   rw [if_neg (by rw [hq];decide)] at ht
   exact hn _ _ ⟨hx.trans hx2,e0,e1,e7,rfl,ht⟩
 ·rintro e h' ⟨hx,e0,e1,e7,e8,ht⟩ K' hx'
  rw [F.bq.aN]
  simp only [e0,e1,e7,e8,aQ,Nat.reduceAdd,Nat.reduceEqDiff,reduceIte,aT]
  rw [hx',F.bq.aG]
  rw [List.drop_of_length_le (Nat.le_refl _)] at ht
  rw [ht] at hK
  exact hK _ hx
theorem wN{x:AV}{l:List Rel}(hv:View bA 3 x l)(hl:l.length≤cm){g:FuncId}{a b:List AV}{h:ag}{p:Rel→Bool}
  (hp:∀ (v:Rel) (h':ag),bR h h'→∀ (K:Out→ag→Bool),(∀ h'',bR h' h''→K (.ret (.bool (p v))) h''=true)→Sem Tryz.prog g (a++([.agg (bA v)]++b)) h' K)
  {K:Out→ag→Bool} (hK:∀ h',bR h h'→K (.ret (.bool (l.any p))) h'=true):Sem Tryz.prog 138 [x,.func g a b] h K:=by
 refine F.iH ?_
 rw [F.iO]
 refine ak (tF hv hl hp fun h' hx=>?_)
 simp only [aQ,Nat.reduceAdd,Nat.reduceEqDiff,reduceIte]
 rw [Hh]
 exact hK _ hx
theorem Io{s:dw}{i:Nat}{r:Rel}(hr:s.rels.l[i]?=some r){h:ag}:ai (some 3) (.iptr (s.rels.l.flatMap bA) (i*3)) h=some (.agg (bA r)):=cZ fN hr
theorem NC{b:Nat}{r v:Rel}{h:ag}(hb:h.get b=some (.cells (bA r)))(hbn:b<h.next)(h':ag)(hx:bR h h')(K:Out→ag→Bool)(hK:∀ h'',bR h' h''→K (.ret (.bool (v.name==r.name))) h''=true) :
  Sem Tryz.prog 139 ([]++([.agg (bA v)]++[.ptr b 0])) h' K:=by
 refine F.vb ?_
 rw [F.wo]
 have hb':h'.get b=some (.cells (bA r)):=by rw [hx.get b hbn];exact hb
 have hx2:bR h' (ag.alloc h' (.cells (bA v))):=bR.alloc _ _
 have g0:(ag.alloc h' (.cells (bA v))).get h'.next=some (.cells (bA v)):=aI _ _
 have g1:(ag.alloc h' (.cells (bA v))).get b=some (.cells (bA r)):=by rw [hx2.get b (Nat.lt_of_lt_of_le hbn hx.next)];exact hb'
 simp only [cA (iD v),bindO_some]
 generalize (ag.alloc h' (.cells (bA v)))=H at g0 g1 hx2 ⊢
 simp only [aQ,Nat.reduceAdd,Nat.reduceEqDiff,reduceIte,an g0,an g1]
 rw [show (bA v)[0]?=some (.str v.name) from rfl,show (bA r)[0]?=some (.str r.name) from rfl]
 simp only [aQ,Nat.reduceAdd,Nat.reduceEqDiff,reduceIte]
 exact hK _ hx2
theorem dY{s:dw}(hs:s.ok){h:ag}{K:Out→ag→Bool}(hK:K (.ret (.bool (di s))) h=true):Sem Tryz.prog 87 [.agg (aA s)] h K:=by
 refine Sem.data (r:=.bool (di s)) ?_ (by simp [AV.pureL,AV.pure,er]) hK
 clear hK
 refine F.yC ?_
 rw [F.AE]
 have b0:(ag.alloc ag.empty (.cells (aA s))).get 0=some (.cells (aA s)):=aI _ _
 have bn:1≤(ag.alloc ag.empty (.cells (aA s))).next:=Nat.le_refl _
 simp only [cA (cR s),bindO_some,bp]
 generalize (ag.alloc ag.empty (.cells (aA s)))=H at b0 bn ⊢
 have fin:∀ (b:Bool) (H:ag),b=di s→mS (.bool (di s)) (.ret (.bool b)) H=true:=fun b H hb=>by rw [hb];exact cK rfl
 generalize mS (.bool (di s))=K at fin ⊢
 simp only [aQ,Nat.reduceAdd,Nat.reduceEqDiff,reduceIte,an b0,aA]
 by_cases s1:s.size<1
 ·simp only [decide_eq_true s1,aC];exact fin _ _ (by rw [di,decide_eq_false (by omega:¬ 1≤s.size),Bool.false_and])
 simp only [decide_eq_false s1,aD]
 by_cases s2:64<s.size
 ·simp only [decide_eq_true s2,aC];exact fin _ _ (by rw [di,decide_eq_false (by omega:¬ s.size≤64),Bool.false_and,Bool.and_false])
 simp only [decide_eq_false s2,aD]
 by_cases s3:8<s.rels.l.length
 ·simp only [decide_eq_true (by omega:(8:Int)<(s.rels.l.length:Int)),aC];exact fin _ _ (by rw [di,decide_eq_false (by omega:¬ s.rels.l.length≤8),Bool.false_and,Bool.and_false,Bool.and_false])
 simp only [decide_eq_false (by omega:¬ (8:Int)<(s.rels.l.length:Int)),aD]
 replace fin:∀ (b:Bool) (H:ag),b=Ce (m6 s) s.rels.l.length→K (.ret (.bool b)) H=true:=fun b H hb=>fin b H (by
  rw [di,decide_eq_true (by omega:1≤s.size),decide_eq_true (by omega:s.size≤64),decide_eq_true (by omega:s.rels.l.length≤8)];exact hb)
 obtain ⟨n,hn⟩:∃ n:Nat,s.size=(n:Int):=⟨s.size.toNat,by omega⟩
 have hn':s.size.toNat=n:=by omega
 refine aE 0 s.rels.l.length (Nat.zero_le _) (fun i e h'=>h'.get 0=some (.cells (aA s))∧1≤h'.next∧e 1 = .ptr 0 0∧e 20=aq bA 3 s.rels∧e 21 = .int .i64 (s.rels.l.length:Int)∧e 22 = .int .i64 (i:Int)∧∀ j,j<i→m6 s j=true) ⟨b0,bn,rfl,rfl,rfl,rfl,fun j hj=>by omega⟩ ?_ ?_
 ·rintro i e h' _ hi ⟨q0,qn,e1,e20,e21,e22,ht⟩ K' hnx hx' hrr hp
  have hv:s.rels.l[i]?=some s.rels.l[i]:=List.getElem?_eq_getElem hi
  generalize s.rels.l[i]=r at hv
  have hro:r.ok:=hs.2 r (List.mem_of_getElem? hv)
  have hat:m6 s i=(kM n r&&!((s.rels.l.take i).any fun q=>q.name==r.name)):=by rw [m6,hv,hn']
  have bad:∀ (e:Env) (h:ag),m6 s i=false→e 2 = .bool false→F.dY.cy K .ret ⟨e,63,[],h⟩=true:=fun e h hb he=>by
   rw [F.dY.aZ,he]
   exact fin _ _ (iE hi hb).symm
  obtain ⟨H,hst,g1,go,gn⟩:=cL (h:=h') (zs:=[.str [],.int .i64 0,.nils]) (cs:=bA r) (n:=3) rfl rfl (iD r)
  have p0:H.get 0=some (.cells (aA s)):=by rw [go _ (by omega)];exact q0
  rw [F.dY.aN]
  simp only [e1,e20,e21,e22,aQ,Nat.reduceAdd,Nat.reduceEqDiff,reduceIte,bf hi,aS s.rels hi,Io hv,hst,an g1,c8 (fN r)]
  rw [show (bA r)[0]?=some (.str r.name) from rfl]
  simp only [aQ,Nat.reduceAdd,Nat.reduceEqDiff,reduceIte]
  refine ak (dQ ?_)
  simp only [aQ,Nat.reduceAdd,Nat.reduceEqDiff,reduceIte]
  cases w1:ec r.name with
  |false=>
   simp only [Bool.not_false,aC]
   rw [hrr]
   exact bad _ _ (by rw [hat,kM,w1];simp) rfl
  |true=>
  simp only [Bool.not_true,aD,aQ,Nat.reduceAdd,Nat.reduceEqDiff,reduceIte,an g1]
  rw [show (bA r)[1]?=some (.int .i64 r.arity) from rfl]
  simp only [aQ,Nat.reduceAdd,Nat.reduceEqDiff,reduceIte]
  by_cases w2:r.arity<0
  ·simp only [decide_eq_true w2,aC]
   rw [hrr]
   exact bad _ _ (by rw [hat,kM,decide_eq_false (by omega:¬ 0≤r.arity)];simp) rfl
  simp only [decide_eq_false w2,aD]
  by_cases w3:12<r.arity
  ·simp only [decide_eq_true w3,aC]
   rw [hrr]
   exact bad _ _ (by rw [hat,kM,decide_eq_false (by omega:¬ r.arity≤12)];simp) rfl
  simp only [decide_eq_false w3,aD,an p0,aQ,Nat.reduceAdd,Nat.reduceEqDiff,reduceIte,e1]
  rw [show (aA s)[0]?=some (.int .i64 s.size) from rfl]
  obtain ⟨k,hk⟩:∃ k:Nat,r.arity=(k:Int):=⟨r.arity.toNat,by omega⟩
  simp only [aQ,Nat.reduceAdd,Nat.reduceEqDiff,reduceIte,hn,hk]
  refine ak (dZ (by omega) (by omega) (show k≤cm by unfold cm;omega) ?_)
  simp only [aQ,Nat.reduceAdd,Nat.reduceEqDiff,reduceIte]
  have hat2:m6 s i=(decide (n ^ k≤4096)&&sZ n k r.tuples.l&&!((s.rels.l.take i).any fun q=>q.name==r.name)):=by
   rw [hat,kM,w1,decide_eq_true (by omega:0≤r.arity),decide_eq_true (by omega:r.arity≤12),hk];simp
  by_cases w4:n ^ k≤4096
  ·simp only [Hf,if_pos w4,decide_eq_false (by omega:¬ ((n ^ k:Nat):Int)<0),aD,aQ,Nat.reduceAdd,Nat.reduceEqDiff,reduceIte,an p0,an g1,c8 (fN r),e1]
   rw [show (aA s)[0]?=some (.int .i64 s.size) from rfl]
   simp only [aQ,Nat.reduceAdd,Nat.reduceEqDiff,reduceIte,hn]
   refine ak (cP hro hk ?_)
   simp only [aQ,Nat.reduceAdd,Nat.reduceEqDiff,reduceIte]
   cases w5:sZ n k r.tuples.l with
   |false=>
    simp only [Bool.not_false,aC]
    rw [hrr]
    exact bad _ _ (by rw [hat2,w5];simp) rfl
   |true=>
   simp only [Bool.not_true,aD,aQ,Nat.reduceAdd,Nat.reduceEqDiff,reduceIte,an p0,e1]
   rw [show (aA s)[1]?=some (aq bA 3 s.rels) from rfl]
   obtain ⟨a,ha,hva⟩:=Ja fN s.rels (Nat.le_of_lt hi)
   simp only [aQ,Nat.reduceAdd,Nat.reduceEqDiff,reduceIte,ha]
   have hlt:(s.rels.l.take i).length≤cm:=by rw [List.length_take];have:=hs.1;omega
   refine ak (wN (p:=fun q=>q.name==r.name) hva hlt (fun v h2 hx2 K2 hK2=>NC g1 (by omega) h2 hx2 K2 hK2) fun h2 hx2=>?_)
   simp only [aQ,Nat.reduceAdd,Nat.reduceEqDiff,reduceIte]
   cases w6:(s.rels.l.take i).any fun q=>q.name==r.name with
   |true=>
    simp only [aC]
    rw [hrr]
    exact bad _ _ (by rw [hat2,w6];simp) rfl
   |false=>
    simp only [aD,aK hi hs.1,bindO_some,e22]
    refine hnx _ _ ⟨by rw [hx2.get 0 (by omega)];exact p0,by have:=hx2.next;omega,e1,e20,e21,rfl,fun j hj=>?_⟩
    by_cases hj':j<i
    ·exact ht j hj'
    ·obtain rfl:j=i:=by omega
     rw [hat2,w5,w6,decide_eq_true w4];rfl
  ·simp only [Hf,if_neg w4,decide_eq_true (by omega:(-1:Int)<0),aC]
   rw [hrr]
   exact bad _ _ (by rw [hat2,decide_eq_false w4];simp) rfl
 ·rintro e h' ⟨q0,qn,e1,e20,e21,e22,ht⟩ K' hx'
  rw [F.dY.aN]
  simp only [e21,e22,aQ,Nat.reduceAdd,Nat.reduceEqDiff,reduceIte,aT]
  rw [hx',F.dY.aG]
  exact fin _ _ (mG ht).symm
theorem K6{α:Type}{p:α→Bool}{l:List α}{i k:Nat}{a:α}(ha:l[i]?=some a)(hi:i<k)(hp:p a=true):(l.take k).any p=true:=by
 rw [List.any_eq_true]
 exact ⟨a,List.mem_of_getElem? (by rw [List.getElem?_take_of_lt hi];exact ha),hp⟩
theorem nh{s:dw}{i:Nat}{r:Rel}(hr:s.rels.l[i]?=some r){h:ag}:ai none (.iptr (s.rels.l.flatMap bA) (i*3)) h=some (.str r.name):=by
 have:=eM (h:=h) fN hr (k:=0) (by omega)
 rw [Nat.add_zero] at this
 rw [this];rfl
theorem bZ{s:dw}(hs:s.ok){h:ag}{K:Out→ag→Bool}(hK:K (.ret (.bool (di s))) h=true):Sem Tryz.prog 17 [.agg (aA s)] h K:=by
 refine Sem.data (r:=.bool (di s)) ?_ (by simp [AV.pureL,AV.pure,er]) hK
 clear hK
 refine F.yB ?_
 rw [F.Az]
 have b0:(ag.alloc ag.empty (.cells (aA s))).get 0=some (.cells (aA s)):=aI _ _
 simp only [cA (cR s),bindO_some,bp]
 generalize (ag.alloc ag.empty (.cells (aA s)))=H at b0 ⊢
 have fin:∀ (b:Bool),b=di s→mS (.bool (di s)) (.ret (.bool b)) H=true:=fun b hb=>by rw [hb];exact cK rfl
 generalize mS (.bool (di s))=K at fin ⊢
 have ls:ai none (.ptr 0 0) H=some (.int .i64 s.size):=by rw [an b0];rfl
 have lr:ai none (.ptr 0 (0+1)) H=some (aq bA 3 s.rels):=by rw [an b0];rfl
 rw [Nat.zero_add] at lr
 simp only [aQ,Nat.reduceAdd,Nat.reduceEqDiff,reduceIte,ls,lr]
 by_cases s1:s.size<1
 ·simp only [decide_eq_true s1,aC];exact fin _ (by rw [di,decide_eq_false (by omega:¬ 1≤s.size),Bool.false_and])
 simp only [decide_eq_false s1,aD]
 by_cases s2:64<s.size
 ·simp only [decide_eq_true s2,aC];exact fin _ (by rw [di,decide_eq_false (by omega:¬ s.size≤64),Bool.false_and,Bool.and_false])
 simp only [decide_eq_false s2,aD]
 by_cases s3:8<s.rels.l.length
 ·simp only [decide_eq_true (by omega:(8:Int)<(s.rels.l.length:Int)),aC];exact fin _ (by rw [di,decide_eq_false (by omega:¬ s.rels.l.length≤8),Bool.false_and,Bool.and_false,Bool.and_false])
 simp only [decide_eq_false (by omega:¬ (8:Int)<(s.rels.l.length:Int)),aD]
 replace fin:∀ (b:Bool),b=Ce (m6 s) s.rels.l.length→K (.ret (.bool b)) H=true:=fun b hb=>fin b (by
  rw [di,decide_eq_true (by omega:1≤s.size),decide_eq_true (by omega:s.size≤64),decide_eq_true (by omega:s.rels.l.length≤8)];exact hb)
 obtain ⟨n,hn⟩:∃ n:Nat,s.size=(n:Int):=⟨s.size.toNat,by omega⟩
 have hn':s.size.toNat=n:=by omega
 rw [hn] at ls
 refine aE 0 s.rels.l.length (Nat.zero_le _) (fun i e h'=>h'=H∧e 1 = .ptr 0 0∧e 3 = .int .i64 (i:Int)∧∀ j,j<i→m6 s j=true) ⟨rfl,rfl,rfl,fun j hj=>by omega⟩ ?_ ?_
 ·rintro i e h' _ hi ⟨rfl,e1,e3,ht⟩ K' hnx hx' hrr hp
  have hv:s.rels.l[i]?=some s.rels.l[i]:=List.getElem?_eq_getElem hi
  generalize s.rels.l[i]=r at hv
  have hro:r.ok:=hs.2 r (List.mem_of_getElem? hv)
  have hat:m6 s i=(kM n r&&!((s.rels.l.take i).any fun q=>q.name==r.name)):=by rw [m6,hv,hn']
  have bad:∀ (e:Env),m6 s i=false→e 2 = .bool false→F.bZ.cy K .ret ⟨e,53,[],h'⟩=true:=fun e hb he=>by
   rw [F.bZ.aZ,he]
   exact fin _ (iE hi hb).symm
  rw [F.bZ.aN]
  simp only [e1,e3,aQ,Nat.reduceAdd,Nat.reduceEqDiff,reduceIte,ls,lr,bf hi,aS s.rels hi,Io hv]
  refine ak (fe (by omega) (by omega) hro ?_)
  simp only [aQ,Nat.reduceAdd,Nat.reduceEqDiff,reduceIte]
  cases w1:kM n r with
  |false=>
   simp only [Bool.not_false,aC]
   rw [hrr]
   exact bad _ (by rw [hat,w1,Bool.false_and]) rfl
  |true=>
  simp only [Bool.not_true,aD]
  refine aE 0 i (Nat.zero_le _) (fun k e h2=>h2=h'∧e 1 = .ptr 0 0∧e 3 = .int .i64 (i:Int)∧e 4 = .int .i64 (k:Int)∧((s.rels.l.take k).any fun q=>q.name==r.name)=false) ⟨rfl,e1,e3,rfl,rfl⟩ ?_ ?_
  ·rintro k e h2 _ hk ⟨rfl,e1,e3,e4,hk2⟩ K2 hn2 hx2 hr2 hp2
   have hki:k<s.rels.l.length:=by omega
   have hvk:s.rels.l[k]?=some s.rels.l[k]:=List.getElem?_eq_getElem hki
   generalize s.rels.l[k]=q at hvk
   rw [F.bZ.dS]
   simp only [e1,e3,e4,aQ,Nat.reduceAdd,Nat.reduceEqDiff,reduceIte,lr,bf hk,aS s.rels hi,aS s.rels hki,nh hv,nh hvk]
   cases w2:q.name==r.name with
   |true=>
    simp only [aC]
    rw [hr2,F.bZ.iR,hrr]
    exact bad _ (by rw [hat,K6 hvk hk w2];simp) rfl
   |false=>
    simp only [aD,aK hk (by have:=hs.1;omega),bindO_some]
    exact hn2 _ _ ⟨rfl,e1,e3,rfl,ru hvk hk2 w2⟩
  ·rintro e h2 ⟨rfl,e1,e3,e4,hk2⟩ K2 hx2
   rw [F.bZ.dS]
   simp only [e3,e4,aQ,Nat.reduceAdd,Nat.reduceEqDiff,reduceIte,aT]
   rw [hx2,F.bZ.cG]
   simp only [aQ,Nat.reduceAdd,Nat.reduceEqDiff,reduceIte,e3,aK hi hs.1]
   refine hnx _ _ ⟨rfl,e1,rfl,fun j hj=>?_⟩
   by_cases hj':j<i
   ·exact ht j hj'
   ·obtain rfl:j=i:=by omega
    rw [hat,w1,hk2];rfl
 ·rintro e h' ⟨rfl,e1,e3,ht⟩ K' hx'
  rw [F.bZ.aN]
  simp only [e1,e3,aQ,Nat.reduceAdd,Nat.reduceEqDiff,reduceIte,lr,aT]
  rw [hx',F.bZ.aG]
  exact fin _ (mG ht).symm
def jX(nm:bC)(k:Int)(q:Rel):Bool:=(q.name==nm)&&decide (q.arity=k)
def dU(nm:bC)(q:Rel):Bool:=q.name==nm
theorem ey{s:dw}(hs:s.ok){nm:bC}{h:ag}{K:Out→ag→Bool}(hK:K (.ret (.int .i64 (jW (dU nm) s.rels.l))) h=true):Sem Tryz.prog 54 [.agg (aA s),.str nm] h K:=by
 refine Sem.data (r:=.int .i64 (jW (dU nm) s.rels.l)) ?_ (by simp [AV.pureL,AV.pure,er]) hK
 clear hK
 refine F.AD ?_
 rw [F.B3]
 have b0:(ag.alloc ag.empty (.cells (aA s))).get 0=some (.cells (aA s)):=aI _ _
 simp only [cA (cR s),bindO_some,bp]
 generalize (ag.alloc ag.empty (.cells (aA s)))=H at b0 ⊢
 have fin:∀ b:Int,b=jW (dU nm) s.rels.l→mS (.int .i64 (jW (dU nm) s.rels.l)) (.ret (.int .i64 b)) H=true:=fun b hb=>by rw [hb];exact cK rfl
 have lr:ai none (.ptr 0 1) H=some (aq bA 3 s.rels):=by rw [an b0];rfl
 refine aE 0 s.rels.l.length (Nat.zero_le _) (fun i e h'=>h'=H∧e 1 = .str nm∧e 2 = .ptr 0 0∧e 5 = .int .i64 (i:Int)∧jW (dU nm) s.rels.l=rH (dU nm) (s.rels.l.drop i) i) ⟨rfl,rfl,rfl,rfl,rfl⟩ ?_ ?_
 ·rintro i e h' _ hi ⟨rfl,e1,e2,e5,ht⟩ K' hn hx' hr hp
  have hv:s.rels.l[i]?=some s.rels.l[i]:=List.getElem?_eq_getElem hi
  generalize s.rels.l[i]=r at hv
  rw [FQ hv] at ht
  rw [F.ey.aN]
  simp only [e1,e2,e5,aQ,Nat.reduceAdd,Nat.reduceEqDiff,reduceIte,lr,bf hi,aS s.rels hi,nh hv]
  cases hq:r.name==nm with
  |true=>
   simp only [aC]
   rw [hr,F.ey.aZ]
   rw [if_pos (show dU nm r=true from hq)] at ht
   simp only [bt,Nat.reduceEqDiff,reduceIte,e5]
   exact fin _ ht.symm
  |false=>
   simp only [aD,aK hi hs.1,bindO_some]
   rw [if_neg (by rw [dU,hq];decide)] at ht
   exact hn _ _ ⟨rfl,e1,e2,rfl,ht⟩
 ·rintro e h' ⟨rfl,e1,e2,e5,ht⟩ K' hx'
  rw [F.ey.aN]
  simp only [e1,e2,e5,aQ,Nat.reduceAdd,Nat.reduceEqDiff,reduceIte,lr,aT]
  rw [hx',F.ey.aG]
  rw [List.drop_of_length_le (Nat.le_refl _)] at ht
  exact fin _ ht.symm
theorem OX{b1 b2:Nat}{v:Rel}{nm:bC}{k:Int}{h:ag}(g1:h.get b1=some (.cells [.str nm]))(g2:h.get b2=some (.cells [.int .i64 k]))(n1:b1<h.next)(n2:b2<h.next)(h':ag)(hx:bR h h')(K:Out→ag→Bool)(hK:∀ h'',bR h' h''→K (.ret (.bool (jX nm k v))) h''=true) :
  Sem Tryz.prog 141 ([]++([.agg (bA v)]++[.ptr b1 0,.ptr b2 0])) h' K:=by
 refine F.wq ?_
 rw [F.yG]
 have hx2:bR h' (ag.alloc h' (.cells (bA v))):=bR.alloc _ _
 have g0:(ag.alloc h' (.cells (bA v))).get h'.next=some (.cells (bA v)):=aI _ _
 have q1:(ag.alloc h' (.cells (bA v))).get b1=some (.cells [.str nm]):=by rw [hx2.get b1 (Nat.lt_of_lt_of_le n1 hx.next),hx.get b1 n1];exact g1
 have q2:(ag.alloc h' (.cells (bA v))).get b2=some (.cells [.int .i64 k]):=by rw [hx2.get b2 (Nat.lt_of_lt_of_le n2 hx.next),hx.get b2 n2];exact g2
 simp only [cA (iD v),bindO_some]
 generalize (ag.alloc h' (.cells (bA v)))=H at g0 q1 q2 hx2 ⊢
 simp only [aQ,Nat.reduceAdd,Nat.reduceEqDiff,reduceIte,an g0,an q1,an q2]
 rw [show (bA v)[0]?=some (.str v.name) from rfl,show (bA v)[1]?=some (.int .i64 v.arity) from rfl]
 simp only [aQ,Nat.reduceAdd,Nat.reduceEqDiff,reduceIte,ct]
 have:=hK _ hx2
 unfold jX at this
 cases hq:v.name==nm with
 |true=>simp only [aC];rw [hq,Bool.true_and] at this;exact this
 |false=>simp only [aD];rw [hq,Bool.false_and] at this;exact this
theorem Hi{s:dw}(hs:s.ok){nm:bC}{k:Int}{h:ag}{K:Out→ag→Bool}(hK:K (.ret (.int .i64 (jW (jX nm k) s.rels.l))) h=true):Sem Tryz.prog 88 [.agg (aA s),.str nm,.int .i64 k] h K:=by
 refine Sem.data (r:=.int .i64 (jW (jX nm k) s.rels.l)) ?_ (by simp [AV.pureL,AV.pure,er]) hK
 clear hK
 refine F.AF ?_
 rw [F.B5]
 simp only [cA (cR s),oY (x:=.int .i64 _) rfl,oY (x:=.str _) rfl,bindO_some,bp,ag.next_alloc]
 have g0:(ag.alloc (ag.alloc (ag.alloc ag.empty (.cells (aA s))) (.cells [.str nm])) (.cells [.int .i64 k])).get 0=some (.cells (aA s)):=by simp [ag.aV,bp]
 have g1:(ag.alloc (ag.alloc (ag.alloc ag.empty (.cells (aA s))) (.cells [.str nm])) (.cells [.int .i64 k])).get 1=some (.cells [.str nm]):=by simp [ag.aV,bp]
 have g2:(ag.alloc (ag.alloc (ag.alloc ag.empty (.cells (aA s))) (.cells [.str nm])) (.cells [.int .i64 k])).get 2=some (.cells [.int .i64 k]):=by simp [ag.aV,bp]
 have gn:(ag.alloc (ag.alloc (ag.alloc ag.empty (.cells (aA s))) (.cells [.str nm])) (.cells [.int .i64 k])).next=3:=rfl
 generalize (ag.alloc (ag.alloc (ag.alloc ag.empty (.cells (aA s))) (.cells [.str nm])) (.cells [.int .i64 k]))=H at g0 g1 g2 gn ⊢
 have lr:ai none (.ptr 0 1) H=some (aq bA 3 s.rels):=by rw [an g0];rfl
 simp only [aQ,Nat.reduceAdd,Nat.reduceEqDiff,reduceIte,lr]
 refine ak (tF (K5 fN s.rels) hs.1 (p:=jX nm k) (fun v h2 hx2 K2 hK2=>OX g1 g2 (by omega) (by omega) h2 hx2 K2 hK2) fun h2 hx2=>?_)
 simp only [aQ,Nat.reduceAdd,Nat.reduceEqDiff,reduceIte]
 exact cK rfl
theorem oz{s:dw}{i:Nat}{r:Rel}(hr:s.rels.l[i]?=some r){h:ag}:ai none (.iptr (s.rels.l.flatMap bA) (i*3+2)) h=some (aq eE 1 r.tuples):=by
 rw [eM fN hr (by omega)];rfl
theorem bW{s:dw}(hs:s.ok){b:Nat}{h:ag}(hb:h.get b=some (.cells (aA s))){K:Out→ag→Bool}(hK:∀ x,K (.ret (.bool x)) h=true):Sem Tryz.prog 43 [.slice b 0 1 2] h K:=by
 refine F.B0 ?_
 rw [F.DT]
 have lr:ai none (.ptr b 1) h=some (aq bA 3 s.rels):=by rw [an hb];rfl
 have ia:cS 2 (.slice b 0 1 2) (.int .i64 ((0:Nat):Int))=some (.ptr b 0):=rfl
 have hl:∀ h:ag,bQ .slice (.slice b 0 1 2) h=some (.int .i64 ((1:Nat):Int)):=fun _=>rfl
 have num:∀ e:Env,(∃ x:Int,e 4 = .int .i64 x)→F.bW.cy K (.exit 0) ⟨e,89,[],h⟩=true:=fun e ⟨x,hx⟩=>by
  rw [F.bW.aG]
  simp only [hx,aQ,Nat.reduceAdd,Nat.reduceEqDiff,reduceIte]
  exact hK _
 refine aE 0 1 (Nat.zero_le _) (fun i e h'=>h'=h∧e 0 = .slice b 0 1 2∧(∃ x:Int,e 3 = .int .i64 x)∧(∃ x:Int,e 4 = .int .i64 x)∧e 5 = .int .i64 (i:Int)) ⟨rfl,rfl,⟨0,rfl⟩,⟨0,rfl⟩,rfl⟩ ?_ ?_
 ·rintro i e h' _ hi ⟨rfl,e0,e3,e4,e5⟩ K' hn hx hr hp
  obtain rfl:i=0:=by omega
  rw [F.bW.aN]
  simp only [e0,e5,hl,ia,lr,aQ,Nat.reduceAdd,Nat.reduceEqDiff,reduceIte,bf hi]
  by_cases q1:12<s.rels.l.length
  ·simp only [decide_eq_true (by omega:(12:Int)<(s.rels.l.length:Int)),aC]
   rw [hr,F.bW.aZ]
   simp only [bt,Nat.reduceEqDiff,reduceIte]
   exact hK _
  simp only [decide_eq_false (by omega:¬ (12:Int)<(s.rels.l.length:Int)),aD]
  refine aE 0 s.rels.l.length (Nat.zero_le _) (fun k e h2=>h2=h'∧e 0 = .slice b 0 1 2∧(∃ x:Int,e 3 = .int .i64 x)∧(∃ x:Int,e 4 = .int .i64 x)∧e 5 = .int .i64 ((0:Nat):Int)∧e 6 = .int .i64 (k:Int)) ⟨rfl,e0,e3,e4,e5,rfl⟩ ?_ ?_
  ·rintro k e h2 _ hk ⟨rfl,e0,⟨x3,e3⟩,e4,e5,e6⟩ K2 hn2 hx2 hr2 hp2
   have hv:s.rels.l[k]?=some s.rels.l[k]:=List.getElem?_eq_getElem hk
   generalize s.rels.l[k]=r at hv
   have hro:r.ok:=hs.2 r (List.mem_of_getElem? hv)
   obtain ⟨y,hy⟩:=KB x3 (r.tuples.l.length:Int)
   have ret:∀ e:Env,e 2 = .bool false→F.bW.jT K' .ret ⟨e,89,[],h2⟩=true:=fun e he=>by
    rw [F.bW.iR,hr,F.bW.aZ,he]
    exact hK _
   rw [F.bW.dS]
   simp only [e0,e3,e5,e6,ia,lr,aQ,Nat.reduceAdd,Nat.reduceEqDiff,reduceIte,bf hk,aS s.rels hk,oz hv,nh hv,hy]
   cases decide ((1500:Int)<y) with
   |true=>
    simp only [aC]
    rw [hr2]
    exact ret _ rfl
   |false=>
   simp only [aD]
   cases decide ((1000:Int)<(r.name.length:Int)) with
   |true=>
    simp only [aC]
    rw [hr2]
    exact ret _ rfl
   |false=>
   simp only [aD]
   refine aE 0 r.tuples.l.length (Nat.zero_le _) (fun j e h3=>h3=h2∧e 0 = .slice b 0 1 2∧(∃ x:Int,e 3 = .int .i64 x)∧(∃ x:Int,e 4 = .int .i64 x)∧e 5 = .int .i64 ((0:Nat):Int)∧e 6 = .int .i64 (k:Int)∧e 7 = .int .i64 (j:Int)) ⟨rfl,e0,⟨y,rfl⟩,e4,e5,e6,rfl⟩ ?_ ?_
   ·rintro j e h3 _ hj ⟨rfl,e0,e3,⟨x4,e4⟩,e5,e6,e7⟩ K3 hn3 hx3 hr3 hp3
    have ht:r.tuples.l[j]?=some r.tuples.l[j]:=List.getElem?_eq_getElem hj
    generalize r.tuples.l[j]=t at ht
    obtain ⟨z,hz⟩:=KB x4 (t.l.length:Int)
    rw [F.bW.iS]
    simp only [e0,e4,e5,e6,e7,ia,lr,aQ,Nat.reduceAdd,Nat.reduceEqDiff,reduceIte,aS s.rels hk,oz hv,bf hj,aS r.tuples hj,iT ht,hz,aK hj hro.2.1]
    exact hn3 _ _ ⟨rfl,e0,e3,⟨z,rfl⟩,e5,e6,rfl⟩
   ·rintro e h3 ⟨rfl,e0,e3,e4,e5,e6,e7⟩ K3 hx3
    rw [F.bW.iS]
    simp only [e0,e5,e6,e7,ia,lr,aQ,Nat.reduceAdd,Nat.reduceEqDiff,reduceIte,aS s.rels hk,oz hv,aT]
    rw [hx3,F.bW.gw]
    simp only [aQ,Nat.reduceAdd,Nat.reduceEqDiff,reduceIte,e6,aK hk hs.1]
    exact hn2 _ _ ⟨rfl,e0,e3,e4,e5,rfl⟩
  ·rintro e h2 ⟨rfl,e0,e3,e4,e5,e6⟩ K2 hx2
   rw [F.bW.dS]
   simp only [e0,e5,e6,ia,lr,aQ,Nat.reduceAdd,Nat.reduceEqDiff,reduceIte,aT]
   rw [hx2,F.bW.cG]
   simp only [aQ,Nat.reduceAdd,Nat.reduceEqDiff,reduceIte,e5,aK hi (show (1:Nat)≤cm by unfold cm;omega)]
   exact hn _ _ ⟨rfl,e0,e3,e4,rfl⟩
 ·rintro e h' ⟨rfl,e0,e3,e4,e5⟩ K' hx
  rw [F.bW.aN]
  simp only [e0,e5,hl,aQ,Nat.reduceAdd,Nat.reduceEqDiff,reduceIte,aT]
  rw [hx]
  exact num _ e4
theorem Own.Bn{α:Type}{enc:α→List AV}{sz k:Nat}{h:ag}{a:AV}{l:List α}(o:Own enc sz k h a l):br (AV.dP a)=true∧(AV.dP a).length=1∧AV.dP a = [a]:=by cases o<;>exact ⟨rfl,rfl,rfl⟩
def yW(s:dw)(y:bC×Int):Bool:=match s.rels.l.find? (dU y.1) with
 |some r=>decide (r.arity=y.2)
 |none=>false
theorem Bo{α:Type}(p:α→Bool):∀ (l:List α) (i:Nat),(rH p l i = -1∧l.find? p=none)∨∃ (j:Nat) (v:α),rH p l i=((i+j:Nat):Int)∧l[j]?=some v∧l.find? p=some v
 |[],i=>.inl ⟨rfl,rfl⟩
 |x :: l,i=>by
  rw [rH,List.find?_cons]
  cases hp:p x with
  |true=>exact .inr ⟨0,x,by simp,rfl,rfl⟩
  |false=>
   simp only [Bool.false_eq_true,if_false]
   rcases Bo p l (i+1) with ⟨h1,h2⟩|⟨j,v,h1,h2,h3⟩
   ·exact .inl ⟨h1,h2⟩
   ·exact .inr ⟨j+1,v,by rw [h1];congr 1;omega,by simpa using h2,h3⟩
theorem lX{α:Type}(p:α→Bool)(l:List α):(jW p l = -1∧l.find? p=none)∨∃ (j:Nat) (v:α),jW p l=(j:Int)∧l[j]?=some v∧l.find? p=some v:=by
 rcases Bo p l 0 with h|⟨j,v,h1,h2,h3⟩
 ·exact .inl h
 ·exact .inr ⟨j,v,by rw [jW,h1,Nat.zero_add],h2,h3⟩
theorem sx{s:dw}{i:Nat}{r:Rel}(hr:s.rels.l[i]?=some r){h:ag}:ai none (.iptr (s.rels.l.flatMap bA) (i*3+1)) h=some (.int .i64 r.arity):=by
 rw [eM fN hr (by omega)];rfl
theorem Sh{x:Sl (bC×Int)}{i:Nat}{y:bC×Int}(hy:x.l[i]?=some y){h:ag}:ai none (.iptr (x.l.flatMap me) (i*2)) h=some (.str y.1):=by
 have:=eM (h:=h) mX hy (k:=0) (by omega)
 rw [Nat.add_zero] at this
 rw [this];rfl
theorem OY{x:Sl (bC×Int)}{i:Nat}{y:bC×Int}(hy:x.l[i]?=some y){h:ag}:ai none (.iptr (x.l.flatMap me) (i*2+1)) h=some (.int .i64 y.2):=by
 rw [eM mX hy (by omega)];rfl
theorem Jb(y:bC×Int):AV.pureL (me y)=true:=rfl
theorem eG{s:dw}(hs:s.ok){x:Sl (bC×Int)}(hx:x.l.length≤cm){h:ag}{K:Out→ag→Bool}(hK:K (.ret (.bool (x.l.all (yW s)))) h=true):Sem Tryz.prog 52 [.agg (aA s),aq me 2 x] h K:=by
 refine Sem.data (r:=.bool (x.l.all (yW s))) ?_ (by simp [AV.pureL,AV.pure,er,bF Jb]) hK
 clear hK
 refine F.AA ?_
 rw [F.B1]
 have b0:(ag.alloc ag.empty (.cells (aA s))).get 0=some (.cells (aA s)):=aI _ _
 simp only [cA (cR s),bindO_some,bp]
 generalize (ag.alloc ag.empty (.cells (aA s)))=H at b0 ⊢
 have fin:∀ b:Bool,b=x.l.all (yW s)→mS (.bool (x.l.all (yW s))) (.ret (.bool b)) H=true:=fun b hb=>by rw [hb];exact cK rfl
 have lr:ai none (.ptr 0 1) H=some (aq bA 3 s.rels):=by rw [an b0];rfl
 have lw:ai (some 2) (.ptr 0 0) H=some (.agg (aA s)):=by rw [an b0,c8 (cs:=aA s) (n:=2) rfl]
 refine aE 0 x.l.length (Nat.zero_le _) (fun i e h'=>h'=H∧e 1=aq me 2 x∧e 2 = .ptr 0 0∧e 5 = .int .i64 (i:Int)∧(x.l.take i).all (yW s)=true) ⟨rfl,rfl,rfl,rfl,rfl⟩ ?_ ?_
 ·rintro i e h' _ hi ⟨rfl,e1,e2,e5,ht⟩ K' hn hx' hr hp
  have hv:x.l[i]?=some x.l[i]:=List.getElem?_eq_getElem hi
  generalize x.l[i]=y at hv
  rw [F.eG.aN]
  simp only [e1,e2,e5,aQ,Nat.reduceAdd,Nat.reduceEqDiff,reduceIte,lw,bf hi,aS x hi,Sh hv]
  refine ak (ey hs ?_)
  simp only [aQ,Nat.reduceAdd,Nat.reduceEqDiff,reduceIte]
  rcases lX (dU y.1) s.rels.l with ⟨h1,h2⟩|⟨j,r,h1,h2,h3⟩
  ·rw [h1]
   simp only [show decide ((-1:Int)<0)=true from rfl,aC]
   rw [hr,F.eG.aZ]
   simp only [bt,Nat.reduceEqDiff,reduceIte]
   exact fin _ (all_false hv (by rw [yW,h2])).symm
  ·rw [h1]
   have hj:j<s.rels.l.length:=(List.getElem?_eq_some_iff.1 h2).1
   simp only [decide_eq_false (by omega:¬ ((j:Int)<0)),aD,aQ,Nat.reduceAdd,Nat.reduceEqDiff,reduceIte,e1,e2,e5,lr,aS s.rels hj,sx h2,aS x hi,OY hv,ct]
   by_cases hq:r.arity=y.2
   ·simp only [decide_eq_true hq,Bool.not_true,aD,aK hi hx,bindO_some]
    exact hn _ _ ⟨rfl,e1,e2,rfl,ic hv ht (by rw [yW,h3];exact decide_eq_true hq)⟩
   ·simp only [decide_eq_false hq,Bool.not_false,aC]
    rw [hr,F.eG.aZ]
    simp only [bt,Nat.reduceEqDiff,reduceIte]
    exact fin _ (all_false hv (by rw [yW,h3];exact decide_eq_false hq)).symm
 ·rintro e h' ⟨rfl,e1,e2,e5,ht⟩ K' hx'
  rw [F.eG.aN]
  simp only [e1,e5,aQ,Nat.reduceAdd,Nat.reduceEqDiff,reduceIte,aT]
  rw [hx',F.eG.aG]
  rw [List.take_of_length_le (Nat.le_refl _)] at ht
  exact fin _ ht.symm
theorem Hj(d:List Bool):d.map bv=d.flatMap BO:=by
 induction d with
 |nil=>rfl
 |cons a d ih=>rw [List.map_cons,List.flatMap_cons,ih];rfl
theorem FR{d:List Bool}{h:ag}{b:Nat}(hb:h.get b=some (.cells (d.map bv))):Fz true h (.slice b 0 d.length 1) (aq BO 1 (some d)):=by
 refine .slice b 0 d.length 1 _ _ hb (by rw [Hj]) fun i x y hx hy=>?_
 rw [Hj,hy] at hx
 cases hx
 rw [← Hj,List.getElem?_map] at hy
 obtain ⟨v,hv,rfl⟩:=Option.map_eq_some_iff.1 hy
 exact .scalar _ rfl
theorem fK{n:Nat}(h1:1≤n){x:Sl Int}(hx:x.l.length≤12)(hc:n ^ x.l.length≤4096)(hb:gQ n x.l=true){h:ag}{K:Out→ag→Bool}
  (hK:K (.ret (.int .i64 ((gY n x.l:Nat):Int))) h=true):Sem Tryz.prog 189 [.int .i64 (n:Int),aq encI 1 x] h K:=by
 have hbig:x.l.length≤cm:=by unfold cm;omega
 refine F.AB ?_
 rw [F.B2]
 refine aE 0 x.l.length (Nat.zero_le _) (fun i e h'=>h'=h∧e 0 = .int .i64 (n:Int)∧e 5 = .int .i64 ((gY n (x.l.take i):Nat):Int)∧e 1=aq encI 1 x∧e 6 = .int .i64 (i:Int)) ⟨rfl,rfl,rfl,rfl,rfl⟩ ?_ ?_
 ·rintro i e h' _ hi ⟨rfl,e0,e5,e1,e6⟩ K' hn hx' hr hp
  have hv:x.l[i]?=some x.l[i]:=List.getElem?_eq_getElem hi
  rw [F.fK.aN]
  simp only [e0,e1,e5,e6,aQ,Nat.reduceAdd,Nat.reduceEqDiff,reduceIte,bf hi,aS x hi,eT hv,(lU hb h1 hc hv).1,(lU hb h1 hc hv).2,aK hi hbig]
  exact hn _ _ ⟨rfl,e0,rfl,e1,rfl⟩
 ·rintro e h' ⟨rfl,e0,e5,e1,e6⟩ K' hx'
  rw [F.fK.aN]
  simp only [e1,e6,aQ,Nat.reduceAdd,Nat.reduceEqDiff,reduceIte,aT]
  rw [hx',F.fK.aG]
  simp only [e5,bt,Nat.reduceEqDiff,reduceIte]
  rw [List.take_of_length_le (Nat.le_refl _)]
  exact hK
theorem CU(s:St):eL Tryz.prog s Tryz.f162.results.toList=(match ai (some 3) (s.env 8) s.h,(some []:Option (List AV)) with|some v,some vs=>some (v :: vs)|_,_=>none):=by kernel_rfl
def wO(nm:bC)(k:Nat)(d:List Bool):List AV:=[.str nm,.int .i64 (k:Int),aq BO 1 (some d)]
theorem dz{n k:Nat}(h1:1≤n)(h2:n≤64)(hk:k≤12)(hc:n ^ k≤4096){nm:bC}{ts:Sl (Sl Int)}(hl:ts.l.length≤cm)(ht:sZ n k ts.l=true){h:ag}{K:Out→ag→Bool}
  (hK:K (.ret (.agg (wO nm k (bitsOf n k ts.l)))) h=true):Sem Tryz.prog 162 [.int .i64 (n:Int),.str nm,.int .i64 (k:Int),aq eE 1 ts] h K:=by
 refine Sem.data (r:=.agg (wO nm k (bitsOf n k ts.l))) ?_ (by simp [AV.pureL,AV.pure,bF ov]) hK
 clear hK
 have hkb:k≤cm:=by unfold cm;omega
 refine F.nB ?_
 rw [F.oo]
 refine ak (fL h1 h2 hkb fun v v1 v2=>?_)
 have hv:=v1 hc
 subst hv
 simp only [outK_ret,zu (show n ^ k≤1000000 by omega),bindO2_some,bp,ag.next_alloc]
 have ha:∀ b:Nat,kJ [(.str []),(.int .i64 0),.nils] [(0,1),(1,1),(2,1)] [.str nm,.int .i64 (k:Int),.slice b 0 (n ^ k) 1]=some (.agg [.str nm,.int .i64 (k:Int),.slice b 0 (n ^ k) 1]):=fun _=>rfl
 simp only [ha,bindO_some]
 have g0:((ag.alloc ag.empty (.cells [(.str []),(.int .i64 0),.nils])).alloc (.cells ((List.replicate (n ^ k) false).map bv))).get 0=some (.cells [(.str []),(.int .i64 0),.nils]):=by simp [ag.aV,bp]
 have g1:((ag.alloc ag.empty (.cells [(.str []),(.int .i64 0),.nils])).alloc (.cells ((List.replicate (n ^ k) false).map bv))).get 1=some (.cells ((List.replicate (n ^ k) false).map bv)):=by simp [ag.aV,bp]
 have gn:((ag.alloc ag.empty (.cells [(.str []),(.int .i64 0),.nils])).alloc (.cells ((List.replicate (n ^ k) false).map bv))).next=2:=rfl
 generalize ((ag.alloc ag.empty (.cells [(.str []),(.int .i64 0),.nils])).alloc (.cells ((List.replicate (n ^ k) false).map bv)))=H0 at g0 g1 gn ⊢
 obtain ⟨H,hs,p2,go,hn⟩:=cL (h:=H0) (zs:=[.str [],.int .i64 0,.nils]) (cs:=[.str nm,.int .i64 (k:Int),.slice 1 0 (n ^ k) 1]) (n:=3) rfl rfl rfl
 rw [gn] at hs p2
 have p0:H.get 0=some (.cells [(.str []),(.int .i64 0),.nils]):=by rw [go 0 (by omega)];exact g0
 have p1:H.get 1=some (.cells ((List.replicate (n ^ k) false).map bv)):=by rw [go 1 (by omega)];exact g1
 simp only [Nat.zero_add,Nat.reduceAdd,gn,hs,bindO_some]
 refine aE 0 ts.l.length (Nat.zero_le _) (fun i e h'=>∃ d,bitsOf n k ts.l=iB n (ts.l.drop i) d∧d.length=n ^ k∧h'.get 0=some (.cells [(.str []),(.int .i64 0),.nils])∧h'.get 1=some (.cells (d.map bv))∧h'.get 2=some (.cells [.str nm,.int .i64 (k:Int),.slice 1 0 (n ^ k) 1]) ∧
  e 0 = .int .i64 (n:Int)∧e 3=aq eE 1 ts∧e 8 = .ptr 0 0∧e 9 = .ptr 2 0∧e 10 = .int .i64 (i:Int)) ⟨_,rfl,by simp,p0,p1,p2,rfl,rfl,rfl,rfl,rfl⟩ ?_ ?_
 ·rintro i e h' _ hi ⟨d,hd,hdl,q0,q1,q2,e0,e3,e8,e9,e10⟩ K' hnx hx hr hp
  have hv:ts.l[i]?=some ts.l[i]:=List.getElem?_eq_getElem hi
  generalize ts.l[i]=t at hv
  have hat:=rG ht hi
  have htl:t.l.length=k:=D9 hat hv
  have htb:gQ n t.l=true:=by
   unfold ke at hat
   rw [hv] at hat
   simp only [Bool.and_eq_true] at hat
   exact hat.2.1
  have hrk:gY n t.l<n ^ k:=by have:=lC htb;rwa [htl] at this
  rw [wL hv] at hd
  have l2:ai none (.ptr 2 2) h'=some (.slice 1 0 (n ^ k) 1):=by rw [an q2];rfl
  rw [F.dz.aN]
  simp only [e0,e3,e9,e10,aQ,Nat.reduceAdd,Nat.reduceEqDiff,reduceIte,bf hi,aS ts hi,iT hv,l2]
  refine ak (fK h1 (by omega) (by rw [htl];exact hc) htb ?_)
  simp only [outK_ret,l2,bindO_some,AV.beq_refl,Bool.and_self,if_true,jy hrk,rB q1 (show gY n t.l<d.length by omega),aK hi hl,e10]
  exact hnx _ _ ⟨_,hd,by simpa using hdl,by rw [ag.aO,if_neg (by omega)];exact q0,by rw [ag.aO,if_pos rfl],by rw [ag.aO,if_neg (by omega)];exact q2,e0,e3,e8,e9,rfl⟩
 ·rintro e h' ⟨d,hd,hdl,q0,q1,q2,e0,e3,e8,e9,e10⟩ K' hx
  rw [F.dz.aN]
  simp only [e3,e10,aQ,Nat.reduceAdd,Nat.reduceEqDiff,reduceIte,aT]
  rw [hx,F.dz.aG]
  rw [List.drop_of_length_le (Nat.le_refl _)] at hd
  simp only [iB] at hd
  have l2:ai (some 3) (.ptr 2 0) h'=some (.agg [.str nm,.int .i64 (k:Int),.slice 1 0 (n ^ k) 1]):=by rw [an q2];rfl
  have st:bL 3 (.ptr 0 0) (.agg [.str nm,.int .i64 (k:Int),.slice 1 0 (n ^ k) 1]) h'=some (h'.set 0 (.cells [.str nm,.int .i64 (k:Int),.slice 1 0 (n ^ k) 1])):=by
   rw [dV (n:=3) q0 rfl rfl (by simp)];rfl
  have r0:(h'.set 0 (.cells [.str nm,.int .i64 (k:Int),.slice 1 0 (n ^ k) 1])).get 0=some (.cells [.str nm,.int .i64 (k:Int),.slice 1 0 (n ^ k) 1]):=by rw [ag.aO,if_pos rfl]
  have r1:(h'.set 0 (.cells [.str nm,.int .i64 (k:Int),.slice 1 0 (n ^ k) 1])).get 1=some (.cells (d.map bv)):=by rw [ag.aO,if_neg (by omega)];exact q1
  generalize (h'.set 0 (.cells [.str nm,.int .i64 (k:Int),.slice 1 0 (n ^ k) 1]))=H2 at st r0 r1
  have l3:ai (some 3) (.ptr 0 0) H2=some (.agg [.str nm,.int .i64 (k:Int),.slice 1 0 (n ^ k) 1]):=by rw [an r0];rfl
  simp only [bt,Nat.reduceEqDiff,reduceIte,e8,e9,l2,st,bindO_some,CU,l3,oneOf]
  have fb:=FR r1
  rw [hdl,← hd] at fb
  have:=jB.cons (.scalar (.str nm) rfl) (jB.cons (.scalar (.int .i64 (k:Int)) rfl) (jB.cons fb jB.nil))
  exact E4 (.agg _ _ this.len this.rel)
structure gq where
 name:bC
 k:Nat
 bits:List Bool
def g8(t:gq):List AV:=wO t.name t.k t.bits
def jg(n:Nat)(r:Rel):gq:=⟨r.name,r.arity.toNat,bitsOf n r.arity.toNat r.tuples.l⟩
def lE(s:dw):List gq:=s.rels.l.map (jg s.size.toNat)
theorem rI{s:dw}(hv:di s=true){i:Nat}{r:Rel}(hr:s.rels.l[i]?=some r):kM s.size.toNat r=true:=by
 simp only [di,Bool.and_eq_true] at hv
 have:=rG hv.2.2.2 (List.getElem?_eq_some_iff.1 hr).1
 rw [m6,hr] at this
 simp only [Bool.and_eq_true] at this
 exact this.1
theorem oA{s:dw}(hv:di s=true):∃ n:Nat,s.size=(n:Int)∧1≤n∧n≤64∧s.rels.l.length≤8:=by
 simp only [di,Bool.and_eq_true,decide_eq_true_eq] at hv
 exact ⟨s.size.toNat,by omega,by omega,by omega,hv.2.2.1⟩
theorem sC{n:Nat}{r:Rel}(h:kM n r=true):∃ k:Nat,r.arity=(k:Int)∧k≤12∧n ^ k≤4096∧sZ n k r.tuples.l=true:=by
 simp only [kM,Bool.and_eq_true,decide_eq_true_eq] at h
 exact ⟨r.arity.toNat,by omega,by omega,h.2.2.2.1,h.2.2.2.2⟩
theorem jY{s:dw}(hv:di s=true):(s.rels.l.map Rel.name).Nodup:=by
 simp only [di,Bool.and_eq_true] at hv
 unfold List.Nodup
 rw [List.pairwise_iff_getElem]
 intro i j hi hj hij e
 rw [List.length_map] at hi hj
 have:=rG hv.2.2.2 hj
 rw [m6,List.getElem?_eq_getElem hj] at this
 simp only [Bool.and_eq_true,Bool.not_eq_true'] at this
 rw [List.getElem_map,List.getElem_map] at e
 have h2:=K6 (p:=fun q:Rel=>q.name==s.rels.l[j].name) (List.getElem?_eq_getElem hi) hij (by simpa using e)
 rw [h2] at this
 cases this.2
theorem nG:∀ {l:List Rel},(l.map Rel.name).Nodup→∀ r ∈ l,l.find? (dU r.name)=some r
 |[],_,r,h=>by cases h
 |q :: l,hn,r,h=>by
  rw [List.map_cons,List.nodup_cons] at hn
  rw [List.find?_cons]
  rcases List.mem_cons.1 h with rfl|h
  ·have:dU r.name r=true:=by simp [dU]
   rw [this]
  ·have:dU r.name q=false:=by
    simp only [dU,beq_eq_false_iff_ne]
    exact fun e=>hn.1 (e▸List.mem_map_of_mem h)
   rw [this]
   exact nG hn.2 r h
theorem CV:∀ {l:List Rel},(l.map Rel.name).Nodup→∀ (nm:bC) (k:Int),l.find? (jX nm k)=match l.find? (dU nm) with
  |some r=>if r.arity=k then some r else none
  |none=>none
 |[],_,nm,k=>rfl
 |q :: l,hn,nm,k=>by
  rw [List.map_cons,List.nodup_cons] at hn
  rw [List.find?_cons,List.find?_cons]
  cases hq:dU nm q with
  |true=>
   have hq':q.name==nm:=hq
   simp only
   by_cases ha:q.arity=k
   ·have:jX nm k q=true:=by rw [jX,hq',decide_eq_true ha];rfl
    rw [this,if_pos ha]
   ·have:jX nm k q=false:=by rw [jX,decide_eq_false ha,Bool.and_false]
    rw [this,if_neg ha]
    simp only
    rw [List.find?_eq_none]
    intro r hr hs
    simp only [jX,Bool.and_eq_true,beq_iff_eq] at hs hq'
    exact hn.1 (by rw [hq',← hs.1];exact List.mem_map_of_mem hr)
  |false=>
   have hq':(q.name==nm)=false:=hq
   have:jX nm k q=false:=by rw [jX,hq',Bool.false_and]
   rw [this]
   exact CV hn.2 nm k
theorem FT{s:dw}(hv:di s=true)(y:bC×Int):yW s y=(s.rels.l.find? (jX y.1 y.2)).isSome:=by
 rw [CV (jY hv),yW]
 cases s.rels.l.find? (dU y.1) with
 |none=>rfl
 |some r=>
  simp only
  by_cases h:r.arity=y.2
  ·rw [if_pos h,decide_eq_true h];rfl
  ·rw [if_neg h,decide_eq_false h];rfl
theorem ND(l:List Int):br (l.map iv)=true:=by
 induction l with
 |nil=>rfl
 |cons a l ih=>simp only [List.map_cons,br,ih,Bool.and_true];rfl
theorem CW{h:ag}{src:AV}{l:List Int}(r:Row encI 1 (h.alloc (.cells [])) src l)(hl:l.length≤1000000) :
  ∃ b h',cz 1 8 (.slice h.next 0 0 1) src (h.alloc (.cells []))=some (.slice b 0 l.length 1,h')∧h'.get b=some (.cells (l.map iv))∧bR h h'∧h.next≤b∧b<h'.next:=by
 have hm:dm=140737488355328:=rfl
 have g:(h.alloc (.cells [])).get h.next=some (.cells []):=aI _ _
 have rc:=r.cells
 rw [← pG] at rc
 by_cases hz:l.length=0
 ·have:l = []:=List.eq_nil_of_length_eq_zero hz
  subst this
  refine ⟨h.next,h.alloc (.cells []),?_,g,bR.alloc _ _,Nat.le_refl _,Nat.lt_succ_self _⟩
  simp only [List.length_nil] at rc
  simp [cz,r.len,rc]
 ·refine ⟨h.next+1,((h.alloc (.cells [])).set h.next .dead).alloc (.cells (l.map iv)),?_,?_,?_,by omega,?_⟩
  ·simp only [cz,r.len,rc,if_true,if_neg hz,g]
   rw [if_pos (by simp [ND];omega)]
   simp [ag.next_set,ag.next_alloc]
  ·have:=aI ((h.alloc (.cells [])).set h.next .dead) (.cells (l.map iv))
   rwa [ag.next_set,ag.next_alloc] at this
  ·exact ((bR.alloc h (.cells [])).set (Nat.le_refl _) _).trans (bR.alloc _ _)
  ·rw [ag.next_alloc,ag.next_set,ag.next_alloc];omega
def Bp(n:Nat)(t:List Int):List (List Int):=(List.range n).map fun (x:Nat)=>t++[(x:Int)]
def stepT(n:Nat)(out:List (List Int)):List (List Int):=out.flatMap (Bp n)
def rJ(n:Nat):Nat→List (List Int)
 |0=>[[]]
 |k+1=>stepT n (rJ n k)
theorem wP(n:Nat)(l:List (List Int)):(stepT n l).length=l.length*n:=by
 induction l with
 |nil=>simp [stepT]
 |cons t l ih=>
  rw [stepT,List.flatMap_cons,List.length_append,← stepT,ih,List.length_cons,Nat.succ_mul]
  simp [Bp];omega
theorem sE(n:Nat):∀ k,(rJ n k).length=n ^ k
 |0=>rfl
 |k+1=>by rw [rJ,wP,sE n k,Nat.pow_succ]
theorem Hl{n:Nat}{out:List (List Int)}{j:Nat}{t:List Int}(ht:out[j]?=some t):stepT n (out.take (j+1))=stepT n (out.take j)++Bp n t:=by
 rw [List.take_add_one,ht,stepT,List.flatMap_append];simp [stepT]
theorem rK(n:Nat)(t:List Int):(Bp n t).length=n:=by simp [Bp]
theorem Jc{n:Nat}{t:List Int}{x:Nat}(hx:x<n):(Bp n t).take (x+1)=(Bp n t).take x++[t++[(x:Int)]]:=by
 rw [List.take_add_one]
 congr 1
 simp [Bp,List.getElem?_range hx]
theorem wQ{n:Nat}:∀ {out:List (List Int)} {r x:Nat} {t:List Int},out[r]?=some t→x<n→(stepT n out)[r*n+x]?=some (t++[(x:Int)])
 |[],r,x,t,h,_=>by simp at h
 |u :: out,0,x,t,h,hx=>by
  simp at h;subst h
  rw [stepT,List.flatMap_cons,Nat.zero_mul,Nat.zero_add,List.getElem?_append_left (by rw [rK];exact hx)]
  simp [Bp,List.getElem?_range hx]
 |u :: out,r+1,x,t,h,hx=>by
  rw [stepT,List.flatMap_cons,List.getElem?_append_right (by rw [rK,Nat.succ_mul];omega),rK]
  have:(r+1)*n+x-n=r*n+x:=by rw [Nat.succ_mul];omega
  rw [this]
  exact wQ (out:=out) (by simpa using h) hx
theorem NF{n:Nat}{t:List Int}{x:Nat}(ht:gQ n t=true)(hx:x<n):gQ n (t++[(x:Int)])=true:=by
 unfold gQ at ht ⊢
 rw [List.all_append,ht]
 simp;omega
theorem wT{n:Nat}(hn:1≤n):∀ (k r:Nat),r<n ^ k→∃ t,(rJ n k)[r]?=some t∧t.length=k∧gQ n t=true∧gY n t=r
 |0,r,h=>by
  obtain rfl:r=0:=by simp at h;omega
  exact ⟨[],rfl,rfl,rfl,rfl⟩
 |k+1,r,h=>by
  have hr:r/n<n ^ k:=Nat.div_lt_of_lt_mul (by rw [Nat.mul_comm,← Nat.pow_succ];exact h)
  have hx:r%n<n:=Nat.mod_lt _ hn
  obtain ⟨t,h1,h2,h3,h4⟩:=wT hn k (r/n) hr
  refine ⟨t++[((r%n:Nat):Int)],?_,by simp [h2],NF h3 hx,?_⟩
  ·have:=wQ (n:=n) h1 hx
   rw [rJ]
   rwa [Nat.div_add_mod' r n] at this
  ·unfold gY at h4 ⊢
   rw [rA,h4]
   simp only [qv,Int.toNat_natCast]
   exact Nat.div_add_mod' r n
theorem FU{n:Nat}:∀ (a b:List Int) (r s:Nat),a.length=b.length→gQ n a=true→gQ n b=true→qv n a r=qv n b s→a=b∧r=s
 |[],[],r,s,_,_,_,h=>⟨rfl,h⟩
 |x :: a,y :: b,r,s,hl,ha,hb,h=>by
  simp only [gQ,List.all_cons,Bool.and_eq_true,Bool.not_eq_true',decide_eq_false_iff_not] at ha hb
  obtain ⟨e1,e2⟩:=FU a b _ _ (by simpa using hl) (by unfold gQ;simpa using ha.2) (by unfold gQ;simpa using hb.2) h
  subst e1
  have hn:0<n:=by omega
  have hx:x.toNat<n:=by omega
  have hy:y.toNat<n:=by omega
  have h1:r=s:=by
   have q1:(r*n+x.toNat)/n=r:=by rw [Nat.mul_comm,Nat.mul_add_div hn,Nat.div_eq_of_lt hx];rfl
   have q2:(s*n+y.toNat)/n=s:=by rw [Nat.mul_comm,Nat.mul_add_div hn,Nat.div_eq_of_lt hy];rfl
   rw [← q1,← q2,e2]
  subst h1
  exact ⟨by congr 1;omega,rfl⟩
theorem NG{n:Nat}{a b:List Int}(hl:a.length=b.length)(ha:gQ n a=true)(hb:gQ n b=true)(h:gY n a=gY n b):a=b:=(FU a b 0 0 hl ha hb h).1
theorem bP{n k:Nat}(hn:1≤n)(hk:k≤12)(hc:n ^ k≤4096){h:ag}{K:Out→ag→Bool}(hK:∀ x:Sl (Sl Int),x.l.map Sl.l=rJ n k→K (.ret (aq eE 1 x)) h=true):Sem Tryz.prog 18 [.int .i64 (n:Int),.int .i64 (k:Int)] h K:=by
 have hm:dm=140737488355328:=rfl
 have main:Sem Tryz.prog 18 [.int .i64 (n:Int),.int .i64 (k:Int)] ag.empty (fun o h'=>yes (∃ v,∃ x:Sl (Sl Int),o = .ret v∧x.l.map Sl.l=rJ n k∧Fz true h' v (aq eE 1 x))):=by
  refine F.wv ?_
  rw [F.yH]
  have r0:fR [] [] []=some []:=rfl
  have r1:∀ p:PB,fR [.nils] [(0,1)] [.slice p.1 0 p.2.length 1]=some (wK p):=fun _=>rfl
  have r2:∀ x:Int,fR [.int .i64 0] [(0,1)] [.int .i64 x]=some [.int .i64 x]:=fun _=>rfl
  have r1':fR [.nils] [(0,1)] [.slice 0 0 0 1]=some (wK (0,[])):=rfl
  simp only [r0,bindO_some,bp,r1']
  have g0:(ag.alloc (ag.alloc ag.empty (.cells [])) (.cells (wK (0,[])))).get 0=some (.cells []):=by simp [ag.aV,bp]
  have g1:(ag.alloc (ag.alloc ag.empty (.cells [])) (.cells (wK (0,[])))).get 1=some (.cells (wK (0,[]))):=by simp [ag.aV,bp]
  have gn:(ag.alloc (ag.alloc ag.empty (.cells [])) (.cells (wK (0,[])))).next=2:=rfl
  have ge:(ag.alloc ag.empty (.cells [])).next=1:=rfl
  rw [ge]
  generalize (ag.alloc (ag.alloc ag.empty (.cells [])) (.cells (wK (0,[]))))=H at g0 g1 gn ⊢
  have nest0:rz 0 H (.slice 1 0 1 1) [(0,[])]:=⟨.row 1 [(0,[])] (Nat.zero_le _) (by omega) (by simpa using g1),fun p hp=>by
   rw [List.mem_singleton] at hp;subst hp;exact ⟨Nat.le_refl _,by show 0<H.next;omega,by simp [ep],g0⟩⟩
  refine aE 0 k (Nat.zero_le _) (fun i e h'=>∃ a ps,rz 0 h' a ps∧ps.map (·.2)=rJ n i∧e 0 = .int .i64 (n:Int)∧e 1 = .int .i64 (k:Int)∧e 5=a∧e 6 = .int .i64 (i:Int)) ⟨_,_,nest0,rfl,rfl,rfl,rfl,rfl⟩ ?_ ?_
  ·rintro i e h' _ hi ⟨a,ps,nst,hps,e0,e1,e5,e6⟩ K' hn0 hx0 hr0 hp0
   have hpl:ps.length=n ^ i:=by have:=congrArg List.length hps;rwa [List.length_map,sE] at this
   have hin:n ^ i*n≤4096:=by rw [← Nat.pow_succ];exact Nat.le_trans (D8 hn hi) hc
   have hps4:ps.length≤cm:=by unfold cm;have:=Nat.le_mul_of_pos_right (n ^ i) hn;omega
   rw [F.bP.aN]
   simp only [e0,e1,e5,e6,aQ,Nat.reduceAdd,Nat.reduceEqDiff,reduceIte,bf hi]
   refine aE 0 ps.length (Nat.zero_le _) (fun j e h2=>bR h' h2∧∃ c qs,rz h'.next h2 c qs∧qs.map (·.2)=stepT n ((ps.map (·.2)).take j)∧e 0 = .int .i64 (n:Int)∧e 1 = .int .i64 (k:Int)∧e 5=a∧e 6 = .int .i64 (i:Int)∧e 7=c∧e 8 = .int .i64 (j:Int))
    ⟨bR.refl _,_,_,.nil _ _,rfl,e0,e1,e5,e6,rfl,rfl⟩ ?_ ?_
   ·rintro j e h2 _ hj ⟨hx2,c,qs,nst2,hqs,e0,e1,e5,e6,e7,e8⟩ K2 hn2 hx2' hr2 hp2
    have hpj:ps[j]?=some ps[j]:=List.getElem?_eq_getElem hj
    generalize ps[j]=p at hpj
    have hpj2:(ps.map (·.2))[j]?=some p.2:=by rw [List.getElem?_map,hpj];rfl
    have hql:qs.length=j*n:=by
     have:=congrArg List.length hqs
     rw [List.length_map,wP,List.length_take,List.length_map,Nat.min_eq_left (by omega)] at this;exact this
    have hjn:j*n+n≤4096:=by
     have:(j+1)*n≤ps.length*n:=Nat.mul_le_mul_right n hj
     rw [hpl,Nat.succ_mul] at this;omega
    rw [F.bP.dS]
    simp only [e5,e8,nst.own.len,aQ,Nat.reduceAdd,Nat.reduceEqDiff,reduceIte,bf hj]
    refine aE 0 n (Nat.zero_le _) (fun x e h3=>bR h' h3∧∃ c qs,rz h'.next h3 c qs∧qs.map (·.2)=stepT n ((ps.map (·.2)).take j)++(Bp n p.2).take x∧e 0 = .int .i64 (n:Int)∧e 1 = .int .i64 (k:Int)∧e 5=a∧e 6 = .int .i64 (i:Int)∧e 7=c∧e 8 = .int .i64 (j:Int)∧e 9 = .int .i64 (x:Int))
     ⟨hx2,c,qs,nst2,by rw [List.take_zero,List.append_nil];exact hqs,e0,e1,e5,e6,e7,e8,rfl⟩ ?_ ?_
    ·rintro x e h3 _ hx ⟨hx3,c,qs,nst3,hqs3,e0,e1,e5,e6,e7,e8,e9⟩ K3 hn3 hx3' hr3 hp3
     have hql3:qs.length=j*n+x:=by
      have:=congrArg List.length hqs3
      rw [List.length_map,List.length_append,wP,List.length_take,List.length_map,Nat.min_eq_left (by omega),List.length_take,rK,Nat.min_eq_left (by omega)] at this;exact this
     obtain ⟨b,b1,b2,b3⟩:=nst.at_ hpj
     obtain ⟨p1,p2,p3,p4⟩:=nst.cell p (List.mem_of_getElem? hpj)
     have xa:bR h' (h3.alloc (.cells [])):=hx3.trans (bR.alloc _ _)
     have hrow:Row encI 1 (h3.alloc (.cells [])) (.slice p.1 0 p.2.length 1) p.2:=by
      have hg:(h3.alloc (.cells [])).get p.1=some (.cells (p.2.map iv)):=by rw [xa.get _ p2];exact p4
      refine ⟨rfl,?_⟩
      simp only [iy,hg,if_true]
      rw [if_pos (by simp),← pG]
      simp only [List.drop_zero,Nat.mul_one]
      rw [List.take_of_length_le (by simp)]
     have hpk:p.2.length≤1000000:=by
      have:p.2 ∈ rJ n i:=by rw [← hps];exact List.mem_map_of_mem (List.mem_of_getElem? hpj)
      obtain ⟨r,hr⟩:=List.getElem?_of_mem this
      have hlt:r<n ^ i:=by have:=(List.getElem?_eq_some_iff.1 hr).1;rwa [sE] at this
      obtain ⟨t,q1,q2,_⟩:=wT hn i r hlt
      rw [hr] at q1;cases q1;omega
     obtain ⟨b4,h4,a4,g4,x4,l4,m4⟩:=CW hrow hpk
     obtain ⟨b5,h5,a5,g5,f5,l5,m5⟩:=KJ (h:=h4) g4 m4 hpk (x:Int)
     have x5:bR h3 h5:=⟨by have:=x4.next;omega,fun d hd=>by rw [f5 d (by have:=x4.next;omega) (by omega),x4.get d hd]⟩
     have nst5:=nst3.ext x5
     have hx5:bR h' h5:=hx3.trans x5
     obtain ⟨a6,h6,e6',nst6,n6,_,x6,_⟩:=nst5.push (by have:=hx5.next;omega) (by rw [hm];omega) (b5,p.2++[(x:Int)]) (by have:=x4.next;have:=hx3.next;show h'.next≤b5;omega) m5 (fun hb=>by have:=nst3.own.lt hb;simp only at this;have:=x4.next;omega) g5
     rw [F.bP.iS]
     simp only [e0,e5,e7,e8,e9,aQ,Nat.reduceAdd,Nat.reduceEqDiff,reduceIte,bf hx,r0,b1,b3 _ xa,a4,r2,a5,r1 (b5,p.2++[(x:Int)]),e6',aK hx (show n≤cm by unfold cm;omega)]
     refine hn3 _ _ ⟨x6 _ hx5 (Nat.le_refl _),a6,_,nst6,?_,e0,e1,e5,e6,rfl,e8,rfl⟩
     rw [List.map_append,hqs3,Jc hx,List.append_assoc];rfl
    ·rintro e h3 ⟨hx3,c,qs,nst3,hqs3,e0,e1,e5,e6,e7,e8,e9⟩ K3 hx3'
     rw [F.bP.iS]
     simp only [e0,e9,aQ,Nat.reduceAdd,Nat.reduceEqDiff,reduceIte,aT]
     rw [hx3',F.bP.gw]
     simp only [aQ,Nat.reduceAdd,Nat.reduceEqDiff,reduceIte,e8,aK hj hps4]
     refine hn2 _ _ ⟨hx3,c,qs,nst3,?_,e0,e1,e5,e6,e7,rfl⟩
     rw [hqs3,Hl hpj2,List.take_of_length_le (l:=Bp n p.2) (by rw [rK];exact Nat.le_refl _)]
   ·rintro e h2 ⟨hx2,c,qs,nst2,hqs,e0,e1,e5,e6,e7,e8⟩ K2 hx2'
    rw [F.bP.dS]
    simp only [e5,e8,nst.own.len,aQ,Nat.reduceAdd,Nat.reduceEqDiff,reduceIte,aT]
    rw [hx2',F.bP.cG]
    simp only [aQ,Nat.reduceAdd,Nat.reduceEqDiff,reduceIte,e6,e7,aK hi (show k≤cm by unfold cm;omega)]
    refine hn0 _ _ ⟨c,qs,⟨nst2.own.weak (Nat.zero_le _),fun p hp=>?_⟩,?_,e0,e1,rfl,rfl⟩
    ·obtain ⟨q1,q2,q3,q4⟩:=nst2.cell p hp
     exact ⟨Nat.zero_le _,q2,q3,q4⟩
    ·rw [hqs,List.take_of_length_le (by simp),hps];rfl
  ·rintro e h' ⟨a,ps,nst,hps,e0,e1,e5,e6⟩ K' hx0
   rw [F.bP.aN]
   simp only [e1,e6,aQ,Nat.reduceAdd,Nat.reduceEqDiff,reduceIte,aT]
   rw [hx0,F.bP.aG]
   simp only [bt,Nat.reduceEqDiff,reduceIte,e5]
   obtain ⟨x,hx1,hx2⟩:=nst.vp (old:=true)
   exact cw.2 ⟨a,x,rfl,hx1.trans hps,hx2⟩
 refine main.frozen (by simp [AV.pureL,AV.pure]) fun o h' ho=>?_
 obtain ⟨v,x,rfl,hx,hf⟩:=cw.1 ho
 exact ⟨v,_,rfl,hf,hK x hx⟩
theorem Jd:fR [] [] []=some []:=rfl
theorem Si(p:PB):fR [.nils] [(0,1)] [.slice p.1 0 p.2.length 1]=some (wK p):=rfl
theorem eW{x:Sl (Sl Int)}(hx:x.l.length≤1000000)(ht:∀ t ∈ x.l,t.l.length≤1000000){h:ag}{K:Out→ag→Bool}(hK:∀ y:Sl (Sl Int),y.l.map Sl.l=x.l.map Sl.l→K (.ret (aq eE 1 y)) h=true):Sem Tryz.prog 119 [aq eE 1 x] h K:=by
 have hm:dm=140737488355328:=rfl
 have hbig:x.l.length≤cm:=by unfold cm;omega
 have main:Sem Tryz.prog 119 [aq eE 1 x] ag.empty (fun o h'=>yes (∃ v,∃ y:Sl (Sl Int),o = .ret v∧y.l.map Sl.l=x.l.map Sl.l∧Fz true h' v (aq eE 1 y))):=by
  refine F.wz ?_
  rw [F.yI]
  refine aE 0 x.l.length (Nat.zero_le _) (fun i e h'=>∃ a ps,rz 0 h' a ps∧ps.map (·.2)=(x.l.take i).map Sl.l∧e 0=aq eE 1 x∧e 3=a∧e 4 = .int .i64 (i:Int)) ⟨_,_,.nil _ _,rfl,rfl,rfl,rfl⟩ ?_ ?_
  ·rintro i e h' _ hi ⟨a,ps,nst,hps,e0,e3,e4⟩ K' hn hx' hr hp
   have hv:x.l[i]?=some x.l[i]:=List.getElem?_eq_getElem hi
   generalize x.l[i]=t at hv
   have htl:=ht t (List.mem_of_getElem? hv)
   have hpl:ps.length=i:=by have:=congrArg List.length hps;rw [List.length_map,List.length_map,List.length_take,Nat.min_eq_left (by omega)] at this;exact this
   obtain ⟨b,h5,a5,g5,x5,l5,m5⟩:=CW (D2 od t (h'.alloc (.cells []))) htl
   have nst5:=nst.ext x5
   obtain ⟨a6,h6,e6,nst6,_⟩:=nst5.push (Nat.zero_le _) (by rw [hm];omega) (b,t.l) (Nat.zero_le _) m5 (fun hb=>by have:=nst.own.lt hb;simp only at this;omega) g5
   rw [F.eW.aN]
   simp only [e0,e3,e4,aQ,Nat.reduceAdd,Nat.reduceEqDiff,reduceIte,bf hi,Jd,aS x hi,iT hv,a5,Si (b,t.l),e6,aK hi hbig]
   exact hn _ _ ⟨_,_,nst6,by rw [List.map_append,hps,List.take_add_one,hv,List.map_append];rfl,e0,rfl,rfl⟩
  ·rintro e h' ⟨a,ps,nst,hps,e0,e3,e4⟩ K' hx'
   rw [F.eW.aN]
   simp only [e0,e4,aQ,Nat.reduceAdd,Nat.reduceEqDiff,reduceIte,aT]
   rw [hx',F.eW.aG]
   simp only [bt,Nat.reduceEqDiff,reduceIte,e3]
   obtain ⟨y,hy1,hy2⟩:=nst.vp (old:=true)
   exact cw.2 ⟨a,y,rfl,by rw [hy1,hps,List.take_of_length_le (Nat.le_refl _)],hy2⟩
 refine main.frozen (by simp [AV.pureL,bF ov]) fun o h' ho=>?_
 obtain ⟨v,y,rfl,hy,hf⟩:=cw.1 ho
 exact ⟨v,_,rfl,hf,hK y hy⟩
structure dw.small (s:dw):Prop where
 rels:s.rels.l.length≤1000
 tups:∀ r ∈ s.rels.l,r.tuples.l.length≤10000
 tup:∀ r ∈ s.rels.l,∀ t ∈ r.tuples.l,t.l.length≤1000
theorem dw.small.Tj{s:dw}(hs:s.small):s.rels.l.length≤cm:=by have:=hs.rels;unfold cm;omega
theorem NH(nm:bC)(k:Int)(y:Sl (Sl Int)):kJ [.str [],.int .i64 0,.nils] [(0,1),(1,1),(2,1)] [.str nm,.int .i64 k,aq eE 1 y]=some (.agg (bA ⟨nm,k,y⟩)):=by cases y<;>rfl
theorem Ip(r:Rel):fR [.str [],.int .i64 0,.nils] [(0,3)] [.agg (bA r)]=some (bA r):=by
 obtain ⟨nm,k,y⟩:=r
 cases y<;>rfl
theorem K7(s:St):eL Tryz.prog s Tryz.f61.results.toList=(match ai (some 2) (s.env 2) s.h,(some []:Option (List AV)) with|some v,some vs=>some (v :: vs)|_,_=>none):=by kernel_rfl
theorem fS{s:dw}(hs:s.small){h:ag}{K:Out→ag→Bool}(hK:∀ a h' rs,bR h h'→Own bA 3 h.next h' a rs→rs.map cQ=s.rels.l.map cQ→K (.ret (.agg [.int .i64 s.size,a])) h'=true):Sem Tryz.prog 61 [.agg (aA s)] h K:=by
 have hm:dm=140737488355328:=rfl
 refine F.AJ ?_
 rw [F.B8]
 simp only [cA (cR s),bindO_some,ag.next_alloc]
 have g0:(ag.alloc (ag.alloc h (.cells (aA s))) (.cells [.int .i64 0,.nils])).get h.next=some (.cells (aA s)):=by rw [ag.aV,ag.next_alloc,if_neg (by omega)];exact aI _ _
 have g1:(ag.alloc (ag.alloc h (.cells (aA s))) (.cells [.int .i64 0,.nils])).get (h.next+1)=some (.cells [.int .i64 0,.nils]):=aI _ _
 have gn:(ag.alloc (ag.alloc h (.cells (aA s))) (.cells [.int .i64 0,.nils])).next=h.next+2:=rfl
 have gx:bR h (ag.alloc (ag.alloc h (.cells (aA s))) (.cells [.int .i64 0,.nils])):=(bR.alloc _ _).trans (bR.alloc _ _)
 generalize (ag.alloc (ag.alloc h (.cells (aA s))) (.cells [.int .i64 0,.nils]))=H1 at g0 g1 gn gx ⊢
 have lz:ai none (.ptr h.next 0) H1=some (.int .i64 s.size):=by rw [an g0];rfl
 have ha:kJ [.int .i64 0,.nils] [(0,1)] [.int .i64 s.size]=some (.agg [.int .i64 s.size,.nils]):=rfl
 obtain ⟨H2,hs2,p2,po,pn⟩:=cL (h:=H1) (zs:=[.int .i64 0,.nils]) (cs:=[.int .i64 s.size,.nils]) (n:=2) rfl rfl rfl
 rw [gn] at p2 po pn hs2
 have p0:H2.get h.next=some (.cells (aA s)):=by rw [po _ (by omega)];exact g0
 have p1:H2.get (h.next+1)=some (.cells [.int .i64 0,.nils]):=by rw [po _ (by omega)];exact g1
 have px:bR h H2:=⟨by omega,fun b hb=>by rw [po _ (by omega)];exact gx.get b hb⟩
 simp only [aQ,Nat.reduceAdd,Nat.reduceEqDiff,reduceIte,lz,ha,gn,hs2]
 refine aE 0 s.rels.l.length (Nat.zero_le _) (fun i e h'=>∃ a rs,h'.get h.next=some (.cells (aA s))∧h'.get (h.next+1)=some (.cells [.int .i64 0,.nils])∧h'.get (h.next+2)=some (.cells [.int .i64 s.size,a])∧Own bA 3 (h.next+3) h' a rs∧rs.map cQ=(s.rels.l.take i).map cQ∧bR h h'∧h.next+3≤h'.next ∧
  e 1 = .ptr h.next 0∧e 2 = .ptr (h.next+1) 0∧e 3 = .ptr (h.next+2) 0∧e 4 = .int .i64 (i:Int)) ⟨_,[],p0,p1,p2,.nil,rfl,px,by omega,rfl,rfl,rfl,rfl⟩ ?_ ?_
 ·rintro i e h' _ hi ⟨a,rs,q0,q1,q2,o,hrs,qx,qn,e1,e2,e3,e4⟩ K' hn hx' hr hp
  have hv:s.rels.l[i]?=some s.rels.l[i]:=List.getElem?_eq_getElem hi
  generalize s.rels.l[i]=r at hv
  have hrm:=List.mem_of_getElem? hv
  have lr:ai none (.ptr h.next 1) h'=some (aq bA 3 s.rels):=by rw [an q0];rfl
  have lo:ai none (.ptr (h.next+2) 1) h'=some a:=by rw [an q2];rfl
  have hrl:rs.length=i:=by have:=congrArg List.length hrs;rw [List.length_map,List.length_map,List.length_take,Nat.min_eq_left (by omega)] at this;exact this
  rw [F.fS.aN]
  simp only [e1,e3,e4,aQ,Nat.reduceAdd,Nat.reduceEqDiff,reduceIte,lr,lo,bf hi,aS s.rels hi,nh hv,sx hv,oz hv]
  refine ak (eW (by have:=hs.tups r hrm;omega) (fun t ht=>by have:=hs.tup r hrm t ht;omega) fun y hy=>?_)
  obtain ⟨a5,h5,p5,o5,f5,n5,x5,b5⟩:=o.push fN iD (by omega) (bytes:=48) (by have:=hs.rels;rw [hm];omega) ⟨r.name,r.arity,y⟩
  have hne:ep a≠some (h.next+2):=fun hb=>by have:=o.ge hb;omega
  have s2:h5.get (h.next+2)=some (.cells [.int .i64 s.size,a]):=by rw [f5 _ (by omega) hne];exact q2
  have c5:=o5.Bn
  have st:bL 1 (.ptr (h.next+2) 1) a5 h5=some (h5.set (h.next+2) (.cells [.int .i64 s.size,a5])):=by
   rw [dV (n:=1) s2 c5.2.1 c5.1 (by simp),c5.2.2];rfl
  simp only [outK_ret,lr,lo,nh hv,sx hv,bindO_some,AV.beq_refl,Bool.and_self,if_true,NH,Ip,p5,bindO2_some,e3,e4,GX,Nat.zero_add,st,aK hi hs.Tj]
  refine hn _ _ ⟨a5,rs++[⟨r.name,r.arity,y⟩],?_,?_,?_,o5.pH (by omega) _,?_,?_,by rw [ag.next_set];omega,e1,e2,e3,rfl⟩
  ·rw [ag.aO,if_neg (by omega),f5 _ (by omega) (fun hb=>by have:=o.ge hb;omega)];exact q0
  ·rw [ag.aO,if_neg (by omega),f5 _ (by omega) (fun hb=>by have:=o.ge hb;omega)];exact q1
  ·rw [ag.aO,if_pos rfl]
  ·rw [List.map_append,hrs,List.take_add_one,hv,List.map_append]
   simp [cQ,hy]
  ·exact (x5 h qx (by omega)).set (by omega) _
 ·rintro e h' ⟨a,rs,q0,q1,q2,o,hrs,qx,qn,e1,e2,e3,e4⟩ K' hx'
  have lr:ai none (.ptr h.next 1) h'=some (aq bA 3 s.rels):=by rw [an q0];rfl
  have lo:ai (some 2) (.ptr (h.next+2) 0) h'=some (.agg [.int .i64 s.size,a]):=by rw [an q2];rfl
  have c:=o.Bn
  have one2:br [.int .i64 s.size,a]=true:=by
   have:=c.1;rw [c.2.2] at this;simp only [br,Bool.and_true] at this ⊢;rw [this];rfl
  have st:bL 2 (.ptr (h.next+1) 0) (.agg [.int .i64 s.size,a]) h'=some (h'.set (h.next+1) (.cells [.int .i64 s.size,a])):=by
   rw [dV (n:=2) (v:=.agg [.int .i64 s.size,a]) q1 rfl one2 (by simp)];rfl
  have lo2:ai (some 2) (.ptr (h.next+1) 0) (h'.set (h.next+1) (.cells [.int .i64 s.size,a]))=some (.agg [.int .i64 s.size,a]):=by rw [an (cs:=[.int .i64 s.size,a]) (by rw [ag.aO,if_pos rfl])];rfl
  rw [F.fS.aN]
  simp only [e1,e4,aQ,Nat.reduceAdd,Nat.reduceEqDiff,reduceIte,lr,aT]
  rw [hx',F.fS.aG]
  simp only [bt,Nat.reduceEqDiff,reduceIte,e2,e3,lo,st,bindO_some,K7,lo2,oneOf]
  rw [List.take_of_length_le (Nat.le_refl _)] at hrs
  exact hK a _ rs (qx.set (by omega) _) ((o.pH (by omega) _).weak (by omega)) hrs
theorem FV{n:Nat}:∀ {a b:List Int} (r:Nat),a.length=b.length→gQ n a=true→gQ n b=true→gj a b=true→qv n a r<qv n b r
 |[],_,r,_,_,_,h=>by simp [gj] at h
 |_ :: _,[],r,_,_,_,h=>by simp [gj] at h
 |x :: a,y :: b,r,hl,ha,hb,h=>by
  have ha':=ha
  have hb':=hb
  simp only [gQ,List.all_cons,Bool.and_eq_true,Bool.not_eq_true',decide_eq_false_iff_not] at ha hb
  have ia:gQ n a=true:=by unfold gQ;simpa using ha.2
  have ib:gQ n b=true:=by unfold gQ;simpa using hb.2
  have hl':a.length=b.length:=by simpa using hl
  rw [gj] at h
  simp only [qv]
  by_cases e:x=y
  ·subst e
   rw [if_pos rfl] at h
   exact FV _ hl' ia ib h
  ·rw [if_neg e] at h
   have hxy:=of_decide_eq_true h
   have lo:∀ (l:List Int) (r:Nat),r*n ^ l.length≤qv n l r:=by
    intro l
    induction l with
    |nil=>intro r;simp [qv]
    |cons z l ih=>
     intro r
     rw [qv]
     refine Nat.le_trans ?_ (ih _)
     rw [List.length_cons,Nat.pow_succ,Nat.mul_comm (n ^ l.length) n,← Nat.mul_assoc]
     exact Nat.mul_le_mul_right _ (Nat.le_add_right _ _)
   have hi:∀ (l:List Int) (r:Nat),gQ n l=true→qv n l r<(r+1)*n ^ l.length:=by
    intro l
    induction l with
    |nil=>intro r _;simp [qv]
    |cons z l ih=>
     intro r hz
     simp only [gQ,List.all_cons,Bool.and_eq_true,Bool.not_eq_true',decide_eq_false_iff_not] at hz
     rw [qv]
     refine Nat.lt_of_lt_of_le (ih _ (by unfold gQ;simpa using hz.2)) ?_
     rw [List.length_cons,Nat.pow_succ,Nat.mul_comm (n ^ l.length) n,← Nat.mul_assoc]
     refine Nat.mul_le_mul_right _ ?_
     rw [Nat.succ_mul];omega
   have q1:=hi a (r*n+x.toNat) ia
   have q2:=lo b (r*n+y.toNat)
   have q3:(r*n+x.toNat+1)*n ^ a.length≤(r*n+y.toNat)*n ^ b.length:=by
    rw [hl'];exact Nat.mul_le_mul_right _ (by omega)
   omega
theorem CX{n:Nat}{a b:List Int}(hl:a.length=b.length)(ha:gQ n a=true)(hb:gQ n b=true)(h:gj a b=true):gY n a<gY n b:=FV 0 hl ha hb h
theorem CY{n r:Nat}:∀ (ts:List (Sl Int)) (d:List Bool),r<d.length→(iB n ts d).getD r false=(d.getD r false||(ts.map Sl.l).any fun u=>gY n u==r)
 |[],d,_=>by simp [iB]
 |t :: ts,d,hr=>by
  rw [iB,CY ts _ (by simpa using hr),List.map_cons,List.any_cons]
  by_cases h:gY n t.l=r
  ·rw [h,List.getD_eq_getElem?_getD,List.getElem?_set_self hr];simp
  ·have:(gY n t.l==r)=false:=by simpa using h
   rw [List.getD_eq_getElem?_getD,List.getElem?_set_ne h,← List.getD_eq_getElem?_getD,this,Bool.false_or]
def dA(n:Nat):Nat→Nat→List Int
 |0,_=>[]
 |k+1,r=>dA n k (r/n)++[((r%n:Nat):Int)]
theorem wU{n:Nat}(hn:1≤n):∀ (k r:Nat),r<n ^ k→(rJ n k)[r]?=some (dA n k r)
 |0,r,h=>by
  obtain rfl:r=0:=by simp at h;omega
  rfl
 |k+1,r,h=>by
  have hr:r/n<n ^ k:=Nat.div_lt_of_lt_mul (by rw [Nat.mul_comm,← Nat.pow_succ];exact h)
  have hx:r%n<n:=Nat.mod_lt _ hn
  have:=wQ (n:=n) (wU hn k (r/n) hr) hx
  rw [rJ,dA]
  rwa [Nat.div_add_mod' r n] at this
theorem pL{n:Nat}(hn:1≤n){k r:Nat}(h:r<n ^ k):gQ n (dA n k r)=true∧gY n (dA n k r)=r:=by
 obtain ⟨t,h1,h2,h3,h4⟩:=wT hn k r h
 rw [wU hn k r h] at h1;cases h1
 exact ⟨h3,h4⟩
theorem ez{x:Sl (Sl Int)}{t:Sl Int}(hx:x.l.length≤cm)(ht:∀ u ∈ x.l,u.l.length≤cm){h:ag}{K:Out→ag→Bool}(hK:K (.ret (.bool ((x.l.map Sl.l).any fun u=>u==t.l))) h=true):Sem Tryz.prog 21 [aq eE 1 x,aq encI 1 t] h K:=by
 refine F.yJ ?_
 rw [F.AL]
 refine aE 0 x.l.length (Nat.zero_le _) (fun i e h'=>h'=h∧e 0=aq eE 1 x∧e 1=aq encI 1 t∧e 5 = .int .i64 (i:Int)∧(((x.l.map Sl.l).take i).any fun u=>u==t.l)=false) ⟨rfl,rfl,rfl,rfl,rfl⟩ ?_ ?_
 ·rintro i e h' _ hi ⟨rfl,e0,e1,e5,hq⟩ K' hn hx' hr hp
  have hv:x.l[i]?=some x.l[i]:=List.getElem?_eq_getElem hi
  generalize x.l[i]=u at hv
  have hv2:(x.l.map Sl.l)[i]?=some u.l:=by rw [List.getElem?_map,hv];rfl
  rw [F.ez.aN]
  simp only [e0,e1,e5,aQ,Nat.reduceAdd,Nat.reduceEqDiff,reduceIte,bf hi,aS x hi,iT hv]
  refine ak (dX (ht u (List.mem_of_getElem? hv)) ?_)
  simp only [aQ,Nat.reduceAdd,Nat.reduceEqDiff,reduceIte]
  cases h1:u.l==t.l with
  |true=>
   simp only [aC]
   rw [hr,F.ez.aZ]
   simp only [bt,Nat.reduceEqDiff,reduceIte]
   rw [List.any_eq_true.2 ⟨u.l,List.mem_of_getElem? hv2,h1⟩] at hK
   exact hK
  |false=>
   simp only [aD,e5,aK hi hx,bindO_some]
   exact hn _ _ ⟨rfl,e0,e1,rfl,ru hv2 hq h1⟩
 ·rintro e h' ⟨rfl,e0,e1,e5,hq⟩ K' hx'
  rw [F.ez.aN]
  simp only [e0,e5,aQ,Nat.reduceAdd,Nat.reduceEqDiff,reduceIte,aT]
  rw [hx',F.ez.aG]
  rw [List.take_of_length_le (by simp)] at hq
  rw [hq] at hK;exact hK
end
end Go.AM
namespace Go.AM
open Go Go.Proofs
noncomputable section
inductive kN where
 |mk (rule:Int) (vals:Option (List Int)) (parts:Option (List kN))
mutual
def cO:kN→List AV
 |.mk r v none=>[.int .i64 r,aq encI 1 v,.nils]
 |.mk r v (some ps)=>[.int .i64 r,aq encI 1 v,.islice (encPrL ps) 0 ps.length 3]
def encPrL:List kN→List AV
 |[]=>[]
 |p :: ps=>cO p++encPrL ps
end
theorem CZ:∀ ps:List kN,encPrL ps=ps.flatMap cO
 |[]=>by rw [encPrL];rfl
 |p :: ps=>by rw [encPrL,CZ ps,List.flatMap_cons]
theorem FW(r:Int)(v:Sl Int)(p:Sl kN):cO (.mk r v p) = [.int .i64 r,aq encI 1 v,aq cO 3 p]:=by
 cases p with
 |none=>rw [cO];rfl
 |some ps=>rw [cO,CZ];rfl
def kN.rule:kN→Int|.mk r _ _=>r
def kN.vals:kN→Sl Int|.mk _ v _=>v
def kN.parts:kN→Sl kN|.mk _ _ p=>p
theorem fY(p:kN):cO p = [.int .i64 p.rule,aq encI 1 p.vals,aq cO 3 p.parts]:=by cases p;exact FW _ _ _
theorem mH(p:kN):(cO p).length=3:=by rw [fY];rfl
inductive wV:kN→Prop
 |mk (p:kN):p.vals.l.length≤cm→p.parts.l.length≤cm→(∀ q ∈ p.parts.l,wV q)→wV p
theorem kN.uj{p q:kN}(h:q ∈ p.parts.l):SizeOf.sizeOf q<SizeOf.sizeOf p:=by
 obtain ⟨r,v,ps⟩:=p
 cases ps with
 |none=>cases h
 |some l=>
  have:q ∈ l:=h
  have:=List.sizeOf_lt_of_mem this
  simp only [kN.mk.sizeOf_spec,Option.some.sizeOf_spec]
  omega
theorem C0:∀ {a b:List AV},AV.pureL a=true→AV.pureL b=true→AV.pureL (a++b)=true
 |[],_,_,h=>h
 |x :: a,b,h,g=>by
  simp only [List.cons_append,AV.pureL,Bool.and_eq_true] at h ⊢
  exact ⟨h.1,C0 h.2 g⟩
theorem pM:∀ p:kN,AV.pureL (cO p)=true:=by
 intro p
 induction hn:SizeOf.sizeOf p using Nat.strongRecOn generalizing p with
 |_ n ih=>
  subst hn
  rw [fY]
  have:(aq cO 3 p.parts).pure=true:=by
   cases hp:p.parts with
   |none=>rfl
   |some l=>
    simp only [aq,AV.pure]
    have key:∀ m:List kN,(∀ q ∈ m,q ∈ l)→AV.pureL (m.flatMap cO)=true:=by
     intro m
     induction m with
     |nil=>intro _;rfl
     |cons q m ihm=>
      intro hm
      rw [List.flatMap_cons]
      refine C0 ?_ (ihm fun x hx=>hm x (List.mem_cons_of_mem _ hx))
      exact ih _ (kN.uj (p:=p) (by rw [hp];exact hm q List.mem_cons_self)) q rfl
    exact key l fun q hq=>hq
  simp [AV.pureL,this,bF iL,AV.pure]
structure OZ where
 name:bC
 t:Sl Int
 proof:kN
def ni(c:OZ):List AV:=.str c.name :: aq encI 1 c.t :: cO c.proof
structure OZ.ok (c:OZ):Prop where
 name:c.name.length≤cm
 t:c.t.l.length≤cm
 proof:wV c.proof
structure Sz where
 name:bC
 t:Sl Int
def oB(c:Sz):List AV:=[.str c.name,aq encI 1 c.t]
end
end Go.AM
namespace Go.AM
open Go Go.Proofs
noncomputable section
def LF(m:dF)(p:bC×Int):Option dF:=match m.find p.1 with
 |none=>some (m.oZ p.1 p.2)
 |some k=>if k=p.2 then some (m.oZ p.1 p.2) else none
def rL:List (bC×Int)→dF→Option dF
 |[],m=>some m
 |p :: l,m=>match LF m p with|none=>none|some m'=>rL l m'
theorem FX(m:dF)(nm:bC)(n:Nat):A3 m nm n=LF m (nm,(n:Int)):=rfl
theorem xY:∀ (a b:List (bC×Int)) (m:dF),rL (a++b) m=match rL a m with|none=>none|some m'=>rL b m'
 |[],b,m=>rfl
 |p :: a,b,m=>by
  rw [List.cons_append,rL,rL]
  cases LF m p with
  |none=>rfl
  |some m'=>exact xY a b m'
theorem uk:∀ (cs:List dO) (m:dF),mD cs m=if cs.all fT=true then rL (dW cs) m else none
 |[],m=>rfl
 |c :: cs,m=>by
  rw [mD,List.all_cons]
  cases hc:fT c with
  |false=>simp
  |true=>
   rw [cond_true,Bool.true_and]
   by_cases k0:c.kind=0
   ·have hca:dW (c :: cs)=(c.name,(c.args.l.length:Int)) :: dW cs:=by unfold dW;simp [k0]
    rw [if_pos k0,hca,rL,FX]
    cases LF m (c.name,(c.args.l.length:Int)) with
    |none=>simp
    |some m'=>exact uk cs m'
   ·have hca:dW (c :: cs)=dW cs:=by unfold dW;simp [k0]
    rw [if_neg k0,hca]
    exact uk cs m
theorem pN:∀ (rs:List aB) (m:dF),dc rs m=if rs.all iP=true then rL (cB rs) m else none
 |[],m=>rfl
 |r :: rs,m=>by
  have hat:cB (r :: rs)=(r.name,(r.args.l.length:Int)) :: (dW r.body.l++cB rs):=by unfold cB;simp [ug]
  rw [dc,List.all_cons,hat,rL,xU,FX]
  unfold iP
  cases h1:ec r.name with
  |false=>simp
  |true=>
  cases h2:kE r.args.l with
  |false=>simp
  |true=>
  simp only [Bool.true_and,cond_true]
  by_cases h3:r.body.l.length≤20
  ·by_cases h4:(varsOf r).length≤12
   ·rw [decide_eq_true h3,decide_eq_true h4,Bool.true_and,Bool.and_true]
    cases LF m (r.name,(r.args.l.length:Int)) with
    |none=>simp
    |some m1=>
     simp only
     rw [if_neg (by omega),if_neg (by omega),uk,xY]
     cases h5:r.body.l.all fT with
     |false=>simp
     |true=>
      rw [if_pos rfl,Bool.true_and]
      cases rL (dW r.body.l) m1 with
      |none=>simp
      |some m2=>exact pN rs m2
   ·rw [decide_eq_false h4,Bool.and_false,Bool.and_false,Bool.false_and,if_neg (by simp)]
    cases LF m (r.name,(r.args.l.length:Int)) with
    |none=>rfl
    |some m1=>simp only;rw [if_neg (by omega),if_pos (by omega)]
  ·rw [decide_eq_false h3,Bool.false_and,Bool.false_and,if_neg (by simp)]
   cases LF m (r.name,(r.args.l.length:Int)) with
   |none=>rfl
   |some m1=>simp only;rw [if_pos (by omega)]
def Ea(l:List (bC×Int)):Prop:=∀ p ∈ l,∀ q ∈ l,p.1=q.1→p.2=q.2
theorem Bq:∀ (l:List (bC×Int)) (m:dF),(∃ m',rL l m=some m')↔((∀ p ∈ l,∀ k,m.find p.1=some k→k=p.2)∧Ea l)
 |[],m=>⟨fun _=>⟨fun p hp=>(by cases hp),fun p hp=>(by cases hp)⟩,fun _=>⟨m,rfl⟩⟩
 |p :: l,m=>by
  have fu:∀ q:bC×Int,(m.oZ p.1 p.2).find q.1=if q.1=p.1 then some p.2 else m.find q.1:=fun q=>su m p.1 q.1 p.2
  have key:(∃ m',rL l (m.oZ p.1 p.2)=some m')∧(∀ k,m.find p.1=some k→k=p.2)↔((∀ q ∈ p :: l,∀ k,m.find q.1=some k→k=q.2)∧Ea (p :: l)):=by
   rw [Bq l]
   constructor
   ·rintro ⟨⟨h1,h2⟩,h3⟩
    have hp:∀ q ∈ l,q.1=p.1→p.2=q.2:=fun q hq e=>h1 q hq p.2 (by rw [fu,if_pos e])
    refine ⟨fun q hq k hk=>?_,fun a ha b hb e=>?_⟩
    ·rcases List.mem_cons.1 hq with rfl|hq
     ·exact h3 k hk
     ·by_cases e:q.1=p.1
      ·rw [e] at hk;rw [h3 k hk,hp q hq e]
      ·exact h1 q hq k (by rw [fu,if_neg e];exact hk)
    ·rcases List.mem_cons.1 ha with ha'|ha'<;>rcases List.mem_cons.1 hb with hb'|hb'
     ·rw [ha',hb']
     ·rw [ha'] at e ⊢;exact hp b hb' e.symm
     ·rw [hb'] at e ⊢;exact (hp a ha' e).symm
     ·exact h2 a ha' b hb' e
   ·rintro ⟨h1,h2⟩
    refine ⟨⟨fun q hq k hk=>?_,fun a ha b hb e=>h2 a (List.mem_cons_of_mem _ ha) b (List.mem_cons_of_mem _ hb) e⟩,fun k hk=>h1 p List.mem_cons_self k hk⟩
    rw [fu] at hk
    by_cases e:q.1=p.1
    ·rw [if_pos e] at hk;cases hk
     exact h2 p List.mem_cons_self q (List.mem_cons_of_mem _ hq) e.symm
    ·rw [if_neg e] at hk
     exact h1 q (List.mem_cons_of_mem _ hq) k hk
  rw [← key,rL]
  unfold LF
  cases hf:m.find p.1 with
  |none=>simp
  |some k=>
   by_cases hk:k=p.2
   ·subst hk;simp
   ·simp [hk]
theorem sF(rs:List aB):j9 rs↔(rs.length≤60∧rs.all iP=true∧Ea (cB rs)∧∃ k,Lev.de (bM rs) (Lev.iter (bM rs) k)):=by
 have h0:∀ p ∈ cB rs,∀ k,dF.find [] p.1=some k→k=p.2:=fun p _ k hk=>by simp [dF.find] at hk
 constructor
 ·rintro ⟨h1,⟨m,h2⟩,h3⟩
  rw [pN] at h2
  split at h2
  ·rename_i ha;exact ⟨h1,ha,((Bq _ _).1 ⟨m,h2⟩).2,h3⟩
  ·cases h2
 ·rintro ⟨h1,h2,h3,h4⟩
  obtain ⟨m,hm⟩:=(Bq (cB rs) []).2 ⟨h0,h3⟩
  exact ⟨h1,⟨m,by rw [pN,if_pos h2];exact hm⟩,h4⟩
theorem FY{x:Sl (bC×Int)}{i:Nat}{p:bC×Int}(hp:x.l[i]?=some p){h:ag}:ai none (.iptr (x.l.flatMap me) (i*2)) h=some (.str p.1):=eM mX hp (by omega:0<2)
theorem Ho{x:Sl (bC×Int)}{i:Nat}{p:bC×Int}(hp:x.l[i]?=some p){h:ag}:ai none (.iptr (x.l.flatMap me) (i*2+1)) h=some (.int .i64 p.2):=eM mX hp (by omega:1<2)
set_option maxHeartbeats 1000000 in
theorem bE{rules:Sl aB}(hok:∀ r ∈ rules.l,r.ok)(hfew:∀ r ∈ rules.l,r.kH){h:ag}{K:Out→ag→Bool}(hK:∀ b:Bool,(b=true↔j9 rules.l)→K (.ret (.bool b)) h=true):Sem Tryz.prog 31 [aq aL 3 rules] h K:=by
 have gen:∀ R:Out→ag→Bool,(∀ (b:Bool) h',(b=true↔j9 rules.l)→R (.ret (.bool b)) h'=true)→Sem Tryz.prog 31 [aq aL 3 rules] ag.empty R:=by
  intro R fin
  refine F.yy ?_
  rw [F.Ax]
  have no:∀ h',¬ j9 rules.l→R (.ret (.bool false)) h'=true:=fun h' hn=>fin false h' ⟨fun h=>(by cases h),fun h=>absurd h hn⟩
  simp only [aQ,Nat.reduceAdd,Nat.reduceEqDiff,reduceIte]
  by_cases h61:60<rules.l.length
  ·simp only [decide_eq_true (by omega:(60:Int)<(rules.l.length:Int)),aC]
   exact no _ (fun hg=>by have:=hg.kH;omega)
  have h60:rules.l.length≤60:=by omega
  have hbig:rules.l.length≤cm:=by unfold cm;omega
  simp only [decide_eq_false (by omega:¬ (60:Int)<(rules.l.length:Int)),aD]
  refine aE 0 rules.l.length (Nat.zero_le _) (fun i e h'=>e 0=aq aL 3 rules∧e 3 = .int .i64 (i:Int)∧(rules.l.take i).all iP=true) ⟨rfl,rfl,rfl⟩ ?_ ?_
  ·rintro i e h' _ hi ⟨e0,e3,ht⟩ K' hn hx hr hp
   have hv:rules.l[i]?=some rules.l[i]:=List.getElem?_eq_getElem hi
   generalize rules.l[i]=r at hv
   rw [F.bE.aN]
   simp only [e0,e3,aQ,Nat.reduceAdd,Nat.reduceEqDiff,reduceIte,bf hi,aS rules hi,cZ eN hv]
   refine ak (cE (hok r (List.mem_of_getElem? hv)) (hfew r (List.mem_of_getElem? hv)) ?_)
   simp only [aQ,Nat.reduceAdd,Nat.reduceEqDiff,reduceIte]
   cases hq:iP r with
   |false=>
    simp only [Bool.not_false,aC]
    rw [hr,F.bE.aZ]
    exact no _ (fun hg=>by
     have:=((sF _).1 hg).2.1
     rw [all_false hv hq] at this;cases this)
   |true=>
    simp only [Bool.not_true,aD,aK hi hbig,bindO_some]
    exact hn _ _ ⟨e0,rfl,ic hv ht hq⟩
  ·rintro e h' ⟨e0,e3,ht⟩ K' hx
   rw [List.take_of_length_le (Nat.le_refl _)] at ht
   have h20:∀ r ∈ rules.l,r.body.l.length≤20:=fun r hr=>by
    have:=List.all_eq_true.1 ht r hr
    unfold iP at this
    simp only [Bool.and_eq_true,decide_eq_true_eq] at this
    exact this.2.2.1
   rw [F.bE.aN]
   simp only [e0,e3,aQ,Nat.reduceAdd,Nat.reduceEqDiff,reduceIte,aT]
   rw [hx,F.bE.aG]
   simp only [e0,aQ,Nat.reduceAdd,Nat.reduceEqDiff,reduceIte]
   refine ak (cC h60 h20 fun x hx1=>?_)
   simp only [aQ,Nat.reduceAdd,Nat.reduceEqDiff,reduceIte]
   have hxl:x.l.length≤1260:=by rw [hx1];have:=rE rules.l h20;omega
   have hxb:x.l.length≤cm:=by unfold cm;omega
   refine aE 0 x.l.length (Nat.zero_le _) (fun i e h'=>e 0=aq aL 3 rules∧e 4=aq me 2 x∧e 5 = .int .i64 (i:Int)∧∀ a b p q,a<b→b<i→x.l[a]?=some p→x.l[b]?=some q→p.1=q.1→p.2=q.2) ⟨e0,rfl,rfl,fun a b p q h1 h2=>by omega⟩ ?_ ?_
   ·rintro i e h' _ hi ⟨e0,e4,e5,hag⟩ K1 hn1 hx1' hr1 hp1
    have hvi:x.l[i]?=some x.l[i]:=List.getElem?_eq_getElem hi
    generalize x.l[i]=q at hvi
    rw [F.bE.dS]
    simp only [e4,e5,aQ,Nat.reduceAdd,Nat.reduceEqDiff,reduceIte,bf hi]
    refine aE 0 i (Nat.zero_le _) (fun j e h'=>e 0=aq aL 3 rules∧e 4=aq me 2 x∧e 5 = .int .i64 (i:Int)∧e 6 = .int .i64 (j:Int)∧∀ a p,a<j→x.l[a]?=some p→p.1=q.1→p.2=q.2) ⟨e0,e4,e5,rfl,fun a p h1=>by omega⟩ ?_ ?_
    ·rintro j e h' _ hj ⟨e0,e4,e5,e6,haj⟩ K2 hn2 hx2 hr2 hp2
     have hjx:j<x.l.length:=by omega
     have hvj:x.l[j]?=some x.l[j]:=List.getElem?_eq_getElem hjx
     generalize x.l[j]=p at hvj
     have hib:i≤cm:=by omega
     rw [F.bE.iS]
     simp only [e4,e5,e6,aQ,Nat.reduceAdd,Nat.reduceEqDiff,reduceIte,bf hj,aS x hi,aS x hjx,FY hvi,FY hvj,nC]
     by_cases hq:p.1=q.1
     ·simp only [decide_eq_true hq,aC,e4,e5,e6,aQ,Nat.reduceAdd,Nat.reduceEqDiff,reduceIte,aS x hi,aS x hjx,Ho hvi,Ho hvj,ct]
      by_cases hq2:p.2=q.2
      ·simp only [decide_eq_true hq2,Bool.not_true,aD,aK hj hib,bindO_some]
       refine hn2 _ _ ⟨e0,e4,e5,rfl,fun a p' h1 h2=>?_⟩
       by_cases haj':a=j
       ·subst haj';rw [hvj] at h2;cases h2;exact fun _=>hq2
       ·exact haj a p' (by omega) h2
      ·simp only [decide_eq_false hq2,Bool.not_false,aC]
       rw [hr2,F.bE.u0,hr1,F.bE.iR]
       exact no _ (fun hg=>hq2 (((sF _).1 hg).2.2.1 p (by rw [← hx1];exact List.mem_of_getElem? hvj) q (by rw [← hx1];exact List.mem_of_getElem? hvi) hq))
     ·simp only [decide_eq_false hq,aD,aK hj hib,bindO_some]
      refine hn2 _ _ ⟨e0,e4,e5,rfl,fun a p' h1 h2=>?_⟩
      by_cases haj':a=j
      ·subst haj';rw [hvj] at h2;cases h2;exact fun e=>absurd e hq
      ·exact haj a p' (by omega) h2
    ·rintro e h' ⟨e0,e4,e5,e6,haj⟩ K2 hx2
     rw [F.bE.iS]
     simp only [e5,e6,aQ,Nat.reduceAdd,Nat.reduceEqDiff,reduceIte,aT]
     rw [hx2,F.bE.gw]
     simp only [e5,aQ,Nat.reduceAdd,Nat.reduceEqDiff,reduceIte,aK hi hxb]
     refine hn1 _ _ ⟨e0,e4,rfl,fun a b p' q' h1 h2 h3 h4=>?_⟩
     by_cases hb:b=i
     ·subst hb;rw [hvi] at h4;cases h4;exact haj a p' h1 h3
     ·exact hag a b p' q' h1 (by omega) h3 h4
   ·rintro e h' ⟨e0,e4,e5,hag⟩ K1 hx1'
    have hagree:Ea (cB rules.l):=fun p hp q hq e=>by
     rw [← hx1] at hp hq
     obtain ⟨a,ha⟩:=List.mem_iff_getElem?.1 hp
     obtain ⟨b,hb⟩:=List.mem_iff_getElem?.1 hq
     have hal:=(List.getElem?_eq_some_iff.1 ha).1
     have hbl:=(List.getElem?_eq_some_iff.1 hb).1
     rcases Nat.lt_trichotomy a b with h|h|h
     ·exact hag a b p q h hbl ha hb e
     ·subst h;rw [ha] at hb;cases hb;rfl
     ·exact (hag b a q p h hal hb ha e.symm).symm
    rw [F.bE.dS]
    simp only [e4,e5,aQ,Nat.reduceAdd,Nat.reduceEqDiff,reduceIte,aT]
    rw [hx1',F.bE.cG]
    simp only [e0,aQ,Nat.reduceAdd,Nat.reduceEqDiff,reduceIte]
    refine ak (bh h60 h20 (fun hk=>?_) (fun y k hk hy=>?_))
    ·simp only [aQ,Nat.reduceAdd,Nat.reduceEqDiff,reduceIte]
     exact no _ (fun hg=>by obtain ⟨k,h⟩:=hg.lev;exact hk k h)
    ·simp only [aQ,Nat.reduceAdd,Nat.reduceEqDiff,reduceIte]
     exact fin true _ ⟨fun _=>(sF _).2 ⟨h60,ht,hagree,k,hk⟩,fun _=>rfl⟩
 have main:=gen (fun o h'=>yes (∃ b:Bool,o = .ret (.bool b)∧(b=true↔j9 rules.l))) (fun b h' hb=>cw.2 ⟨b,rfl,hb⟩)
 refine main.frozen (by simp [AV.pureL,bF dR]) fun o h' ho=>?_
 obtain ⟨b,rfl,hb⟩:=cw.1 ho
 exact ⟨_,_,rfl,.scalar _ rfl,hK b hb⟩
end
end Go.AM
namespace Go.AM
open Go Go.Proofs
noncomputable section
abbrev Lk:=bC→Nat→Bool
def kj(n:Nat)(L:Lk)(r:aB)(vs:List Int):Bool:=r.body.l.all fun c=>cX n L c (aR vs (aU r c))
def fZ(n:Nat)(r:aB)(vs:List Int):Nat:=gY n (aR vs (placesOf (varsOf r) r.args.l))
def ux(n:Nat)(r:aB)(vs:List Int):Prop:=vs.length=(varsOf r).length∧gQ n vs=true
def iU(n:Nat)(rs:List aB)(L:Lk):Prop:=∀ r ∈ rs,∀ vs,ux n r vs→kj n L r vs=true→L r.name (fZ n r vs)=true
structure Over (rs:List aB) (L C:Lk):Prop where
 le:∀ nm k,L nm k=true→C nm k=true
 off:∀ nm,(∀ r ∈ rs,r.name≠nm)→∀ k,C nm k=L nm k
structure nH (n:Nat) (rs:List aB) (L L':Lk):Prop where
 over:Over rs L L'
 closed:iU n rs L'
 least:∀ C,Over rs L C→iU n rs C→∀ nm k,L' nm k=true→C nm k=true
theorem Over.refl(rs:List aB)(L:Lk):Over rs L L:=⟨fun _ _ h=>h,fun _ _ _=>rfl⟩
theorem nH.unique{n:Nat}{rs:List aB}{L A B:Lk}(h:nH n rs L A)(g:nH n rs L B):A=B:=by
 funext nm k
 rw [Bool.eq_iff_iff]
 exact ⟨h.least B g.over g.closed nm k,g.least A h.over h.closed nm k⟩
def qc(rs:List aB):Prop:=∀ r ∈ rs,∀ c ∈ r.body.l,c.kind=0→c.neg=true→∀ q ∈ rs,q.name≠c.name
theorem wW{n:Nat}{rs:List aB}{A C:Lk}(hs:qc rs)(hle:∀ nm k,A nm k=true→C nm k=true)(hoff:∀ nm,(∀ r ∈ rs,r.name≠nm)→∀ k,C nm k=A nm k){r:aB}(hr:r ∈ rs){c:dO}(hc:c ∈ r.body.l){t:List Int}(h:cX n A c t=true):cX n C c t=true:=by
 unfold cX at h ⊢
 by_cases k0:c.kind=0
 ·rw [if_pos k0] at h ⊢
  cases hn:c.neg with
  |false=>
   rw [hn] at h
   have:A c.name (gY n t)=true:=by simpa using h
   rw [hle _ _ this];rfl
  |true=>
   rw [hn] at h
   rw [hoff c.name (fun q hq=>hs r hr c hc k0 hn q hq)]
   exact h
 ·rw [if_neg k0] at h ⊢
  exact h
theorem K8{n:Nat}{rs:List aB}{A C:Lk}(hs:qc rs)(hle:∀ nm k,A nm k=true→C nm k=true)(hoff:∀ nm,(∀ r ∈ rs,r.name≠nm)→∀ k,C nm k=A nm k){r:aB}(hr:r ∈ rs){vs:List Int}(h:kj n A r vs=true):kj n C r vs=true:=by
 unfold kj at h ⊢
 rw [List.all_eq_true] at h ⊢
 exact fun c hc=>wW hs hle hoff hr hc (h c hc)
inductive gE (n:Nat) (rs:List aB) (lv:Lev.Lv) (L0:Lk):Nat→Lk→Prop
 |zero:gE n rs lv L0 0 L0
 |succ (l:Nat) (L L':Lk):gE n rs lv L0 l L→nH n (eX lv rs l) L L'→gE n rs lv L0 (l+1) L'
theorem gE.unique{n:Nat}{rs:List aB}{lv:Lev.Lv}{L0:Lk}:∀ {l:Nat} {A B:Lk},gE n rs lv L0 l A→gE n rs lv L0 l B→A=B
 |0,A,B,h,g=>by cases h;cases g;rfl
 |l+1,A,B,h,g=>by
  cases h with
  |succ _ La _ ha la=>
   cases g with
   |succ _ Lb _ hb lb=>
    obtain rfl:=gE.unique ha hb
    exact la.unique lb
theorem nH.nil{n:Nat}{L:Lk}:nH n [] L L:=⟨.refl _ _,fun r hr=>(by cases hr),fun C ho _ nm k h=>ho.le nm k h⟩
theorem Eb{lv:Lev.Lv}{rs:List aB}{l:Nat}(h:∀ r ∈ rs,lv r.name<l):eX lv rs l = []:=by
 unfold eX
 rw [List.filter_eq_nil_iff]
 intro r hr
 have:=h r hr
 simp;omega
theorem gE.more{n:Nat}{rs:List aB}{lv:Lev.Lv}{L0:Lk}{t:Nat}{L:Lk}(h:gE n rs lv L0 t L)(ht:∀ r ∈ rs,lv r.name<t):∀ d,gE n rs lv L0 (t+d) L
 |0=>h
 |d+1=>by
  refine .succ (t+d) L L (gE.more h ht d) ?_
  rw [Eb fun r hr=>by have:=ht r hr;omega]
  exact .nil
theorem gE.same{n:Nat}{rs:List aB}{lv:Lev.Lv}{L0:Lk}{s t:Nat}{A B:Lk}(h:gE n rs lv L0 s A)(g:gE n rs lv L0 t B)(hs:∀ r ∈ rs,lv r.name<s)(ht:∀ r ∈ rs,lv r.name<t):A=B:=by
 have h1:=h.more hs t
 have g1:=g.more ht s
 rw [Nat.add_comm t s] at g1
 exact h1.unique g1
def Br(rs:List aB)(lv:Lev.Lv):Prop:=∀ r ∈ rs,∀ c ∈ r.body.l,c.kind=0→(∃ q ∈ rs,q.name=c.name)→lv c.name+(if c.neg=true then 1 else 0)≤lv r.name
theorem Br.Ol{rs:List aB}{lv:Lev.Lv}(h:Br rs lv)(l:Nat):qc (eX lv rs l):=by
 intro r hr c hc k0 hn q hq e
 unfold eX at hr hq
 simp only [List.mem_filter,decide_eq_true_eq] at hr hq
 have:=h r hr.1 c hc k0 ⟨q,hq.1,e⟩
 rw [hn,if_pos rfl,← e,hq.2,hr.2] at this
 omega
theorem lY{lv:Lev.Lv}{rs:List aB}{l:Nat}{r:aB}:r ∈ eX lv rs l↔r ∈ rs∧lv r.name=l:=by
 unfold eX;simp [List.mem_filter]
theorem gE.rest{n:Nat}{rs:List aB}{lv:Lev.Lv}{L0:Lk}{nm:bC}{l:Nat}{A:Lk}(h:gE n rs lv L0 l A):∀ {t:Nat} {B:Lk},gE n rs lv L0 t B→l≤t→((∀ r ∈ rs,r.name≠nm)∨lv nm<l)→∀ k,B nm k=A nm k:=by
 intro t
 induction t with
 |zero=>
  intro B g hl hn k
  have:l=0:=by omega
  subst this
  rw [h.unique g]
 |succ t ih=>
  intro B g hl hn k
  by_cases e:l=t+1
  ·subst e;rw [h.unique g]
  ·cases g with
   |succ _ L _ hg lg=>
    rw [← ih hg (by omega) hn k]
    refine lg.over.off nm (fun r hr e'=>?_) k
    obtain ⟨h1,h2⟩:=lY.1 hr
    rcases hn with hn|hn
    ·exact hn r h1 e'
    ·rw [e'] at h2;omega
theorem Je{n:Nat}{A B:Lk}{c:dO}(h:c.kind=0→∀ k,A c.name k=B c.name k)(t:List Int):cX n A c t=cX n B c t:=by
 unfold cX
 by_cases k0:c.kind=0
 ·rw [if_pos k0,if_pos k0,h k0]
 ·rw [if_neg k0,if_neg k0]
theorem gE.split{n:Nat}{rs:List aB}{lv:Lev.Lv}{L0:Lk}:∀ {t:Nat} {B:Lk},gE n rs lv L0 t B→∀ l,l≤t→∃ A,gE n rs lv L0 l A
 |0,B,h,l,hl=>⟨B,by obtain rfl:l=0:=by omega
                    exact h⟩
 |t+1,B,h,l,hl=>by
  by_cases e:l=t+1
  ·subst e;exact ⟨B,h⟩
  ·cases h with
   |succ _ L _ hg lg=>exact gE.split hg l (by omega)
theorem gE.K9{n:Nat}{rs:List aB}{lv:Lev.Lv}{L0:Lk}(hlv:Br rs lv){t:Nat}{B A:Lk}{r:aB}(hr:r ∈ rs)(g:gE n rs lv L0 t B)(h:gE n rs lv L0 (lv r.name+1) A)(ht:lv r.name+1≤t)(vs:List Int):kj n B r vs=kj n A r vs:=by
 unfold kj
 rw [Bool.eq_iff_iff,List.all_eq_true,List.all_eq_true]
 have key:∀ c ∈ r.body.l,cX n B c (aR vs (aU r c))=cX n A c (aR vs (aU r c)):=fun c hc=>by
  refine Je (fun k0 k=>?_) _
  refine h.rest g ht ?_ k
  by_cases hd:∃ q ∈ rs,q.name=c.name
  ·exact .inr (by have:=hlv r hr c hc k0 hd;omega)
  ·exact .inl fun q hq e=>hd ⟨q,hq,e⟩
 exact ⟨fun h1 c hc=>by rw [← key c hc];exact h1 c hc,fun h1 c hc=>by rw [key c hc];exact h1 c hc⟩
theorem gE.closed{n:Nat}{rs:List aB}{lv:Lev.Lv}{L0:Lk}(hlv:Br rs lv){t:Nat}{B:Lk}(g:gE n rs lv L0 t B)(ht:∀ r ∈ rs,lv r.name<t):iU n rs B:=by
 intro r hr vs ha hb
 have hlt:=ht r hr
 obtain ⟨A,hA⟩:=g.split (lv r.name+1) hlt
 rw [g.K9 hlv hr hA hlt] at hb
 have h2:A r.name (fZ n r vs)=true:=by
  cases hA with
  |succ _ L _ hg lg=>exact lg.closed r (lY.2 ⟨hr,rfl⟩) vs ha hb
 rw [hA.rest g hlt (.inr (by omega))]
 exact h2
end
end Go.AM
namespace Go.AM
open Go Go.Proofs
noncomputable section
theorem wX{D:DB}{nm:bC}{p:Nat×List Bool}(hp:D nm=some p){rk:Nat}(hrk:rk<p.2.length)(x:bC)(k:Nat):dB (jL D nm p.1 (p.2.set rk true)) x k=(dB D x k||(decide (x=nm)&&decide (k=rk))):=by
 unfold dB jL
 by_cases hx:x=nm
 ·subst hx
  rw [if_pos rfl,hp]
  simp only [decide_true,Bool.true_and]
  by_cases hk:k=rk
  ·subst hk
   rw [List.getD_eq_getElem?_getD,List.getElem?_set,if_pos rfl,if_pos hrk];simp
  ·rw [List.getD_eq_getElem?_getD,List.getElem?_set,if_neg (fun e=>hk e.symm),← List.getD_eq_getElem?_getD,decide_eq_false hk,Bool.or_false]
 ·rw [if_neg hx,decide_eq_false hx,Bool.false_and,Bool.or_false]
theorem O0(a b:Int):a≤Ik a b∧b≤Ik a b:=by unfold Ik;split<;>omega
theorem um:∀ (ps:List Nat) (a:Int),a≤ps.foldl (fun a (p:Nat)=>Ik a (p:Int)) a∧∀ p ∈ ps,(p:Int)≤ps.foldl (fun a (p:Nat)=>Ik a (p:Int)) a
 |[],a=>⟨Int.le_refl _,fun p hp=>by cases hp⟩
 |q :: ps,a=>by
  have h:=um ps (Ik a (q:Int))
  have g:=O0 a (q:Int)
  refine ⟨by simp only [List.foldl_cons];omega,fun p hp=>?_⟩
  simp only [List.foldl_cons]
  rcases List.mem_cons.1 hp with rfl|hp
  ·omega
  ·exact h.2 p hp
theorem Bt{ps:List Nat}{p:Nat}(hp:p ∈ ps):(p:Int)≤gZ ps:=(um ps (-1)).2 p hp
theorem Lc{ps:List Nat}{k:Nat}(h:∀ p ∈ ps,p<k):gZ ps<(k:Int):=by
 unfold gZ
 have:∀ (ps:List Nat) (a:Int),a<(k:Int)→(∀ p ∈ ps,p<k)→ps.foldl (fun a (p:Nat)=>Ik a (p:Int)) a<(k:Int):=by
  intro ps
  induction ps with
  |nil=>intro a ha _;exact ha
  |cons q ps ih=>
   intro a ha hq
   simp only [List.foldl_cons]
   refine ih _ ?_ fun p hp=>hq p (List.mem_cons_of_mem _ hp)
   have:=hq q List.mem_cons_self
   unfold Ik;split<;>omega
 exact this ps (-1) (by omega) h
theorem Jf(ps:List Nat):-1≤gZ ps:=(um ps (-1)).1
theorem vz{ps:List Nat}{a b:List Int}(h:∀ p ∈ ps,a.getD p 0=b.getD p 0):aR a ps=aR b ps:=by
 unfold aR
 exact List.map_congr_left h
theorem NI{r:aB}{c:dO}(hc:c ∈ r.body.l):gZ (aU r c)<((varsOf r).length:Int):=Lc (ir (jq hc))
theorem getD_set_ne{a:List Int}{v i:Nat}(h:i≠v)(x:Int):(a.set v x).getD i 0=a.getD i 0:=by
 rw [List.getD_eq_getElem?_getD,List.getElem?_set,if_neg (fun e=>h e.symm),← List.getD_eq_getElem?_getD]
theorem FZ{a:List Int}{v:Nat}(h:v<a.length)(x:Int):(a.set v x).getD v 0=x:=by
 rw [List.getD_eq_getElem?_getD,List.getElem?_set,if_pos rfl,if_pos h];rfl
theorem sG{n:Nat}{L:Lk}{r:aB}{vs:List Int}{u:Int}:yV n L r vs u=true↔∀ c ∈ r.body.l,gZ (aU r c)=u→cX n L c (aR vs (aU r c))=true:=by
 unfold yV
 rw [List.all_eq_true]
 refine ⟨fun h c hc e=>?_,fun h c hc=>?_⟩
 ·have:=h c hc
  rw [decide_eq_true e] at this
  exact this
 ·by_cases e:gZ (aU r c)=u
  ·rw [h c hc e,Bool.or_true]
  ·rw [decide_eq_false e];rfl
structure Jg (rs:List aB) (L C:Lk) (s:DB×Bool):Prop where
 over:Over rs L (dB s.1)
 le:∀ nm k,dB s.1 nm k=true→C nm k=true
theorem Jg.off{rs:List aB}{L C:Lk}{s:DB×Bool}(m:Jg rs L C s)(hC:Over rs L C):∀ nm,(∀ r ∈ rs,r.name≠nm)→∀ k,C nm k=dB s.1 nm k:=fun nm hn k=>by rw [hC.off nm hn,m.over.off nm hn]
theorem NJ{n:Nat}{rs:List aB}{L C:Lk}(hcl:iU n rs C){r:aB}(hr:r ∈ rs){vs:List Int}(ha:ux n r vs)(happ:kj n C r vs=true){s:DB×Bool}(hh:∀ p,s.1 r.name=some p→p.2.length=n ^ r.args.l.length)(m:Jg rs L C s):Jg rs L C (qy n r vs s):=by
 unfold qy
 cases hp:s.1 r.name with
 |none=>exact m
 |some p=>
  simp only
  split
  ·exact m
  ·have hpl:∀ p ∈ placesOf (varsOf r) r.args.l,p<vs.length:=by rw [ha.1];exact ir iM
   have hplen:(placesOf (varsOf r) r.args.l).length=r.args.l.length:=by unfold placesOf;simp
   have hrk:gY n (aR vs (placesOf (varsOf r) r.args.l))<p.2.length:=by
    have:=lC (iN ha.2 hpl)
    rw [fV,hplen] at this
    rw [hh p hp];exact this
   have hC:=hcl r hr vs ha happ
   unfold fZ at hC
   refine ⟨⟨fun nm k h=>?_,fun nm hn k=>?_⟩,fun nm k h=>?_⟩
   ·simp only [wX hp hrk,m.over.le nm k h,Bool.true_or]
   ·simp only [wX hp hrk,decide_eq_false (fun e:nm=r.name=>hn r hr e.symm),Bool.false_and,Bool.or_false]
    exact m.over.off nm hn k
   ·simp only [wX hp hrk,Bool.or_eq_true,Bool.and_eq_true,decide_eq_true_eq] at h
    rcases h with h|⟨rfl,rfl⟩
    ·exact m.le nm k h
    ·exact hC
theorem Iq{n:Nat}{r:aB}{vs:List Int}{s:DB×Bool}{nm:bC}{N:Nat}(h:∀ p,s.1 nm=some p→p.2.length=N):∀ p,(qy n r vs s).1 nm=some p→p.2.length=N:=by
 intro p hp
 unfold qy at hp
 cases hq:s.1 r.name with
 |none=>rw [hq] at hp;exact h p hp
 |some q=>
  rw [hq] at hp
  simp only at hp
  split at hp
  ·exact h p hp
  ·unfold jL at hp
   simp only at hp
   split at hp
   ·rename_i e;subst e;cases hp;simp only [List.length_set];exact h q hq
   ·exact h p hp
theorem C5{n:Nat}{rs:List aB}{L C:Lk}(hs:qc rs)(hC:Over rs L C)(hcl:iU n rs C){r:aB}(hr:r ∈ rs):∀ (m v:Nat) (vs:List Int) (s:DB×Bool),v+m=(varsOf r).length→ux n r vs→Jg rs L C s→(∀ p,s.1 r.name=some p→p.2.length=n ^ r.args.l.length) →
  (∀ c ∈ r.body.l,gZ (aU r c)<(v:Int)→cX n C c (aR vs (aU r c))=true) →
  Jg rs L C (gC (fun s=>s.1) (qy n r) n r m v vs s).2∧(∀ p,(gC (fun s=>s.1) (qy n r) n r m v vs s).2.1 r.name=some p→p.2.length=n ^ r.args.l.length)∧ux n r (gC (fun s=>s.1) (qy n r) n r m v vs s).1∧∀ i,i<v→(gC (fun s=>s.1) (qy n r) n r m v vs s).1.getD i 0=vs.getD i 0
 |0,v,vs,s,hv,ha,hm,hl,hc=>by
  refine ⟨NJ hcl hr ha ?_ hl hm,Iq hl,ha,fun _ _=>rfl⟩
  unfold kj
  rw [List.all_eq_true]
  intro c hcm
  refine hc c hcm ?_
  have:=NI hcm
  omega
 |m+1,v,vs,s,hv,ha,hm,hl,hc=>by
  refine fo (P:=fun (a:List Int×(DB×Bool))=>Jg rs L C a.2∧(∀ p,a.2.1 r.name=some p→p.2.length=n ^ r.args.l.length)∧ux n r a.1∧∀ i,i<v→a.1.getD i 0=vs.getD i 0) ⟨hm,hl,ha,fun _ _=>rfl⟩ fun a x hx hP=>?_
  obtain ⟨p1,p2,p3,p4⟩:=hP
  have hxn:=List.mem_range.1 hx
  have ha2:ux n r (a.1.set v (x:Int)):=⟨by rw [List.length_set];exact p3.1,pJ p3.2 v hxn⟩
  have hag:∀ i,i<v→(a.1.set v (x:Int)).getD i 0=vs.getD i 0:=fun i hi=>by rw [getD_set_ne (by omega)];exact p4 i hi
  unfold jM
  split
  ·rename_i hask
   rw [sG] at hask
   obtain ⟨q1,q2,q3,q4⟩:=C5 hs hC hcl hr m (v+1) (a.1.set v (x:Int)) a.2 (by omega) ha2 p1 p2 fun c hcm hlt=>by
    by_cases e:gZ (aU r c)=(v:Int)
    ·exact wW hs p1.le (p1.off hC) hr hcm (hask c hcm e)
    ·have hlv:gZ (aU r c)<(v:Int):=by omega
     rw [vz (b:=vs) fun p hp=>hag p (by have:=Bt hp;omega)]
     exact hc c hcm hlv
   exact ⟨q1,q2,q3,fun i hi=>by rw [q4 i (by omega)];exact hag i hi⟩
  ·exact ⟨p1,p2,ha2,hag⟩
theorem Hp{n:Nat}(n1:1≤n){rs:List aB}{L C:Lk}(hs:qc rs)(hC:Over rs L C)(hcl:iU n rs C){r:aB}(hr:r ∈ rs){s:DB×Bool}(hm:Jg rs L C s)(hl:∀ p,s.1 r.name=some p→p.2.length=n ^ r.args.l.length):Jg rs L C (jE n r s):=by
 unfold jE vr
 split
 ·rename_i hask
  rw [sG] at hask
  have ha:ux n r (List.replicate (varsOf r).length 0):=⟨by simp,zw n1 _⟩
  refine (C5 hs hC hcl hr (varsOf r).length 0 _ s (by omega) ha hm hl fun c hcm hlt=>?_).1
  have h1:=Jf (aU r c)
  exact wW hs hm.le (hm.off hC) hr hcm (hask c hcm (by omega))
 ·exact hm
def mj(n:Nat)(rs:List aB)(D:DB):Prop:=∀ r ∈ rs,∀ p,D r.name=some p→p.2.length=n ^ r.args.l.length
theorem Jh{n:Nat}{rs:List aB}{r:aB}{vs:List Int}{s:DB×Bool}(h:mj n rs s.1):mj n rs (qy n r vs s).1:=fun q hq=>Iq (h q hq)
theorem Ec{n:Nat}(n1:1≤n){rs:List aB}{r:aB}{s:DB×Bool}(h:mj n rs s.1):mj n rs (jE n r s).1:=pK (Q:=fun s:DB×Bool=>mj n rs s.1) n1 (fun vs s _ _ h=>Jh h) h
theorem Ji{n:Nat}(n1:1≤n){rs:List aB}{L C:Lk}(hs:qc rs)(hC:Over rs L C)(hcl:iU n rs C){s:DB×Bool}(hm:Jg rs L C s)(hl:mj n rs s.1):Jg rs L C (kF n rs s)∧mj n rs (kF n rs s).1:=by
 unfold kF
 exact fo (P:=fun s:DB×Bool=>Jg rs L C s∧mj n rs s.1) ⟨hm,hl⟩ fun s r hr h=>⟨Hp n1 hs hC hcl hr h.1 (h.2 r hr),Ec n1 h.2⟩
theorem C6{n:Nat}(n1:1≤n){rs:List aB}{C:Lk}{D0 D:DB}(hs:qc rs)(hC:Over rs (dB D0) C)(hcl:iU n rs C)(hl:mj n rs D0)(hr:Reach n rs D0 D):Jg rs (dB D0) C (D,false)∧mj n rs D:=by
 induction hr with
 |refl=>exact ⟨⟨.refl _ _,hC.le⟩,hl⟩
 |step D _ ih=>
  obtain ⟨h1,h2⟩:=Ji n1 hs hC hcl ih.1 ih.2
  exact ⟨⟨h1.over,h1.le⟩,h2⟩
def Still(s0 s:DB×Bool):Prop:=s.2=false→s=s0
theorem Jj{n:Nat}{r:aB}{vs:List Int}{s0 s:DB×Bool}(h:Still s0 s):Still s0 (qy n r vs s):=by
 intro hf
 unfold qy at hf ⊢
 cases hp:s.1 r.name with
 |none=>rw [hp] at hf;exact h hf
 |some p=>
  rw [hp] at hf
  simp only at hf ⊢
  split at hf
  ·rename_i e;rw [if_pos e];exact h hf
  ·cases hf
theorem rM{n:Nat}{r:aB}{s0:DB×Bool}:∀ (m v:Nat) (vs:List Int) (s:DB×Bool),Still s0 s→Still s0 (gC (fun s=>s.1) (qy n r) n r m v vs s).2
 |0,v,vs,s,h=>Jj h
 |m+1,v,vs,s,h=>by
  refine fo (P:=fun (a:List Int×(DB×Bool))=>Still s0 a.2) h fun a x _ ha=>?_
  unfold jM
  split
  ·exact rM m (v+1) _ _ ha
  ·exact ha
theorem vA{n:Nat}{r:aB}{s0 s:DB×Bool}(h:Still s0 s):Still s0 (jE n r s):=by
 unfold jE vr
 split
 ·exact rM _ _ _ _ h
 ·exact h
theorem pO{α β:Type}{st:α→DB×Bool}{f:α→β→α}(hf:∀ s0 a b,Still s0 (st a)→Still s0 (st (f a b))):∀ (l:List β) (a:α) {D:DB},st (l.foldl f a)=(D,false)→st a=(D,false)
 |[],a,D,h=>h
 |b :: l,a,D,h=>by
  have h1:=pO hf l (f a b) h
  have h2:Still (st a) (st (f a b)):=hf (st a) a b (fun _=>rfl)
  rw [← h2 (by rw [h1]),h1]
theorem pQ{α β:Type}{f:α→β→α}{l:List β}{b:β}(hb:b ∈ l)(a:α):∃ l1 l2,l=l1++b :: l2∧l.foldl f a=l2.foldl f (f (l1.foldl f a) b):=by
 obtain ⟨l1,l2,h⟩:=List.append_of_mem hb
 exact ⟨l1,l2,h,by rw [h,List.foldl_append,List.foldl_cons]⟩
theorem xZ{n:Nat}{r:aB}{m v:Nat}(s0:DB×Bool)(a:List Int×(DB×Bool))(x:Nat)(h:Still s0 a.2):Still s0 (jM (fun s=>s.1) n r v (gC (fun s=>s.1) (qy n r) n r m (v+1)) a x).2:=by
 unfold jM
 split
 ·exact rM m (v+1) _ _ h
 ·exact h
theorem ya{n:Nat}{r:aB}:∀ (m v:Nat) (vs:List Int) (s:DB×Bool),ux n r vs→ux n r (gC (fun s=>s.1) (qy n r) n r m v vs s).1∧∀ i,i<v→(gC (fun s=>s.1) (qy n r) n r m v vs s).1.getD i 0=vs.getD i 0
 |0,v,vs,s,ha=>⟨ha,fun _ _=>rfl⟩
 |m+1,v,vs,s,ha=>by
  refine fo (P:=fun (a:List Int×(DB×Bool))=>ux n r a.1∧∀ i,i<v→a.1.getD i 0=vs.getD i 0) ⟨ha,fun _ _=>rfl⟩ fun a y hy hP=>?_
  have hyn:y<n:=List.mem_range.1 hy
  have ha2:ux n r (a.1.set v (y:Int)):=⟨by rw [List.length_set];exact hP.1.1,pJ hP.1.2 v hyn⟩
  have hag2:∀ i,i<v→(a.1.set v (y:Int)).getD i 0=vs.getD i 0:=fun i hi=>by rw [getD_set_ne (by omega)];exact hP.2 i hi
  unfold jM
  split
  ·obtain ⟨w1,w2⟩:=ya m (v+1) (a.1.set v (y:Int)) a.2 ha2
   exact ⟨w1,fun i hi=>by rw [w2 i (by omega)];exact hag2 i hi⟩
  ·exact ⟨ha2,hag2⟩
theorem C7{n:Nat}{r:aB}{D:DB}(hD:∃ p,D r.name=some p):∀ (m v:Nat) (vs:List Int),v+m=(varsOf r).length→ux n r vs→(gC (fun s=>s.1) (qy n r) n r m v vs (D,false)).2=(D,false) →
  ∀ us,ux n r us→(∀ i,i<v→us.getD i 0=vs.getD i 0)→kj n (dB D) r us=true→dB D r.name (fZ n r us)=true
 |0,v,vs,hv,ha,hf,us,hu,hag,happ=>by
  obtain ⟨p,hp⟩:=hD
  have:us=vs:=by
   refine List.ext_getElem? fun i=>?_
   by_cases hi:i<(varsOf r).length
   ·have:=hag i (by omega)
    rw [List.getD_eq_getElem?_getD,List.getD_eq_getElem?_getD,List.getElem?_eq_getElem (by rw [hu.1];exact hi),List.getElem?_eq_getElem (by rw [ha.1];exact hi)] at this
    rw [List.getElem?_eq_getElem (by rw [hu.1];exact hi),List.getElem?_eq_getElem (by rw [ha.1];exact hi)]
    exact congrArg some this
   ·rw [List.getElem?_eq_none (by rw [hu.1];omega),List.getElem?_eq_none (by rw [ha.1];omega)]
  subst this
  have hf':qy n r us (D,false)=(D,false):=hf
  unfold qy at hf'
  simp only [hp] at hf'
  unfold dB fZ
  simp only [hp]
  split at hf'
  ·assumption
  ·exact absurd (congrArg Prod.snd hf') (by simp)
 |m+1,v,vs,hv,ha,hf,us,hu,hag,happ=>by
  have hvl:v<us.length:=by rw [hu.1];omega
  have hin:=KL hu.2 (List.getElem?_eq_getElem hvl)
  obtain ⟨x,hx⟩:∃ x:Nat,us[v]=(x:Int):=⟨us[v].toNat,by omega⟩
  have hxn:x<n:=by omega
  have hux:us.getD v 0=(x:Int):=by rw [List.getD_eq_getElem?_getD,List.getElem?_eq_getElem hvl];exact hx
  have hf0:((List.range n).foldl (jM (fun s=>s.1) n r v (gC (fun s=>s.1) (qy n r) n r m (v+1))) (vs,((D,false):DB×Bool))).2=(D,false):=hf
  obtain ⟨l1,l2,hl,hfo⟩:=pQ (f:=jM (fun s=>s.1) n r v (gC (fun s=>s.1) (qy n r) n r m (v+1))) (List.mem_range.2 hxn) (vs,((D,false):DB×Bool))
  rw [hfo] at hf0
  have h1:=pO (st:=fun a:List Int×(DB×Bool)=>a.2) (fun s0 a b h=>xZ s0 a b h) l2 _ hf0
  have hmid:(l1.foldl (jM (fun s=>s.1) n r v (gC (fun s=>s.1) (qy n r) n r m (v+1))) (vs,((D,false):DB×Bool))).2=(D,false):=by
   have h2:=xZ (m:=m) (n:=n) (r:=r) (v:=v) _ (l1.foldl (jM (fun s=>s.1) n r v (gC (fun s=>s.1) (qy n r) n r m (v+1))) (vs,((D,false):DB×Bool))) x (fun _=>rfl)
   exact (h2 (congrArg Prod.snd h1)).symm.trans h1
  have hok:ux n r (l1.foldl (jM (fun s=>s.1) n r v (gC (fun s=>s.1) (qy n r) n r m (v+1))) (vs,((D,false):DB×Bool))).1∧∀ i,i<v→(l1.foldl (jM (fun s=>s.1) n r v (gC (fun s=>s.1) (qy n r) n r m (v+1))) (vs,((D,false):DB×Bool))).1.getD i 0=vs.getD i 0:=by
   refine fo (P:=fun (a:List Int×(DB×Bool))=>ux n r a.1∧∀ i,i<v→a.1.getD i 0=vs.getD i 0) ⟨ha,fun _ _=>rfl⟩ fun a y hy hP=>?_
   have hyn:y<n:=List.mem_range.1 (by rw [hl];exact List.mem_append_left _ hy)
   have ha2:ux n r (a.1.set v (y:Int)):=⟨by rw [List.length_set];exact hP.1.1,pJ hP.1.2 v hyn⟩
   have hag2:∀ i,i<v→(a.1.set v (y:Int)).getD i 0=vs.getD i 0:=fun i hi=>by rw [getD_set_ne (by omega)];exact hP.2 i hi
   unfold jM
   split
   ·obtain ⟨w1,w2⟩:=ya (n:=n) (r:=r) m (v+1) (a.1.set v (y:Int)) a.2 ha2
    exact ⟨w1,fun i hi=>by rw [w2 i (by omega)];exact hag2 i hi⟩
   ·exact ⟨ha2,hag2⟩
  generalize hacc:l1.foldl (jM (fun s=>s.1) n r v (gC (fun s=>s.1) (qy n r) n r m (v+1))) (vs,((D,false):DB×Bool))=acc at h1 hmid hok
  obtain ⟨av,sv⟩:=acc
  replace hmid:sv=(D,false):=hmid
  subst hmid
  have hagu:∀ i,i<v+1→us.getD i 0=(av.set v (x:Int)).getD i 0:=fun i hi=>by
   by_cases e:i=v
   ·subst e;rw [hux,FZ (by rw [hok.1.1];omega)]
   ·rw [getD_set_ne e,hok.2 i (by omega)];exact hag i (by omega)
  have hask:yV n (dB D) r (av.set v (x:Int)) (v:Int)=true:=by
   rw [sG]
   intro c hc e
   rw [vz (b:=us) fun p hp=>(hagu p (by have:=Bt hp;omega)).symm]
   unfold kj at happ
   rw [List.all_eq_true] at happ
   exact happ c hc
  unfold jM at h1
  simp only [hask,if_true] at h1
  exact C7 hD m (v+1) (av.set v (x:Int)) (by omega) ⟨by rw [List.length_set];exact hok.1.1,pJ hok.1.2 v hxn⟩ h1 us hu hagu happ
theorem Hq{n:Nat}(n1:1≤n){r:aB}{D:DB}(hD:∃ p,D r.name=some p)(h:jE n r (D,false)=(D,false))(us:List Int)(hu:ux n r us)(happ:kj n (dB D) r us=true):dB D r.name (fZ n r us)=true:=by
 unfold jE vr at h
 have hask:yV n (dB D) r (List.replicate (varsOf r).length 0) (-1)=true:=by
  rw [sG]
  intro c hc e
  have hno:aU r c = []:=by
   cases hps:aU r c with
   |nil=>rfl
   |cons p ps=>
    have:=Bt (ps:=aU r c) (p:=p) (by rw [hps];exact List.mem_cons_self)
    omega
  unfold kj at happ
  rw [List.all_eq_true] at happ
  have:=happ c hc
  rw [hno] at this ⊢
  exact this
 simp only [hask,if_true] at h
 exact C7 hD (varsOf r).length 0 _ (by omega) ⟨by simp,zw n1 _⟩ h us hu (fun i hi=>by omega) happ
theorem Jk{n:Nat}(n1:1≤n){rs:List aB}{D:DB}(hD:∀ r ∈ rs,∃ p,D r.name=some p)(h:kF n rs (D,false)=(D,false)):iU n rs (dB D):=by
 intro r hr us hu happ
 obtain ⟨l1,l2,hl,hfo⟩:=pQ (f:=fun s r=>jE n r s) hr ((D,false):DB×Bool)
 unfold kF at h
 rw [hfo] at h
 have h1:=pO (st:=fun a:DB×Bool=>a) (f:=fun s r=>jE n r s) (fun s0 a b h=>vA h) l2 _ h
 have h2:=pO (st:=fun a:DB×Bool=>a) (f:=fun s (r:aB)=>jE n r s) (fun s0 a b h=>vA h) [r] (l1.foldl (fun s r=>jE n r s) (D,false)) (D:=D) (by simpa using h1)
 replace h2:l1.foldl (fun s r=>jE n r s) ((D,false):DB×Bool)=(D,false):=h2
 rw [h2] at h1
 exact Hq n1 (hD r hr) h1 us hu happ
theorem Jl{n:Nat}{rs:List aB}{D0 D:DB}{nm:bC}(n1:1≤n)(hr:Reach n rs D0 D)(h:∃ p,D0 nm=some p):∃ p,D nm=some p:=by
 induction hr with
 |refl=>exact h
 |step D _ ih=>
  show ∃ p,(kF n rs (D,false)).1 nm=some p
  unfold kF
  refine fo (P:=fun s:DB×Bool=>∃ p,s.1 nm=some p) ih fun s r _ hs=>?_
  refine pK (Q:=fun s:DB×Bool=>∃ p,s.1 nm=some p) n1 (fun vs s _ _ hs=>?_) hs
  obtain ⟨p,hp⟩:=hs
  unfold qy
  cases hq:s.1 r.name with
  |none=>exact ⟨p,hp⟩
  |some q=>
   simp only
   split
   ·exact ⟨p,hp⟩
   ·unfold jL
    by_cases e:nm=r.name
    ·exact ⟨_,if_pos e⟩
    ·exact ⟨p,by simp only [if_neg e];exact hp⟩
theorem F5{n:Nat}(n1:1≤n){rs:List aB}{D0 D:DB}(hs:qc rs)(hl:mj n rs D0)(hD:∀ r ∈ rs,∃ p,D0 r.name=some p)(hr:Reach n rs D0 D)(hp:kF n rs (D,false)=(D,false)):nH n rs (dB D0) (dB D):=by
 have hcl:=Jk n1 (fun r hq=>Jl n1 hr (hD r hq)) hp
 refine ⟨?_,hcl,fun C hC hcC=>(C6 n1 hs hC hcC hl hr).1.le⟩
 have top:Over rs (dB D0) (fun nm k=>if (∃ r ∈ rs,r.name=nm) then true else dB D0 nm k):=⟨fun nm k h=>by
   by_cases e:∃ r ∈ rs,r.name=nm
   ·simp [e]
   ·simp [e,h],fun nm hn k=>by
   rw [if_neg]
   rintro ⟨r,h1,h2⟩
   exact hn r h1 h2⟩
 exact (C6 (C:=fun nm k=>if (∃ r ∈ rs,r.name=nm) then true else dB D0 nm k) n1 hs top (fun r hr vs _ _=>if_pos ⟨r,hr,rfl⟩) hl hr).1.over
theorem mj.Jm{n:Nat}{rs:List aB}{A B:DB}(h:mj n rs A)(hd:eu B A):mj n rs B:=fun r hr p hp=>by
 obtain ⟨p0,h1,_,h3⟩:=hd.back hp
 rw [h3];exact h r hr p0 h1
theorem Hr{n:Nat}(n1:1≤n){rs:List aB}{D0 D:DB}(hr:Reach n rs D0 D):eu D D0:=by
 induction hr with
 |refl=>exact fun _=>rfl
 |step D _ ih=>
  show eu (kF n rs (D,false)).1 D0
  unfold kF
  refine fo (P:=fun s:DB×Bool=>eu s.1 D0) ih fun s r _ hs=>?_
  refine pK (Q:=fun s:DB×Bool=>eu s.1 D0) n1 (fun vs s _ _ hs=>?_) hs
  unfold qy
  cases hq:s.1 r.name with
  |none=>exact hs
  |some q=>
   simp only
   split
   ·exact hs
   ·exact hs.set hq (by simp)
theorem Jn{n:Nat}(n1:1≤n){rs:List aB}{lv:Lev.Lv}{D0:DB}(hlv:Br rs lv)(hl:mj n rs D0)(hD:∀ r ∈ rs,∃ p,D0 r.name=some p):∀ {t:Nat} {D:DB},CR n rs lv D0 t D→gE n rs lv (dB D0) t (dB D)∧eu D D0:=by
 intro t D h
 induction h with
 |zero=>exact ⟨.zero,fun _=>rfl⟩
 |succ l D D' _ hr hp ih=>
  have hd:=(Hr n1 hr).trans ih.2
  refine ⟨.succ l _ _ ih.1 (F5 n1 (hlv.Ol l) (fun r hr=>hl.Jm ih.2 r (lY.1 hr).1) (fun r hr=>?_) hr hp),hd⟩
  obtain ⟨p,h1⟩:=hD r (lY.1 hr).1
  obtain ⟨q,h2,_⟩:=ih.2.get h1
  exact ⟨q,h2⟩
end
end Go.AM
namespace Go.AM
open Go Go.Proofs
noncomputable section
theorem F6{b:Nat}{h:ag}{es:List Entry}{ck:Nat}{m:lq}(hb:h.get b=some (.map es ck))(hm:rq es m)(k:bC)(v:AV) :
  ∃ es' ck',eF .string (.map b) (.str k) v h=some (h.set b (.map es' ck'))∧rq es' (m.oZ k v):=by
 obtain ⟨r,hr,hm'⟩:=rq.iQ (k:=k) 0 hm
 simp only [eF,hb,nT,nS,if_true,hr]
 cases r with
 |none=>simp at hm';exact ⟨_,_,rfl,hm.append hm' v ck⟩
 |some jv=>
  obtain ⟨n,hj,_,e⟩:=hm'
  obtain ⟨j,w⟩:=jv
  simp only [Nat.zero_add] at hj
  subst hj
  exact ⟨_,_,rfl,e v⟩
theorem Ld(m:lq)(k j:bC)(v:AV):(m.oZ k v).find j=if j=k then some v else m.find j:=by
 induction m with
 |nil=>
  simp only [lq.oZ,lq.find,List.find?_cons,List.find?_nil]
  by_cases h:j=k
  ·subst h;simp
  ·have:(j==k)=false:=by simpa using h
   rw [this,if_neg h]
 |cons p m ih=>
  simp only [lq.oZ]
  by_cases hk:k=p.1
  ·rw [if_pos (by simpa using hk)]
   subst hk
   simp only [lq.find,List.find?_cons]
   by_cases h:j=p.1
   ·subst h;simp
   ·have:(j==p.1)=false:=by simpa using h
    rw [this,if_neg h]
  ·rw [if_neg (by simpa using hk)]
   simp only [lq.find,List.find?_cons] at ih ⊢
   by_cases h:j=p.1
   ·subst h
    simp only [beq_self_eq_true,Option.map_some]
    rw [if_neg (Ne.symm hk)]
   ·have:(j==p.1)=false:=by simpa using h
    rw [this]
    exact ih
theorem Hs{n k:Nat}{l:List (Sl Int)}(h:sZ n k l=true){i:Nat}{t:Sl Int}(ht:l[i]?=some t):t.l.length=k∧gQ n t.l=true:=by
 have:=rG h (List.getElem?_eq_some_iff.1 ht).1
 unfold ke at this
 rw [ht] at this
 simp only [Bool.and_eq_true,decide_eq_true_eq] at this
 exact ⟨this.1,this.2.1⟩
end
end Go.AM
namespace Go.AM
open Go Go.Proofs
noncomputable section
def cY(ts:List gq):Lk:=fun nm k=>match ts.find? (fun t=>t.name==nm) with|some t=>t.bits.getD k false|none=>false
theorem oC{ts:List gq}(hn:(ts.map gq.name).Nodup){j:Nat}{t:gq}(ht:ts[j]?=some t)(k:Nat):cY ts t.name k=t.bits.getD k false:=by
 have:∀ (ts:List gq),(ts.map gq.name).Nodup→∀ t ∈ ts,ts.find? (fun q=>q.name==t.name)=some t:=by
  intro ts
  induction ts with
  |nil=>intro _ t ht;cases ht
  |cons q ts ih=>
   intro hn t ht
   rw [List.map_cons,List.nodup_cons] at hn
   rw [List.find?_cons]
   rcases List.mem_cons.1 ht with rfl|ht
   ·simp
   ·have:(q.name==t.name)=false:=by
     rw [beq_eq_false_iff_ne]
     exact fun e=>hn.1 (by rw [e];exact List.mem_map_of_mem ht)
    rw [this]
    exact ih hn.2 t ht
 unfold cY
 rw [this ts hn t (List.mem_of_getElem? ht)]
theorem yb{nm:bC}:∀ (ts:List gq) (j:Nat) (t t':gq),ts[j]?=some t→t'.name=t.name→t.name≠nm→(ts.set j t').find? (fun q=>q.name==nm)=ts.find? (fun q=>q.name==nm)
 |[],j,t,t',h,_,_=>by simp at h
 |q :: ts,0,t,t',h,hn,hne=>by
  simp at h;subst h
  rw [List.set_cons_zero,List.find?_cons,List.find?_cons]
  rw [beq_eq_false_iff_ne.2 (by rw [hn];exact hne),beq_eq_false_iff_ne.2 hne]
 |q :: ts,j+1,t,t',h,hn,hne=>by
  rw [List.getElem?_cons_succ] at h
  rw [List.set_cons_succ,List.find?_cons,List.find?_cons,yb ts j t t' h hn hne]
theorem wY:∀ (ts:List gq) (j:Nat) (t t':gq),ts[j]?=some t→t'.name=t.name→(ts.set j t').map gq.name=ts.map gq.name
 |[],j,t,t',h,_=>by simp at h
 |q :: ts,0,t,t',h,hn=>by simp at h;subst h;simp [hn]
 |q :: ts,j+1,t,t',h,hn=>by
  rw [List.getElem?_cons_succ] at h
  rw [List.set_cons_succ,List.map_cons,List.map_cons,wY ts j t t' h hn]
theorem wZ{ts:List gq}(hn:(ts.map gq.name).Nodup){j:Nat}{t:gq}(ht:ts[j]?=some t){rk:Nat}(hrk:rk<t.bits.length)(x:bC)(k:Nat) :
  cY (ts.set j ⟨t.name,t.k,t.bits.set rk true⟩) x k=(cY ts x k||(decide (x=t.name)&&decide (k=rk))):=by
 have hj:=(List.getElem?_eq_some_iff.1 ht).1
 by_cases hx:x=t.name
 ·subst hx
  have h1:=oC (ts:=ts.set j ⟨t.name,t.k,t.bits.set rk true⟩) (by rw [wY ts j t ⟨t.name,t.k,t.bits.set rk true⟩ ht rfl];exact hn) (j:=j) (t:=⟨t.name,t.k,t.bits.set rk true⟩) (by rw [List.getElem?_set,if_pos rfl,if_pos hj]) k
  simp only at h1
  rw [h1,oC hn ht k,decide_eq_true rfl,Bool.true_and]
  by_cases hk:k=rk
  ·subst hk
   rw [List.getD_eq_getElem?_getD,List.getElem?_set,if_pos rfl,if_pos hrk];simp
  ·rw [List.getD_eq_getElem?_getD,List.getElem?_set,if_neg (fun e=>hk e.symm),← List.getD_eq_getElem?_getD,decide_eq_false hk,Bool.or_false]
 ·rw [decide_eq_false hx,Bool.false_and,Bool.or_false]
  unfold cY
  rw [yb ts j t ⟨t.name,t.k,t.bits.set rk true⟩ ht rfl (fun e=>hx e.symm)]
def BK(n:Nat)(r:aB)(j:Nat)(vs:List Int)(s:List gq×Bool):List gq×Bool:=
 match s.1[j]? with
 |none=>s
 |some t=>if t.bits.getD (fZ n r vs) false=true then s else if kj n (cY s.1) r vs=true then (s.1.set j ⟨t.name,t.k,t.bits.set (fZ n r vs) true⟩,true) else s
def eV(n:Nat)(r:aB)(j m:Nat)(s:List gq×Bool):List gq×Bool:=(List.range m).foldl (fun s i=>BK n r j (dA n (varsOf r).length i) s) s
def kf(n:Nat)(jx:bC→Nat)(rs:List aB)(s:List gq×Bool):List gq×Bool:=rs.foldl (fun s r=>eV n r (jx r.name) (n ^ (varsOf r).length) s) s
theorem rN(n:Nat)(r:aB)(j m:Nat)(s:List gq×Bool):eV n r j (m+1) s=BK n r j (dA n (varsOf r).length m) (eV n r j m s):=by
 unfold eV;rw [List.range_succ,List.foldl_append];rfl
theorem Ht{n:Nat}{jx:bC→Nat}{rs:List aB}(s:List gq×Bool)(r:aB):kf n jx (rs++[r]) s=eV n r (jx r.name) (n ^ (varsOf r).length) (kf n jx rs s):=by
 unfold kf;rw [List.foldl_append];rfl
structure fH (n:Nat) (jx:bC→Nat) (rs:List aB) (ts:List gq):Prop where
 nodup:(ts.map gq.name).Nodup
 at_:∀ r ∈ rs,∃ t,ts[jx r.name]?=some t∧t.name=r.name∧t.bits.length=n ^ r.args.l.length
theorem Bu{n:Nat}{r:aB}{vs:List Int}(ha:ux n r vs):fZ n r vs<n ^ r.args.l.length:=by
 have hpl:∀ p ∈ placesOf (varsOf r) r.args.l,p<vs.length:=by rw [ha.1];exact ir iM
 have hplen:(placesOf (varsOf r) r.args.l).length=r.args.l.length:=by unfold placesOf;simp
 have:=lC (iN ha.2 hpl)
 rw [fV,hplen] at this
 exact this
theorem Hu{n:Nat}{jx:bC→Nat}{rs:List aB}{r:aB}{vs:List Int}{j:Nat}{s:List gq×Bool}(h:fH n jx rs s.1):fH n jx rs (BK n r j vs s).1:=by
 unfold BK
 cases ht:s.1[j]? with
 |none=>exact h
 |some t=>
  simp only
  split
  ·exact h
  ·split
   ·refine ⟨by show ((s.1.set j ⟨t.name,t.k,t.bits.set (fZ n r vs) true⟩).map gq.name).Nodup;rw [wY s.1 j t ⟨t.name,t.k,t.bits.set (fZ n r vs) true⟩ ht rfl];exact h.nodup,fun q hq=>?_⟩
    obtain ⟨u,h1,h2,h3⟩:=h.at_ q hq
    simp only
    by_cases e:jx q.name=j
    ·rw [e] at h1 ⊢
     rw [ht] at h1;cases h1
     exact ⟨⟨t.name,t.k,t.bits.set (fZ n r vs) true⟩,by rw [List.getElem?_set,if_pos rfl,if_pos (List.getElem?_eq_some_iff.1 ht).1],h2,by simpa using h3⟩
    ·exact ⟨u,by rw [List.getElem?_set,if_neg (fun e'=>e e'.symm)];exact h1,h2,h3⟩
   ·exact h
structure Ed (rs:List aB) (L C:Lk) (s:List gq×Bool):Prop where
 over:Over rs L (cY s.1)
 le:∀ nm k,cY s.1 nm k=true→C nm k=true
theorem NK{n:Nat}{jx:bC→Nat}{rs:List aB}{L C:Lk}(hs:qc rs)(hC:Over rs L C)(hcl:iU n rs C){r:aB}(hr:r ∈ rs){vs:List Int}(ha:ux n r vs){s:List gq×Bool}(ho:fH n jx rs s.1)(m:Ed rs L C s):Ed rs L C (BK n r (jx r.name) vs s):=by
 unfold BK
 obtain ⟨t,ht,htn,htl⟩:=ho.at_ r hr
 rw [ht]
 simp only
 split
 ·exact m
 ·split
  ·rename_i happ
   have hrk:fZ n r vs<t.bits.length:=by rw [htl];exact Bu ha
   have happC:=K8 hs m.le (fun nm hn k=>by rw [hC.off nm hn,m.over.off nm hn]) hr happ
   have hcC:=hcl r hr vs ha happC
   refine ⟨⟨fun nm k h=>?_,fun nm hn k=>?_⟩,fun nm k h=>?_⟩
   ·simp only [wZ ho.nodup ht hrk,m.over.le nm k h,Bool.true_or]
   ·simp only [wZ ho.nodup ht hrk,decide_eq_false (fun e:nm=t.name=>hn r hr (by rw [e,htn])),Bool.false_and,Bool.or_false]
    exact m.over.off nm hn k
   ·simp only [wZ ho.nodup ht hrk,Bool.or_eq_true,Bool.and_eq_true,decide_eq_true_eq] at h
    rcases h with h|⟨h1,h2⟩
    ·exact m.le nm k h
    ·rw [h1,htn,h2];exact hcC
  ·exact m
theorem iI(n:Nat):∀ k r,(dA n k r).length=k
 |0,_=>rfl
 |k+1,r=>by rw [dA,List.length_append,iI n k];rfl
theorem Bv{n:Nat}(n1:1≤n){r:aB}{i:Nat}(hi:i<n ^ (varsOf r).length):ux n r (dA n (varsOf r).length i):=⟨iI _ _ _,(pL n1 hi).1⟩
theorem Le{n:Nat}(n1:1≤n){r:aB}{us:List Int}(ha:ux n r us):∃ i,i<n ^ (varsOf r).length∧us=dA n (varsOf r).length i:=by
 have hlt:gY n us<n ^ (varsOf r).length:=by have:=lC ha.2;rwa [ha.1] at this
 refine ⟨gY n us,hlt,?_⟩
 obtain ⟨h1,h2⟩:=pL n1 hlt
 exact NG (by rw [iI,ha.1]) ha.2 h1 h2.symm
theorem Hv{n:Nat}(n1:1≤n){jx:bC→Nat}{rs:List aB}{L C:Lk}(hs:qc rs)(hC:Over rs L C)(hcl:iU n rs C){r:aB}(hr:r ∈ rs){s:List gq×Bool}(ho:fH n jx rs s.1)(m:Ed rs L C s) :
  fH n jx rs (eV n r (jx r.name) (n ^ (varsOf r).length) s).1∧Ed rs L C (eV n r (jx r.name) (n ^ (varsOf r).length) s):=by
 unfold eV
 exact fo (P:=fun s:List gq×Bool=>fH n jx rs s.1∧Ed rs L C s) ⟨ho,m⟩ fun s i hi h=>⟨Hu h.1,NK hs hC hcl hr (Bv n1 (List.mem_range.1 hi)) h.1 h.2⟩
theorem Jo{n:Nat}(n1:1≤n){jx:bC→Nat}{rs:List aB}{L C:Lk}(hs:qc rs)(hC:Over rs L C)(hcl:iU n rs C){s:List gq×Bool}(ho:fH n jx rs s.1)(m:Ed rs L C s):fH n jx rs (kf n jx rs s).1∧Ed rs L C (kf n jx rs s):=by
 unfold kf
 exact fo (P:=fun s:List gq×Bool=>fH n jx rs s.1∧Ed rs L C s) ⟨ho,m⟩ fun s r hr h=>Hv n1 hs hC hcl hr h.1 h.2
def rO(s0 s:List gq×Bool):Prop:=s.2=false→s=s0
theorem w8{n:Nat}{r:aB}{j:Nat}{vs:List Int}{s0 s:List gq×Bool}(h:rO s0 s):rO s0 (BK n r j vs s):=by
 intro hf
 unfold BK at hf ⊢
 cases ht:s.1[j]? with
 |none=>rw [ht] at hf;exact h hf
 |some t=>
  rw [ht] at hf
  simp only at hf ⊢
  split at hf
  ·rename_i e;rw [if_pos e];exact h hf
  ·rename_i e
   rw [if_neg e]
   split at hf
   ·cases hf
   ·rename_i e2;rw [if_neg e2];exact h hf
theorem vB{n:Nat}{r:aB}{j m:Nat}{s0 s:List gq×Bool}(h:rO s0 s):rO s0 (eV n r j m s):=by
 unfold eV
 exact fo (P:=fun s=>rO s0 s) h fun s i _ hs=>w8 hs
theorem lZ{β:Type}{f:List gq×Bool→β→List gq×Bool}(hf:∀ s0 a b,rO s0 a→rO s0 (f a b)):∀ (l:List β) (a:List gq×Bool) {D:List gq},l.foldl f a=(D,false)→a=(D,false)
 |[],a,D,h=>h
 |b :: l,a,D,h=>by
  have h1:=lZ hf l (f a b) h
  have h2:rO a (f a b):=hf a a b (fun _=>rfl)
  rw [← h2 (by rw [h1]),h1]
theorem Hw{n:Nat}(n1:1≤n){r:aB}{j:Nat}{ts:List gq}(hn:(ts.map gq.name).Nodup){t:gq}(ht:ts[j]?=some t)(htn:t.name=r.name)(h:eV n r j (n ^ (varsOf r).length) (ts,false)=(ts,false))(us:List Int)(hu:ux n r us)(happ:kj n (cY ts) r us=true):cY ts r.name (fZ n r us)=true:=by
 obtain ⟨i,hi,rfl⟩:=Le n1 hu
 obtain ⟨l1,l2,hl,hfo⟩:=pQ (f:=fun s i=>BK n r j (dA n (varsOf r).length i) s) (List.mem_range.2 hi) ((ts,false):List gq×Bool)
 unfold eV at h
 rw [hfo] at h
 have h1:=lZ (f:=fun s i=>BK n r j (dA n (varsOf r).length i) s) (fun s0 a b h=>w8 h) l2 _ h
 have h2:=lZ (f:=fun s i=>BK n r j (dA n (varsOf r).length i) s) (fun s0 a b h=>w8 h) [i] (l1.foldl (fun s i=>BK n r j (dA n (varsOf r).length i) s) (ts,false)) (D:=ts) (by simpa using h1)
 rw [h2] at h1
 unfold BK at h1
 simp only [ht,happ,if_true] at h1
 have:=oC hn ht (fZ n r (dA n (varsOf r).length i))
 rw [← htn,this]
 split at h1
 ·assumption
 ·exact absurd (congrArg Prod.snd h1) (by simp)
theorem Jp{n:Nat}(n1:1≤n){jx:bC→Nat}{rs:List aB}{ts:List gq}(ho:fH n jx rs ts)(h:kf n jx rs (ts,false)=(ts,false)):iU n rs (cY ts):=by
 intro r hr us hu happ
 obtain ⟨t,ht,htn,_⟩:=ho.at_ r hr
 obtain ⟨l1,l2,hl,hfo⟩:=pQ (f:=fun s (r:aB)=>eV n r (jx r.name) (n ^ (varsOf r).length) s) hr ((ts,false):List gq×Bool)
 unfold kf at h
 rw [hfo] at h
 have h1:=lZ (f:=fun s (r:aB)=>eV n r (jx r.name) (n ^ (varsOf r).length) s) (fun s0 a b h=>vB h) l2 _ h
 have h2:=lZ (f:=fun s (r:aB)=>eV n r (jx r.name) (n ^ (varsOf r).length) s) (fun s0 a b h=>vB h) [r] (l1.foldl (fun s (r:aB)=>eV n r (jx r.name) (n ^ (varsOf r).length) s) (ts,false)) (D:=ts) (by simpa using h1)
 rw [h2] at h1
 exact Hw n1 ho.nodup ht htn h1 us hu happ
inductive pR (n:Nat) (jx:bC→Nat) (rs:List aB) (T0:List gq):List gq→Prop
 |refl:pR n jx rs T0 T0
 |step (T:List gq):pR n jx rs T0 T→pR n jx rs T0 (kf n jx rs (T,false)).1
theorem Lf{n:Nat}{jx:bC→Nat}{qs rs:List aB}{s:List gq×Bool}(ho:fH n jx qs s.1):fH n jx qs (kf n jx rs s).1:=by
 unfold kf
 refine fo (P:=fun s:List gq×Bool=>fH n jx qs s.1) ho fun s r _ h=>?_
 unfold eV
 exact fo (P:=fun s:List gq×Bool=>fH n jx qs s.1) h fun s i _ h=>Hu h
theorem fH.sub{n:Nat}{jx:bC→Nat}{qs rs:List aB}{ts:List gq}(h:fH n jx rs ts)(hs:∀ r ∈ qs,r ∈ rs):fH n jx qs ts:=⟨h.nodup,fun r hr=>h.at_ r (hs r hr)⟩
theorem sH{n:Nat}{jx:bC→Nat}{qs rs:List aB}{T0 T:List gq}(ho:fH n jx qs T0)(hr:pR n jx rs T0 T):fH n jx qs T:=by
 induction hr with
 |refl=>exact ho
 |step T _ ih=>exact Lf (s:=(T,false)) ih
theorem Ee{n:Nat}(n1:1≤n){jx:bC→Nat}{rs:List aB}{T0 T:List gq}(hs:qc rs)(ho:fH n jx rs T0)(hr:pR n jx rs T0 T)(hp:kf n jx rs (T,false)=(T,false)):nH n rs (cY T0) (cY T):=by
 have key:∀ C,Over rs (cY T0) C→iU n rs C→Ed rs (cY T0) C (T,false):=fun C hC hcl=>by
  clear hp
  induction hr with
  |refl=>exact ⟨.refl _ _,hC.le⟩
  |step T hT ih=>
   obtain ⟨_,h2⟩:=Jo n1 hs hC hcl (s:=(T,false)) (sH ho hT) ih
   exact ⟨h2.over,h2.le⟩
 refine ⟨?_,Jp n1 (sH ho hr) hp,fun C hC hcC=>(key C hC hcC).le⟩
 have top:Over rs (cY T0) (fun nm k=>if (∃ r ∈ rs,r.name=nm) then true else cY T0 nm k):=⟨fun nm k h=>by
   by_cases e:∃ r ∈ rs,r.name=nm
   ·simp [e]
   ·simp [e,h],fun nm hn k=>by
   rw [if_neg]
   rintro ⟨r,h1,h2⟩
   exact hn r h1 h2⟩
 exact (key (fun nm k=>if (∃ r ∈ rs,r.name=nm) then true else cY T0 nm k) top fun r hr vs _ _=>if_pos ⟨r,hr,rfl⟩).over
inductive RunT (n:Nat) (jx:bC→Nat) (rs:List aB) (lv:Lev.Lv) (T0:List gq):Nat→List gq→Prop
 |zero:RunT n jx rs lv T0 0 T0
 |succ (l:Nat) (T T':List gq):RunT n jx rs lv T0 l T→pR n jx (eX lv rs l) T T'→kf n jx (eX lv rs l) (T',false)=(T',false)→RunT n jx rs lv T0 (l+1) T'
theorem Bw{n:Nat}(n1:1≤n){jx:bC→Nat}{rs:List aB}{lv:Lev.Lv}{T0:List gq}(hlv:Br rs lv)(ho:fH n jx rs T0):∀ {t:Nat} {T:List gq},RunT n jx rs lv T0 t T→gE n rs lv (cY T0) t (cY T)∧fH n jx rs T:=by
 intro t T h
 induction h with
 |zero=>exact ⟨.zero,ho⟩
 |succ l T T' _ hr hp ih=>
  exact ⟨.succ l _ _ ih.1 (Ee n1 (hlv.Ol l) (ih.2.sub fun r hr=>(lY.1 hr).1) hr hp),sH ih.2 hr⟩
end
end Go.AM
namespace Go.AM
open Go Go.Proofs
noncomputable section
def Hx(es:List Entry)(ck:Nat)(m:dF):Prop:=jC es m∧je es ck∧(m.map (·.1)).Nodup
theorem vC{P M:Nat}{v w:AV}{h:ag}{es:List Entry}{ck:Nat}{m:dF}(hP:h.get P=some (.cells [v,.map M,w]))(hM:h.get M=some (.map es ck))(hm0:Hx es ck m)(hPn:P<h.next)(hMn:M<h.next){nm:bC}{xs:Sl bC}{K:Out→ag→Bool}
  (hK:∀ h' es' ck',h'.get M=some (.map es' ck')→Hx es' ck' (m.oZ nm xs.l.length)→(∀ b,b<h.next→b≠M→h'.get b=h.get b)→h.next≤h'.next→K (.ret (.bool (I4 m nm xs.l.length))) h'=true) :
  Sem Tryz.prog 131 [.ptr P 0,.agg [.str nm,aq encS 1 xs]] h K:=by
 obtain ⟨hm,hB,hnd⟩:=hm0
 unfold I4 at hK
 refine F.og ?_
 rw [F.pg]
 have hb:ew (.agg [.str nm,aq encS 1 xs])=some (ig nm xs):=cA (wH nm xs)
 simp only [hb,bindO_some]
 have g0:(ag.alloc h (.cells (ig nm xs))).get h.next=some (.cells (ig nm xs)):=aI _ _
 have gP:(ag.alloc h (.cells (ig nm xs))).get P=some (.cells [v,.map M,w]):=by rw [ag.aV,if_neg (by omega)];exact hP
 have gM:(ag.alloc h (.cells (ig nm xs))).get M=some (.map es ck):=by rw [ag.aV,if_neg (by omega)];exact hM
 have gx:bR h (ag.alloc h (.cells (ig nm xs))):=bR.alloc _ _
 generalize (ag.alloc h (.cells (ig nm xs)))=H at g0 gP gM gx ⊢
 have g0':∀ x,(H.set M x).get h.next=some (.cells (ig nm xs)):=fun x=>by rw [ag.aO,if_neg (by omega)];exact g0
 obtain ⟨es',ck',hu,hue⟩:=Ab gM hm nm xs.l.length
 simp only [aQ,Nat.reduceAdd,Nat.reduceEqDiff,reduceIte,bS,an gP,an g0,ig,pe gM hm,hu]
 have fin:=hK (H.set M (.map es' ck')) es' ck' (by rw [ag.aO,if_pos rfl]) ⟨hue,tB gM hB hu (by rw [ag.aO,if_pos rfl]),CJ hnd nm _⟩ (fun b hb hne=>by rw [ag.aO,if_neg hne];exact gx.get b hb) (by rw [ag.next_set];exact gx.next)
 cases hf:m.find nm with
 |none=>
  rw [hf] at fin
  simp only [Option.isSome_none,Bool.not_false,aC]
  exact fin
 |some k=>
  rw [hf] at fin
  simp only [Option.isSome_some,Bool.not_true,aD,Option.getD_some,aQ,Nat.reduceAdd,Nat.reduceEqDiff,reduceIte,an (g0' _),ig,ct]
  exact fin
set_option maxHeartbeats 1000000 in
theorem Jq{rules:Sl aB}(hok:∀ r ∈ rules.l,r.ok)(hfew:∀ r ∈ rules.l,r.kH){h:ag}{K:Out→ag→Bool}
  (hno:¬ j9 rules.l→∀ h',(∀ b,b<h.next→h'.get b=h.get b)→K (.ret (.tuple [.nilp,.bool false])) h'=true)
  (hyes:∀ h' P A M ks k,j9 rules.l→Lev.de (bM rules.l) (Lev.iter (bM rules.l) k)→h'.get P=some (.cells [aq aL 3 rules,.map A,.map M])→fC (aY rules.l) h' M ks (Lev.iter (bM rules.l) k)→ks.Nodup→P<h'.next→M<h'.next→∀ m es ck,dc rules.l []=some m→h'.get A=some (.map es ck)→Hx es ck m→h.next≤A→A<M→M<P→(∀ b,b<h.next→h'.get b=h.get b)→K (.ret (.tuple [.ptr P 0,.bool true])) h'=true):Sem Tryz.prog 83 [aq aL 3 rules] h K:=by
 refine F.DS ?_
 rw [F.Fe]
 simp only [ag.next_alloc,Se,Sf,bindO_some]
 have gA:(ag.alloc (ag.alloc (ag.alloc h (.map [] 0)) (.map [] 0)) (.cells [aq aL 3 rules,.map h.next,.map (h.next+1)])).get h.next=some (.map [] 0):=by
  rw [ag.aV,ag.next_alloc,ag.next_alloc,if_neg (by omega),ag.aV,ag.next_alloc,if_neg (by omega)];exact aI _ _
 have gM:(ag.alloc (ag.alloc (ag.alloc h (.map [] 0)) (.map [] 0)) (.cells [aq aL 3 rules,.map h.next,.map (h.next+1)])).get (h.next+1)=some (.map [] 0):=by
  rw [ag.aV,ag.next_alloc,ag.next_alloc,if_neg (by omega)];exact aI _ _
 have gP:(ag.alloc (ag.alloc (ag.alloc h (.map [] 0)) (.map [] 0)) (.cells [aq aL 3 rules,.map h.next,.map (h.next+1)])).get (h.next+1+1)=some (.cells [aq aL 3 rules,.map h.next,.map (h.next+1)]):=aI _ _
 have gn:(ag.alloc (ag.alloc (ag.alloc h (.map [] 0)) (.map [] 0)) (.cells [aq aL 3 rules,.map h.next,.map (h.next+1)])).next=h.next+1+1+1:=rfl
 have gF:∀ b,b<h.next→(ag.alloc (ag.alloc (ag.alloc h (.map [] 0)) (.map [] 0)) (.cells [aq aL 3 rules,.map h.next,.map (h.next+1)])).get b=h.get b:=(((bR.alloc _ _).trans (bR.alloc _ _)).trans (bR.alloc _ _)).get
 generalize (ag.alloc (ag.alloc (ag.alloc h (.map [] 0)) (.map [] 0)) (.cells [aq aL 3 rules,.map h.next,.map (h.next+1)]))=H0 at gA gM gP gn gF ⊢
 obtain ⟨A,hA⟩:∃ A,A=h.next:=⟨_,rfl⟩
 obtain ⟨M,hM⟩:∃ M,M=h.next+1:=⟨_,rfl⟩
 obtain ⟨P,hP⟩:∃ P,P=h.next+1+1:=⟨_,rfl⟩
 rw [← hP] at gP gn ⊢
 rw [← hM] at gM gP ⊢
 rw [← hA] at gA gP gF ⊢
 have hAM:A<M:=by omega
 have hMP:M<P:=by omega
 clear hM hP
 simp only [aQ,Nat.reduceAdd,Nat.reduceEqDiff,reduceIte]
 by_cases h61:60<rules.l.length
 ·simp only [decide_eq_true (by omega:(60:Int)<(rules.l.length:Int)),aC]
  exact hno (fun hg=>by have:=hg.kH;omega) _ (fun b hb=>gF b (by omega))
 have h60:rules.l.length≤60:=by omega
 simp only [decide_eq_false (by omega:¬ (60:Int)<(rules.l.length:Int)),aD]
 have hbig:rules.l.length≤cm:=by unfold cm;omega
 have bad:dc rules.l []=none→∀ h',(∀ b,b<A→h'.get b=h.get b)→K (.ret (.tuple [.nilp,.bool false])) h'=true:=fun hn h' hf=>hno (fun hg=>by obtain ⟨m,hm⟩:=hg.go;rw [hn] at hm;cases hm) h' (fun b hb=>hf b (by omega))
 refine aE 0 rules.l.length (Nat.zero_le _) (fun i e h'=>∃ m ks es ck,(∀ b,b<A→h'.get b=h.get b)∧dc rules.l []=dc (rules.l.drop i) m∧h'.get A=some (.map es ck)∧Hx es ck m∧fC (aY (rules.l.take i)) h' M ks (fun _=>0)∧ks.Nodup ∧
  h'.get P=some (.cells [aq aL 3 rules,.map A,.map M])∧P<h'.next∧e 4 = .ptr P 0∧e 17=aq aL 3 rules∧e 18 = .int .i64 (rules.l.length:Int)∧e 19 = .int .i64 (i:Int))
  ⟨[],[],[],0,gF,rfl,gA,⟨trivial,je.nil 0,List.nodup_nil⟩,⟨[],0,[],gM,trivial,je.nil 0,rfl,fun x=>by simp [aY,dF.find]⟩,List.nodup_nil,gP,by omega,rfl,rfl,rfl,rfl⟩ ?_ ?_
 ·rintro i e h' _ hi ⟨m,ks,es,ck,hF,hm,qA,hmI,la,hks,qP,hPn,e4,e17,e18,e19⟩ K' hn hx hr hp
  have hv:rules.l[i]?=some rules.l[i]:=List.getElem?_eq_getElem hi
  generalize rules.l[i]=r at hv
  have hrok:=hok r (List.mem_of_getElem? hv)
  have hrf:=hfew r (List.mem_of_getElem? hv)
  obtain ⟨H,hs1,g1,go,gn1⟩:=cL (h:=h') (zs:=[.str [],.nils,.nils]) (cs:=aL r) (n:=3) rfl rfl (ij r)
  have pA:H.get A=some (.map es ck):=by rw [go A (by omega)];exact qA
  have pP:H.get P=some (.cells [aq aL 3 rules,.map A,.map M]):=by rw [go P (by omega)];exact qP
  have pl:fC (aY (rules.l.take i)) H M ks (fun _=>0):=la.keep (go M (by omega))
  rw [CL hv,dc] at hm
  rw [F.bY.aN]
  simp only [e4,e17,e18,e19,aQ,Nat.reduceAdd,Nat.reduceEqDiff,reduceIte,bf hi,aS rules hi,cZ eN hv,hs1]
  simp only [aQ,Nat.reduceAdd,Nat.reduceEqDiff,reduceIte,an g1,aL,Ih]
  refine ak (A1 hrok.2.1 ?_)
  simp only [aQ,Nat.reduceAdd,Nat.reduceEqDiff,reduceIte]
  cases ha:kS r.name r.args.l with
  |false=>
   rw [ha,cond_false] at hm
   simp only [Bool.not_false,aC]
   rw [hr,F.bY.aZ]
   exact bad hm _ (fun b hb=>by rw [go b (by omega)];exact hF b hb)
  |true=>
  rw [ha,cond_true,CN] at hm
  simp only [Bool.not_true,aD,aQ,Nat.reduceAdd,Nat.reduceEqDiff,reduceIte,an g1,aL,Ih,e4]
  refine ak (vC pP pA hmI (by omega) (by omega) fun h3 es3 ck3 a1 a2 a3 a4=>?_)
  simp only [aQ,Nat.reduceAdd,Nat.reduceEqDiff,reduceIte]
  cases hq:I4 m r.name r.args.l.length with
  |false=>
   rw [hq,if_neg (by simp)] at hm
   simp only [Bool.not_false,aC]
   rw [hr,F.bY.aZ]
   exact bad hm _ (fun b hb=>by rw [a3 b (by omega) (by omega),go b (by omega)];exact hF b hb)
  |true=>
  rw [hq,if_pos rfl] at hm
  have g3:h3.get h'.next=some (.cells (aL r)):=by rw [a3 _ (by omega) (by omega)];exact g1
  have P3:h3.get P=some (.cells [aq aL 3 rules,.map A,.map M]):=by rw [a3 P (by omega) (by omega)];exact pP
  have l3:fC (aY (rules.l.take i)) h3 M ks (fun _=>0):=pl.keep (a3 M (by omega) (by omega))
  simp only [Bool.not_true,aD,aQ,Nat.reduceAdd,Nat.reduceEqDiff,reduceIte,an g3,aL]
  by_cases h20:20<r.body.l.length
  ·simp only at hm
   rw [if_pos h20] at hm
   simp only [decide_eq_true (by omega:(20:Int)<(r.body.l.length:Int)),aC]
   rw [hr,F.bY.aZ]
   exact bad hm _ (fun b hb=>by rw [a3 b (by omega) (by omega),go b (by omega)];exact hF b hb)
  simp only at hm
  rw [if_neg h20] at hm
  simp only [decide_eq_false (by omega:¬ (20:Int)<(r.body.l.length:Int)),aD,aQ,Nat.reduceAdd,Nat.reduceEqDiff,reduceIte,an g3,aL,lM]
  refine ak (cV hrf fun x hx1=>?_)
  simp only [aQ,Nat.reduceAdd,Nat.reduceEqDiff,reduceIte,hx1]
  by_cases h12:12<(varsOf r).length
  ·rw [if_pos h12] at hm
   simp only [decide_eq_true (by omega:(12:Int)<((varsOf r).length:Int)),aC]
   rw [hr,F.bY.aZ]
   exact bad hm _ (fun b hb=>by rw [a3 b (by omega) (by omega),go b (by omega)];exact hF b hb)
  rw [if_neg h12] at hm
  simp only [decide_eq_false (by omega:¬ (12:Int)<((varsOf r).length:Int)),aD,aQ,Nat.reduceAdd,Nat.reduceEqDiff,reduceIte,an g3,aL]
  have hbb:r.body.l.length≤cm:=by unfold cm;omega
  refine aE 0 r.body.l.length (Nat.zero_le _) (fun j e h2=>∃ m2 es2 ck2,(∀ b,b<A→h2.get b=h.get b)∧mD r.body.l (m.oZ r.name r.args.l.length)=mD (r.body.l.drop j) m2∧h2.get A=some (.map es2 ck2)∧Hx es2 ck2 m2∧fC (aY (rules.l.take i)) h2 M ks (fun _=>0) ∧
   h2.get P=some (.cells [aq aL 3 rules,.map A,.map M])∧h2.get h'.next=some (.cells (aL r))∧h'.next<h2.next∧e 4 = .ptr P 0∧e 6 = .ptr h'.next 0∧e 17=aq aL 3 rules∧e 18 = .int .i64 (rules.l.length:Int)∧e 19 = .int .i64 (i:Int) ∧
   e 47=aq bO 4 r.body∧e 48 = .int .i64 (r.body.l.length:Int)∧e 49 = .int .i64 (j:Int))
   ⟨_,es3,ck3,fun b hb=>by rw [a3 b (by omega) (by omega),go b (by omega)];exact hF b hb,rfl,a1,a2,l3,P3,g3,by omega,e4,rfl,e17,e18,e19,rfl,rfl,rfl⟩ ?_ ?_
  ·rintro j e h2 _ hj ⟨m2,es2,ck2,hF2,hm2,qA2,hmI2,la2,qP2,qR2,hn2,e4,e6,e17,e18,e19,e47,e48,e49⟩ K2 hnn hx2 hr2 hp2
   have hc:r.body.l[j]?=some r.body.l[j]:=List.getElem?_eq_getElem hj
   generalize r.body.l[j]=c at hc
   have hcok:=hrok.2.2.2.2 c (List.mem_of_getElem? hc)
   obtain ⟨H2,hs2,k1,ko,kn⟩:=cL (h:=h2) (zs:=[.int .i64 0,.bool false,.str [],.nils]) (cs:=bO c) (n:=4) rfl rfl (gm c)
   have kA:H2.get A=some (.map es2 ck2):=by rw [ko A (by omega)];exact qA2
   have kP:H2.get P=some (.cells [aq aL 3 rules,.map A,.map M]):=by rw [ko P (by omega)];exact qP2
   have kR:H2.get h'.next=some (.cells (aL r)):=by rw [ko _ (by omega)];exact qR2
   have kl:fC (aY (rules.l.take i)) H2 M ks (fun _=>0):=la2.keep (ko M (by omega))
   rw [CL hc,mD] at hm2
   rw [F.bY.dS]
   simp only [e4,e6,e17,e18,e19,e47,e48,e49,aQ,Nat.reduceAdd,Nat.reduceEqDiff,reduceIte,bf hj,aS r.body hj,cZ gl hc,hs2]
   simp only [aQ,Nat.reduceAdd,Nat.reduceEqDiff,reduceIte,an k1,bO,zo]
   refine ak (fF hcok ?_)
   simp only [aQ,Nat.reduceAdd,Nat.reduceEqDiff,reduceIte]
   cases hco:fT c with
   |false=>
    rw [hco,cond_false] at hm2
    rw [hm2] at hm
    simp only [Bool.not_false,aC]
    rw [hr2,F.bY.iR,hr,F.bY.aZ]
    exact bad hm _ (fun b hb=>by rw [ko b (by omega)];exact hF2 b hb)
   |true=>
   rw [hco,cond_true] at hm2
   simp only [Bool.not_true,aD,aQ,Nat.reduceAdd,Nat.reduceEqDiff,reduceIte,an k1,bO,ct]
   by_cases k0:c.kind=0
   ·rw [if_pos k0,CN] at hm2
    simp only [decide_eq_true k0,aC,aQ,Nat.reduceAdd,Nat.reduceEqDiff,reduceIte,an k1,bO,Ig,e4]
    refine ak (vC kP kA hmI2 (by omega) (by omega) fun h4 es4 ck4 b1 b2 b3 b4=>?_)
    simp only [aQ,Nat.reduceAdd,Nat.reduceEqDiff,reduceIte]
    cases hq2:I4 m2 c.name c.args.l.length with
    |false=>
     rw [hq2,if_neg (by simp)] at hm2
     simp only at hm2
     rw [hm2] at hm
     simp only [Bool.not_false,aC]
     rw [hr2,F.bY.iR,hr,F.bY.aZ]
     exact bad hm _ (fun b hb=>by rw [b3 b (by omega) (by omega),ko b (by omega)];exact hF2 b hb)
    |true=>
     rw [hq2,if_pos rfl] at hm2
     simp only [Bool.not_true,aD,e49,aK hj hbb,bindO_some]
     refine hnn _ _ ⟨_,es4,ck4,fun b hb=>by rw [b3 b (by omega) (by omega),ko b (by omega)];exact hF2 b hb,hm2,b1,b2,kl.keep (b3 M (by omega) (by omega)),?_,?_,by omega,e4,e6,e17,e18,e19,e47,e48,rfl⟩
     ·rw [b3 P (by omega) (by omega)];exact kP
     ·rw [b3 _ (by omega) (by omega)];exact kR
   ·rw [if_neg k0] at hm2
    simp only [decide_eq_false k0,aD,e49,aK hj hbb,bindO_some]
    exact hnn _ _ ⟨m2,es2,ck2,fun b hb=>by rw [ko b (by omega)];exact hF2 b hb,hm2,kA,hmI2,kl,kP,kR,by omega,e4,e6,e17,e18,e19,e47,e48,rfl⟩
  ·rintro e h2 ⟨m2,es2,ck2,hF2,hm2,qA2,hmI2,la2,qP2,qR2,hn2,e4,e6,e17,e18,e19,e47,e48,e49⟩ K2 hx2
   rw [List.drop_of_length_le (Nat.le_refl _),mD] at hm2
   rw [hm2] at hm
   simp only at hm
   obtain ⟨h5,ks5,u1,u2,u3,u4,u5⟩:=la2.add hks r.name
   rw [F.bY.dS]
   simp only [e48,e49,aQ,Nat.reduceAdd,Nat.reduceEqDiff,reduceIte,aT]
   rw [hx2,F.bY.cG]
   simp only [e4,e6,e19,aQ,Nat.reduceAdd,Nat.reduceEqDiff,reduceIte,bS,an qP2,an qR2,aL,u1,aK hi hbig]
   refine hn _ _ ⟨m2,ks5,es2,ck2,fun b hb=>by rw [u4 b (by omega)];exact hF2 b hb,hm,by rw [u4 A (by omega)];exact qA2,hmI2,?_,u3,by rw [u4 P (by omega)];exact qP2,by omega,e4,e17,e18,rfl⟩
   have:aY (rules.l.take (i+1))=aY (rules.l.take i)++[r.name]:=by unfold aY;rw [List.take_add_one,hv];simp
   rw [this];exact u2
 ·rintro e h' ⟨m,ks,es,ck,hF,hm,qA,hmI,la,hks,qP,hPn,e4,e17,e18,e19⟩ K' hx
  rw [List.drop_of_length_le (Nat.le_refl _),dc] at hm
  rw [List.take_of_length_le (Nat.le_refl _)] at la
  have hgo:=fU hm
  have hk60:ks.length≤60:=by
   have:=Lev.nR hks (m:=aY rules.l) fun x hx=>(la.mem x).1 hx
   have h1:(aY rules.l).length=rules.l.length:=by simp [aY]
   omega
  rw [F.bY.aN]
  simp only [e18,e19,aQ,Nat.reduceAdd,Nat.reduceEqDiff,reduceIte,aT]
  rw [hx,F.bY.aG]
  simp only [e4,aQ,Nat.reduceAdd,Nat.reduceEqDiff,reduceIte,bS,an qP,la.len,aK (i:=ks.length) (n:=61) (by omega) (by unfold cm;omega)]
  refine aE 0 (ks.length+1) (Nat.zero_le _) (fun i e h'=>(∀ b,b<A→h'.get b=h.get b)∧h'.get A=some (.map es ck)∧fC (aY rules.l) h' M ks (Lev.iter (bM rules.l) i)∧h'.get P=some (.cells [aq aL 3 rules,.map A,.map M])∧P<h'.next∧(∀ j,j<i→¬ Lev.de (bM rules.l) (Lev.iter (bM rules.l) j)) ∧
   e 4 = .ptr P 0∧e 82 = .int .i64 ((ks.length+1:Nat):Int)∧e 83 = .int .i64 (i:Int)) ⟨hF,qA,la,qP,hPn,fun j hj=>by omega,e4,rfl,rfl⟩ ?_ ?_
  ·rintro i e h2 _ hi ⟨hF2,qA2,l2,q2,n2,st2,e4,e82,e83⟩ K2 hn2 hx2 hr2 hp2
   rw [F.bY.iS]
   simp only [e4,e82,e83,aQ,Nat.reduceAdd,Nat.reduceEqDiff,reduceIte,bf hi]
   refine ak (G6 (N:=i*1200) q2 l2 n2 (by omega) h60 (fun r hr=>⟨(hgo r hr).2.1,List.mem_map_of_mem hr⟩) (ue h60 (fun r hr=>(hgo r hr).2.1) i) (by omega) fun h3 l3 f3 n3=>?_)
   simp only [aQ,Nat.reduceAdd,Nat.reduceEqDiff,reduceIte,Bool.not_not]
   have qA3:h3.get A=some (.map es ck):=by rw [f3 A (by omega) (by omega)];exact qA2
   have q3:h3.get P=some (.cells [aq aL 3 rules,.map A,.map M]):=by rw [f3 P n2 (by omega)];exact q2
   by_cases hst:Lev.de (bM rules.l) (Lev.iter (bM rules.l) i)
   ·have hst':Lev.de (jz (aY rules.l) rules.l) (Lev.iter (bM rules.l) i):=hst
    simp only [decide_eq_true hst',aC]
    rw [hr2,F.bY.u0]
    simp only [bt,Nat.reduceEqDiff,reduceIte,e4]
    rw [Lev.tI hst'] at l3
    exact hyes h3 P A M ks i ⟨h60,⟨m,hm⟩,i,hst⟩ hst q3 l3 hks (by omega) (by omega) m es ck hm qA3 hmI (by omega) hAM hMP (fun b hb=>by rw [f3 b (by omega) (by omega)];exact hF2 b (by omega))
   ·have hst':¬ Lev.de (jz (aY rules.l) rules.l) (Lev.iter (bM rules.l) i):=hst
    simp only [decide_eq_false hst',aD,e83,aK hi (show ks.length+1≤cm by unfold cm;omega),bindO_some]
    exact hn2 _ _ ⟨fun b hb=>by rw [f3 b (by omega) (by omega)];exact hF2 b hb,qA3,l3,q3,by omega,fun j hj=>by
     by_cases hji:j=i
     ·subst hji;exact hst
     ·exact st2 j (by omega),e4,e82,rfl⟩
  ·rintro e h2 ⟨hF2,_,l2,q2,n2,st2,e4,e82,e83⟩ K2 hx2
   rw [F.bY.iS]
   simp only [e82,e83,aQ,Nat.reduceAdd,Nat.reduceEqDiff,reduceIte,aT]
   rw [hx2,F.bY.gw]
   refine hno (fun hg=>?_) _ (fun b hb=>hF2 b (by omega))
   obtain ⟨k,hk⟩:=hg.lev
   refine st2 ks.length (by omega) (Lev.settle (fun e he=>?_) hk)
   obtain ⟨r,hr,c,hc,_,hin,rfl⟩:=mZ he
   exact ⟨(la.mem _).2 hin,(la.mem _).2 (List.mem_map_of_mem hr)⟩
end
end Go.AM
namespace Go.AM
open Go Go.Proofs
noncomputable section
theorem Jr(D:DB)(nm:bC)(b:Nat)(d d':List Bool):jL (jL D nm b d) nm b d'=jL D nm b d':=by
 funext j;unfold jL
 by_cases e:j=nm
 ·rw [if_pos e,if_pos e]
 ·rw [if_neg e,if_neg e,if_neg e]
theorem oD(D:DB)(nm:bC)(b:Nat)(d:List Bool):jL D nm b d nm=some (b,d):=if_pos rfl
theorem zy{D:DB}{nm j:bC}(h:j≠nm)(b:Nat)(d:List Bool):jL D nm b d j=D j:=if_neg h
theorem ef.add{D:DB}{h:ag}{B lo:Nat}(b:ef D h B lo)(hlo:lo≤h.next)(N:Nat)(nm:bC) :
  ∃ h',eF .string (.map B) (.str nm) (.slice h.next 0 N 1) (h.alloc (.cells ((List.replicate N false).map bv)))=some h'∧ef (jL D nm h.next (List.replicate N false)) h' B lo∧(∀ c,c<h.next→c≠B→h'.get c=h.get c)∧h'.next=h.next+1:=by
 obtain ⟨es,ck,m,e1,e2,e3⟩:=b.ex
 have hB:=b.lt
 have a1:(h.alloc (.cells ((List.replicate N false).map bv))).get B=some (.map es ck):=by rw [ag.aV,if_neg (by omega)];exact e1
 obtain ⟨es',ck',hu,hue⟩:=F6 a1 e2 nm (.slice h.next 0 N 1)
 refine ⟨_,hu,⟨⟨es',ck',_,by rw [ag.aO,if_pos rfl],hue,fun j=>?_⟩,fun j q hq=>?_,fun j j' q q' hq hq' hqq=>?_,by rw [ag.next_set,ag.next_alloc];omega⟩,fun c hc hcB=>by rw [ag.aO,if_neg hcB,ag.aV,if_neg (by omega)],by rw [ag.next_set,ag.next_alloc]⟩
 ·rw [Ld]
  unfold jL
  by_cases e:j=nm
  ·rw [if_pos e,if_pos e,Option.map_some,List.length_replicate]
  ·rw [if_neg e,if_neg e,e3]
 ·unfold jL at hq
  by_cases e:j=nm
  ·rw [if_pos e] at hq;cases hq
   exact ⟨hlo,by rw [ag.next_set,ag.next_alloc];exact Nat.lt_succ_self _,by show h.next≠B;omega,by rw [ag.aO,if_neg (by show h.next≠B;omega)];exact aI _ _⟩
  ·rw [if_neg e] at hq
   obtain ⟨k1,k2,k3,k4⟩:=b.blk j q hq
   exact ⟨k1,by rw [ag.next_set,ag.next_alloc];omega,k3,by rw [ag.aO,if_neg k3,ag.aV,if_neg (by omega)];exact k4⟩
 ·unfold jL at hq hq'
  by_cases e:j=nm
  ·by_cases e':j'=nm
   ·rw [e,e']
   ·rw [if_pos e] at hq;rw [if_neg e'] at hq';cases hq
    have:=(b.blk j' q' hq').2.1
    simp only at hqq;omega
  ·by_cases e':j'=nm
   ·rw [if_neg e] at hq;rw [if_pos e'] at hq';cases hq'
    have:=(b.blk j q hq).2.1
    simp only at hqq;omega
   ·rw [if_neg e] at hq;rw [if_neg e'] at hq';exact b.inj j j' q q' hq hq' hqq
theorem O1{S n:Nat}{R:AV}{h:ag}(hS:h.get S=some (.cells [.int .i64 (n:Int),R]))(h1:1≤n){x:Sl Int}{k:Nat}(hk:x.l.length=k)(hx:k≤12)(hc:n ^ k≤4096)(hb:gQ n x.l=true){K:Out→ag→Bool}
  (hK:K (.ret (.int .i64 ((gY n x.l:Nat):Int))) h=true):Sem Tryz.prog 69 [.ptr S 0,aq encI 1 x] h K:=G7 hS h1 (by omega) (by rw [hk];exact hc) hb hK
theorem NL{n k:Nat}(hk:k≤12)(hc:n ^ k≤4096):K4 n k = .tuple [.int .i64 ((n ^ k:Nat):Int),.int .i64 0]:=by rw [K4,if_neg (by omega),if_neg (by omega)]
set_option maxHeartbeats 1000000 in
theorem Ef{n B S SB P lo:Nat}{s:dw}{D1:DB}(hsok:s.ok)(hsv:di s=true)(hn:s.size=(n:Int))(n1:1≤n)(n64:n≤64){h:ag}{e0:Env}{K:Out→ag→Bool}
  (hS:h.get S=some (.cells [.int .i64 (n:Int),.map B])) (hSB:h.get SB=some (.cells (aA s))) (hD:ef D1 h B lo) (hSne:S≠B) (hSBne:SB≠B) (hSn:S<h.next) (hSBn:SB<h.next) (hlo:lo≤h.next)
  (q3:e0 3 = .ptr SB 0) (q7:e0 7 = .ptr P 0) (q17:e0 17 = .ptr S 0) (q154:e0 154=aq bA 3 s.rels) (q155:e0 155 = .int .i64 (s.rels.l.length:Int)) (q156:e0 156 = .int .i64 0)
  (done:∀ h' D',ef D' h' B lo→(∀ r ∈ s.rels.l,∃ b,h.next≤b∧D' r.name=some (b,bitsOf n r.arity.toNat r.tuples.l))→(∀ nm,(∀ r ∈ s.rels.l,r.name≠nm)→D' nm=D1 nm)→(∀ c,c<h.next→c≠B→h'.get c=h.get c)→h.next≤h'.next→K (.ret (.tuple [.ptr P 0,.ptr S 0,.int .i64 0])) h'=true) :
  bT (au Tryz.prog (ah Tryz.prog) F.az.L5) ⟨e0,198,[],h⟩ (F.az.SJ K)=true:=by
 have hbig:=hsok.1
 have hBn:=hD.lt
 refine aE 0 s.rels.l.length (Nat.zero_le _) (fun i e h'=>∃ D,ef D h' B lo∧(∀ r ∈ s.rels.l.take i,∃ b,h.next≤b∧D r.name=some (b,bitsOf n r.arity.toNat r.tuples.l))∧(∀ nm,(∀ r ∈ s.rels.l.take i,r.name≠nm)→D nm=D1 nm)∧(∀ c,c<h.next→c≠B→h'.get c=h.get c)∧h.next≤h'.next ∧
  e 3 = .ptr SB 0∧e 7 = .ptr P 0∧e 17 = .ptr S 0∧e 154=aq bA 3 s.rels∧e 155 = .int .i64 (s.rels.l.length:Int)∧e 156 = .int .i64 (i:Int))
  ⟨D1,hD,fun r hr=>(by cases hr),fun _ _=>rfl,fun _ _ _=>rfl,Nat.le_refl _,q3,q7,q17,q154,q155,q156⟩ ?_ ?_
 ·rintro i e h' _ hi ⟨D,hDa,hrel,hoth,hfr,hnx,e3,e7,e17,e154,e155,e156⟩ K' hn' hx hr hp
  have hv:s.rels.l[i]?=some s.rels.l[i]:=List.getElem?_eq_getElem hi
  generalize s.rels.l[i]=r at hv
  have hro:r.ok:=hsok.2 r (List.mem_of_getElem? hv)
  have hrb:=rI hsv hv
  rw [show s.size.toNat=n by omega] at hrb
  obtain ⟨k,hk,k12,hkc,hkt⟩:=sC hrb
  have hkn:r.arity.toNat=k:=by omega
  obtain ⟨H,hs1,g1,go,gn⟩:=cL (h:=h') (zs:=[.str [],.int .i64 0,.nils]) (cs:=bA r) (n:=3) rfl rfl (iD r)
  have xH:bR h' H:=⟨by omega,fun b hb=>go b (by omega)⟩
  have pSB:H.get SB=some (.cells (aA s)):=by rw [xH.get _ (by omega),hfr _ hSBn hSBne];exact hSB
  have pS:H.get S=some (.cells [.int .i64 (n:Int),.map B]):=by rw [xH.get _ (by omega),hfr _ hSn hSne];exact hS
  have hDH:=hDa.ext xH
  have lz:ai none (.ptr SB 0) H=some (.int .i64 (n:Int)):=by rw [an pSB,← hn];rfl
  have la:ai none (.ptr h'.next 1) H=some (.int .i64 (k:Int)):=by rw [an g1,← hk];rfl
  have ln:ai none (.ptr h'.next 0) H=some (.str r.name):=by rw [an g1];rfl
  obtain ⟨h2,hu,hD2,hf2,hn2⟩:=hDH.add (by omega) (n ^ k) r.name
  have lt:ai none (.ptr h'.next 2) h2=some (aq eE 1 r.tuples):=by rw [an (show h2.get h'.next=some (.cells (bA r)) by rw [hf2 _ (by omega) (by omega)];exact g1)];rfl
  rw [F.az.Og]
  simp only [e154,e155,e156,e3,e17,aQ,Nat.reduceAdd,Nat.reduceEqDiff,reduceIte,bf hi,aS s.rels hi,cZ fN hv,hs1]
  simp only [aQ,Nat.reduceAdd,Nat.reduceEqDiff,reduceIte,lz,la]
  refine ak (xX n1 n64 (by unfold cm;omega) ?_)
  rw [NL k12 hkc]
  simp only [aQ,Nat.reduceAdd,Nat.reduceEqDiff,reduceIte,bS,an pS,ln,zu (show n ^ k≤1000000 by omega),hu,lt]
  refine aE 0 r.tuples.l.length (Nat.zero_le _) (fun j e h3=>∃ d,bitsOf n k r.tuples.l=iB n (r.tuples.l.drop j) d∧d.length=n ^ k∧ef (jL D r.name H.next d) h3 B lo∧(∀ c,c<H.next→c≠B→h3.get c=H.get c)∧h3.next=h2.next ∧
   e 3 = .ptr SB 0∧e 7 = .ptr P 0∧e 17 = .ptr S 0∧e 154=aq bA 3 s.rels∧e 155 = .int .i64 (s.rels.l.length:Int)∧e 156 = .int .i64 (i:Int)∧e 25 = .ptr h'.next 0∧e 177=aq eE 1 r.tuples∧e 178 = .int .i64 (r.tuples.l.length:Int)∧e 179 = .int .i64 (j:Int))
   ⟨_,rfl,by simp,hD2,hf2,rfl,e3,e7,e17,e154,e155,e156,rfl,rfl,rfl,rfl⟩ ?_ ?_
  ·rintro j e h3 _ hj ⟨d,hd,hdl,hD3,hf3,hn3,e3,e7,e17,e154,e155,e156,e25,e177,e178,e179⟩ K2 hnn hx2 hr2 hp2
   have hvt:r.tuples.l[j]?=some r.tuples.l[j]:=List.getElem?_eq_getElem hj
   generalize r.tuples.l[j]=t at hvt
   obtain ⟨htl,htb⟩:=Hs hkt hvt
   rw [wL hvt] at hd
   have hrk:gY n t.l<d.length:=by have:=lC htb;rw [htl] at this;omega
   have wS:h3.get S=some (.cells [.int .i64 (n:Int),.map B]):=by rw [hf3 _ (by omega) hSne];exact pS
   have wR:h3.get h'.next=some (.cells (bA r)):=by rw [hf3 _ (by omega) (by omega)];exact g1
   have lnm:ai none (.ptr h'.next 0) h3=some (.str r.name):=by rw [an wR];rfl
   have hlk:=hD3.look (oD D r.name H.next d)
   obtain ⟨_,_,_,hrow⟩:=hD3.blk r.name _ (oD D r.name H.next d)
   simp only at hlk hrow
   have hset:=hD3.set (oD D r.name H.next d) (d:=d.set (gY n t.l) true) (by simp)
   rw [Jr] at hset
   simp only at hset
   rw [F.az.Oh]
   simp only [e17,e25,e177,e178,e179,aQ,Nat.reduceAdd,Nat.reduceEqDiff,reduceIte,bf hj,aS r.tuples hj,iT hvt,bS,an wS,lnm,hlk]
   refine ak (O1 wS n1 htl k12 hkc htb ?_)
   simp only [aQ,Nat.reduceAdd,Nat.reduceEqDiff,reduceIte,an wS,lnm,hlk,AV.beq_refl,Bool.and_self,Bool.and_true,if_true,jy hrk,rB hrow hrk,aK hj hro.2.1]
   exact hnn _ _ ⟨_,hd,by simpa using hdl,hset,fun c hc hcB=>by rw [ag.aO,if_neg (by omega)];exact hf3 c hc hcB,by rw [ag.next_set];exact hn3,e3,e7,e17,e154,e155,e156,e25,e177,e178,rfl⟩
  ·rintro e h3 ⟨d,hd,hdl,hD3,hf3,hn3,e3,e7,e17,e154,e155,e156,e25,e177,e178,e179⟩ K2 hx2
   rw [List.drop_of_length_le (Nat.le_refl _)] at hd
   simp only [iB] at hd
   rw [F.az.Oh]
   simp only [e178,e179,aQ,Nat.reduceAdd,Nat.reduceEqDiff,reduceIte,aT]
   rw [hx2,F.az.IZ]
   simp only [aQ,Nat.reduceAdd,Nat.reduceEqDiff,reduceIte,e156,aK hi hbig]
   refine hn' _ _ ⟨jL D r.name H.next d,hD3,fun q hq=>?_,fun nm hnm=>?_,fun c hc hcB=>by rw [hf3 c (by omega) hcB,xH.get c (by omega)];exact hfr c hc hcB,by omega,e3,e7,e17,e154,e155,rfl⟩
   ·rw [List.take_add_one,hv] at hq
    rcases List.mem_append.1 hq with hq'|hq'
    ·by_cases e:q.name=r.name
     ·obtain ⟨a,ha⟩:=List.mem_iff_getElem?.1 hq'
      have ha':s.rels.l[a]?=some q:=by
       rw [List.getElem?_take] at ha
       split at ha
       ·exact ha
       ·cases ha
      have hai:a<i:=by
       rw [List.getElem?_take] at ha
       split at ha
       ·assumption
       ·cases ha
      have:=lD (jY hsv) (i:=a) (j:=i) (s:=q.name) (by rw [List.getElem?_map,ha'];rfl) (by rw [List.getElem?_map,hv,e];rfl)
      omega
     ·obtain ⟨b,b1,b2⟩:=hrel q hq'
      exact ⟨b,b1,by rw [zy e];exact b2⟩
    ·simp only [Option.toList_some,List.mem_singleton] at hq'
     subst hq'
     exact ⟨H.next,by omega,by rw [oD,hkn,hd]⟩
   ·have h1:nm≠r.name:=fun e=>hnm r (by rw [List.take_add_one,hv];simp) e.symm
    rw [zy h1]
    exact hoth nm fun q hq=>hnm q (by rw [List.take_add_one,hv];exact List.mem_append_left _ hq)
 ·rintro e h' ⟨D,hDa,hrel,hoth,hfr,hnx,e3,e7,e17,e154,e155,e156⟩ K' hx
  rw [List.take_of_length_le (Nat.le_refl _)] at hrel hoth
  rw [F.az.Og]
  simp only [e155,e156,aQ,Nat.reduceAdd,Nat.reduceEqDiff,reduceIte,aT]
  rw [hx,F.az.IY]
  simp only [bt,Nat.reduceEqDiff,reduceIte,e7,e17]
  exact done h' D hDa hrel hoth hfr hnx
end
end Go.AM
namespace Go.AM
open Go Go.Proofs
noncomputable section
theorem ef.pH{D:DB}{h:ag}{B lo c:Nat}(b:ef D h B lo)(hc:c<lo)(hcB:c≠B)(x:jG):ef D (h.set c x) B lo:=by
 obtain ⟨es,ck,m,e1,e2,e3⟩:=b.ex
 refine ⟨⟨es,ck,m,by rw [ag.aO,if_neg (Ne.symm hcB)];exact e1,e2,e3⟩,fun nm p hp=>?_,b.inj,by rw [ag.next_set];exact b.lt⟩
 obtain ⟨k1,k2,k3,k4⟩:=b.blk nm p hp
 exact ⟨k1,by rw [ag.next_set];exact k2,k3,by rw [ag.aO,if_neg (by omega)];exact k4⟩
theorem C8:∀ (l:List (bC×Int)) (m m':dF),rL l m=some m'→∀ x k,m'.find x=some k↔((x,k) ∈ l∨m.find x=some k)
 |[],m,m',h,x,k=>by cases h;simp
 |p :: l,m,m',h,x,k=>by
  have fu:=su m p.1 x p.2
  have hs:LF m p=some (m.oZ p.1 p.2)∧∀ j,m.find p.1=some j→j=p.2:=by
   rw [rL] at h
   unfold LF at h ⊢
   cases hf:m.find p.1 with
   |none=>simp
   |some j=>
    rw [hf] at h
    by_cases e:j=p.2
    ·simp [e]
    ·simp [e] at h
  rw [rL,hs.1] at h
  rw [C8 l _ m' h x k,fu]
  by_cases e:x=p.1
  ·rw [if_pos e,List.mem_cons]
   subst e
   constructor
   ·rintro (h1|h1)
    ·exact .inl (.inr h1)
    ·cases h1;exact .inl (.inl rfl)
   ·rintro ((h1|h1)|h1)
    ·exact .inr (by rw [← h1])
    ·exact .inl h1
    ·exact .inr (by rw [hs.2 k h1])
  ·rw [if_neg e,List.mem_cons]
   constructor
   ·rintro (h1|h1)
    ·exact .inl (.inr h1)
    ·exact .inr h1
   ·rintro ((h1|h1)|h1)
    ·exact absurd (congrArg Prod.fst h1) e
    ·exact .inl h1
    ·exact .inr h1
theorem jr{rs:List aB}{m:dF}(h:dc rs []=some m)(x:bC)(k:Int):m.find x=some k↔(x,k) ∈ cB rs:=by
 rw [pN] at h
 split at h
 ·rw [C8 _ _ _ h]
  simp [dF.find]
 ·cases h
theorem jt{rs:List aB}{r:aB}(hr:r ∈ rs):(r.name,(r.args.l.length:Int)) ∈ cB rs:=List.mem_flatMap.2 ⟨r,hr,List.mem_cons_self⟩
theorem lF{nm:bC}{xs:List bC}(h:kS nm xs=true):xs.length≤12:=by
 unfold kS at h
 simp only [Bool.and_eq_true,decide_eq_true_eq] at h
 omega
theorem uo{n:Nat}(n1:1≤n){i j:Nat}(h:i≤j):n ^ i≤n ^ j:=Nat.pow_le_pow_right n1 h
set_option maxHeartbeats 1000000 in
theorem Cg{n SB P S:Nat}{rules:Sl aB}{s:dw}(hn:s.size=(n:Int))(n1:1≤n)(n64:n≤64)(hfew:∀ r ∈ rules.l,r.kH)(h60:rules.l.length≤60)(h12:∀ r ∈ rules.l,(varsOf r).length≤12){h:ag}{e0:Env}{K:Out→ag→Bool}
  (hSB:h.get SB=some (.cells (aA s))) (hSBn:SB<h.next) (q3:e0 3 = .ptr SB 0) (q7:e0 7 = .ptr P 0) (q17:e0 17 = .ptr S 0) (q134:e0 134=aq aL 3 rules) (q135:e0 135 = .int .i64 (rules.l.length:Int)) (q136:e0 136 = .int .i64 0)
  (err:(∃ r ∈ rules.l,65536<n ^ (varsOf r).length)→∀ h',bR h h'→K (.ret (.tuple [.nilp,.nilp,.int .i64 5])) h'=true)
  (done:(∀ r ∈ rules.l,n ^ (varsOf r).length≤65536)→∀ (e:Env) h',bR h h'→e 3 = .ptr SB 0→e 7 = .ptr P 0→e 17 = .ptr S 0→F.az.Of K (.exit 6) ⟨e,198,[],h'⟩=true) :
  bT (au Tryz.prog (ah Tryz.prog) F.az.L3) ⟨e0,198,[],h⟩ (F.az.Of K)=true:=by
 have hbig:rules.l.length≤cm:=by unfold cm;omega
 refine aE 0 rules.l.length (Nat.zero_le _) (fun i e h'=>bR h h'∧(∀ r ∈ rules.l.take i,n ^ (varsOf r).length≤65536)∧e 3 = .ptr SB 0∧e 7 = .ptr P 0∧e 17 = .ptr S 0∧e 134=aq aL 3 rules∧e 135 = .int .i64 (rules.l.length:Int)∧e 136 = .int .i64 (i:Int))
  ⟨bR.refl _,fun r hr=>(by cases hr),q3,q7,q17,q134,q135,q136⟩ ?_ ?_
 ·rintro i e h' _ hi ⟨hx,hok,e3,e7,e17,e134,e135,e136⟩ K' hn' hx' hr hp
  have hv:rules.l[i]?=some rules.l[i]:=List.getElem?_eq_getElem hi
  generalize rules.l[i]=r at hv
  have hrm:=List.mem_of_getElem? hv
  have hr12:=h12 r hrm
  obtain ⟨H,hs1,g1,go,gn⟩:=cL (h:=h') (zs:=[.str [],.nils,.nils]) (cs:=aL r) (n:=3) rfl rfl (ij r)
  have xH:bR h H:=hx.trans ⟨by omega,fun b hb=>go b (by omega)⟩
  have pSB:H.get SB=some (.cells (aA s)):=by rw [xH.get _ hSBn];exact hSB
  have lz:ai none (.ptr SB 0) H=some (.int .i64 (n:Int)):=by rw [an pSB,← hn];rfl
  rw [F.az.Ff]
  simp only [e134,e135,e136,aQ,Nat.reduceAdd,Nat.reduceEqDiff,reduceIte,bf hi,aS rules hi,cZ eN hv,hs1]
  simp only [an g1,aL,lM,bindO_some]
  refine ak (cV (hfew r hrm) fun x hx1=>?_)
  simp only [aQ,Nat.reduceAdd,Nat.reduceEqDiff,reduceIte]
  rw [hx1]
  have hvb:(varsOf r).length≤cm:=by unfold cm;omega
  refine aE 0 (varsOf r).length (Nat.zero_le _) (fun j e h2=>h2=H∧n ^ j≤65536∧e 3 = .ptr SB 0∧e 7 = .ptr P 0∧e 17 = .ptr S 0∧e 134=aq aL 3 rules∧e 135 = .int .i64 (rules.l.length:Int)∧e 136 = .int .i64 (i:Int)∧e 23 = .int .i64 ((n ^ j:Nat):Int)∧e 142 = .int .i64 ((varsOf r).length:Int)∧e 143 = .int .i64 (j:Int))
   ⟨rfl,by simp,e3,e7,e17,e134,e135,e136,rfl,rfl,rfl⟩ ?_ ?_
  ·rintro j e h2 _ hj ⟨rfl,hpj,e3,e7,e17,e134,e135,e136,e23,e142,e143⟩ K2 hnn hx2 hr2 hp2
   have hps:n ^ (j+1)=n ^ j*n:=Nat.pow_succ n j
   have hmul:n ^ j*n≤65536*64:=Nat.mul_le_mul hpj n64
   have hm:((n ^ j:Nat):Int)*(n:Int)=((n ^ (j+1):Nat):Int):=by rw [hps,Int.natCast_mul]
   have hmm:aJ .mul (.int .i64 ((n ^ j:Nat):Int)) (.int .i64 (n:Int))=some (.int .i64 ((n ^ (j+1):Nat):Int)):=by rw [r8 (by rw [hm];omega) (by rw [hm];omega),hm]
   rw [F.az.Fg]
   simp only [e3,e23,e142,e143,aQ,Nat.reduceAdd,Nat.reduceEqDiff,reduceIte,bf hj,lz,hmm]
   by_cases hbg:65536<n ^ (j+1)
   ·simp only [decide_eq_true (by omega:(65536:Int)<((n ^ (j+1):Nat):Int)),aC]
    rw [hr2,F.az.Me,hr,F.az.Md]
    simp only [bt,Nat.reduceEqDiff,reduceIte]
    exact err ⟨r,hrm,by have:=uo n1 (show j+1≤(varsOf r).length by omega);omega⟩ _ xH
   ·simp only [decide_eq_false (by omega:¬ (65536:Int)<((n ^ (j+1):Nat):Int)),aD,e143,aK hj hvb,bindO_some]
    exact hnn _ _ ⟨rfl,by omega,e3,e7,e17,e134,e135,e136,rfl,e142,rfl⟩
  ·rintro e h2 ⟨rfl,hpj,e3,e7,e17,e134,e135,e136,e23,e142,e143⟩ K2 hx2
   rw [F.az.Fg]
   simp only [e142,e143,aQ,Nat.reduceAdd,Nat.reduceEqDiff,reduceIte,aT]
   rw [hx2,F.az.Ay]
   simp only [aQ,Nat.reduceAdd,Nat.reduceEqDiff,reduceIte,e136,aK hi hbig]
   refine hn' _ _ ⟨xH,fun q hq=>?_,e3,e7,e17,e134,e135,rfl⟩
   rw [List.take_add_one,hv] at hq
   rcases List.mem_append.1 hq with hq|hq
   ·exact hok q hq
   ·simp only [Option.toList_some,List.mem_singleton] at hq
    subst hq;exact hpj
 ·rintro e h' ⟨hx,hok,e3,e7,e17,e134,e135,e136⟩ K' hx'
  rw [List.take_of_length_le (Nat.le_refl _)] at hok
  rw [F.az.Ff]
  simp only [e135,e136,aQ,Nat.reduceAdd,Nat.reduceEqDiff,reduceIte,aT]
  rw [hx']
  exact done hok _ h' hx e3 e7 e17
set_option maxHeartbeats 1000000 in
theorem Ch{n B S SB P A M IT:Nat}{rules:Sl aB}{s:dw}{ks:List bC}{lv:Lev.Lv}{m:dF}{esA:List Entry}{ckA:Nat}{hR:AV}(hn:s.size=(n:Int))(n1:1≤n)(n64:n≤64)(h12:∀ r ∈ rules.l,r.args.l.length≤12)(hgo:dc rules.l []=some m){h:ag}{e0:Env}{K:Out→ag→Bool}
  (hS:h.get S=some (.cells [.int .i64 (n:Int),.map B])) (hSB:h.get SB=some (.cells (aA s))) (hP:h.get P=some (.cells [hR,.map A,.map M])) (hA:h.get A=some (.map esA ckA)) (hmA:Hx esA ckA m) (hl:fC (aY rules.l) h M ks lv)
  (hB:ef (fun _=>none) h B (IT+1)) (hIT:∀ es ck,h.get M=some (.map es ck)→h.get IT=some (.miter (some M) ck [] ck)) (hITn:h.next=IT+1) (o1:S<IT) (o2:SB<IT) (o3:P<IT) (o4:A<IT) (o5:M<IT) (o6:B<IT) (b1:S≠B) (b2:SB≠B) (b3:P≠B) (b4:A≠B) (b5:M≠B)
  (q0:e0 0=aq aL 3 rules) (q3:e0 3 = .ptr SB 0) (q7:e0 7 = .ptr P 0) (q17:e0 17 = .ptr S 0) (q108:e0 108 = .ptr IT 0)
  (err:(∃ r ∈ rules.l,4096<n ^ r.args.l.length)→∀ h',(∀ c,c<IT→c≠B→h'.get c=h.get c)→K (.ret (.tuple [.nilp,.nilp,.int .i64 5])) h'=true)
  (done:∀ (e:Env) h' D,(∀ r ∈ rules.l,n ^ r.args.l.length≤4096)→ef D h' B (IT+1)→(∀ r ∈ rules.l,∃ b,D r.name=some (b,List.replicate (n ^ r.args.l.length) false))→(∀ nm p,D nm=some p→nm ∈ aY rules.l)→(∀ c,c<IT→c≠B→h'.get c=h.get c)→IT<h'.next →
   e 0=aq aL 3 rules→e 3 = .ptr SB 0→e 7 = .ptr P 0→e 17 = .ptr S 0→F.az.sq K (.exit 4) ⟨e,198,[],h'⟩=true) :
  bT (au Tryz.prog (ah Tryz.prog) F.az.L2) ⟨e0,198,[],h⟩ (F.az.sq K)=true:=by
 obtain ⟨es,ck,ml,z1,z2,z3,z4,z5⟩:=hl.ex
 have w0:=hIT es ck z1
 have hfind:∀ r ∈ rules.l,m.find r.name=some (r.args.l.length:Int):=fun r hr=>(jr hgo _ _).2 (jt hr)
 refine wM es (fun seen e hh=>∃ D,ef D hh B (IT+1)∧(∀ en ∈ es,en.2.2 ∈ seen→∀ r ∈ rules.l,en.1 = .str r.name→n ^ r.args.l.length≤4096∧∃ b,D r.name=some (b,List.replicate (n ^ r.args.l.length) false))∧(∀ nm p,D nm=some p→nm ∈ aY rules.l) ∧
   hh.get IT=some (.miter (some M) ck seen ck)∧(∀ c,c<IT→c≠B→hh.get c=h.get c)∧IT<hh.next∧e 0=aq aL 3 rules∧e 3 = .ptr SB 0∧e 7 = .ptr P 0∧e 17 = .ptr S 0∧e 108 = .ptr IT 0)
  ⟨_,hB,fun en _ hen=>(by cases hen),fun nm p hp=>(by cases hp),w0,fun _ _ _=>rfl,by omega,q0,q3,q7,q17,q108⟩ ?_
 rintro seen e hh ⟨D,hD,hseen,honly,w3,wf,wn,e0',e3,e7,e17,e108⟩ K' hnx' hex hret hpan
 have hM:hh.get M=some (.map es ck):=by rw [wf M o5 b5];exact z1
 rw [F.az.iS]
 simp only [e108]
 refine Bh w3 hM z3 (by omega) (fun hall=>?_) (fun en hen hns hent=>?_)
 ·simp only [DK,aQ,Nat.reduceAdd,Nat.reduceEqDiff,reduceIte]
  rw [hex]
  have hev:∀ r ∈ rules.l,∃ en ∈ es,en.1 = .str r.name:=fun r hr=>by
   have h1:ml.find r.name=some (lv r.name:Int):=by rw [z5,if_pos (show r.name ∈ aY rules.l from List.mem_map_of_mem hr)]
   obtain ⟨en,hen,h2,_⟩:=z2.mem' _ (ou h1)
   exact ⟨en,hen,h2⟩
  refine done _ hh D (fun r hr=>?_) hD (fun r hr=>?_) honly wf wn e0' e3 e7 e17
  ·obtain ⟨en,hen,h2⟩:=hev r hr
   exact (hseen en hen (hall en hen) r hr h2).1
  ·obtain ⟨en,hen,h2⟩:=hev r hr
   exact (hseen en hen (hall en hen) r hr h2).2
 obtain ⟨p,hpm,hn1,hn2⟩:=z2.mem en hen
 have hph:p.1 ∈ aY rules.l:=(hl.mem p.1).1 (by rw [← z4];exact List.mem_map_of_mem hpm)
 obtain ⟨r,hrm,hrn⟩:=List.mem_map.1 hph
 have vf:∀ c,c<IT→c≠B→(hh.set IT (.miter (some M) ck (seen++[en.2.2]) ck)).get c=h.get c:=fun c hc hcB=>by rw [ag.aO,if_neg (by omega)];exact wf c hc hcB
 have v3:(hh.set IT (.miter (some M) ck (seen++[en.2.2]) ck)).get IT=some (.miter (some M) ck (seen++[en.2.2]) ck):=by rw [ag.aO,if_pos rfl]
 have vn:(hh.set IT (.miter (some M) ck (seen++[en.2.2]) ck)).next=hh.next:=ag.next_set _ _ _
 have vD:=hD.pH (c:=IT) (by omega) (by omega) (.miter (some M) ck (seen++[en.2.2]) ck)
 simp only [DK,mE,se,bindO_some,condB_bool,aC,hent,e3,e7,e17,e108]
 clear hent
 generalize (hh.set IT (.miter (some M) ck (seen++[en.2.2]) ck))=H at vf v3 vn vD ⊢
 have pSB:H.get SB=some (.cells (aA s)):=by rw [vf _ o2 b2];exact hSB
 have pS:H.get S=some (.cells [.int .i64 (n:Int),.map B]):=by rw [vf _ o1 b1];exact hS
 have pP:H.get P=some (.cells [hR,.map A,.map M]):=by rw [vf _ o3 b3];exact hP
 have pA:H.get A=some (.map esA ckA):=by rw [vf _ o4 b4];exact hA
 have lz:ai none (.ptr SB 0) H=some (.int .i64 (n:Int)):=by rw [an pSB,← hn];rfl
 have hlk:ei .string (.int .i64 0) false (.map A) (.str r.name) H=some (.int .i64 (r.args.l.length:Int)):=by rw [xN pA hmA.1,hfind r hrm];rfl
 have hk12:=h12 r hrm
 simp only [aQ,Nat.reduceAdd,Nat.reduceEqDiff,reduceIte,hn1,← hrn,lz,bS,an pP,hlk]
 refine ak (xX n1 n64 (by unfold cm;omega) ?_)
 unfold K4
 rw [if_neg (by omega)]
 by_cases hpow:4096<n ^ r.args.l.length
 ·rw [if_pos hpow]
  simp only [aQ,Nat.reduceAdd,Nat.reduceEqDiff,reduceIte,ct]
  simp only [show (!decide ((5:Int)=0))=true from rfl,aC]
  rw [hret,F.az.u0]
  simp only [bt,Nat.reduceEqDiff,reduceIte]
  exact err ⟨r,hrm,hpow⟩ _ vf
 ·rw [if_neg hpow]
  obtain ⟨h2,hu,hD2,hf2,hn2'⟩:=vD.add (by omega) (n ^ r.args.l.length) r.name
  simp only [aQ,Nat.reduceAdd,Nat.reduceEqDiff,reduceIte,ct]
  simp only [show (!decide ((0:Int)=0))=false from rfl,aD,bS,aQ,Nat.reduceAdd,Nat.reduceEqDiff,reduceIte,an pS,zu (show n ^ r.args.l.length≤1000000 by omega),hu]
  refine hnx' en hen hns _ _ ⟨jL D r.name H.next _,hD2,fun en' hen' hse q hq hqn=>?_,fun nm p' hp'=>?_,by rw [hf2 _ (by omega) (by omega)];exact v3,fun c hc hcB=>by rw [hf2 c (by omega) hcB];exact vf c hc hcB,by omega,e0',e3,e7,e17,e108⟩
  ·by_cases e:q.name=r.name
   ·have h1:=hfind q hq
    rw [e,hfind r hrm] at h1
    have h2:r.args.l.length=q.args.l.length:=by have:=Option.some.inj h1;omega
    exact ⟨by rw [← h2];omega,H.next,by rw [e,oD,h2]⟩
   ·rcases List.mem_append.1 hse with hse|hse
    ·obtain ⟨a1,b,a2⟩:=hseen en' hen' hse q hq hqn
     exact ⟨a1,b,by rw [zy e];exact a2⟩
    ·rw [List.mem_singleton] at hse
     have hee:en'=en:=by
      have hb:=z3.nodup
      obtain ⟨i,hi⟩:=List.mem_iff_getElem?.1 hen
      obtain ⟨j,hj⟩:=List.mem_iff_getElem?.1 hen'
      have hi':(es.map (·.2.2))[i]?=some en.2.2:=by rw [List.getElem?_map,hi];rfl
      have hj':(es.map (·.2.2))[j]?=some en.2.2:=by rw [List.getElem?_map,hj,← hse];rfl
      have hij:=lD hb hi' hj'
      subst hij
      rw [hi] at hj;exact (Option.some.inj hj).symm
     rw [hee,hn1] at hqn
     injection hqn with h3
     exact absurd (h3.symm.trans hrn.symm) e
  ·by_cases e:nm=r.name
   ·rw [e];exact List.mem_map_of_mem hrm
   ·rw [zy e] at hp'
    exact honly nm p' hp'
end
end Go.AM