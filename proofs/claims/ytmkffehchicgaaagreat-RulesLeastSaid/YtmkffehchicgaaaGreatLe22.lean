/- Parts of a proof, merged out of smaller texts: the abstract machine and what functions do. Conditions: none. -/
import Derived.Test.YtmkffehchicgaaaGreatLe15
import Derived.Test.YtmkffehchicgaaaGreatLe21
set_option linter.unusedSimpArgs false
set_option linter.unusedVariables false
namespace Go.AM
open Go Go.Proofs
noncomputable section
structure Jz (S n:Nat) (D0:DB) (ps:List uD) (ng:FuncId) (na nb:List AV):Prop where
 n1:1≤n
 n64:n≤64
 plans:∀ p ∈ ps,p.ok
 rows:∀ nm p,D0 nm=some p→p.1≠S
 ask:∀ p ∈ ps,∀ D,eu D D0→BT n D p.r
 head:∀ p ∈ ps,n ^ p.r.args.l.length≤4096∧p.r.args.l.length≤12∧∃ q,D0 p.r.name=some q∧q.2.length=n ^ p.r.args.l.length
 note:∀ (i:Int) (r:aK) (k:Int) (hd:Sl Int) (cs:Sl (Sl Int)) (ls:Sl Int) (y:AV) (h:ag) (K:Out→ag→Bool),(∀ h',bT h h'→K (.ret (.tuple [])) h'=true)→Sem Tryz.prog ng (na++([.agg (bV i r k (an encI 1 hd) (an er 1 cs) (an encI 1 ls)),y]++nb)) h K
set_option maxHeartbeats 2000000 in
theorem Ew{S B n lo k0:Nat}{D0:DB}{ps:List uD}{a1:AV}{ng:FuncId}{na nb:List AV}(o:Jz S n D0 ps ng na nb){h:ag}{K:Out→ag→Bool}(hS:h.get S=some (.cells [.int .i64 (n:Int),.map B]))(hSn:S<h.next)(hD:ei D0 h B lo)
  (hps:Own qy 8 k0 h a1 ps) (hpb:∀ b,dV a1=some b→∀ nm p,D0 nm=some p→b≠p.1) (hpl:ps.length≤60)
  (hK:∀ h' D',Reach n (ps.map (·.r)) D0 D'→jY n (ps.map (·.r)) (D',false)=(D',false)→eu D' D0→ei D' h' B lo→(∀ b,b<h.next→(∀ nm p,D0 nm=some p→b≠p.1)→h'.get b=h.get b)→h.next≤h'.next→K (.ret (.tuple [])) h'=true) :
  Sem Tryz.prog 110 [.ptr S 0,a1,.func ng na nb] h K:=by
 have hbig:ps.length≤cz:=by unfold cz;omega
 have hrn:∀ nm p,D0 nm=some p→p.1<h.next:=fun nm p hp=>(hD.blk nm p hp).2.1
 have hBn:=hD.lt
 have hBr:∀ nm p,D0 nm=some p→B≠p.1:=fun nm p hp=>Ne.symm (hD.blk nm p hp).2.2.1
 refine F.pq ?_
 simp only [ou (x:=.ptr S 0) rfl,ou (x:=.func ng na nb) rfl,bindO_some,ag.next_alloc]
 have g3:((h.alloc (.cells [.ptr S 0])).alloc (.cells [.func ng na nb])).get h.next=some (.cells [.ptr S 0]):=by
  rw [ag.aW,ag.next_alloc,if_neg (by omega)];exact aC _ _
 have g5:((h.alloc (.cells [.ptr S 0])).alloc (.cells [.func ng na nb])).get (h.next+1)=some (.cells [.func ng na nb]):=aC _ _
 have gx:bT h ((h.alloc (.cells [.ptr S 0])).alloc (.cells [.func ng na nb])):=(bT.alloc _ _).trans (bT.alloc _ _)
 have gn:((h.alloc (.cells [.ptr S 0])).alloc (.cells [.func ng na nb])).next=h.next+1+1:=rfl
 generalize ((h.alloc (.cells [.ptr S 0])).alloc (.cells [.func ng na nb]))=H2 at g3 g5 gx gn ⊢
 obtain ⟨H3,s6,a6,o6,n6⟩:=kC (h:=H2) (z:=.bool false) (v:=.bool true) rfl rfl
 rw [gn] at s6 a6
 simp only [s6,bindO_some]
 have x3:bT h H3:=gx.trans ⟨by omega,fun b hb=>o6 b (by omega)⟩
 refine wP (fun m e h'=>∃ (D:DB) (more:Bool) (P6:Nat),e 1=a1∧e 3 = .ptr h.next 0∧e 5 = .ptr (h.next+1) 0∧e 6 = .ptr P6 0∧h'.get P6=some (.cells [.bool more])∧h.next+1<P6∧P6<h'.next∧h'.get h.next=some (.cells [.ptr S 0])∧h'.get (h.next+1)=some (.cells [.func ng na nb]) ∧
  Reach n (ps.map (·.r)) D0 D∧eu D D0∧ei D h' B lo∧(∀ b,b<h.next→(∀ nm p,D0 nm=some p→b≠p.1)→h'.get b=h.get b)∧h.next≤h'.next ∧
  ((more=true∧m=Ab (ps.map (·.r.name)) D+1)∨(more=false∧m=0∧jY n (ps.map (·.r)) (D,false)=(D,false)))) _
  ⟨D0,true,h.next+1+1,rfl,rfl,rfl,rfl,a6,by omega,by omega,by rw [o6 _ (by omega)];exact g3,by rw [o6 _ (by omega)];exact g5,.refl,fun _=>rfl,hD.ext x3,fun b hb _=>x3.get b hb,x3.next,.inl ⟨rfl,rfl⟩⟩ ?_
 rintro m e h' ⟨D,more,P6,e1,e3,e5,e6,q6,q6l,q6n,q3,q5,hre,hdim,hbit,hfr,hnx,hch⟩ K0 hN0 hx0 hr0
 rw [F.bP.aN]
 simp only [e6,aV,Nat.reduceAdd,Nat.reduceEqDiff,reduceIte,au q6]
 rcases hch with ⟨hm1,hm⟩|⟨hm1,hm,hpass⟩
 ·subst hm1
  have st:bg 1 (.ptr P6 0) (.bool false) h'=some (h'.set P6 (.cells [.bool false])):=by rw [cZ (n:=1) q6 rfl rfl (by simp)];rfl
  have hlena:∀ h,bx .slice a1 h=some (.int .i64 (ps.length:Int)):=fun h=>hps.len
  simp only [aI,st,aV,Nat.reduceAdd,Nat.reduceEqDiff,reduceIte,e1,hlena]
  have f0:∀ b,b≠P6→(h'.set P6 (.cells [.bool false])).get b=h'.get b:=fun b hb=>by rw [ag.aO,if_neg hb]
  have f6:(h'.set P6 (.cells [.bool false])).get P6=some (.cells [.bool false]):=by rw [ag.aO,if_pos rfl]
  have fn:(h'.set P6 (.cells [.bool false])).next=h'.next:=ag.next_set _ _ _
  have fD:ei D (h'.set P6 (.cells [.bool false])) B lo:=by
   obtain ⟨es,ck,mm,z1,z2,z3⟩:=hbit.ex
   refine ⟨⟨es,ck,mm,by rw [f0 _ (by omega)];exact z1,z2,z3⟩,fun nm p hp=>?_,hbit.inj,by rw [fn];exact hbit.lt⟩
   obtain ⟨c1,c2,c3,c4⟩:=hbit.blk nm p hp
   obtain ⟨p0,d1,d2,_⟩:=hdim.back hp
   have:=hrn nm p0 d1
   exact ⟨c1,by rw [fn];exact c2,c3,by rw [f0 _ (by omega)];exact c4⟩
  refine aB 0 ps.length (Nat.zero_le _) (fun i e h2=>∃ s:DB×Bool,s=jY n ((ps.map (·.r)).take i) (D,false)∧Eu (ps.map (·.r.name)) D0 D s∧ei s.1 h2 B lo∧h2.get P6=some (.cells [.bool s.2])∧h2.get h.next=some (.cells [.ptr S 0])∧h2.get (h.next+1)=some (.cells [.func ng na nb]) ∧
   (∀ b,b<h.next→(∀ nm p,D0 nm=some p→b≠p.1)→h2.get b=h.get b)∧h'.next≤h2.next∧e 1=a1∧e 3 = .ptr h.next 0∧e 5 = .ptr (h.next+1) 0∧e 6 = .ptr P6 0∧e 10=a1∧e 11 = .int .i64 (ps.length:Int)∧e 12 = .int .i64 (i:Int))
   ⟨(D,false),rfl,⟨hdim,Nat.le_refl _,fun h=>(by cases h),fun _=>rfl⟩,fD,f6,by rw [f0 _ (by omega)];exact q3,by rw [f0 _ (by omega)];exact q5,fun b hb hb2=>by rw [f0 _ (by omega)];exact hfr b hb hb2,by omega,e1,e3,e5,e6,rfl,rfl,rfl⟩ ?_ ?_
  ·rintro i e h2 _ hi ⟨s,hs,hq,w1,w6,w3,w5,wf,wn,e1,e3,e5,e6,e10,e11,e12⟩ K1 hn1 hx1 hr1 hp1
   have hv:ps[i]?=some ps[i]:=List.getElem?_eq_getElem hi
   generalize ps[i]=p at hv
   have hpm:=List.mem_of_getElem? hv
   have pok:=o.plans p hpm
   have hps2:Own qy 8 k0 h2 a1 ps:=by
    cases hps with
    |nil=>exact .nil
    |row b l z1 z2 z3=>exact .row b _ z1 (by omega) (by rw [wf b z2 (hpb b rfl)];exact z3)
   obtain ⟨b,_,_,i1,i2,_⟩:=hps2.get BU hv
   obtain ⟨H,hst,hL,ho,hn⟩:=cO (h:=h2) (zs:=[.int .i64 0,.str [],.nils,.nils,.int .i64 0,.nils,.nils,.nils]) (cs:=qy p) (n:=8) rfl rfl (BV p)
   have xH:bT h2 H:=⟨by omega,fun b hb=>ho b (by omega)⟩
   have hL':=hL
   simp only [qy,bV] at hL'
   have hSH:H.get S=some (.cells [.int .i64 (n:Int),.map B]):=by rw [xH.get S (by omega),wf S hSn (fun nm p hp=>Ne.symm (o.rows nm p hp))];exact hS
   rw [F.bP.cP]
   simp only [e10,e11,e12,aV,Nat.reduceAdd,Nat.reduceEqDiff,reduceIte,aY hi,i1,i2,hst,e3]
   simp only [au (show H.get h.next=some (.cells [.ptr S 0]) by rw [xH.get _ (by omega)];exact w3),au hL',GQ,aV,Nat.reduceAdd,Nat.reduceEqDiff,reduceIte,e5,e6]
   have so:GR S B n lo H.next h.next (h.next+1) P6 h2.next D0 p.r (varsOf p.r).length p.hd ng na nb:=
    ⟨o.n1,o.n64,⟨by omega,by omega,by omega,by omega,by omega,by omega⟩,fun nm q hq=>by have:=hrn nm q hq;exact ⟨by omega,o.rows nm q hq,by omega,by omega,by omega,by omega⟩,⟨by omega,by omega,by omega,by omega,by omega⟩,o.ask p hpm,o.head p hpm,rfl,pok.hd,o.note⟩
   have sa:mH S B n lo H.next h.next (h.next+1) P6 h2.next D0 p.r p.i (varsOf p.r).length p.hd p.cs p.ls ng na nb H s H:=
    ⟨hSH,w1.ext xH,hq.H7,by rw [xH.get _ (by omega)];exact w3,by rw [xH.get _ (by omega)];exact w5,by rw [xH.get _ (by omega)];exact w6,hL,Nat.le_refl _,fun _ _ _ _=>rfl⟩
   refine ak (FO (FP so) pok.kX rfl pok.k12 pok.cs pok.ls sa (Nat.le_refl _) fun h5 b5 f5 n5=>?_)
   simp only [aV,Nat.reduceAdd,Nat.reduceEqDiff,reduceIte,e12,aE hi hbig]
   have hvr:(ps.map (·.r))[i]?=some p.r:=by rw [List.getElem?_map,hv];rfl
   refine hn1 _ _ ⟨jk n p.r s,by rw [FQ hvr,← hs],Ev o.n1 (List.mem_map_of_mem (f:=fun q:uD=>q.r.name) hpm) (o.head p hpm).2.2 hq,b5.hD,b5.h6,b5.h3,b5.h5,fun b b1 b2=>?_,by omega,e1,e3,e5,e6,e10,e11,rfl⟩
   rw [b5.old b (by omega) (by omega) b2,xH.get b (by omega),wf b b1 b2]
  ·rintro e h2 ⟨s,hs,hq,w1,w6,w3,w5,wf,wn,e1,e3,e5,e6,e10,e11,e12⟩ K1 hx1
   rw [List.take_of_length_le (by simp)] at hs
   obtain ⟨H,hst,hL,ho,hn⟩:=kC (h:=h2) (z:=.bool false) (v:=.bool s.2) rfl rfl
   have xH:bT h2 H:=⟨by omega,fun b hb=>ho b (by omega)⟩
   rw [F.bP.cP]
   simp only [e11,e12,aV,Nat.reduceAdd,Nat.reduceEqDiff,reduceIte,aR]
   rw [hx1,F.bP.b8]
   simp only [e6,aV,Nat.reduceAdd,Nat.reduceEqDiff,reduceIte,au w6,hst]
   have hre':Reach n (ps.map (·.r)) D0 s.1:=by rw [hs];exact .step D hre
   have com:∀ (m':Nat) (e':Env),e' 1=a1→e' 3 = .ptr h.next 0→e' 5 = .ptr (h.next+1) 0→e' 6 = .ptr h2.next 0→m'<m→((s.2=true∧m'=Ab (ps.map (·.r.name)) s.1+1)∨(s.2=false∧m'=0∧jY n (ps.map (·.r)) (s.1,false)=(s.1,false)))→K0 .normal ⟨e',22,[],H⟩=true:=fun m' e' e1 e3 e5 e6 hm' hc=>
    hN0 m' _ _ hm' ⟨s.1,s.2,h2.next,e1,e3,e5,e6,hL,by omega,by omega,by rw [xH.get _ (by omega)];exact w3,by rw [xH.get _ (by omega)];exact w5,hre',hq.H7,w1.ext xH,fun b b1 b2=>by rw [xH.get b (by omega)];exact wf b b1 b2,by omega,hc⟩
   cases hs2:s.2 with
   |true=>
    have:=hq.lt hs2
    exact com (Ab (ps.map (·.r.name)) s.1+1) _ e1 e3 e5 rfl (by omega) (.inl ⟨hs2,rfl⟩)
   |false=>
    have h1:=hq.same hs2
    exact com 0 _ e1 e3 e5 rfl (by omega) (.inr ⟨hs2,rfl,by rw [h1,← hs,← h1,← hs2]⟩)
 ·subst hm1
  simp only [aG]
  rw [hx0,F.bP.aD]
  exact hK h' D hre hpass hdim hbit hfr hnx
end
end Go.AM
namespace Go.AM
open Go Go.Proofs
noncomputable section
def Rel.ok(r:Rel):Prop:=r.name.length≤cz∧r.tuples.l.length≤cz∧∀ t ∈ r.tuples.l,t.l.length≤cz
def dJ.ok(s:dJ):Prop:=s.rels.l.length≤cz∧∀ r ∈ s.rels.l,r.ok
theorem Ey{es:List Entry}(hn:(es.map (·.2.2)).Nodup){e:Entry}(he:e ∈ es):jI e.2.2 es=some e:=by
 induction es with
 |nil=>cases he
 |cons a es ih=>
  rw [List.map_cons,List.nodup_cons] at hn
  rw [jI]
  by_cases h:a.2.2=e.2.2
  ·rw [if_pos h]
   rw [List.mem_cons] at he
   rcases he with rfl|he
   ·rfl
   ·exact absurd (by rw [h];exact List.mem_map_of_mem he) hn.1
  ·rw [if_neg h]
   rw [List.mem_cons] at he
   rcases he with rfl|he
   ·exact absurd rfl h
   ·exact ih hn.2 he
theorem Ad{defs:List lG}{K:R→Bool}:∀ {ps:List (AV×ag)},(∀ p ∈ ps,K (.ok p.1 defs p.2)=true)→jP defs K ps=true
 |[],_=>rfl
 |p :: ps,h=>by
  rw [jP,h p List.mem_cons_self,Bool.true_and]
  exact Ad fun q hq=>h q (List.mem_cons_of_mem _ hq)
theorem Ae{r m:Nat}{es:List Entry}{ck:Nat}{seen:List Nat}{h:ag}{defs:List lG}{K:R→Bool}(hr:h.get r=some (.miter (some m) ck seen ck))(hm:h.get m=some (.map es ck))(hB:iU es ck)(hrm:r≠m)
  (hdone:(∀ e ∈ es,e.2.2 ∈ seen)→K (.ok (.tuple [.bool false]) defs h)=true)
  (hstep:∀ e ∈ es,e.2.2 ∉ seen→pK (.ptr r 0) (h.set r (.miter (some m) ck (seen++[e.2.2]) ck))=some (.tuple [e.1,e.2.1])→K (.ok (.tuple [.bool true,e.1,e.2.1]) defs (h.set r (.miter (some m) ck (seen++[e.2.2]) ck)))=true) :
  af (tE false (.ptr r 0) h) (jP defs K)=true:=by
 have hc:∀ o ∈ pJ es ck seen,(o=none∧∀ e ∈ es,e.2.2 ∈ seen)∨∃ e,o=some e∧e ∈ es∧e.2.2 ∉ seen:=by
  intro o ho
  unfold pJ at ho
  simp only [List.mem_append,List.mem_map] at ho
  rcases ho with ho|⟨e,he,rfl⟩
  ·split at ho
   ·rename_i hem
    simp only [List.mem_singleton] at ho
    refine .inl ⟨ho,fun e he=>?_⟩
    rw [List.isEmpty_iff,List.filter_eq_nil_iff] at hem
    have hlt:=hB.lt e he
    by_cases hs:e.2.2 ∈ seen
    ·exact hs
    ·exact absurd (decide_eq_true hlt) (hem e (by rw [List.mem_filter];exact ⟨he,by simpa using hs⟩))
   ·cases ho
  ·refine .inr ⟨e,rfl,?_⟩
   have:e ∈ es.filter fun e=>!seen.contains e.2.2:=by
    rcases he with he|he
    ·exact (List.mem_filter.1 he).1
    ·exact (List.mem_filter.1 he).1
   rw [List.mem_filter] at this
   exact ⟨this.1,by simpa using this.2⟩
 have hne:pJ es ck seen≠[]:=by
  unfold pJ
  intro he
  simp only [List.append_eq_nil_iff,List.map_eq_nil_iff] at he
  obtain ⟨h1,h2,_⟩:=he
  rw [h2] at h1
  simp at h1
 have hbad:(!seen.isEmpty&&!es.isEmpty&&es.all (fun e=>decide (e.2.2≥ck)))=false:=by
  cases es with
  |nil=>simp
  |cons e es=>
   have:=hB.lt e List.mem_cons_self
   rw [List.all_cons,decide_eq_false (by omega),Bool.false_and,Bool.and_false]
 unfold tE
 simp only [hr,hm,hbad,Bool.false_eq_true,if_false]
 cases hcs:pJ es ck seen with
 |nil=>exact absurd hcs hne
 |cons c cs=>
  rw [hcs] at hc
  simp only [bindO_some]
  refine Ad fun p hp=>?_
  rw [List.mem_map] at hp
  obtain ⟨o,ho,rfl⟩:=hp
  rcases hc o ho with ⟨rfl,hall⟩|⟨e,rfl,he,hs⟩
  ·exact hdone hall
  ·refine hstep e he hs ?_
   unfold pK
   simp only [ag.aO,if_true,if_neg (Ne.symm hrm),hm,List.getLast?_concat,Ey hB.nodup he]
theorem jd.mem':∀ {es:List Entry} {m:dN},jd es m→∀ p ∈ m,∃ e ∈ es,e.1 = .str p.1∧e.2.1 = .int .i64 p.2
 |_,[],_,p,hp=>by cases hp
 |[],q :: m,h,_,_=>h.elim
 |e0 :: es,q :: m,⟨h1,h2,h3⟩,p,hp=>by
  rcases List.mem_cons.1 hp with rfl|hp
  ·exact ⟨e0,List.mem_cons_self,h1,h2⟩
  ·obtain ⟨e,he,r⟩:=jd.mem' h3 p hp
   exact ⟨e,List.mem_cons_of_mem _ he,r⟩
def Af(es:List Entry)(seen:List Nat):Nat:=(es.filter fun e=>!seen.contains e.2.2).length
theorem JA{es:List Entry}{seen:List Nat}{e:Entry}(he:e ∈ es)(hs:e.2.2 ∉ seen):Af es (seen++[e.2.2])<Af es seen:=by
 have h1:(es.filter fun a=>!(seen++[e.2.2]).contains a.2.2)=(es.filter fun a=>!seen.contains a.2.2).filter fun a=>!(a.2.2==e.2.2):=by
  rw [List.filter_filter]
  refine List.filter_congr fun a _=>?_
  rw [Bool.eq_iff_iff]
  simp
  exact And.comm
 unfold Af
 rw [h1]
 refine List.length_filter_lt_length_iff_exists.2 ⟨e,List.mem_filter.2 ⟨he,by simpa using hs⟩,by simp⟩
theorem vL{f:St→(AX→St→Bool)→Bool}{K:AX→St→Bool}{n:Nat}{defs:List lG}{e0:Env}{h0:ag}(es:List Entry)(J:List Nat→Env→ag→Prop)(hJ:J [] e0 h0)
  (step:∀ seen e h,J seen e h→∀ K':AX→St→Bool,(∀ en ∈ es,en.2.2 ∉ seen→∀ e' h',J (seen++[en.2.2]) e' h'→K' .normal ⟨e',n,defs,h'⟩=true)→(∀ id s,K' (.exit id) s=K (.exit id) s)→(∀ s,K' .ret s=K .ret s)→(∀ v s,K' (.panic v) s=K (.panic v) s)→f ⟨e,n,defs,h⟩ K'=true) :
  aT f ⟨e0,n,defs,h0⟩ K=true:=by
 refine iR (fun m e h=>∃ seen,m=Af es seen∧J seen e h) (Af es []) ⟨[],rfl,hJ⟩ fun m e h hi=>?_
 obtain ⟨seen,rfl,hj⟩:=hi
 exact step seen e h hj _ (fun en hen hs e' h' hj'=>nY (I:=fun m e h=>∃ seen,m=Af es seen∧J seen e h) (Af es (seen++[en.2.2])) (JA hen hs) ⟨_,rfl,hj'⟩) (fun _ _=>rfl) (fun _=>rfl) (fun _ _=>rfl)
end
end Go.AM
namespace Go.AM
open Go Go.Proofs
noncomputable section
theorem eu.trans{A B C:DB}(h1:eu A B)(h2:eu B C):eu A C:=fun nm=>(h1 nm).trans (h2 nm)
def hG(lv:Lev.Lv)(rs:List aK)(l:Nat):List aK:=rs.filter fun r=>decide (lv r.name=l)
inductive BW (n:Nat) (rs:List aK) (lv:Lev.Lv) (D0:DB):Nat→DB→Prop
 |zero:BW n rs lv D0 0 D0
 |succ (l:Nat) (D D':DB):BW n rs lv D0 l D→Reach n (hG lv rs l) D D'→jY n (hG lv rs l) (D',false)=(D',false)→BW n rs lv D0 (l+1) D'
theorem C5{lv:Lev.Lv}{rs:List aK}{l i:Nat}{r:aK}(hr:rs[i]?=some r):hG lv (rs.take (i+1)) l=hG lv (rs.take i) l++if lv r.name=l then [r] else []:=by
 unfold hG;rw [List.take_add_one,hr,Option.toList_some,List.filter_append]
 by_cases h:lv r.name=l<;>simp [h]
theorem Ng(p:uD):eF [.int .i64 0,.str [],.nils,.nils,.int .i64 0,.nils,.nils,.nils] [(0,8)] [.agg (qy p)]=some (qy p):=by
 obtain ⟨i,r,hd,cs,ls⟩:=p
 obtain ⟨nm,xs,ys⟩:=r
 cases hd<;>cases cs<;>cases ls<;>cases xs<;>cases ys<;>rfl
structure JB (S n:Nat) (D0:DB) (rs:List aK) (ng:FuncId) (na nb:List AV):Prop where
 n1:1≤n
 n64:n≤64
 kX:∀ r ∈ rs,r.kX
 k12:∀ r ∈ rs,(varsOf r).length≤12
 rows:∀ nm p,D0 nm=some p→p.1≠S
 ask:∀ r ∈ rs,∀ D,eu D D0→BT n D r
 head:∀ r ∈ rs,n ^ r.args.l.length≤4096∧r.args.l.length≤12∧∃ q,D0 r.name=some q∧q.2.length=n ^ r.args.l.length
 note:∀ (i:Int) (r:aK) (k:Int) (hd:Sl Int) (cs:Sl (Sl Int)) (ls:Sl Int) (y:AV) (h:ag) (K:Out→ag→Bool),(∀ h',bT h h'→K (.ret (.tuple [])) h'=true)→Sem Tryz.prog ng (na++([.agg (bV i r k (an encI 1 hd) (an er 1 cs) (an encI 1 ls)),y]++nb)) h K
 few60:rs.length≤60
theorem Ez{P M A S n:Nat}{D0:DB}{rules:Sl aK}{hs ks:List bI}{lv:Lev.Lv}{ng:FuncId}{na nb:List AV}(o:JB S n D0 rules.l ng na nb){l:Nat}{h:ag}{e0:Env}{K:AX→St→Bool}
  (hP:h.get P=some (.cells [an aM 3 rules,.map A,.map M])) (hPn:P<h.next) (hl:eU hs h M ks lv) (hMn:M<h.next) (hin:∀ r ∈ rules.l,r.name ∈ hs)
  (q0:e0 0 = .ptr P 0) (q1:e0 1 = .ptr S 0) (q2:e0 2 = .func ng na nb) (q9:e0 9 = .int .i64 (l:Int)) (q10:e0 10 = .nils) (q33:e0 33=an aM 3 rules) (q34:e0 34 = .int .i64 (rules.l.length:Int)) (q35:e0 35 = .int .i64 0) {T:AV} (q26:e0 26=T) (q27:e0 27 = .int .i64 (l:Int))
  (done:∀ (e:Env) h' a ps,bT h h'→Own qy 8 h.next h' a ps→(∀ p ∈ ps,p.ok)→ps.map (·.r)=hG lv rules.l l→e 0 = .ptr P 0→e 1 = .ptr S 0→e 2 = .func ng na nb→e 10=a→e 26=T→e 27 = .int .i64 (l:Int)→F.aS.sR K (.exit 4) ⟨e,62,[],h'⟩=true) :
  aT (aq Tryz.prog (ah Tryz.prog) F.aS.L2) ⟨e0,62,[],h⟩ (F.aS.sR K)=true:=by
 have hbig:rules.l.length≤cz:=by have:=o.few60;unfold cz;omega
 refine aB 0 rules.l.length (Nat.zero_le _) (fun i e h'=>∃ a ps,bT h h'∧Own qy 8 h.next h' a ps∧(∀ p ∈ ps,p.ok)∧ps.map (·.r)=hG lv (rules.l.take i) l∧e 0 = .ptr P 0∧e 1 = .ptr S 0∧e 2 = .func ng na nb∧e 9 = .int .i64 (l:Int)∧e 10=a∧e 33=an aM 3 rules∧e 34 = .int .i64 (rules.l.length:Int)∧e 35 = .int .i64 (i:Int)∧e 26=T∧e 27 = .int .i64 (l:Int))
  ⟨.nils,[],bT.refl _,.nil,fun p hp=>(by cases hp),rfl,q0,q1,q2,q9,q10,q33,q34,q35,q26,q27⟩ ?_ ?_
 ·rintro i e h' _ hi ⟨a,ps,hx,oa,hok,hps,e0,e1,e2,e9,e10,e33,e34,e35,e26,e27⟩ K' hn hx' hr hp
  have hv:rules.l[i]?=some rules.l[i]:=List.getElem?_eq_getElem hi
  generalize rules.l[i]=r at hv
  have hrm:=List.mem_of_getElem? hv
  obtain ⟨H,hs1,g1,go,gn⟩:=cO (h:=h') (zs:=[.str [],.nils,.nils]) (cs:=aM r) (n:=3) rfl rfl (iz r)
  have xH:bT h H:=hx.trans ⟨by omega,fun b hb=>go b (by omega)⟩
  have pP:H.get P=some (.cells [an aM 3 rules,.map A,.map M]):=by rw [xH.get P hPn];exact hP
  have pl:eU hs H M ks lv:=hl.keep (xH.get M hMn)
  have hst:=C5 (lv:=lv) (l:=l) hv
  rw [F.aS.ju]
  simp only [e0,e9,e10,e33,e34,e35,aV,Nat.reduceAdd,Nat.reduceEqDiff,reduceIte,aY hi,aP rules hi,dQ fe hv,hs1]
  simp only [aV,Nat.reduceAdd,Nat.reduceEqDiff,reduceIte,cm,au pP,au g1,aM,pl.MK,if_pos (hin r hrm),cQ]
  by_cases hlv:lv r.name=l
  ·rw [if_pos hlv] at hst
   simp only [decide_eq_true (by omega:(lv r.name:Int)=(l:Int)),aI,aV,Nat.reduceAdd,Nat.reduceEqDiff,reduceIte,au g1,aM,oG]
   refine ak (ct (o.kX r hrm) fun hd cs ls h1 h2 h3=>?_)
   have hrow:=Ng ⟨(i:Int),r,hd,cs,ls⟩
   have oH:=oa.ext (h':=H) ⟨by omega,fun b hb=>go b (by omega)⟩
   have hpsl:ps.length≤60:=by
    have z1:=congrArg List.length hps
    rw [List.length_map] at z1
    have z2:(hG lv (rules.l.take i) l).length≤(rules.l.take i).length:=List.length_filter_le _ _
    have z3:=List.length_take_le' i rules.l
    have:=o.few60
    omega
   obtain ⟨a2,h3',p1,p2,p3,p4,p5,p6⟩:=oH.push BU BV xH.next (bytes:=152) (by unfold cX;omega) ⟨(i:Int),r,hd,cs,ls⟩
   simp only [qy] at hrow p1
   simp only [aV,Nat.reduceAdd,Nat.reduceEqDiff,reduceIte,hrow,e10,p1,e35,aE hi hbig]
   refine hn _ _ ⟨a2,_,p5 h xH (Nat.le_refl _),p2,fun p hp=>?_,by rw [List.map_append,hps,hst];rfl,e0,e1,e2,e9,rfl,e33,e34,rfl,e26,e27⟩
   rcases List.mem_append.1 hp with hp|hp
   ·exact hok p hp
   ·rw [List.mem_singleton] at hp;subst hp
    exact ⟨o.kX r hrm,o.k12 r hrm,h1,h2,h3⟩
  ·rw [if_neg hlv,List.append_nil] at hst
   simp only [decide_eq_false (by omega:¬ (lv r.name:Int)=(l:Int)),aG,e35,aE hi hbig,bindO_some]
   exact hn _ _ ⟨a,ps,xH,oa.ext ⟨by omega,fun b hb=>go b (by omega)⟩,hok,by rw [hst];exact hps,e0,e1,e2,e9,e10,e33,e34,rfl,e26,e27⟩
 ·rintro e h' ⟨a,ps,hx,oa,hok,hps,e0,e1,e2,e9,e10,e33,e34,e35,e26,e27⟩ K' hx'
  rw [F.aS.ju]
  simp only [e34,e35,aV,Nat.reduceAdd,Nat.reduceEqDiff,reduceIte,aR]
  rw [hx']
  rw [List.take_of_length_le (Nat.le_refl _)] at hps
  exact done _ h' a ps hx oa hok hps e0 e1 e2 e10 e26 e27
end
end Go.AM
namespace Go.AM
open Go Go.Proofs
noncomputable section
def nH(ns:List bI)(lv:Lev.Lv):List Int:=ns.map fun s=>(lv s:Int)
theorem Ag(ns:List bI)(lv:Lev.Lv):(nH ns lv).length=ns.length:=by simp [nH]
theorem nI{ns:List bI}{lv:Lev.Lv}{i:Nat}{s:bI}(h:ns[i]?=some s):(nH ns lv)[i]?=some (lv s:Int):=by
 unfold nH;rw [List.getElem?_map,h];rfl
theorem kH{α:Type}:∀ {l:List α} {i j:Nat} {s:α},l.Nodup→l[i]?=some s→l[j]?=some s→i=j
 |[],i,j,s,_,h,_=>by simp at h
 |a :: l,0,0,s,_,_,_=>rfl
 |a :: l,0,j+1,s,hn,h1,h2=>by
  simp only [List.getElem?_cons_zero,Option.some.injEq,List.getElem?_cons_succ] at h1 h2
  subst h1
  exact absurd (List.mem_of_getElem? h2) (List.nodup_cons.1 hn).1
 |a :: l,i+1,0,s,hn,h1,h2=>by
  simp only [List.getElem?_cons_zero,Option.some.injEq,List.getElem?_cons_succ] at h1 h2
  subst h2
  exact absurd (List.mem_of_getElem? h1) (List.nodup_cons.1 hn).1
 |a :: l,i+1,j+1,s,hn,h1,h2=>by
  rw [List.getElem?_cons_succ] at h1 h2
  rw [kH (List.nodup_cons.1 hn).2 h1 h2]
theorem JC{ns:List bI}(hn:ns.Nodup){lv:Lev.Lv}{e:Lev.Edge}{a:Nat}(ha:ns[a]?=some e.h)(hlt:lv e.h<lv e.b+e.w):(nH ns lv).set a ((lv e.b+e.w:Nat):Int)=nH ns (Lev.fR lv e):=by
 have hal:=(List.getElem?_eq_some_iff.1 ha).1
 refine List.ext_getElem? fun j=>?_
 rw [List.getElem?_set]
 have hrel:∀ x,Lev.fR lv e x=if x=e.h then lv e.b+e.w else lv x:=fun x=>by unfold Lev.fR;rw [if_pos hlt]
 by_cases hj:a=j
 ·subst hj
  rw [if_pos rfl,if_pos (by rw [Ag];exact hal),nI ha,hrel,if_pos rfl]
 ·rw [if_neg hj]
  cases hs:ns[j]? with
  |none=>unfold nH;rw [List.getElem?_map,List.getElem?_map,hs];rfl
  |some t=>
   rw [nI hs,nI hs,hrel,if_neg]
   intro e1
   subst e1
   exact hj (kH hn ha hs)
theorem EA{lv:Lev.Lv}{e:Lev.Edge}{s:bI}(h:s≠e.h):Lev.fR lv e s=lv s:=by
 unfold Lev.fR;split
 ·exact if_neg h
 ·rfl
set_option maxHeartbeats 2000000 in
theorem bf{rules:Sl aK}(h60:rules.l.length≤60)(h20:∀ r ∈ rules.l,r.body.l.length≤20){h:ag}{K:Out→ag→Bool}
  (hno:(∀ k,¬ Lev.dc (bQ rules.l) (Lev.iter (bQ rules.l) k))→K (.ret (.tuple [.nils,.bool false])) h=true)
  (hyes:∀ (y:Sl Int) k,Lev.dc (bQ rules.l) (Lev.iter (bQ rules.l) k)→y.l=nH (ej rules.l) (Lev.iter (bQ rules.l) k)→K (.ret (.tuple [an encI 1 y,.bool true])) h=true) :
  Sem Tryz.prog 32 [an aM 3 rules] h K:=by
 have hbig:rules.l.length≤cz:=by unfold cz;omega
 have hN:∀ e ∈ bQ rules.l,e.b ∈ ej rules.l∧e.h ∈ ej rules.l:=fun e he=>by
  obtain ⟨r,hr,c,hc,_,hin,rfl⟩:=qt he
  exact ⟨(ez _).2 hin,(ez _).2 (List.mem_map_of_mem hr)⟩
 have hw:∀ e ∈ bQ rules.l,e.w≤1:=fun e he=>by
  obtain ⟨r,hr,c,hc,_,hin,rfl⟩:=qt he
  exact FK r c
 have hnd:=wQ (mX rules.l)
 have hdl:(ej rules.l).length≤60:=by have:=nG rules.l;omega
 have main:Sem Tryz.prog 32 [an aM 3 rules] ag.empty (fun o h'=>yes (((∀ k,¬ Lev.dc (bQ rules.l) (Lev.iter (bQ rules.l) k))∧o = .ret (.tuple [.nils,.bool false])) ∨
   ∃ (a:AV) (y:Sl Int) (k:Nat),o = .ret (.tuple [a,.bool true])∧Fz true h' a (an encI 1 y)∧Lev.dc (bQ rules.l) (Lev.iter (bQ rules.l) k)∧y.l=nH (ej rules.l) (Lev.iter (bQ rules.l) k))):=by
  refine F.vi ?_
  generalize hR:(fun (o:Out) (h':ag)=>yes (((∀ k,¬ Lev.dc (bQ rules.l) (Lev.iter (bQ rules.l) k))∧o = .ret (.tuple [.nils,.bool false])) ∨
   ∃ (a:AV) (y:Sl Int) (k:Nat),o = .ret (.tuple [a,.bool true])∧Fz true h' a (an encI 1 y)∧Lev.dc (bQ rules.l) (Lev.iter (bQ rules.l) k)∧y.l=nH (ej rules.l) (Lev.iter (bQ rules.l) k)))=R
  have finN:(∀ k,¬ Lev.dc (bQ rules.l) (Lev.iter (bQ rules.l) k))→∀ h',R (.ret (.tuple [.nils,.bool false])) h'=true:=fun hk h'=>by
   subst hR;exact cw.2 (.inl ⟨hk,rfl⟩)
  have finY:∀ h' a (y:Sl Int) k,Fz true h' a (an encI 1 y)→Lev.dc (bQ rules.l) (Lev.iter (bQ rules.l) k)→y.l=nH (ej rules.l) (Lev.iter (bQ rules.l) k)→R (.ret (.tuple [a,.bool true])) h'=true:=fun h' a y k q1 q2 q3=>by
   subst hR;exact cw.2 (.inr ⟨a,y,k,rfl,q1,q2,q3⟩)
  clear hR
  refine ak (cS h60 fun x hx1=>?_)
  have hxl:x.l.length≤60:=by rw [hx1];exact hdl
  have hxb:x.l.length≤cz:=by unfold cz;omega
  simp only [aV,Nat.reduceAdd,Nat.reduceEqDiff,reduceIte,ry (show x.l.length≤1000000 by omega)]
  have gU:(ag.alloc ag.empty (.cells ((List.replicate x.l.length (0:Int)).map iv))).get 0=some (.cells ((nH x.l (Lev.iter (bQ rules.l) 0)).map iv)):=by
   have:nH x.l (Lev.iter (bQ rules.l) 0)=List.replicate x.l.length (0:Int):=by
    show x.l.map (fun _=>(0:Int))=_;exact List.map_const'
   rw [this];exact aC _ _
  have gn:(ag.alloc ag.empty (.cells ((List.replicate x.l.length (0:Int)).map iv))).next=1:=rfl
  simp only [bG]
  generalize (ag.alloc ag.empty (.cells ((List.replicate x.l.length (0:Int)).map iv)))=H0 at gU gn ⊢
  rw [← hx1] at hN hnd finY
  refine wP (fun m e h'=>∃ k,h'.get 0=some (.cells ((nH x.l (Lev.iter (bQ rules.l) k)).map iv))∧0<h'.next∧(∀ s,Lev.iter (bQ rules.l) k s≤x.l.length)∧e 0=an aM 3 rules∧e 4=an encS 1 x∧e 5 = .slice 0 0 x.l.length 1 ∧
   ((e 6 = .bool true∧m=x.l.length*x.l.length+2-(x.l.map (Lev.iter (bQ rules.l) k)).sum)∨(e 6 = .bool false∧m=0∧Lev.dc (bQ rules.l) (Lev.iter (bQ rules.l) k)))) _
   ⟨0,gU,by omega,fun s=>Nat.zero_le _,rfl,rfl,rfl,.inl ⟨rfl,rfl⟩⟩ ?_
  rintro m e h' ⟨k,qU,qn,bd,e0,e4,e5,hch⟩ K0 hN0 hx0 hr0
  rw [F.bf.aN]
  rcases hch with ⟨e6,hm⟩|⟨e6,hm,hst⟩
  ·have hsum:(x.l.map (Lev.iter (bQ rules.l) k)).sum≤x.l.length*x.l.length:=Lev.E4 x.l fun s _=>bd s
   simp only [e6,condB_bool,aI]
   refine aB 0 rules.l.length (Nat.zero_le _) (fun i e h'=>∃ cur ch,Lev.RS (Lev.iter (bQ rules.l) k) cur (jh (bA rules.l) (rules.l.take i)) ch∧h'.get 0=some (.cells ((nH x.l cur).map iv))∧0<h'.next∧(∀ s,cur s≤x.l.length) ∧
    e 0=an aM 3 rules∧e 4=an encS 1 x∧e 5 = .slice 0 0 x.l.length 1∧e 6 = .bool ch∧e 7 = .int .i64 (i:Int)) ⟨_,false,Lev.RS.nil _,qU,qn,bd,e0,e4,e5,rfl,rfl⟩ ?_ ?_
   ·rintro i e h' _ hi ⟨cur,ch,rs,qU,qn,bd,e0,e4,e5,e6,e7⟩ K1 hn1 hx1' hr1 hp1
    have hv:rules.l[i]?=some rules.l[i]:=List.getElem?_eq_getElem hi
    generalize rules.l[i]=r at hv
    have hb20:=h20 r (List.mem_of_getElem? hv)
    have hbb:r.body.l.length≤cz:=by unfold cz;omega
    have hrin:r.name ∈ x.l:=by rw [hx1];exact (ez _).2 (List.mem_map_of_mem (List.mem_of_getElem? hv))
    have ld:∀ j,j<3→∀ h,ai none (.iptr (rules.l.flatMap aM) (i*3+j)) h=(aM r)[j]?:=fun j hj h=>eZ fe hv hj
    have ld0:∀ h,ai none (.iptr (rules.l.flatMap aM) (i*3)) h=some (.str r.name):=fun h=>ld 0 (by omega) h
    rw [F.bf.cP]
    simp only [e0,e4,e7,aV,Nat.reduceAdd,Nat.reduceEqDiff,reduceIte,aY hi,aP rules hi,ld0]
    refine ak (dm hxb (fun a ha=>?_) (fun hnot=>absurd hrin hnot))
    have hal:=(List.getElem?_eq_some_iff.1 ha).1
    simp only [aV,Nat.reduceAdd,Nat.reduceEqDiff,reduceIte]
    refine aB 0 r.body.l.length (Nat.zero_le _) (fun j e h2=>∃ cur ch,Lev.RS (Lev.iter (bQ rules.l) k) cur (jh (bA rules.l) (rules.l.take i)++lu (bA rules.l) r (r.body.l.take j)) ch∧h2.get 0=some (.cells ((nH x.l cur).map iv))∧0<h2.next∧(∀ s,s≠r.name→cur s≤x.l.length)∧(∀ s,cur s≤x.l.length+j) ∧
     e 0=an aM 3 rules∧e 4=an encS 1 x∧e 5 = .slice 0 0 x.l.length 1∧e 6 = .bool ch∧e 7 = .int .i64 (i:Int)∧e 8 = .int .i64 (a:Int)∧e 9 = .int .i64 (j:Int))
     ⟨cur,ch,by simpa [lu] using rs,qU,qn,fun s _=>bd s,by simpa using bd,e0,e4,e5,e6,e7,rfl,rfl⟩ ?_ ?_
    ·rintro j e h2 _ hj ⟨cur,ch,rs,qU,qn,bd1,bd2,e0,e4,e5,e6,e7,e8,e9⟩ K2 hn2 hx2 hr2 hp2
     have hc:r.body.l[j]?=some r.body.l[j]:=List.getElem?_eq_getElem hj
     generalize r.body.l[j]=c at hc
     obtain ⟨H2,hs2,k1,ko,kn⟩:=cO (h:=h2) (zs:=[.int .i64 0,.bool false,.str [],.nils]) (cs:=b6 c) (n:=4) rfl rfl (gN c)
     have kU:H2.get 0=some (.cells ((nH x.l cur).map iv)):=by rw [ko 0 (by omega)];exact qU
     have hst:=wM (hs:=bA rules.l) (r:=r) hc
     have skip:jV (bA rules.l) r c = []→∀ e':Env,e' 0=an aM 3 rules→e' 4=an encS 1 x→e' 5 = .slice 0 0 x.l.length 1→e' 6 = .bool ch→e' 7 = .int .i64 (i:Int)→e' 8 = .int .i64 (a:Int)→e' 9 = .int .i64 ((j+1:Nat):Int)→K2 .normal ⟨e',89,[],H2⟩=true:=by
      intro hed e' e0 e4 e5 e6 e7 e8 e9
      rw [hed,List.append_nil] at hst
      exact hn2 _ _ ⟨cur,ch,by rw [hst];exact rs,kU,by omega,bd1,fun s=>by have:=bd2 s;omega,e0,e4,e5,e6,e7,e8,e9⟩
     rw [F.bf.ju]
     simp only [e0,e4,e7,e9,aV,Nat.reduceAdd,Nat.reduceEqDiff,reduceIte,aP rules hi,ld 2 (by omega),aM,aY hj,aP r.body hj,dQ gL hc,hs2]
     simp only [aV,Nat.reduceAdd,Nat.reduceEqDiff,reduceIte,au k1,b6]
     refine ak (dm hxb (fun b hb=>?_) (fun hnot=>?_))
     ·have hbl:=(List.getElem?_eq_some_iff.1 hb).1
      have hcin:c.name ∈ bA rules.l:=by rw [← ez,← hx1];exact List.mem_of_getElem? hb
      simp only [aV,Nat.reduceAdd,Nat.reduceEqDiff,reduceIte,au k1,b6,cQ]
      by_cases k0:c.kind=0
      ·have hed:jV (bA rules.l) r c = [eS r c]:=by unfold jV;rw [if_pos ⟨k0,hcin⟩]
       rw [hed] at hst
       simp only [decide_eq_true k0,aI,decide_eq_true (show (0:Int)≤(b:Int) by omega),e5,jT hbl,jU kU (nI hb),aV,Nat.reduceAdd,Nat.reduceEqDiff,reduceIte,au k1,b6]
       have J:∀ e':Env,e' 0=an aM 3 rules→e' 4=an encS 1 x→e' 5 = .slice 0 0 x.l.length 1→e' 6 = .bool ch→e' 7 = .int .i64 (i:Int)→e' 8 = .int .i64 (a:Int)→e' 9 = .int .i64 (j:Int)→e' 12 = .int .i64 ((cur c.name+(eS r c).w:Nat):Int) →
         F.bf.J0 K2 ⟨e',89,[],H2⟩=true:=by
        intro e' e0 e4 e5 e6 e7 e8 e9 e12
        rw [F.bf.zm]
        simp only [e5,e8,e12,jT hal,jU kU (nI ha),aV,Nat.reduceAdd,Nat.reduceEqDiff,reduceIte]
        by_cases hlt:cur r.name<cur c.name+(eS r c).w
        ·have hset:=JC hnd (e:=eS r c) ha hlt
         have hstore:=mC (v:=((cur c.name+(eS r c).w:Nat):Int)) kU (i:=a) (by rw [Ag];exact hal)
         have hset':(nH x.l cur).set a ((cur c.name+(eS r c).w:Nat):Int)=nH x.l (Lev.fR cur (eS r c)):=hset
         rw [hset'] at hstore
         simp only [aY hlt,aI,e5,e8,e9,e12,jT hal,hstore,aV,Nat.reduceAdd,Nat.reduceEqDiff,reduceIte,aE hj hbb]
         refine hn2 _ _ ⟨_,true,?_,by rw [ag.aO,if_pos rfl],by rw [ag.next_set];omega,fun s hs=>?_,fun s=>?_,e0,e4,e5,rfl,e7,e8,rfl⟩
         ·rw [hst,← List.append_assoc];exact rs.up hlt
         ·rw [EA (e:=eS r c) hs];exact bd1 s hs
         ·have:=Lev.pI (e:=eS r c) bd2 (FK r c) s;omega
        ·simp only [decide_eq_false (by omega:¬ ((cur r.name:Int)<((cur c.name+(eS r c).w:Nat):Int))),aG,e9,aE hj hbb,bindO_some]
         exact hn2 _ _ ⟨cur,ch,by rw [hst,← List.append_assoc];exact rs.same hlt,kU,by omega,bd1,fun s=>by have:=bd2 s;omega,e0,e4,e5,e6,e7,e8,rfl⟩
       cases hng:c.neg with
       |true=>
        have hw1:(eS r c).w=1:=by unfold eS;simp [hng]
        have hadd:=aE (i:=cur c.name) (n:=2000000) (by have:=bd2 c.name;omega) (by unfold cz;omega)
        simp only [aI,hadd,bindO_some]
        exact J _ e0 e4 e5 e6 e7 e8 e9 (by rw [hw1];rfl)
       |false=>
        have hw1:(eS r c).w=0:=by unfold eS;simp [hng]
        simp only [aG]
        exact J _ e0 e4 e5 e6 e7 e8 e9 (by rw [hw1];rfl)
      ·simp only [decide_eq_false k0,aG,e9,aE hj hbb,bindO_some]
       exact skip (by unfold jV;rw [if_neg (fun h=>k0 h.1)]) _ e0 e4 e5 e6 e7 e8 rfl
     ·have hcout:c.name ∉ bA rules.l:=fun h=>hnot (by rw [hx1];exact (ez _).2 h)
      have hed:jV (bA rules.l) r c = []:=by unfold jV;rw [if_neg (fun h=>hcout h.2)]
      simp only [aV,Nat.reduceAdd,Nat.reduceEqDiff,reduceIte,au k1,b6,cQ]
      by_cases k0:c.kind=0
      ·simp only [decide_eq_true k0,aI,show decide ((0:Int)≤-1)=false from rfl,aG,e9,aE hj hbb,bindO_some]
       exact skip hed _ e0 e4 e5 e6 e7 e8 rfl
      ·simp only [decide_eq_false k0,aG,e9,aE hj hbb,bindO_some]
       exact skip hed _ e0 e4 e5 e6 e7 e8 rfl
    ·rintro e h2 ⟨cur,ch,rs,qU,qn,bd1,bd2,e0,e4,e5,e6,e7,e8,e9⟩ K2 hx2
     rw [List.take_of_length_le (Nat.le_refl _),← zV hv] at rs
     rw [F.bf.ju]
     simp only [e0,e7,e9,aV,Nat.reduceAdd,Nat.reduceEqDiff,reduceIte,aP rules hi,ld 2 (by omega),aM,aR]
     rw [hx2,F.bf.fV]
     simp only [e4,e5,e7,e8,jT hal,jU qU (nI ha),aV,Nat.reduceAdd,Nat.reduceEqDiff,reduceIte]
     by_cases hgt:x.l.length<cur r.name
     ·simp only [aY hgt,aI]
      rw [hr1,F.bf.fY,hr0,F.bf.bq]
      refine finN (Lev.high (N:=x.l) hN hw (k:=k) (E1:=jh (bA rules.l) (rules.l.take (i+1))) (E2:=jh (bA rules.l) (rules.l.drop (i+1))) ?_ hrin (by rw [← rs.eq];exact hgt)) _
      unfold bQ jh
      rw [← List.flatMap_append,List.take_append_drop]
     ·simp only [decide_eq_false (by omega:¬ ((x.l.length:Int)<(cur r.name:Int))),aG,e7,aE hi hbig,bindO_some]
      refine hn1 _ _ ⟨cur,ch,rs,qU,qn,fun s=>?_,e0,e4,e5,e6,rfl⟩
      by_cases hs:s=r.name
      ·subst hs;omega
      ·exact bd1 s hs
   ·rintro e h' ⟨cur,ch,rs,qU,qn,bd',e0,e4,e5,e6,e7⟩ K1 hx1'
    rw [List.take_of_length_le (Nat.le_refl _)] at rs
    obtain ⟨d1,d2⟩:=rs.done
    have d1':cur=Lev.iter (bQ rules.l) (k+1):=d1
    rw [F.bf.cP]
    simp only [e0,e7,aV,Nat.reduceAdd,Nat.reduceEqDiff,reduceIte,aR]
    rw [hx1',F.bf.b8]
    by_cases hst:Lev.dc (bQ rules.l) (Lev.iter (bQ rules.l) k)
    ·have hst':Lev.dc (jh (bA rules.l) rules.l) (Lev.iter (bQ rules.l) k):=hst
     rw [decide_eq_true hst'] at d2
     have d3:cur=Lev.iter (bQ rules.l) k:=by rw [d1];exact Lev.sj hst
     rw [d3] at qU
     exact hN0 0 _ _ (by omega) ⟨k,qU,qn,bd,e0,e4,e5,.inr ⟨by simp only [bu,Nat.reduceEqDiff,reduceIte,e6,d2];rfl,rfl,hst⟩⟩
    ·have hst':¬ Lev.dc (jh (bA rules.l) rules.l) (Lev.iter (bQ rules.l) k):=hst
     rw [decide_eq_false hst'] at d2
     rw [d1'] at qU bd'
     have h1:=Lev.G6 hN hst
     have h2:(x.l.map (Lev.iter (bQ rules.l) (k+1))).sum≤x.l.length*x.l.length:=Lev.E4 x.l fun s _=>bd' s
     have h3:(x.l.map (Lev.iter (bQ rules.l) k)).sum<(x.l.map (Lev.iter (bQ rules.l) (k+1))).sum:=h1
     exact hN0 _ _ _ (by rw [hm];omega) ⟨k+1,qU,qn,bd',e0,e4,e5,.inl ⟨by simp only [bu,Nat.reduceEqDiff,reduceIte,e6,d2];rfl,rfl⟩⟩
  ·simp only [e6,condB_bool,aG]
   rw [hx0,F.bf.aD]
   simp only [bu,Nat.reduceEqDiff,reduceIte,e5]
   have hf:=D9 qU
   rw [Ag] at hf
   exact finY _ _ (some (nH x.l (Lev.iter (bQ rules.l) k))) k hf hst rfl
 refine main.frozen (by simp [AV.pureL,bE ef]) fun o h' ho=>?_
 rcases cw.1 ho with ⟨hb,rfl⟩|⟨a,y,k,rfl,f1,hst,s3⟩
 ·exact ⟨_,_,rfl,.cU rfl,hno hb⟩
 ·have fl:=iQ.cons f1 (iQ.cons (Fz.scalar (.bool true) rfl) iQ.nil)
  exact ⟨_,_,rfl,.tuple _ _ fl.len fl.rel,hyes y k hst s3⟩
end
end Go.AM
namespace Go.AM
open Go Go.Proofs
noncomputable section
set_option maxHeartbeats 2000000 in
theorem HM{P M A B S n lo:Nat}{D0:DB}{rules:Sl aK}{hs ks:List bI}{lv:Lev.Lv}{ng:FuncId}{na nb:List AV}(o:JB S n D0 rules.l ng na nb){h:ag}{K:Out→ag→Bool}
  (hP:h.get P=some (.cells [an aM 3 rules,.map A,.map M])) (hPn:P<h.next) (hl:eU hs h M ks lv) (hks:ks.Nodup) (hMn:M<h.next) (hin:∀ r ∈ rules.l,r.name ∈ hs) (hlv:∀ x,lv x≤1000000)
  (hS:h.get S=some (.cells [.int .i64 (n:Int),.map B])) (hSn:S<h.next) (hD:ei D0 h B lo) (hPM:∀ nm p,D0 nm=some p→p.1≠P∧p.1≠M)
  (hK:∀ h' D' T,(∀ x ∈ hs,lv x≤T)→BW n rules.l lv D0 (T+1) D'→eu D' D0→ei D' h' B lo→(∀ b,b<h.next→(∀ nm p,D0 nm=some p→b≠p.1)→h'.get b=h.get b)→h.next≤h'.next→K (.ret (.tuple [])) h'=true) :
  Sem Tryz.prog 46 [.ptr P 0,.ptr S 0,.func ng na nb] h K:=by
 obtain ⟨es,ck,m,z1,z2,z3,z4,z5⟩:=hl.ex
 have hmnd:(m.map (·.1)).Nodup:=by rw [z4];exact hks
 have hval:∀ p ∈ m,p.1 ∈ hs∧p.2=(lv p.1:Int):=fun p hp=>by
  have h1:=rA hmnd hp
  rw [z5] at h1
  by_cases hh:p.1 ∈ hs
  ·rw [if_pos hh] at h1;exact ⟨hh,(Option.some.inj h1).symm⟩
  ·rw [if_neg hh] at h1;cases h1
 refine F.pz ?_
 have hrg:jB .map (.map M) h=some (.ptr h.next 0,h.alloc (.miter (some M) ck [] ck)):=by simp only [jB,z1]
 simp only [aV,Nat.reduceAdd,Nat.reduceEqDiff,reduceIte,cm,au hP,hrg]
 refine vL es (fun seen e hh=>∃ t:Nat,e 6 = .int .i64 (t:Int)∧(∀ en ∈ es,en.2.2 ∈ seen→∀ v:Nat,en.2.1 = .int .i64 (v:Int)→v≤t)∧t≤1000000∧hh.get h.next=some (.miter (some M) ck seen ck)∧(∀ b,b<h.next→hh.get b=h.get b)∧h.next<hh.next ∧
  e 0 = .ptr P 0∧e 1 = .ptr S 0∧e 2 = .func ng na nb∧e 17 = .ptr h.next 0)
  ⟨0,rfl,fun en _ hen=>(by cases hen),by omega,aC _ _,fun b hb=>by rw [ag.aW,if_neg (by omega)],by rw [ag.next_alloc];omega,rfl,rfl,rfl,rfl⟩ ?_
 rintro seen e hh ⟨t,e6,ht,ht6,w3,wf,wn,e0,e1,e2,e17⟩ K' hnx' hex hret hpan
 rw [F.aS.aN]
 simp only [e17]
 refine Ae w3 (by rw [wf M hMn];exact z1) z3 (by omega) (fun hall=>?_) (fun en hen hns hent=>?_)
 ·simp only [CD,lT,bindO_some,condB_bool,aG]
  rw [hex,F.aS.aD]
  have htop:∀ x ∈ hs,lv x≤t:=fun x hx=>by
   have h1:m.find x=some (lv x:Int):=by rw [z5,if_pos hx]
   obtain ⟨en,hen,h2,h3⟩:=z2.mem' _ (nF h1)
   exact ht en hen (hall en hen) (lv x) h3
  have hadd:=aE (i:=t) (n:=1000001) (by omega) (by unfold cz;omega)
  simp only [aV,Nat.reduceAdd,Nat.reduceEqDiff,reduceIte,e6,hadd]
  refine aB 0 (t+1) (Nat.zero_le _) (fun l e h'=>∃ D,BW n rules.l lv D0 l D∧eu D D0∧ei D h' B lo∧(∀ b,b<h.next→(∀ nm p,D0 nm=some p→b≠p.1)→h'.get b=h.get b)∧h.next≤h'.next∧e 0 = .ptr P 0∧e 1 = .ptr S 0∧e 2 = .func ng na nb∧e 26 = .int .i64 ((t+1:Nat):Int)∧e 27 = .int .i64 (l:Int))
   ⟨D0,.zero,fun _=>rfl,hD.ext ⟨by omega,fun b hb=>wf b hb⟩,fun b hb _=>wf b hb,by omega,e0,e1,e2,rfl,rfl⟩ ?_ ?_
  ·rintro l e h' _ hlt ⟨D,hrun,hdim,hbit,hfr,hnx,e0,e1,e2,e26,e27⟩ K1 hn1 hx1 hr1 hp1
   have notP:∀ nm p,D0 nm=some p→P≠p.1:=fun nm p hp=>Ne.symm (hPM nm p hp).1
   have notM:∀ nm p,D0 nm=some p→M≠p.1:=fun nm p hp=>Ne.symm (hPM nm p hp).2
   have pP:h'.get P=some (.cells [an aM 3 rules,.map A,.map M]):=by rw [hfr P hPn notP];exact hP
   have pl:eU hs h' M ks lv:=hl.keep (hfr M hMn notM)
   rw [F.aS.cP]
   simp only [e0,e26,e27,aV,Nat.reduceAdd,Nat.reduceEqDiff,reduceIte,aY hlt,cm,au pP]
   refine Ez o (l:=l) pP (by omega) pl (by omega) hin e0 e1 e2 rfl rfl rfl rfl rfl e26 e27 fun e' h3 a ps hx3 oa hok hps f0 f1 f2 f10 f26 f27=>?_
   rw [F.aS.fV]
   simp only [f1,f2,f10]
   have hS3:h3.get S=some (.cells [.int .i64 (n:Int),.map B]):=by rw [hx3.get S (by omega),hfr S hSn (fun nm p hp=>Ne.symm (o.rows nm p hp))];exact hS
   have hsub:∀ p ∈ ps,p.r ∈ rules.l:=fun p hp=>by
    have:p.r ∈ hG lv rules.l l:=by rw [← hps];exact List.mem_map_of_mem hp
    exact (List.mem_filter.1 this).1
   have hpsl:ps.length≤60:=by
    have y1:=congrArg List.length hps
    rw [List.length_map] at y1
    have y2:(hG lv rules.l l).length≤rules.l.length:=List.length_filter_le _ _
    have:=o.few60
    omega
   have po:Jz S n D ps ng na nb:=
    ⟨o.n1,o.n64,hok,fun nm p hp=>by obtain ⟨p0,y1,y2,_⟩:=hdim.back hp;rw [y2];exact o.rows nm p0 y1,fun p hp D' hd'=>o.ask _ (hsub p hp) D' (hd'.trans hdim),
     fun p hp=>by
      obtain ⟨y1,y2,q,y3,y4⟩:=o.head _ (hsub p hp)
      obtain ⟨q',y5,_,y6⟩:=hdim.get y3
      exact ⟨y1,y2,q',y5,by rw [y6];exact y4⟩,o.note⟩
   have hDn:∀ nm p,D nm=some p→p.1<h'.next:=fun nm p hp=>(hbit.blk nm p hp).2.1
   refine ak (Ew po hS3 (by have:=hx3.next;omega) (hbit.ext hx3) oa (fun b hb nm p hp=>by have:=oa.ge hb;have:=hDn nm p hp;omega) hpsl fun h4 D4 k1 k2 k3 k4 k5 k6=>?_)
   simp only [aV,Nat.reduceAdd,Nat.reduceEqDiff,reduceIte,f27,aE hlt (show t+1≤cz by unfold cz;omega)]
   rw [hps] at k1 k2
   refine hn1 _ _ ⟨D4,.succ l D D4 hrun k1 k2,k3.trans hdim,k4,fun b b1 b2=>?_,by have:=hx3.next;omega,f0,f1,f2,f26,rfl⟩
   rw [k5 b (by have:=hx3.next;omega) (fun nm p hp=>by obtain ⟨p0,y1,y2,_⟩:=hdim.back hp;rw [y2];exact b2 nm p0 y1),hx3.get b (by omega),hfr b b1 b2]
  ·rintro e h' ⟨D,hrun,hdim,hbit,hfr,hnx,e0,e1,e2,e26,e27⟩ K1 hx1
   rw [F.aS.cP]
   simp only [e26,e27,aV,Nat.reduceAdd,Nat.reduceEqDiff,reduceIte,aR]
   rw [hx1,F.aS.b8]
   exact hK h' D t htop hrun hdim hbit hfr hnx
 ·obtain ⟨p,hpm,hn1,hn2⟩:=z2.mem en hen
  obtain ⟨hph,hpv⟩:=hval p hpm
  rw [hpv] at hn2
  have hlvp:=hlv p.1
  simp only [CD,lT,rq,bindO_some,condB_bool,aI,e17,hent,e6,hn2,En]
  have hmx:GP (t:Int) (lv p.1:Int)=((if lv p.1>t then lv p.1 else t:Nat):Int):=by
   unfold GP
   by_cases hgt:lv p.1>t
   ·rw [if_pos hgt,if_pos (by omega)]
   ·rw [if_neg hgt,if_neg (by omega)]
  refine hnx' en hen hns _ _ ⟨if lv p.1>t then lv p.1 else t,by rw [hmx];rfl,fun en' hen' hs' v hv=>?_,by split<;>omega,by rw [ag.aO,if_pos rfl],fun b hb=>by rw [ag.aO,if_neg (by omega)];exact wf b hb,by rw [ag.next_set];exact wn,e0,e1,e2,e17⟩
  rcases List.mem_append.1 hs' with hs'|hs'
  ·have:=ht en' hen' hs' v hv
   split<;>omega
  ·rw [List.mem_singleton] at hs'
   have hee:en'=en:=by
    have hb:=z3.nodup
    obtain ⟨i,hi⟩:=List.mem_iff_getElem?.1 hen
    obtain ⟨j,hj⟩:=List.mem_iff_getElem?.1 hen'
    have hi':(es.map (·.2.2))[i]?=some en.2.2:=by rw [List.getElem?_map,hi];rfl
    have hj':(es.map (·.2.2))[j]?=some en.2.2:=by rw [List.getElem?_map,hj,← hs'];rfl
    have hij:=kH hb hi' hj'
    subst hij
    rw [hi] at hj;exact (Option.some.inj hj).symm
   rw [hee,hn2] at hv
   have:v=lv p.1:=by injection hv with _ h3;omega
   rw [this]
   split<;>omega
end
end Go.AM
namespace Go.AM
open Go Go.Proofs
noncomputable section
theorem fE{n:Int}{x:Sl Int}(hx:x.l.length≤cz){h:ag}{K:Out→ag→Bool}(hK:K (.ret (.bool (gI n x.l))) h=true):Sem Tryz.prog 117 [.int .i64 n,an encI 1 x] h K:=by
 refine F.CP ?_
 refine aB 0 x.l.length (Nat.zero_le _) (fun i e h'=>h'=h∧e 0 = .int .i64 n∧e 1=an encI 1 x∧e 5 = .int .i64 (i:Int)∧gI n (x.l.take i)=true) ⟨rfl,rfl,rfl,rfl,rfl⟩ ?_ ?_
 ·rintro i e h' _ hi ⟨rfl,e0,e1,e5,ht⟩ K' hn hx' hr hp
  have hv:x.l[i]?=some x.l[i]:=List.getElem?_eq_getElem hi
  rw [F.fE.aN]
  simp only [e0,e1,e5,aV,Nat.reduceAdd,Nat.reduceEqDiff,reduceIte,aY hi,aP x hi,fF hv]
  by_cases h1:x.l[i]<0
  ·simp only [decide_eq_true h1,aI]
   rw [hr,F.fE.bq]
   have:gI n x.l=false:=all_false hv (by simp [h1])
   rw [this] at hK;exact hK
  ·simp only [decide_eq_false h1,aG]
   by_cases h2:n≤x.l[i]
   ·simp only [decide_eq_true h2,aI]
    rw [hr,F.fE.bq]
    have:gI n x.l=false:=all_false hv (by simp [h2])
    rw [this] at hK;exact hK
   ·simp only [decide_eq_false h2,aG,aE hi hx,bindO_some]
    exact hn _ _ ⟨rfl,e0,e1,rfl,gJ hv ht (by simp [h1,h2])⟩
 ·rintro e h' ⟨rfl,e0,e1,e5,ht⟩ K' hx'
  rw [F.fE.aN]
  simp only [e0,e1,e5,aV,Nat.reduceAdd,Nat.reduceEqDiff,reduceIte,aR]
  rw [hx',F.fE.aD]
  rw [List.take_of_length_le (Nat.le_refl _)] at ht
  rw [ht] at hK;exact hK
theorem Bf{x:Sl Int}(hx:x.l.length≤cz){g:FuncId}{a b:List AV}{h:ag}{p:Int→Bool}(hp:∀ (v:Int) (K:Out→ag→Bool),K (.ret (.bool (p v))) h=true→Sem Tryz.prog g (a++([.int .i64 v]++b)) h K)
  {K:Out→ag→Bool} (hK:∀ n:Int,decide (0≤n)=x.l.any p→K (.ret (.int .i64 n)) h=true):Sem Tryz.prog 121 [an encI 1 x,.func g a b] h K:=by
 refine F.kz ?_
 simp only [aV,Nat.reduceAdd,Nat.reduceEqDiff,reduceIte]
 refine aB 0 x.l.length (Nat.zero_le _) (fun i e h'=>h'=h∧e 0=an encI 1 x∧e 1 = .func g a b∧e 7 = .int .i64 (x.l.length:Int)∧e 8 = .int .i64 (i:Int)∧(x.l.take i).any p=false) ⟨rfl,rfl,rfl,rfl,rfl,rfl⟩ ?_ ?_
 ·rintro i e h' _ hi ⟨rfl,e0,e1,e7,e8,ht⟩ K' hn hx' hr hp'
  have hv:x.l[i]?=some x.l[i]:=List.getElem?_eq_getElem hi
  rw [F.bH.aN]
  simp only [e0,e1,e7,e8,aV,Nat.reduceAdd,Nat.reduceEqDiff,reduceIte,aY hi,aP x hi,fF hv,callV_func]
  refine ak (hp _ _ ?_)
  simp only [aV,Nat.reduceAdd,Nat.reduceEqDiff,reduceIte]
  cases hq:p x.l[i] with
  |true=>
   simp only [aI]
   rw [hr,F.bH.bq]
   refine hK (i:Int) ?_
   rw [decide_eq_true (by omega:(0:Int)≤(i:Int))]
   exact (List.any_eq_true.2 ⟨_,List.mem_of_getElem? hv,hq⟩).symm
  |false=>
   simp only [aG,aE hi hx,bindO_some]
   exact hn _ _ ⟨rfl,e0,e1,e7,rfl,by rw [List.take_add_one,hv,List.any_append,ht];simp [hq]⟩
 ·rintro e h' ⟨rfl,e0,e1,e7,e8,ht⟩ K' hx'
  rw [F.bH.aN]
  simp only [e0,e1,e7,e8,aV,Nat.reduceAdd,Nat.reduceEqDiff,reduceIte,aR]
  rw [hx',F.bH.aD]
  rw [List.take_of_length_le (Nat.le_refl _)] at ht
  exact hK (-1) (by rw [ht];rfl)
theorem vM{x:Sl Int}(hx:x.l.length≤cz){g:FuncId}{a b:List AV}{h:ag}{p:Int→Bool}(hp:∀ (v:Int) (K:Out→ag→Bool),K (.ret (.bool (p v))) h=true→Sem Tryz.prog g (a++([.int .i64 v]++b)) h K)
  {K:Out→ag→Bool} (hK:K (.ret (.bool (x.l.any p))) h=true):Sem Tryz.prog 67 [an encI 1 x,.func g a b] h K:=by
 refine F.jN ?_
 refine ak (Bf hx hp fun n hn=>?_)
 simp only [aV,Nat.reduceAdd,Nat.reduceEqDiff,reduceIte]
 rw [hn];exact hK
def Ma(n:Int)(x:Int):Bool:=decide (x<0)||decide (n≤x)
theorem Nh(n:Int)(l:List Int):gI n l = !(l.any (Ma n)):=by
 unfold gI Ma
 induction l with
 |nil=>rfl
 |cons a l ih=>simp only [List.all_cons,List.any_cons,ih];cases decide (a<0)<;>cases decide (n≤a)<;>rfl
theorem dA{cs:List AV}{n:Nat}(h:cs.length=n):ij (some n) cs 0=some (.agg cs):=by
 simp [ij,h,List.take_of_length_le]
theorem fC{n k:Nat}(h1:1≤n)(h2:n≤64)(hk:k≤cz){h:ag}{K:Out→ag→Bool}(hK:∀ v:Nat,(n ^ k≤4096→v=n ^ k)→(4096<n ^ k→4096<v)→K (.ret (.int .i64 (v:Int))) h=true) :
  Sem Tryz.prog 75 [.int .i64 (n:Int),.int .i64 (k:Int)] h K:=by
 refine F.A2 ?_
 refine aB 0 k (Nat.zero_le _) (fun i e h'=>h'=h∧e 0 = .int .i64 (n:Int)∧e 1 = .int .i64 (k:Int)∧e 6 = .int .i64 (i:Int)∧e 5 = .int .i64 ((n ^ i:Nat):Int)∧n ^ i≤262144) ⟨rfl,rfl,rfl,rfl,rfl,by simp⟩ ?_ ?_
 ·rintro i e h' _ hi ⟨rfl,e0,e1,e6,e5,hb⟩ K' hn hx hr hp
  rw [F.fC.aN]
  simp only [e0,e1,e5,e6,aV,Nat.reduceAdd,Nat.reduceEqDiff,reduceIte,aY hi]
  by_cases hc:n ^ i≤4096
  ·have hm:n ^ i*n≤4096*64:=Nat.mul_le_mul hc h2
   have hm':((n ^ i:Nat):Int)*(n:Int)=((n ^ (i+1):Nat):Int):=by rw [Nat.pow_succ,Int.natCast_mul]
   have hs:n ^ (i+1)≤262144:=by rw [Nat.pow_succ];omega
   have hmul:aA .mul (.int .i64 ((n ^ i:Nat):Int)) (.int .i64 (n:Int))=some (.int .i64 ((n ^ (i+1):Nat):Int)):=by
    rw [ri (by rw [hm'];omega) (by rw [hm'];omega),hm']
   simp only [decide_eq_true (by omega:((n ^ i:Nat):Int)≤4096),aI,hmul,aE hi hk,bindO_some]
   exact hn _ _ ⟨rfl,e0,e1,rfl,rfl,hs⟩
  ·simp only [decide_eq_false (by omega:¬ ((n ^ i:Nat):Int)≤4096),aG]
   rw [hx,F.fC.aD]
   simp only [e5,bu,Nat.reduceEqDiff,reduceIte]
   have:=CX h1 (Nat.le_of_lt hi)
   exact hK _ (fun h=>by omega) (fun _=>by omega)
 ·rintro e h' ⟨rfl,e0,e1,e6,e5,hb⟩ K' hx
  rw [F.fC.aN]
  simp only [e0,e1,e5,e6,aV,Nat.reduceAdd,Nat.reduceEqDiff,reduceIte,aR]
  rw [hx,F.fC.aD]
  simp only [e5,bu,Nat.reduceEqDiff,reduceIte]
  exact hK _ (fun _=>rfl) (fun h=>h)
def FR(n k:Nat):Int:=if n ^ k≤4096 then ((n ^ k:Nat):Int) else -1
theorem dG{n k:Nat}(h1:1≤n)(h2:n≤64)(hk:k≤cz){h:ag}{K:Out→ag→Bool}(hK:K (.ret (.int .i64 (FR n k))) h=true) :
  Sem Tryz.prog 136 [.int .i64 (n:Int),.int .i64 (k:Int),.int .i64 4096] h K:=by
 refine F.xz ?_
 refine aB 0 k (Nat.zero_le _) (fun i e h'=>h'=h∧e 0 = .int .i64 (n:Int)∧e 2 = .int .i64 4096∧e 8 = .int .i64 (k:Int)∧e 9 = .int .i64 (i:Int)∧e 7 = .int .i64 ((n ^ i:Nat):Int)∧n ^ i≤4096) ⟨rfl,rfl,rfl,rfl,rfl,rfl,by simp⟩ ?_ ?_
 ·rintro i e h' _ hi ⟨rfl,e0,e2,e8,e9,e7,hb⟩ K' hn hx hr hp
  rw [F.dG.aN]
  have hm:n ^ i*n≤4096*64:=Nat.mul_le_mul hb h2
  have hm':((n ^ i:Nat):Int)*(n:Int)=((n ^ (i+1):Nat):Int):=by rw [Nat.pow_succ,Int.natCast_mul]
  have hs:n ^ (i+1)≤262144:=by rw [Nat.pow_succ];omega
  have hmul:aA .mul (.int .i64 ((n ^ i:Nat):Int)) (.int .i64 (n:Int))=some (.int .i64 ((n ^ (i+1):Nat):Int)):=by
   rw [ri (by rw [hm'];omega) (by rw [hm'];omega),hm']
  simp only [e0,e2,e7,e8,e9,aV,Nat.reduceAdd,Nat.reduceEqDiff,reduceIte,aY hi,hmul]
  by_cases hc:n ^ (i+1)≤4096
  ·simp only [decide_eq_false (by omega:¬ (4096:Int)<((n ^ (i+1):Nat):Int)),aG,aE hi hk,bindO_some]
   exact hn _ _ ⟨rfl,e0,e2,e8,rfl,rfl,hc⟩
  ·simp only [decide_eq_true (by omega:(4096:Int)<((n ^ (i+1):Nat):Int)),aI]
   rw [hr,F.dG.bq]
   simp only [bu,Nat.reduceEqDiff,reduceIte]
   have:=CX h1 (show i+1≤k from hi)
   rw [FR,if_neg (by omega)] at hK
   exact hK
 ·rintro e h' ⟨rfl,e0,e2,e8,e9,e7,hb⟩ K' hx
  rw [F.dG.aN]
  simp only [e8,e9,aV,Nat.reduceAdd,Nat.reduceEqDiff,reduceIte,aR]
  rw [hx,F.dG.aD]
  simp only [e7,bu,Nat.reduceEqDiff,reduceIte]
  rw [FR,if_pos hb] at hK
  exact hK
def HN(n k:Nat):AV:=if 12<k then .tuple [.int .i64 0,.int .i64 2] else if 4096<n ^ k then .tuple [.int .i64 0,.int .i64 5] else .tuple [.int .i64 ((n ^ k:Nat):Int),.int .i64 0]
theorem qB{n k:Nat}(h1:1≤n)(h2:n≤64)(hk:k≤cz){h:ag}{K:Out→ag→Bool}(hK:K (.ret (HN n k)) h=true):Sem Tryz.prog 107 [.int .i64 (n:Int),.int .i64 (k:Int)] h K:=by
 refine F.xy ?_
 simp only [aV,Nat.reduceAdd,Nat.reduceEqDiff,reduceIte,decide_eq_false (by omega:¬ (n:Int)<1),decide_eq_false (by omega:¬ (64:Int)<(n:Int)),decide_eq_false (by omega:¬ (k:Int)<0)]
 unfold HN at hK
 by_cases h12:12<k
 ·rw [if_pos h12] at hK
  simp only [decide_eq_true (by omega:(12:Int)<(k:Int)),aI];exact hK
 ·rw [if_neg h12] at hK
  simp only [decide_eq_false (by omega:¬ (12:Int)<(k:Int)),aG]
  refine ak (dG h1 h2 hk ?_)
  simp only [aV,Nat.reduceAdd,Nat.reduceEqDiff,reduceIte]
  by_cases hc:n ^ k≤4096
  ·rw [if_neg (by omega)] at hK
   simp only [FR,if_pos hc,decide_eq_false (by omega:¬ ((n ^ k:Nat):Int)<0),aG];exact hK
  ·rw [if_pos (by omega)] at hK
   simp only [FR,if_neg hc,decide_eq_true (by omega:(-1:Int)<0),aI];exact hK
theorem FT{b:Nat}{h:ag}{n:Int}(hb:h.get b=some (.cells [.int .i64 n]))(v:Int)(K:Out→ag→Bool)(hK:K (.ret (.bool (Ma n v))) h=true):Sem Tryz.prog 191 ([]++([.int .i64 v]++[.ptr b 0])) h K:=by
 refine F.qb ?_
 simp only [au hb,aV,Nat.reduceAdd,Nat.reduceEqDiff,reduceIte]
 unfold Ma at hK
 by_cases h1:v<0<;>by_cases h2:n≤v<;>simpa [h1,h2] using hK
theorem Ah{n:Int}{x:Sl Int}(hx:x.l.length≤cz){h:ag}{K:Out→ag→Bool}(hK:K (.ret (.bool (gI n x.l))) h=true):Sem Tryz.prog 173 [.int .i64 n,an encI 1 x] h K:=by
 refine Sem.data (r:=.bool (gI n x.l)) ?_ (by simp [AV.pureL,AV.pure,bE gi]) hK
 refine F.sV ?_
 simp only [ou (x:=.int .i64 _) rfl,bindO_some,bG]
 have g0:(ag.alloc ag.empty (.cells [.int .i64 n])).get 0=some (.cells [.int .i64 n]):=aC _ _
 refine ak (vM hx (FT g0) ?_)
 simp only [aV,Nat.reduceAdd,Nat.reduceEqDiff,reduceIte]
 rw [Nh]
 exact de rfl
theorem Ai{l m:List Int}{i:Nat}{a b:Int}(ha:l[i]?=some a)(hb:m[i]?=some b):eV (l.drop i) (m.drop i)=if a=b then eV (l.drop (i+1)) (m.drop (i+1)) else decide (a<b):=by
 have h1:=(List.getElem?_eq_some_iff.1 ha).1
 have h2:=(List.getElem?_eq_some_iff.1 hb).1
 rw [List.drop_eq_getElem_cons h1,List.drop_eq_getElem_cons h2]
 rw [List.getElem?_eq_getElem h1] at ha
 rw [List.getElem?_eq_getElem h2] at hb
 cases ha;cases hb;rfl
theorem ee{x y:Sl Int}(hx:x.l.length≤cz)(hxy:x.l.length=y.l.length){h:ag}{K:Out→ag→Bool}(hK:K (.ret (.bool (eV x.l y.l))) h=true):Sem Tryz.prog 118 [an encI 1 x,an encI 1 y] h K:=by
 refine F.zE ?_
 refine aB 0 x.l.length (Nat.zero_le _) (fun i e h'=>h'=h∧e 0=an encI 1 x∧e 1=an encI 1 y∧e 5 = .int .i64 (i:Int)∧eV x.l y.l=eV (x.l.drop i) (y.l.drop i)) ⟨rfl,rfl,rfl,rfl,rfl⟩ ?_ ?_
 ·rintro i e h' _ hi ⟨rfl,e0,e1,e5,hl⟩ K' hn hx' hr hp
  have hi2:i<y.l.length:=by omega
  have hv:x.l[i]?=some x.l[i]:=List.getElem?_eq_getElem hi
  have hw:y.l[i]?=some y.l[i]:=List.getElem?_eq_getElem hi2
  rw [Ai hv hw] at hl
  generalize x.l[i]=a at hv hl
  generalize y.l[i]=b at hw hl
  rw [F.ee.aN]
  simp only [e0,e1,e5,aV,Nat.reduceAdd,Nat.reduceEqDiff,reduceIte,aY hi,aP x hi,aP y hi2,fF hv,fF hw,cQ]
  by_cases hab:a=b
  ·rw [if_pos hab] at hl
   simp only [decide_eq_true hab,Bool.not_true,aG,aE hi hx,bindO_some]
   exact hn _ _ ⟨rfl,e0,e1,rfl,hl⟩
  ·rw [if_neg hab] at hl
   simp only [decide_eq_false hab,Bool.not_false,aI]
   rw [hr,F.ee.bq]
   simp only [bu,Nat.reduceEqDiff,reduceIte]
   rw [hl] at hK;exact hK
 ·rintro e h' ⟨rfl,e0,e1,e5,hl⟩ K' hx'
  rw [F.ee.aN]
  simp only [e0,e5,aV,Nat.reduceAdd,Nat.reduceEqDiff,reduceIte,aR]
  rw [hx',F.ee.aD]
  rw [List.drop_of_length_le (Nat.le_refl _)] at hl
  rw [hl] at hK;exact hK
theorem BX{a:Int}{h:ag}{K:Out→ag→Bool}(hK:K (.ret (.bool false)) h=true):Sem Tryz.prog 174 [.int .i64 a] h K:=by
 refine F.ur ?_
 simp only [aV,Nat.reduceAdd,Nat.reduceEqDiff,reduceIte,beq_self_eq_true,Bool.not_true]
 exact hK
theorem EB{a b:Int}{h:ag}{K:Out→ag→Bool}(hK:∀ c:Int,(c=0↔a=b)→(c<0↔a<b)→K (.ret (.int .i64 c)) h=true):Sem Tryz.prog 142 [.int .i64 a,.int .i64 b] h K:=by
 refine F.rO ?_
 refine ak (BX ?_)
 simp only [aV,Nat.reduceAdd,Nat.reduceEqDiff,reduceIte]
 refine ak (BX ?_)
 simp only [aV,Nat.reduceAdd,Nat.reduceEqDiff,reduceIte]
 by_cases h1:a<b
 ·simp only [decide_eq_true h1,aI];exact hK _ (by omega) (by omega)
 ·simp only [decide_eq_false h1,aG]
  by_cases h2:b<a
  ·simp only [decide_eq_true h2,aI];exact hK _ (by omega) (by omega)
  ·simp only [decide_eq_false h2,aG];exact hK _ (by omega) (by omega)
theorem Aj{x y:Sl Int}(hx:x.l.length≤cz)(hxy:x.l.length=y.l.length){h:ag}{K:Out→ag→Bool}(hK:∀ c:Int,decide (0≤c) = !(eV x.l y.l)→K (.ret (.int .i64 c)) h=true):Sem Tryz.prog 90 [an encI 1 x,an encI 1 y] h K:=by
 refine F.k9 ?_
 simp only [aV,Nat.reduceAdd,Nat.reduceEqDiff,reduceIte]
 refine aB 0 x.l.length (Nat.zero_le _) (fun i e h'=>h'=h∧e 0=an encI 1 x∧e 1=an encI 1 y∧e 9=an encI 1 x∧e 10 = .int .i64 (x.l.length:Int)∧e 11 = .int .i64 (i:Int)∧eV x.l y.l=eV (x.l.drop i) (y.l.drop i)) ⟨rfl,rfl,rfl,rfl,rfl,rfl,rfl⟩ ?_ ?_
 ·rintro i e h' _ hi ⟨rfl,e0,e1,e9,e10,e11,hl⟩ K' hn hx' hr hp
  have hi2:i<y.l.length:=by omega
  have hv:x.l[i]?=some x.l[i]:=List.getElem?_eq_getElem hi
  have hw:y.l[i]?=some y.l[i]:=List.getElem?_eq_getElem hi2
  rw [Ai hv hw] at hl
  generalize x.l[i]=a at hv hl
  generalize y.l[i]=b at hw hl
  rw [F.bN.aN]
  simp only [e0,e1,e9,e10,e11,aV,Nat.reduceAdd,Nat.reduceEqDiff,reduceIte,aY hi,aP x hi,aP y hi2,fF hv,fF hw,decide_eq_false (by omega:¬ (y.l.length:Int)≤(i:Int))]
  refine ak (EB fun c c1 c2=>?_)
  simp only [aV,Nat.reduceAdd,Nat.reduceEqDiff,reduceIte,cQ]
  by_cases hab:a=b
  ·rw [if_pos hab] at hl
   simp only [decide_eq_true (c1.2 hab),Bool.not_true,aG,aE hi hx,bindO_some]
   exact hn _ _ ⟨rfl,e0,e1,e9,e10,rfl,hl⟩
  ·rw [if_neg hab] at hl
   simp only [decide_eq_false (fun h=>hab (c1.1 h)),Bool.not_false,aI]
   rw [hr,F.bN.bq]
   simp only [bu,Nat.reduceEqDiff,reduceIte]
   refine hK c ?_
   rw [hl]
   by_cases hlt:a<b
   ·rw [decide_eq_true hlt,decide_eq_false (by have:=c2.2 hlt;omega)];rfl
   ·rw [decide_eq_false hlt,decide_eq_true (by have:=mt c2.1 hlt;omega)];rfl
 ·rintro e h' ⟨rfl,e0,e1,e9,e10,e11,hl⟩ K' hx'
  rw [F.bN.aN]
  simp only [e10,e11,aV,Nat.reduceAdd,Nat.reduceEqDiff,reduceIte,aR]
  rw [hx',F.bN.aD]
  simp only [e0,e1,aV,Nat.reduceAdd,Nat.reduceEqDiff,reduceIte,decide_eq_false (by omega:¬ (x.l.length:Int)<(y.l.length:Int))]
  rw [List.drop_of_length_le (Nat.le_refl _)] at hl
  exact hK 0 (by rw [hl];rfl)
structure View {α:Type} (enc:α→List AV) (sz:Nat) (a:AV) (l:List α):Prop where
 len:∀ h:ag,bx .slice a h=some (.int .i64 (l.length:Int))
 at_:∀ (i:Nat) (v:α),l[i]?=some v→∃ cs o,(∀ k:IntKind,cL sz a (.int k (i:Int))=some (.iptr cs o))∧(∀ h:ag,ai (some sz) (.iptr cs o) h=some (.agg (enc v)))∧∀ (m:Nat),m<sz→∀ h:ag,ai none (.iptr cs (o+m)) h=(enc v)[m]?
theorem JD{α:Type}{enc:α→List AV}{sz:Nat}(he:∀ a,(enc a).length=sz)(x:Sl α):View enc sz (an enc sz x) x.l where
 len h:=DO x h
 at_ i v hv:=⟨x.l.flatMap enc,i*sz,fun k=>aP x (List.getElem?_eq_some_iff.1 hv).1,fun h=>dQ he hv,fun m hm h=>eZ he hv hm⟩
theorem HO{α:Type}{enc:α→List AV}{sz:Nat}(he:∀ a,(enc a).length=sz)(x:Sl α){i:Nat}(hi:i≤x.l.length) :
  ∃ a,(∀ k:IntKind,ff (some sz) (an enc sz x) none (some (.int k (i:Int)))=some a)∧View enc sz a (x.l.take i):=by
 cases x with
 |none=>
  simp only [Sl.l_none,List.length_nil,Nat.le_zero_eq] at hi
  subst hi
  exact ⟨.nils,fun k=>by simp [ff,an,jm,kZ,asNat],⟨fun h=>rfl,fun j v hv=>by simp at hv⟩⟩
 |some l=>
  simp only [Sl.l_some] at hi ⊢
  refine ⟨.islice (l.flatMap enc) 0 i sz,fun k=>?_,⟨fun h=>by simp [bx,Nat.min_eq_left hi],fun j v hv=>?_⟩⟩
  ·simp [ff,an,jm,kZ,asNat,hi]
  ·have hj:j<i:=by have:=(List.getElem?_eq_some_iff.1 hv).1;rw [List.length_take] at this;omega
   rw [List.getElem?_take_of_lt hj] at hv
   exact ⟨l.flatMap enc,j*sz,fun k=>by simp [cL,asNat,hj],fun h=>dQ he hv,fun m hm h=>eZ he hv hm⟩
def bt(r:Rel):List AV:=[.str r.name,.int .i64 r.arity,an er 1 r.tuples]
theorem fA(r:Rel):(bt r).length=3:=rfl
theorem qC(r:Rel):AV.pureL (bt r)=true:=by simp [bt,AV.pureL,AV.pure,bE kD]
theorem gz(r:Rel):bL (bt r)=true:=by unfold bt;simp only [bL,jc,Bool.and_true];rfl
def az(s:dJ):List AV:=[.int .i64 s.size,an bt 3 s.rels]
theorem eT(s:dJ):AV.pureL (az s)=true:=by simp [az,AV.pureL,AV.pure,bE qC]
theorem dw(s:dJ):bL (az s)=true:=by unfold az;simp only [bL,jc,Bool.and_true];rfl
theorem lZ{p:Nat→Bool}{n:Nat}(h:∀ j,j<n→p j=true):Be p n=true:=by
 rw [Be,List.all_eq_true];exact fun x hx=>h x (List.mem_range.1 hx)
theorem ic{p:Nat→Bool}{n i:Nat}(hi:i<n)(h:p i=false):Be p n=false:=by
 rw [Bool.eq_false_iff];intro hh
 rw [Be,List.all_eq_true] at hh
 have:=hh i (List.mem_range.2 hi)
 rw [h] at this;cases this
theorem qD{p:Nat→Bool}{n:Nat}(h:Be p n=true){i:Nat}(hi:i<n):p i=true:=by
 rw [Be,List.all_eq_true] at h
 exact h i (List.mem_range.2 hi)
theorem C6{n k:Nat}{l:List (Sl Int)}{i:Nat}{t:Sl Int}(h:jL n k l i=true)(ht:l[i]?=some t):t.l.length=k:=by
 unfold jL at h
 rw [ht] at h
 simp only [Bool.and_eq_true,decide_eq_true_eq] at h
 exact h.1
theorem cG{n k:Nat}{r:Rel}(hr:r.ok)(ha:r.arity=(k:Int)){h:ag}{K:Out→ag→Bool}(hK:K (.ret (.bool (tc n k r.tuples.l))) h=true):Sem Tryz.prog 137 [.int .i64 (n:Int),.agg (bt r)] h K:=by
 refine Sem.data (r:=.bool (tc n k r.tuples.l)) ?_ (by simp [AV.pureL,AV.pure,qC]) hK
 clear hK
 refine F.vp ?_
 have b0:(ag.alloc ag.empty (.cells (bt r))).get 0=some (.cells (bt r)):=aC _ _
 simp only [cY (gz r),bindO_some,bG]
 generalize (ag.alloc ag.empty (.cells (bt r)))=H at b0 ⊢
 have fin:∀ b:Bool,b=tc n k r.tuples.l→mu (.bool (tc n k r.tuples.l)) (.ret (.bool b)) H=true:=fun b hb=>by rw [hb];exact de rfl
 simp only [aV,Nat.reduceAdd,Nat.reduceEqDiff,reduceIte,au b0,bt]
 refine aB 0 r.tuples.l.length (Nat.zero_le _) (fun i e h'=>h'=H∧e 0 = .int .i64 (n:Int)∧e 3 = .ptr 0 0∧e 8=an er 1 r.tuples∧e 9 = .int .i64 (r.tuples.l.length:Int)∧e 10 = .int .i64 (i:Int)∧∀ j,j<i→jL n k r.tuples.l j=true) ⟨rfl,rfl,rfl,rfl,rfl,rfl,fun j hj=>by omega⟩ ?_ ?_
 ·rintro i e h' _ hi ⟨rfl,e0,e3,e8,e9,e10,ht⟩ K' hn hx' hrr hp
  have hv:r.tuples.l[i]?=some r.tuples.l[i]:=List.getElem?_eq_getElem hi
  generalize r.tuples.l[i]=t at hv
  have hto:t.l.length≤cz:=hr.2.2 t (List.mem_of_getElem? hv)
  have bad:jL n k r.tuples.l i=false→F.cG.bY (mu (.bool (tc n k r.tuples.l))) .ret ⟨aa e 4 (.bool false),42,[],h'⟩=true:=fun hb=>by
   rw [F.cG.bq]
   simp only [bu,Nat.reduceEqDiff,reduceIte]
   exact fin _ (ic hi hb).symm
  rw [F.cG.aN]
  simp only [e0,e3,e8,e9,e10,aV,Nat.reduceAdd,Nat.reduceEqDiff,reduceIte,aY hi,aP r.tuples hi,fJ hv,au b0,bt,cQ,ha]
  by_cases h1:t.l.length=k
  ·simp only [decide_eq_true (by omega:(t.l.length:Int)=(k:Int)),Bool.not_true,aG]
   refine ak (Ah hto ?_)
   simp only [aV,Nat.reduceAdd,Nat.reduceEqDiff,reduceIte]
   cases h2:gI n t.l with
   |false=>
    simp only [Bool.not_false,aI]
    rw [hrr,F.cG.bq]
    simp only [bu,Nat.reduceEqDiff,reduceIte]
    exact fin _ (ic hi (by simp [jL,hv,h2])).symm
   |true=>
    simp only [Bool.not_true,aG]
    cases i with
    |zero=>
     simp only [show decide ((0:Int)<((0:Nat):Int))=false from rfl,aG,aE hi hr.2.1,bindO_some]
     refine hn _ _ ⟨rfl,e0,e3,e8,e9,rfl,fun j hj=>?_⟩
     obtain rfl:j=0:=by omega
     simp [jL,hv,h1,h2]
    |succ i=>
     have hi0:i<r.tuples.l.length:=by omega
     have hv0:r.tuples.l[i]?=some r.tuples.l[i]:=List.getElem?_eq_getElem hi0
     generalize r.tuples.l[i]=p at hv0
     have hpl:p.l.length=k:=C6 (ht i (by omega)) hv0
     have hpo:p.l.length≤cz:=hr.2.2 p (List.mem_of_getElem? hv0)
     have hsub:aA .sub (.int .i64 ((i+1:Nat):Int)) (.int .i64 1)=some (.int .i64 (i:Int)):=by
      have:=hr.2.1;unfold cz at this
      rw [og (by omega) (by omega)];congr 2;omega
     simp only [decide_eq_true (by omega:(0:Int)<((i+1:Nat):Int)),aI,aV,Nat.reduceAdd,Nat.reduceEqDiff,reduceIte,e3,au b0,bt,hsub,aP r.tuples hi0,fJ hv0]
     refine ak (Aj hpo (by omega) fun c hc=>?_)
     simp only [aV,Nat.reduceAdd,Nat.reduceEqDiff,reduceIte,hc]
     cases h3:eV p.l t.l with
     |false=>
      simp only [Bool.not_false,aI]
      rw [hrr,F.cG.bq]
      simp only [bu,Nat.reduceEqDiff,reduceIte]
      exact fin _ (ic hi (by simp [jL,hv,hv0,h3])).symm
     |true=>
      simp only [Bool.not_true,aG,aE hi hr.2.1,bindO_some]
      refine hn _ _ ⟨rfl,e0,e3,e8,e9,rfl,fun j hj=>?_⟩
      by_cases hj':j<i+1
      ·exact ht j hj'
      ·obtain rfl:j=i+1:=by omega
       simp [jL,hv,hv0,h1,h2,h3]
  ·simp only [decide_eq_false (by omega:¬ (t.l.length:Int)=(k:Int)),Bool.not_false,aI]
   rw [hrr,F.cG.bq]
   simp only [bu,Nat.reduceEqDiff,reduceIte]
   exact fin _ (ic hi (by simp [jL,hv,h1])).symm
 ·rintro e h' ⟨rfl,e0,e3,e8,e9,e10,ht⟩ K' hx'
  rw [F.cG.aN]
  simp only [e9,e10,aV,Nat.reduceAdd,Nat.reduceEqDiff,reduceIte,aR]
  rw [hx',F.cG.aD]
  exact fin _ (lZ ht).symm
theorem eD{n:Nat}(h1:1≤n)(h2:n≤64){r:Rel}(hr:r.ok){h:ag}{K:Out→ag→Bool}(hK:K (.ret (.bool (lB n r))) h=true):Sem Tryz.prog 60 [.int .i64 (n:Int),.agg (bt r)] h K:=by
 refine Sem.data (r:=.bool (lB n r)) ?_ (by simp [AV.pureL,AV.pure,qC]) hK
 clear hK
 refine F.A4 ?_
 have b0:(ag.alloc ag.empty (.cells (bt r))).get 0=some (.cells (bt r)):=aC _ _
 simp only [cY (gz r),bindO_some,bG]
 generalize (ag.alloc ag.empty (.cells (bt r)))=H at b0 ⊢
 have fin:∀ b:Bool,b=lB n r→mu (.bool (lB n r)) (.ret (.bool b)) H=true:=fun b hb=>by rw [hb];exact de rfl
 simp only [aV,Nat.reduceAdd,Nat.reduceEqDiff,reduceIte,au b0,bt]
 refine ak (dO ?_)
 simp only [aV,Nat.reduceAdd,Nat.reduceEqDiff,reduceIte]
 cases hn:dZ r.name with
 |false=>simp only [Bool.not_false,aI];exact fin _ (by simp [lB,hn])
 |true=>
 simp only [Bool.not_true,aG,aV,Nat.reduceAdd,Nat.reduceEqDiff,reduceIte,au b0,bt]
 by_cases ha:r.arity<0
 ·simp only [decide_eq_true ha,aI];exact fin _ (by rw [lB,decide_eq_false (by omega:¬ 0≤r.arity)];simp)
 simp only [decide_eq_false ha,aG]
 by_cases ha2:12<r.arity
 ·simp only [decide_eq_true ha2,aI];exact fin _ (by rw [lB,decide_eq_false (by omega:¬ r.arity≤12)];simp)
 simp only [decide_eq_false ha2,aG]
 obtain ⟨k,hk⟩:∃ k:Nat,r.arity=(k:Int):=⟨r.arity.toNat,by omega⟩
 rw [hk]
 refine ak (fC h1 h2 (show k≤cz by unfold cz;omega) fun v v1 v2=>?_)
 simp only [aV,Nat.reduceAdd,Nat.reduceEqDiff,reduceIte]
 have hrb:lB n r=(decide (n ^ k≤4096)&&tc n k r.tuples.l):=by
  rw [lB,hn,decide_eq_true (by omega:0≤r.arity),decide_eq_true (by omega:r.arity≤12),hk];rfl
 replace fin:∀ b:Bool,b=(decide (n ^ k≤4096)&&tc n k r.tuples.l)→mu (.bool (lB n r)) (.ret (.bool b)) H=true:=fun b hb=>fin b (hb.trans hrb.symm)
 by_cases hc:n ^ k≤4096
 ·have:=v1 hc
  simp only [decide_eq_false (by omega:¬ (4096:Int)<(v:Int)),aG]
  replace fin:∀ b:Bool,b=tc n k r.tuples.l→mu (.bool (lB n r)) (.ret (.bool b)) H=true:=fun b hb=>fin b (by rw [decide_eq_true hc,Bool.true_and];exact hb)
  refine aB 0 r.tuples.l.length (Nat.zero_le _) (fun i e h'=>h'=H∧e 0 = .int .i64 (n:Int)∧e 3 = .ptr 0 0∧e 5 = .int .i64 (i:Int)∧∀ j,j<i→jL n k r.tuples.l j=true) ⟨rfl,rfl,rfl,rfl,fun j hj=>by omega⟩ ?_ ?_
  ·rintro i e h' _ hi ⟨rfl,e0,e3,e5,ht⟩ K' hn hx' hrr hp
   have hv:r.tuples.l[i]?=some r.tuples.l[i]:=List.getElem?_eq_getElem hi
   generalize r.tuples.l[i]=t at hv
   have hto:t.l.length≤cz:=hr.2.2 t (List.mem_of_getElem? hv)
   rw [F.eD.aN]
   simp only [e0,e3,e5,aV,Nat.reduceAdd,Nat.reduceEqDiff,reduceIte,au b0,bt,aY hi,aP r.tuples hi,fJ hv,cQ,hk]
   by_cases q1:t.l.length=k
   ·simp only [decide_eq_true (by omega:(t.l.length:Int)=(k:Int)),Bool.not_true,aG]
    refine ak (fE hto ?_)
    simp only [aV,Nat.reduceAdd,Nat.reduceEqDiff,reduceIte]
    cases q2:gI n t.l with
    |false=>
     simp only [Bool.not_false,aI]
     rw [hrr,F.eD.bq]
     simp only [bu,Nat.reduceEqDiff,reduceIte]
     exact fin _ (ic hi (by simp [jL,hv,q2])).symm
    |true=>
     simp only [Bool.not_true,aG]
     cases i with
     |zero=>
      simp only [show decide ((0:Int)<((0:Nat):Int))=false from rfl,aG,aE hi hr.2.1,bindO_some]
      refine hn _ _ ⟨rfl,e0,e3,rfl,fun j hj=>?_⟩
      obtain rfl:j=0:=by omega
      simp [jL,hv,q1,q2]
     |succ i=>
      have hi0:i<r.tuples.l.length:=by omega
      have hv0:r.tuples.l[i]?=some r.tuples.l[i]:=List.getElem?_eq_getElem hi0
      generalize r.tuples.l[i]=p at hv0
      have hpl:p.l.length=k:=C6 (ht i (by omega)) hv0
      have hpo:p.l.length≤cz:=hr.2.2 p (List.mem_of_getElem? hv0)
      have hsub:aA .sub (.int .i64 ((i+1:Nat):Int)) (.int .i64 1)=some (.int .i64 (i:Int)):=by
       have:=hr.2.1;unfold cz at this
       rw [og (by omega) (by omega)];congr 2;omega
      simp only [decide_eq_true (by omega:(0:Int)<((i+1:Nat):Int)),aI,aV,Nat.reduceAdd,Nat.reduceEqDiff,reduceIte,e3,e5,au b0,bt,hsub,aP r.tuples hi0,aP r.tuples hi,fJ hv0,fJ hv]
      refine ak (ee hpo (by omega) ?_)
      simp only [aV,Nat.reduceAdd,Nat.reduceEqDiff,reduceIte]
      cases q3:eV p.l t.l with
      |false=>
       simp only [Bool.not_false,aI]
       rw [hrr,F.eD.bq]
       simp only [bu,Nat.reduceEqDiff,reduceIte]
       exact fin _ (ic hi (by simp [jL,hv,hv0,q3])).symm
      |true=>
       simp only [Bool.not_true,aG,aE hi hr.2.1,bindO_some]
       refine hn _ _ ⟨rfl,e0,e3,rfl,fun j hj=>?_⟩
       by_cases hj':j<i+1
       ·exact ht j hj'
       ·obtain rfl:j=i+1:=by omega
        simp [jL,hv,hv0,q1,q2,q3]
   ·simp only [decide_eq_false (by omega:¬ (t.l.length:Int)=(k:Int)),Bool.not_false,aI]
    rw [hrr,F.eD.bq]
    simp only [bu,Nat.reduceEqDiff,reduceIte]
    exact fin _ (ic hi (by simp [jL,hv,q1])).symm
  ·rintro e h' ⟨rfl,e0,e3,e5,ht⟩ K' hx'
   rw [F.eD.aN]
   simp only [e3,e5,aV,Nat.reduceAdd,Nat.reduceEqDiff,reduceIte,au b0,bt,aR]
   rw [hx',F.eD.aD]
   exact fin _ (lZ ht).symm
 ·have:=v2 (by omega)
  simp only [decide_eq_true (by omega:(4096:Int)<(v:Int)),aI]
  exact fin _ (by rw [decide_eq_false hc];rfl)
def qE{α:Type}(p:α→Bool):List α→Nat→Int
 |[],_=>-1
 |x :: l,i=>if p x=true then (i:Int) else qE p l (i+1)
def jF{α:Type}(p:α→Bool)(l:List α):Int:=qE p l 0
theorem EC{α:Type}{p:α→Bool}{l:List α}{i:Nat}{v:α}(hv:l[i]?=some v):qE p (l.drop i) i=if p v=true then (i:Int) else qE p (l.drop (i+1)) (i+1):=by
 have h1:=(List.getElem?_eq_some_iff.1 hv).1
 rw [List.drop_eq_getElem_cons h1]
 rw [List.getElem?_eq_getElem h1] at hv
 cases hv;rfl
theorem BY{α:Type}(p:α→Bool):∀ (l:List α) (i:Nat),decide (0≤qE p l i)=l.any p
 |[],i=>rfl
 |x :: l,i=>by
  rw [qE,List.any_cons]
  cases hp:p x with
  |true=>simp
  |false=>simpa using BY p l (i+1)
theorem FU{α:Type}(p:α→Bool)(l:List α):decide (0≤jF p l)=l.any p:=BY p l 0
theorem se{x:AV}{l:List Rel}(hv:View bt 3 x l)(hl:l.length≤cz){g:FuncId}{a b:List AV}{h:ag}{p:Rel→Bool}
  (hp:∀ (v:Rel) (h':ag),bT h h'→∀ (K:Out→ag→Bool),(∀ h'',bT h' h''→K (.ret (.bool (p v))) h''=true)→Sem Tryz.prog g (a++([.agg (bt v)]++b)) h' K)
  {K:Out→ag→Bool} (hK:∀ h',bT h h'→K (.ret (.int .i64 (jF p l))) h'=true):Sem Tryz.prog 140 [x,.func g a b] h K:=by
 refine F.iT ?_
 simp only [hv.len,bindO_some]
 refine aB 0 l.length (Nat.zero_le _) (fun i e h'=>bT h h'∧e 0=x∧e 1 = .func g a b∧e 7 = .int .i64 (l.length:Int)∧e 8 = .int .i64 (i:Int)∧jF p l=qE p (l.drop i) i) ⟨bT.refl _,rfl,rfl,rfl,rfl,rfl⟩ ?_ ?_
 ·rintro i e h' _ hi ⟨hx,e0,e1,e7,e8,ht⟩ K' hn hx' hr hp'
  have hvi:l[i]?=some l[i]:=List.getElem?_eq_getElem hi
  generalize l[i]=v at hvi
  obtain ⟨cs,o,v1,v2,_⟩:=hv.at_ i v hvi
  rw [EC hvi] at ht
  rw [F.aX.aN]
  simp only [e0,e1,e7,e8,aV,Nat.reduceAdd,Nat.reduceEqDiff,reduceIte,aY hi,v1,v2,callV_func]
  refine ak (hp v h' hx _ fun h'' hx2=>?_)
  simp only [aV,Nat.reduceAdd,Nat.reduceEqDiff,reduceIte]
  cases hq:p v with
  |true=>
   simp only [aI]
   rw [hr,F.aX.bq]
   simp only [bu,Nat.reduceEqDiff,reduceIte]
   rw [if_pos hq] at ht
   rw [ht] at hK
   exact hK _ (hx.trans hx2)
  |false=>
   simp only [aG,aE hi hl,bindO_some]
   rw [if_neg (by rw [hq];decide)] at ht
   exact hn _ _ ⟨hx.trans hx2,e0,e1,e7,rfl,ht⟩
 ·rintro e h' ⟨hx,e0,e1,e7,e8,ht⟩ K' hx'
  rw [F.aX.aN]
  simp only [e0,e1,e7,e8,aV,Nat.reduceAdd,Nat.reduceEqDiff,reduceIte,aR]
  rw [hx',F.aX.aD]
  rw [List.drop_of_length_le (Nat.le_refl _)] at ht
  rw [ht] at hK
  exact hK _ hx
theorem vN{x:AV}{l:List Rel}(hv:View bt 3 x l)(hl:l.length≤cz){g:FuncId}{a b:List AV}{h:ag}{p:Rel→Bool}
  (hp:∀ (v:Rel) (h':ag),bT h h'→∀ (K:Out→ag→Bool),(∀ h'',bT h' h''→K (.ret (.bool (p v))) h''=true)→Sem Tryz.prog g (a++([.agg (bt v)]++b)) h' K)
  {K:Out→ag→Bool} (hK:∀ h',bT h h'→K (.ret (.bool (l.any p))) h'=true):Sem Tryz.prog 138 [x,.func g a b] h K:=by
 refine F.iu ?_
 refine ak (se hv hl hp fun h' hx=>?_)
 simp only [aV,Nat.reduceAdd,Nat.reduceEqDiff,reduceIte]
 rw [FU]
 exact hK _ hx
theorem GS{s:dJ}{i:Nat}{r:Rel}(hr:s.rels.l[i]?=some r){h:ag}:ai (some 3) (.iptr (s.rels.l.flatMap bt) (i*3)) h=some (.agg (bt r)):=dQ fA hr
theorem Mb{b:Nat}{r v:Rel}{h:ag}(hb:h.get b=some (.cells (bt r)))(hbn:b<h.next)(h':ag)(hx:bT h h')(K:Out→ag→Bool)(hK:∀ h'',bT h' h''→K (.ret (.bool (v.name==r.name))) h''=true) :
  Sem Tryz.prog 139 ([]++([.agg (bt v)]++[.ptr b 0])) h' K:=by
 refine F.uq ?_
 have hb':h'.get b=some (.cells (bt r)):=by rw [hx.get b hbn];exact hb
 have hx2:bT h' (ag.alloc h' (.cells (bt v))):=bT.alloc _ _
 have g0:(ag.alloc h' (.cells (bt v))).get h'.next=some (.cells (bt v)):=aC _ _
 have g1:(ag.alloc h' (.cells (bt v))).get b=some (.cells (bt r)):=by rw [hx2.get b (Nat.lt_of_lt_of_le hbn hx.next)];exact hb'
 simp only [cY (gz v),bindO_some]
 generalize (ag.alloc h' (.cells (bt v)))=H at g0 g1 hx2 ⊢
 simp only [aV,Nat.reduceAdd,Nat.reduceEqDiff,reduceIte,au g0,au g1]
 rw [show (bt v)[0]?=some (.str v.name) from rfl,show (bt r)[0]?=some (.str r.name) from rfl]
 simp only [aV,Nat.reduceAdd,Nat.reduceEqDiff,reduceIte]
 exact hK _ hx2
theorem dF{s:dJ}(hs:s.ok){h:ag}{K:Out→ag→Bool}(hK:K (.ret (.bool (cT s))) h=true):Sem Tryz.prog 87 [.agg (az s)] h K:=by
 refine Sem.data (r:=.bool (cT s)) ?_ (by simp [AV.pureL,AV.pure,eT]) hK
 clear hK
 refine F.xx ?_
 have b0:(ag.alloc ag.empty (.cells (az s))).get 0=some (.cells (az s)):=aC _ _
 have bn:1≤(ag.alloc ag.empty (.cells (az s))).next:=Nat.le_refl _
 simp only [cY (dw s),bindO_some,bG]
 generalize (ag.alloc ag.empty (.cells (az s)))=H at b0 bn ⊢
 have fin:∀ (b:Bool) (H:ag),b=cT s→mu (.bool (cT s)) (.ret (.bool b)) H=true:=fun b H hb=>by rw [hb];exact de rfl
 generalize mu (.bool (cT s))=K at fin ⊢
 simp only [aV,Nat.reduceAdd,Nat.reduceEqDiff,reduceIte,au b0,az]
 by_cases s1:s.size<1
 ·simp only [decide_eq_true s1,aI];exact fin _ _ (by rw [cT,decide_eq_false (by omega:¬ 1≤s.size),Bool.false_and])
 simp only [decide_eq_false s1,aG]
 by_cases s2:64<s.size
 ·simp only [decide_eq_true s2,aI];exact fin _ _ (by rw [cT,decide_eq_false (by omega:¬ s.size≤64),Bool.false_and,Bool.and_false])
 simp only [decide_eq_false s2,aG]
 by_cases s3:8<s.rels.l.length
 ·simp only [decide_eq_true (by omega:(8:Int)<(s.rels.l.length:Int)),aI];exact fin _ _ (by rw [cT,decide_eq_false (by omega:¬ s.rels.l.length≤8),Bool.false_and,Bool.and_false,Bool.and_false])
 simp only [decide_eq_false (by omega:¬ (8:Int)<(s.rels.l.length:Int)),aG]
 replace fin:∀ (b:Bool) (H:ag),b=Be (mG s) s.rels.l.length→K (.ret (.bool b)) H=true:=fun b H hb=>fin b H (by
  rw [cT,decide_eq_true (by omega:1≤s.size),decide_eq_true (by omega:s.size≤64),decide_eq_true (by omega:s.rels.l.length≤8)];exact hb)
 obtain ⟨n,hn⟩:∃ n:Nat,s.size=(n:Int):=⟨s.size.toNat,by omega⟩
 have hn':s.size.toNat=n:=by omega
 refine aB 0 s.rels.l.length (Nat.zero_le _) (fun i e h'=>h'.get 0=some (.cells (az s))∧1≤h'.next∧e 1 = .ptr 0 0∧e 20=an bt 3 s.rels∧e 21 = .int .i64 (s.rels.l.length:Int)∧e 22 = .int .i64 (i:Int)∧∀ j,j<i→mG s j=true) ⟨b0,bn,rfl,rfl,rfl,rfl,fun j hj=>by omega⟩ ?_ ?_
 ·rintro i e h' _ hi ⟨q0,qn,e1,e20,e21,e22,ht⟩ K' hnx hx' hrr hp
  have hv:s.rels.l[i]?=some s.rels.l[i]:=List.getElem?_eq_getElem hi
  generalize s.rels.l[i]=r at hv
  have hro:r.ok:=hs.2 r (List.mem_of_getElem? hv)
  have hat:mG s i=(lB n r&&!((s.rels.l.take i).any fun q=>q.name==r.name)):=by rw [mG,hv,hn']
  have bad:∀ (e:Env) (h:ag),mG s i=false→e 2 = .bool false→F.dF.bY K .ret ⟨e,63,[],h⟩=true:=fun e h hb he=>by
   rw [F.dF.bq,he]
   exact fin _ _ (ic hi hb).symm
  obtain ⟨H,hst,g1,go,gn⟩:=cO (h:=h') (zs:=[.str [],.int .i64 0,.nils]) (cs:=bt r) (n:=3) rfl rfl (gz r)
  have p0:H.get 0=some (.cells (az s)):=by rw [go _ (by omega)];exact q0
  rw [F.dF.aN]
  simp only [e1,e20,e21,e22,aV,Nat.reduceAdd,Nat.reduceEqDiff,reduceIte,aY hi,aP s.rels hi,GS hv,hst,au g1,dA (fA r)]
  rw [show (bt r)[0]?=some (.str r.name) from rfl]
  simp only [aV,Nat.reduceAdd,Nat.reduceEqDiff,reduceIte]
  refine ak (dz ?_)
  simp only [aV,Nat.reduceAdd,Nat.reduceEqDiff,reduceIte]
  cases w1:dZ r.name with
  |false=>
   simp only [Bool.not_false,aI]
   rw [hrr]
   exact bad _ _ (by rw [hat,lB,w1];simp) rfl
  |true=>
  simp only [Bool.not_true,aG,aV,Nat.reduceAdd,Nat.reduceEqDiff,reduceIte,au g1]
  rw [show (bt r)[1]?=some (.int .i64 r.arity) from rfl]
  simp only [aV,Nat.reduceAdd,Nat.reduceEqDiff,reduceIte]
  by_cases w2:r.arity<0
  ·simp only [decide_eq_true w2,aI]
   rw [hrr]
   exact bad _ _ (by rw [hat,lB,decide_eq_false (by omega:¬ 0≤r.arity)];simp) rfl
  simp only [decide_eq_false w2,aG]
  by_cases w3:12<r.arity
  ·simp only [decide_eq_true w3,aI]
   rw [hrr]
   exact bad _ _ (by rw [hat,lB,decide_eq_false (by omega:¬ r.arity≤12)];simp) rfl
  simp only [decide_eq_false w3,aG,au p0,aV,Nat.reduceAdd,Nat.reduceEqDiff,reduceIte,e1]
  rw [show (az s)[0]?=some (.int .i64 s.size) from rfl]
  obtain ⟨k,hk⟩:∃ k:Nat,r.arity=(k:Int):=⟨r.arity.toNat,by omega⟩
  simp only [aV,Nat.reduceAdd,Nat.reduceEqDiff,reduceIte,hn,hk]
  refine ak (dG (by omega) (by omega) (show k≤cz by unfold cz;omega) ?_)
  simp only [aV,Nat.reduceAdd,Nat.reduceEqDiff,reduceIte]
  have hat2:mG s i=(decide (n ^ k≤4096)&&tc n k r.tuples.l&&!((s.rels.l.take i).any fun q=>q.name==r.name)):=by
   rw [hat,lB,w1,decide_eq_true (by omega:0≤r.arity),decide_eq_true (by omega:r.arity≤12),hk];simp
  by_cases w4:n ^ k≤4096
  ·simp only [FR,if_pos w4,decide_eq_false (by omega:¬ ((n ^ k:Nat):Int)<0),aG,aV,Nat.reduceAdd,Nat.reduceEqDiff,reduceIte,au p0,au g1,dA (fA r),e1]
   rw [show (az s)[0]?=some (.int .i64 s.size) from rfl]
   simp only [aV,Nat.reduceAdd,Nat.reduceEqDiff,reduceIte,hn]
   refine ak (cG hro hk ?_)
   simp only [aV,Nat.reduceAdd,Nat.reduceEqDiff,reduceIte]
   cases w5:tc n k r.tuples.l with
   |false=>
    simp only [Bool.not_false,aI]
    rw [hrr]
    exact bad _ _ (by rw [hat2,w5];simp) rfl
   |true=>
   simp only [Bool.not_true,aG,aV,Nat.reduceAdd,Nat.reduceEqDiff,reduceIte,au p0,e1]
   rw [show (az s)[1]?=some (an bt 3 s.rels) from rfl]
   obtain ⟨a,ha,hva⟩:=HO fA s.rels (Nat.le_of_lt hi)
   simp only [aV,Nat.reduceAdd,Nat.reduceEqDiff,reduceIte,ha]
   have hlt:(s.rels.l.take i).length≤cz:=by rw [List.length_take];have:=hs.1;omega
   refine ak (vN (p:=fun q=>q.name==r.name) hva hlt (fun v h2 hx2 K2 hK2=>Mb g1 (by omega) h2 hx2 K2 hK2) fun h2 hx2=>?_)
   simp only [aV,Nat.reduceAdd,Nat.reduceEqDiff,reduceIte]
   cases w6:(s.rels.l.take i).any fun q=>q.name==r.name with
   |true=>
    simp only [aI]
    rw [hrr]
    exact bad _ _ (by rw [hat2,w6];simp) rfl
   |false=>
    simp only [aG,aE hi hs.1,bindO_some,e22]
    refine hnx _ _ ⟨by rw [hx2.get 0 (by omega)];exact p0,by have:=hx2.next;omega,e1,e20,e21,rfl,fun j hj=>?_⟩
    by_cases hj':j<i
    ·exact ht j hj'
    ·obtain rfl:j=i:=by omega
     rw [hat2,w5,w6,decide_eq_true w4];rfl
  ·simp only [FR,if_neg w4,decide_eq_true (by omega:(-1:Int)<0),aI]
   rw [hrr]
   exact bad _ _ (by rw [hat2,decide_eq_false w4];simp) rfl
 ·rintro e h' ⟨q0,qn,e1,e20,e21,e22,ht⟩ K' hx'
  rw [F.dF.aN]
  simp only [e21,e22,aV,Nat.reduceAdd,Nat.reduceEqDiff,reduceIte,aR]
  rw [hx',F.dF.aD]
  exact fin _ _ (lZ ht).symm
theorem JE{α:Type}{p:α→Bool}{l:List α}{i k:Nat}{a:α}(ha:l[i]?=some a)(hi:i<k)(hp:p a=true):(l.take k).any p=true:=by
 rw [List.any_eq_true]
 exact ⟨a,List.mem_of_getElem? (by rw [List.getElem?_take_of_lt hi];exact ha),hp⟩
theorem jZ{s:dJ}{i:Nat}{r:Rel}(hr:s.rels.l[i]?=some r){h:ag}:ai none (.iptr (s.rels.l.flatMap bt) (i*3)) h=some (.str r.name):=by
 have:=eZ (h:=h) fA hr (k:=0) (by omega)
 rw [Nat.add_zero] at this
 rw [this];rfl
theorem bZ{s:dJ}(hs:s.ok){h:ag}{K:Out→ag→Bool}(hK:K (.ret (.bool (cT s))) h=true):Sem Tryz.prog 17 [.agg (az s)] h K:=by
 refine Sem.data (r:=.bool (cT s)) ?_ (by simp [AV.pureL,AV.pure,eT]) hK
 clear hK
 refine F.xu ?_
 have b0:(ag.alloc ag.empty (.cells (az s))).get 0=some (.cells (az s)):=aC _ _
 simp only [cY (dw s),bindO_some,bG]
 generalize (ag.alloc ag.empty (.cells (az s)))=H at b0 ⊢
 have fin:∀ (b:Bool),b=cT s→mu (.bool (cT s)) (.ret (.bool b)) H=true:=fun b hb=>by rw [hb];exact de rfl
 generalize mu (.bool (cT s))=K at fin ⊢
 have ls:ai none (.ptr 0 0) H=some (.int .i64 s.size):=by rw [au b0];rfl
 have lr:ai none (.ptr 0 (0+1)) H=some (an bt 3 s.rels):=by rw [au b0];rfl
 rw [Nat.zero_add] at lr
 simp only [aV,Nat.reduceAdd,Nat.reduceEqDiff,reduceIte,ls,lr]
 by_cases s1:s.size<1
 ·simp only [decide_eq_true s1,aI];exact fin _ (by rw [cT,decide_eq_false (by omega:¬ 1≤s.size),Bool.false_and])
 simp only [decide_eq_false s1,aG]
 by_cases s2:64<s.size
 ·simp only [decide_eq_true s2,aI];exact fin _ (by rw [cT,decide_eq_false (by omega:¬ s.size≤64),Bool.false_and,Bool.and_false])
 simp only [decide_eq_false s2,aG]
 by_cases s3:8<s.rels.l.length
 ·simp only [decide_eq_true (by omega:(8:Int)<(s.rels.l.length:Int)),aI];exact fin _ (by rw [cT,decide_eq_false (by omega:¬ s.rels.l.length≤8),Bool.false_and,Bool.and_false,Bool.and_false])
 simp only [decide_eq_false (by omega:¬ (8:Int)<(s.rels.l.length:Int)),aG]
 replace fin:∀ (b:Bool),b=Be (mG s) s.rels.l.length→K (.ret (.bool b)) H=true:=fun b hb=>fin b (by
  rw [cT,decide_eq_true (by omega:1≤s.size),decide_eq_true (by omega:s.size≤64),decide_eq_true (by omega:s.rels.l.length≤8)];exact hb)
 obtain ⟨n,hn⟩:∃ n:Nat,s.size=(n:Int):=⟨s.size.toNat,by omega⟩
 have hn':s.size.toNat=n:=by omega
 rw [hn] at ls
 refine aB 0 s.rels.l.length (Nat.zero_le _) (fun i e h'=>h'=H∧e 1 = .ptr 0 0∧e 3 = .int .i64 (i:Int)∧∀ j,j<i→mG s j=true) ⟨rfl,rfl,rfl,fun j hj=>by omega⟩ ?_ ?_
 ·rintro i e h' _ hi ⟨rfl,e1,e3,ht⟩ K' hnx hx' hrr hp
  have hv:s.rels.l[i]?=some s.rels.l[i]:=List.getElem?_eq_getElem hi
  generalize s.rels.l[i]=r at hv
  have hro:r.ok:=hs.2 r (List.mem_of_getElem? hv)
  have hat:mG s i=(lB n r&&!((s.rels.l.take i).any fun q=>q.name==r.name)):=by rw [mG,hv,hn']
  have bad:∀ (e:Env),mG s i=false→e 2 = .bool false→F.bZ.bY K .ret ⟨e,53,[],h'⟩=true:=fun e hb he=>by
   rw [F.bZ.bq,he]
   exact fin _ (ic hi hb).symm
  rw [F.bZ.aN]
  simp only [e1,e3,aV,Nat.reduceAdd,Nat.reduceEqDiff,reduceIte,ls,lr,aY hi,aP s.rels hi,GS hv]
  refine ak (eD (by omega) (by omega) hro ?_)
  simp only [aV,Nat.reduceAdd,Nat.reduceEqDiff,reduceIte]
  cases w1:lB n r with
  |false=>
   simp only [Bool.not_false,aI]
   rw [hrr]
   exact bad _ (by rw [hat,w1,Bool.false_and]) rfl
  |true=>
  simp only [Bool.not_true,aG]
  refine aB 0 i (Nat.zero_le _) (fun k e h2=>h2=h'∧e 1 = .ptr 0 0∧e 3 = .int .i64 (i:Int)∧e 4 = .int .i64 (k:Int)∧((s.rels.l.take k).any fun q=>q.name==r.name)=false) ⟨rfl,e1,e3,rfl,rfl⟩ ?_ ?_
  ·rintro k e h2 _ hk ⟨rfl,e1,e3,e4,hk2⟩ K2 hn2 hx2 hr2 hp2
   have hki:k<s.rels.l.length:=by omega
   have hvk:s.rels.l[k]?=some s.rels.l[k]:=List.getElem?_eq_getElem hki
   generalize s.rels.l[k]=q at hvk
   rw [F.bZ.cP]
   simp only [e1,e3,e4,aV,Nat.reduceAdd,Nat.reduceEqDiff,reduceIte,lr,aY hk,aP s.rels hi,aP s.rels hki,jZ hv,jZ hvk]
   cases w2:q.name==r.name with
   |true=>
    simp only [aI]
    rw [hr2,F.bZ.fY,hrr]
    exact bad _ (by rw [hat,JE hvk hk w2];simp) rfl
   |false=>
    simp only [aG,aE hk (by have:=hs.1;omega),bindO_some]
    exact hn2 _ _ ⟨rfl,e1,e3,rfl,qj hvk hk2 w2⟩
  ·rintro e h2 ⟨rfl,e1,e3,e4,hk2⟩ K2 hx2
   rw [F.bZ.cP]
   simp only [e3,e4,aV,Nat.reduceAdd,Nat.reduceEqDiff,reduceIte,aR]
   rw [hx2,F.bZ.b8]
   simp only [aV,Nat.reduceAdd,Nat.reduceEqDiff,reduceIte,e3,aE hi hs.1]
   refine hnx _ _ ⟨rfl,e1,rfl,fun j hj=>?_⟩
   by_cases hj':j<i
   ·exact ht j hj'
   ·obtain rfl:j=i:=by omega
    rw [hat,w1,hk2];rfl
 ·rintro e h' ⟨rfl,e1,e3,ht⟩ K' hx'
  rw [F.bZ.aN]
  simp only [e1,e3,aV,Nat.reduceAdd,Nat.reduceEqDiff,reduceIte,lr,aR]
  rw [hx',F.bZ.aD]
  exact fin _ (lZ ht).symm
def kI(nm:bI)(k:Int)(q:Rel):Bool:=(q.name==nm)&&decide (q.arity=k)
def dX(nm:bI)(q:Rel):Bool:=q.name==nm
theorem dS{s:dJ}(hs:s.ok){nm:bI}{h:ag}{K:Out→ag→Bool}(hK:K (.ret (.int .i64 (jF (dX nm) s.rels.l))) h=true):Sem Tryz.prog 54 [.agg (az s),.str nm] h K:=by
 refine Sem.data (r:=.int .i64 (jF (dX nm) s.rels.l)) ?_ (by simp [AV.pureL,AV.pure,eT]) hK
 clear hK
 refine F.zA ?_
 have b0:(ag.alloc ag.empty (.cells (az s))).get 0=some (.cells (az s)):=aC _ _
 simp only [cY (dw s),bindO_some,bG]
 generalize (ag.alloc ag.empty (.cells (az s)))=H at b0 ⊢
 have fin:∀ b:Int,b=jF (dX nm) s.rels.l→mu (.int .i64 (jF (dX nm) s.rels.l)) (.ret (.int .i64 b)) H=true:=fun b hb=>by rw [hb];exact de rfl
 have lr:ai none (.ptr 0 1) H=some (an bt 3 s.rels):=by rw [au b0];rfl
 refine aB 0 s.rels.l.length (Nat.zero_le _) (fun i e h'=>h'=H∧e 1 = .str nm∧e 2 = .ptr 0 0∧e 5 = .int .i64 (i:Int)∧jF (dX nm) s.rels.l=qE (dX nm) (s.rels.l.drop i) i) ⟨rfl,rfl,rfl,rfl,rfl⟩ ?_ ?_
 ·rintro i e h' _ hi ⟨rfl,e1,e2,e5,ht⟩ K' hn hx' hr hp
  have hv:s.rels.l[i]?=some s.rels.l[i]:=List.getElem?_eq_getElem hi
  generalize s.rels.l[i]=r at hv
  rw [EC hv] at ht
  rw [F.dS.aN]
  simp only [e1,e2,e5,aV,Nat.reduceAdd,Nat.reduceEqDiff,reduceIte,lr,aY hi,aP s.rels hi,jZ hv]
  cases hq:r.name==nm with
  |true=>
   simp only [aI]
   rw [hr,F.dS.bq]
   rw [if_pos (show dX nm r=true from hq)] at ht
   simp only [bu,Nat.reduceEqDiff,reduceIte,e5]
   exact fin _ ht.symm
  |false=>
   simp only [aG,aE hi hs.1,bindO_some]
   rw [if_neg (by rw [dX,hq];decide)] at ht
   exact hn _ _ ⟨rfl,e1,e2,rfl,ht⟩
 ·rintro e h' ⟨rfl,e1,e2,e5,ht⟩ K' hx'
  rw [F.dS.aN]
  simp only [e1,e2,e5,aV,Nat.reduceAdd,Nat.reduceEqDiff,reduceIte,lr,aR]
  rw [hx',F.dS.aD]
  rw [List.drop_of_length_le (Nat.le_refl _)] at ht
  exact fin _ ht.symm
theorem Ni{b1 b2:Nat}{v:Rel}{nm:bI}{k:Int}{h:ag}(g1:h.get b1=some (.cells [.str nm]))(g2:h.get b2=some (.cells [.int .i64 k]))(n1:b1<h.next)(n2:b2<h.next)(h':ag)(hx:bT h h')(K:Out→ag→Bool)(hK:∀ h'',bT h' h''→K (.ret (.bool (kI nm k v))) h''=true) :
  Sem Tryz.prog 141 ([]++([.agg (bt v)]++[.ptr b1 0,.ptr b2 0])) h' K:=by
 refine F.vr ?_
 have hx2:bT h' (ag.alloc h' (.cells (bt v))):=bT.alloc _ _
 have g0:(ag.alloc h' (.cells (bt v))).get h'.next=some (.cells (bt v)):=aC _ _
 have q1:(ag.alloc h' (.cells (bt v))).get b1=some (.cells [.str nm]):=by rw [hx2.get b1 (Nat.lt_of_lt_of_le n1 hx.next),hx.get b1 n1];exact g1
 have q2:(ag.alloc h' (.cells (bt v))).get b2=some (.cells [.int .i64 k]):=by rw [hx2.get b2 (Nat.lt_of_lt_of_le n2 hx.next),hx.get b2 n2];exact g2
 simp only [cY (gz v),bindO_some]
 generalize (ag.alloc h' (.cells (bt v)))=H at g0 q1 q2 hx2 ⊢
 simp only [aV,Nat.reduceAdd,Nat.reduceEqDiff,reduceIte,au g0,au q1,au q2]
 rw [show (bt v)[0]?=some (.str v.name) from rfl,show (bt v)[1]?=some (.int .i64 v.arity) from rfl]
 simp only [aV,Nat.reduceAdd,Nat.reduceEqDiff,reduceIte,cQ]
 have:=hK _ hx2
 unfold kI at this
 cases hq:v.name==nm with
 |true=>simp only [aI];rw [hq,Bool.true_and] at this;exact this
 |false=>simp only [aG];rw [hq,Bool.false_and] at this;exact this
theorem FV{s:dJ}(hs:s.ok){nm:bI}{k:Int}{h:ag}{K:Out→ag→Bool}(hK:K (.ret (.int .i64 (jF (kI nm k) s.rels.l))) h=true):Sem Tryz.prog 88 [.agg (az s),.str nm,.int .i64 k] h K:=by
 refine Sem.data (r:=.int .i64 (jF (kI nm k) s.rels.l)) ?_ (by simp [AV.pureL,AV.pure,eT]) hK
 clear hK
 refine F.zC ?_
 simp only [cY (dw s),ou (x:=.int .i64 _) rfl,ou (x:=.str _) rfl,bindO_some,bG,ag.next_alloc]
 have g0:(ag.alloc (ag.alloc (ag.alloc ag.empty (.cells (az s))) (.cells [.str nm])) (.cells [.int .i64 k])).get 0=some (.cells (az s)):=by simp [ag.aW,bG]
 have g1:(ag.alloc (ag.alloc (ag.alloc ag.empty (.cells (az s))) (.cells [.str nm])) (.cells [.int .i64 k])).get 1=some (.cells [.str nm]):=by simp [ag.aW,bG]
 have g2:(ag.alloc (ag.alloc (ag.alloc ag.empty (.cells (az s))) (.cells [.str nm])) (.cells [.int .i64 k])).get 2=some (.cells [.int .i64 k]):=by simp [ag.aW,bG]
 have gn:(ag.alloc (ag.alloc (ag.alloc ag.empty (.cells (az s))) (.cells [.str nm])) (.cells [.int .i64 k])).next=3:=rfl
 generalize (ag.alloc (ag.alloc (ag.alloc ag.empty (.cells (az s))) (.cells [.str nm])) (.cells [.int .i64 k]))=H at g0 g1 g2 gn ⊢
 have lr:ai none (.ptr 0 1) H=some (an bt 3 s.rels):=by rw [au g0];rfl
 simp only [aV,Nat.reduceAdd,Nat.reduceEqDiff,reduceIte,lr]
 refine ak (se (JD fA s.rels) hs.1 (p:=kI nm k) (fun v h2 hx2 K2 hK2=>Ni g1 g2 (by omega) (by omega) h2 hx2 K2 hK2) fun h2 hx2=>?_)
 simp only [aV,Nat.reduceAdd,Nat.reduceEqDiff,reduceIte]
 exact de rfl
theorem jy{s:dJ}{i:Nat}{r:Rel}(hr:s.rels.l[i]?=some r){h:ag}:ai none (.iptr (s.rels.l.flatMap bt) (i*3+2)) h=some (an er 1 r.tuples):=by
 rw [eZ fA hr (by omega)];rfl
theorem bX{s:dJ}(hs:s.ok){b:Nat}{h:ag}(hb:h.get b=some (.cells (az s))){K:Out→ag→Bool}(hK:∀ x,K (.ret (.bool x)) h=true):Sem Tryz.prog 43 [.slice b 0 1 2] h K:=by
 refine F.AY ?_
 have lr:ai none (.ptr b 1) h=some (an bt 3 s.rels):=by rw [au hb];rfl
 have ia:cL 2 (.slice b 0 1 2) (.int .i64 ((0:Nat):Int))=some (.ptr b 0):=rfl
 have hl:∀ h:ag,bx .slice (.slice b 0 1 2) h=some (.int .i64 ((1:Nat):Int)):=fun _=>rfl
 have num:∀ e:Env,(∃ x:Int,e 4 = .int .i64 x)→F.bX.bY K (.exit 0) ⟨e,89,[],h⟩=true:=fun e ⟨x,hx⟩=>by
  rw [F.bX.aD]
  simp only [hx,aV,Nat.reduceAdd,Nat.reduceEqDiff,reduceIte]
  exact hK _
 refine aB 0 1 (Nat.zero_le _) (fun i e h'=>h'=h∧e 0 = .slice b 0 1 2∧(∃ x:Int,e 3 = .int .i64 x)∧(∃ x:Int,e 4 = .int .i64 x)∧e 5 = .int .i64 (i:Int)) ⟨rfl,rfl,⟨0,rfl⟩,⟨0,rfl⟩,rfl⟩ ?_ ?_
 ·rintro i e h' _ hi ⟨rfl,e0,e3,e4,e5⟩ K' hn hx hr hp
  obtain rfl:i=0:=by omega
  rw [F.bX.aN]
  simp only [e0,e5,hl,ia,lr,aV,Nat.reduceAdd,Nat.reduceEqDiff,reduceIte,aY hi]
  by_cases q1:12<s.rels.l.length
  ·simp only [decide_eq_true (by omega:(12:Int)<(s.rels.l.length:Int)),aI]
   rw [hr,F.bX.bq]
   simp only [bu,Nat.reduceEqDiff,reduceIte]
   exact hK _
  simp only [decide_eq_false (by omega:¬ (12:Int)<(s.rels.l.length:Int)),aG]
  refine aB 0 s.rels.l.length (Nat.zero_le _) (fun k e h2=>h2=h'∧e 0 = .slice b 0 1 2∧(∃ x:Int,e 3 = .int .i64 x)∧(∃ x:Int,e 4 = .int .i64 x)∧e 5 = .int .i64 ((0:Nat):Int)∧e 6 = .int .i64 (k:Int)) ⟨rfl,e0,e3,e4,e5,rfl⟩ ?_ ?_
  ·rintro k e h2 _ hk ⟨rfl,e0,⟨x3,e3⟩,e4,e5,e6⟩ K2 hn2 hx2 hr2 hp2
   have hv:s.rels.l[k]?=some s.rels.l[k]:=List.getElem?_eq_getElem hk
   generalize s.rels.l[k]=r at hv
   have hro:r.ok:=hs.2 r (List.mem_of_getElem? hv)
   obtain ⟨y,hy⟩:=Jg x3 (r.tuples.l.length:Int)
   have ret:∀ e:Env,e 2 = .bool false→F.bX.ig K' .ret ⟨e,89,[],h2⟩=true:=fun e he=>by
    rw [F.bX.fY,hr,F.bX.bq,he]
    exact hK _
   rw [F.bX.cP]
   simp only [e0,e3,e5,e6,ia,lr,aV,Nat.reduceAdd,Nat.reduceEqDiff,reduceIte,aY hk,aP s.rels hk,jy hv,jZ hv,hy]
   cases decide ((1500:Int)<y) with
   |true=>
    simp only [aI]
    rw [hr2]
    exact ret _ rfl
   |false=>
   simp only [aG]
   cases decide ((1000:Int)<(r.name.length:Int)) with
   |true=>
    simp only [aI]
    rw [hr2]
    exact ret _ rfl
   |false=>
   simp only [aG]
   refine aB 0 r.tuples.l.length (Nat.zero_le _) (fun j e h3=>h3=h2∧e 0 = .slice b 0 1 2∧(∃ x:Int,e 3 = .int .i64 x)∧(∃ x:Int,e 4 = .int .i64 x)∧e 5 = .int .i64 ((0:Nat):Int)∧e 6 = .int .i64 (k:Int)∧e 7 = .int .i64 (j:Int)) ⟨rfl,e0,⟨y,rfl⟩,e4,e5,e6,rfl⟩ ?_ ?_
   ·rintro j e h3 _ hj ⟨rfl,e0,e3,⟨x4,e4⟩,e5,e6,e7⟩ K3 hn3 hx3 hr3 hp3
    have ht:r.tuples.l[j]?=some r.tuples.l[j]:=List.getElem?_eq_getElem hj
    generalize r.tuples.l[j]=t at ht
    obtain ⟨z,hz⟩:=Jg x4 (t.l.length:Int)
    rw [F.bX.ju]
    simp only [e0,e4,e5,e6,e7,ia,lr,aV,Nat.reduceAdd,Nat.reduceEqDiff,reduceIte,aP s.rels hk,jy hv,aY hj,aP r.tuples hj,fJ ht,hz,aE hj hro.2.1]
    exact hn3 _ _ ⟨rfl,e0,e3,⟨z,rfl⟩,e5,e6,rfl⟩
   ·rintro e h3 ⟨rfl,e0,e3,e4,e5,e6,e7⟩ K3 hx3
    rw [F.bX.ju]
    simp only [e0,e5,e6,e7,ia,lr,aV,Nat.reduceAdd,Nat.reduceEqDiff,reduceIte,aP s.rels hk,jy hv,aR]
    rw [hx3,F.bX.fV]
    simp only [aV,Nat.reduceAdd,Nat.reduceEqDiff,reduceIte,e6,aE hk hs.1]
    exact hn2 _ _ ⟨rfl,e0,e3,e4,e5,rfl⟩
  ·rintro e h2 ⟨rfl,e0,e3,e4,e5,e6⟩ K2 hx2
   rw [F.bX.cP]
   simp only [e0,e5,e6,ia,lr,aV,Nat.reduceAdd,Nat.reduceEqDiff,reduceIte,aR]
   rw [hx2,F.bX.b8]
   simp only [aV,Nat.reduceAdd,Nat.reduceEqDiff,reduceIte,e5,aE hi (show (1:Nat)≤cz by unfold cz;omega)]
   exact hn _ _ ⟨rfl,e0,e3,e4,rfl⟩
 ·rintro e h' ⟨rfl,e0,e3,e4,e5⟩ K' hx
  rw [F.bX.aN]
  simp only [e0,e5,hl,aV,Nat.reduceAdd,Nat.reduceEqDiff,reduceIte,aR]
  rw [hx]
  exact num _ e4
theorem Own.nj{α:Type}{enc:α→List AV}{sz k:Nat}{h:ag}{a:AV}{l:List α}(o:Own enc sz k h a l):bL (AV.dK a)=true∧(AV.dK a).length=1∧AV.dK a = [a]:=by cases o<;>exact ⟨rfl,rfl,rfl⟩
def xR(s:dJ)(y:bI×Int):Bool:=match s.rels.l.find? (dX y.1) with
 |some r=>decide (r.arity=y.2)
 |none=>false
theorem Ak{α:Type}(p:α→Bool):∀ (l:List α) (i:Nat),(qE p l i = -1∧l.find? p=none)∨∃ (j:Nat) (v:α),qE p l i=((i+j:Nat):Int)∧l[j]?=some v∧l.find? p=some v
 |[],i=>.inl ⟨rfl,rfl⟩
 |x :: l,i=>by
  rw [qE,List.find?_cons]
  cases hp:p x with
  |true=>exact .inr ⟨0,x,by simp,rfl,rfl⟩
  |false=>
   simp only [Bool.false_eq_true,if_false]
   rcases Ak p l (i+1) with ⟨h1,h2⟩|⟨j,v,h1,h2,h3⟩
   ·exact .inl ⟨h1,h2⟩
   ·exact .inr ⟨j+1,v,by rw [h1];congr 1;omega,by simpa using h2,h3⟩
theorem mY{α:Type}(p:α→Bool)(l:List α):(jF p l = -1∧l.find? p=none)∨∃ (j:Nat) (v:α),jF p l=(j:Int)∧l[j]?=some v∧l.find? p=some v:=by
 rcases Ak p l 0 with h|⟨j,v,h1,h2,h3⟩
 ·exact .inl h
 ·exact .inr ⟨j,v,by rw [jF,h1,Nat.zero_add],h2,h3⟩
theorem nJ{s:dJ}{i:Nat}{r:Rel}(hr:s.rels.l[i]?=some r){h:ag}:ai none (.iptr (s.rels.l.flatMap bt) (i*3+1)) h=some (.int .i64 r.arity):=by
 rw [eZ fA hr (by omega)];rfl
theorem Qt{x:Sl (bI×Int)}{i:Nat}{y:bI×Int}(hy:x.l[i]?=some y){h:ag}:ai none (.iptr (x.l.flatMap lf) (i*2)) h=some (.str y.1):=by
 have:=eZ (h:=h) mE hy (k:=0) (by omega)
 rw [Nat.add_zero] at this
 rw [this];rfl
theorem Nj{x:Sl (bI×Int)}{i:Nat}{y:bI×Int}(hy:x.l[i]?=some y){h:ag}:ai none (.iptr (x.l.flatMap lf) (i*2+1)) h=some (.int .i64 y.2):=by
 rw [eZ mE hy (by omega)];rfl
theorem HP(y:bI×Int):AV.pureL (lf y)=true:=rfl
theorem ec{s:dJ}(hs:s.ok){x:Sl (bI×Int)}(hx:x.l.length≤cz){h:ag}{K:Out→ag→Bool}(hK:K (.ret (.bool (x.l.all (xR s)))) h=true):Sem Tryz.prog 52 [.agg (az s),an lf 2 x] h K:=by
 refine Sem.data (r:=.bool (x.l.all (xR s))) ?_ (by simp [AV.pureL,AV.pure,eT,bE HP]) hK
 clear hK
 refine F.zx ?_
 have b0:(ag.alloc ag.empty (.cells (az s))).get 0=some (.cells (az s)):=aC _ _
 simp only [cY (dw s),bindO_some,bG]
 generalize (ag.alloc ag.empty (.cells (az s)))=H at b0 ⊢
 have fin:∀ b:Bool,b=x.l.all (xR s)→mu (.bool (x.l.all (xR s))) (.ret (.bool b)) H=true:=fun b hb=>by rw [hb];exact de rfl
 have lr:ai none (.ptr 0 1) H=some (an bt 3 s.rels):=by rw [au b0];rfl
 have lw:ai (some 2) (.ptr 0 0) H=some (.agg (az s)):=by rw [au b0,dA (cs:=az s) (n:=2) rfl]
 refine aB 0 x.l.length (Nat.zero_le _) (fun i e h'=>h'=H∧e 1=an lf 2 x∧e 2 = .ptr 0 0∧e 5 = .int .i64 (i:Int)∧(x.l.take i).all (xR s)=true) ⟨rfl,rfl,rfl,rfl,rfl⟩ ?_ ?_
 ·rintro i e h' _ hi ⟨rfl,e1,e2,e5,ht⟩ K' hn hx' hr hp
  have hv:x.l[i]?=some x.l[i]:=List.getElem?_eq_getElem hi
  generalize x.l[i]=y at hv
  rw [F.ec.aN]
  simp only [e1,e2,e5,aV,Nat.reduceAdd,Nat.reduceEqDiff,reduceIte,lw,aY hi,aP x hi,Qt hv]
  refine ak (dS hs ?_)
  simp only [aV,Nat.reduceAdd,Nat.reduceEqDiff,reduceIte]
  rcases mY (dX y.1) s.rels.l with ⟨h1,h2⟩|⟨j,r,h1,h2,h3⟩
  ·rw [h1]
   simp only [show decide ((-1:Int)<0)=true from rfl,aI]
   rw [hr,F.ec.bq]
   simp only [bu,Nat.reduceEqDiff,reduceIte]
   exact fin _ (all_false hv (by rw [xR,h2])).symm
  ·rw [h1]
   have hj:j<s.rels.l.length:=(List.getElem?_eq_some_iff.1 h2).1
   simp only [decide_eq_false (by omega:¬ ((j:Int)<0)),aG,aV,Nat.reduceAdd,Nat.reduceEqDiff,reduceIte,e1,e2,e5,lr,aP s.rels hj,nJ h2,aP x hi,Nj hv,cQ]
   by_cases hq:r.arity=y.2
   ·simp only [decide_eq_true hq,Bool.not_true,aG,aE hi hx,bindO_some]
    exact hn _ _ ⟨rfl,e1,e2,rfl,gJ hv ht (by rw [xR,h3];exact decide_eq_true hq)⟩
   ·simp only [decide_eq_false hq,Bool.not_false,aI]
    rw [hr,F.ec.bq]
    simp only [bu,Nat.reduceEqDiff,reduceIte]
    exact fin _ (all_false hv (by rw [xR,h3];exact decide_eq_false hq)).symm
 ·rintro e h' ⟨rfl,e1,e2,e5,ht⟩ K' hx'
  rw [F.ec.aN]
  simp only [e1,e5,aV,Nat.reduceAdd,Nat.reduceEqDiff,reduceIte,aR]
  rw [hx',F.ec.aD]
  rw [List.take_of_length_le (Nat.le_refl _)] at ht
  exact fin _ ht.symm
theorem FW(d:List Bool):d.map bv=d.flatMap AG:=by
 induction d with
 |nil=>rfl
 |cons a d ih=>rw [List.map_cons,List.flatMap_cons,ih];rfl
theorem JF{d:List Bool}{h:ag}{b:Nat}(hb:h.get b=some (.cells (d.map bv))):Fz true h (.slice b 0 d.length 1) (an AG 1 (some d)):=by
 refine .slice b 0 d.length 1 _ _ hb (by rw [FW]) fun i x y hx hy=>?_
 rw [FW,hy] at hx
 cases hx
 rw [← FW,List.getElem?_map] at hy
 obtain ⟨v,hv,rfl⟩:=Option.map_eq_some_iff.1 hy
 exact .scalar _ rfl
theorem fo{n:Nat}(h1:1≤n){x:Sl Int}(hx:x.l.length≤12)(hc:n ^ x.l.length≤4096)(hb:gI n x.l=true){h:ag}{K:Out→ag→Bool}
  (hK:K (.ret (.int .i64 ((gy n x.l:Nat):Int))) h=true):Sem Tryz.prog 189 [.int .i64 (n:Int),an encI 1 x] h K:=by
 have hbig:x.l.length≤cz:=by unfold cz;omega
 refine F.zy ?_
 refine aB 0 x.l.length (Nat.zero_le _) (fun i e h'=>h'=h∧e 0 = .int .i64 (n:Int)∧e 5 = .int .i64 ((gy n (x.l.take i):Nat):Int)∧e 1=an encI 1 x∧e 6 = .int .i64 (i:Int)) ⟨rfl,rfl,rfl,rfl,rfl⟩ ?_ ?_
 ·rintro i e h' _ hi ⟨rfl,e0,e5,e1,e6⟩ K' hn hx' hr hp
  have hv:x.l[i]?=some x.l[i]:=List.getElem?_eq_getElem hi
  rw [F.fo.aN]
  simp only [e0,e1,e5,e6,aV,Nat.reduceAdd,Nat.reduceEqDiff,reduceIte,aY hi,aP x hi,fF hv,(kY hb h1 hc hv).1,(kY hb h1 hc hv).2,aE hi hbig]
  exact hn _ _ ⟨rfl,e0,rfl,e1,rfl⟩
 ·rintro e h' ⟨rfl,e0,e5,e1,e6⟩ K' hx'
  rw [F.fo.aN]
  simp only [e1,e6,aV,Nat.reduceAdd,Nat.reduceEqDiff,reduceIte,aR]
  rw [hx',F.fo.aD]
  simp only [e5,bu,Nat.reduceEqDiff,reduceIte]
  rw [List.take_of_length_le (Nat.le_refl _)]
  exact hK
theorem HQ(s:St):eC Tryz.prog s Tryz.f162.results.toList=(match ai (some 3) (s.env 8) s.h,(some []:Option (List AV)) with|some v,some vs=>some (v :: vs)|_,_=>none):=by kernel_rfl
def vO(nm:bI)(k:Nat)(d:List Bool):List AV:=[.str nm,.int .i64 (k:Int),an AG 1 (some d)]
theorem dP{n k:Nat}(h1:1≤n)(h2:n≤64)(hk:k≤12)(hc:n ^ k≤4096){nm:bI}{ts:Sl (Sl Int)}(hl:ts.l.length≤cz)(ht:tc n k ts.l=true){h:ag}{K:Out→ag→Bool}
  (hK:K (.ret (.agg (vO nm k (bitsOf n k ts.l)))) h=true):Sem Tryz.prog 162 [.int .i64 (n:Int),.str nm,.int .i64 (k:Int),an er 1 ts] h K:=by
 refine Sem.data (r:=.agg (vO nm k (bitsOf n k ts.l))) ?_ (by simp [AV.pureL,AV.pure,bE kD]) hK
 clear hK
 have hkb:k≤cz:=by unfold cz;omega
 refine F.um ?_
 refine ak (fC h1 h2 hkb fun v v1 v2=>?_)
 have hv:=v1 hc
 subst hv
 simp only [outK_ret,CZ (show n ^ k≤1000000 by omega),bindO2_some,bG,ag.next_alloc]
 have ha:∀ b:Nat,gQ [(.str []),(.int .i64 0),.nils] [(0,1),(1,1),(2,1)] [.str nm,.int .i64 (k:Int),.slice b 0 (n ^ k) 1]=some (.agg [.str nm,.int .i64 (k:Int),.slice b 0 (n ^ k) 1]):=fun _=>rfl
 simp only [ha,bindO_some]
 have g0:((ag.alloc ag.empty (.cells [(.str []),(.int .i64 0),.nils])).alloc (.cells ((List.replicate (n ^ k) false).map bv))).get 0=some (.cells [(.str []),(.int .i64 0),.nils]):=by simp [ag.aW,bG]
 have g1:((ag.alloc ag.empty (.cells [(.str []),(.int .i64 0),.nils])).alloc (.cells ((List.replicate (n ^ k) false).map bv))).get 1=some (.cells ((List.replicate (n ^ k) false).map bv)):=by simp [ag.aW,bG]
 have gn:((ag.alloc ag.empty (.cells [(.str []),(.int .i64 0),.nils])).alloc (.cells ((List.replicate (n ^ k) false).map bv))).next=2:=rfl
 generalize ((ag.alloc ag.empty (.cells [(.str []),(.int .i64 0),.nils])).alloc (.cells ((List.replicate (n ^ k) false).map bv)))=H0 at g0 g1 gn ⊢
 obtain ⟨H,hs,p2,go,hn⟩:=cO (h:=H0) (zs:=[.str [],.int .i64 0,.nils]) (cs:=[.str nm,.int .i64 (k:Int),.slice 1 0 (n ^ k) 1]) (n:=3) rfl rfl rfl
 rw [gn] at hs p2
 have p0:H.get 0=some (.cells [(.str []),(.int .i64 0),.nils]):=by rw [go 0 (by omega)];exact g0
 have p1:H.get 1=some (.cells ((List.replicate (n ^ k) false).map bv)):=by rw [go 1 (by omega)];exact g1
 simp only [Nat.zero_add,Nat.reduceAdd,gn,hs,bindO_some]
 refine aB 0 ts.l.length (Nat.zero_le _) (fun i e h'=>∃ d,bitsOf n k ts.l=kF n (ts.l.drop i) d∧d.length=n ^ k∧h'.get 0=some (.cells [(.str []),(.int .i64 0),.nils])∧h'.get 1=some (.cells (d.map bv))∧h'.get 2=some (.cells [.str nm,.int .i64 (k:Int),.slice 1 0 (n ^ k) 1]) ∧
  e 0 = .int .i64 (n:Int)∧e 3=an er 1 ts∧e 8 = .ptr 0 0∧e 9 = .ptr 2 0∧e 10 = .int .i64 (i:Int)) ⟨_,rfl,by simp,p0,p1,p2,rfl,rfl,rfl,rfl,rfl⟩ ?_ ?_
 ·rintro i e h' _ hi ⟨d,hd,hdl,q0,q1,q2,e0,e3,e8,e9,e10⟩ K' hnx hx hr hp
  have hv:ts.l[i]?=some ts.l[i]:=List.getElem?_eq_getElem hi
  generalize ts.l[i]=t at hv
  have hat:=qD ht hi
  have htl:t.l.length=k:=C6 hat hv
  have htb:gI n t.l=true:=by
   unfold jL at hat
   rw [hv] at hat
   simp only [Bool.and_eq_true] at hat
   exact hat.2.1
  have hrk:gy n t.l<n ^ k:=by have:=kE htb;rwa [htl] at this
  rw [BS hv] at hd
  have l2:ai none (.ptr 2 2) h'=some (.slice 1 0 (n ^ k) 1):=by rw [au q2];rfl
  rw [F.dP.aN]
  simp only [e0,e3,e9,e10,aV,Nat.reduceAdd,Nat.reduceEqDiff,reduceIte,aY hi,aP ts hi,fJ hv,l2]
  refine ak (fo h1 (by omega) (by rw [htl];exact hc) htb ?_)
  simp only [outK_ret,l2,bindO_some,AV.beq_refl,Bool.and_self,if_true,jT hrk,z6 q1 (show gy n t.l<d.length by omega),aE hi hl,e10]
  exact hnx _ _ ⟨_,hd,by simpa using hdl,by rw [ag.aO,if_neg (by omega)];exact q0,by rw [ag.aO,if_pos rfl],by rw [ag.aO,if_neg (by omega)];exact q2,e0,e3,e8,e9,rfl⟩
 ·rintro e h' ⟨d,hd,hdl,q0,q1,q2,e0,e3,e8,e9,e10⟩ K' hx
  rw [F.dP.aN]
  simp only [e3,e10,aV,Nat.reduceAdd,Nat.reduceEqDiff,reduceIte,aR]
  rw [hx,F.dP.aD]
  rw [List.drop_of_length_le (Nat.le_refl _)] at hd
  simp only [kF] at hd
  have l2:ai (some 3) (.ptr 2 0) h'=some (.agg [.str nm,.int .i64 (k:Int),.slice 1 0 (n ^ k) 1]):=by rw [au q2];rfl
  have st:bg 3 (.ptr 0 0) (.agg [.str nm,.int .i64 (k:Int),.slice 1 0 (n ^ k) 1]) h'=some (h'.set 0 (.cells [.str nm,.int .i64 (k:Int),.slice 1 0 (n ^ k) 1])):=by
   rw [cZ (n:=3) q0 rfl rfl (by simp)];rfl
  have r0:(h'.set 0 (.cells [.str nm,.int .i64 (k:Int),.slice 1 0 (n ^ k) 1])).get 0=some (.cells [.str nm,.int .i64 (k:Int),.slice 1 0 (n ^ k) 1]):=by rw [ag.aO,if_pos rfl]
  have r1:(h'.set 0 (.cells [.str nm,.int .i64 (k:Int),.slice 1 0 (n ^ k) 1])).get 1=some (.cells (d.map bv)):=by rw [ag.aO,if_neg (by omega)];exact q1
  generalize (h'.set 0 (.cells [.str nm,.int .i64 (k:Int),.slice 1 0 (n ^ k) 1]))=H2 at st r0 r1
  have l3:ai (some 3) (.ptr 0 0) H2=some (.agg [.str nm,.int .i64 (k:Int),.slice 1 0 (n ^ k) 1]):=by rw [au r0];rfl
  simp only [bu,Nat.reduceEqDiff,reduceIte,e8,e9,l2,st,bindO_some,HQ,l3,oneOf]
  have fb:=JF r1
  rw [hdl,← hd] at fb
  have:=iQ.cons (.scalar (.str nm) rfl) (iQ.cons (.scalar (.int .i64 (k:Int)) rfl) (iQ.cons fb iQ.nil))
  exact DP (.agg _ _ this.len this.rel)
structure BZ where
 name:bI
 k:Nat
 bits:List Bool
def iH(t:BZ):List AV:=vO t.name t.k t.bits
def sg(n:Nat)(r:Rel):BZ:=⟨r.name,r.arity.toNat,bitsOf n r.arity.toNat r.tuples.l⟩
def fL(s:dJ):List BZ:=s.rels.l.map (sg s.size.toNat)
theorem qF{s:dJ}(hv:cT s=true){i:Nat}{r:Rel}(hr:s.rels.l[i]?=some r):lB s.size.toNat r=true:=by
 simp only [cT,Bool.and_eq_true] at hv
 have:=qD hv.2.2.2 (List.getElem?_eq_some_iff.1 hr).1
 rw [mG,hr] at this
 simp only [Bool.and_eq_true] at this
 exact this.1
theorem nK{s:dJ}(hv:cT s=true):∃ n:Nat,s.size=(n:Int)∧1≤n∧n≤64∧s.rels.l.length≤8:=by
 simp only [cT,Bool.and_eq_true,decide_eq_true_eq] at hv
 exact ⟨s.size.toNat,by omega,by omega,by omega,hv.2.2.1⟩
theorem uE{n:Nat}{r:Rel}(h:lB n r=true):∃ k:Nat,r.arity=(k:Int)∧k≤12∧n ^ k≤4096∧tc n k r.tuples.l=true:=by
 simp only [lB,Bool.and_eq_true,decide_eq_true_eq] at h
 exact ⟨r.arity.toNat,by omega,by omega,h.2.2.2.1,h.2.2.2.2⟩
theorem jG{s:dJ}(hv:cT s=true):(s.rels.l.map Rel.name).Nodup:=by
 simp only [cT,Bool.and_eq_true] at hv
 unfold List.Nodup
 rw [List.pairwise_iff_getElem]
 intro i j hi hj hij e
 rw [List.length_map] at hi hj
 have:=qD hv.2.2.2 hj
 rw [mG,List.getElem?_eq_getElem hj] at this
 simp only [Bool.and_eq_true,Bool.not_eq_true'] at this
 rw [List.getElem_map,List.getElem_map] at e
 have h2:=JE (p:=fun q:Rel=>q.name==s.rels.l[j].name) (List.getElem?_eq_getElem hi) hij (by simpa using e)
 rw [h2] at this
 cases this.2
theorem mZ:∀ {l:List Rel},(l.map Rel.name).Nodup→∀ r ∈ l,l.find? (dX r.name)=some r
 |[],_,r,h=>by cases h
 |q :: l,hn,r,h=>by
  rw [List.map_cons,List.nodup_cons] at hn
  rw [List.find?_cons]
  rcases List.mem_cons.1 h with rfl|h
  ·have:dX r.name r=true:=by simp [dX]
   rw [this]
  ·have:dX r.name q=false:=by
    simp only [dX,beq_eq_false_iff_ne]
    exact fun e=>hn.1 (e▸List.mem_map_of_mem h)
   rw [this]
   exact mZ hn.2 r h
theorem B0:∀ {l:List Rel},(l.map Rel.name).Nodup→∀ (nm:bI) (k:Int),l.find? (kI nm k)=match l.find? (dX nm) with
  |some r=>if r.arity=k then some r else none
  |none=>none
 |[],_,nm,k=>rfl
 |q :: l,hn,nm,k=>by
  rw [List.map_cons,List.nodup_cons] at hn
  rw [List.find?_cons,List.find?_cons]
  cases hq:dX nm q with
  |true=>
   have hq':q.name==nm:=hq
   simp only
   by_cases ha:q.arity=k
   ·have:kI nm k q=true:=by rw [kI,hq',decide_eq_true ha];rfl
    rw [this,if_pos ha]
   ·have:kI nm k q=false:=by rw [kI,decide_eq_false ha,Bool.and_false]
    rw [this,if_neg ha]
    simp only
    rw [List.find?_eq_none]
    intro r hr hs
    simp only [kI,Bool.and_eq_true,beq_iff_eq] at hs hq'
    exact hn.1 (by rw [hq',← hs.1];exact List.mem_map_of_mem hr)
  |false=>
   have hq':(q.name==nm)=false:=hq
   have:kI nm k q=false:=by rw [kI,hq',Bool.false_and]
   rw [this]
   exact B0 hn.2 nm k
theorem ED{s:dJ}(hv:cT s=true)(y:bI×Int):xR s y=(s.rels.l.find? (kI y.1 y.2)).isSome:=by
 rw [B0 (jG hv),xR]
 cases s.rels.l.find? (dX y.1) with
 |none=>rfl
 |some r=>
  simp only
  by_cases h:r.arity=y.2
  ·rw [if_pos h,decide_eq_true h];rfl
  ·rw [if_neg h,decide_eq_false h];rfl
theorem Mc(l:List Int):bL (l.map iv)=true:=by
 induction l with
 |nil=>rfl
 |cons a l ih=>simp only [List.map_cons,bL,ih,Bool.and_true];rfl
theorem rB{h:ag}{src:AV}{l:List Int}(r:Row encI 1 (h.alloc (.cells [])) src l)(hl:l.length≤1000000) :
  ∃ b h',bW 1 8 (.slice h.next 0 0 1) src (h.alloc (.cells []))=some (.slice b 0 l.length 1,h')∧h'.get b=some (.cells (l.map iv))∧bT h h'∧h.next≤b∧b<h'.next:=by
 have hm:cX=140737488355328:=rfl
 have g:(h.alloc (.cells [])).get h.next=some (.cells []):=aC _ _
 have rc:=r.cells
 rw [← oE] at rc
 by_cases hz:l.length=0
 ·have:l = []:=List.eq_nil_of_length_eq_zero hz
  subst this
  refine ⟨h.next,h.alloc (.cells []),?_,g,bT.alloc _ _,Nat.le_refl _,Nat.lt_succ_self _⟩
  simp only [List.length_nil] at rc
  simp [bW,r.len,rc]
 ·refine ⟨h.next+1,((h.alloc (.cells [])).set h.next .dead).alloc (.cells (l.map iv)),?_,?_,?_,by omega,?_⟩
  ·simp only [bW,r.len,rc,if_true,if_neg hz,g]
   rw [if_pos (by simp [Mc];omega)]
   simp [ag.next_set,ag.next_alloc]
  ·have:=aC ((h.alloc (.cells [])).set h.next .dead) (.cells (l.map iv))
   rwa [ag.next_set,ag.next_alloc] at this
  ·exact ((bT.alloc h (.cells [])).set (Nat.le_refl _) _).trans (bT.alloc _ _)
  ·rw [ag.next_alloc,ag.next_set,ag.next_alloc];omega
def Al(n:Nat)(t:List Int):List (List Int):=(List.range n).map fun (x:Nat)=>t++[(x:Int)]
def stepT(n:Nat)(out:List (List Int)):List (List Int):=out.flatMap (Al n)
def qG(n:Nat):Nat→List (List Int)
 |0=>[[]]
 |k+1=>stepT n (qG n k)
theorem vQ(n:Nat)(l:List (List Int)):(stepT n l).length=l.length*n:=by
 induction l with
 |nil=>simp [stepT]
 |cons t l ih=>
  rw [stepT,List.flatMap_cons,List.length_append,← stepT,ih,List.length_cons,Nat.succ_mul]
  simp [Al];omega
theorem nL(n:Nat):∀ k,(qG n k).length=n ^ k
 |0=>rfl
 |k+1=>by rw [qG,vQ,nL n k,Nat.pow_succ]
theorem FX{n:Nat}{out:List (List Int)}{j:Nat}{t:List Int}(ht:out[j]?=some t):stepT n (out.take (j+1))=stepT n (out.take j)++Al n t:=by
 rw [List.take_add_one,ht,stepT,List.flatMap_append];simp [stepT]
theorem qH(n:Nat)(t:List Int):(Al n t).length=n:=by simp [Al]
theorem HR{n:Nat}{t:List Int}{x:Nat}(hx:x<n):(Al n t).take (x+1)=(Al n t).take x++[t++[(x:Int)]]:=by
 rw [List.take_add_one]
 congr 1
 simp [Al,List.getElem?_range hx]
theorem vR{n:Nat}:∀ {out:List (List Int)} {r x:Nat} {t:List Int},out[r]?=some t→x<n→(stepT n out)[r*n+x]?=some (t++[(x:Int)])
 |[],r,x,t,h,_=>by simp at h
 |u :: out,0,x,t,h,hx=>by
  simp at h;subst h
  rw [stepT,List.flatMap_cons,Nat.zero_mul,Nat.zero_add,List.getElem?_append_left (by rw [qH];exact hx)]
  simp [Al,List.getElem?_range hx]
 |u :: out,r+1,x,t,h,hx=>by
  rw [stepT,List.flatMap_cons,List.getElem?_append_right (by rw [qH,Nat.succ_mul];omega),qH]
  have:(r+1)*n+x-n=r*n+x:=by rw [Nat.succ_mul];omega
  rw [this]
  exact vR (out:=out) (by simpa using h) hx
theorem Md{n:Nat}{t:List Int}{x:Nat}(ht:gI n t=true)(hx:x<n):gI n (t++[(x:Int)])=true:=by
 unfold gI at ht ⊢
 rw [List.all_append,ht]
 simp;omega
theorem rC{n:Nat}(hn:1≤n):∀ (k r:Nat),r<n ^ k→∃ t,(qG n k)[r]?=some t∧t.length=k∧gI n t=true∧gy n t=r
 |0,r,h=>by
  obtain rfl:r=0:=by simp at h;omega
  exact ⟨[],rfl,rfl,rfl,rfl⟩
 |k+1,r,h=>by
  have hr:r/n<n ^ k:=Nat.div_lt_of_lt_mul (by rw [Nat.mul_comm,← Nat.pow_succ];exact h)
  have hx:r%n<n:=Nat.mod_lt _ hn
  obtain ⟨t,h1,h2,h3,h4⟩:=rC hn k (r/n) hr
  refine ⟨t++[((r%n:Nat):Int)],?_,by simp [h2],Md h3 hx,?_⟩
  ·have:=vR (n:=n) h1 hx
   rw [qG]
   rwa [Nat.div_add_mod' r n] at this
  ·unfold gy at h4 ⊢
   rw [qv,h4]
   simp only [pE,Int.toNat_natCast]
   exact Nat.div_add_mod' r n
theorem EE{n:Nat}:∀ (a b:List Int) (r s:Nat),a.length=b.length→gI n a=true→gI n b=true→pE n a r=pE n b s→a=b∧r=s
 |[],[],r,s,_,_,_,h=>⟨rfl,h⟩
 |x :: a,y :: b,r,s,hl,ha,hb,h=>by
  simp only [gI,List.all_cons,Bool.and_eq_true,Bool.not_eq_true',decide_eq_false_iff_not] at ha hb
  obtain ⟨e1,e2⟩:=EE a b _ _ (by simpa using hl) (by unfold gI;simpa using ha.2) (by unfold gI;simpa using hb.2) h
  subst e1
  have hn:0<n:=by omega
  have hx:x.toNat<n:=by omega
  have hy:y.toNat<n:=by omega
  have h1:r=s:=by
   have q1:(r*n+x.toNat)/n=r:=by rw [Nat.mul_comm,Nat.mul_add_div hn,Nat.div_eq_of_lt hx];rfl
   have q2:(s*n+y.toNat)/n=s:=by rw [Nat.mul_comm,Nat.mul_add_div hn,Nat.div_eq_of_lt hy];rfl
   rw [← q1,← q2,e2]
  subst h1
  exact ⟨by congr 1;omega,rfl⟩
theorem yo{n:Nat}{a b:List Int}(hl:a.length=b.length)(ha:gI n a=true)(hb:gI n b=true)(h:gy n a=gy n b):a=b:=(EE a b 0 0 hl ha hb h).1
theorem bJ{n k:Nat}(hn:1≤n)(hk:k≤12)(hc:n ^ k≤4096){h:ag}{K:Out→ag→Bool}(hK:∀ x:Sl (Sl Int),x.l.map Sl.l=qG n k→K (.ret (an er 1 x)) h=true):Sem Tryz.prog 18 [.int .i64 (n:Int),.int .i64 (k:Int)] h K:=by
 have hm:cX=140737488355328:=rfl
 have main:Sem Tryz.prog 18 [.int .i64 (n:Int),.int .i64 (k:Int)] ag.empty (fun o h'=>yes (∃ v,∃ x:Sl (Sl Int),o = .ret v∧x.l.map Sl.l=qG n k∧Fz true h' v (an er 1 x))):=by
  refine F.vu ?_
  have r0:eF [] [] []=some []:=rfl
  have r1:∀ p:PB,eF [.nils] [(0,1)] [.slice p.1 0 p.2.length 1]=some (ta p):=fun _=>rfl
  have r2:∀ x:Int,eF [.int .i64 0] [(0,1)] [.int .i64 x]=some [.int .i64 x]:=fun _=>rfl
  have r1':eF [.nils] [(0,1)] [.slice 0 0 0 1]=some (ta (0,[])):=rfl
  simp only [r0,bindO_some,bG,r1']
  have g0:(ag.alloc (ag.alloc ag.empty (.cells [])) (.cells (ta (0,[])))).get 0=some (.cells []):=by simp [ag.aW,bG]
  have g1:(ag.alloc (ag.alloc ag.empty (.cells [])) (.cells (ta (0,[])))).get 1=some (.cells (ta (0,[]))):=by simp [ag.aW,bG]
  have gn:(ag.alloc (ag.alloc ag.empty (.cells [])) (.cells (ta (0,[])))).next=2:=rfl
  have ge:(ag.alloc ag.empty (.cells [])).next=1:=rfl
  rw [ge]
  generalize (ag.alloc (ag.alloc ag.empty (.cells [])) (.cells (ta (0,[]))))=H at g0 g1 gn ⊢
  have nest0:nh 0 H (.slice 1 0 1 1) [(0,[])]:=⟨.row 1 [(0,[])] (Nat.zero_le _) (by omega) (by simpa using g1),fun p hp=>by
   rw [List.mem_singleton] at hp;subst hp;exact ⟨Nat.le_refl _,by show 0<H.next;omega,by simp [dV],g0⟩⟩
  refine aB 0 k (Nat.zero_le _) (fun i e h'=>∃ a ps,nh 0 h' a ps∧ps.map (·.2)=qG n i∧e 0 = .int .i64 (n:Int)∧e 1 = .int .i64 (k:Int)∧e 5=a∧e 6 = .int .i64 (i:Int)) ⟨_,_,nest0,rfl,rfl,rfl,rfl,rfl⟩ ?_ ?_
  ·rintro i e h' _ hi ⟨a,ps,nst,hps,e0,e1,e5,e6⟩ K' hn0 hx0 hr0 hp0
   have hpl:ps.length=n ^ i:=by have:=congrArg List.length hps;rwa [List.length_map,nL] at this
   have hin:n ^ i*n≤4096:=by rw [← Nat.pow_succ];exact Nat.le_trans (CX hn hi) hc
   have hps4:ps.length≤cz:=by unfold cz;have:=Nat.le_mul_of_pos_right (n ^ i) hn;omega
   rw [F.bJ.aN]
   simp only [e0,e1,e5,e6,aV,Nat.reduceAdd,Nat.reduceEqDiff,reduceIte,aY hi]
   refine aB 0 ps.length (Nat.zero_le _) (fun j e h2=>bT h' h2∧∃ c qs,nh h'.next h2 c qs∧qs.map (·.2)=stepT n ((ps.map (·.2)).take j)∧e 0 = .int .i64 (n:Int)∧e 1 = .int .i64 (k:Int)∧e 5=a∧e 6 = .int .i64 (i:Int)∧e 7=c∧e 8 = .int .i64 (j:Int))
    ⟨bT.refl _,_,_,.nil _ _,rfl,e0,e1,e5,e6,rfl,rfl⟩ ?_ ?_
   ·rintro j e h2 _ hj ⟨hx2,c,qs,nst2,hqs,e0,e1,e5,e6,e7,e8⟩ K2 hn2 hx2' hr2 hp2
    have hpj:ps[j]?=some ps[j]:=List.getElem?_eq_getElem hj
    generalize ps[j]=p at hpj
    have hpj2:(ps.map (·.2))[j]?=some p.2:=by rw [List.getElem?_map,hpj];rfl
    have hql:qs.length=j*n:=by
     have:=congrArg List.length hqs
     rw [List.length_map,vQ,List.length_take,List.length_map,Nat.min_eq_left (by omega)] at this;exact this
    have hjn:j*n+n≤4096:=by
     have:(j+1)*n≤ps.length*n:=Nat.mul_le_mul_right n hj
     rw [hpl,Nat.succ_mul] at this;omega
    rw [F.bJ.cP]
    simp only [e5,e8,nst.own.len,aV,Nat.reduceAdd,Nat.reduceEqDiff,reduceIte,aY hj]
    refine aB 0 n (Nat.zero_le _) (fun x e h3=>bT h' h3∧∃ c qs,nh h'.next h3 c qs∧qs.map (·.2)=stepT n ((ps.map (·.2)).take j)++(Al n p.2).take x∧e 0 = .int .i64 (n:Int)∧e 1 = .int .i64 (k:Int)∧e 5=a∧e 6 = .int .i64 (i:Int)∧e 7=c∧e 8 = .int .i64 (j:Int)∧e 9 = .int .i64 (x:Int))
     ⟨hx2,c,qs,nst2,by rw [List.take_zero,List.append_nil];exact hqs,e0,e1,e5,e6,e7,e8,rfl⟩ ?_ ?_
    ·rintro x e h3 _ hx ⟨hx3,c,qs,nst3,hqs3,e0,e1,e5,e6,e7,e8,e9⟩ K3 hn3 hx3' hr3 hp3
     have hql3:qs.length=j*n+x:=by
      have:=congrArg List.length hqs3
      rw [List.length_map,List.length_append,vQ,List.length_take,List.length_map,Nat.min_eq_left (by omega),List.length_take,qH,Nat.min_eq_left (by omega)] at this;exact this
     obtain ⟨b,b1,b2,b3⟩:=nst.at_ hpj
     obtain ⟨p1,p2,p3,p4⟩:=nst.cell p (List.mem_of_getElem? hpj)
     have xa:bT h' (h3.alloc (.cells [])):=hx3.trans (bT.alloc _ _)
     have hrow:Row encI 1 (h3.alloc (.cells [])) (.slice p.1 0 p.2.length 1) p.2:=by
      have hg:(h3.alloc (.cells [])).get p.1=some (.cells (p.2.map iv)):=by rw [xa.get _ p2];exact p4
      refine ⟨rfl,?_⟩
      simp only [fT,hg,if_true]
      rw [if_pos (by simp),← oE]
      simp only [List.drop_zero,Nat.mul_one]
      rw [List.take_of_length_le (by simp)]
     have hpk:p.2.length≤1000000:=by
      have:p.2 ∈ qG n i:=by rw [← hps];exact List.mem_map_of_mem (List.mem_of_getElem? hpj)
      obtain ⟨r,hr⟩:=List.getElem?_of_mem this
      have hlt:r<n ^ i:=by have:=(List.getElem?_eq_some_iff.1 hr).1;rwa [nL] at this
      obtain ⟨t,q1,q2,_⟩:=rC hn i r hlt
      rw [hr] at q1;cases q1;omega
     obtain ⟨b4,h4,a4,g4,x4,l4,m4⟩:=rB hrow hpk
     obtain ⟨b5,h5,a5,g5,f5,l5,m5⟩:=Jm (h:=h4) g4 m4 hpk (x:Int)
     have x5:bT h3 h5:=⟨by have:=x4.next;omega,fun d hd=>by rw [f5 d (by have:=x4.next;omega) (by omega),x4.get d hd]⟩
     have nst5:=nst3.ext x5
     have hx5:bT h' h5:=hx3.trans x5
     obtain ⟨a6,h6,e6',nst6,n6,_,x6,_⟩:=nst5.push (by have:=hx5.next;omega) (by rw [hm];omega) (b5,p.2++[(x:Int)]) (by have:=x4.next;have:=hx3.next;show h'.next≤b5;omega) m5 (fun hb=>by have:=nst3.own.lt hb;simp only at this;have:=x4.next;omega) g5
     rw [F.bJ.ju]
     simp only [e0,e5,e7,e8,e9,aV,Nat.reduceAdd,Nat.reduceEqDiff,reduceIte,aY hx,r0,b1,b3 _ xa,a4,r2,a5,r1 (b5,p.2++[(x:Int)]),e6',aE hx (show n≤cz by unfold cz;omega)]
     refine hn3 _ _ ⟨x6 _ hx5 (Nat.le_refl _),a6,_,nst6,?_,e0,e1,e5,e6,rfl,e8,rfl⟩
     rw [List.map_append,hqs3,HR hx,List.append_assoc];rfl
    ·rintro e h3 ⟨hx3,c,qs,nst3,hqs3,e0,e1,e5,e6,e7,e8,e9⟩ K3 hx3'
     rw [F.bJ.ju]
     simp only [e0,e9,aV,Nat.reduceAdd,Nat.reduceEqDiff,reduceIte,aR]
     rw [hx3',F.bJ.fV]
     simp only [aV,Nat.reduceAdd,Nat.reduceEqDiff,reduceIte,e8,aE hj hps4]
     refine hn2 _ _ ⟨hx3,c,qs,nst3,?_,e0,e1,e5,e6,e7,rfl⟩
     rw [hqs3,FX hpj2,List.take_of_length_le (l:=Al n p.2) (by rw [qH];exact Nat.le_refl _)]
   ·rintro e h2 ⟨hx2,c,qs,nst2,hqs,e0,e1,e5,e6,e7,e8⟩ K2 hx2'
    rw [F.bJ.cP]
    simp only [e5,e8,nst.own.len,aV,Nat.reduceAdd,Nat.reduceEqDiff,reduceIte,aR]
    rw [hx2',F.bJ.b8]
    simp only [aV,Nat.reduceAdd,Nat.reduceEqDiff,reduceIte,e6,e7,aE hi (show k≤cz by unfold cz;omega)]
    refine hn0 _ _ ⟨c,qs,⟨nst2.own.weak (Nat.zero_le _),fun p hp=>?_⟩,?_,e0,e1,rfl,rfl⟩
    ·obtain ⟨q1,q2,q3,q4⟩:=nst2.cell p hp
     exact ⟨Nat.zero_le _,q2,q3,q4⟩
    ·rw [hqs,List.take_of_length_le (by simp),hps];rfl
  ·rintro e h' ⟨a,ps,nst,hps,e0,e1,e5,e6⟩ K' hx0
   rw [F.bJ.aN]
   simp only [e1,e6,aV,Nat.reduceAdd,Nat.reduceEqDiff,reduceIte,aR]
   rw [hx0,F.bJ.aD]
   simp only [bu,Nat.reduceEqDiff,reduceIte,e5]
   obtain ⟨x,hx1,hx2⟩:=nst.tD (old:=true)
   exact cw.2 ⟨a,x,rfl,hx1.trans hps,hx2⟩
 refine main.frozen (by simp [AV.pureL,AV.pure]) fun o h' ho=>?_
 obtain ⟨v,x,rfl,hx,hf⟩:=cw.1 ho
 exact ⟨v,_,rfl,hf,hK x hx⟩
theorem rD:eF [] [] []=some []:=rfl
theorem Qu(p:PB):eF [.nils] [(0,1)] [.slice p.1 0 p.2.length 1]=some (ta p):=rfl
theorem eo{x:Sl (Sl Int)}(hx:x.l.length≤1000000)(ht:∀ t ∈ x.l,t.l.length≤1000000){h:ag}{K:Out→ag→Bool}(hK:∀ y:Sl (Sl Int),y.l.map Sl.l=x.l.map Sl.l→K (.ret (an er 1 y)) h=true):Sem Tryz.prog 119 [an er 1 x] h K:=by
 have hm:cX=140737488355328:=rfl
 have hbig:x.l.length≤cz:=by unfold cz;omega
 have main:Sem Tryz.prog 119 [an er 1 x] ag.empty (fun o h'=>yes (∃ v,∃ y:Sl (Sl Int),o = .ret v∧y.l.map Sl.l=x.l.map Sl.l∧Fz true h' v (an er 1 y))):=by
  refine F.vw ?_
  refine aB 0 x.l.length (Nat.zero_le _) (fun i e h'=>∃ a ps,nh 0 h' a ps∧ps.map (·.2)=(x.l.take i).map Sl.l∧e 0=an er 1 x∧e 3=a∧e 4 = .int .i64 (i:Int)) ⟨_,_,.nil _ _,rfl,rfl,rfl,rfl⟩ ?_ ?_
  ·rintro i e h' _ hi ⟨a,ps,nst,hps,e0,e3,e4⟩ K' hn hx' hr hp
   have hv:x.l[i]?=some x.l[i]:=List.getElem?_eq_getElem hi
   generalize x.l[i]=t at hv
   have htl:=ht t (List.mem_of_getElem? hv)
   have hpl:ps.length=i:=by have:=congrArg List.length hps;rw [List.length_map,List.length_map,List.length_take,Nat.min_eq_left (by omega)] at this;exact this
   obtain ⟨b,h5,a5,g5,x5,l5,m5⟩:=rB (uz kT t (h'.alloc (.cells []))) htl
   have nst5:=nst.ext x5
   obtain ⟨a6,h6,e6,nst6,_⟩:=nst5.push (Nat.zero_le _) (by rw [hm];omega) (b,t.l) (Nat.zero_le _) m5 (fun hb=>by have:=nst.own.lt hb;simp only at this;omega) g5
   rw [F.eo.aN]
   simp only [e0,e3,e4,aV,Nat.reduceAdd,Nat.reduceEqDiff,reduceIte,aY hi,rD,aP x hi,fJ hv,a5,Qu (b,t.l),e6,aE hi hbig]
   exact hn _ _ ⟨_,_,nst6,by rw [List.map_append,hps,List.take_add_one,hv,List.map_append];rfl,e0,rfl,rfl⟩
  ·rintro e h' ⟨a,ps,nst,hps,e0,e3,e4⟩ K' hx'
   rw [F.eo.aN]
   simp only [e0,e4,aV,Nat.reduceAdd,Nat.reduceEqDiff,reduceIte,aR]
   rw [hx',F.eo.aD]
   simp only [bu,Nat.reduceEqDiff,reduceIte,e3]
   obtain ⟨y,hy1,hy2⟩:=nst.tD (old:=true)
   exact cw.2 ⟨a,y,rfl,by rw [hy1,hps,List.take_of_length_le (Nat.le_refl _)],hy2⟩
 refine main.frozen (by simp [AV.pureL,bE kD]) fun o h' ho=>?_
 obtain ⟨v,y,rfl,hy,hf⟩:=cw.1 ho
 exact ⟨v,_,rfl,hf,hK y hy⟩
structure dJ.small (s:dJ):Prop where
 rels:s.rels.l.length≤1000
 tups:∀ r ∈ s.rels.l,r.tuples.l.length≤10000
 tup:∀ r ∈ s.rels.l,∀ t ∈ r.tuples.l,t.l.length≤1000
theorem dJ.small.Rq{s:dJ}(hs:s.small):s.rels.l.length≤cz:=by have:=hs.rels;unfold cz;omega
theorem Me(nm:bI)(k:Int)(y:Sl (Sl Int)):gQ [.str [],.int .i64 0,.nils] [(0,1),(1,1),(2,1)] [.str nm,.int .i64 k,an er 1 y]=some (.agg (bt ⟨nm,k,y⟩)):=by cases y<;>rfl
theorem GU(r:Rel):eF [.str [],.int .i64 0,.nils] [(0,3)] [.agg (bt r)]=some (bt r):=by
 obtain ⟨nm,k,y⟩:=r
 cases y<;>rfl
theorem JG(s:St):eC Tryz.prog s Tryz.f61.results.toList=(match ai (some 2) (s.env 2) s.h,(some []:Option (List AV)) with|some v,some vs=>some (v :: vs)|_,_=>none):=by kernel_rfl
theorem eW{s:dJ}(hs:s.small){h:ag}{K:Out→ag→Bool}(hK:∀ a h' rs,bT h h'→Own bt 3 h.next h' a rs→rs.map cJ=s.rels.l.map cJ→K (.ret (.agg [.int .i64 s.size,a])) h'=true):Sem Tryz.prog 61 [.agg (az s)] h K:=by
 have hm:cX=140737488355328:=rfl
 refine F.zG ?_
 simp only [cY (dw s),bindO_some,ag.next_alloc]
 have g0:(ag.alloc (ag.alloc h (.cells (az s))) (.cells [.int .i64 0,.nils])).get h.next=some (.cells (az s)):=by rw [ag.aW,ag.next_alloc,if_neg (by omega)];exact aC _ _
 have g1:(ag.alloc (ag.alloc h (.cells (az s))) (.cells [.int .i64 0,.nils])).get (h.next+1)=some (.cells [.int .i64 0,.nils]):=aC _ _
 have gn:(ag.alloc (ag.alloc h (.cells (az s))) (.cells [.int .i64 0,.nils])).next=h.next+2:=rfl
 have gx:bT h (ag.alloc (ag.alloc h (.cells (az s))) (.cells [.int .i64 0,.nils])):=(bT.alloc _ _).trans (bT.alloc _ _)
 generalize (ag.alloc (ag.alloc h (.cells (az s))) (.cells [.int .i64 0,.nils]))=H1 at g0 g1 gn gx ⊢
 have lz:ai none (.ptr h.next 0) H1=some (.int .i64 s.size):=by rw [au g0];rfl
 have ha:gQ [.int .i64 0,.nils] [(0,1)] [.int .i64 s.size]=some (.agg [.int .i64 s.size,.nils]):=rfl
 obtain ⟨H2,hs2,p2,po,pn⟩:=cO (h:=H1) (zs:=[.int .i64 0,.nils]) (cs:=[.int .i64 s.size,.nils]) (n:=2) rfl rfl rfl
 rw [gn] at p2 po pn hs2
 have p0:H2.get h.next=some (.cells (az s)):=by rw [po _ (by omega)];exact g0
 have p1:H2.get (h.next+1)=some (.cells [.int .i64 0,.nils]):=by rw [po _ (by omega)];exact g1
 have px:bT h H2:=⟨by omega,fun b hb=>by rw [po _ (by omega)];exact gx.get b hb⟩
 simp only [aV,Nat.reduceAdd,Nat.reduceEqDiff,reduceIte,lz,ha,gn,hs2]
 refine aB 0 s.rels.l.length (Nat.zero_le _) (fun i e h'=>∃ a rs,h'.get h.next=some (.cells (az s))∧h'.get (h.next+1)=some (.cells [.int .i64 0,.nils])∧h'.get (h.next+2)=some (.cells [.int .i64 s.size,a])∧Own bt 3 (h.next+3) h' a rs∧rs.map cJ=(s.rels.l.take i).map cJ∧bT h h'∧h.next+3≤h'.next ∧
  e 1 = .ptr h.next 0∧e 2 = .ptr (h.next+1) 0∧e 3 = .ptr (h.next+2) 0∧e 4 = .int .i64 (i:Int)) ⟨_,[],p0,p1,p2,.nil,rfl,px,by omega,rfl,rfl,rfl,rfl⟩ ?_ ?_
 ·rintro i e h' _ hi ⟨a,rs,q0,q1,q2,o,hrs,qx,qn,e1,e2,e3,e4⟩ K' hn hx' hr hp
  have hv:s.rels.l[i]?=some s.rels.l[i]:=List.getElem?_eq_getElem hi
  generalize s.rels.l[i]=r at hv
  have hrm:=List.mem_of_getElem? hv
  have lr:ai none (.ptr h.next 1) h'=some (an bt 3 s.rels):=by rw [au q0];rfl
  have lo:ai none (.ptr (h.next+2) 1) h'=some a:=by rw [au q2];rfl
  have hrl:rs.length=i:=by have:=congrArg List.length hrs;rw [List.length_map,List.length_map,List.length_take,Nat.min_eq_left (by omega)] at this;exact this
  rw [F.eW.aN]
  simp only [e1,e3,e4,aV,Nat.reduceAdd,Nat.reduceEqDiff,reduceIte,lr,lo,aY hi,aP s.rels hi,jZ hv,nJ hv,jy hv]
  refine ak (eo (by have:=hs.tups r hrm;omega) (fun t ht=>by have:=hs.tup r hrm t ht;omega) fun y hy=>?_)
  obtain ⟨a5,h5,p5,o5,f5,n5,x5,b5⟩:=o.push fA gz (by omega) (bytes:=48) (by have:=hs.rels;rw [hm];omega) ⟨r.name,r.arity,y⟩
  have hne:dV a≠some (h.next+2):=fun hb=>by have:=o.ge hb;omega
  have s2:h5.get (h.next+2)=some (.cells [.int .i64 s.size,a]):=by rw [f5 _ (by omega) hne];exact q2
  have c5:=o5.nj
  have st:bg 1 (.ptr (h.next+2) 1) a5 h5=some (h5.set (h.next+2) (.cells [.int .i64 s.size,a5])):=by
   rw [cZ (n:=1) s2 c5.2.1 c5.1 (by simp),c5.2.2];rfl
  simp only [outK_ret,lr,lo,jZ hv,nJ hv,bindO_some,AV.beq_refl,Bool.and_self,if_true,Me,GU,p5,bindO2_some,e3,e4,sI,Nat.zero_add,st,aE hi hs.Rq]
  refine hn _ _ ⟨a5,rs++[⟨r.name,r.arity,y⟩],?_,?_,?_,o5.lp (by omega) _,?_,?_,by rw [ag.next_set];omega,e1,e2,e3,rfl⟩
  ·rw [ag.aO,if_neg (by omega),f5 _ (by omega) (fun hb=>by have:=o.ge hb;omega)];exact q0
  ·rw [ag.aO,if_neg (by omega),f5 _ (by omega) (fun hb=>by have:=o.ge hb;omega)];exact q1
  ·rw [ag.aO,if_pos rfl]
  ·rw [List.map_append,hrs,List.take_add_one,hv,List.map_append]
   simp [cJ,hy]
  ·exact (x5 h qx (by omega)).set (by omega) _
 ·rintro e h' ⟨a,rs,q0,q1,q2,o,hrs,qx,qn,e1,e2,e3,e4⟩ K' hx'
  have lr:ai none (.ptr h.next 1) h'=some (an bt 3 s.rels):=by rw [au q0];rfl
  have lo:ai (some 2) (.ptr (h.next+2) 0) h'=some (.agg [.int .i64 s.size,a]):=by rw [au q2];rfl
  have c:=o.nj
  have one2:bL [.int .i64 s.size,a]=true:=by
   have:=c.1;rw [c.2.2] at this;simp only [bL,Bool.and_true] at this ⊢;rw [this];rfl
  have st:bg 2 (.ptr (h.next+1) 0) (.agg [.int .i64 s.size,a]) h'=some (h'.set (h.next+1) (.cells [.int .i64 s.size,a])):=by
   rw [cZ (n:=2) (v:=.agg [.int .i64 s.size,a]) q1 rfl one2 (by simp)];rfl
  have lo2:ai (some 2) (.ptr (h.next+1) 0) (h'.set (h.next+1) (.cells [.int .i64 s.size,a]))=some (.agg [.int .i64 s.size,a]):=by rw [au (cs:=[.int .i64 s.size,a]) (by rw [ag.aO,if_pos rfl])];rfl
  rw [F.eW.aN]
  simp only [e1,e4,aV,Nat.reduceAdd,Nat.reduceEqDiff,reduceIte,lr,aR]
  rw [hx',F.eW.aD]
  simp only [bu,Nat.reduceEqDiff,reduceIte,e2,e3,lo,st,bindO_some,JG,lo2,oneOf]
  rw [List.take_of_length_le (Nat.le_refl _)] at hrs
  exact hK a _ rs (qx.set (by omega) _) ((o.lp (by omega) _).weak (by omega)) hrs
theorem EF{n:Nat}:∀ {a b:List Int} (r:Nat),a.length=b.length→gI n a=true→gI n b=true→eV a b=true→pE n a r<pE n b r
 |[],_,r,_,_,_,h=>by simp [eV] at h
 |_ :: _,[],r,_,_,_,h=>by simp [eV] at h
 |x :: a,y :: b,r,hl,ha,hb,h=>by
  have ha':=ha
  have hb':=hb
  simp only [gI,List.all_cons,Bool.and_eq_true,Bool.not_eq_true',decide_eq_false_iff_not] at ha hb
  have ia:gI n a=true:=by unfold gI;simpa using ha.2
  have ib:gI n b=true:=by unfold gI;simpa using hb.2
  have hl':a.length=b.length:=by simpa using hl
  rw [eV] at h
  simp only [pE]
  by_cases e:x=y
  ·subst e
   rw [if_pos rfl] at h
   exact EF _ hl' ia ib h
  ·rw [if_neg e] at h
   have hxy:=of_decide_eq_true h
   have lo:∀ (l:List Int) (r:Nat),r*n ^ l.length≤pE n l r:=by
    intro l
    induction l with
    |nil=>intro r;simp [pE]
    |cons z l ih=>
     intro r
     rw [pE]
     refine Nat.le_trans ?_ (ih _)
     rw [List.length_cons,Nat.pow_succ,Nat.mul_comm (n ^ l.length) n,← Nat.mul_assoc]
     exact Nat.mul_le_mul_right _ (Nat.le_add_right _ _)
   have hi:∀ (l:List Int) (r:Nat),gI n l=true→pE n l r<(r+1)*n ^ l.length:=by
    intro l
    induction l with
    |nil=>intro r _;simp [pE]
    |cons z l ih=>
     intro r hz
     simp only [gI,List.all_cons,Bool.and_eq_true,Bool.not_eq_true',decide_eq_false_iff_not] at hz
     rw [pE]
     refine Nat.lt_of_lt_of_le (ih _ (by unfold gI;simpa using hz.2)) ?_
     rw [List.length_cons,Nat.pow_succ,Nat.mul_comm (n ^ l.length) n,← Nat.mul_assoc]
     refine Nat.mul_le_mul_right _ ?_
     rw [Nat.succ_mul];omega
   have q1:=hi a (r*n+x.toNat) ia
   have q2:=lo b (r*n+y.toNat)
   have q3:(r*n+x.toNat+1)*n ^ a.length≤(r*n+y.toNat)*n ^ b.length:=by
    rw [hl'];exact Nat.mul_le_mul_right _ (by omega)
   omega
theorem B1{n:Nat}{a b:List Int}(hl:a.length=b.length)(ha:gI n a=true)(hb:gI n b=true)(h:eV a b=true):gy n a<gy n b:=EF 0 hl ha hb h
theorem B2{n r:Nat}:∀ (ts:List (Sl Int)) (d:List Bool),r<d.length→(kF n ts d).getD r false=(d.getD r false||(ts.map Sl.l).any fun u=>gy n u==r)
 |[],d,_=>by simp [kF]
 |t :: ts,d,hr=>by
  rw [kF,B2 ts _ (by simpa using hr),List.map_cons,List.any_cons]
  by_cases h:gy n t.l=r
  ·rw [h,List.getD_eq_getElem?_getD,List.getElem?_set_self hr];simp
  ·have:(gy n t.l==r)=false:=by simpa using h
   rw [List.getD_eq_getElem?_getD,List.getElem?_set_ne h,← List.getD_eq_getElem?_getD,this,Bool.false_or]
def fm(n:Nat):Nat→Nat→List Int
 |0,_=>[]
 |k+1,r=>fm n k (r/n)++[((r%n:Nat):Int)]
theorem B3{n:Nat}(hn:1≤n):∀ (k r:Nat),r<n ^ k→(qG n k)[r]?=some (fm n k r)
 |0,r,h=>by
  obtain rfl:r=0:=by simp at h;omega
  rfl
 |k+1,r,h=>by
  have hr:r/n<n ^ k:=Nat.div_lt_of_lt_mul (by rw [Nat.mul_comm,← Nat.pow_succ];exact h)
  have hx:r%n<n:=Nat.mod_lt _ hn
  have:=vR (n:=n) (B3 hn k (r/n) hr) hx
  rw [qG,fm]
  rwa [Nat.div_add_mod' r n] at this
theorem lQ{n:Nat}(hn:1≤n){k r:Nat}(h:r<n ^ k):gI n (fm n k r)=true∧gy n (fm n k r)=r:=by
 obtain ⟨t,h1,h2,h3,h4⟩:=rC hn k r h
 rw [B3 hn k r h] at h1;cases h1
 exact ⟨h3,h4⟩
theorem Mf{a b:Nat}(hb:0<b):aA .rem (.int .i64 (a:Int)) (.int .i64 (b:Int))=some (.int .i64 ((a%b:Nat):Int)):=by
 have h:¬ (b:Int)=0:=by omega
 simp only [aA,if_true,if_neg h]
 rw [Int.tmod_eq_emod_of_nonneg (by omega)];rfl
theorem Mg{a b:Nat}(hb:0<b)(ha:a≤1000000):aA .quo (.int .i64 (a:Int)) (.int .i64 (b:Int))=some (.int .i64 ((a/b:Nat):Int)):=by
 have h:¬ (b:Int)=0:=by omega
 simp only [aA,if_true,if_neg h]
 have e:((a:Int).tdiv (b:Int))=((a/b:Nat):Int):=by rw [Int.tdiv_eq_ediv_of_nonneg (by omega)];rfl
 have:a/b≤a:=Nat.div_le_self _ _
 rw [e]
 generalize a/b=q at this
 rw [IntWalk.i64_in _ (by omega)]
theorem fc{n k r:Nat}(n1:1≤n)(n64:n≤64)(hk:k≤12)(hc:n ^ k≤4096)(hr:r<n ^ k){h:ag}{K:Out→ag→Bool}(hK:∀ t:Sl Int,t.l=fm n k r→K (.ret (.tuple [an encI 1 t,.int .i64 0])) h=true):Sem Tryz.prog 51 [.int .i64 (n:Int),.int .i64 (k:Int),.int .i64 (r:Int)] h K:=by
 have main:Sem Tryz.prog 51 [.int .i64 (n:Int),.int .i64 (k:Int),.int .i64 (r:Int)] ag.empty (fun o h'=>yes (∃ v,∃ t:Sl Int,o = .ret (.tuple [v,.int .i64 0])∧t.l=fm n k r∧Fz true h' v (an encI 1 t))):=by
  refine F.xG ?_
  refine ak (qB n1 n64 (by unfold cz;omega) ?_)
  rw [HN,if_neg (by omega),if_neg (by omega)]
  have hsub:aA .sub (.int .i64 (k:Int)) (.int .i64 1)=some (.int .i64 ((k:Int)-1)):=og (by omega) (by omega)
  simp only [aV,Nat.reduceAdd,Nat.reduceEqDiff,reduceIte,beq_self_eq_true,Bool.not_true,decide_eq_false (by omega:¬ (r:Int)<0),decide_eq_false (by omega:¬ ((n ^ k:Nat):Int)≤(r:Int)),ry (show k≤1000000 by omega),bG,hsub]
  refine iR (fun j e h'=>∃ (q:Nat) (suf:List Int),j≤k∧fm n k r=fm n j q++suf∧j+suf.length=k∧q≤4096∧h'.get 0=some (.cells ((List.replicate j (0:Int)++suf).map iv))∧e 0 = .int .i64 (n:Int)∧e 2 = .int .i64 (q:Int)∧e 10 = .slice 0 0 k 1∧e 11 = .int .i64 ((j:Int)-1)) k
   ⟨r,[],Nat.le_refl _,by simp,rfl,by omega,by rw [List.append_nil];exact aC _ _,rfl,rfl,rfl,rfl⟩ ?_
  rintro j e h' ⟨q,suf,hj,ht,hl,hq,g0,e0,e2,e10,e11⟩
  rw [F.fc.aN]
  cases j with
  |zero=>
   simp only [e11,mU,bindO_some,condB_bool,decide_eq_false (by omega:¬ (0:Int)≤((0:Nat):Int)-1),aG,loopK_exit]
   rw [F.fc.aD]
   simp only [bu,Nat.reduceEqDiff,reduceIte,e10]
   rw [List.replicate_zero,List.nil_append] at g0
   refine cw.2 ⟨_,some suf,rfl,by rw [ht,fm];rfl,?_⟩
   have:=D9 g0
   rwa [show suf.length=k by omega] at this
  |succ j=>
   have e11':((j+1:Nat):Int)-1=(j:Int):=by omega
   have hjk:j<k:=by omega
   have hset:(List.replicate (j+1) (0:Int)++suf).set j ((q%n:Nat):Int)=List.replicate j 0++(((q%n:Nat):Int) :: suf):=by
    rw [List.replicate_succ',List.append_assoc,List.set_append_right _ _ (by simp)]
    simp
   have hs1:aA .sub (.int .i64 (j:Int)) (.int .i64 1)=some (.int .i64 ((j:Int)-1)):=og (by omega) (by omega)
   rw [e11'] at e11
   simp only [e0,e2,e10,e11,mU,bindO_some,condB_bool,decide_eq_true (by omega:(0:Int)≤(j:Int)),aI,Mf n1,Mg n1 (show q≤1000000 by omega),jT hjk,mC g0 (show j<(List.replicate (j+1) (0:Int)++suf).length by simp;omega),hs1]
   refine cw.2 ⟨j,by omega,rfl,rfl,⟨q/n,(((q%n:Nat):Int) :: suf),by omega,?_,by simp;omega,by have:=Nat.div_le_self q n;omega,by rw [ag.aO,if_pos rfl,hset],e0,rfl,e10,rfl⟩⟩
   rw [ht,fm,List.append_assoc];rfl
 refine main.frozen (by simp [AV.pureL,AV.pure]) fun o h' ho=>?_
 obtain ⟨v,t,rfl,ht,hf⟩:=cw.1 ho
 have:=iQ.cons hf (iQ.cons (.scalar (.int .i64 0) rfl) iQ.nil)
 exact ⟨_,_,rfl,.tuple _ _ this.len this.rel,hK t ht⟩
theorem dR{x:Sl (Sl Int)}{t:Sl Int}(hx:x.l.length≤cz)(ht:∀ u ∈ x.l,u.l.length≤cz){h:ag}{K:Out→ag→Bool}(hK:K (.ret (.bool ((x.l.map Sl.l).any fun u=>u==t.l))) h=true):Sem Tryz.prog 21 [an er 1 x,an encI 1 t] h K:=by
 refine F.xF ?_
 refine aB 0 x.l.length (Nat.zero_le _) (fun i e h'=>h'=h∧e 0=an er 1 x∧e 1=an encI 1 t∧e 5 = .int .i64 (i:Int)∧(((x.l.map Sl.l).take i).any fun u=>u==t.l)=false) ⟨rfl,rfl,rfl,rfl,rfl⟩ ?_ ?_
 ·rintro i e h' _ hi ⟨rfl,e0,e1,e5,hq⟩ K' hn hx' hr hp
  have hv:x.l[i]?=some x.l[i]:=List.getElem?_eq_getElem hi
  generalize x.l[i]=u at hv
  have hv2:(x.l.map Sl.l)[i]?=some u.l:=by rw [List.getElem?_map,hv];rfl
  rw [F.dR.aN]
  simp only [e0,e1,e5,aV,Nat.reduceAdd,Nat.reduceEqDiff,reduceIte,aY hi,aP x hi,fJ hv]
  refine ak (di (ht u (List.mem_of_getElem? hv)) ?_)
  simp only [aV,Nat.reduceAdd,Nat.reduceEqDiff,reduceIte]
  cases h1:u.l==t.l with
  |true=>
   simp only [aI]
   rw [hr,F.dR.bq]
   simp only [bu,Nat.reduceEqDiff,reduceIte]
   rw [List.any_eq_true.2 ⟨u.l,List.mem_of_getElem? hv2,h1⟩] at hK
   exact hK
  |false=>
   simp only [aG,e5,aE hi hx,bindO_some]
   exact hn _ _ ⟨rfl,e0,e1,rfl,qj hv2 hq h1⟩
 ·rintro e h' ⟨rfl,e0,e1,e5,hq⟩ K' hx'
  rw [F.dR.aN]
  simp only [e0,e5,aV,Nat.reduceAdd,Nat.reduceEqDiff,reduceIte,aR]
  rw [hx',F.dR.aD]
  rw [List.take_of_length_le (by simp)] at hq
  rw [hq] at hK;exact hK
end
end Go.AM
namespace Go.AM
open Go Go.Proofs
noncomputable section
abbrev Lk:=bI→Nat→Bool
def j4(n:Nat)(L:Lk)(r:aK)(vs:List Int):Bool:=r.body.l.all fun c=>dD n L c (bw vs (bz r c))
def uF(n:Nat)(r:aK)(vs:List Int):Nat:=gy n (bw vs (placesOf (varsOf r) r.args.l))
def Am(n:Nat)(r:aK)(vs:List Int):Prop:=vs.length=(varsOf r).length∧gI n vs=true
def lR(n:Nat)(rs:List aK)(L:Lk):Prop:=∀ r ∈ rs,∀ vs,Am n r vs→j4 n L r vs=true→L r.name (uF n r vs)=true
structure Over (rs:List aK) (L C:Lk):Prop where
 le:∀ nm k,L nm k=true→C nm k=true
 off:∀ nm,(∀ r ∈ rs,r.name≠nm)→∀ k,C nm k=L nm k
structure uG (n:Nat) (rs:List aK) (L L':Lk):Prop where
 over:Over rs L L'
 closed:lR n rs L'
 least:∀ C,Over rs L C→lR n rs C→∀ nm k,L' nm k=true→C nm k=true
theorem Over.refl(rs:List aK)(L:Lk):Over rs L L:=⟨fun _ _ h=>h,fun _ _ _=>rfl⟩
theorem uG.unique{n:Nat}{rs:List aK}{L A B:Lk}(h:uG n rs L A)(g:uG n rs L B):A=B:=by
 funext nm k
 rw [Bool.eq_iff_iff]
 exact ⟨h.least B g.over g.closed nm k,g.least A h.over h.closed nm k⟩
def An(rs:List aK):Prop:=∀ r ∈ rs,∀ c ∈ r.body.l,c.kind=0→c.neg=true→∀ q ∈ rs,q.name≠c.name
theorem B4{n:Nat}{rs:List aK}{A C:Lk}(hs:An rs)(hle:∀ nm k,A nm k=true→C nm k=true)(hoff:∀ nm,(∀ r ∈ rs,r.name≠nm)→∀ k,C nm k=A nm k){r:aK}(hr:r ∈ rs){c:eN}(hc:c ∈ r.body.l){t:List Int}(h:dD n A c t=true):dD n C c t=true:=by
 unfold dD at h ⊢
 by_cases k0:c.kind=0
 ·rw [if_pos k0] at h ⊢
  cases hn:c.neg with
  |false=>
   rw [hn] at h
   have:A c.name (gy n t)=true:=by simpa using h
   rw [hle _ _ this];rfl
  |true=>
   rw [hn] at h
   rw [hoff c.name (fun q hq=>hs r hr c hc k0 hn q hq)]
   exact h
 ·rw [if_neg k0] at h ⊢
  exact h
inductive iw (n:Nat) (rs:List aK) (lv:Lev.Lv) (L0:Lk):Nat→Lk→Prop
 |zero:iw n rs lv L0 0 L0
 |succ (l:Nat) (L L':Lk):iw n rs lv L0 l L→uG n (hG lv rs l) L L'→iw n rs lv L0 (l+1) L'
theorem iw.unique{n:Nat}{rs:List aK}{lv:Lev.Lv}{L0:Lk}:∀ {l:Nat} {A B:Lk},iw n rs lv L0 l A→iw n rs lv L0 l B→A=B
 |0,A,B,h,g=>by cases h;cases g;rfl
 |l+1,A,B,h,g=>by
  cases h with
  |succ _ La _ ha la=>
   cases g with
   |succ _ Lb _ hb lb=>
    obtain rfl:=iw.unique ha hb
    exact la.unique lb
def Ao(rs:List aK)(lv:Lev.Lv):Prop:=∀ r ∈ rs,∀ c ∈ r.body.l,c.kind=0→(∃ q ∈ rs,q.name=c.name)→lv c.name+(if c.neg=true then 1 else 0)≤lv r.name
theorem Ao.Qv{rs:List aK}{lv:Lev.Lv}(h:Ao rs lv)(l:Nat):An (hG lv rs l):=by
 intro r hr c hc k0 hn q hq e
 unfold hG at hr hq
 simp only [List.mem_filter,decide_eq_true_eq] at hr hq
 have:=h r hr.1 c hc k0 ⟨q,hq.1,e⟩
 rw [hn,if_pos rfl,← e,hq.2,hr.2] at this
 omega
theorem iX{lv:Lev.Lv}{rs:List aK}{l:Nat}{r:aK}:r ∈ hG lv rs l↔r ∈ rs∧lv r.name=l:=by
 unfold hG;simp [List.mem_filter]
theorem iw.rest{n:Nat}{rs:List aK}{lv:Lev.Lv}{L0:Lk}{nm:bI}{l:Nat}{A:Lk}(h:iw n rs lv L0 l A):∀ {t:Nat} {B:Lk},iw n rs lv L0 t B→l≤t→((∀ r ∈ rs,r.name≠nm)∨lv nm<l)→∀ k,B nm k=A nm k:=by
 intro t
 induction t with
 |zero=>
  intro B g hl hn k
  have:l=0:=by omega
  subst this
  rw [h.unique g]
 |succ t ih=>
  intro B g hl hn k
  by_cases e:l=t+1
  ·subst e;rw [h.unique g]
  ·cases g with
   |succ _ L _ hg lg=>
    rw [← ih hg (by omega) hn k]
    refine lg.over.off nm (fun r hr e'=>?_) k
    obtain ⟨h1,h2⟩:=iX.1 hr
    rcases hn with hn|hn
    ·exact hn r h1 e'
    ·rw [e'] at h2;omega
theorem HS{n:Nat}{A B:Lk}{c:eN}(h:c.kind=0→∀ k,A c.name k=B c.name k)(t:List Int):dD n A c t=dD n B c t:=by
 unfold dD
 by_cases k0:c.kind=0
 ·rw [if_pos k0,if_pos k0,h k0]
 ·rw [if_neg k0,if_neg k0]
theorem iw.split{n:Nat}{rs:List aK}{lv:Lev.Lv}{L0:Lk}:∀ {t:Nat} {B:Lk},iw n rs lv L0 t B→∀ l,l≤t→∃ A,iw n rs lv L0 l A
 |0,B,h,l,hl=>⟨B,by obtain rfl:l=0:=by omega
                    exact h⟩
 |t+1,B,h,l,hl=>by
  by_cases e:l=t+1
  ·subst e;exact ⟨B,h⟩
  ·cases h with
   |succ _ L _ hg lg=>exact iw.split hg l (by omega)
theorem iw.JH{n:Nat}{rs:List aK}{lv:Lev.Lv}{L0:Lk}(hlv:Ao rs lv){t:Nat}{B A:Lk}{r:aK}(hr:r ∈ rs)(g:iw n rs lv L0 t B)(h:iw n rs lv L0 (lv r.name+1) A)(ht:lv r.name+1≤t)(vs:List Int):j4 n B r vs=j4 n A r vs:=by
 unfold j4
 rw [Bool.eq_iff_iff,List.all_eq_true,List.all_eq_true]
 have key:∀ c ∈ r.body.l,dD n B c (bw vs (bz r c))=dD n A c (bw vs (bz r c)):=fun c hc=>by
  refine HS (fun k0 k=>?_) _
  refine h.rest g ht ?_ k
  by_cases hd:∃ q ∈ rs,q.name=c.name
  ·exact .inr (by have:=hlv r hr c hc k0 hd;omega)
  ·exact .inl fun q hq e=>hd ⟨q,hq,e⟩
 exact ⟨fun h1 c hc=>by rw [← key c hc];exact h1 c hc,fun h1 c hc=>by rw [key c hc];exact h1 c hc⟩
theorem iw.closed{n:Nat}{rs:List aK}{lv:Lev.Lv}{L0:Lk}(hlv:Ao rs lv){t:Nat}{B:Lk}(g:iw n rs lv L0 t B)(ht:∀ r ∈ rs,lv r.name<t):lR n rs B:=by
 intro r hr vs ha hb
 have hlt:=ht r hr
 obtain ⟨A,hA⟩:=g.split (lv r.name+1) hlt
 rw [g.JH hlv hr hA hlt] at hb
 have h2:A r.name (uF n r vs)=true:=by
  cases hA with
  |succ _ L _ hg lg=>exact lg.closed r (iX.2 ⟨hr,rfl⟩) vs ha hb
 rw [hA.rest g hlt (.inr (by omega))]
 exact h2
end
end Go.AM
namespace Go.AM
open Go Go.Proofs
noncomputable section
theorem vS{D:DB}{nm:bI}{p:Nat×List Bool}(hp:D nm=some p){rk:Nat}(hrk:rk<p.2.length)(x:bI)(k:Nat):eG (jw D nm p.1 (p.2.set rk true)) x k=(eG D x k||(decide (x=nm)&&decide (k=rk))):=by
 unfold eG jw
 by_cases hx:x=nm
 ·subst hx
  rw [if_pos rfl,hp]
  simp only [decide_true,Bool.true_and]
  by_cases hk:k=rk
  ·subst hk
   rw [List.getD_eq_getElem?_getD,List.getElem?_set,if_pos rfl,if_pos hrk];simp
  ·rw [List.getD_eq_getElem?_getD,List.getElem?_set,if_neg (fun e=>hk e.symm),← List.getD_eq_getElem?_getD,decide_eq_false hk,Bool.or_false]
 ·rw [if_neg hx,decide_eq_false hx,Bool.false_and,Bool.or_false]
theorem Nk(a b:Int):a≤GP a b∧b≤GP a b:=by unfold GP;split<;>omega
theorem tn:∀ (ps:List Nat) (a:Int),a≤ps.foldl (fun a (p:Nat)=>GP a (p:Int)) a∧∀ p ∈ ps,(p:Int)≤ps.foldl (fun a (p:Nat)=>GP a (p:Int)) a
 |[],a=>⟨Int.le_refl _,fun p hp=>by cases hp⟩
 |q :: ps,a=>by
  have h:=tn ps (GP a (q:Int))
  have g:=Nk a (q:Int)
  refine ⟨by simp only [List.foldl_cons];omega,fun p hp=>?_⟩
  simp only [List.foldl_cons]
  rcases List.mem_cons.1 hp with rfl|hp
  ·omega
  ·exact h.2 p hp
theorem Ap{ps:List Nat}{p:Nat}(hp:p ∈ ps):(p:Int)≤gG ps:=(tn ps (-1)).2 p hp
theorem JI{ps:List Nat}{k:Nat}(h:∀ p ∈ ps,p<k):gG ps<(k:Int):=by
 unfold gG
 have:∀ (ps:List Nat) (a:Int),a<(k:Int)→(∀ p ∈ ps,p<k)→ps.foldl (fun a (p:Nat)=>GP a (p:Int)) a<(k:Int):=by
  intro ps
  induction ps with
  |nil=>intro a ha _;exact ha
  |cons q ps ih=>
   intro a ha hq
   simp only [List.foldl_cons]
   refine ih _ ?_ fun p hp=>hq p (List.mem_cons_of_mem _ hp)
   have:=hq q List.mem_cons_self
   unfold GP;split<;>omega
 exact this ps (-1) (by omega) h
theorem HT(ps:List Nat):-1≤gG ps:=(tn ps (-1)).1
theorem uH{ps:List Nat}{a b:List Int}(h:∀ p ∈ ps,a.getD p 0=b.getD p 0):bw a ps=bw b ps:=by
 unfold bw
 exact List.map_congr_left h
theorem Mh{r:aK}{c:eN}(hc:c ∈ r.body.l):gG (bz r c)<((varsOf r).length:Int):=JI (jM (lY hc))
theorem getD_set_ne{a:List Int}{v i:Nat}(h:i≠v)(x:Int):(a.set v x).getD i 0=a.getD i 0:=by
 rw [List.getD_eq_getElem?_getD,List.getElem?_set,if_neg (fun e=>h e.symm),← List.getD_eq_getElem?_getD]
theorem EG{a:List Int}{v:Nat}(h:v<a.length)(x:Int):(a.set v x).getD v 0=x:=by
 rw [List.getD_eq_getElem?_getD,List.getElem?_set,if_pos rfl,if_pos h];rfl
theorem rE{n:Nat}{L:Lk}{r:aK}{vs:List Int}{u:Int}:xQ n L r vs u=true↔∀ c ∈ r.body.l,gG (bz r c)=u→dD n L c (bw vs (bz r c))=true:=by
 unfold xQ
 rw [List.all_eq_true]
 refine ⟨fun h c hc e=>?_,fun h c hc=>?_⟩
 ·have:=h c hc
  rw [decide_eq_true e] at this
  exact this
 ·by_cases e:gG (bz r c)=u
  ·rw [h c hc e,Bool.or_true]
  ·rw [decide_eq_false e];rfl
structure HU (rs:List aK) (L C:Lk) (s:DB×Bool):Prop where
 over:Over rs L (eG s.1)
 le:∀ nm k,eG s.1 nm k=true→C nm k=true
theorem HU.off{rs:List aK}{L C:Lk}{s:DB×Bool}(m:HU rs L C s)(hC:Over rs L C):∀ nm,(∀ r ∈ rs,r.name≠nm)→∀ k,C nm k=eG s.1 nm k:=fun nm hn k=>by rw [hC.off nm hn,m.over.off nm hn]
theorem Mi{n:Nat}{rs:List aK}{L C:Lk}(hcl:lR n rs C){r:aK}(hr:r ∈ rs){vs:List Int}(ha:Am n r vs)(happ:j4 n C r vs=true){s:DB×Bool}(hh:∀ p,s.1 r.name=some p→p.2.length=n ^ r.args.l.length)(m:HU rs L C s):HU rs L C (pG n r vs s):=by
 unfold pG
 cases hp:s.1 r.name with
 |none=>exact m
 |some p=>
  simp only
  split
  ·exact m
  ·have hpl:∀ p ∈ placesOf (varsOf r) r.args.l,p<vs.length:=by rw [ha.1];exact jM lX
   have hplen:(placesOf (varsOf r) r.args.l).length=r.args.l.length:=by unfold placesOf;simp
   have hrk:gy n (bw vs (placesOf (varsOf r) r.args.l))<p.2.length:=by
    have:=kE (kG ha.2 hpl)
    rw [iW,hplen] at this
    rw [hh p hp];exact this
   have hC:=hcl r hr vs ha happ
   unfold uF at hC
   refine ⟨⟨fun nm k h=>?_,fun nm hn k=>?_⟩,fun nm k h=>?_⟩
   ·simp only [vS hp hrk,m.over.le nm k h,Bool.true_or]
   ·simp only [vS hp hrk,decide_eq_false (fun e:nm=r.name=>hn r hr e.symm),Bool.false_and,Bool.or_false]
    exact m.over.off nm hn k
   ·simp only [vS hp hrk,Bool.or_eq_true,Bool.and_eq_true,decide_eq_true_eq] at h
    rcases h with h|⟨rfl,rfl⟩
    ·exact m.le nm k h
    ·exact hC
theorem GV{n:Nat}{r:aK}{vs:List Int}{s:DB×Bool}{nm:bI}{N:Nat}(h:∀ p,s.1 nm=some p→p.2.length=N):∀ p,(pG n r vs s).1 nm=some p→p.2.length=N:=by
 intro p hp
 unfold pG at hp
 cases hq:s.1 r.name with
 |none=>rw [hq] at hp;exact h p hp
 |some q=>
  rw [hq] at hp
  simp only at hp
  split at hp
  ·exact h p hp
  ·unfold jw at hp
   simp only at hp
   split at hp
   ·rename_i e;subst e;cases hp;simp only [List.length_set];exact h q hq
   ·exact h p hp
theorem B5{n:Nat}{rs:List aK}{L C:Lk}(hs:An rs)(hC:Over rs L C)(hcl:lR n rs C){r:aK}(hr:r ∈ rs):∀ (m v:Nat) (vs:List Int) (s:DB×Bool),v+m=(varsOf r).length→Am n r vs→HU rs L C s→(∀ p,s.1 r.name=some p→p.2.length=n ^ r.args.l.length) →
  (∀ c ∈ r.body.l,gG (bz r c)<(v:Int)→dD n C c (bw vs (bz r c))=true) →
  HU rs L C (fZ (fun s=>s.1) (pG n r) n r m v vs s).2∧(∀ p,(fZ (fun s=>s.1) (pG n r) n r m v vs s).2.1 r.name=some p→p.2.length=n ^ r.args.l.length)∧Am n r (fZ (fun s=>s.1) (pG n r) n r m v vs s).1∧∀ i,i<v→(fZ (fun s=>s.1) (pG n r) n r m v vs s).1.getD i 0=vs.getD i 0
 |0,v,vs,s,hv,ha,hm,hl,hc=>by
  refine ⟨Mi hcl hr ha ?_ hl hm,GV hl,ha,fun _ _=>rfl⟩
  unfold j4
  rw [List.all_eq_true]
  intro c hcm
  refine hc c hcm ?_
  have:=Mh hcm
  omega
 |m+1,v,vs,s,hv,ha,hm,hl,hc=>by
  refine iA (P:=fun (a:List Int×(DB×Bool))=>HU rs L C a.2∧(∀ p,a.2.1 r.name=some p→p.2.length=n ^ r.args.l.length)∧Am n r a.1∧∀ i,i<v→a.1.getD i 0=vs.getD i 0) ⟨hm,hl,ha,fun _ _=>rfl⟩ fun a x hx hP=>?_
  obtain ⟨p1,p2,p3,p4⟩:=hP
  have hxn:=List.mem_range.1 hx
  have ha2:Am n r (a.1.set v (x:Int)):=⟨by rw [List.length_set];exact p3.1,oJ p3.2 v hxn⟩
  have hag:∀ i,i<v→(a.1.set v (x:Int)).getD i 0=vs.getD i 0:=fun i hi=>by rw [getD_set_ne (by omega)];exact p4 i hi
  unfold jx
  split
  ·rename_i hask
   rw [rE] at hask
   obtain ⟨q1,q2,q3,q4⟩:=B5 hs hC hcl hr m (v+1) (a.1.set v (x:Int)) a.2 (by omega) ha2 p1 p2 fun c hcm hlt=>by
    by_cases e:gG (bz r c)=(v:Int)
    ·exact B4 hs p1.le (p1.off hC) hr hcm (hask c hcm e)
    ·have hlv:gG (bz r c)<(v:Int):=by omega
     rw [uH (b:=vs) fun p hp=>hag p (by have:=Ap hp;omega)]
     exact hc c hcm hlv
   exact ⟨q1,q2,q3,fun i hi=>by rw [q4 i (by omega)];exact hag i hi⟩
  ·exact ⟨p1,p2,ha2,hag⟩
theorem FY{n:Nat}(n1:1≤n){rs:List aK}{L C:Lk}(hs:An rs)(hC:Over rs L C)(hcl:lR n rs C){r:aK}(hr:r ∈ rs){s:DB×Bool}(hm:HU rs L C s)(hl:∀ p,s.1 r.name=some p→p.2.length=n ^ r.args.l.length):HU rs L C (jk n r s):=by
 unfold jk uC
 split
 ·rename_i hask
  rw [rE] at hask
  have ha:Am n r (List.replicate (varsOf r).length 0):=⟨by simp,ym n1 _⟩
  refine (B5 hs hC hcl hr (varsOf r).length 0 _ s (by omega) ha hm hl fun c hcm hlt=>?_).1
  have h1:=HT (bz r c)
  exact B4 hs hm.le (hm.off hC) hr hcm (hask c hcm (by omega))
 ·exact hm
def lE(n:Nat)(rs:List aK)(D:DB):Prop:=∀ r ∈ rs,∀ p,D r.name=some p→p.2.length=n ^ r.args.l.length
theorem HV{n:Nat}{rs:List aK}{r:aK}{vs:List Int}{s:DB×Bool}(h:lE n rs s.1):lE n rs (pG n r vs s).1:=fun q hq=>GV (h q hq)
theorem C7{n:Nat}(n1:1≤n){rs:List aK}{r:aK}{s:DB×Bool}(h:lE n rs s.1):lE n rs (jk n r s).1:=oK (Q:=fun s:DB×Bool=>lE n rs s.1) n1 (fun vs s _ _ h=>HV h) h
theorem HW{n:Nat}(n1:1≤n){rs:List aK}{L C:Lk}(hs:An rs)(hC:Over rs L C)(hcl:lR n rs C){s:DB×Bool}(hm:HU rs L C s)(hl:lE n rs s.1):HU rs L C (jY n rs s)∧lE n rs (jY n rs s).1:=by
 unfold jY
 exact iA (P:=fun s:DB×Bool=>HU rs L C s∧lE n rs s.1) ⟨hm,hl⟩ fun s r hr h=>⟨FY n1 hs hC hcl hr h.1 (h.2 r hr),C7 n1 h.2⟩
theorem B6{n:Nat}(n1:1≤n){rs:List aK}{C:Lk}{D0 D:DB}(hs:An rs)(hC:Over rs (eG D0) C)(hcl:lR n rs C)(hl:lE n rs D0)(hr:Reach n rs D0 D):HU rs (eG D0) C (D,false)∧lE n rs D:=by
 induction hr with
 |refl=>exact ⟨⟨.refl _ _,hC.le⟩,hl⟩
 |step D _ ih=>
  obtain ⟨h1,h2⟩:=HW n1 hs hC hcl ih.1 ih.2
  exact ⟨⟨h1.over,h1.le⟩,h2⟩
def Still(s0 s:DB×Bool):Prop:=s.2=false→s=s0
theorem HX{n:Nat}{r:aK}{vs:List Int}{s0 s:DB×Bool}(h:Still s0 s):Still s0 (pG n r vs s):=by
 intro hf
 unfold pG at hf ⊢
 cases hp:s.1 r.name with
 |none=>rw [hp] at hf;exact h hf
 |some p=>
  rw [hp] at hf
  simp only at hf ⊢
  split at hf
  ·rename_i e;rw [if_pos e];exact h hf
  ·cases hf
theorem qI{n:Nat}{r:aK}{s0:DB×Bool}:∀ (m v:Nat) (vs:List Int) (s:DB×Bool),Still s0 s→Still s0 (fZ (fun s=>s.1) (pG n r) n r m v vs s).2
 |0,v,vs,s,h=>HX h
 |m+1,v,vs,s,h=>by
  refine iA (P:=fun (a:List Int×(DB×Bool))=>Still s0 a.2) h fun a x _ ha=>?_
  unfold jx
  split
  ·exact qI m (v+1) _ _ ha
  ·exact ha
theorem uI{n:Nat}{r:aK}{s0 s:DB×Bool}(h:Still s0 s):Still s0 (jk n r s):=by
 unfold jk uC
 split
 ·exact qI _ _ _ _ h
 ·exact h
theorem oL{α β:Type}{st:α→DB×Bool}{f:α→β→α}(hf:∀ s0 a b,Still s0 (st a)→Still s0 (st (f a b))):∀ (l:List β) (a:α) {D:DB},st (l.foldl f a)=(D,false)→st a=(D,false)
 |[],a,D,h=>h
 |b :: l,a,D,h=>by
  have h1:=oL hf l (f a b) h
  have h2:Still (st a) (st (f a b)):=hf (st a) a b (fun _=>rfl)
  rw [← h2 (by rw [h1]),h1]
theorem Aq{α β:Type}{f:α→β→α}{l:List β}{b:β}(hb:b ∈ l)(a:α):∃ l1 l2,l=l1++b :: l2∧l.foldl f a=l2.foldl f (f (l1.foldl f a) b):=by
 obtain ⟨l1,l2,h⟩:=List.append_of_mem hb
 exact ⟨l1,l2,h,by rw [h,List.foldl_append,List.foldl_cons]⟩
theorem wT{n:Nat}{r:aK}{m v:Nat}(s0:DB×Bool)(a:List Int×(DB×Bool))(x:Nat)(h:Still s0 a.2):Still s0 (jx (fun s=>s.1) n r v (fZ (fun s=>s.1) (pG n r) n r m (v+1)) a x).2:=by
 unfold jx
 split
 ·exact qI m (v+1) _ _ h
 ·exact h
theorem wU{n:Nat}{r:aK}:∀ (m v:Nat) (vs:List Int) (s:DB×Bool),Am n r vs→Am n r (fZ (fun s=>s.1) (pG n r) n r m v vs s).1∧∀ i,i<v→(fZ (fun s=>s.1) (pG n r) n r m v vs s).1.getD i 0=vs.getD i 0
 |0,v,vs,s,ha=>⟨ha,fun _ _=>rfl⟩
 |m+1,v,vs,s,ha=>by
  refine iA (P:=fun (a:List Int×(DB×Bool))=>Am n r a.1∧∀ i,i<v→a.1.getD i 0=vs.getD i 0) ⟨ha,fun _ _=>rfl⟩ fun a y hy hP=>?_
  have hyn:y<n:=List.mem_range.1 hy
  have ha2:Am n r (a.1.set v (y:Int)):=⟨by rw [List.length_set];exact hP.1.1,oJ hP.1.2 v hyn⟩
  have hag2:∀ i,i<v→(a.1.set v (y:Int)).getD i 0=vs.getD i 0:=fun i hi=>by rw [getD_set_ne (by omega)];exact hP.2 i hi
  unfold jx
  split
  ·obtain ⟨w1,w2⟩:=wU m (v+1) (a.1.set v (y:Int)) a.2 ha2
   exact ⟨w1,fun i hi=>by rw [w2 i (by omega)];exact hag2 i hi⟩
  ·exact ⟨ha2,hag2⟩
theorem B7{n:Nat}{r:aK}{D:DB}(hD:∃ p,D r.name=some p):∀ (m v:Nat) (vs:List Int),v+m=(varsOf r).length→Am n r vs→(fZ (fun s=>s.1) (pG n r) n r m v vs (D,false)).2=(D,false) →
  ∀ us,Am n r us→(∀ i,i<v→us.getD i 0=vs.getD i 0)→j4 n (eG D) r us=true→eG D r.name (uF n r us)=true
 |0,v,vs,hv,ha,hf,us,hu,hag,happ=>by
  obtain ⟨p,hp⟩:=hD
  have:us=vs:=by
   refine List.ext_getElem? fun i=>?_
   by_cases hi:i<(varsOf r).length
   ·have:=hag i (by omega)
    rw [List.getD_eq_getElem?_getD,List.getD_eq_getElem?_getD,List.getElem?_eq_getElem (by rw [hu.1];exact hi),List.getElem?_eq_getElem (by rw [ha.1];exact hi)] at this
    rw [List.getElem?_eq_getElem (by rw [hu.1];exact hi),List.getElem?_eq_getElem (by rw [ha.1];exact hi)]
    exact congrArg some this
   ·rw [List.getElem?_eq_none (by rw [hu.1];omega),List.getElem?_eq_none (by rw [ha.1];omega)]
  subst this
  have hf':pG n r us (D,false)=(D,false):=hf
  unfold pG at hf'
  simp only [hp] at hf'
  unfold eG uF
  simp only [hp]
  split at hf'
  ·assumption
  ·exact absurd (congrArg Prod.snd hf') (by simp)
 |m+1,v,vs,hv,ha,hf,us,hu,hag,happ=>by
  have hvl:v<us.length:=by rw [hu.1];omega
  have hin:=Jo hu.2 (List.getElem?_eq_getElem hvl)
  obtain ⟨x,hx⟩:∃ x:Nat,us[v]=(x:Int):=⟨us[v].toNat,by omega⟩
  have hxn:x<n:=by omega
  have hux:us.getD v 0=(x:Int):=by rw [List.getD_eq_getElem?_getD,List.getElem?_eq_getElem hvl];exact hx
  have hf0:((List.range n).foldl (jx (fun s=>s.1) n r v (fZ (fun s=>s.1) (pG n r) n r m (v+1))) (vs,((D,false):DB×Bool))).2=(D,false):=hf
  obtain ⟨l1,l2,hl,hfo⟩:=Aq (f:=jx (fun s=>s.1) n r v (fZ (fun s=>s.1) (pG n r) n r m (v+1))) (List.mem_range.2 hxn) (vs,((D,false):DB×Bool))
  rw [hfo] at hf0
  have h1:=oL (st:=fun a:List Int×(DB×Bool)=>a.2) (fun s0 a b h=>wT s0 a b h) l2 _ hf0
  have hmid:(l1.foldl (jx (fun s=>s.1) n r v (fZ (fun s=>s.1) (pG n r) n r m (v+1))) (vs,((D,false):DB×Bool))).2=(D,false):=by
   have h2:=wT (m:=m) (n:=n) (r:=r) (v:=v) _ (l1.foldl (jx (fun s=>s.1) n r v (fZ (fun s=>s.1) (pG n r) n r m (v+1))) (vs,((D,false):DB×Bool))) x (fun _=>rfl)
   exact (h2 (congrArg Prod.snd h1)).symm.trans h1
  have hok:Am n r (l1.foldl (jx (fun s=>s.1) n r v (fZ (fun s=>s.1) (pG n r) n r m (v+1))) (vs,((D,false):DB×Bool))).1∧∀ i,i<v→(l1.foldl (jx (fun s=>s.1) n r v (fZ (fun s=>s.1) (pG n r) n r m (v+1))) (vs,((D,false):DB×Bool))).1.getD i 0=vs.getD i 0:=by
   refine iA (P:=fun (a:List Int×(DB×Bool))=>Am n r a.1∧∀ i,i<v→a.1.getD i 0=vs.getD i 0) ⟨ha,fun _ _=>rfl⟩ fun a y hy hP=>?_
   have hyn:y<n:=List.mem_range.1 (by rw [hl];exact List.mem_append_left _ hy)
   have ha2:Am n r (a.1.set v (y:Int)):=⟨by rw [List.length_set];exact hP.1.1,oJ hP.1.2 v hyn⟩
   have hag2:∀ i,i<v→(a.1.set v (y:Int)).getD i 0=vs.getD i 0:=fun i hi=>by rw [getD_set_ne (by omega)];exact hP.2 i hi
   unfold jx
   split
   ·obtain ⟨w1,w2⟩:=wU (n:=n) (r:=r) m (v+1) (a.1.set v (y:Int)) a.2 ha2
    exact ⟨w1,fun i hi=>by rw [w2 i (by omega)];exact hag2 i hi⟩
   ·exact ⟨ha2,hag2⟩
  generalize hacc:l1.foldl (jx (fun s=>s.1) n r v (fZ (fun s=>s.1) (pG n r) n r m (v+1))) (vs,((D,false):DB×Bool))=acc at h1 hmid hok
  obtain ⟨av,sv⟩:=acc
  replace hmid:sv=(D,false):=hmid
  subst hmid
  have hagu:∀ i,i<v+1→us.getD i 0=(av.set v (x:Int)).getD i 0:=fun i hi=>by
   by_cases e:i=v
   ·subst e;rw [hux,EG (by rw [hok.1.1];omega)]
   ·rw [getD_set_ne e,hok.2 i (by omega)];exact hag i (by omega)
  have hask:xQ n (eG D) r (av.set v (x:Int)) (v:Int)=true:=by
   rw [rE]
   intro c hc e
   rw [uH (b:=us) fun p hp=>(hagu p (by have:=Ap hp;omega)).symm]
   unfold j4 at happ
   rw [List.all_eq_true] at happ
   exact happ c hc
  unfold jx at h1
  simp only [hask,if_true] at h1
  exact B7 hD m (v+1) (av.set v (x:Int)) (by omega) ⟨by rw [List.length_set];exact hok.1.1,oJ hok.1.2 v hxn⟩ h1 us hu hagu happ
theorem FZ{n:Nat}(n1:1≤n){r:aK}{D:DB}(hD:∃ p,D r.name=some p)(h:jk n r (D,false)=(D,false))(us:List Int)(hu:Am n r us)(happ:j4 n (eG D) r us=true):eG D r.name (uF n r us)=true:=by
 unfold jk uC at h
 have hask:xQ n (eG D) r (List.replicate (varsOf r).length 0) (-1)=true:=by
  rw [rE]
  intro c hc e
  have hno:bz r c = []:=by
   cases hps:bz r c with
   |nil=>rfl
   |cons p ps=>
    have:=Ap (ps:=bz r c) (p:=p) (by rw [hps];exact List.mem_cons_self)
    omega
  unfold j4 at happ
  rw [List.all_eq_true] at happ
  have:=happ c hc
  rw [hno] at this ⊢
  exact this
 simp only [hask,if_true] at h
 exact B7 hD (varsOf r).length 0 _ (by omega) ⟨by simp,ym n1 _⟩ h us hu (fun i hi=>by omega) happ
theorem HY{n:Nat}(n1:1≤n){rs:List aK}{D:DB}(hD:∀ r ∈ rs,∃ p,D r.name=some p)(h:jY n rs (D,false)=(D,false)):lR n rs (eG D):=by
 intro r hr us hu happ
 obtain ⟨l1,l2,hl,hfo⟩:=Aq (f:=fun s r=>jk n r s) hr ((D,false):DB×Bool)
 unfold jY at h
 rw [hfo] at h
 have h1:=oL (st:=fun a:DB×Bool=>a) (f:=fun s r=>jk n r s) (fun s0 a b h=>uI h) l2 _ h
 have h2:=oL (st:=fun a:DB×Bool=>a) (f:=fun s (r:aK)=>jk n r s) (fun s0 a b h=>uI h) [r] (l1.foldl (fun s r=>jk n r s) (D,false)) (D:=D) (by simpa using h1)
 replace h2:l1.foldl (fun s r=>jk n r s) ((D,false):DB×Bool)=(D,false):=h2
 rw [h2] at h1
 exact FZ n1 (hD r hr) h1 us hu happ
theorem HZ{n:Nat}{rs:List aK}{D0 D:DB}{nm:bI}(n1:1≤n)(hr:Reach n rs D0 D)(h:∃ p,D0 nm=some p):∃ p,D nm=some p:=by
 induction hr with
 |refl=>exact h
 |step D _ ih=>
  show ∃ p,(jY n rs (D,false)).1 nm=some p
  unfold jY
  refine iA (P:=fun s:DB×Bool=>∃ p,s.1 nm=some p) ih fun s r _ hs=>?_
  refine oK (Q:=fun s:DB×Bool=>∃ p,s.1 nm=some p) n1 (fun vs s _ _ hs=>?_) hs
  obtain ⟨p,hp⟩:=hs
  unfold pG
  cases hq:s.1 r.name with
  |none=>exact ⟨p,hp⟩
  |some q=>
   simp only
   split
   ·exact ⟨p,hp⟩
   ·unfold jw
    by_cases e:nm=r.name
    ·exact ⟨_,if_pos e⟩
    ·exact ⟨p,by simp only [if_neg e];exact hp⟩
theorem EH{n:Nat}(n1:1≤n){rs:List aK}{D0 D:DB}(hs:An rs)(hl:lE n rs D0)(hD:∀ r ∈ rs,∃ p,D0 r.name=some p)(hr:Reach n rs D0 D)(hp:jY n rs (D,false)=(D,false)):uG n rs (eG D0) (eG D):=by
 have hcl:=HY n1 (fun r hq=>HZ n1 hr (hD r hq)) hp
 refine ⟨?_,hcl,fun C hC hcC=>(B6 n1 hs hC hcC hl hr).1.le⟩
 have top:Over rs (eG D0) (fun nm k=>if (∃ r ∈ rs,r.name=nm) then true else eG D0 nm k):=⟨fun nm k h=>by
   by_cases e:∃ r ∈ rs,r.name=nm
   ·simp [e]
   ·simp [e,h],fun nm hn k=>by
   rw [if_neg]
   rintro ⟨r,h1,h2⟩
   exact hn r h1 h2⟩
 exact (B6 (C:=fun nm k=>if (∃ r ∈ rs,r.name=nm) then true else eG D0 nm k) n1 hs top (fun r hr vs _ _=>if_pos ⟨r,hr,rfl⟩) hl hr).1.over
theorem lE.H7{n:Nat}{rs:List aK}{A B:DB}(h:lE n rs A)(hd:eu B A):lE n rs B:=fun r hr p hp=>by
 obtain ⟨p0,h1,_,h3⟩:=hd.back hp
 rw [h3];exact h r hr p0 h1
theorem F5{n:Nat}(n1:1≤n){rs:List aK}{D0 D:DB}(hr:Reach n rs D0 D):eu D D0:=by
 induction hr with
 |refl=>exact fun _=>rfl
 |step D _ ih=>
  show eu (jY n rs (D,false)).1 D0
  unfold jY
  refine iA (P:=fun s:DB×Bool=>eu s.1 D0) ih fun s r _ hs=>?_
  refine oK (Q:=fun s:DB×Bool=>eu s.1 D0) n1 (fun vs s _ _ hs=>?_) hs
  unfold pG
  cases hq:s.1 r.name with
  |none=>exact hs
  |some q=>
   simp only
   split
   ·exact hs
   ·exact hs.set hq (by simp)
theorem H9{n:Nat}(n1:1≤n){rs:List aK}{lv:Lev.Lv}{D0:DB}(hlv:Ao rs lv)(hl:lE n rs D0)(hD:∀ r ∈ rs,∃ p,D0 r.name=some p):∀ {t:Nat} {D:DB},BW n rs lv D0 t D→iw n rs lv (eG D0) t (eG D)∧eu D D0:=by
 intro t D h
 induction h with
 |zero=>exact ⟨.zero,fun _=>rfl⟩
 |succ l D D' _ hr hp ih=>
  have hd:=(F5 n1 hr).trans ih.2
  refine ⟨.succ l _ _ ih.1 (EH n1 (hlv.Qv l) (fun r hr=>hl.H7 ih.2 r (iX.1 hr).1) (fun r hr=>?_) hr hp),hd⟩
  obtain ⟨p,h1⟩:=hD r (iX.1 hr).1
  obtain ⟨q,h2,_⟩:=ih.2.get h1
  exact ⟨q,h2⟩
end
end Go.AM
namespace Go.AM
open Go Go.Proofs
noncomputable section
theorem EI{b:Nat}{h:ag}{es:List Entry}{ck:Nat}{m:kB}(hb:h.get b=some (.map es ck))(hm:qh es m)(k:bI)(v:AV) :
  ∃ es' ck',ew .string (.map b) (.str k) v h=some (h.set b (.map es' ck'))∧qh es' (m.ov k v):=by
 obtain ⟨r,hr,hm'⟩:=qh.iE (k:=k) 0 hm
 simp only [ew,hb,nr,nq,if_true,hr]
 cases r with
 |none=>simp at hm';exact ⟨_,_,rfl,hm.append hm' v ck⟩
 |some jv=>
  obtain ⟨n,hj,_,e⟩:=hm'
  obtain ⟨j,w⟩:=jv
  simp only [Nat.zero_add] at hj
  subst hj
  exact ⟨_,_,rfl,e v⟩
theorem JJ(m:kB)(k j:bI)(v:AV):(m.ov k v).find j=if j=k then some v else m.find j:=by
 induction m with
 |nil=>
  simp only [kB.ov,kB.find,List.find?_cons,List.find?_nil]
  by_cases h:j=k
  ·subst h;simp
  ·have:(j==k)=false:=by simpa using h
   rw [this,if_neg h]
 |cons p m ih=>
  simp only [kB.ov]
  by_cases hk:k=p.1
  ·rw [if_pos (by simpa using hk)]
   subst hk
   simp only [kB.find,List.find?_cons]
   by_cases h:j=p.1
   ·subst h;simp
   ·have:(j==p.1)=false:=by simpa using h
    rw [this,if_neg h]
  ·rw [if_neg (by simpa using hk)]
   simp only [kB.find,List.find?_cons] at ih ⊢
   by_cases h:j=p.1
   ·subst h
    simp only [beq_self_eq_true,Option.map_some]
    rw [if_neg (Ne.symm hk)]
   ·have:(j==p.1)=false:=by simpa using h
    rw [this]
    exact ih
theorem JK{n k:Nat}{l:List (Sl Int)}(h:tc n k l=true){i:Nat}{t:Sl Int}(ht:l[i]?=some t):t.l.length=k∧gI n t.l=true:=by
 have:=qD h (List.getElem?_eq_some_iff.1 ht).1
 unfold jL at this
 rw [ht] at this
 simp only [Bool.and_eq_true,decide_eq_true_eq] at this
 exact ⟨this.1,this.2.1⟩
end
end Go.AM
namespace Go.AM
open Go Go.Proofs
noncomputable section
def fG(ts:List BZ):Lk:=fun nm k=>match ts.find? (fun t=>t.name==nm) with|some t=>t.bits.getD k false|none=>false
theorem gO(n:Nat):∀ k r,(fm n k r).length=k
 |0,_=>rfl
 |k+1,r=>by rw [fm,List.length_append,gO n k];rfl
theorem EJ{n:Nat}(n1:1≤n){r:aK}{i:Nat}(hi:i<n ^ (varsOf r).length):Am n r (fm n (varsOf r).length i):=⟨gO _ _ _,(lQ n1 hi).1⟩
end
end Go.AM
namespace Go.AM
open Go Go.Proofs
noncomputable section
def F6(es:List Entry)(ck:Nat)(m:dN):Prop:=jd es m∧iU es ck∧(m.map (·.1)).Nodup
theorem uJ{P M:Nat}{v w:AV}{h:ag}{es:List Entry}{ck:Nat}{m:dN}(hP:h.get P=some (.cells [v,.map M,w]))(hM:h.get M=some (.map es ck))(hm0:F6 es ck m)(hPn:P<h.next)(hMn:M<h.next){nm:bI}{xs:Sl bI}{K:Out→ag→Bool}
  (hK:∀ h' es' ck',h'.get M=some (.map es' ck')→F6 es' ck' (m.ov nm xs.l.length)→(∀ b,b<h.next→b≠M→h'.get b=h.get b)→h.next≤h'.next→K (.ret (.bool (HI m nm xs.l.length))) h'=true) :
  Sem Tryz.prog 131 [.ptr P 0,.agg [.str nm,an encS 1 xs]] h K:=by
 obtain ⟨hm,hB,hnd⟩:=hm0
 unfold HI at hK
 refine F.nD ?_
 have hb:cK (.agg [.str nm,an encS 1 xs])=some (gK nm xs):=cY (vH nm xs)
 simp only [hb,bindO_some]
 have g0:(ag.alloc h (.cells (gK nm xs))).get h.next=some (.cells (gK nm xs)):=aC _ _
 have gP:(ag.alloc h (.cells (gK nm xs))).get P=some (.cells [v,.map M,w]):=by rw [ag.aW,if_neg (by omega)];exact hP
 have gM:(ag.alloc h (.cells (gK nm xs))).get M=some (.map es ck):=by rw [ag.aW,if_neg (by omega)];exact hM
 have gx:bT h (ag.alloc h (.cells (gK nm xs))):=bT.alloc _ _
 generalize (ag.alloc h (.cells (gK nm xs)))=H at g0 gP gM gx ⊢
 have g0':∀ x,(H.set M x).get h.next=some (.cells (gK nm xs)):=fun x=>by rw [ag.aO,if_neg (by omega)];exact g0
 obtain ⟨es',ck',hu,hue⟩:=yY gM hm nm xs.l.length
 simp only [aV,Nat.reduceAdd,Nat.reduceEqDiff,reduceIte,cm,au gP,au g0,gK,ox gM hm,hu]
 have fin:=hK (H.set M (.map es' ck')) es' ck' (by rw [ag.aO,if_pos rfl]) ⟨hue,rZ gM hB hu (by rw [ag.aO,if_pos rfl]),BN hnd nm _⟩ (fun b hb hne=>by rw [ag.aO,if_neg hne];exact gx.get b hb) (by rw [ag.next_set];exact gx.next)
 cases hf:m.find nm with
 |none=>
  rw [hf] at fin
  simp only [Option.isSome_none,Bool.not_false,aI]
  exact fin
 |some k=>
  rw [hf] at fin
  simp only [Option.isSome_some,Bool.not_true,aG,Option.getD_some,aV,Nat.reduceAdd,Nat.reduceEqDiff,reduceIte,au (g0' _),gK,cQ]
  exact fin
set_option maxHeartbeats 1000000 in
theorem Ia{rules:Sl aK}(hok:∀ r ∈ rules.l,r.ok)(hfew:∀ r ∈ rules.l,r.kX){h:ag}{K:Out→ag→Bool}
  (hno:¬ jW rules.l→∀ h',(∀ b,b<h.next→h'.get b=h.get b)→K (.ret (.tuple [.nilp,.bool false])) h'=true)
  (hyes:∀ h' P A M ks k,jW rules.l→Lev.dc (bQ rules.l) (Lev.iter (bQ rules.l) k)→h'.get P=some (.cells [an aM 3 rules,.map A,.map M])→eU (bA rules.l) h' M ks (Lev.iter (bQ rules.l) k)→ks.Nodup→P<h'.next→M<h'.next→∀ m es ck,dU rules.l []=some m→h'.get A=some (.map es ck)→F6 es ck m→h.next≤A→A<M→M<P→(∀ b,b<h.next→h'.get b=h.get b)→K (.ret (.tuple [.ptr P 0,.bool true])) h'=true):Sem Tryz.prog 83 [an aM 3 rules] h K:=by
 refine F.CJ ?_
 simp only [ag.next_alloc,Qq,Qr,bindO_some]
 have gA:(ag.alloc (ag.alloc (ag.alloc h (.map [] 0)) (.map [] 0)) (.cells [an aM 3 rules,.map h.next,.map (h.next+1)])).get h.next=some (.map [] 0):=by
  rw [ag.aW,ag.next_alloc,ag.next_alloc,if_neg (by omega),ag.aW,ag.next_alloc,if_neg (by omega)];exact aC _ _
 have gM:(ag.alloc (ag.alloc (ag.alloc h (.map [] 0)) (.map [] 0)) (.cells [an aM 3 rules,.map h.next,.map (h.next+1)])).get (h.next+1)=some (.map [] 0):=by
  rw [ag.aW,ag.next_alloc,ag.next_alloc,if_neg (by omega)];exact aC _ _
 have gP:(ag.alloc (ag.alloc (ag.alloc h (.map [] 0)) (.map [] 0)) (.cells [an aM 3 rules,.map h.next,.map (h.next+1)])).get (h.next+1+1)=some (.cells [an aM 3 rules,.map h.next,.map (h.next+1)]):=aC _ _
 have gn:(ag.alloc (ag.alloc (ag.alloc h (.map [] 0)) (.map [] 0)) (.cells [an aM 3 rules,.map h.next,.map (h.next+1)])).next=h.next+1+1+1:=rfl
 have gF:∀ b,b<h.next→(ag.alloc (ag.alloc (ag.alloc h (.map [] 0)) (.map [] 0)) (.cells [an aM 3 rules,.map h.next,.map (h.next+1)])).get b=h.get b:=(((bT.alloc _ _).trans (bT.alloc _ _)).trans (bT.alloc _ _)).get
 generalize (ag.alloc (ag.alloc (ag.alloc h (.map [] 0)) (.map [] 0)) (.cells [an aM 3 rules,.map h.next,.map (h.next+1)]))=H0 at gA gM gP gn gF ⊢
 obtain ⟨A,hA⟩:∃ A,A=h.next:=⟨_,rfl⟩
 obtain ⟨M,hM⟩:∃ M,M=h.next+1:=⟨_,rfl⟩
 obtain ⟨P,hP⟩:∃ P,P=h.next+1+1:=⟨_,rfl⟩
 rw [← hP] at gP gn ⊢
 rw [← hM] at gM gP ⊢
 rw [← hA] at gA gP gF ⊢
 have hAM:A<M:=by omega
 have hMP:M<P:=by omega
 clear hM hP
 simp only [aV,Nat.reduceAdd,Nat.reduceEqDiff,reduceIte]
 by_cases h61:60<rules.l.length
 ·simp only [decide_eq_true (by omega:(60:Int)<(rules.l.length:Int)),aI]
  exact hno (fun hg=>by have:=hg.kX;omega) _ (fun b hb=>gF b (by omega))
 have h60:rules.l.length≤60:=by omega
 simp only [decide_eq_false (by omega:¬ (60:Int)<(rules.l.length:Int)),aG]
 have hbig:rules.l.length≤cz:=by unfold cz;omega
 have bad:dU rules.l []=none→∀ h',(∀ b,b<A→h'.get b=h.get b)→K (.ret (.tuple [.nilp,.bool false])) h'=true:=fun hn h' hf=>hno (fun hg=>by obtain ⟨m,hm⟩:=hg.go;rw [hn] at hm;cases hm) h' (fun b hb=>hf b (by omega))
 refine aB 0 rules.l.length (Nat.zero_le _) (fun i e h'=>∃ m ks es ck,(∀ b,b<A→h'.get b=h.get b)∧dU rules.l []=dU (rules.l.drop i) m∧h'.get A=some (.map es ck)∧F6 es ck m∧eU (bA (rules.l.take i)) h' M ks (fun _=>0)∧ks.Nodup ∧
  h'.get P=some (.cells [an aM 3 rules,.map A,.map M])∧P<h'.next∧e 4 = .ptr P 0∧e 17=an aM 3 rules∧e 18 = .int .i64 (rules.l.length:Int)∧e 19 = .int .i64 (i:Int))
  ⟨[],[],[],0,gF,rfl,gA,⟨trivial,iU.nil 0,List.nodup_nil⟩,⟨[],0,[],gM,trivial,iU.nil 0,rfl,fun x=>by simp [bA,dN.find]⟩,List.nodup_nil,gP,by omega,rfl,rfl,rfl,rfl⟩ ?_ ?_
 ·rintro i e h' _ hi ⟨m,ks,es,ck,hF,hm,qA,hmI,la,hks,qP,hPn,e4,e17,e18,e19⟩ K' hn hx hr hp
  have hv:rules.l[i]?=some rules.l[i]:=List.getElem?_eq_getElem hi
  generalize rules.l[i]=r at hv
  have hrok:=hok r (List.mem_of_getElem? hv)
  have hrf:=hfew r (List.mem_of_getElem? hv)
  obtain ⟨H,hs1,g1,go,gn1⟩:=cO (h:=h') (zs:=[.str [],.nils,.nils]) (cs:=aM r) (n:=3) rfl rfl (iz r)
  have pA:H.get A=some (.map es ck):=by rw [go A (by omega)];exact qA
  have pP:H.get P=some (.cells [an aM 3 rules,.map A,.map M]):=by rw [go P (by omega)];exact qP
  have pl:eU (bA (rules.l.take i)) H M ks (fun _=>0):=la.keep (go M (by omega))
  rw [BP hv,dU] at hm
  rw [F.b7.aN]
  simp only [e4,e17,e18,e19,aV,Nat.reduceAdd,Nat.reduceEqDiff,reduceIte,aY hi,aP rules hi,dQ fe hv,hs1]
  simp only [aV,Nat.reduceAdd,Nat.reduceEqDiff,reduceIte,au g1,aM,GM]
  refine ak (zU hrok.2.1 ?_)
  simp only [aV,Nat.reduceAdd,Nat.reduceEqDiff,reduceIte]
  cases ha:kg r.name r.args.l with
  |false=>
   rw [ha,cond_false] at hm
   simp only [Bool.not_false,aI]
   rw [hr,F.b7.bq]
   exact bad hm _ (fun b hb=>by rw [go b (by omega)];exact hF b hb)
  |true=>
  rw [ha,cond_true,BR] at hm
  simp only [Bool.not_true,aG,aV,Nat.reduceAdd,Nat.reduceEqDiff,reduceIte,au g1,aM,GM,e4]
  refine ak (uJ pP pA hmI (by omega) (by omega) fun h3 es3 ck3 a1 a2 a3 a4=>?_)
  simp only [aV,Nat.reduceAdd,Nat.reduceEqDiff,reduceIte]
  cases hq:HI m r.name r.args.l.length with
  |false=>
   rw [hq,if_neg (by simp)] at hm
   simp only [Bool.not_false,aI]
   rw [hr,F.b7.bq]
   exact bad hm _ (fun b hb=>by rw [a3 b (by omega) (by omega),go b (by omega)];exact hF b hb)
  |true=>
  rw [hq,if_pos rfl] at hm
  have g3:h3.get h'.next=some (.cells (aM r)):=by rw [a3 _ (by omega) (by omega)];exact g1
  have P3:h3.get P=some (.cells [an aM 3 rules,.map A,.map M]):=by rw [a3 P (by omega) (by omega)];exact pP
  have l3:eU (bA (rules.l.take i)) h3 M ks (fun _=>0):=pl.keep (a3 M (by omega) (by omega))
  simp only [Bool.not_true,aG,aV,Nat.reduceAdd,Nat.reduceEqDiff,reduceIte,au g3,aM]
  by_cases h20:20<r.body.l.length
  ·simp only at hm
   rw [if_pos h20] at hm
   simp only [decide_eq_true (by omega:(20:Int)<(r.body.l.length:Int)),aI]
   rw [hr,F.b7.bq]
   exact bad hm _ (fun b hb=>by rw [a3 b (by omega) (by omega),go b (by omega)];exact hF b hb)
  simp only at hm
  rw [if_neg h20] at hm
  simp only [decide_eq_false (by omega:¬ (20:Int)<(r.body.l.length:Int)),aG,aV,Nat.reduceAdd,Nat.reduceEqDiff,reduceIte,au g3,aM,oG]
  refine ak (cF hrf fun x hx1=>?_)
  simp only [aV,Nat.reduceAdd,Nat.reduceEqDiff,reduceIte,hx1]
  by_cases h12:12<(varsOf r).length
  ·rw [if_pos h12] at hm
   simp only [decide_eq_true (by omega:(12:Int)<((varsOf r).length:Int)),aI]
   rw [hr,F.b7.bq]
   exact bad hm _ (fun b hb=>by rw [a3 b (by omega) (by omega),go b (by omega)];exact hF b hb)
  rw [if_neg h12] at hm
  simp only [decide_eq_false (by omega:¬ (12:Int)<((varsOf r).length:Int)),aG,aV,Nat.reduceAdd,Nat.reduceEqDiff,reduceIte,au g3,aM]
  have hbb:r.body.l.length≤cz:=by unfold cz;omega
  refine aB 0 r.body.l.length (Nat.zero_le _) (fun j e h2=>∃ m2 es2 ck2,(∀ b,b<A→h2.get b=h.get b)∧lP r.body.l (m.ov r.name r.args.l.length)=lP (r.body.l.drop j) m2∧h2.get A=some (.map es2 ck2)∧F6 es2 ck2 m2∧eU (bA (rules.l.take i)) h2 M ks (fun _=>0) ∧
   h2.get P=some (.cells [an aM 3 rules,.map A,.map M])∧h2.get h'.next=some (.cells (aM r))∧h'.next<h2.next∧e 4 = .ptr P 0∧e 6 = .ptr h'.next 0∧e 17=an aM 3 rules∧e 18 = .int .i64 (rules.l.length:Int)∧e 19 = .int .i64 (i:Int) ∧
   e 47=an b6 4 r.body∧e 48 = .int .i64 (r.body.l.length:Int)∧e 49 = .int .i64 (j:Int))
   ⟨_,es3,ck3,fun b hb=>by rw [a3 b (by omega) (by omega),go b (by omega)];exact hF b hb,rfl,a1,a2,l3,P3,g3,by omega,e4,rfl,e17,e18,e19,rfl,rfl,rfl⟩ ?_ ?_
  ·rintro j e h2 _ hj ⟨m2,es2,ck2,hF2,hm2,qA2,hmI2,la2,qP2,qR2,hn2,e4,e6,e17,e18,e19,e47,e48,e49⟩ K2 hnn hx2 hr2 hp2
   have hc:r.body.l[j]?=some r.body.l[j]:=List.getElem?_eq_getElem hj
   generalize r.body.l[j]=c at hc
   have hcok:=hrok.2.2.2.2 c (List.mem_of_getElem? hc)
   obtain ⟨H2,hs2,k1,ko,kn⟩:=cO (h:=h2) (zs:=[.int .i64 0,.bool false,.str [],.nils]) (cs:=b6 c) (n:=4) rfl rfl (gN c)
   have kA:H2.get A=some (.map es2 ck2):=by rw [ko A (by omega)];exact qA2
   have kP:H2.get P=some (.cells [an aM 3 rules,.map A,.map M]):=by rw [ko P (by omega)];exact qP2
   have kR:H2.get h'.next=some (.cells (aM r)):=by rw [ko _ (by omega)];exact qR2
   have kl:eU (bA (rules.l.take i)) H2 M ks (fun _=>0):=la2.keep (ko M (by omega))
   rw [BP hc,lP] at hm2
   rw [F.b7.cP]
   simp only [e4,e6,e17,e18,e19,e47,e48,e49,aV,Nat.reduceAdd,Nat.reduceEqDiff,reduceIte,aY hj,aP r.body hj,dQ gL hc,hs2]
   simp only [aV,Nat.reduceAdd,Nat.reduceEqDiff,reduceIte,au k1,b6,CU]
   refine ak (eA hcok ?_)
   simp only [aV,Nat.reduceAdd,Nat.reduceEqDiff,reduceIte]
   cases hco:fO c with
   |false=>
    rw [hco,cond_false] at hm2
    rw [hm2] at hm
    simp only [Bool.not_false,aI]
    rw [hr2,F.b7.fY,hr,F.b7.bq]
    exact bad hm _ (fun b hb=>by rw [ko b (by omega)];exact hF2 b hb)
   |true=>
   rw [hco,cond_true] at hm2
   simp only [Bool.not_true,aG,aV,Nat.reduceAdd,Nat.reduceEqDiff,reduceIte,au k1,b6,cQ]
   by_cases k0:c.kind=0
   ·rw [if_pos k0,BR] at hm2
    simp only [decide_eq_true k0,aI,aV,Nat.reduceAdd,Nat.reduceEqDiff,reduceIte,au k1,b6,GL,e4]
    refine ak (uJ kP kA hmI2 (by omega) (by omega) fun h4 es4 ck4 b1 b2 b3 b4=>?_)
    simp only [aV,Nat.reduceAdd,Nat.reduceEqDiff,reduceIte]
    cases hq2:HI m2 c.name c.args.l.length with
    |false=>
     rw [hq2,if_neg (by simp)] at hm2
     simp only at hm2
     rw [hm2] at hm
     simp only [Bool.not_false,aI]
     rw [hr2,F.b7.fY,hr,F.b7.bq]
     exact bad hm _ (fun b hb=>by rw [b3 b (by omega) (by omega),ko b (by omega)];exact hF2 b hb)
    |true=>
     rw [hq2,if_pos rfl] at hm2
     simp only [Bool.not_true,aG,e49,aE hj hbb,bindO_some]
     refine hnn _ _ ⟨_,es4,ck4,fun b hb=>by rw [b3 b (by omega) (by omega),ko b (by omega)];exact hF2 b hb,hm2,b1,b2,kl.keep (b3 M (by omega) (by omega)),?_,?_,by omega,e4,e6,e17,e18,e19,e47,e48,rfl⟩
     ·rw [b3 P (by omega) (by omega)];exact kP
     ·rw [b3 _ (by omega) (by omega)];exact kR
   ·rw [if_neg k0] at hm2
    simp only [decide_eq_false k0,aG,e49,aE hj hbb,bindO_some]
    exact hnn _ _ ⟨m2,es2,ck2,fun b hb=>by rw [ko b (by omega)];exact hF2 b hb,hm2,kA,hmI2,kl,kP,kR,by omega,e4,e6,e17,e18,e19,e47,e48,rfl⟩
  ·rintro e h2 ⟨m2,es2,ck2,hF2,hm2,qA2,hmI2,la2,qP2,qR2,hn2,e4,e6,e17,e18,e19,e47,e48,e49⟩ K2 hx2
   rw [List.drop_of_length_le (Nat.le_refl _),lP] at hm2
   rw [hm2] at hm
   simp only at hm
   obtain ⟨h5,ks5,u1,u2,u3,u4,u5⟩:=la2.add hks r.name
   rw [F.b7.cP]
   simp only [e48,e49,aV,Nat.reduceAdd,Nat.reduceEqDiff,reduceIte,aR]
   rw [hx2,F.b7.b8]
   simp only [e4,e6,e19,aV,Nat.reduceAdd,Nat.reduceEqDiff,reduceIte,cm,au qP2,au qR2,aM,u1,aE hi hbig]
   refine hn _ _ ⟨m2,ks5,es2,ck2,fun b hb=>by rw [u4 b (by omega)];exact hF2 b hb,hm,by rw [u4 A (by omega)];exact qA2,hmI2,?_,u3,by rw [u4 P (by omega)];exact qP2,by omega,e4,e17,e18,rfl⟩
   have:bA (rules.l.take (i+1))=bA (rules.l.take i)++[r.name]:=by unfold bA;rw [List.take_add_one,hv];simp
   rw [this];exact u2
 ·rintro e h' ⟨m,ks,es,ck,hF,hm,qA,hmI,la,hks,qP,hPn,e4,e17,e18,e19⟩ K' hx
  rw [List.drop_of_length_le (Nat.le_refl _),dU] at hm
  rw [List.take_of_length_le (Nat.le_refl _)] at la
  have hgo:=g9 hm
  have hk60:ks.length≤60:=by
   have:=Lev.nk hks (m:=bA rules.l) fun x hx=>(la.mem x).1 hx
   have h1:(bA rules.l).length=rules.l.length:=by simp [bA]
   omega
  rw [F.b7.aN]
  simp only [e18,e19,aV,Nat.reduceAdd,Nat.reduceEqDiff,reduceIte,aR]
  rw [hx,F.b7.aD]
  simp only [e4,aV,Nat.reduceAdd,Nat.reduceEqDiff,reduceIte,cm,au qP,la.len,aE (i:=ks.length) (n:=61) (by omega) (by unfold cz;omega)]
  refine aB 0 (ks.length+1) (Nat.zero_le _) (fun i e h'=>(∀ b,b<A→h'.get b=h.get b)∧h'.get A=some (.map es ck)∧eU (bA rules.l) h' M ks (Lev.iter (bQ rules.l) i)∧h'.get P=some (.cells [an aM 3 rules,.map A,.map M])∧P<h'.next∧(∀ j,j<i→¬ Lev.dc (bQ rules.l) (Lev.iter (bQ rules.l) j)) ∧
   e 4 = .ptr P 0∧e 82 = .int .i64 ((ks.length+1:Nat):Int)∧e 83 = .int .i64 (i:Int)) ⟨hF,qA,la,qP,hPn,fun j hj=>by omega,e4,rfl,rfl⟩ ?_ ?_
  ·rintro i e h2 _ hi ⟨hF2,qA2,l2,q2,n2,st2,e4,e82,e83⟩ K2 hn2 hx2 hr2 hp2
   rw [F.b7.ju]
   simp only [e4,e82,e83,aV,Nat.reduceAdd,Nat.reduceEqDiff,reduceIte,aY hi]
   refine ak (FJ (N:=i*1200) q2 l2 n2 (by omega) h60 (fun r hr=>⟨(hgo r hr).2.1,List.mem_map_of_mem hr⟩) (sY h60 (fun r hr=>(hgo r hr).2.1) i) (by omega) fun h3 l3 f3 n3=>?_)
   simp only [aV,Nat.reduceAdd,Nat.reduceEqDiff,reduceIte,Bool.not_not]
   have qA3:h3.get A=some (.map es ck):=by rw [f3 A (by omega) (by omega)];exact qA2
   have q3:h3.get P=some (.cells [an aM 3 rules,.map A,.map M]):=by rw [f3 P n2 (by omega)];exact q2
   by_cases hst:Lev.dc (bQ rules.l) (Lev.iter (bQ rules.l) i)
   ·have hst':Lev.dc (jh (bA rules.l) rules.l) (Lev.iter (bQ rules.l) i):=hst
    simp only [decide_eq_true hst',aI]
    rw [hr2,F.b7.uh]
    simp only [bu,Nat.reduceEqDiff,reduceIte,e4]
    rw [Lev.sj hst'] at l3
    exact hyes h3 P A M ks i ⟨h60,⟨m,hm⟩,i,hst⟩ hst q3 l3 hks (by omega) (by omega) m es ck hm qA3 hmI (by omega) hAM hMP (fun b hb=>by rw [f3 b (by omega) (by omega)];exact hF2 b (by omega))
   ·have hst':¬ Lev.dc (jh (bA rules.l) rules.l) (Lev.iter (bQ rules.l) i):=hst
    simp only [decide_eq_false hst',aG,e83,aE hi (show ks.length+1≤cz by unfold cz;omega),bindO_some]
    exact hn2 _ _ ⟨fun b hb=>by rw [f3 b (by omega) (by omega)];exact hF2 b hb,qA3,l3,q3,by omega,fun j hj=>by
     by_cases hji:j=i
     ·subst hji;exact hst
     ·exact st2 j (by omega),e4,e82,rfl⟩
  ·rintro e h2 ⟨hF2,_,l2,q2,n2,st2,e4,e82,e83⟩ K2 hx2
   rw [F.b7.ju]
   simp only [e82,e83,aV,Nat.reduceAdd,Nat.reduceEqDiff,reduceIte,aR]
   rw [hx2,F.b7.fV]
   refine hno (fun hg=>?_) _ (fun b hb=>hF2 b (by omega))
   obtain ⟨k,hk⟩:=hg.lev
   refine st2 ks.length (by omega) (Lev.settle (fun e he=>?_) hk)
   obtain ⟨r,hr,c,hc,_,hin,rfl⟩:=qt he
   exact ⟨(la.mem _).2 hin,(la.mem _).2 (List.mem_map_of_mem hr)⟩
end
end Go.AM
namespace Go.AM
open Go Go.Proofs
noncomputable section
theorem Ib(D:DB)(nm:bI)(b:Nat)(d d':List Bool):jw (jw D nm b d) nm b d'=jw D nm b d':=by
 funext j;unfold jw
 by_cases e:j=nm
 ·rw [if_pos e,if_pos e]
 ·rw [if_neg e,if_neg e,if_neg e]
theorem nM(D:DB)(nm:bI)(b:Nat)(d:List Bool):jw D nm b d nm=some (b,d):=if_pos rfl
theorem yp{D:DB}{nm j:bI}(h:j≠nm)(b:Nat)(d:List Bool):jw D nm b d j=D j:=if_neg h
theorem ei.add{D:DB}{h:ag}{B lo:Nat}(b:ei D h B lo)(hlo:lo≤h.next)(N:Nat)(nm:bI) :
  ∃ h',ew .string (.map B) (.str nm) (.slice h.next 0 N 1) (h.alloc (.cells ((List.replicate N false).map bv)))=some h'∧ei (jw D nm h.next (List.replicate N false)) h' B lo∧(∀ c,c<h.next→c≠B→h'.get c=h.get c)∧h'.next=h.next+1:=by
 obtain ⟨es,ck,m,e1,e2,e3⟩:=b.ex
 have hB:=b.lt
 have a1:(h.alloc (.cells ((List.replicate N false).map bv))).get B=some (.map es ck):=by rw [ag.aW,if_neg (by omega)];exact e1
 obtain ⟨es',ck',hu,hue⟩:=EI a1 e2 nm (.slice h.next 0 N 1)
 refine ⟨_,hu,⟨⟨es',ck',_,by rw [ag.aO,if_pos rfl],hue,fun j=>?_⟩,fun j q hq=>?_,fun j j' q q' hq hq' hqq=>?_,by rw [ag.next_set,ag.next_alloc];omega⟩,fun c hc hcB=>by rw [ag.aO,if_neg hcB,ag.aW,if_neg (by omega)],by rw [ag.next_set,ag.next_alloc]⟩
 ·rw [JJ]
  unfold jw
  by_cases e:j=nm
  ·rw [if_pos e,if_pos e,Option.map_some,List.length_replicate]
  ·rw [if_neg e,if_neg e,e3]
 ·unfold jw at hq
  by_cases e:j=nm
  ·rw [if_pos e] at hq;cases hq
   exact ⟨hlo,by rw [ag.next_set,ag.next_alloc];exact Nat.lt_succ_self _,by show h.next≠B;omega,by rw [ag.aO,if_neg (by show h.next≠B;omega)];exact aC _ _⟩
  ·rw [if_neg e] at hq
   obtain ⟨k1,k2,k3,k4⟩:=b.blk j q hq
   exact ⟨k1,by rw [ag.next_set,ag.next_alloc];omega,k3,by rw [ag.aO,if_neg k3,ag.aW,if_neg (by omega)];exact k4⟩
 ·unfold jw at hq hq'
  by_cases e:j=nm
  ·by_cases e':j'=nm
   ·rw [e,e']
   ·rw [if_pos e] at hq;rw [if_neg e'] at hq';cases hq
    have:=(b.blk j' q' hq').2.1
    simp only at hqq;omega
  ·by_cases e':j'=nm
   ·rw [if_neg e] at hq;rw [if_pos e'] at hq';cases hq'
    have:=(b.blk j q hq).2.1
    simp only at hqq;omega
   ·rw [if_neg e] at hq;rw [if_neg e'] at hq';exact b.inj j j' q q' hq hq' hqq
theorem Nl{S n:Nat}{R:AV}{h:ag}(hS:h.get S=some (.cells [.int .i64 (n:Int),R]))(h1:1≤n){x:Sl Int}{k:Nat}(hk:x.l.length=k)(hx:k≤12)(hc:n ^ k≤4096)(hb:gI n x.l=true){K:Out→ag→Bool}
  (hK:K (.ret (.int .i64 ((gy n x.l:Nat):Int))) h=true):Sem Tryz.prog 69 [.ptr S 0,an encI 1 x] h K:=FN hS h1 (by omega) (by rw [hk];exact hc) hb hK
theorem Mj{n k:Nat}(hk:k≤12)(hc:n ^ k≤4096):HN n k = .tuple [.int .i64 ((n ^ k:Nat):Int),.int .i64 0]:=by rw [HN,if_neg (by omega),if_neg (by omega)]
set_option maxHeartbeats 1000000 in
theorem C8{n B S SB P lo:Nat}{s:dJ}{D1:DB}(hsok:s.ok)(hsv:cT s=true)(hn:s.size=(n:Int))(n1:1≤n)(n64:n≤64){h:ag}{e0:Env}{K:Out→ag→Bool}
  (hS:h.get S=some (.cells [.int .i64 (n:Int),.map B])) (hSB:h.get SB=some (.cells (az s))) (hD:ei D1 h B lo) (hSne:S≠B) (hSBne:SB≠B) (hSn:S<h.next) (hSBn:SB<h.next) (hlo:lo≤h.next)
  (q3:e0 3 = .ptr SB 0) (q7:e0 7 = .ptr P 0) (q17:e0 17 = .ptr S 0) (q154:e0 154=an bt 3 s.rels) (q155:e0 155 = .int .i64 (s.rels.l.length:Int)) (q156:e0 156 = .int .i64 0)
  (done:∀ h' D',ei D' h' B lo→(∀ r ∈ s.rels.l,∃ b,h.next≤b∧D' r.name=some (b,bitsOf n r.arity.toNat r.tuples.l))→(∀ nm,(∀ r ∈ s.rels.l,r.name≠nm)→D' nm=D1 nm)→(∀ c,c<h.next→c≠B→h'.get c=h.get c)→h.next≤h'.next→K (.ret (.tuple [.ptr P 0,.ptr S 0,.int .i64 0])) h'=true) :
  aT (aq Tryz.prog (ah Tryz.prog) F.ay.L5) ⟨e0,198,[],h⟩ (F.ay.QM K)=true:=by
 have hbig:=hsok.1
 have hBn:=hD.lt
 refine aB 0 s.rels.l.length (Nat.zero_le _) (fun i e h'=>∃ D,ei D h' B lo∧(∀ r ∈ s.rels.l.take i,∃ b,h.next≤b∧D r.name=some (b,bitsOf n r.arity.toNat r.tuples.l))∧(∀ nm,(∀ r ∈ s.rels.l.take i,r.name≠nm)→D nm=D1 nm)∧(∀ c,c<h.next→c≠B→h'.get c=h.get c)∧h.next≤h'.next ∧
  e 3 = .ptr SB 0∧e 7 = .ptr P 0∧e 17 = .ptr S 0∧e 154=an bt 3 s.rels∧e 155 = .int .i64 (s.rels.l.length:Int)∧e 156 = .int .i64 (i:Int))
  ⟨D1,hD,fun r hr=>(by cases hr),fun _ _=>rfl,fun _ _ _=>rfl,Nat.le_refl _,q3,q7,q17,q154,q155,q156⟩ ?_ ?_
 ·rintro i e h' _ hi ⟨D,hDa,hrel,hoth,hfr,hnx,e3,e7,e17,e154,e155,e156⟩ K' hn' hx hr hp
  have hv:s.rels.l[i]?=some s.rels.l[i]:=List.getElem?_eq_getElem hi
  generalize s.rels.l[i]=r at hv
  have hro:r.ok:=hsok.2 r (List.mem_of_getElem? hv)
  have hrb:=qF hsv hv
  rw [show s.size.toNat=n by omega] at hrb
  obtain ⟨k,hk,k12,hkc,hkt⟩:=uE hrb
  have hkn:r.arity.toNat=k:=by omega
  obtain ⟨H,hs1,g1,go,gn⟩:=cO (h:=h') (zs:=[.str [],.int .i64 0,.nils]) (cs:=bt r) (n:=3) rfl rfl (gz r)
  have xH:bT h' H:=⟨by omega,fun b hb=>go b (by omega)⟩
  have pSB:H.get SB=some (.cells (az s)):=by rw [xH.get _ (by omega),hfr _ hSBn hSBne];exact hSB
  have pS:H.get S=some (.cells [.int .i64 (n:Int),.map B]):=by rw [xH.get _ (by omega),hfr _ hSn hSne];exact hS
  have hDH:=hDa.ext xH
  have lz:ai none (.ptr SB 0) H=some (.int .i64 (n:Int)):=by rw [au pSB,← hn];rfl
  have la:ai none (.ptr h'.next 1) H=some (.int .i64 (k:Int)):=by rw [au g1,← hk];rfl
  have ln:ai none (.ptr h'.next 0) H=some (.str r.name):=by rw [au g1];rfl
  obtain ⟨h2,hu,hD2,hf2,hn2⟩:=hDH.add (by omega) (n ^ k) r.name
  have lt:ai none (.ptr h'.next 2) h2=some (an er 1 r.tuples):=by rw [au (show h2.get h'.next=some (.cells (bt r)) by rw [hf2 _ (by omega) (by omega)];exact g1)];rfl
  rw [F.ay.MH]
  simp only [e154,e155,e156,e3,e17,aV,Nat.reduceAdd,Nat.reduceEqDiff,reduceIte,aY hi,aP s.rels hi,dQ fA hv,hs1]
  simp only [aV,Nat.reduceAdd,Nat.reduceEqDiff,reduceIte,lz,la]
  refine ak (qB n1 n64 (by unfold cz;omega) ?_)
  rw [Mj k12 hkc]
  simp only [aV,Nat.reduceAdd,Nat.reduceEqDiff,reduceIte,cm,au pS,ln,CZ (show n ^ k≤1000000 by omega),hu,lt]
  refine aB 0 r.tuples.l.length (Nat.zero_le _) (fun j e h3=>∃ d,bitsOf n k r.tuples.l=kF n (r.tuples.l.drop j) d∧d.length=n ^ k∧ei (jw D r.name H.next d) h3 B lo∧(∀ c,c<H.next→c≠B→h3.get c=H.get c)∧h3.next=h2.next ∧
   e 3 = .ptr SB 0∧e 7 = .ptr P 0∧e 17 = .ptr S 0∧e 154=an bt 3 s.rels∧e 155 = .int .i64 (s.rels.l.length:Int)∧e 156 = .int .i64 (i:Int)∧e 25 = .ptr h'.next 0∧e 177=an er 1 r.tuples∧e 178 = .int .i64 (r.tuples.l.length:Int)∧e 179 = .int .i64 (j:Int))
   ⟨_,rfl,by simp,hD2,hf2,rfl,e3,e7,e17,e154,e155,e156,rfl,rfl,rfl,rfl⟩ ?_ ?_
  ·rintro j e h3 _ hj ⟨d,hd,hdl,hD3,hf3,hn3,e3,e7,e17,e154,e155,e156,e25,e177,e178,e179⟩ K2 hnn hx2 hr2 hp2
   have hvt:r.tuples.l[j]?=some r.tuples.l[j]:=List.getElem?_eq_getElem hj
   generalize r.tuples.l[j]=t at hvt
   obtain ⟨htl,htb⟩:=JK hkt hvt
   rw [BS hvt] at hd
   have hrk:gy n t.l<d.length:=by have:=kE htb;rw [htl] at this;omega
   have wS:h3.get S=some (.cells [.int .i64 (n:Int),.map B]):=by rw [hf3 _ (by omega) hSne];exact pS
   have wR:h3.get h'.next=some (.cells (bt r)):=by rw [hf3 _ (by omega) (by omega)];exact g1
   have lnm:ai none (.ptr h'.next 0) h3=some (.str r.name):=by rw [au wR];rfl
   have hlk:=hD3.look (nM D r.name H.next d)
   obtain ⟨_,_,_,hrow⟩:=hD3.blk r.name _ (nM D r.name H.next d)
   simp only at hlk hrow
   have hset:=hD3.set (nM D r.name H.next d) (d:=d.set (gy n t.l) true) (by simp)
   rw [Ib] at hset
   simp only at hset
   rw [F.ay.MI]
   simp only [e17,e25,e177,e178,e179,aV,Nat.reduceAdd,Nat.reduceEqDiff,reduceIte,aY hj,aP r.tuples hj,fJ hvt,cm,au wS,lnm,hlk]
   refine ak (Nl wS n1 htl k12 hkc htb ?_)
   simp only [aV,Nat.reduceAdd,Nat.reduceEqDiff,reduceIte,au wS,lnm,hlk,AV.beq_refl,Bool.and_self,Bool.and_true,if_true,jT hrk,z6 hrow hrk,aE hj hro.2.1]
   exact hnn _ _ ⟨_,hd,by simpa using hdl,hset,fun c hc hcB=>by rw [ag.aO,if_neg (by omega)];exact hf3 c hc hcB,by rw [ag.next_set];exact hn3,e3,e7,e17,e154,e155,e156,e25,e177,e178,rfl⟩
  ·rintro e h3 ⟨d,hd,hdl,hD3,hf3,hn3,e3,e7,e17,e154,e155,e156,e25,e177,e178,e179⟩ K2 hx2
   rw [List.drop_of_length_le (Nat.le_refl _)] at hd
   simp only [kF] at hd
   rw [F.ay.MI]
   simp only [e178,e179,aV,Nat.reduceAdd,Nat.reduceEqDiff,reduceIte,aR]
   rw [hx2,F.ay.HE]
   simp only [aV,Nat.reduceAdd,Nat.reduceEqDiff,reduceIte,e156,aE hi hbig]
   refine hn' _ _ ⟨jw D r.name H.next d,hD3,fun q hq=>?_,fun nm hnm=>?_,fun c hc hcB=>by rw [hf3 c (by omega) hcB,xH.get c (by omega)];exact hfr c hc hcB,by omega,e3,e7,e17,e154,e155,rfl⟩
   ·rw [List.take_add_one,hv] at hq
    rcases List.mem_append.1 hq with hq'|hq'
    ·by_cases e:q.name=r.name
     ·obtain ⟨a,ha⟩:=List.mem_iff_getElem?.1 hq'
      have ha':s.rels.l[a]?=some q:=by
       rw [List.getElem?_take] at ha
       split at ha
       ·exact ha
       ·cases ha
      have hai:a<i:=by
       rw [List.getElem?_take] at ha
       split at ha
       ·assumption
       ·cases ha
      have:=kH (jG hsv) (i:=a) (j:=i) (s:=q.name) (by rw [List.getElem?_map,ha'];rfl) (by rw [List.getElem?_map,hv,e];rfl)
      omega
     ·obtain ⟨b,b1,b2⟩:=hrel q hq'
      exact ⟨b,b1,by rw [yp e];exact b2⟩
    ·simp only [Option.toList_some,List.mem_singleton] at hq'
     subst hq'
     exact ⟨H.next,by omega,by rw [nM,hkn,hd]⟩
   ·have h1:nm≠r.name:=fun e=>hnm r (by rw [List.take_add_one,hv];simp) e.symm
    rw [yp h1]
    exact hoth nm fun q hq=>hnm q (by rw [List.take_add_one,hv];exact List.mem_append_left _ hq)
 ·rintro e h' ⟨D,hDa,hrel,hoth,hfr,hnx,e3,e7,e17,e154,e155,e156⟩ K' hx
  rw [List.take_of_length_le (Nat.le_refl _)] at hrel hoth
  rw [F.ay.MH]
  simp only [e155,e156,aV,Nat.reduceAdd,Nat.reduceEqDiff,reduceIte,aR]
  rw [hx,F.ay.HD]
  simp only [bu,Nat.reduceEqDiff,reduceIte,e7,e17]
  exact done h' D hDa hrel hoth hfr hnx
end
end Go.AM
namespace Go.AM
open Go Go.Proofs
noncomputable section
def J8(m:dN)(p:bI×Int):Option dN:=match m.find p.1 with
 |none=>some (m.ov p.1 p.2)
 |some k=>if k=p.2 then some (m.ov p.1 p.2) else none
def qJ:List (bI×Int)→dN→Option dN
 |[],m=>some m
 |p :: l,m=>match J8 m p with|none=>none|some m'=>qJ l m'
theorem EK(m:dN)(nm:bI)(n:Nat):zW m nm n=J8 m (nm,(n:Int)):=rfl
theorem wV:∀ (a b:List (bI×Int)) (m:dN),qJ (a++b) m=match qJ a m with|none=>none|some m'=>qJ b m'
 |[],b,m=>rfl
 |p :: a,b,m=>by
  rw [List.cons_append,qJ,qJ]
  cases J8 m p with
  |none=>rfl
  |some m'=>exact wV a b m'
theorem tq:∀ (cs:List eN) (m:dN),lP cs m=if cs.all fO=true then qJ (dY cs) m else none
 |[],m=>rfl
 |c :: cs,m=>by
  rw [lP,List.all_cons]
  cases hc:fO c with
  |false=>simp
  |true=>
   rw [cond_true,Bool.true_and]
   by_cases k0:c.kind=0
   ·have hca:dY (c :: cs)=(c.name,(c.args.l.length:Int)) :: dY cs:=by unfold dY;simp [k0]
    rw [if_pos k0,hca,qJ,EK]
    cases J8 m (c.name,(c.args.l.length:Int)) with
    |none=>simp
    |some m'=>exact tq cs m'
   ·have hca:dY (c :: cs)=dY cs:=by unfold dY;simp [k0]
    rw [if_neg k0,hca]
    exact tq cs m
theorem oM:∀ (rs:List aK) (m:dN),dU rs m=if rs.all iD=true then qJ (cC rs) m else none
 |[],m=>rfl
 |r :: rs,m=>by
  have hat:cC (r :: rs)=(r.name,(r.args.l.length:Int)) :: (dY r.body.l++cC rs):=by unfold cC;simp [tg]
  rw [dU,List.all_cons,hat,qJ,wO,EK]
  unfold iD
  cases h1:dZ r.name with
  |false=>simp
  |true=>
  cases h2:jX r.args.l with
  |false=>simp
  |true=>
  simp only [Bool.true_and,cond_true]
  by_cases h3:r.body.l.length≤20
  ·by_cases h4:(varsOf r).length≤12
   ·rw [decide_eq_true h3,decide_eq_true h4,Bool.true_and,Bool.and_true]
    cases J8 m (r.name,(r.args.l.length:Int)) with
    |none=>simp
    |some m1=>
     simp only
     rw [if_neg (by omega),if_neg (by omega),tq,wV]
     cases h5:r.body.l.all fO with
     |false=>simp
     |true=>
      rw [if_pos rfl,Bool.true_and]
      cases qJ (dY r.body.l) m1 with
      |none=>simp
      |some m2=>exact oM rs m2
   ·rw [decide_eq_false h4,Bool.and_false,Bool.and_false,Bool.false_and,if_neg (by simp)]
    cases J8 m (r.name,(r.args.l.length:Int)) with
    |none=>rfl
    |some m1=>simp only;rw [if_neg (by omega),if_pos (by omega)]
  ·rw [decide_eq_false h3,Bool.false_and,Bool.false_and,if_neg (by simp)]
   cases J8 m (r.name,(r.args.l.length:Int)) with
   |none=>rfl
   |some m1=>simp only;rw [if_pos (by omega)]
def C9(l:List (bI×Int)):Prop:=∀ p ∈ l,∀ q ∈ l,p.1=q.1→p.2=q.2
theorem Ar:∀ (l:List (bI×Int)) (m:dN),(∃ m',qJ l m=some m')↔((∀ p ∈ l,∀ k,m.find p.1=some k→k=p.2)∧C9 l)
 |[],m=>⟨fun _=>⟨fun p hp=>(by cases hp),fun p hp=>(by cases hp)⟩,fun _=>⟨m,rfl⟩⟩
 |p :: l,m=>by
  have fu:∀ q:bI×Int,(m.ov p.1 p.2).find q.1=if q.1=p.1 then some p.2 else m.find q.1:=fun q=>rz m p.1 q.1 p.2
  have key:(∃ m',qJ l (m.ov p.1 p.2)=some m')∧(∀ k,m.find p.1=some k→k=p.2)↔((∀ q ∈ p :: l,∀ k,m.find q.1=some k→k=q.2)∧C9 (p :: l)):=by
   rw [Ar l]
   constructor
   ·rintro ⟨⟨h1,h2⟩,h3⟩
    have hp:∀ q ∈ l,q.1=p.1→p.2=q.2:=fun q hq e=>h1 q hq p.2 (by rw [fu,if_pos e])
    refine ⟨fun q hq k hk=>?_,fun a ha b hb e=>?_⟩
    ·rcases List.mem_cons.1 hq with rfl|hq
     ·exact h3 k hk
     ·by_cases e:q.1=p.1
      ·rw [e] at hk;rw [h3 k hk,hp q hq e]
      ·exact h1 q hq k (by rw [fu,if_neg e];exact hk)
    ·rcases List.mem_cons.1 ha with ha'|ha'<;>rcases List.mem_cons.1 hb with hb'|hb'
     ·rw [ha',hb']
     ·rw [ha'] at e ⊢;exact hp b hb' e.symm
     ·rw [hb'] at e ⊢;exact (hp a ha' e).symm
     ·exact h2 a ha' b hb' e
   ·rintro ⟨h1,h2⟩
    refine ⟨⟨fun q hq k hk=>?_,fun a ha b hb e=>h2 a (List.mem_cons_of_mem _ ha) b (List.mem_cons_of_mem _ hb) e⟩,fun k hk=>h1 p List.mem_cons_self k hk⟩
    rw [fu] at hk
    by_cases e:q.1=p.1
    ·rw [if_pos e] at hk;cases hk
     exact h2 p List.mem_cons_self q (List.mem_cons_of_mem _ hq) e.symm
    ·rw [if_neg e] at hk
     exact h1 q (List.mem_cons_of_mem _ hq) k hk
  rw [← key,qJ]
  unfold J8
  cases hf:m.find p.1 with
  |none=>simp
  |some k=>
   by_cases hk:k=p.2
   ·subst hk;simp
   ·simp [hk]
theorem rF(rs:List aK):jW rs↔(rs.length≤60∧rs.all iD=true∧C9 (cC rs)∧∃ k,Lev.dc (bQ rs) (Lev.iter (bQ rs) k)):=by
 have h0:∀ p ∈ cC rs,∀ k,dN.find [] p.1=some k→k=p.2:=fun p _ k hk=>by simp [dN.find] at hk
 constructor
 ·rintro ⟨h1,⟨m,h2⟩,h3⟩
  rw [oM] at h2
  split at h2
  ·rename_i ha;exact ⟨h1,ha,((Ar _ _).1 ⟨m,h2⟩).2,h3⟩
  ·cases h2
 ·rintro ⟨h1,h2,h3,h4⟩
  obtain ⟨m,hm⟩:=(Ar (cC rs) []).2 ⟨h0,h3⟩
  exact ⟨h1,⟨m,by rw [oM,if_pos h2];exact hm⟩,h4⟩
theorem EL{x:Sl (bI×Int)}{i:Nat}{p:bI×Int}(hp:x.l[i]?=some p){h:ag}:ai none (.iptr (x.l.flatMap lf) (i*2)) h=some (.str p.1):=eZ mE hp (by omega:0<2)
theorem F7{x:Sl (bI×Int)}{i:Nat}{p:bI×Int}(hp:x.l[i]?=some p){h:ag}:ai none (.iptr (x.l.flatMap lf) (i*2+1)) h=some (.int .i64 p.2):=eZ mE hp (by omega:1<2)
set_option maxHeartbeats 1000000 in
theorem bB{rules:Sl aK}(hok:∀ r ∈ rules.l,r.ok)(hfew:∀ r ∈ rules.l,r.kX){h:ag}{K:Out→ag→Bool}(hK:∀ b:Bool,(b=true↔jW rules.l)→K (.ret (.bool b)) h=true):Sem Tryz.prog 31 [an aM 3 rules] h K:=by
 have gen:∀ R:Out→ag→Bool,(∀ (b:Bool) h',(b=true↔jW rules.l)→R (.ret (.bool b)) h'=true)→Sem Tryz.prog 31 [an aM 3 rules] ag.empty R:=by
  intro R fin
  refine F.xo ?_
  have no:∀ h',¬ jW rules.l→R (.ret (.bool false)) h'=true:=fun h' hn=>fin false h' ⟨fun h=>(by cases h),fun h=>absurd h hn⟩
  simp only [aV,Nat.reduceAdd,Nat.reduceEqDiff,reduceIte]
  by_cases h61:60<rules.l.length
  ·simp only [decide_eq_true (by omega:(60:Int)<(rules.l.length:Int)),aI]
   exact no _ (fun hg=>by have:=hg.kX;omega)
  have h60:rules.l.length≤60:=by omega
  have hbig:rules.l.length≤cz:=by unfold cz;omega
  simp only [decide_eq_false (by omega:¬ (60:Int)<(rules.l.length:Int)),aG]
  refine aB 0 rules.l.length (Nat.zero_le _) (fun i e h'=>e 0=an aM 3 rules∧e 3 = .int .i64 (i:Int)∧(rules.l.take i).all iD=true) ⟨rfl,rfl,rfl⟩ ?_ ?_
  ·rintro i e h' _ hi ⟨e0,e3,ht⟩ K' hn hx hr hp
   have hv:rules.l[i]?=some rules.l[i]:=List.getElem?_eq_getElem hi
   generalize rules.l[i]=r at hv
   rw [F.bB.aN]
   simp only [e0,e3,aV,Nat.reduceAdd,Nat.reduceEqDiff,reduceIte,aY hi,aP rules hi,dQ fe hv]
   refine ak (cA (hok r (List.mem_of_getElem? hv)) (hfew r (List.mem_of_getElem? hv)) ?_)
   simp only [aV,Nat.reduceAdd,Nat.reduceEqDiff,reduceIte]
   cases hq:iD r with
   |false=>
    simp only [Bool.not_false,aI]
    rw [hr,F.bB.bq]
    exact no _ (fun hg=>by
     have:=((rF _).1 hg).2.1
     rw [all_false hv hq] at this;cases this)
   |true=>
    simp only [Bool.not_true,aG,aE hi hbig,bindO_some]
    exact hn _ _ ⟨e0,rfl,gJ hv ht hq⟩
  ·rintro e h' ⟨e0,e3,ht⟩ K' hx
   rw [List.take_of_length_le (Nat.le_refl _)] at ht
   have h20:∀ r ∈ rules.l,r.body.l.length≤20:=fun r hr=>by
    have:=List.all_eq_true.1 ht r hr
    unfold iD at this
    simp only [Bool.and_eq_true,decide_eq_true_eq] at this
    exact this.2.2.1
   rw [F.bB.aN]
   simp only [e0,e3,aV,Nat.reduceAdd,Nat.reduceEqDiff,reduceIte,aR]
   rw [hx,F.bB.aD]
   simp only [e0,aV,Nat.reduceAdd,Nat.reduceEqDiff,reduceIte]
   refine ak (cy h60 h20 fun x hx1=>?_)
   simp only [aV,Nat.reduceAdd,Nat.reduceEqDiff,reduceIte]
   have hxl:x.l.length≤1260:=by rw [hx1];have:=qz rules.l h20;omega
   have hxb:x.l.length≤cz:=by unfold cz;omega
   refine aB 0 x.l.length (Nat.zero_le _) (fun i e h'=>e 0=an aM 3 rules∧e 4=an lf 2 x∧e 5 = .int .i64 (i:Int)∧∀ a b p q,a<b→b<i→x.l[a]?=some p→x.l[b]?=some q→p.1=q.1→p.2=q.2) ⟨e0,rfl,rfl,fun a b p q h1 h2=>by omega⟩ ?_ ?_
   ·rintro i e h' _ hi ⟨e0,e4,e5,hag⟩ K1 hn1 hx1' hr1 hp1
    have hvi:x.l[i]?=some x.l[i]:=List.getElem?_eq_getElem hi
    generalize x.l[i]=q at hvi
    rw [F.bB.cP]
    simp only [e4,e5,aV,Nat.reduceAdd,Nat.reduceEqDiff,reduceIte,aY hi]
    refine aB 0 i (Nat.zero_le _) (fun j e h'=>e 0=an aM 3 rules∧e 4=an lf 2 x∧e 5 = .int .i64 (i:Int)∧e 6 = .int .i64 (j:Int)∧∀ a p,a<j→x.l[a]?=some p→p.1=q.1→p.2=q.2) ⟨e0,e4,e5,rfl,fun a p h1=>by omega⟩ ?_ ?_
    ·rintro j e h' _ hj ⟨e0,e4,e5,e6,haj⟩ K2 hn2 hx2 hr2 hp2
     have hjx:j<x.l.length:=by omega
     have hvj:x.l[j]?=some x.l[j]:=List.getElem?_eq_getElem hjx
     generalize x.l[j]=p at hvj
     have hib:i≤cz:=by omega
     rw [F.bB.ju]
     simp only [e4,e5,e6,aV,Nat.reduceAdd,Nat.reduceEqDiff,reduceIte,aY hj,aP x hi,aP x hjx,EL hvi,EL hvj,mW]
     by_cases hq:p.1=q.1
     ·simp only [decide_eq_true hq,aI,e4,e5,e6,aV,Nat.reduceAdd,Nat.reduceEqDiff,reduceIte,aP x hi,aP x hjx,F7 hvi,F7 hvj,cQ]
      by_cases hq2:p.2=q.2
      ·simp only [decide_eq_true hq2,Bool.not_true,aG,aE hj hib,bindO_some]
       refine hn2 _ _ ⟨e0,e4,e5,rfl,fun a p' h1 h2=>?_⟩
       by_cases haj':a=j
       ·subst haj';rw [hvj] at h2;cases h2;exact fun _=>hq2
       ·exact haj a p' (by omega) h2
      ·simp only [decide_eq_false hq2,Bool.not_false,aI]
       rw [hr2,F.bB.uh,hr1,F.bB.fY]
       exact no _ (fun hg=>hq2 (((rF _).1 hg).2.2.1 p (by rw [← hx1];exact List.mem_of_getElem? hvj) q (by rw [← hx1];exact List.mem_of_getElem? hvi) hq))
     ·simp only [decide_eq_false hq,aG,aE hj hib,bindO_some]
      refine hn2 _ _ ⟨e0,e4,e5,rfl,fun a p' h1 h2=>?_⟩
      by_cases haj':a=j
      ·subst haj';rw [hvj] at h2;cases h2;exact fun e=>absurd e hq
      ·exact haj a p' (by omega) h2
    ·rintro e h' ⟨e0,e4,e5,e6,haj⟩ K2 hx2
     rw [F.bB.ju]
     simp only [e5,e6,aV,Nat.reduceAdd,Nat.reduceEqDiff,reduceIte,aR]
     rw [hx2,F.bB.fV]
     simp only [e5,aV,Nat.reduceAdd,Nat.reduceEqDiff,reduceIte,aE hi hxb]
     refine hn1 _ _ ⟨e0,e4,rfl,fun a b p' q' h1 h2 h3 h4=>?_⟩
     by_cases hb:b=i
     ·subst hb;rw [hvi] at h4;cases h4;exact haj a p' h1 h3
     ·exact hag a b p' q' h1 (by omega) h3 h4
   ·rintro e h' ⟨e0,e4,e5,hag⟩ K1 hx1'
    have hagree:C9 (cC rules.l):=fun p hp q hq e=>by
     rw [← hx1] at hp hq
     obtain ⟨a,ha⟩:=List.mem_iff_getElem?.1 hp
     obtain ⟨b,hb⟩:=List.mem_iff_getElem?.1 hq
     have hal:=(List.getElem?_eq_some_iff.1 ha).1
     have hbl:=(List.getElem?_eq_some_iff.1 hb).1
     rcases Nat.lt_trichotomy a b with h|h|h
     ·exact hag a b p q h hbl ha hb e
     ·subst h;rw [ha] at hb;cases hb;rfl
     ·exact (hag b a q p h hal hb ha e.symm).symm
    rw [F.bB.cP]
    simp only [e4,e5,aV,Nat.reduceAdd,Nat.reduceEqDiff,reduceIte,aR]
    rw [hx1',F.bB.b8]
    simp only [e0,aV,Nat.reduceAdd,Nat.reduceEqDiff,reduceIte]
    refine ak (bf h60 h20 (fun hk=>?_) (fun y k hk hy=>?_))
    ·simp only [aV,Nat.reduceAdd,Nat.reduceEqDiff,reduceIte]
     exact no _ (fun hg=>by obtain ⟨k,h⟩:=hg.lev;exact hk k h)
    ·simp only [aV,Nat.reduceAdd,Nat.reduceEqDiff,reduceIte]
     exact fin true _ ⟨fun _=>(rF _).2 ⟨h60,ht,hagree,k,hk⟩,fun _=>rfl⟩
 have main:=gen (fun o h'=>yes (∃ b:Bool,o = .ret (.bool b)∧(b=true↔jW rules.l))) (fun b h' hb=>cw.2 ⟨b,rfl,hb⟩)
 refine main.frozen (by simp [AV.pureL,bE ef]) fun o h' ho=>?_
 obtain ⟨b,rfl,hb⟩:=cw.1 ho
 exact ⟨_,_,rfl,.scalar _ rfl,hK b hb⟩
end
end Go.AM
namespace Go.AM
open Go Go.Proofs
noncomputable section
theorem ei.lp{D:DB}{h:ag}{B lo c:Nat}(b:ei D h B lo)(hc:c<lo)(hcB:c≠B)(x:jl):ei D (h.set c x) B lo:=by
 obtain ⟨es,ck,m,e1,e2,e3⟩:=b.ex
 refine ⟨⟨es,ck,m,by rw [ag.aO,if_neg (Ne.symm hcB)];exact e1,e2,e3⟩,fun nm p hp=>?_,b.inj,by rw [ag.next_set];exact b.lt⟩
 obtain ⟨k1,k2,k3,k4⟩:=b.blk nm p hp
 exact ⟨k1,by rw [ag.next_set];exact k2,k3,by rw [ag.aO,if_neg (by omega)];exact k4⟩
theorem B8:∀ (l:List (bI×Int)) (m m':dN),qJ l m=some m'→∀ x k,m'.find x=some k↔((x,k) ∈ l∨m.find x=some k)
 |[],m,m',h,x,k=>by cases h;simp
 |p :: l,m,m',h,x,k=>by
  have fu:=rz m p.1 x p.2
  have hs:J8 m p=some (m.ov p.1 p.2)∧∀ j,m.find p.1=some j→j=p.2:=by
   rw [qJ] at h
   unfold J8 at h ⊢
   cases hf:m.find p.1 with
   |none=>simp
   |some j=>
    rw [hf] at h
    by_cases e:j=p.2
    ·simp [e]
    ·simp [e] at h
  rw [qJ,hs.1] at h
  rw [B8 l _ m' h x k,fu]
  by_cases e:x=p.1
  ·rw [if_pos e,List.mem_cons]
   subst e
   constructor
   ·rintro (h1|h1)
    ·exact .inl (.inr h1)
    ·cases h1;exact .inl (.inl rfl)
   ·rintro ((h1|h1)|h1)
    ·exact .inr (by rw [← h1])
    ·exact .inl h1
    ·exact .inr (by rw [hs.2 k h1])
  ·rw [if_neg e,List.mem_cons]
   constructor
   ·rintro (h1|h1)
    ·exact .inl (.inr h1)
    ·exact .inr h1
   ·rintro ((h1|h1)|h1)
    ·exact absurd (congrArg Prod.fst h1) e
    ·exact .inl h1
    ·exact .inr h1
theorem jg{rs:List aK}{m:dN}(h:dU rs []=some m)(x:bI)(k:Int):m.find x=some k↔(x,k) ∈ cC rs:=by
 rw [oM] at h
 split at h
 ·rw [B8 _ _ _ h]
  simp [dN.find]
 ·cases h
theorem iB{rs:List aK}{r:aK}(hr:r ∈ rs):(r.name,(r.args.l.length:Int)) ∈ cC rs:=List.mem_flatMap.2 ⟨r,hr,List.mem_cons_self⟩
theorem nN{nm:bI}{xs:List bI}(h:kg nm xs=true):xs.length≤12:=by
 unfold kg at h
 simp only [Bool.and_eq_true,decide_eq_true_eq] at h
 omega
theorem tr{n:Nat}(n1:1≤n){i j:Nat}(h:i≤j):n ^ i≤n ^ j:=Nat.pow_le_pow_right n1 h
set_option maxHeartbeats 1000000 in
theorem Bg{n SB P S:Nat}{rules:Sl aK}{s:dJ}(hn:s.size=(n:Int))(n1:1≤n)(n64:n≤64)(hfew:∀ r ∈ rules.l,r.kX)(h60:rules.l.length≤60)(h12:∀ r ∈ rules.l,(varsOf r).length≤12){h:ag}{e0:Env}{K:Out→ag→Bool}
  (hSB:h.get SB=some (.cells (az s))) (hSBn:SB<h.next) (q3:e0 3 = .ptr SB 0) (q7:e0 7 = .ptr P 0) (q17:e0 17 = .ptr S 0) (q134:e0 134=an aM 3 rules) (q135:e0 135 = .int .i64 (rules.l.length:Int)) (q136:e0 136 = .int .i64 0)
  (err:(∃ r ∈ rules.l,65536<n ^ (varsOf r).length)→∀ h',bT h h'→K (.ret (.tuple [.nilp,.nilp,.int .i64 5])) h'=true)
  (done:(∀ r ∈ rules.l,n ^ (varsOf r).length≤65536)→∀ (e:Env) h',bT h h'→e 3 = .ptr SB 0→e 7 = .ptr P 0→e 17 = .ptr S 0→F.ay.NG K (.exit 6) ⟨e,198,[],h'⟩=true) :
  aT (aq Tryz.prog (ah Tryz.prog) F.ay.L3) ⟨e0,198,[],h⟩ (F.ay.NG K)=true:=by
 have hbig:rules.l.length≤cz:=by unfold cz;omega
 refine aB 0 rules.l.length (Nat.zero_le _) (fun i e h'=>bT h h'∧(∀ r ∈ rules.l.take i,n ^ (varsOf r).length≤65536)∧e 3 = .ptr SB 0∧e 7 = .ptr P 0∧e 17 = .ptr S 0∧e 134=an aM 3 rules∧e 135 = .int .i64 (rules.l.length:Int)∧e 136 = .int .i64 (i:Int))
  ⟨bT.refl _,fun r hr=>(by cases hr),q3,q7,q17,q134,q135,q136⟩ ?_ ?_
 ·rintro i e h' _ hi ⟨hx,hok,e3,e7,e17,e134,e135,e136⟩ K' hn' hx' hr hp
  have hv:rules.l[i]?=some rules.l[i]:=List.getElem?_eq_getElem hi
  generalize rules.l[i]=r at hv
  have hrm:=List.mem_of_getElem? hv
  have hr12:=h12 r hrm
  obtain ⟨H,hs1,g1,go,gn⟩:=cO (h:=h') (zs:=[.str [],.nils,.nils]) (cs:=aM r) (n:=3) rfl rfl (iz r)
  have xH:bT h H:=hx.trans ⟨by omega,fun b hb=>go b (by omega)⟩
  have pSB:H.get SB=some (.cells (az s)):=by rw [xH.get _ hSBn];exact hSB
  have lz:ai none (.ptr SB 0) H=some (.int .i64 (n:Int)):=by rw [au pSB,← hn];rfl
  rw [F.ay.MF]
  simp only [e134,e135,e136,aV,Nat.reduceAdd,Nat.reduceEqDiff,reduceIte,aY hi,aP rules hi,dQ fe hv,hs1]
  simp only [au g1,aM,oG,bindO_some]
  refine ak (cF (hfew r hrm) fun x hx1=>?_)
  simp only [aV,Nat.reduceAdd,Nat.reduceEqDiff,reduceIte]
  rw [hx1]
  have hvb:(varsOf r).length≤cz:=by unfold cz;omega
  refine aB 0 (varsOf r).length (Nat.zero_le _) (fun j e h2=>h2=H∧n ^ j≤65536∧e 3 = .ptr SB 0∧e 7 = .ptr P 0∧e 17 = .ptr S 0∧e 134=an aM 3 rules∧e 135 = .int .i64 (rules.l.length:Int)∧e 136 = .int .i64 (i:Int)∧e 23 = .int .i64 ((n ^ j:Nat):Int)∧e 142 = .int .i64 ((varsOf r).length:Int)∧e 143 = .int .i64 (j:Int))
   ⟨rfl,by simp,e3,e7,e17,e134,e135,e136,rfl,rfl,rfl⟩ ?_ ?_
  ·rintro j e h2 _ hj ⟨rfl,hpj,e3,e7,e17,e134,e135,e136,e23,e142,e143⟩ K2 hnn hx2 hr2 hp2
   have hps:n ^ (j+1)=n ^ j*n:=Nat.pow_succ n j
   have hmul:n ^ j*n≤65536*64:=Nat.mul_le_mul hpj n64
   have hm:((n ^ j:Nat):Int)*(n:Int)=((n ^ (j+1):Nat):Int):=by rw [hps,Int.natCast_mul]
   have hmm:aA .mul (.int .i64 ((n ^ j:Nat):Int)) (.int .i64 (n:Int))=some (.int .i64 ((n ^ (j+1):Nat):Int)):=by rw [ri (by rw [hm];omega) (by rw [hm];omega),hm]
   rw [F.ay.MG]
   simp only [e3,e23,e142,e143,aV,Nat.reduceAdd,Nat.reduceEqDiff,reduceIte,aY hj,lz,hmm]
   by_cases hbg:65536<n ^ (j+1)
   ·simp only [decide_eq_true (by omega:(65536:Int)<((n ^ (j+1):Nat):Int)),aI]
    rw [hr2,F.ay.Kz,hr,F.ay.Ky]
    simp only [bu,Nat.reduceEqDiff,reduceIte]
    exact err ⟨r,hrm,by have:=tr n1 (show j+1≤(varsOf r).length by omega);omega⟩ _ xH
   ·simp only [decide_eq_false (by omega:¬ (65536:Int)<((n ^ (j+1):Nat):Int)),aG,e143,aE hj hvb,bindO_some]
    exact hnn _ _ ⟨rfl,by omega,e3,e7,e17,e134,e135,e136,rfl,e142,rfl⟩
  ·rintro e h2 ⟨rfl,hpj,e3,e7,e17,e134,e135,e136,e23,e142,e143⟩ K2 hx2
   rw [F.ay.MG]
   simp only [e142,e143,aV,Nat.reduceAdd,Nat.reduceEqDiff,reduceIte,aR]
   rw [hx2,F.ay.Je]
   simp only [aV,Nat.reduceAdd,Nat.reduceEqDiff,reduceIte,e136,aE hi hbig]
   refine hn' _ _ ⟨xH,fun q hq=>?_,e3,e7,e17,e134,e135,rfl⟩
   rw [List.take_add_one,hv] at hq
   rcases List.mem_append.1 hq with hq|hq
   ·exact hok q hq
   ·simp only [Option.toList_some,List.mem_singleton] at hq
    subst hq;exact hpj
 ·rintro e h' ⟨hx,hok,e3,e7,e17,e134,e135,e136⟩ K' hx'
  rw [List.take_of_length_le (Nat.le_refl _)] at hok
  rw [F.ay.MF]
  simp only [e135,e136,aV,Nat.reduceAdd,Nat.reduceEqDiff,reduceIte,aR]
  rw [hx']
  exact done hok _ h' hx e3 e7 e17
set_option maxHeartbeats 1000000 in
theorem Bh{n B S SB P A M IT:Nat}{rules:Sl aK}{s:dJ}{ks:List bI}{lv:Lev.Lv}{m:dN}{esA:List Entry}{ckA:Nat}{hR:AV}(hn:s.size=(n:Int))(n1:1≤n)(n64:n≤64)(h12:∀ r ∈ rules.l,r.args.l.length≤12)(hgo:dU rules.l []=some m){h:ag}{e0:Env}{K:Out→ag→Bool}
  (hS:h.get S=some (.cells [.int .i64 (n:Int),.map B])) (hSB:h.get SB=some (.cells (az s))) (hP:h.get P=some (.cells [hR,.map A,.map M])) (hA:h.get A=some (.map esA ckA)) (hmA:F6 esA ckA m) (hl:eU (bA rules.l) h M ks lv)
  (hB:ei (fun _=>none) h B (IT+1)) (hIT:∀ es ck,h.get M=some (.map es ck)→h.get IT=some (.miter (some M) ck [] ck)) (hITn:h.next=IT+1) (o1:S<IT) (o2:SB<IT) (o3:P<IT) (o4:A<IT) (o5:M<IT) (o6:B<IT) (b1:S≠B) (b2:SB≠B) (b3:P≠B) (b4:A≠B) (b5:M≠B)
  (q0:e0 0=an aM 3 rules) (q3:e0 3 = .ptr SB 0) (q7:e0 7 = .ptr P 0) (q17:e0 17 = .ptr S 0) (q108:e0 108 = .ptr IT 0)
  (err:(∃ r ∈ rules.l,4096<n ^ r.args.l.length)→∀ h',(∀ c,c<IT→c≠B→h'.get c=h.get c)→K (.ret (.tuple [.nilp,.nilp,.int .i64 5])) h'=true)
  (done:∀ (e:Env) h' D,(∀ r ∈ rules.l,n ^ r.args.l.length≤4096)→ei D h' B (IT+1)→(∀ r ∈ rules.l,∃ b,D r.name=some (b,List.replicate (n ^ r.args.l.length) false))→(∀ nm p,D nm=some p→nm ∈ bA rules.l)→(∀ c,c<IT→c≠B→h'.get c=h.get c)→IT<h'.next →
   e 0=an aM 3 rules→e 3 = .ptr SB 0→e 7 = .ptr P 0→e 17 = .ptr S 0→F.ay.sR K (.exit 4) ⟨e,198,[],h'⟩=true) :
  aT (aq Tryz.prog (ah Tryz.prog) F.ay.L2) ⟨e0,198,[],h⟩ (F.ay.sR K)=true:=by
 obtain ⟨es,ck,ml,z1,z2,z3,z4,z5⟩:=hl.ex
 have w0:=hIT es ck z1
 have hfind:∀ r ∈ rules.l,m.find r.name=some (r.args.l.length:Int):=fun r hr=>(jg hgo _ _).2 (iB hr)
 refine vL es (fun seen e hh=>∃ D,ei D hh B (IT+1)∧(∀ en ∈ es,en.2.2 ∈ seen→∀ r ∈ rules.l,en.1 = .str r.name→n ^ r.args.l.length≤4096∧∃ b,D r.name=some (b,List.replicate (n ^ r.args.l.length) false))∧(∀ nm p,D nm=some p→nm ∈ bA rules.l) ∧
   hh.get IT=some (.miter (some M) ck seen ck)∧(∀ c,c<IT→c≠B→hh.get c=h.get c)∧IT<hh.next∧e 0=an aM 3 rules∧e 3 = .ptr SB 0∧e 7 = .ptr P 0∧e 17 = .ptr S 0∧e 108 = .ptr IT 0)
  ⟨_,hB,fun en _ hen=>(by cases hen),fun nm p hp=>(by cases hp),w0,fun _ _ _=>rfl,by omega,q0,q3,q7,q17,q108⟩ ?_
 rintro seen e hh ⟨D,hD,hseen,honly,w3,wf,wn,e0',e3,e7,e17,e108⟩ K' hnx' hex hret hpan
 have hM:hh.get M=some (.map es ck):=by rw [wf M o5 b5];exact z1
 rw [F.ay.ju]
 simp only [e108]
 refine Ae w3 hM z3 (by omega) (fun hall=>?_) (fun en hen hns hent=>?_)
 ·simp only [CD,aV,Nat.reduceAdd,Nat.reduceEqDiff,reduceIte]
  rw [hex]
  have hev:∀ r ∈ rules.l,∃ en ∈ es,en.1 = .str r.name:=fun r hr=>by
   have h1:ml.find r.name=some (lv r.name:Int):=by rw [z5,if_pos (show r.name ∈ bA rules.l from List.mem_map_of_mem hr)]
   obtain ⟨en,hen,h2,_⟩:=z2.mem' _ (nF h1)
   exact ⟨en,hen,h2⟩
  refine done _ hh D (fun r hr=>?_) hD (fun r hr=>?_) honly wf wn e0' e3 e7 e17
  ·obtain ⟨en,hen,h2⟩:=hev r hr
   exact (hseen en hen (hall en hen) r hr h2).1
  ·obtain ⟨en,hen,h2⟩:=hev r hr
   exact (hseen en hen (hall en hen) r hr h2).2
 obtain ⟨p,hpm,hn1,hn2⟩:=z2.mem en hen
 have hph:p.1 ∈ bA rules.l:=(hl.mem p.1).1 (by rw [← z4];exact List.mem_map_of_mem hpm)
 obtain ⟨r,hrm,hrn⟩:=List.mem_map.1 hph
 have vf:∀ c,c<IT→c≠B→(hh.set IT (.miter (some M) ck (seen++[en.2.2]) ck)).get c=h.get c:=fun c hc hcB=>by rw [ag.aO,if_neg (by omega)];exact wf c hc hcB
 have v3:(hh.set IT (.miter (some M) ck (seen++[en.2.2]) ck)).get IT=some (.miter (some M) ck (seen++[en.2.2]) ck):=by rw [ag.aO,if_pos rfl]
 have vn:(hh.set IT (.miter (some M) ck (seen++[en.2.2]) ck)).next=hh.next:=ag.next_set _ _ _
 have vD:=hD.lp (c:=IT) (by omega) (by omega) (.miter (some M) ck (seen++[en.2.2]) ck)
 simp only [CD,lT,rq,bindO_some,condB_bool,aI,hent,e3,e7,e17,e108]
 clear hent
 generalize (hh.set IT (.miter (some M) ck (seen++[en.2.2]) ck))=H at vf v3 vn vD ⊢
 have pSB:H.get SB=some (.cells (az s)):=by rw [vf _ o2 b2];exact hSB
 have pS:H.get S=some (.cells [.int .i64 (n:Int),.map B]):=by rw [vf _ o1 b1];exact hS
 have pP:H.get P=some (.cells [hR,.map A,.map M]):=by rw [vf _ o3 b3];exact hP
 have pA:H.get A=some (.map esA ckA):=by rw [vf _ o4 b4];exact hA
 have lz:ai none (.ptr SB 0) H=some (.int .i64 (n:Int)):=by rw [au pSB,← hn];rfl
 have hlk:dB .string (.int .i64 0) false (.map A) (.str r.name) H=some (.int .i64 (r.args.l.length:Int)):=by rw [qp pA hmA.1,hfind r hrm];rfl
 have hk12:=h12 r hrm
 simp only [aV,Nat.reduceAdd,Nat.reduceEqDiff,reduceIte,hn1,← hrn,lz,cm,au pP,hlk]
 refine ak (qB n1 n64 (by unfold cz;omega) ?_)
 unfold HN
 rw [if_neg (by omega)]
 by_cases hpow:4096<n ^ r.args.l.length
 ·rw [if_pos hpow]
  simp only [aV,Nat.reduceAdd,Nat.reduceEqDiff,reduceIte,cQ]
  simp only [show (!decide ((5:Int)=0))=true from rfl,aI]
  rw [hret,F.ay.uh]
  simp only [bu,Nat.reduceEqDiff,reduceIte]
  exact err ⟨r,hrm,hpow⟩ _ vf
 ·rw [if_neg hpow]
  obtain ⟨h2,hu,hD2,hf2,hn2'⟩:=vD.add (by omega) (n ^ r.args.l.length) r.name
  simp only [aV,Nat.reduceAdd,Nat.reduceEqDiff,reduceIte,cQ]
  simp only [show (!decide ((0:Int)=0))=false from rfl,aG,cm,aV,Nat.reduceAdd,Nat.reduceEqDiff,reduceIte,au pS,CZ (show n ^ r.args.l.length≤1000000 by omega),hu]
  refine hnx' en hen hns _ _ ⟨jw D r.name H.next _,hD2,fun en' hen' hse q hq hqn=>?_,fun nm p' hp'=>?_,by rw [hf2 _ (by omega) (by omega)];exact v3,fun c hc hcB=>by rw [hf2 c (by omega) hcB];exact vf c hc hcB,by omega,e0',e3,e7,e17,e108⟩
  ·by_cases e:q.name=r.name
   ·have h1:=hfind q hq
    rw [e,hfind r hrm] at h1
    have h2:r.args.l.length=q.args.l.length:=by have:=Option.some.inj h1;omega
    exact ⟨by rw [← h2];omega,H.next,by rw [e,nM,h2]⟩
   ·rcases List.mem_append.1 hse with hse|hse
    ·obtain ⟨a1,b,a2⟩:=hseen en' hen' hse q hq hqn
     exact ⟨a1,b,by rw [yp e];exact a2⟩
    ·rw [List.mem_singleton] at hse
     have hee:en'=en:=by
      have hb:=z3.nodup
      obtain ⟨i,hi⟩:=List.mem_iff_getElem?.1 hen
      obtain ⟨j,hj⟩:=List.mem_iff_getElem?.1 hen'
      have hi':(es.map (·.2.2))[i]?=some en.2.2:=by rw [List.getElem?_map,hi];rfl
      have hj':(es.map (·.2.2))[j]?=some en.2.2:=by rw [List.getElem?_map,hj,← hse];rfl
      have hij:=kH hb hi' hj'
      subst hij
      rw [hi] at hj;exact (Option.some.inj hj).symm
     rw [hee,hn1] at hqn
     injection hqn with h3
     exact absurd (h3.symm.trans hrn.symm) e
  ·by_cases e:nm=r.name
   ·rw [e];exact List.mem_map_of_mem hrm
   ·rw [yp e] at hp'
    exact honly nm p' hp'
end
end Go.AM