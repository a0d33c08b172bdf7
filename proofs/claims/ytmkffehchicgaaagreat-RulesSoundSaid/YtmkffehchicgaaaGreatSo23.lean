/- Parts of a proof, merged out of smaller texts: the abstract machine and what functions do. Conditions: none. -/
import Derived.Test.YtmkffehchicgaaaGreatSo15
import Derived.Test.YtmkffehchicgaaaGreatSo22
set_option linter.unusedSimpArgs false
set_option linter.unusedVariables false
namespace Go.AM
open Go Go.Proofs
noncomputable section
structure Ik (S n:Nat) (D0:DB) (ps:List tM) (ng:FuncId) (na nb:List AV):Prop where
 n1:1≤n
 n64:n≤64
 plans:∀ p ∈ ps,p.ok
 rows:∀ nm p,D0 nm=some p→p.1≠S
 ask:∀ p ∈ ps,∀ D,dK D D0→yW n D p.r
 head:∀ p ∈ ps,n ^ p.r.args.l.length≤4096∧p.r.args.l.length≤12∧∃ q,D0 p.r.name=some q∧q.2.length=n ^ p.r.args.l.length
 note:∀ (i:Int) (r:aJ) (k:Int) (hd:Sl Int) (cs:Sl (Sl Int)) (ls:Sl Int) (y:AV) (h:af) (K:Out→af→Bool),(∀ h',bK h h'→K (.ret (.tuple [])) h'=true)→Sem Tryz.prog ng (na++([.agg (bx i r k (aq encI 1 hd) (aq ey 1 cs) (aq encI 1 ls)),y]++nb)) h K
set_option maxHeartbeats 2000000 in
theorem Dq{S B n lo k0:Nat}{D0:DB}{ps:List tM}{a1:AV}{ng:FuncId}{na nb:List AV}(o:Ik S n D0 ps ng na nb){h:af}{K:Out→af→Bool}(hS:h.get S=some (.cells [.int .i64 (n:Int),.map B]))(hSn:S<h.next)(hD:dm D0 h B lo)
  (hps:Own pN 8 k0 h a1 ps) (hpb:∀ b,dQ a1=some b→∀ nm p,D0 nm=some p→b≠p.1) (hpl:ps.length≤60)
  (hK:∀ h' D',Reach n (ps.map (·.r)) D0 D'→jA n (ps.map (·.r)) (D',false)=(D',false)→dK D' D0→dm D' h' B lo→(∀ b,b<h.next→(∀ nm p,D0 nm=some p→b≠p.1)→h'.get b=h.get b)→h.next≤h'.next→K (.ret (.tuple [])) h'=true) :
  Sem Tryz.prog 110 [.ptr S 0,a1,.func ng na nb] h K:=by
 have hbig:ps.length≤cy:=by unfold cy;omega
 have hrn:∀ nm p,D0 nm=some p→p.1<h.next:=fun nm p hp=>(hD.blk nm p hp).2.1
 have hBn:=hD.lt
 have hBr:∀ nm p,D0 nm=some p→B≠p.1:=fun nm p hp=>Ne.symm (hD.blk nm p hp).2.2.1
 refine F.ou ?_
 rw [F.oW]
 simp only [ny (x:=.ptr S 0) rfl,ny (x:=.func ng na nb) rfl,bindO_some,af.next_alloc]
 have g3:((h.alloc (.cells [.ptr S 0])).alloc (.cells [.func ng na nb])).get h.next=some (.cells [.ptr S 0]):=by
  rw [af.aX,af.next_alloc,if_neg (by omega)];exact aI _ _
 have g5:((h.alloc (.cells [.ptr S 0])).alloc (.cells [.func ng na nb])).get (h.next+1)=some (.cells [.func ng na nb]):=aI _ _
 have gx:bK h ((h.alloc (.cells [.ptr S 0])).alloc (.cells [.func ng na nb])):=(bK.alloc _ _).trans (bK.alloc _ _)
 have gn:((h.alloc (.cells [.ptr S 0])).alloc (.cells [.func ng na nb])).next=h.next+1+1:=rfl
 generalize ((h.alloc (.cells [.ptr S 0])).alloc (.cells [.func ng na nb]))=H2 at g3 g5 gx gn ⊢
 obtain ⟨H3,s6,a6,o6,n6⟩:=jT (h:=H2) (z:=.bool false) (v:=.bool true) rfl rfl
 rw [gn] at s6 a6
 simp only [s6,bindO_some]
 have x3:bK h H3:=gx.trans ⟨by omega,fun b hb=>o6 b (by omega)⟩
 refine vE (fun m e h'=>∃ (D:DB) (more:Bool) (P6:Nat),e 1=a1∧e 3 = .ptr h.next 0∧e 5 = .ptr (h.next+1) 0∧e 6 = .ptr P6 0∧h'.get P6=some (.cells [.bool more])∧h.next+1<P6∧P6<h'.next∧h'.get h.next=some (.cells [.ptr S 0])∧h'.get (h.next+1)=some (.cells [.func ng na nb]) ∧
  Reach n (ps.map (·.r)) D0 D∧dK D D0∧dm D h' B lo∧(∀ b,b<h.next→(∀ nm p,D0 nm=some p→b≠p.1)→h'.get b=h.get b)∧h.next≤h'.next ∧
  ((more=true∧m=yY (ps.map (·.r.name)) D+1)∨(more=false∧m=0∧jA n (ps.map (·.r)) (D,false)=(D,false)))) _
  ⟨D0,true,h.next+1+1,rfl,rfl,rfl,rfl,a6,by omega,by omega,by rw [o6 _ (by omega)];exact g3,by rw [o6 _ (by omega)];exact g5,.refl,fun _=>rfl,hD.ext x3,fun b hb _=>x3.get b hb,x3.next,.inl ⟨rfl,rfl⟩⟩ ?_
 rintro m e h' ⟨D,more,P6,e1,e3,e5,e6,q6,q6l,q6n,q3,q5,hre,hdim,hbit,hfr,hnx,hch⟩ K0 hN0 hx0 hr0
 rw [F.bN.aP]
 simp only [e6,aQ,Nat.reduceAdd,Nat.reduceEqDiff,reduceIte,ak q6]
 rcases hch with ⟨hm1,hm⟩|⟨hm1,hm,hpass⟩
 ·subst hm1
  have st:bH 1 (.ptr P6 0) (.bool false) h'=some (h'.set P6 (.cells [.bool false])):=by rw [dr (n:=1) q6 rfl rfl (by simp)];rfl
  have hlena:∀ h,bR .slice a1 h=some (.int .i64 (ps.length:Int)):=fun h=>hps.len
  simp only [aD,st,aQ,Nat.reduceAdd,Nat.reduceEqDiff,reduceIte,e1,hlena]
  have f0:∀ b,b≠P6→(h'.set P6 (.cells [.bool false])).get b=h'.get b:=fun b hb=>by rw [af.aS,if_neg hb]
  have f6:(h'.set P6 (.cells [.bool false])).get P6=some (.cells [.bool false]):=by rw [af.aS,if_pos rfl]
  have fn:(h'.set P6 (.cells [.bool false])).next=h'.next:=af.next_set _ _ _
  have fD:dm D (h'.set P6 (.cells [.bool false])) B lo:=by
   obtain ⟨es,ck,mm,z1,z2,z3⟩:=hbit.ex
   refine ⟨⟨es,ck,mm,by rw [f0 _ (by omega)];exact z1,z2,z3⟩,fun nm p hp=>?_,hbit.inj,by rw [fn];exact hbit.lt⟩
   obtain ⟨c1,c2,c3,c4⟩:=hbit.blk nm p hp
   obtain ⟨p0,d1,d2,_⟩:=hdim.back hp
   have:=hrn nm p0 d1
   exact ⟨c1,by rw [fn];exact c2,c3,by rw [f0 _ (by omega)];exact c4⟩
  refine aE 0 ps.length (Nat.zero_le _) (fun i e h2=>∃ s:DB×Bool,s=jA n ((ps.map (·.r)).take i) (D,false)∧Dm (ps.map (·.r.name)) D0 D s∧dm s.1 h2 B lo∧h2.get P6=some (.cells [.bool s.2])∧h2.get h.next=some (.cells [.ptr S 0])∧h2.get (h.next+1)=some (.cells [.func ng na nb]) ∧
   (∀ b,b<h.next→(∀ nm p,D0 nm=some p→b≠p.1)→h2.get b=h.get b)∧h'.next≤h2.next∧e 1=a1∧e 3 = .ptr h.next 0∧e 5 = .ptr (h.next+1) 0∧e 6 = .ptr P6 0∧e 10=a1∧e 11 = .int .i64 (ps.length:Int)∧e 12 = .int .i64 (i:Int))
   ⟨(D,false),rfl,⟨hdim,Nat.le_refl _,fun h=>(by cases h),fun _=>rfl⟩,fD,f6,by rw [f0 _ (by omega)];exact q3,by rw [f0 _ (by omega)];exact q5,fun b hb hb2=>by rw [f0 _ (by omega)];exact hfr b hb hb2,by omega,e1,e3,e5,e6,rfl,rfl,rfl⟩ ?_ ?_
  ·rintro i e h2 _ hi ⟨s,hs,hq,w1,w6,w3,w5,wf,wn,e1,e3,e5,e6,e10,e11,e12⟩ K1 hn1 hx1 hr1 hp1
   have hv:ps[i]?=some ps[i]:=List.getElem?_eq_getElem hi
   generalize ps[i]=p at hv
   have hpm:=List.mem_of_getElem? hv
   have pok:=o.plans p hpm
   have hps2:Own pN 8 k0 h2 a1 ps:=by
    cases hps with
    |nil=>exact .nil
    |row b l z1 z2 z3=>exact .row b _ z1 (by omega) (by rw [wf b z2 (hpb b rfl)];exact z3)
   obtain ⟨b,_,_,i1,i2,_⟩:=hps2.get AS hv
   obtain ⟨H,hst,hL,ho,hn⟩:=cJ (h:=h2) (zs:=[.int .i64 0,.str [],.nils,.nils,.int .i64 0,.nils,.nils,.nils]) (cs:=pN p) (n:=8) rfl rfl (AT p)
   have xH:bK h2 H:=⟨by omega,fun b hb=>ho b (by omega)⟩
   have hL':=hL
   simp only [pN,bx] at hL'
   have hSH:H.get S=some (.cells [.int .i64 (n:Int),.map B]):=by rw [xH.get S (by omega),wf S hSn (fun nm p hp=>Ne.symm (o.rows nm p hp))];exact hS
   rw [F.bN.dc]
   simp only [e10,e11,e12,aQ,Nat.reduceAdd,Nat.reduceEqDiff,reduceIte,bf hi,i1,i2,hst,e3]
   simp only [ak (show H.get h.next=some (.cells [.ptr S 0]) by rw [xH.get _ (by omega)];exact w3),ak hL',FC,aQ,Nat.reduceAdd,Nat.reduceEqDiff,reduceIte,e5,e6]
   have so:FD S B n lo H.next h.next (h.next+1) P6 h2.next D0 p.r (varsOf p.r).length p.hd ng na nb:=
    ⟨o.n1,o.n64,⟨by omega,by omega,by omega,by omega,by omega,by omega⟩,fun nm q hq=>by have:=hrn nm q hq;exact ⟨by omega,o.rows nm q hq,by omega,by omega,by omega,by omega⟩,⟨by omega,by omega,by omega,by omega,by omega⟩,o.ask p hpm,o.head p hpm,rfl,pok.hd,o.note⟩
   have sa:lJ S B n lo H.next h.next (h.next+1) P6 h2.next D0 p.r p.i (varsOf p.r).length p.hd p.cs p.ls ng na nb H s H:=
    ⟨hSH,w1.ext xH,hq.GF,by rw [xH.get _ (by omega)];exact w3,by rw [xH.get _ (by omega)];exact w5,by rw [xH.get _ (by omega)];exact w6,hL,Nat.le_refl _,fun _ _ _ _=>rfl⟩
   refine an (EH (EI so) pok.lR rfl pok.k12 pok.cs pok.ls sa (Nat.le_refl _) fun h5 b5 f5 n5=>?_)
   simp only [aQ,Nat.reduceAdd,Nat.reduceEqDiff,reduceIte,e12,aK hi hbig]
   have hvr:(ps.map (·.r))[i]?=some p.r:=by rw [List.getElem?_map,hv];rfl
   refine hn1 _ _ ⟨iI n p.r s,by rw [EJ hvr,← hs],Dp o.n1 (List.mem_map_of_mem (f:=fun q:tM=>q.r.name) hpm) (o.head p hpm).2.2 hq,b5.hD,b5.h6,b5.h3,b5.h5,fun b b1 b2=>?_,by omega,e1,e3,e5,e6,e10,e11,rfl⟩
   rw [b5.old b (by omega) (by omega) b2,xH.get b (by omega),wf b b1 b2]
  ·rintro e h2 ⟨s,hs,hq,w1,w6,w3,w5,wf,wn,e1,e3,e5,e6,e10,e11,e12⟩ K1 hx1
   rw [List.take_of_length_le (by simp)] at hs
   obtain ⟨H,hst,hL,ho,hn⟩:=jT (h:=h2) (z:=.bool false) (v:=.bool s.2) rfl rfl
   have xH:bK h2 H:=⟨by omega,fun b hb=>ho b (by omega)⟩
   rw [F.bN.dc]
   simp only [e11,e12,aQ,Nat.reduceAdd,Nat.reduceEqDiff,reduceIte,aR]
   rw [hx1,F.bN.cx]
   simp only [e6,aQ,Nat.reduceAdd,Nat.reduceEqDiff,reduceIte,ak w6,hst]
   have hre':Reach n (ps.map (·.r)) D0 s.1:=by rw [hs];exact .step D hre
   have com:∀ (m':Nat) (e':Env),e' 1=a1→e' 3 = .ptr h.next 0→e' 5 = .ptr (h.next+1) 0→e' 6 = .ptr h2.next 0→m'<m→((s.2=true∧m'=yY (ps.map (·.r.name)) s.1+1)∨(s.2=false∧m'=0∧jA n (ps.map (·.r)) (s.1,false)=(s.1,false)))→K0 .normal ⟨e',22,[],H⟩=true:=fun m' e' e1 e3 e5 e6 hm' hc=>
    hN0 m' _ _ hm' ⟨s.1,s.2,h2.next,e1,e3,e5,e6,hL,by omega,by omega,by rw [xH.get _ (by omega)];exact w3,by rw [xH.get _ (by omega)];exact w5,hre',hq.GF,w1.ext xH,fun b b1 b2=>by rw [xH.get b (by omega)];exact wf b b1 b2,by omega,hc⟩
   cases hs2:s.2 with
   |true=>
    have:=hq.lt hs2
    exact com (yY (ps.map (·.r.name)) s.1+1) _ e1 e3 e5 rfl (by omega) (.inl ⟨hs2,rfl⟩)
   |false=>
    have h1:=hq.same hs2
    exact com 0 _ e1 e3 e5 rfl (by omega) (.inr ⟨hs2,rfl,by rw [h1,← hs,← h1,← hs2]⟩)
 ·subst hm1
  simp only [aC]
  rw [hx0,F.bN.aG]
  exact hK h' D hre hpass hdim hbit hfr hnx
end
end Go.AM
namespace Go.AM
open Go Go.Proofs
noncomputable section
def Rel.ok(r:Rel):Prop:=r.name.length≤cy∧r.tuples.l.length≤cy∧∀ t ∈ r.tuples.l,t.l.length≤cy
def dP.ok(s:dP):Prop:=s.rels.l.length≤cy∧∀ r ∈ s.rels.l,r.ok
theorem Dr{es:List Entry}(hn:(es.map (·.2.2)).Nodup){e:Entry}(he:e ∈ es):jf e.2.2 es=some e:=by
 induction es with
 |nil=>cases he
 |cons a es ih=>
  rw [List.map_cons,List.nodup_cons] at hn
  rw [jf]
  by_cases h:a.2.2=e.2.2
  ·rw [if_pos h]
   rw [List.mem_cons] at he
   rcases he with rfl|he
   ·rfl
   ·exact absurd (by rw [h];exact List.mem_map_of_mem he) hn.1
  ·rw [if_neg h]
   rw [List.mem_cons] at he
   rcases he with rfl|he
   ·exact absurd rfl h
   ·exact ih hn.2 he
theorem y7{defs:List kz}{K:R→Bool}:∀ {ps:List (AV×af)},(∀ p ∈ ps,K (.ok p.1 defs p.2)=true)→jq defs K ps=true
 |[],_=>rfl
 |p :: ps,h=>by
  rw [jq,h p List.mem_cons_self,Bool.true_and]
  exact y7 fun q hq=>h q (List.mem_cons_of_mem _ hq)
theorem y8{r m:Nat}{es:List Entry}{ck:Nat}{seen:List Nat}{h:af}{defs:List kz}{K:R→Bool}(hr:h.get r=some (.miter (some m) ck seen ck))(hm:h.get m=some (.map es ck))(hB:ig es ck)(hrm:r≠m)
  (hdone:(∀ e ∈ es,e.2.2 ∈ seen)→K (.ok (.tuple [.bool false]) defs h)=true)
  (hstep:∀ e ∈ es,e.2.2 ∉ seen→oE (.ptr r 0) (h.set r (.miter (some m) ck (seen++[e.2.2]) ck))=some (.tuple [e.1,e.2.1])→K (.ok (.tuple [.bool true,e.1,e.2.1]) defs (h.set r (.miter (some m) ck (seen++[e.2.2]) ck)))=true) :
  ag (sr false (.ptr r 0) h) (jq defs K)=true:=by
 have hc:∀ o ∈ oD es ck seen,(o=none∧∀ e ∈ es,e.2.2 ∈ seen)∨∃ e,o=some e∧e ∈ es∧e.2.2 ∉ seen:=by
  intro o ho
  unfold oD at ho
  simp only [List.mem_append,List.mem_map] at ho
  rcases ho with ho|⟨e,he,rfl⟩
  ·split at ho
   ·rename_i hem
    simp only [List.mem_singleton] at ho
    refine .inl ⟨ho,fun e he=>?_⟩
    rw [List.isEmpty_iff,List.filter_eq_nil_iff] at hem
    have hlt:=hB.lt e he
    by_cases hs:e.2.2 ∈ seen
    ·exact hs
    ·exact absurd (decide_eq_true hlt) (hem e (by rw [List.mem_filter];exact ⟨he,by simpa using hs⟩))
   ·cases ho
  ·refine .inr ⟨e,rfl,?_⟩
   have:e ∈ es.filter fun e=>!seen.contains e.2.2:=by
    rcases he with he|he
    ·exact (List.mem_filter.1 he).1
    ·exact (List.mem_filter.1 he).1
   rw [List.mem_filter] at this
   exact ⟨this.1,by simpa using this.2⟩
 have hne:oD es ck seen≠[]:=by
  unfold oD
  intro he
  simp only [List.append_eq_nil_iff,List.map_eq_nil_iff] at he
  obtain ⟨h1,h2,_⟩:=he
  rw [h2] at h1
  simp at h1
 have hbad:(!seen.isEmpty&&!es.isEmpty&&es.all (fun e=>decide (e.2.2≥ck)))=false:=by
  cases es with
  |nil=>simp
  |cons e es=>
   have:=hB.lt e List.mem_cons_self
   rw [List.all_cons,decide_eq_false (by omega),Bool.false_and,Bool.and_false]
 unfold sr
 simp only [hr,hm,hbad,Bool.false_eq_true,if_false]
 cases hcs:oD es ck seen with
 |nil=>exact absurd hcs hne
 |cons c cs=>
  rw [hcs] at hc
  simp only [bindO_some]
  refine y7 fun p hp=>?_
  rw [List.mem_map] at hp
  obtain ⟨o,ho,rfl⟩:=hp
  rcases hc o ho with ⟨rfl,hall⟩|⟨e,rfl,he,hs⟩
  ·exact hdone hall
  ·refine hstep e he hs ?_
   unfold oE
   simp only [af.aS,if_true,if_neg (Ne.symm hrm),hm,List.getLast?_concat,Dr hB.nodup he]
theorem iA.mem':∀ {es:List Entry} {m:cS},iA es m→∀ p ∈ m,∃ e ∈ es,e.1 = .str p.1∧e.2.1 = .int .i64 p.2
 |_,[],_,p,hp=>by cases hp
 |[],q :: m,h,_,_=>h.elim
 |e0 :: es,q :: m,⟨h1,h2,h3⟩,p,hp=>by
  rcases List.mem_cons.1 hp with rfl|hp
  ·exact ⟨e0,List.mem_cons_self,h1,h2⟩
  ·obtain ⟨e,he,r⟩:=iA.mem' h3 p hp
   exact ⟨e,List.mem_cons_of_mem _ he,r⟩
def y9(es:List Entry)(seen:List Nat):Nat:=(es.filter fun e=>!seen.contains e.2.2).length
theorem Il{es:List Entry}{seen:List Nat}{e:Entry}(he:e ∈ es)(hs:e.2.2 ∉ seen):y9 es (seen++[e.2.2])<y9 es seen:=by
 have h1:(es.filter fun a=>!(seen++[e.2.2]).contains a.2.2)=(es.filter fun a=>!seen.contains a.2.2).filter fun a=>!(a.2.2==e.2.2):=by
  rw [List.filter_filter]
  refine List.filter_congr fun a _=>?_
  rw [Bool.eq_iff_iff]
  simp
  exact And.comm
 unfold y9
 rw [h1]
 refine List.length_filter_lt_length_iff_exists.2 ⟨e,List.mem_filter.2 ⟨he,by simpa using hs⟩,by simp⟩
theorem uL{f:St→(AX→St→Bool)→Bool}{K:AX→St→Bool}{n:Nat}{defs:List kz}{e0:Env}{h0:af}(es:List Entry)(J:List Nat→Env→af→Prop)(hJ:J [] e0 h0)
  (step:∀ seen e h,J seen e h→∀ K':AX→St→Bool,(∀ en ∈ es,en.2.2 ∉ seen→∀ e' h',J (seen++[en.2.2]) e' h'→K' .normal ⟨e',n,defs,h'⟩=true)→(∀ id s,K' (.exit id) s=K (.exit id) s)→(∀ s,K' .ret s=K .ret s)→(∀ v s,K' (.panic v) s=K (.panic v) s)→f ⟨e,n,defs,h⟩ K'=true) :
  bS f ⟨e0,n,defs,h0⟩ K=true:=by
 refine iZ (fun m e h=>∃ seen,m=y9 es seen∧J seen e h) (y9 es []) ⟨[],rfl,hJ⟩ fun m e h hi=>?_
 obtain ⟨seen,rfl,hj⟩:=hi
 exact step seen e h hj _ (fun en hen hs e' h' hj'=>nu (I:=fun m e h=>∃ seen,m=y9 es seen∧J seen e h) (y9 es (seen++[en.2.2])) (Il hen hs) ⟨_,rfl,hj'⟩) (fun _ _=>rfl) (fun _=>rfl) (fun _ _=>rfl)
end
end Go.AM
namespace Go.AM
open Go Go.Proofs
noncomputable section
theorem dK.trans{A B C:DB}(h1:dK A B)(h2:dK B C):dK A C:=fun nm=>(h1 nm).trans (h2 nm)
def fM(lv:Lev.Lv)(rs:List aJ)(l:Nat):List aJ:=rs.filter fun r=>decide (lv r.name=l)
inductive AU (n:Nat) (rs:List aJ) (lv:Lev.Lv) (D0:DB):Nat→DB→Prop
 |zero:AU n rs lv D0 0 D0
 |succ (l:Nat) (D D':DB):AU n rs lv D0 l D→Reach n (fM lv rs l) D D'→jA n (fM lv rs l) (D',false)=(D',false)→AU n rs lv D0 (l+1) D'
theorem B0{lv:Lev.Lv}{rs:List aJ}{l i:Nat}{r:aJ}(hr:rs[i]?=some r):fM lv (rs.take (i+1)) l=fM lv (rs.take i) l++if lv r.name=l then [r] else []:=by
 unfold fM;rw [List.take_add_one,hr,Option.toList_some,List.filter_append]
 by_cases h:lv r.name=l<;>simp [h]
theorem L9(p:tM):fE [.int .i64 0,.str [],.nils,.nils,.int .i64 0,.nils,.nils,.nils] [(0,8)] [.agg (pN p)]=some (pN p):=by
 obtain ⟨i,r,hd,cs,ls⟩:=p
 obtain ⟨nm,xs,ys⟩:=r
 cases hd<;>cases cs<;>cases ls<;>cases xs<;>cases ys<;>rfl
structure Im (S n:Nat) (D0:DB) (rs:List aJ) (ng:FuncId) (na nb:List AV):Prop where
 n1:1≤n
 n64:n≤64
 lR:∀ r ∈ rs,r.lR
 k12:∀ r ∈ rs,(varsOf r).length≤12
 rows:∀ nm p,D0 nm=some p→p.1≠S
 ask:∀ r ∈ rs,∀ D,dK D D0→yW n D r
 head:∀ r ∈ rs,n ^ r.args.l.length≤4096∧r.args.l.length≤12∧∃ q,D0 r.name=some q∧q.2.length=n ^ r.args.l.length
 note:∀ (i:Int) (r:aJ) (k:Int) (hd:Sl Int) (cs:Sl (Sl Int)) (ls:Sl Int) (y:AV) (h:af) (K:Out→af→Bool),(∀ h',bK h h'→K (.ret (.tuple [])) h'=true)→Sem Tryz.prog ng (na++([.agg (bx i r k (aq encI 1 hd) (aq ey 1 cs) (aq encI 1 ls)),y]++nb)) h K
 few60:rs.length≤60
theorem Dt{P M A S n:Nat}{D0:DB}{rules:Sl aJ}{hs ks:List bA}{lv:Lev.Lv}{ng:FuncId}{na nb:List AV}(o:Im S n D0 rules.l ng na nb){l:Nat}{h:af}{e0:Env}{K:AX→St→Bool}
  (hP:h.get P=some (.cells [aq aM 3 rules,.map A,.map M])) (hPn:P<h.next) (hl:dZ hs h M ks lv) (hMn:M<h.next) (hin:∀ r ∈ rules.l,r.name ∈ hs)
  (q0:e0 0 = .ptr P 0) (q1:e0 1 = .ptr S 0) (q2:e0 2 = .func ng na nb) (q9:e0 9 = .int .i64 (l:Int)) (q10:e0 10 = .nils) (q33:e0 33=aq aM 3 rules) (q34:e0 34 = .int .i64 (rules.l.length:Int)) (q35:e0 35 = .int .i64 0) {T:AV} (q26:e0 26=T) (q27:e0 27 = .int .i64 (l:Int))
  (done:∀ (e:Env) h' a ps,bK h h'→Own pN 8 h.next h' a ps→(∀ p ∈ ps,p.ok)→ps.map (·.r)=fM lv rules.l l→e 0 = .ptr P 0→e 1 = .ptr S 0→e 2 = .func ng na nb→e 10=a→e 26=T→e 27 = .int .i64 (l:Int)→F.aO.tU K (.exit 4) ⟨e,62,[],h'⟩=true) :
  bS (au Tryz.prog (ah Tryz.prog) F.aO.L2) ⟨e0,62,[],h⟩ (F.aO.tU K)=true:=by
 have hbig:rules.l.length≤cy:=by have:=o.few60;unfold cy;omega
 refine aE 0 rules.l.length (Nat.zero_le _) (fun i e h'=>∃ a ps,bK h h'∧Own pN 8 h.next h' a ps∧(∀ p ∈ ps,p.ok)∧ps.map (·.r)=fM lv (rules.l.take i) l∧e 0 = .ptr P 0∧e 1 = .ptr S 0∧e 2 = .func ng na nb∧e 9 = .int .i64 (l:Int)∧e 10=a∧e 33=aq aM 3 rules∧e 34 = .int .i64 (rules.l.length:Int)∧e 35 = .int .i64 (i:Int)∧e 26=T∧e 27 = .int .i64 (l:Int))
  ⟨.nils,[],bK.refl _,.nil,fun p hp=>(by cases hp),rfl,q0,q1,q2,q9,q10,q33,q34,q35,q26,q27⟩ ?_ ?_
 ·rintro i e h' _ hi ⟨a,ps,hx,oa,hok,hps,e0,e1,e2,e9,e10,e33,e34,e35,e26,e27⟩ K' hn hx' hr hp
  have hv:rules.l[i]?=some rules.l[i]:=List.getElem?_eq_getElem hi
  generalize rules.l[i]=r at hv
  have hrm:=List.mem_of_getElem? hv
  obtain ⟨H,hs1,g1,go,gn⟩:=cJ (h:=h') (zs:=[.str [],.nils,.nils]) (cs:=aM r) (n:=3) rfl rfl (ji r)
  have xH:bK h H:=hx.trans ⟨by omega,fun b hb=>go b (by omega)⟩
  have pP:H.get P=some (.cells [aq aM 3 rules,.map A,.map M]):=by rw [xH.get P hPn];exact hP
  have pl:dZ hs H M ks lv:=hl.keep (xH.get M hMn)
  have hst:=B0 (lv:=lv) (l:=l) hv
  rw [F.aO.jF]
  simp only [e0,e9,e10,e33,e34,e35,aQ,Nat.reduceAdd,Nat.reduceEqDiff,reduceIte,bf hi,aT rules hi,c8 eP hv,hs1]
  simp only [aQ,Nat.reduceAdd,Nat.reduceEqDiff,reduceIte,bF,ak pP,ak g1,aM,pl.Lt,if_pos (hin r hrm),ct]
  by_cases hlv:lv r.name=l
  ·rw [if_pos hlv] at hst
   simp only [decide_eq_true (by omega:(lv r.name:Int)=(l:Int)),aD,aQ,Nat.reduceAdd,Nat.reduceEqDiff,reduceIte,ak g1,aM,nL]
   refine an (cc (o.lR r hrm) fun hd cs ls h1 h2 h3=>?_)
   have hrow:=L9 ⟨(i:Int),r,hd,cs,ls⟩
   have oH:=oa.ext (h':=H) ⟨by omega,fun b hb=>go b (by omega)⟩
   have hpsl:ps.length≤60:=by
    have z1:=congrArg List.length hps
    rw [List.length_map] at z1
    have z2:(fM lv (rules.l.take i) l).length≤(rules.l.take i).length:=List.length_filter_le _ _
    have z3:=List.length_take_le' i rules.l
    have:=o.few60
    omega
   obtain ⟨a2,h3',p1,p2,p3,p4,p5,p6⟩:=oH.push AS AT xH.next (bytes:=152) (by unfold cZ;omega) ⟨(i:Int),r,hd,cs,ls⟩
   simp only [pN] at hrow p1
   simp only [aQ,Nat.reduceAdd,Nat.reduceEqDiff,reduceIte,hrow,e10,p1,e35,aK hi hbig]
   refine hn _ _ ⟨a2,_,p5 h xH (Nat.le_refl _),p2,fun p hp=>?_,by rw [List.map_append,hps,hst];rfl,e0,e1,e2,e9,rfl,e33,e34,rfl,e26,e27⟩
   rcases List.mem_append.1 hp with hp|hp
   ·exact hok p hp
   ·rw [List.mem_singleton] at hp;subst hp
    exact ⟨o.lR r hrm,o.k12 r hrm,h1,h2,h3⟩
  ·rw [if_neg hlv,List.append_nil] at hst
   simp only [decide_eq_false (by omega:¬ (lv r.name:Int)=(l:Int)),aC,e35,aK hi hbig,bindO_some]
   exact hn _ _ ⟨a,ps,xH,oa.ext ⟨by omega,fun b hb=>go b (by omega)⟩,hok,by rw [hst];exact hps,e0,e1,e2,e9,e10,e33,e34,rfl,e26,e27⟩
 ·rintro e h' ⟨a,ps,hx,oa,hok,hps,e0,e1,e2,e9,e10,e33,e34,e35,e26,e27⟩ K' hx'
  rw [F.aO.jF]
  simp only [e34,e35,aQ,Nat.reduceAdd,Nat.reduceEqDiff,reduceIte,aR]
  rw [hx']
  rw [List.take_of_length_le (Nat.le_refl _)] at hps
  exact done _ h' a ps hx oa hok hps e0 e1 e2 e10 e26 e27
end
end Go.AM
namespace Go.AM
open Go Go.Proofs
noncomputable section
def mZ(ns:List bA)(lv:Lev.Lv):List Int:=ns.map fun s=>(lv s:Int)
theorem za(ns:List bA)(lv:Lev.Lv):(mZ ns lv).length=ns.length:=by simp [mZ]
theorem m4{ns:List bA}{lv:Lev.Lv}{i:Nat}{s:bA}(h:ns[i]?=some s):(mZ ns lv)[i]?=some (lv s:Int):=by
 unfold mZ;rw [List.getElem?_map,h];rfl
theorem kO{α:Type}:∀ {l:List α} {i j:Nat} {s:α},l.Nodup→l[i]?=some s→l[j]?=some s→i=j
 |[],i,j,s,_,h,_=>by simp at h
 |a :: l,0,0,s,_,_,_=>rfl
 |a :: l,0,j+1,s,hn,h1,h2=>by
  simp only [List.getElem?_cons_zero,Option.some.injEq,List.getElem?_cons_succ] at h1 h2
  subst h1
  exact absurd (List.mem_of_getElem? h2) (List.nodup_cons.1 hn).1
 |a :: l,i+1,0,s,hn,h1,h2=>by
  simp only [List.getElem?_cons_zero,Option.some.injEq,List.getElem?_cons_succ] at h1 h2
  subst h2
  exact absurd (List.mem_of_getElem? h1) (List.nodup_cons.1 hn).1
 |a :: l,i+1,j+1,s,hn,h1,h2=>by
  rw [List.getElem?_cons_succ] at h1 h2
  rw [kO (List.nodup_cons.1 hn).2 h1 h2]
theorem Io{ns:List bA}(hn:ns.Nodup){lv:Lev.Lv}{e:Lev.Edge}{a:Nat}(ha:ns[a]?=some e.h)(hlt:lv e.h<lv e.b+e.w):(mZ ns lv).set a ((lv e.b+e.w:Nat):Int)=mZ ns (Lev.fh lv e):=by
 have hal:=(List.getElem?_eq_some_iff.1 ha).1
 refine List.ext_getElem? fun j=>?_
 rw [List.getElem?_set]
 have hrel:∀ x,Lev.fh lv e x=if x=e.h then lv e.b+e.w else lv x:=fun x=>by unfold Lev.fh;rw [if_pos hlt]
 by_cases hj:a=j
 ·subst hj
  rw [if_pos rfl,if_pos (by rw [za];exact hal),m4 ha,hrel,if_pos rfl]
 ·rw [if_neg hj]
  cases hs:ns[j]? with
  |none=>unfold mZ;rw [List.getElem?_map,List.getElem?_map,hs];rfl
  |some t=>
   rw [m4 hs,m4 hs,hrel,if_neg]
   intro e1
   subst e1
   exact hj (kO hn ha hs)
theorem Du{lv:Lev.Lv}{e:Lev.Edge}{s:bA}(h:s≠e.h):Lev.fh lv e s=lv s:=by
 unfold Lev.fh;split
 ·exact if_neg h
 ·rfl
set_option maxHeartbeats 2000000 in
theorem aV{rules:Sl aJ}(h60:rules.l.length≤60)(h20:∀ r ∈ rules.l,r.body.l.length≤20){h:af}{K:Out→af→Bool}
  (hno:(∀ k,¬ Lev.cK (bD rules.l) (Lev.iter (bD rules.l) k))→K (.ret (.tuple [.nils,.bool false])) h=true)
  (hyes:∀ (y:Sl Int) k,Lev.cK (bD rules.l) (Lev.iter (bD rules.l) k)→y.l=mZ (eo rules.l) (Lev.iter (bD rules.l) k)→K (.ret (.tuple [aq encI 1 y,.bool true])) h=true) :
  Sem Tryz.prog 32 [aq aM 3 rules] h K:=by
 have hbig:rules.l.length≤cy:=by unfold cy;omega
 have hN:∀ e ∈ bD rules.l,e.b ∈ eo rules.l∧e.h ∈ eo rules.l:=fun e he=>by
  obtain ⟨r,hr,c,hc,_,hin,rfl⟩:=pI he
  exact ⟨(eD _).2 hin,(eD _).2 (List.mem_map_of_mem hr)⟩
 have hw:∀ e ∈ bD rules.l,e.w≤1:=fun e he=>by
  obtain ⟨r,hr,c,hc,_,hin,rfl⟩:=pI he
  exact ED r c
 have hnd:=vF (mj rules.l)
 have hdl:(eo rules.l).length≤60:=by have:=mY rules.l;omega
 have main:Sem Tryz.prog 32 [aq aM 3 rules] af.empty (fun o h'=>yes (((∀ k,¬ Lev.cK (bD rules.l) (Lev.iter (bD rules.l) k))∧o = .ret (.tuple [.nils,.bool false])) ∨
   ∃ (a:AV) (y:Sl Int) (k:Nat),o = .ret (.tuple [a,.bool true])∧Fz true h' a (aq encI 1 y)∧Lev.cK (bD rules.l) (Lev.iter (bD rules.l) k)∧y.l=mZ (eo rules.l) (Lev.iter (bD rules.l) k))):=by
  refine F.ux ?_
  rw [F.vY]
  generalize hR:(fun (o:Out) (h':af)=>yes (((∀ k,¬ Lev.cK (bD rules.l) (Lev.iter (bD rules.l) k))∧o = .ret (.tuple [.nils,.bool false])) ∨
   ∃ (a:AV) (y:Sl Int) (k:Nat),o = .ret (.tuple [a,.bool true])∧Fz true h' a (aq encI 1 y)∧Lev.cK (bD rules.l) (Lev.iter (bD rules.l) k)∧y.l=mZ (eo rules.l) (Lev.iter (bD rules.l) k)))=R
  have finN:(∀ k,¬ Lev.cK (bD rules.l) (Lev.iter (bD rules.l) k))→∀ h',R (.ret (.tuple [.nils,.bool false])) h'=true:=fun hk h'=>by
   subst hR;exact cz.2 (.inl ⟨hk,rfl⟩)
  have finY:∀ h' a (y:Sl Int) k,Fz true h' a (aq encI 1 y)→Lev.cK (bD rules.l) (Lev.iter (bD rules.l) k)→y.l=mZ (eo rules.l) (Lev.iter (bD rules.l) k)→R (.ret (.tuple [a,.bool true])) h'=true:=fun h' a y k q1 q2 q3=>by
   subst hR;exact cz.2 (.inr ⟨a,y,k,rfl,q1,q2,q3⟩)
  clear hR
  refine an (cO h60 fun x hx1=>?_)
  have hxl:x.l.length≤60:=by rw [hx1];exact hdl
  have hxb:x.l.length≤cy:=by unfold cy;omega
  simp only [aQ,Nat.reduceAdd,Nat.reduceEqDiff,reduceIte,tE (show x.l.length≤1000000 by omega)]
  have gU:(af.alloc af.empty (.cells ((List.replicate x.l.length (0:Int)).map iv))).get 0=some (.cells ((mZ x.l (Lev.iter (bD rules.l) 0)).map iv)):=by
   have:mZ x.l (Lev.iter (bD rules.l) 0)=List.replicate x.l.length (0:Int):=by
    show x.l.map (fun _=>(0:Int))=_;exact List.map_const'
   rw [this];exact aI _ _
  have gn:(af.alloc af.empty (.cells ((List.replicate x.l.length (0:Int)).map iv))).next=1:=rfl
  simp only [bM]
  generalize (af.alloc af.empty (.cells ((List.replicate x.l.length (0:Int)).map iv)))=H0 at gU gn ⊢
  rw [← hx1] at hN hnd finY
  refine vE (fun m e h'=>∃ k,h'.get 0=some (.cells ((mZ x.l (Lev.iter (bD rules.l) k)).map iv))∧0<h'.next∧(∀ s,Lev.iter (bD rules.l) k s≤x.l.length)∧e 0=aq aM 3 rules∧e 4=aq encS 1 x∧e 5 = .slice 0 0 x.l.length 1 ∧
   ((e 6 = .bool true∧m=x.l.length*x.l.length+2-(x.l.map (Lev.iter (bD rules.l) k)).sum)∨(e 6 = .bool false∧m=0∧Lev.cK (bD rules.l) (Lev.iter (bD rules.l) k)))) _
   ⟨0,gU,by omega,fun s=>Nat.zero_le _,rfl,rfl,rfl,.inl ⟨rfl,rfl⟩⟩ ?_
  rintro m e h' ⟨k,qU,qn,bd,e0,e4,e5,hch⟩ K0 hN0 hx0 hr0
  rw [F.aV.aP]
  rcases hch with ⟨e6,hm⟩|⟨e6,hm,hst⟩
  ·have hsum:(x.l.map (Lev.iter (bD rules.l) k)).sum≤x.l.length*x.l.length:=Lev.DU x.l fun s _=>bd s
   simp only [e6,condB_bool,aD]
   refine aE 0 rules.l.length (Nat.zero_le _) (fun i e h'=>∃ cur ch,Lev.RS (Lev.iter (bD rules.l) k) cur (iE (bg rules.l) (rules.l.take i)) ch∧h'.get 0=some (.cells ((mZ x.l cur).map iv))∧0<h'.next∧(∀ s,cur s≤x.l.length) ∧
    e 0=aq aM 3 rules∧e 4=aq encS 1 x∧e 5 = .slice 0 0 x.l.length 1∧e 6 = .bool ch∧e 7 = .int .i64 (i:Int)) ⟨_,false,Lev.RS.nil _,qU,qn,bd,e0,e4,e5,rfl,rfl⟩ ?_ ?_
   ·rintro i e h' _ hi ⟨cur,ch,rs,qU,qn,bd,e0,e4,e5,e6,e7⟩ K1 hn1 hx1' hr1 hp1
    have hv:rules.l[i]?=some rules.l[i]:=List.getElem?_eq_getElem hi
    generalize rules.l[i]=r at hv
    have hb20:=h20 r (List.mem_of_getElem? hv)
    have hbb:r.body.l.length≤cy:=by unfold cy;omega
    have hrin:r.name ∈ x.l:=by rw [hx1];exact (eD _).2 (List.mem_map_of_mem (List.mem_of_getElem? hv))
    have ld:∀ j,j<3→∀ h,aj none (.iptr (rules.l.flatMap aM) (i*3+j)) h=(aM r)[j]?:=fun j hj h=>eN eP hv hj
    have ld0:∀ h,aj none (.iptr (rules.l.flatMap aM) (i*3)) h=some (.str r.name):=fun h=>ld 0 (by omega) h
    rw [F.aV.dc]
    simp only [e0,e4,e7,aQ,Nat.reduceAdd,Nat.reduceEqDiff,reduceIte,bf hi,aT rules hi,ld0]
    refine an (dy hxb (fun a ha=>?_) (fun hnot=>absurd hrin hnot))
    have hal:=(List.getElem?_eq_some_iff.1 ha).1
    simp only [aQ,Nat.reduceAdd,Nat.reduceEqDiff,reduceIte]
    refine aE 0 r.body.l.length (Nat.zero_le _) (fun j e h2=>∃ cur ch,Lev.RS (Lev.iter (bD rules.l) k) cur (iE (bg rules.l) (rules.l.take i)++ki (bg rules.l) r (r.body.l.take j)) ch∧h2.get 0=some (.cells ((mZ x.l cur).map iv))∧0<h2.next∧(∀ s,s≠r.name→cur s≤x.l.length)∧(∀ s,cur s≤x.l.length+j) ∧
     e 0=aq aM 3 rules∧e 4=aq encS 1 x∧e 5 = .slice 0 0 x.l.length 1∧e 6 = .bool ch∧e 7 = .int .i64 (i:Int)∧e 8 = .int .i64 (a:Int)∧e 9 = .int .i64 (j:Int))
     ⟨cur,ch,by simpa [ki] using rs,qU,qn,fun s _=>bd s,by simpa using bd,e0,e4,e5,e6,e7,rfl,rfl⟩ ?_ ?_
    ·rintro j e h2 _ hj ⟨cur,ch,rs,qU,qn,bd1,bd2,e0,e4,e5,e6,e7,e8,e9⟩ K2 hn2 hx2 hr2 hp2
     have hc:r.body.l[j]?=some r.body.l[j]:=List.getElem?_eq_getElem hj
     generalize r.body.l[j]=c at hc
     obtain ⟨H2,hs2,k1,ko,kn⟩:=cJ (h:=h2) (zs:=[.int .i64 0,.bool false,.str [],.nils]) (cs:=bJ c) (n:=4) rfl rfl (fY c)
     have kU:H2.get 0=some (.cells ((mZ x.l cur).map iv)):=by rw [ko 0 (by omega)];exact qU
     have hst:=vz (hs:=bg rules.l) (r:=r) hc
     have skip:jw (bg rules.l) r c = []→∀ e':Env,e' 0=aq aM 3 rules→e' 4=aq encS 1 x→e' 5 = .slice 0 0 x.l.length 1→e' 6 = .bool ch→e' 7 = .int .i64 (i:Int)→e' 8 = .int .i64 (a:Int)→e' 9 = .int .i64 ((j+1:Nat):Int)→K2 .normal ⟨e',89,[],H2⟩=true:=by
      intro hed e' e0 e4 e5 e6 e7 e8 e9
      rw [hed,List.append_nil] at hst
      exact hn2 _ _ ⟨cur,ch,by rw [hst];exact rs,kU,by omega,bd1,fun s=>by have:=bd2 s;omega,e0,e4,e5,e6,e7,e8,e9⟩
     rw [F.aV.jF]
     simp only [e0,e4,e7,e9,aQ,Nat.reduceAdd,Nat.reduceEqDiff,reduceIte,aT rules hi,ld 2 (by omega),aM,bf hj,aT r.body hj,c8 fX hc,hs2]
     simp only [aQ,Nat.reduceAdd,Nat.reduceEqDiff,reduceIte,ak k1,bJ]
     refine an (dy hxb (fun b hb=>?_) (fun hnot=>?_))
     ·have hbl:=(List.getElem?_eq_some_iff.1 hb).1
      have hcin:c.name ∈ bg rules.l:=by rw [← eD,← hx1];exact List.mem_of_getElem? hb
      simp only [aQ,Nat.reduceAdd,Nat.reduceEqDiff,reduceIte,ak k1,bJ,ct]
      by_cases k0:c.kind=0
      ·have hed:jw (bg rules.l) r c = [ec r c]:=by unfold jw;rw [if_pos ⟨k0,hcin⟩]
       rw [hed] at hst
       simp only [decide_eq_true k0,aD,decide_eq_true (show (0:Int)≤(b:Int) by omega),e5,j9 hbl,kF kU (m4 hb),aQ,Nat.reduceAdd,Nat.reduceEqDiff,reduceIte,ak k1,bJ]
       have J:∀ e':Env,e' 0=aq aM 3 rules→e' 4=aq encS 1 x→e' 5 = .slice 0 0 x.l.length 1→e' 6 = .bool ch→e' 7 = .int .i64 (i:Int)→e' 8 = .int .i64 (a:Int)→e' 9 = .int .i64 (j:Int)→e' 12 = .int .i64 ((cur c.name+(ec r c).w:Nat):Int) →
         F.aV.J0 K2 ⟨e',89,[],H2⟩=true:=by
        intro e' e0 e4 e5 e6 e7 e8 e9 e12
        rw [F.aV.yh]
        simp only [e5,e8,e12,j9 hal,kF kU (m4 ha),aQ,Nat.reduceAdd,Nat.reduceEqDiff,reduceIte]
        by_cases hlt:cur r.name<cur c.name+(ec r c).w
        ·have hset:=Io hnd (e:=ec r c) ha hlt
         have hstore:=pg (v:=((cur c.name+(ec r c).w:Nat):Int)) kU (i:=a) (by rw [za];exact hal)
         have hset':(mZ x.l cur).set a ((cur c.name+(ec r c).w:Nat):Int)=mZ x.l (Lev.fh cur (ec r c)):=hset
         rw [hset'] at hstore
         simp only [bf hlt,aD,e5,e8,e9,e12,j9 hal,hstore,aQ,Nat.reduceAdd,Nat.reduceEqDiff,reduceIte,aK hj hbb]
         refine hn2 _ _ ⟨_,true,?_,by rw [af.aS,if_pos rfl],by rw [af.next_set];omega,fun s hs=>?_,fun s=>?_,e0,e4,e5,rfl,e7,e8,rfl⟩
         ·rw [hst,← List.append_assoc];exact rs.up hlt
         ·rw [Du (e:=ec r c) hs];exact bd1 s hs
         ·have:=Lev.oC (e:=ec r c) bd2 (ED r c) s;omega
        ·simp only [decide_eq_false (by omega:¬ ((cur r.name:Int)<((cur c.name+(ec r c).w:Nat):Int))),aC,e9,aK hj hbb,bindO_some]
         exact hn2 _ _ ⟨cur,ch,by rw [hst,← List.append_assoc];exact rs.same hlt,kU,by omega,bd1,fun s=>by have:=bd2 s;omega,e0,e4,e5,e6,e7,e8,rfl⟩
       cases hng:c.neg with
       |true=>
        have hw1:(ec r c).w=1:=by unfold ec;simp [hng]
        have hadd:=aK (i:=cur c.name) (n:=2000000) (by have:=bd2 c.name;omega) (by unfold cy;omega)
        simp only [aD,hadd,bindO_some]
        exact J _ e0 e4 e5 e6 e7 e8 e9 (by rw [hw1];rfl)
       |false=>
        have hw1:(ec r c).w=0:=by unfold ec;simp [hng]
        simp only [aC]
        exact J _ e0 e4 e5 e6 e7 e8 e9 (by rw [hw1];rfl)
      ·simp only [decide_eq_false k0,aC,e9,aK hj hbb,bindO_some]
       exact skip (by unfold jw;rw [if_neg (fun h=>k0 h.1)]) _ e0 e4 e5 e6 e7 e8 rfl
     ·have hcout:c.name ∉ bg rules.l:=fun h=>hnot (by rw [hx1];exact (eD _).2 h)
      have hed:jw (bg rules.l) r c = []:=by unfold jw;rw [if_neg (fun h=>hcout h.2)]
      simp only [aQ,Nat.reduceAdd,Nat.reduceEqDiff,reduceIte,ak k1,bJ,ct]
      by_cases k0:c.kind=0
      ·simp only [decide_eq_true k0,aD,show decide ((0:Int)≤-1)=false from rfl,aC,e9,aK hj hbb,bindO_some]
       exact skip hed _ e0 e4 e5 e6 e7 e8 rfl
      ·simp only [decide_eq_false k0,aC,e9,aK hj hbb,bindO_some]
       exact skip hed _ e0 e4 e5 e6 e7 e8 rfl
    ·rintro e h2 ⟨cur,ch,rs,qU,qn,bd1,bd2,e0,e4,e5,e6,e7,e8,e9⟩ K2 hx2
     rw [List.take_of_length_le (Nat.le_refl _),← yN hv] at rs
     rw [F.aV.jF]
     simp only [e0,e7,e9,aQ,Nat.reduceAdd,Nat.reduceEqDiff,reduceIte,aT rules hi,ld 2 (by omega),aM,aR]
     rw [hx2,F.aV.fV]
     simp only [e4,e5,e7,e8,j9 hal,kF qU (m4 ha),aQ,Nat.reduceAdd,Nat.reduceEqDiff,reduceIte]
     by_cases hgt:x.l.length<cur r.name
     ·simp only [bf hgt,aD]
      rw [hr1,F.aV.gK,hr0,F.aV.bp]
      refine finN (Lev.high (N:=x.l) hN hw (k:=k) (E1:=iE (bg rules.l) (rules.l.take (i+1))) (E2:=iE (bg rules.l) (rules.l.drop (i+1))) ?_ hrin (by rw [← rs.eq];exact hgt)) _
      unfold bD iE
      rw [← List.flatMap_append,List.take_append_drop]
     ·simp only [decide_eq_false (by omega:¬ ((x.l.length:Int)<(cur r.name:Int))),aC,e7,aK hi hbig,bindO_some]
      refine hn1 _ _ ⟨cur,ch,rs,qU,qn,fun s=>?_,e0,e4,e5,e6,rfl⟩
      by_cases hs:s=r.name
      ·subst hs;omega
      ·exact bd1 s hs
   ·rintro e h' ⟨cur,ch,rs,qU,qn,bd',e0,e4,e5,e6,e7⟩ K1 hx1'
    rw [List.take_of_length_le (Nat.le_refl _)] at rs
    obtain ⟨d1,d2⟩:=rs.done
    have d1':cur=Lev.iter (bD rules.l) (k+1):=d1
    rw [F.aV.dc]
    simp only [e0,e7,aQ,Nat.reduceAdd,Nat.reduceEqDiff,reduceIte,aR]
    rw [hx1',F.aV.cx]
    by_cases hst:Lev.cK (bD rules.l) (Lev.iter (bD rules.l) k)
    ·have hst':Lev.cK (iE (bg rules.l) rules.l) (Lev.iter (bD rules.l) k):=hst
     rw [decide_eq_true hst'] at d2
     have d3:cur=Lev.iter (bD rules.l) k:=by rw [d1];exact Lev.rC hst
     rw [d3] at qU
     exact hN0 0 _ _ (by omega) ⟨k,qU,qn,bd,e0,e4,e5,.inr ⟨by simp only [bE,Nat.reduceEqDiff,reduceIte,e6,d2];rfl,rfl,hst⟩⟩
    ·have hst':¬ Lev.cK (iE (bg rules.l) rules.l) (Lev.iter (bD rules.l) k):=hst
     rw [decide_eq_false hst'] at d2
     rw [d1'] at qU bd'
     have h1:=Lev.FK hN hst
     have h2:(x.l.map (Lev.iter (bD rules.l) (k+1))).sum≤x.l.length*x.l.length:=Lev.DU x.l fun s _=>bd' s
     have h3:(x.l.map (Lev.iter (bD rules.l) k)).sum<(x.l.map (Lev.iter (bD rules.l) (k+1))).sum:=h1
     exact hN0 _ _ _ (by rw [hm];omega) ⟨k+1,qU,qn,bd',e0,e4,e5,.inl ⟨by simp only [bE,Nat.reduceEqDiff,reduceIte,e6,d2];rfl,rfl⟩⟩
  ·simp only [e6,condB_bool,aC]
   rw [hx0,F.aV.aG]
   simp only [bE,Nat.reduceEqDiff,reduceIte,e5]
   have hf:=C0 qU
   rw [za] at hf
   exact finY _ _ (some (mZ x.l (Lev.iter (bD rules.l) k))) k hf hst rfl
 refine main.frozen (by simp [AV.pureL,cj eC]) fun o h' ho=>?_
 rcases cz.1 ho with ⟨hb,rfl⟩|⟨a,y,k,rfl,f1,hst,s3⟩
 ·exact ⟨_,_,rfl,.ez rfl,hno hb⟩
 ·have fl:=lf.cons f1 (lf.cons (Fz.scalar (.bool true) rfl) lf.nil)
  exact ⟨_,_,rfl,.tuple _ _ fl.len fl.rel,hyes y k hst s3⟩
end
end Go.AM
namespace Go.AM
open Go Go.Proofs
noncomputable section
set_option maxHeartbeats 2000000 in
theorem Gs{P M A B S n lo:Nat}{D0:DB}{rules:Sl aJ}{hs ks:List bA}{lv:Lev.Lv}{ng:FuncId}{na nb:List AV}(o:Im S n D0 rules.l ng na nb){h:af}{K:Out→af→Bool}
  (hP:h.get P=some (.cells [aq aM 3 rules,.map A,.map M])) (hPn:P<h.next) (hl:dZ hs h M ks lv) (hks:ks.Nodup) (hMn:M<h.next) (hin:∀ r ∈ rules.l,r.name ∈ hs) (hlv:∀ x,lv x≤1000000)
  (hS:h.get S=some (.cells [.int .i64 (n:Int),.map B])) (hSn:S<h.next) (hD:dm D0 h B lo) (hPM:∀ nm p,D0 nm=some p→p.1≠P∧p.1≠M)
  (hK:∀ h' D' T,(∀ x ∈ hs,lv x≤T)→AU n rules.l lv D0 (T+1) D'→dK D' D0→dm D' h' B lo→(∀ b,b<h.next→(∀ nm p,D0 nm=some p→b≠p.1)→h'.get b=h.get b)→h.next≤h'.next→K (.ret (.tuple [])) h'=true) :
  Sem Tryz.prog 46 [.ptr P 0,.ptr S 0,.func ng na nb] h K:=by
 obtain ⟨es,ck,m,z1,z2,z3,z4,z5⟩:=hl.ex
 have hmnd:(m.map (·.1)).Nodup:=by rw [z4];exact hks
 have hval:∀ p ∈ m,p.1 ∈ hs∧p.2=(lv p.1:Int):=fun p hp=>by
  have h1:=qB hmnd hp
  rw [z5] at h1
  by_cases hh:p.1 ∈ hs
  ·rw [if_pos hh] at h1;exact ⟨hh,(Option.some.inj h1).symm⟩
  ·rw [if_neg hh] at h1;cases h1
 refine F.ov ?_
 rw [F.oX]
 have hrg:jL .map (.map M) h=some (.ptr h.next 0,h.alloc (.miter (some M) ck [] ck)):=by simp only [jL,z1]
 simp only [aQ,Nat.reduceAdd,Nat.reduceEqDiff,reduceIte,bF,ak hP,hrg]
 refine uL es (fun seen e hh=>∃ t:Nat,e 6 = .int .i64 (t:Int)∧(∀ en ∈ es,en.2.2 ∈ seen→∀ v:Nat,en.2.1 = .int .i64 (v:Int)→v≤t)∧t≤1000000∧hh.get h.next=some (.miter (some M) ck seen ck)∧(∀ b,b<h.next→hh.get b=h.get b)∧h.next<hh.next ∧
  e 0 = .ptr P 0∧e 1 = .ptr S 0∧e 2 = .func ng na nb∧e 17 = .ptr h.next 0)
  ⟨0,rfl,fun en _ hen=>(by cases hen),by omega,aI _ _,fun b hb=>by rw [af.aX,if_neg (by omega)],by rw [af.next_alloc];omega,rfl,rfl,rfl,rfl⟩ ?_
 rintro seen e hh ⟨t,e6,ht,ht6,w3,wf,wn,e0,e1,e2,e17⟩ K' hnx' hex hret hpan
 rw [F.aO.aP]
 simp only [e17]
 refine y8 w3 (by rw [wf M hMn];exact z1) z3 (by omega) (fun hall=>?_) (fun en hen hns hent=>?_)
 ·simp only [BH,kJ,bindO_some,condB_bool,aC]
  rw [hex,F.aO.aG]
  have htop:∀ x ∈ hs,lv x≤t:=fun x hx=>by
   have h1:m.find x=some (lv x:Int):=by rw [z5,if_pos hx]
   obtain ⟨en,hen,h2,h3⟩:=z2.mem' _ (mV h1)
   exact ht en hen (hall en hen) (lv x) h3
  have hadd:=aK (i:=t) (n:=1000001) (by omega) (by unfold cy;omega)
  simp only [aQ,Nat.reduceAdd,Nat.reduceEqDiff,reduceIte,e6,hadd]
  refine aE 0 (t+1) (Nat.zero_le _) (fun l e h'=>∃ D,AU n rules.l lv D0 l D∧dK D D0∧dm D h' B lo∧(∀ b,b<h.next→(∀ nm p,D0 nm=some p→b≠p.1)→h'.get b=h.get b)∧h.next≤h'.next∧e 0 = .ptr P 0∧e 1 = .ptr S 0∧e 2 = .func ng na nb∧e 26 = .int .i64 ((t+1:Nat):Int)∧e 27 = .int .i64 (l:Int))
   ⟨D0,.zero,fun _=>rfl,hD.ext ⟨by omega,fun b hb=>wf b hb⟩,fun b hb _=>wf b hb,by omega,e0,e1,e2,rfl,rfl⟩ ?_ ?_
  ·rintro l e h' _ hlt ⟨D,hrun,hdim,hbit,hfr,hnx,e0,e1,e2,e26,e27⟩ K1 hn1 hx1 hr1 hp1
   have notP:∀ nm p,D0 nm=some p→P≠p.1:=fun nm p hp=>Ne.symm (hPM nm p hp).1
   have notM:∀ nm p,D0 nm=some p→M≠p.1:=fun nm p hp=>Ne.symm (hPM nm p hp).2
   have pP:h'.get P=some (.cells [aq aM 3 rules,.map A,.map M]):=by rw [hfr P hPn notP];exact hP
   have pl:dZ hs h' M ks lv:=hl.keep (hfr M hMn notM)
   rw [F.aO.dc]
   simp only [e0,e26,e27,aQ,Nat.reduceAdd,Nat.reduceEqDiff,reduceIte,bf hlt,bF,ak pP]
   refine Dt o (l:=l) pP (by omega) pl (by omega) hin e0 e1 e2 rfl rfl rfl rfl rfl e26 e27 fun e' h3 a ps hx3 oa hok hps f0 f1 f2 f10 f26 f27=>?_
   rw [F.aO.fV]
   simp only [f1,f2,f10]
   have hS3:h3.get S=some (.cells [.int .i64 (n:Int),.map B]):=by rw [hx3.get S (by omega),hfr S hSn (fun nm p hp=>Ne.symm (o.rows nm p hp))];exact hS
   have hsub:∀ p ∈ ps,p.r ∈ rules.l:=fun p hp=>by
    have:p.r ∈ fM lv rules.l l:=by rw [← hps];exact List.mem_map_of_mem hp
    exact (List.mem_filter.1 this).1
   have hpsl:ps.length≤60:=by
    have y1:=congrArg List.length hps
    rw [List.length_map] at y1
    have y2:(fM lv rules.l l).length≤rules.l.length:=List.length_filter_le _ _
    have:=o.few60
    omega
   have po:Ik S n D ps ng na nb:=
    ⟨o.n1,o.n64,hok,fun nm p hp=>by obtain ⟨p0,y1,y2,_⟩:=hdim.back hp;rw [y2];exact o.rows nm p0 y1,fun p hp D' hd'=>o.ask _ (hsub p hp) D' (hd'.trans hdim),
     fun p hp=>by
      obtain ⟨y1,y2,q,y3,y4⟩:=o.head _ (hsub p hp)
      obtain ⟨q',y5,_,y6⟩:=hdim.get y3
      exact ⟨y1,y2,q',y5,by rw [y6];exact y4⟩,o.note⟩
   have hDn:∀ nm p,D nm=some p→p.1<h'.next:=fun nm p hp=>(hbit.blk nm p hp).2.1
   refine an (Dq po hS3 (by have:=hx3.next;omega) (hbit.ext hx3) oa (fun b hb nm p hp=>by have:=oa.ge hb;have:=hDn nm p hp;omega) hpsl fun h4 D4 k1 k2 k3 k4 k5 k6=>?_)
   simp only [aQ,Nat.reduceAdd,Nat.reduceEqDiff,reduceIte,f27,aK hlt (show t+1≤cy by unfold cy;omega)]
   rw [hps] at k1 k2
   refine hn1 _ _ ⟨D4,.succ l D D4 hrun k1 k2,k3.trans hdim,k4,fun b b1 b2=>?_,by have:=hx3.next;omega,f0,f1,f2,f26,rfl⟩
   rw [k5 b (by have:=hx3.next;omega) (fun nm p hp=>by obtain ⟨p0,y1,y2,_⟩:=hdim.back hp;rw [y2];exact b2 nm p0 y1),hx3.get b (by omega),hfr b b1 b2]
  ·rintro e h' ⟨D,hrun,hdim,hbit,hfr,hnx,e0,e1,e2,e26,e27⟩ K1 hx1
   rw [F.aO.dc]
   simp only [e26,e27,aQ,Nat.reduceAdd,Nat.reduceEqDiff,reduceIte,aR]
   rw [hx1,F.aO.cx]
   exact hK h' D t htop hrun hdim hbit hfr hnx
 ·obtain ⟨p,hpm,hn1,hn2⟩:=z2.mem en hen
  obtain ⟨hph,hpv⟩:=hval p hpm
  rw [hpv] at hn2
  have hlvp:=hlv p.1
  simp only [BH,kJ,qt,bindO_some,condB_bool,aD,e17,hent,e6,hn2,Dh]
  have hmx:FB (t:Int) (lv p.1:Int)=((if lv p.1>t then lv p.1 else t:Nat):Int):=by
   unfold FB
   by_cases hgt:lv p.1>t
   ·rw [if_pos hgt,if_pos (by omega)]
   ·rw [if_neg hgt,if_neg (by omega)]
  refine hnx' en hen hns _ _ ⟨if lv p.1>t then lv p.1 else t,by rw [hmx];rfl,fun en' hen' hs' v hv=>?_,by split<;>omega,by rw [af.aS,if_pos rfl],fun b hb=>by rw [af.aS,if_neg (by omega)];exact wf b hb,by rw [af.next_set];exact wn,e0,e1,e2,e17⟩
  rcases List.mem_append.1 hs' with hs'|hs'
  ·have:=ht en' hen' hs' v hv
   split<;>omega
  ·rw [List.mem_singleton] at hs'
   have hee:en'=en:=by
    have hb:=z3.nodup
    obtain ⟨i,hi⟩:=List.mem_iff_getElem?.1 hen
    obtain ⟨j,hj⟩:=List.mem_iff_getElem?.1 hen'
    have hi':(es.map (·.2.2))[i]?=some en.2.2:=by rw [List.getElem?_map,hi];rfl
    have hj':(es.map (·.2.2))[j]?=some en.2.2:=by rw [List.getElem?_map,hj,← hs'];rfl
    have hij:=kO hb hi' hj'
    subst hij
    rw [hi] at hj;exact (Option.some.inj hj).symm
   rw [hee,hn2] at hv
   have:v=lv p.1:=by injection hv with _ h3;omega
   rw [this]
   split<;>omega
end
end Go.AM
namespace Go.AM
open Go Go.Proofs
noncomputable section
theorem fe{n:Int}{x:Sl Int}(hx:x.l.length≤cy){h:af}{K:Out→af→Bool}(hK:K (.ret (.bool (gd n x.l))) h=true):Sem Tryz.prog 117 [.int .i64 n,aq encI 1 x] h K:=by
 refine F.BT ?_
 rw [F.CV]
 refine aE 0 x.l.length (Nat.zero_le _) (fun i e h'=>h'=h∧e 0 = .int .i64 n∧e 1=aq encI 1 x∧e 5 = .int .i64 (i:Int)∧gd n (x.l.take i)=true) ⟨rfl,rfl,rfl,rfl,rfl⟩ ?_ ?_
 ·rintro i e h' _ hi ⟨rfl,e0,e1,e5,ht⟩ K' hn hx' hr hp
  have hv:x.l[i]?=some x.l[i]:=List.getElem?_eq_getElem hi
  rw [F.fe.aP]
  simp only [e0,e1,e5,aQ,Nat.reduceAdd,Nat.reduceEqDiff,reduceIte,bf hi,aT x hi,fB hv]
  by_cases h1:x.l[i]<0
  ·simp only [decide_eq_true h1,aD]
   rw [hr,F.fe.bp]
   have:gd n x.l=false:=all_false hv (by simp [h1])
   rw [this] at hK;exact hK
  ·simp only [decide_eq_false h1,aC]
   by_cases h2:n≤x.l[i]
   ·simp only [decide_eq_true h2,aD]
    rw [hr,F.fe.bp]
    have:gd n x.l=false:=all_false hv (by simp [h2])
    rw [this] at hK;exact hK
   ·simp only [decide_eq_false h2,aC,aK hi hx,bindO_some]
    exact hn _ _ ⟨rfl,e0,e1,rfl,gz hv ht (by simp [h1,h2])⟩
 ·rintro e h' ⟨rfl,e0,e1,e5,ht⟩ K' hx'
  rw [F.fe.aP]
  simp only [e0,e1,e5,aQ,Nat.reduceAdd,Nat.reduceEqDiff,reduceIte,aR]
  rw [hx',F.fe.aG]
  rw [List.take_of_length_le (Nat.le_refl _)] at ht
  rw [ht] at hK;exact hK
theorem Ad{x:Sl Int}(hx:x.l.length≤cy){g:FuncId}{a b:List AV}{h:af}{p:Int→Bool}(hp:∀ (v:Int) (K:Out→af→Bool),K (.ret (.bool (p v))) h=true→Sem Tryz.prog g (a++([.int .i64 v]++b)) h K)
  {K:Out→af→Bool} (hK:∀ n:Int,decide (0≤n)=x.l.any p→K (.ret (.int .i64 n)) h=true):Sem Tryz.prog 121 [aq encI 1 x,.func g a b] h K:=by
 refine F.jR ?_
 rw [F.j8]
 simp only [aQ,Nat.reduceAdd,Nat.reduceEqDiff,reduceIte]
 refine aE 0 x.l.length (Nat.zero_le _) (fun i e h'=>h'=h∧e 0=aq encI 1 x∧e 1 = .func g a b∧e 7 = .int .i64 (x.l.length:Int)∧e 8 = .int .i64 (i:Int)∧(x.l.take i).any p=false) ⟨rfl,rfl,rfl,rfl,rfl,rfl⟩ ?_ ?_
 ·rintro i e h' _ hi ⟨rfl,e0,e1,e7,e8,ht⟩ K' hn hx' hr hp'
  have hv:x.l[i]?=some x.l[i]:=List.getElem?_eq_getElem hi
  rw [F.bI.aP]
  simp only [e0,e1,e7,e8,aQ,Nat.reduceAdd,Nat.reduceEqDiff,reduceIte,bf hi,aT x hi,fB hv,callV_func]
  refine an (hp _ _ ?_)
  simp only [aQ,Nat.reduceAdd,Nat.reduceEqDiff,reduceIte]
  cases hq:p x.l[i] with
  |true=>
   simp only [aD]
   rw [hr,F.bI.bp]
   refine hK (i:Int) ?_
   rw [decide_eq_true (by omega:(0:Int)≤(i:Int))]
   exact (List.any_eq_true.2 ⟨_,List.mem_of_getElem? hv,hq⟩).symm
  |false=>
   simp only [aC,aK hi hx,bindO_some]
   exact hn _ _ ⟨rfl,e0,e1,e7,rfl,by rw [List.take_add_one,hv,List.any_append,ht];simp [hq]⟩
 ·rintro e h' ⟨rfl,e0,e1,e7,e8,ht⟩ K' hx'
  rw [F.bI.aP]
  simp only [e0,e1,e7,e8,aQ,Nat.reduceAdd,Nat.reduceEqDiff,reduceIte,aR]
  rw [hx',F.bI.aG]
  rw [List.take_of_length_le (Nat.le_refl _)] at ht
  exact hK (-1) (by rw [ht];rfl)
theorem m6{x:Sl Int}(hx:x.l.length≤cy){g:FuncId}{a b:List AV}{h:af}{p:Int→Bool}(hp:∀ (v:Int) (K:Out→af→Bool),K (.ret (.bool (p v))) h=true→Sem Tryz.prog g (a++([.int .i64 v]++b)) h K)
  {K:Out→af→Bool} (hK:K (.ret (.bool (x.l.any p))) h=true):Sem Tryz.prog 67 [aq encI 1 x,.func g a b] h K:=by
 refine F.jk ?_
 rw [F.ju]
 refine an (Ad hx hp fun n hn=>?_)
 simp only [aQ,Nat.reduceAdd,Nat.reduceEqDiff,reduceIte]
 rw [hn];exact hK
def KG(n:Int)(x:Int):Bool:=decide (x<0)||decide (n≤x)
theorem Ma(n:Int)(l:List Int):gd n l = !(l.any (KG n)):=by
 unfold gd KG
 induction l with
 |nil=>rfl
 |cons a l ih=>simp only [List.all_cons,List.any_cons,ih];cases decide (a<0)<;>cases decide (n≤a)<;>rfl
theorem dG{cs:List AV}{n:Nat}(h:cs.length=n):gh (some n) cs 0=some (.agg cs):=by
 simp [gh,h,List.take_of_length_le]
theorem fo{n k:Nat}(h1:1≤n)(h2:n≤64)(hk:k≤cy){h:af}{K:Out→af→Bool}(hK:∀ v:Nat,(n ^ k≤4096→v=n ^ k)→(4096<n ^ k→4096<v)→K (.ret (.int .i64 (v:Int))) h=true) :
  Sem Tryz.prog 75 [.int .i64 (n:Int),.int .i64 (k:Int)] h K:=by
 refine F.zW ?_
 rw [F.BR]
 refine aE 0 k (Nat.zero_le _) (fun i e h'=>h'=h∧e 0 = .int .i64 (n:Int)∧e 1 = .int .i64 (k:Int)∧e 6 = .int .i64 (i:Int)∧e 5 = .int .i64 ((n ^ i:Nat):Int)∧n ^ i≤262144) ⟨rfl,rfl,rfl,rfl,rfl,by simp⟩ ?_ ?_
 ·rintro i e h' _ hi ⟨rfl,e0,e1,e6,e5,hb⟩ K' hn hx hr hp
  rw [F.fo.aP]
  simp only [e0,e1,e5,e6,aQ,Nat.reduceAdd,Nat.reduceEqDiff,reduceIte,bf hi]
  by_cases hc:n ^ i≤4096
  ·have hm:n ^ i*n≤4096*64:=Nat.mul_le_mul hc h2
   have hm':((n ^ i:Nat):Int)*(n:Int)=((n ^ (i+1):Nat):Int):=by rw [Nat.pow_succ,Int.natCast_mul]
   have hs:n ^ (i+1)≤262144:=by rw [Nat.pow_succ];omega
   have hmul:aF .mul (.int .i64 ((n ^ i:Nat):Int)) (.int .i64 (n:Int))=some (.int .i64 ((n ^ (i+1):Nat):Int)):=by
    rw [qs (by rw [hm'];omega) (by rw [hm'];omega),hm']
   simp only [decide_eq_true (by omega:((n ^ i:Nat):Int)≤4096),aD,hmul,aK hi hk,bindO_some]
   exact hn _ _ ⟨rfl,e0,e1,rfl,rfl,hs⟩
  ·simp only [decide_eq_false (by omega:¬ ((n ^ i:Nat):Int)≤4096),aC]
   rw [hx,F.fo.aG]
   simp only [e5,bE,Nat.reduceEqDiff,reduceIte]
   have:=EE h1 (Nat.le_of_lt hi)
   exact hK _ (fun h=>by omega) (fun _=>by omega)
 ·rintro e h' ⟨rfl,e0,e1,e6,e5,hb⟩ K' hx
  rw [F.fo.aP]
  simp only [e0,e1,e5,e6,aQ,Nat.reduceAdd,Nat.reduceEqDiff,reduceIte,aR]
  rw [hx,F.fo.aG]
  simp only [e5,bE,Nat.reduceEqDiff,reduceIte]
  exact hK _ (fun _=>rfl) (fun h=>h)
def EK(n k:Nat):Int:=if n ^ k≤4096 then ((n ^ k:Nat):Int) else -1
theorem dz{n k:Nat}(h1:1≤n)(h2:n≤64)(hk:k≤cy){h:af}{K:Out→af→Bool}(hK:K (.ret (.int .i64 (EK n k))) h=true) :
  Sem Tryz.prog 136 [.int .i64 (n:Int),.int .i64 (k:Int),.int .i64 4096] h K:=by
 refine F.wj ?_
 rw [F.yy]
 refine aE 0 k (Nat.zero_le _) (fun i e h'=>h'=h∧e 0 = .int .i64 (n:Int)∧e 2 = .int .i64 4096∧e 8 = .int .i64 (k:Int)∧e 9 = .int .i64 (i:Int)∧e 7 = .int .i64 ((n ^ i:Nat):Int)∧n ^ i≤4096) ⟨rfl,rfl,rfl,rfl,rfl,rfl,by simp⟩ ?_ ?_
 ·rintro i e h' _ hi ⟨rfl,e0,e2,e8,e9,e7,hb⟩ K' hn hx hr hp
  rw [F.dz.aP]
  have hm:n ^ i*n≤4096*64:=Nat.mul_le_mul hb h2
  have hm':((n ^ i:Nat):Int)*(n:Int)=((n ^ (i+1):Nat):Int):=by rw [Nat.pow_succ,Int.natCast_mul]
  have hs:n ^ (i+1)≤262144:=by rw [Nat.pow_succ];omega
  have hmul:aF .mul (.int .i64 ((n ^ i:Nat):Int)) (.int .i64 (n:Int))=some (.int .i64 ((n ^ (i+1):Nat):Int)):=by
   rw [qs (by rw [hm'];omega) (by rw [hm'];omega),hm']
  simp only [e0,e2,e7,e8,e9,aQ,Nat.reduceAdd,Nat.reduceEqDiff,reduceIte,bf hi,hmul]
  by_cases hc:n ^ (i+1)≤4096
  ·simp only [decide_eq_false (by omega:¬ (4096:Int)<((n ^ (i+1):Nat):Int)),aC,aK hi hk,bindO_some]
   exact hn _ _ ⟨rfl,e0,e2,e8,rfl,rfl,hc⟩
  ·simp only [decide_eq_true (by omega:(4096:Int)<((n ^ (i+1):Nat):Int)),aD]
   rw [hr,F.dz.bp]
   simp only [bE,Nat.reduceEqDiff,reduceIte]
   have:=EE h1 (show i+1≤k from hi)
   rw [EK,if_neg (by omega)] at hK
   exact hK
 ·rintro e h' ⟨rfl,e0,e2,e8,e9,e7,hb⟩ K' hx
  rw [F.dz.aP]
  simp only [e8,e9,aQ,Nat.reduceAdd,Nat.reduceEqDiff,reduceIte,aR]
  rw [hx,F.dz.aG]
  simp only [e7,bE,Nat.reduceEqDiff,reduceIte]
  rw [EK,if_pos hb] at hK
  exact hK
def Gt(n k:Nat):AV:=if 12<k then .tuple [.int .i64 0,.int .i64 2] else if 4096<n ^ k then .tuple [.int .i64 0,.int .i64 5] else .tuple [.int .i64 ((n ^ k:Nat):Int),.int .i64 0]
theorem pQ{n k:Nat}(h1:1≤n)(h2:n≤64)(hk:k≤cy){h:af}{K:Out→af→Bool}(hK:K (.ret (Gt n k)) h=true):Sem Tryz.prog 107 [.int .i64 (n:Int),.int .i64 (k:Int)] h K:=by
 refine F.wh ?_
 rw [F.yw]
 simp only [aQ,Nat.reduceAdd,Nat.reduceEqDiff,reduceIte,decide_eq_false (by omega:¬ (n:Int)<1),decide_eq_false (by omega:¬ (64:Int)<(n:Int)),decide_eq_false (by omega:¬ (k:Int)<0)]
 unfold Gt at hK
 by_cases h12:12<k
 ·rw [if_pos h12] at hK
  simp only [decide_eq_true (by omega:(12:Int)<(k:Int)),aD];exact hK
 ·rw [if_neg h12] at hK
  simp only [decide_eq_false (by omega:¬ (12:Int)<(k:Int)),aC]
  refine an (dz h1 h2 hk ?_)
  simp only [aQ,Nat.reduceAdd,Nat.reduceEqDiff,reduceIte]
  by_cases hc:n ^ k≤4096
  ·rw [if_neg (by omega)] at hK
   simp only [EK,if_pos hc,decide_eq_false (by omega:¬ ((n ^ k:Nat):Int)<0),aC];exact hK
  ·rw [if_pos (by omega)] at hK
   simp only [EK,if_neg hc,decide_eq_true (by omega:(-1:Int)<0),aD];exact hK
theorem EL{b:Nat}{h:af}{n:Int}(hb:h.get b=some (.cells [.int .i64 n]))(v:Int)(K:Out→af→Bool)(hK:K (.ret (.bool (KG n v))) h=true):Sem Tryz.prog 191 ([]++([.int .i64 v]++[.ptr b 0])) h K:=by
 refine F.oY ?_
 rw [F.qO]
 simp only [ak hb,aQ,Nat.reduceAdd,Nat.reduceEqDiff,reduceIte]
 unfold KG at hK
 by_cases h1:v<0<;>by_cases h2:n≤v<;>simpa [h1,h2] using hK
theorem zb{n:Int}{x:Sl Int}(hx:x.l.length≤cy){h:af}{K:Out→af→Bool}(hK:K (.ret (.bool (gd n x.l))) h=true):Sem Tryz.prog 173 [.int .i64 n,aq encI 1 x] h K:=by
 refine Sem.data (r:=.bool (gd n x.l)) ?_ (by simp [AV.pureL,AV.pure,cj jQ]) hK
 refine F.rU ?_
 rw [F.tq]
 simp only [ny (x:=.int .i64 _) rfl,bindO_some,bM]
 have g0:(af.alloc af.empty (.cells [.int .i64 n])).get 0=some (.cells [.int .i64 n]):=aI _ _
 refine an (m6 hx (EL g0) ?_)
 simp only [aQ,Nat.reduceAdd,Nat.reduceEqDiff,reduceIte]
 rw [Ma]
 exact eV rfl
theorem r7{l m:List Int}{i:Nat}{a b:Int}(ha:l[i]?=some a)(hb:m[i]?=some b):ee (l.drop i) (m.drop i)=if a=b then ee (l.drop (i+1)) (m.drop (i+1)) else decide (a<b):=by
 have h1:=(List.getElem?_eq_some_iff.1 ha).1
 have h2:=(List.getElem?_eq_some_iff.1 hb).1
 rw [List.drop_eq_getElem_cons h1,List.drop_eq_getElem_cons h2]
 rw [List.getElem?_eq_getElem h1] at ha
 rw [List.getElem?_eq_getElem h2] at hb
 cases ha;cases hb;rfl
theorem ep{x y:Sl Int}(hx:x.l.length≤cy)(hxy:x.l.length=y.l.length){h:af}{K:Out→af→Bool}(hK:K (.ret (.bool (ee x.l y.l))) h=true):Sem Tryz.prog 118 [aq encI 1 x,aq encI 1 y] h K:=by
 refine F.yx ?_
 rw [F.zZ]
 refine aE 0 x.l.length (Nat.zero_le _) (fun i e h'=>h'=h∧e 0=aq encI 1 x∧e 1=aq encI 1 y∧e 5 = .int .i64 (i:Int)∧ee x.l y.l=ee (x.l.drop i) (y.l.drop i)) ⟨rfl,rfl,rfl,rfl,rfl⟩ ?_ ?_
 ·rintro i e h' _ hi ⟨rfl,e0,e1,e5,hl⟩ K' hn hx' hr hp
  have hi2:i<y.l.length:=by omega
  have hv:x.l[i]?=some x.l[i]:=List.getElem?_eq_getElem hi
  have hw:y.l[i]?=some y.l[i]:=List.getElem?_eq_getElem hi2
  rw [r7 hv hw] at hl
  generalize x.l[i]=a at hv hl
  generalize y.l[i]=b at hw hl
  rw [F.ep.aP]
  simp only [e0,e1,e5,aQ,Nat.reduceAdd,Nat.reduceEqDiff,reduceIte,bf hi,aT x hi,aT y hi2,fB hv,fB hw,ct]
  by_cases hab:a=b
  ·rw [if_pos hab] at hl
   simp only [decide_eq_true hab,Bool.not_true,aC,aK hi hx,bindO_some]
   exact hn _ _ ⟨rfl,e0,e1,rfl,hl⟩
  ·rw [if_neg hab] at hl
   simp only [decide_eq_false hab,Bool.not_false,aD]
   rw [hr,F.ep.bp]
   simp only [bE,Nat.reduceEqDiff,reduceIte]
   rw [hl] at hK;exact hK
 ·rintro e h' ⟨rfl,e0,e1,e5,hl⟩ K' hx'
  rw [F.ep.aP]
  simp only [e0,e5,aQ,Nat.reduceAdd,Nat.reduceEqDiff,reduceIte,aR]
  rw [hx',F.ep.aG]
  rw [List.drop_of_length_le (Nat.le_refl _)] at hl
  rw [hl] at hK;exact hK
theorem AW{a:Int}{h:af}{K:Out→af→Bool}(hK:K (.ret (.bool false)) h=true):Sem Tryz.prog 174 [.int .i64 a] h K:=by
 refine F.tu ?_
 rw [F.uD]
 simp only [aQ,Nat.reduceAdd,Nat.reduceEqDiff,reduceIte,beq_self_eq_true,Bool.not_true]
 exact hK
theorem vG{a b:Int}{h:af}{K:Out→af→Bool}(hK:∀ c:Int,(c=0↔a=b)→(c<0↔a<b)→K (.ret (.int .i64 c)) h=true):Sem Tryz.prog 142 [.int .i64 a,.int .i64 b] h K:=by
 refine F.qN ?_
 rw [F.rV]
 refine an (AW ?_)
 simp only [aQ,Nat.reduceAdd,Nat.reduceEqDiff,reduceIte]
 refine an (AW ?_)
 simp only [aQ,Nat.reduceAdd,Nat.reduceEqDiff,reduceIte]
 by_cases h1:a<b
 ·simp only [decide_eq_true h1,aD];exact hK _ (by omega) (by omega)
 ·simp only [decide_eq_false h1,aC]
  by_cases h2:b<a
  ·simp only [decide_eq_true h2,aD];exact hK _ (by omega) (by omega)
  ·simp only [decide_eq_false h2,aC];exact hK _ (by omega) (by omega)
theorem zc{x y:Sl Int}(hx:x.l.length≤cy)(hxy:x.l.length=y.l.length){h:af}{K:Out→af→Bool}(hK:∀ c:Int,decide (0≤c) = !(ee x.l y.l)→K (.ret (.int .i64 c)) h=true):Sem Tryz.prog 90 [aq encI 1 x,aq encI 1 y] h K:=by
 refine F.gw ?_
 rw [F.gL]
 simp only [aQ,Nat.reduceAdd,Nat.reduceEqDiff,reduceIte]
 refine aE 0 x.l.length (Nat.zero_le _) (fun i e h'=>h'=h∧e 0=aq encI 1 x∧e 1=aq encI 1 y∧e 9=aq encI 1 x∧e 10 = .int .i64 (x.l.length:Int)∧e 11 = .int .i64 (i:Int)∧ee x.l y.l=ee (x.l.drop i) (y.l.drop i)) ⟨rfl,rfl,rfl,rfl,rfl,rfl,rfl⟩ ?_ ?_
 ·rintro i e h' _ hi ⟨rfl,e0,e1,e9,e10,e11,hl⟩ K' hn hx' hr hp
  have hi2:i<y.l.length:=by omega
  have hv:x.l[i]?=some x.l[i]:=List.getElem?_eq_getElem hi
  have hw:y.l[i]?=some y.l[i]:=List.getElem?_eq_getElem hi2
  rw [r7 hv hw] at hl
  generalize x.l[i]=a at hv hl
  generalize y.l[i]=b at hw hl
  rw [F.bu.aP]
  simp only [e0,e1,e9,e10,e11,aQ,Nat.reduceAdd,Nat.reduceEqDiff,reduceIte,bf hi,aT x hi,aT y hi2,fB hv,fB hw,decide_eq_false (by omega:¬ (y.l.length:Int)≤(i:Int))]
  refine an (vG fun c c1 c2=>?_)
  simp only [aQ,Nat.reduceAdd,Nat.reduceEqDiff,reduceIte,ct]
  by_cases hab:a=b
  ·rw [if_pos hab] at hl
   simp only [decide_eq_true (c1.2 hab),Bool.not_true,aC,aK hi hx,bindO_some]
   exact hn _ _ ⟨rfl,e0,e1,e9,e10,rfl,hl⟩
  ·rw [if_neg hab] at hl
   simp only [decide_eq_false (fun h=>hab (c1.1 h)),Bool.not_false,aD]
   rw [hr,F.bu.bp]
   simp only [bE,Nat.reduceEqDiff,reduceIte]
   refine hK c ?_
   rw [hl]
   by_cases hlt:a<b
   ·rw [decide_eq_true hlt,decide_eq_false (by have:=c2.2 hlt;omega)];rfl
   ·rw [decide_eq_false hlt,decide_eq_true (by have:=mt c2.1 hlt;omega)];rfl
 ·rintro e h' ⟨rfl,e0,e1,e9,e10,e11,hl⟩ K' hx'
  rw [F.bu.aP]
  simp only [e10,e11,aQ,Nat.reduceAdd,Nat.reduceEqDiff,reduceIte,aR]
  rw [hx',F.bu.aG]
  simp only [e0,e1,aQ,Nat.reduceAdd,Nat.reduceEqDiff,reduceIte,decide_eq_false (by omega:¬ (x.l.length:Int)<(y.l.length:Int))]
  rw [List.drop_of_length_le (Nat.le_refl _)] at hl
  exact hK 0 (by rw [hl];rfl)
structure View {α:Type} (enc:α→List AV) (sz:Nat) (a:AV) (l:List α):Prop where
 len:∀ h:af,bR .slice a h=some (.int .i64 (l.length:Int))
 at_:∀ (i:Nat) (v:α),l[i]?=some v→∃ cs o,(∀ k:IntKind,dx sz a (.int k (i:Int))=some (.iptr cs o))∧(∀ h:af,aj (some sz) (.iptr cs o) h=some (.agg (enc v)))∧∀ (m:Nat),m<sz→∀ h:af,aj none (.iptr cs (o+m)) h=(enc v)[m]?
theorem Ip{α:Type}{enc:α→List AV}{sz:Nat}(he:∀ a,(enc a).length=sz)(x:Sl α):View enc sz (aq enc sz x) x.l where
 len h:=CL x h
 at_ i v hv:=⟨x.l.flatMap enc,i*sz,fun k=>aT x (List.getElem?_eq_some_iff.1 hv).1,fun h=>c8 he hv,fun m hm h=>eN he hv hm⟩
theorem Gu{α:Type}{enc:α→List AV}{sz:Nat}(he:∀ a,(enc a).length=sz)(x:Sl α){i:Nat}(hi:i≤x.l.length) :
  ∃ a,(∀ k:IntKind,fq (some sz) (aq enc sz x) none (some (.int k (i:Int)))=some a)∧View enc sz a (x.l.take i):=by
 cases x with
 |none=>
  simp only [Sl.l_none,List.length_nil,Nat.le_zero_eq] at hi
  subst hi
  exact ⟨.nils,fun k=>by simp [fq,aq,jK,kW,asNat],⟨fun h=>rfl,fun j v hv=>by simp at hv⟩⟩
 |some l=>
  simp only [Sl.l_some] at hi ⊢
  refine ⟨.islice (l.flatMap enc) 0 i sz,fun k=>?_,⟨fun h=>by simp [bR,Nat.min_eq_left hi],fun j v hv=>?_⟩⟩
  ·simp [fq,aq,jK,kW,asNat,hi]
  ·have hj:j<i:=by have:=(List.getElem?_eq_some_iff.1 hv).1;rw [List.length_take] at this;omega
   rw [List.getElem?_take_of_lt hj] at hv
   exact ⟨l.flatMap enc,j*sz,fun k=>by simp [dx,asNat,hj],fun h=>c8 he hv,fun m hm h=>eN he hv hm⟩
def bw(r:Rel):List AV:=[.str r.name,.int .i64 r.arity,aq ey 1 r.tuples]
theorem eR(r:Rel):(bw r).length=3:=rfl
theorem pR(r:Rel):AV.pureL (bw r)=true:=by simp [bw,AV.pureL,AV.pure,cj mW]
theorem fP(r:Rel):bq (bw r)=true:=by unfold bw;simp only [bq,iz,Bool.and_true];rfl
def aA(s:dP):List AV:=[.int .i64 s.size,aq bw 3 s.rels]
theorem eT(s:dP):AV.pureL (aA s)=true:=by simp [aA,AV.pureL,AV.pure,cj pR]
theorem dD(s:dP):bq (aA s)=true:=by unfold aA;simp only [bq,iz,Bool.and_true];rfl
theorem kQ{p:Nat→Bool}{n:Nat}(h:∀ j,j<n→p j=true):Ac p n=true:=by
 rw [Ac,List.all_eq_true];exact fun x hx=>h x (List.mem_range.1 hx)
theorem gr{p:Nat→Bool}{n i:Nat}(hi:i<n)(h:p i=false):Ac p n=false:=by
 rw [Bool.eq_false_iff];intro hh
 rw [Ac,List.all_eq_true] at hh
 have:=hh i (List.mem_range.2 hi)
 rw [h] at this;cases this
theorem tN{p:Nat→Bool}{n:Nat}(h:Ac p n=true){i:Nat}(hi:i<n):p i=true:=by
 rw [Ac,List.all_eq_true] at h
 exact h i (List.mem_range.2 hi)
theorem FE{n k:Nat}{l:List (Sl Int)}{i:Nat}{t:Sl Int}(h:jy n k l i=true)(ht:l[i]?=some t):t.l.length=k:=by
 unfold jy at h
 rw [ht] at h
 simp only [Bool.and_eq_true,decide_eq_true_eq] at h
 exact h.1
theorem cC{n k:Nat}{r:Rel}(hr:r.ok)(ha:r.arity=(k:Int)){h:af}{K:Out→af→Bool}(hK:K (.ret (.bool (tJ n k r.tuples.l))) h=true):Sem Tryz.prog 137 [.int .i64 (n:Int),.agg (bw r)] h K:=by
 refine Sem.data (r:=.bool (tJ n k r.tuples.l)) ?_ (by simp [AV.pureL,AV.pure,pR]) hK
 clear hK
 refine F.uA ?_
 rw [F.wk]
 have b0:(af.alloc af.empty (.cells (bw r))).get 0=some (.cells (bw r)):=aI _ _
 simp only [cI (fP r),bindO_some,bM]
 generalize (af.alloc af.empty (.cells (bw r)))=H at b0 ⊢
 have fin:∀ b:Bool,b=tJ n k r.tuples.l→lU (.bool (tJ n k r.tuples.l)) (.ret (.bool b)) H=true:=fun b hb=>by rw [hb];exact eV rfl
 simp only [aQ,Nat.reduceAdd,Nat.reduceEqDiff,reduceIte,ak b0,bw]
 refine aE 0 r.tuples.l.length (Nat.zero_le _) (fun i e h'=>h'=H∧e 0 = .int .i64 (n:Int)∧e 3 = .ptr 0 0∧e 8=aq ey 1 r.tuples∧e 9 = .int .i64 (r.tuples.l.length:Int)∧e 10 = .int .i64 (i:Int)∧∀ j,j<i→jy n k r.tuples.l j=true) ⟨rfl,rfl,rfl,rfl,rfl,rfl,fun j hj=>by omega⟩ ?_ ?_
 ·rintro i e h' _ hi ⟨rfl,e0,e3,e8,e9,e10,ht⟩ K' hn hx' hrr hp
  have hv:r.tuples.l[i]?=some r.tuples.l[i]:=List.getElem?_eq_getElem hi
  generalize r.tuples.l[i]=t at hv
  have hto:t.l.length≤cy:=hr.2.2 t (List.mem_of_getElem? hv)
  have bad:jy n k r.tuples.l i=false→F.cC.cB (lU (.bool (tJ n k r.tuples.l))) .ret ⟨aa e 4 (.bool false),42,[],h'⟩=true:=fun hb=>by
   rw [F.cC.bp]
   simp only [bE,Nat.reduceEqDiff,reduceIte]
   exact fin _ (gr hi hb).symm
  rw [F.cC.aP]
  simp only [e0,e3,e8,e9,e10,aQ,Nat.reduceAdd,Nat.reduceEqDiff,reduceIte,bf hi,aT r.tuples hi,iC hv,ak b0,bw,ct,ha]
  by_cases h1:t.l.length=k
  ·simp only [decide_eq_true (by omega:(t.l.length:Int)=(k:Int)),Bool.not_true,aC]
   refine an (zb hto ?_)
   simp only [aQ,Nat.reduceAdd,Nat.reduceEqDiff,reduceIte]
   cases h2:gd n t.l with
   |false=>
    simp only [Bool.not_false,aD]
    rw [hrr,F.cC.bp]
    simp only [bE,Nat.reduceEqDiff,reduceIte]
    exact fin _ (gr hi (by simp [jy,hv,h2])).symm
   |true=>
    simp only [Bool.not_true,aC]
    cases i with
    |zero=>
     simp only [show decide ((0:Int)<((0:Nat):Int))=false from rfl,aC,aK hi hr.2.1,bindO_some]
     refine hn _ _ ⟨rfl,e0,e3,e8,e9,rfl,fun j hj=>?_⟩
     obtain rfl:j=0:=by omega
     simp [jy,hv,h1,h2]
    |succ i=>
     have hi0:i<r.tuples.l.length:=by omega
     have hv0:r.tuples.l[i]?=some r.tuples.l[i]:=List.getElem?_eq_getElem hi0
     generalize r.tuples.l[i]=p at hv0
     have hpl:p.l.length=k:=FE (ht i (by omega)) hv0
     have hpo:p.l.length≤cy:=hr.2.2 p (List.mem_of_getElem? hv0)
     have hsub:aF .sub (.int .i64 ((i+1:Nat):Int)) (.int .i64 1)=some (.int .i64 (i:Int)):=by
      have:=hr.2.1;unfold cy at this
      rw [wW (by omega) (by omega)];congr 2;omega
     simp only [decide_eq_true (by omega:(0:Int)<((i+1:Nat):Int)),aD,aQ,Nat.reduceAdd,Nat.reduceEqDiff,reduceIte,e3,ak b0,bw,hsub,aT r.tuples hi0,iC hv0]
     refine an (zc hpo (by omega) fun c hc=>?_)
     simp only [aQ,Nat.reduceAdd,Nat.reduceEqDiff,reduceIte,hc]
     cases h3:ee p.l t.l with
     |false=>
      simp only [Bool.not_false,aD]
      rw [hrr,F.cC.bp]
      simp only [bE,Nat.reduceEqDiff,reduceIte]
      exact fin _ (gr hi (by simp [jy,hv,hv0,h3])).symm
     |true=>
      simp only [Bool.not_true,aC,aK hi hr.2.1,bindO_some]
      refine hn _ _ ⟨rfl,e0,e3,e8,e9,rfl,fun j hj=>?_⟩
      by_cases hj':j<i+1
      ·exact ht j hj'
      ·obtain rfl:j=i+1:=by omega
       simp [jy,hv,hv0,h1,h2,h3]
  ·simp only [decide_eq_false (by omega:¬ (t.l.length:Int)=(k:Int)),Bool.not_false,aD]
   rw [hrr,F.cC.bp]
   simp only [bE,Nat.reduceEqDiff,reduceIte]
   exact fin _ (gr hi (by simp [jy,hv,h1])).symm
 ·rintro e h' ⟨rfl,e0,e3,e8,e9,e10,ht⟩ K' hx'
  rw [F.cC.aP]
  simp only [e9,e10,aQ,Nat.reduceAdd,Nat.reduceEqDiff,reduceIte,aR]
  rw [hx',F.cC.aG]
  exact fin _ (kQ ht).symm
theorem ew{n:Nat}(h1:1≤n)(h2:n≤64){r:Rel}(hr:r.ok){h:af}{K:Out→af→Bool}(hK:K (.ret (.bool (kj n r))) h=true):Sem Tryz.prog 60 [.int .i64 (n:Int),.agg (bw r)] h K:=by
 refine Sem.data (r:=.bool (kj n r)) ?_ (by simp [AV.pureL,AV.pure,pR]) hK
 clear hK
 refine F.zY ?_
 rw [F.BS]
 have b0:(af.alloc af.empty (.cells (bw r))).get 0=some (.cells (bw r)):=aI _ _
 simp only [cI (fP r),bindO_some,bM]
 generalize (af.alloc af.empty (.cells (bw r)))=H at b0 ⊢
 have fin:∀ b:Bool,b=kj n r→lU (.bool (kj n r)) (.ret (.bool b)) H=true:=fun b hb=>by rw [hb];exact eV rfl
 simp only [aQ,Nat.reduceAdd,Nat.reduceEqDiff,reduceIte,ak b0,bw]
 refine an (dF ?_)
 simp only [aQ,Nat.reduceAdd,Nat.reduceEqDiff,reduceIte]
 cases hn:dB r.name with
 |false=>simp only [Bool.not_false,aD];exact fin _ (by simp [kj,hn])
 |true=>
 simp only [Bool.not_true,aC,aQ,Nat.reduceAdd,Nat.reduceEqDiff,reduceIte,ak b0,bw]
 by_cases ha:r.arity<0
 ·simp only [decide_eq_true ha,aD];exact fin _ (by rw [kj,decide_eq_false (by omega:¬ 0≤r.arity)];simp)
 simp only [decide_eq_false ha,aC]
 by_cases ha2:12<r.arity
 ·simp only [decide_eq_true ha2,aD];exact fin _ (by rw [kj,decide_eq_false (by omega:¬ r.arity≤12)];simp)
 simp only [decide_eq_false ha2,aC]
 obtain ⟨k,hk⟩:∃ k:Nat,r.arity=(k:Int):=⟨r.arity.toNat,by omega⟩
 rw [hk]
 refine an (fo h1 h2 (show k≤cy by unfold cy;omega) fun v v1 v2=>?_)
 simp only [aQ,Nat.reduceAdd,Nat.reduceEqDiff,reduceIte]
 have hrb:kj n r=(decide (n ^ k≤4096)&&tJ n k r.tuples.l):=by
  rw [kj,hn,decide_eq_true (by omega:0≤r.arity),decide_eq_true (by omega:r.arity≤12),hk];rfl
 replace fin:∀ b:Bool,b=(decide (n ^ k≤4096)&&tJ n k r.tuples.l)→lU (.bool (kj n r)) (.ret (.bool b)) H=true:=fun b hb=>fin b (hb.trans hrb.symm)
 by_cases hc:n ^ k≤4096
 ·have:=v1 hc
  simp only [decide_eq_false (by omega:¬ (4096:Int)<(v:Int)),aC]
  replace fin:∀ b:Bool,b=tJ n k r.tuples.l→lU (.bool (kj n r)) (.ret (.bool b)) H=true:=fun b hb=>fin b (by rw [decide_eq_true hc,Bool.true_and];exact hb)
  refine aE 0 r.tuples.l.length (Nat.zero_le _) (fun i e h'=>h'=H∧e 0 = .int .i64 (n:Int)∧e 3 = .ptr 0 0∧e 5 = .int .i64 (i:Int)∧∀ j,j<i→jy n k r.tuples.l j=true) ⟨rfl,rfl,rfl,rfl,fun j hj=>by omega⟩ ?_ ?_
  ·rintro i e h' _ hi ⟨rfl,e0,e3,e5,ht⟩ K' hn hx' hrr hp
   have hv:r.tuples.l[i]?=some r.tuples.l[i]:=List.getElem?_eq_getElem hi
   generalize r.tuples.l[i]=t at hv
   have hto:t.l.length≤cy:=hr.2.2 t (List.mem_of_getElem? hv)
   rw [F.ew.aP]
   simp only [e0,e3,e5,aQ,Nat.reduceAdd,Nat.reduceEqDiff,reduceIte,ak b0,bw,bf hi,aT r.tuples hi,iC hv,ct,hk]
   by_cases q1:t.l.length=k
   ·simp only [decide_eq_true (by omega:(t.l.length:Int)=(k:Int)),Bool.not_true,aC]
    refine an (fe hto ?_)
    simp only [aQ,Nat.reduceAdd,Nat.reduceEqDiff,reduceIte]
    cases q2:gd n t.l with
    |false=>
     simp only [Bool.not_false,aD]
     rw [hrr,F.ew.bp]
     simp only [bE,Nat.reduceEqDiff,reduceIte]
     exact fin _ (gr hi (by simp [jy,hv,q2])).symm
    |true=>
     simp only [Bool.not_true,aC]
     cases i with
     |zero=>
      simp only [show decide ((0:Int)<((0:Nat):Int))=false from rfl,aC,aK hi hr.2.1,bindO_some]
      refine hn _ _ ⟨rfl,e0,e3,rfl,fun j hj=>?_⟩
      obtain rfl:j=0:=by omega
      simp [jy,hv,q1,q2]
     |succ i=>
      have hi0:i<r.tuples.l.length:=by omega
      have hv0:r.tuples.l[i]?=some r.tuples.l[i]:=List.getElem?_eq_getElem hi0
      generalize r.tuples.l[i]=p at hv0
      have hpl:p.l.length=k:=FE (ht i (by omega)) hv0
      have hpo:p.l.length≤cy:=hr.2.2 p (List.mem_of_getElem? hv0)
      have hsub:aF .sub (.int .i64 ((i+1:Nat):Int)) (.int .i64 1)=some (.int .i64 (i:Int)):=by
       have:=hr.2.1;unfold cy at this
       rw [wW (by omega) (by omega)];congr 2;omega
      simp only [decide_eq_true (by omega:(0:Int)<((i+1:Nat):Int)),aD,aQ,Nat.reduceAdd,Nat.reduceEqDiff,reduceIte,e3,e5,ak b0,bw,hsub,aT r.tuples hi0,aT r.tuples hi,iC hv0,iC hv]
      refine an (ep hpo (by omega) ?_)
      simp only [aQ,Nat.reduceAdd,Nat.reduceEqDiff,reduceIte]
      cases q3:ee p.l t.l with
      |false=>
       simp only [Bool.not_false,aD]
       rw [hrr,F.ew.bp]
       simp only [bE,Nat.reduceEqDiff,reduceIte]
       exact fin _ (gr hi (by simp [jy,hv,hv0,q3])).symm
      |true=>
       simp only [Bool.not_true,aC,aK hi hr.2.1,bindO_some]
       refine hn _ _ ⟨rfl,e0,e3,rfl,fun j hj=>?_⟩
       by_cases hj':j<i+1
       ·exact ht j hj'
       ·obtain rfl:j=i+1:=by omega
        simp [jy,hv,hv0,q1,q2,q3]
   ·simp only [decide_eq_false (by omega:¬ (t.l.length:Int)=(k:Int)),Bool.not_false,aD]
    rw [hrr,F.ew.bp]
    simp only [bE,Nat.reduceEqDiff,reduceIte]
    exact fin _ (gr hi (by simp [jy,hv,q1])).symm
  ·rintro e h' ⟨rfl,e0,e3,e5,ht⟩ K' hx'
   rw [F.ew.aP]
   simp only [e3,e5,aQ,Nat.reduceAdd,Nat.reduceEqDiff,reduceIte,ak b0,bw,aR]
   rw [hx',F.ew.aG]
   exact fin _ (kQ ht).symm
 ·have:=v2 (by omega)
  simp only [decide_eq_true (by omega:(4096:Int)<(v:Int)),aD]
  exact fin _ (by rw [decide_eq_false hc];rfl)
def pT{α:Type}(p:α→Bool):List α→Nat→Int
 |[],_=>-1
 |x :: l,i=>if p x=true then (i:Int) else pT p l (i+1)
def jc{α:Type}(p:α→Bool)(l:List α):Int:=pT p l 0
theorem Dv{α:Type}{p:α→Bool}{l:List α}{i:Nat}{v:α}(hv:l[i]?=some v):pT p (l.drop i) i=if p v=true then (i:Int) else pT p (l.drop (i+1)) (i+1):=by
 have h1:=(List.getElem?_eq_some_iff.1 hv).1
 rw [List.drop_eq_getElem_cons h1]
 rw [List.getElem?_eq_getElem h1] at hv
 cases hv;rfl
theorem AY{α:Type}(p:α→Bool):∀ (l:List α) (i:Nat),decide (0≤pT p l i)=l.any p
 |[],i=>rfl
 |x :: l,i=>by
  rw [pT,List.any_cons]
  cases hp:p x with
  |true=>simp
  |false=>simpa using AY p l (i+1)
theorem EM{α:Type}(p:α→Bool)(l:List α):decide (0≤jc p l)=l.any p:=AY p l 0
theorem rA{x:AV}{l:List Rel}(hv:View bw 3 x l)(hl:l.length≤cy){g:FuncId}{a b:List AV}{h:af}{p:Rel→Bool}
  (hp:∀ (v:Rel) (h':af),bK h h'→∀ (K:Out→af→Bool),(∀ h'',bK h' h''→K (.ret (.bool (p v))) h''=true)→Sem Tryz.prog g (a++([.agg (bw v)]++b)) h' K)
  {K:Out→af→Bool} (hK:∀ h',bK h h'→K (.ret (.int .i64 (jc p l))) h'=true):Sem Tryz.prog 140 [x,.func g a b] h K:=by
 refine F.ic ?_
 rw [F.iB]
 simp only [hv.len,bindO_some]
 refine aE 0 l.length (Nat.zero_le _) (fun i e h'=>bK h h'∧e 0=x∧e 1 = .func g a b∧e 7 = .int .i64 (l.length:Int)∧e 8 = .int .i64 (i:Int)∧jc p l=pT p (l.drop i) i) ⟨bK.refl _,rfl,rfl,rfl,rfl,rfl⟩ ?_ ?_
 ·rintro i e h' _ hi ⟨hx,e0,e1,e7,e8,ht⟩ K' hn hx' hr hp'
  have hvi:l[i]?=some l[i]:=List.getElem?_eq_getElem hi
  generalize l[i]=v at hvi
  obtain ⟨cs,o,v1,v2,_⟩:=hv.at_ i v hvi
  rw [Dv hvi] at ht
  rw [F.aZ.aP]
  simp only [e0,e1,e7,e8,aQ,Nat.reduceAdd,Nat.reduceEqDiff,reduceIte,bf hi,v1,v2,callV_func]
  refine an (hp v h' hx _ fun h'' hx2=>?_)
  simp only [aQ,Nat.reduceAdd,Nat.reduceEqDiff,reduceIte]
  cases hq:p v with
  |true=>
   simp only [aD]
   rw [hr,F.aZ.bp]
   simp only [bE,Nat.reduceEqDiff,reduceIte]
   rw [if_pos hq] at ht
   rw [ht] at hK
   exact hK _ (hx.trans hx2)
  |false=>
   simp only [aC,aK hi hl,bindO_some]
   rw [if_neg (by rw [hq];decide)] at ht
   exact hn _ _ ⟨hx.trans hx2,e0,e1,e7,rfl,ht⟩
 ·rintro e h' ⟨hx,e0,e1,e7,e8,ht⟩ K' hx'
  rw [F.aZ.aP]
  simp only [e0,e1,e7,e8,aQ,Nat.reduceAdd,Nat.reduceEqDiff,reduceIte,aR]
  rw [hx',F.aZ.aG]
  rw [List.drop_of_length_le (Nat.le_refl _)] at ht
  rw [ht] at hK
  exact hK _ hx
theorem uN{x:AV}{l:List Rel}(hv:View bw 3 x l)(hl:l.length≤cy){g:FuncId}{a b:List AV}{h:af}{p:Rel→Bool}
  (hp:∀ (v:Rel) (h':af),bK h h'→∀ (K:Out→af→Bool),(∀ h'',bK h' h''→K (.ret (.bool (p v))) h''=true)→Sem Tryz.prog g (a++([.agg (bw v)]++b)) h' K)
  {K:Out→af→Bool} (hK:∀ h',bK h h'→K (.ret (.bool (l.any p))) h'=true):Sem Tryz.prog 138 [x,.func g a b] h K:=by
 refine F.gy ?_
 rw [F.gH]
 refine an (rA hv hl hp fun h' hx=>?_)
 simp only [aQ,Nat.reduceAdd,Nat.reduceEqDiff,reduceIte]
 rw [EM]
 exact hK _ hx
theorem FF{s:dP}{i:Nat}{r:Rel}(hr:s.rels.l[i]?=some r){h:af}:aj (some 3) (.iptr (s.rels.l.flatMap bw) (i*3)) h=some (.agg (bw r)):=c8 eR hr
theorem KH{b:Nat}{r v:Rel}{h:af}(hb:h.get b=some (.cells (bw r)))(hbn:b<h.next)(h':af)(hx:bK h h')(K:Out→af→Bool)(hK:∀ h'',bK h' h''→K (.ret (.bool (v.name==r.name))) h''=true) :
  Sem Tryz.prog 139 ([]++([.agg (bw v)]++[.ptr b 0])) h' K:=by
 refine F.tr ?_
 rw [F.uB]
 have hb':h'.get b=some (.cells (bw r)):=by rw [hx.get b hbn];exact hb
 have hx2:bK h' (af.alloc h' (.cells (bw v))):=bK.alloc _ _
 have g0:(af.alloc h' (.cells (bw v))).get h'.next=some (.cells (bw v)):=aI _ _
 have g1:(af.alloc h' (.cells (bw v))).get b=some (.cells (bw r)):=by rw [hx2.get b (Nat.lt_of_lt_of_le hbn hx.next)];exact hb'
 simp only [cI (fP v),bindO_some]
 generalize (af.alloc h' (.cells (bw v)))=H at g0 g1 hx2 ⊢
 simp only [aQ,Nat.reduceAdd,Nat.reduceEqDiff,reduceIte,ak g0,ak g1]
 rw [show (bw v)[0]?=some (.str v.name) from rfl,show (bw r)[0]?=some (.str r.name) from rfl]
 simp only [aQ,Nat.reduceAdd,Nat.reduceEqDiff,reduceIte]
 exact hK _ hx2
theorem dg{s:dP}(hs:s.ok){h:af}{K:Out→af→Bool}(hK:K (.ret (.bool (cY s))) h=true):Sem Tryz.prog 87 [.agg (aA s)] h K:=by
 refine Sem.data (r:=.bool (cY s)) ?_ (by simp [AV.pureL,AV.pure,eT]) hK
 clear hK
 refine F.wg ?_
 rw [F.yt]
 have b0:(af.alloc af.empty (.cells (aA s))).get 0=some (.cells (aA s)):=aI _ _
 have bn:1≤(af.alloc af.empty (.cells (aA s))).next:=Nat.le_refl _
 simp only [cI (dD s),bindO_some,bM]
 generalize (af.alloc af.empty (.cells (aA s)))=H at b0 bn ⊢
 have fin:∀ (b:Bool) (H:af),b=cY s→lU (.bool (cY s)) (.ret (.bool b)) H=true:=fun b H hb=>by rw [hb];exact eV rfl
 generalize lU (.bool (cY s))=K at fin ⊢
 simp only [aQ,Nat.reduceAdd,Nat.reduceEqDiff,reduceIte,ak b0,aA]
 by_cases s1:s.size<1
 ·simp only [decide_eq_true s1,aD];exact fin _ _ (by rw [cY,decide_eq_false (by omega:¬ 1≤s.size),Bool.false_and])
 simp only [decide_eq_false s1,aC]
 by_cases s2:64<s.size
 ·simp only [decide_eq_true s2,aD];exact fin _ _ (by rw [cY,decide_eq_false (by omega:¬ s.size≤64),Bool.false_and,Bool.and_false])
 simp only [decide_eq_false s2,aC]
 by_cases s3:8<s.rels.l.length
 ·simp only [decide_eq_true (by omega:(8:Int)<(s.rels.l.length:Int)),aD];exact fin _ _ (by rw [cY,decide_eq_false (by omega:¬ s.rels.l.length≤8),Bool.false_and,Bool.and_false,Bool.and_false])
 simp only [decide_eq_false (by omega:¬ (8:Int)<(s.rels.l.length:Int)),aC]
 replace fin:∀ (b:Bool) (H:af),b=Ac (lI s) s.rels.l.length→K (.ret (.bool b)) H=true:=fun b H hb=>fin b H (by
  rw [cY,decide_eq_true (by omega:1≤s.size),decide_eq_true (by omega:s.size≤64),decide_eq_true (by omega:s.rels.l.length≤8)];exact hb)
 obtain ⟨n,hn⟩:∃ n:Nat,s.size=(n:Int):=⟨s.size.toNat,by omega⟩
 have hn':s.size.toNat=n:=by omega
 refine aE 0 s.rels.l.length (Nat.zero_le _) (fun i e h'=>h'.get 0=some (.cells (aA s))∧1≤h'.next∧e 1 = .ptr 0 0∧e 20=aq bw 3 s.rels∧e 21 = .int .i64 (s.rels.l.length:Int)∧e 22 = .int .i64 (i:Int)∧∀ j,j<i→lI s j=true) ⟨b0,bn,rfl,rfl,rfl,rfl,fun j hj=>by omega⟩ ?_ ?_
 ·rintro i e h' _ hi ⟨q0,qn,e1,e20,e21,e22,ht⟩ K' hnx hx' hrr hp
  have hv:s.rels.l[i]?=some s.rels.l[i]:=List.getElem?_eq_getElem hi
  generalize s.rels.l[i]=r at hv
  have hro:r.ok:=hs.2 r (List.mem_of_getElem? hv)
  have hat:lI s i=(kj n r&&!((s.rels.l.take i).any fun q=>q.name==r.name)):=by rw [lI,hv,hn']
  have bad:∀ (e:Env) (h:af),lI s i=false→e 2 = .bool false→F.dg.cB K .ret ⟨e,63,[],h⟩=true:=fun e h hb he=>by
   rw [F.dg.bp,he]
   exact fin _ _ (gr hi hb).symm
  obtain ⟨H,hst,g1,go,gn⟩:=cJ (h:=h') (zs:=[.str [],.int .i64 0,.nils]) (cs:=bw r) (n:=3) rfl rfl (fP r)
  have p0:H.get 0=some (.cells (aA s)):=by rw [go _ (by omega)];exact q0
  rw [F.dg.aP]
  simp only [e1,e20,e21,e22,aQ,Nat.reduceAdd,Nat.reduceEqDiff,reduceIte,bf hi,aT s.rels hi,FF hv,hst,ak g1,dG (eR r)]
  rw [show (bw r)[0]?=some (.str r.name) from rfl]
  simp only [aQ,Nat.reduceAdd,Nat.reduceEqDiff,reduceIte]
  refine an (di ?_)
  simp only [aQ,Nat.reduceAdd,Nat.reduceEqDiff,reduceIte]
  cases w1:dB r.name with
  |false=>
   simp only [Bool.not_false,aD]
   rw [hrr]
   exact bad _ _ (by rw [hat,kj,w1];simp) rfl
  |true=>
  simp only [Bool.not_true,aC,aQ,Nat.reduceAdd,Nat.reduceEqDiff,reduceIte,ak g1]
  rw [show (bw r)[1]?=some (.int .i64 r.arity) from rfl]
  simp only [aQ,Nat.reduceAdd,Nat.reduceEqDiff,reduceIte]
  by_cases w2:r.arity<0
  ·simp only [decide_eq_true w2,aD]
   rw [hrr]
   exact bad _ _ (by rw [hat,kj,decide_eq_false (by omega:¬ 0≤r.arity)];simp) rfl
  simp only [decide_eq_false w2,aC]
  by_cases w3:12<r.arity
  ·simp only [decide_eq_true w3,aD]
   rw [hrr]
   exact bad _ _ (by rw [hat,kj,decide_eq_false (by omega:¬ r.arity≤12)];simp) rfl
  simp only [decide_eq_false w3,aC,ak p0,aQ,Nat.reduceAdd,Nat.reduceEqDiff,reduceIte,e1]
  rw [show (aA s)[0]?=some (.int .i64 s.size) from rfl]
  obtain ⟨k,hk⟩:∃ k:Nat,r.arity=(k:Int):=⟨r.arity.toNat,by omega⟩
  simp only [aQ,Nat.reduceAdd,Nat.reduceEqDiff,reduceIte,hn,hk]
  refine an (dz (by omega) (by omega) (show k≤cy by unfold cy;omega) ?_)
  simp only [aQ,Nat.reduceAdd,Nat.reduceEqDiff,reduceIte]
  have hat2:lI s i=(decide (n ^ k≤4096)&&tJ n k r.tuples.l&&!((s.rels.l.take i).any fun q=>q.name==r.name)):=by
   rw [hat,kj,w1,decide_eq_true (by omega:0≤r.arity),decide_eq_true (by omega:r.arity≤12),hk];simp
  by_cases w4:n ^ k≤4096
  ·simp only [EK,if_pos w4,decide_eq_false (by omega:¬ ((n ^ k:Nat):Int)<0),aC,aQ,Nat.reduceAdd,Nat.reduceEqDiff,reduceIte,ak p0,ak g1,dG (eR r),e1]
   rw [show (aA s)[0]?=some (.int .i64 s.size) from rfl]
   simp only [aQ,Nat.reduceAdd,Nat.reduceEqDiff,reduceIte,hn]
   refine an (cC hro hk ?_)
   simp only [aQ,Nat.reduceAdd,Nat.reduceEqDiff,reduceIte]
   cases w5:tJ n k r.tuples.l with
   |false=>
    simp only [Bool.not_false,aD]
    rw [hrr]
    exact bad _ _ (by rw [hat2,w5];simp) rfl
   |true=>
   simp only [Bool.not_true,aC,aQ,Nat.reduceAdd,Nat.reduceEqDiff,reduceIte,ak p0,e1]
   rw [show (aA s)[1]?=some (aq bw 3 s.rels) from rfl]
   obtain ⟨a,ha,hva⟩:=Gu eR s.rels (Nat.le_of_lt hi)
   simp only [aQ,Nat.reduceAdd,Nat.reduceEqDiff,reduceIte,ha]
   have hlt:(s.rels.l.take i).length≤cy:=by rw [List.length_take];have:=hs.1;omega
   refine an (uN (p:=fun q=>q.name==r.name) hva hlt (fun v h2 hx2 K2 hK2=>KH g1 (by omega) h2 hx2 K2 hK2) fun h2 hx2=>?_)
   simp only [aQ,Nat.reduceAdd,Nat.reduceEqDiff,reduceIte]
   cases w6:(s.rels.l.take i).any fun q=>q.name==r.name with
   |true=>
    simp only [aD]
    rw [hrr]
    exact bad _ _ (by rw [hat2,w6];simp) rfl
   |false=>
    simp only [aC,aK hi hs.1,bindO_some,e22]
    refine hnx _ _ ⟨by rw [hx2.get 0 (by omega)];exact p0,by have:=hx2.next;omega,e1,e20,e21,rfl,fun j hj=>?_⟩
    by_cases hj':j<i
    ·exact ht j hj'
    ·obtain rfl:j=i:=by omega
     rw [hat2,w5,w6,decide_eq_true w4];rfl
  ·simp only [EK,if_neg w4,decide_eq_true (by omega:(-1:Int)<0),aD]
   rw [hrr]
   exact bad _ _ (by rw [hat2,decide_eq_false w4];simp) rfl
 ·rintro e h' ⟨q0,qn,e1,e20,e21,e22,ht⟩ K' hx'
  rw [F.dg.aP]
  simp only [e21,e22,aQ,Nat.reduceAdd,Nat.reduceEqDiff,reduceIte,aR]
  rw [hx',F.dg.aG]
  exact fin _ _ (kQ ht).symm
theorem Iq{α:Type}{p:α→Bool}{l:List α}{i k:Nat}{a:α}(ha:l[i]?=some a)(hi:i<k)(hp:p a=true):(l.take k).any p=true:=by
 rw [List.any_eq_true]
 exact ⟨a,List.mem_of_getElem? (by rw [List.getElem?_take_of_lt hi];exact ha),hp⟩
theorem m7{s:dP}{i:Nat}{r:Rel}(hr:s.rels.l[i]?=some r){h:af}:aj none (.iptr (s.rels.l.flatMap bw) (i*3)) h=some (.str r.name):=by
 have:=eN (h:=h) eR hr (k:=0) (by omega)
 rw [Nat.add_zero] at this
 rw [this];rfl
theorem bU{s:dP}(hs:s.ok){h:af}{K:Out→af→Bool}(hK:K (.ret (.bool (cY s))) h=true):Sem Tryz.prog 17 [.agg (aA s)] h K:=by
 refine Sem.data (r:=.bool (cY s)) ?_ (by simp [AV.pureL,AV.pure,eT]) hK
 clear hK
 refine F.we ?_
 rw [F.yo]
 have b0:(af.alloc af.empty (.cells (aA s))).get 0=some (.cells (aA s)):=aI _ _
 simp only [cI (dD s),bindO_some,bM]
 generalize (af.alloc af.empty (.cells (aA s)))=H at b0 ⊢
 have fin:∀ (b:Bool),b=cY s→lU (.bool (cY s)) (.ret (.bool b)) H=true:=fun b hb=>by rw [hb];exact eV rfl
 generalize lU (.bool (cY s))=K at fin ⊢
 have ls:aj none (.ptr 0 0) H=some (.int .i64 s.size):=by rw [ak b0];rfl
 have lr:aj none (.ptr 0 (0+1)) H=some (aq bw 3 s.rels):=by rw [ak b0];rfl
 rw [Nat.zero_add] at lr
 simp only [aQ,Nat.reduceAdd,Nat.reduceEqDiff,reduceIte,ls,lr]
 by_cases s1:s.size<1
 ·simp only [decide_eq_true s1,aD];exact fin _ (by rw [cY,decide_eq_false (by omega:¬ 1≤s.size),Bool.false_and])
 simp only [decide_eq_false s1,aC]
 by_cases s2:64<s.size
 ·simp only [decide_eq_true s2,aD];exact fin _ (by rw [cY,decide_eq_false (by omega:¬ s.size≤64),Bool.false_and,Bool.and_false])
 simp only [decide_eq_false s2,aC]
 by_cases s3:8<s.rels.l.length
 ·simp only [decide_eq_true (by omega:(8:Int)<(s.rels.l.length:Int)),aD];exact fin _ (by rw [cY,decide_eq_false (by omega:¬ s.rels.l.length≤8),Bool.false_and,Bool.and_false,Bool.and_false])
 simp only [decide_eq_false (by omega:¬ (8:Int)<(s.rels.l.length:Int)),aC]
 replace fin:∀ (b:Bool),b=Ac (lI s) s.rels.l.length→K (.ret (.bool b)) H=true:=fun b hb=>fin b (by
  rw [cY,decide_eq_true (by omega:1≤s.size),decide_eq_true (by omega:s.size≤64),decide_eq_true (by omega:s.rels.l.length≤8)];exact hb)
 obtain ⟨n,hn⟩:∃ n:Nat,s.size=(n:Int):=⟨s.size.toNat,by omega⟩
 have hn':s.size.toNat=n:=by omega
 rw [hn] at ls
 refine aE 0 s.rels.l.length (Nat.zero_le _) (fun i e h'=>h'=H∧e 1 = .ptr 0 0∧e 3 = .int .i64 (i:Int)∧∀ j,j<i→lI s j=true) ⟨rfl,rfl,rfl,fun j hj=>by omega⟩ ?_ ?_
 ·rintro i e h' _ hi ⟨rfl,e1,e3,ht⟩ K' hnx hx' hrr hp
  have hv:s.rels.l[i]?=some s.rels.l[i]:=List.getElem?_eq_getElem hi
  generalize s.rels.l[i]=r at hv
  have hro:r.ok:=hs.2 r (List.mem_of_getElem? hv)
  have hat:lI s i=(kj n r&&!((s.rels.l.take i).any fun q=>q.name==r.name)):=by rw [lI,hv,hn']
  have bad:∀ (e:Env),lI s i=false→e 2 = .bool false→F.bU.cB K .ret ⟨e,53,[],h'⟩=true:=fun e hb he=>by
   rw [F.bU.bp,he]
   exact fin _ (gr hi hb).symm
  rw [F.bU.aP]
  simp only [e1,e3,aQ,Nat.reduceAdd,Nat.reduceEqDiff,reduceIte,ls,lr,bf hi,aT s.rels hi,FF hv]
  refine an (ew (by omega) (by omega) hro ?_)
  simp only [aQ,Nat.reduceAdd,Nat.reduceEqDiff,reduceIte]
  cases w1:kj n r with
  |false=>
   simp only [Bool.not_false,aD]
   rw [hrr]
   exact bad _ (by rw [hat,w1,Bool.false_and]) rfl
  |true=>
  simp only [Bool.not_true,aC]
  refine aE 0 i (Nat.zero_le _) (fun k e h2=>h2=h'∧e 1 = .ptr 0 0∧e 3 = .int .i64 (i:Int)∧e 4 = .int .i64 (k:Int)∧((s.rels.l.take k).any fun q=>q.name==r.name)=false) ⟨rfl,e1,e3,rfl,rfl⟩ ?_ ?_
  ·rintro k e h2 _ hk ⟨rfl,e1,e3,e4,hk2⟩ K2 hn2 hx2 hr2 hp2
   have hki:k<s.rels.l.length:=by omega
   have hvk:s.rels.l[k]?=some s.rels.l[k]:=List.getElem?_eq_getElem hki
   generalize s.rels.l[k]=q at hvk
   rw [F.bU.dc]
   simp only [e1,e3,e4,aQ,Nat.reduceAdd,Nat.reduceEqDiff,reduceIte,lr,bf hk,aT s.rels hi,aT s.rels hki,m7 hv,m7 hvk]
   cases w2:q.name==r.name with
   |true=>
    simp only [aD]
    rw [hr2,F.bU.gK,hrr]
    exact bad _ (by rw [hat,Iq hvk hk w2];simp) rfl
   |false=>
    simp only [aC,aK hk (by have:=hs.1;omega),bindO_some]
    exact hn2 _ _ ⟨rfl,e1,e3,rfl,tF hvk hk2 w2⟩
  ·rintro e h2 ⟨rfl,e1,e3,e4,hk2⟩ K2 hx2
   rw [F.bU.dc]
   simp only [e3,e4,aQ,Nat.reduceAdd,Nat.reduceEqDiff,reduceIte,aR]
   rw [hx2,F.bU.cx]
   simp only [aQ,Nat.reduceAdd,Nat.reduceEqDiff,reduceIte,e3,aK hi hs.1]
   refine hnx _ _ ⟨rfl,e1,rfl,fun j hj=>?_⟩
   by_cases hj':j<i
   ·exact ht j hj'
   ·obtain rfl:j=i:=by omega
    rw [hat,w1,hk2];rfl
 ·rintro e h' ⟨rfl,e1,e3,ht⟩ K' hx'
  rw [F.bU.aP]
  simp only [e1,e3,aQ,Nat.reduceAdd,Nat.reduceEqDiff,reduceIte,lr,aR]
  rw [hx',F.bU.aG]
  exact fin _ (kQ ht).symm
def jB(nm:bA)(k:Int)(q:Rel):Bool:=(q.name==nm)&&decide (q.arity=k)
def fZ(nm:bA)(q:Rel):Bool:=q.name==nm
theorem dU{s:dP}(hs:s.ok){nm:bA}{h:af}{K:Out→af→Bool}(hK:K (.ret (.int .i64 (jc (fZ nm) s.rels.l))) h=true):Sem Tryz.prog 54 [.agg (aA s),.str nm] h K:=by
 refine Sem.data (r:=.int .i64 (jc (fZ nm) s.rels.l)) ?_ (by simp [AV.pureL,AV.pure,eT]) hK
 clear hK
 refine F.yq ?_
 rw [F.zV]
 have b0:(af.alloc af.empty (.cells (aA s))).get 0=some (.cells (aA s)):=aI _ _
 simp only [cI (dD s),bindO_some,bM]
 generalize (af.alloc af.empty (.cells (aA s)))=H at b0 ⊢
 have fin:∀ b:Int,b=jc (fZ nm) s.rels.l→lU (.int .i64 (jc (fZ nm) s.rels.l)) (.ret (.int .i64 b)) H=true:=fun b hb=>by rw [hb];exact eV rfl
 have lr:aj none (.ptr 0 1) H=some (aq bw 3 s.rels):=by rw [ak b0];rfl
 refine aE 0 s.rels.l.length (Nat.zero_le _) (fun i e h'=>h'=H∧e 1 = .str nm∧e 2 = .ptr 0 0∧e 5 = .int .i64 (i:Int)∧jc (fZ nm) s.rels.l=pT (fZ nm) (s.rels.l.drop i) i) ⟨rfl,rfl,rfl,rfl,rfl⟩ ?_ ?_
 ·rintro i e h' _ hi ⟨rfl,e1,e2,e5,ht⟩ K' hn hx' hr hp
  have hv:s.rels.l[i]?=some s.rels.l[i]:=List.getElem?_eq_getElem hi
  generalize s.rels.l[i]=r at hv
  rw [Dv hv] at ht
  rw [F.dU.aP]
  simp only [e1,e2,e5,aQ,Nat.reduceAdd,Nat.reduceEqDiff,reduceIte,lr,bf hi,aT s.rels hi,m7 hv]
  cases hq:r.name==nm with
  |true=>
   simp only [aD]
   rw [hr,F.dU.bp]
   rw [if_pos (show fZ nm r=true from hq)] at ht
   simp only [bE,Nat.reduceEqDiff,reduceIte,e5]
   exact fin _ ht.symm
  |false=>
   simp only [aC,aK hi hs.1,bindO_some]
   rw [if_neg (by rw [fZ,hq];decide)] at ht
   exact hn _ _ ⟨rfl,e1,e2,rfl,ht⟩
 ·rintro e h' ⟨rfl,e1,e2,e5,ht⟩ K' hx'
  rw [F.dU.aP]
  simp only [e1,e2,e5,aQ,Nat.reduceAdd,Nat.reduceEqDiff,reduceIte,lr,aR]
  rw [hx',F.dU.aG]
  rw [List.drop_of_length_le (Nat.le_refl _)] at ht
  exact fin _ ht.symm
theorem Mb{b1 b2:Nat}{v:Rel}{nm:bA}{k:Int}{h:af}(g1:h.get b1=some (.cells [.str nm]))(g2:h.get b2=some (.cells [.int .i64 k]))(n1:b1<h.next)(n2:b2<h.next)(h':af)(hx:bK h h')(K:Out→af→Bool)(hK:∀ h'',bK h' h''→K (.ret (.bool (jB nm k v))) h''=true) :
  Sem Tryz.prog 141 ([]++([.agg (bw v)]++[.ptr b1 0,.ptr b2 0])) h' K:=by
 refine F.uC ?_
 rw [F.wm]
 have hx2:bK h' (af.alloc h' (.cells (bw v))):=bK.alloc _ _
 have g0:(af.alloc h' (.cells (bw v))).get h'.next=some (.cells (bw v)):=aI _ _
 have q1:(af.alloc h' (.cells (bw v))).get b1=some (.cells [.str nm]):=by rw [hx2.get b1 (Nat.lt_of_lt_of_le n1 hx.next),hx.get b1 n1];exact g1
 have q2:(af.alloc h' (.cells (bw v))).get b2=some (.cells [.int .i64 k]):=by rw [hx2.get b2 (Nat.lt_of_lt_of_le n2 hx.next),hx.get b2 n2];exact g2
 simp only [cI (fP v),bindO_some]
 generalize (af.alloc h' (.cells (bw v)))=H at g0 q1 q2 hx2 ⊢
 simp only [aQ,Nat.reduceAdd,Nat.reduceEqDiff,reduceIte,ak g0,ak q1,ak q2]
 rw [show (bw v)[0]?=some (.str v.name) from rfl,show (bw v)[1]?=some (.int .i64 v.arity) from rfl]
 simp only [aQ,Nat.reduceAdd,Nat.reduceEqDiff,reduceIte,ct]
 have:=hK _ hx2
 unfold jB at this
 cases hq:v.name==nm with
 |true=>simp only [aD];rw [hq,Bool.true_and] at this;exact this
 |false=>simp only [aC];rw [hq,Bool.false_and] at this;exact this
theorem ze{s:dP}(hs:s.ok){nm:bA}{k:Int}{h:af}{K:Out→af→Bool}(hK:K (.ret (.int .i64 (jc (jB nm k) s.rels.l))) h=true):Sem Tryz.prog 88 [.agg (aA s),.str nm,.int .i64 k] h K:=by
 refine Sem.data (r:=.int .i64 (jc (jB nm k) s.rels.l)) ?_ (by simp [AV.pureL,AV.pure,eT]) hK
 clear hK
 refine F.yu ?_
 rw [F.zX]
 simp only [cI (dD s),ny (x:=.int .i64 _) rfl,ny (x:=.str _) rfl,bindO_some,bM,af.next_alloc]
 have g0:(af.alloc (af.alloc (af.alloc af.empty (.cells (aA s))) (.cells [.str nm])) (.cells [.int .i64 k])).get 0=some (.cells (aA s)):=by simp [af.aX,bM]
 have g1:(af.alloc (af.alloc (af.alloc af.empty (.cells (aA s))) (.cells [.str nm])) (.cells [.int .i64 k])).get 1=some (.cells [.str nm]):=by simp [af.aX,bM]
 have g2:(af.alloc (af.alloc (af.alloc af.empty (.cells (aA s))) (.cells [.str nm])) (.cells [.int .i64 k])).get 2=some (.cells [.int .i64 k]):=by simp [af.aX,bM]
 have gn:(af.alloc (af.alloc (af.alloc af.empty (.cells (aA s))) (.cells [.str nm])) (.cells [.int .i64 k])).next=3:=rfl
 generalize (af.alloc (af.alloc (af.alloc af.empty (.cells (aA s))) (.cells [.str nm])) (.cells [.int .i64 k]))=H at g0 g1 g2 gn ⊢
 have lr:aj none (.ptr 0 1) H=some (aq bw 3 s.rels):=by rw [ak g0];rfl
 simp only [aQ,Nat.reduceAdd,Nat.reduceEqDiff,reduceIte,lr]
 refine an (rA (Ip eR s.rels) hs.1 (p:=jB nm k) (fun v h2 hx2 K2 hK2=>Mb g1 g2 (by omega) (by omega) h2 hx2 K2 hK2) fun h2 hx2=>?_)
 simp only [aQ,Nat.reduceAdd,Nat.reduceEqDiff,reduceIte]
 exact eV rfl
theorem pU{s:dP}{i:Nat}{r:Rel}(hr:s.rels.l[i]?=some r){h:af}:aj none (.iptr (s.rels.l.flatMap bw) (i*3+2)) h=some (aq ey 1 r.tuples):=by
 rw [eN eR hr (by omega)];rfl
theorem bP{s:dP}(hs:s.ok){b:Nat}{h:af}(hb:h.get b=some (.cells (aA s))){K:Out→af→Bool}(hK:∀ x,K (.ret (.bool x)) h=true):Sem Tryz.prog 43 [.slice b 0 1 2] h K:=by
 refine F.zT ?_
 rw [F.BQ]
 have lr:aj none (.ptr b 1) h=some (aq bw 3 s.rels):=by rw [ak hb];rfl
 have ia:dx 2 (.slice b 0 1 2) (.int .i64 ((0:Nat):Int))=some (.ptr b 0):=rfl
 have hl:∀ h:af,bR .slice (.slice b 0 1 2) h=some (.int .i64 ((1:Nat):Int)):=fun _=>rfl
 have num:∀ e:Env,(∃ x:Int,e 4 = .int .i64 x)→F.bP.cB K (.exit 0) ⟨e,89,[],h⟩=true:=fun e ⟨x,hx⟩=>by
  rw [F.bP.aG]
  simp only [hx,aQ,Nat.reduceAdd,Nat.reduceEqDiff,reduceIte]
  exact hK _
 refine aE 0 1 (Nat.zero_le _) (fun i e h'=>h'=h∧e 0 = .slice b 0 1 2∧(∃ x:Int,e 3 = .int .i64 x)∧(∃ x:Int,e 4 = .int .i64 x)∧e 5 = .int .i64 (i:Int)) ⟨rfl,rfl,⟨0,rfl⟩,⟨0,rfl⟩,rfl⟩ ?_ ?_
 ·rintro i e h' _ hi ⟨rfl,e0,e3,e4,e5⟩ K' hn hx hr hp
  obtain rfl:i=0:=by omega
  rw [F.bP.aP]
  simp only [e0,e5,hl,ia,lr,aQ,Nat.reduceAdd,Nat.reduceEqDiff,reduceIte,bf hi]
  by_cases q1:12<s.rels.l.length
  ·simp only [decide_eq_true (by omega:(12:Int)<(s.rels.l.length:Int)),aD]
   rw [hr,F.bP.bp]
   simp only [bE,Nat.reduceEqDiff,reduceIte]
   exact hK _
  simp only [decide_eq_false (by omega:¬ (12:Int)<(s.rels.l.length:Int)),aC]
  refine aE 0 s.rels.l.length (Nat.zero_le _) (fun k e h2=>h2=h'∧e 0 = .slice b 0 1 2∧(∃ x:Int,e 3 = .int .i64 x)∧(∃ x:Int,e 4 = .int .i64 x)∧e 5 = .int .i64 ((0:Nat):Int)∧e 6 = .int .i64 (k:Int)) ⟨rfl,e0,e3,e4,e5,rfl⟩ ?_ ?_
  ·rintro k e h2 _ hk ⟨rfl,e0,⟨x3,e3⟩,e4,e5,e6⟩ K2 hn2 hx2 hr2 hp2
   have hv:s.rels.l[k]?=some s.rels.l[k]:=List.getElem?_eq_getElem hk
   generalize s.rels.l[k]=r at hv
   have hro:r.ok:=hs.2 r (List.mem_of_getElem? hv)
   obtain ⟨y,hy⟩:=HQ x3 (r.tuples.l.length:Int)
   have ret:∀ e:Env,e 2 = .bool false→F.bP.jj K' .ret ⟨e,89,[],h2⟩=true:=fun e he=>by
    rw [F.bP.gK,hr,F.bP.bp,he]
    exact hK _
   rw [F.bP.dc]
   simp only [e0,e3,e5,e6,ia,lr,aQ,Nat.reduceAdd,Nat.reduceEqDiff,reduceIte,bf hk,aT s.rels hk,pU hv,m7 hv,hy]
   cases decide ((1500:Int)<y) with
   |true=>
    simp only [aD]
    rw [hr2]
    exact ret _ rfl
   |false=>
   simp only [aC]
   cases decide ((1000:Int)<(r.name.length:Int)) with
   |true=>
    simp only [aD]
    rw [hr2]
    exact ret _ rfl
   |false=>
   simp only [aC]
   refine aE 0 r.tuples.l.length (Nat.zero_le _) (fun j e h3=>h3=h2∧e 0 = .slice b 0 1 2∧(∃ x:Int,e 3 = .int .i64 x)∧(∃ x:Int,e 4 = .int .i64 x)∧e 5 = .int .i64 ((0:Nat):Int)∧e 6 = .int .i64 (k:Int)∧e 7 = .int .i64 (j:Int)) ⟨rfl,e0,⟨y,rfl⟩,e4,e5,e6,rfl⟩ ?_ ?_
   ·rintro j e h3 _ hj ⟨rfl,e0,e3,⟨x4,e4⟩,e5,e6,e7⟩ K3 hn3 hx3 hr3 hp3
    have ht:r.tuples.l[j]?=some r.tuples.l[j]:=List.getElem?_eq_getElem hj
    generalize r.tuples.l[j]=t at ht
    obtain ⟨z,hz⟩:=HQ x4 (t.l.length:Int)
    rw [F.bP.jF]
    simp only [e0,e4,e5,e6,e7,ia,lr,aQ,Nat.reduceAdd,Nat.reduceEqDiff,reduceIte,aT s.rels hk,pU hv,bf hj,aT r.tuples hj,iC ht,hz,aK hj hro.2.1]
    exact hn3 _ _ ⟨rfl,e0,e3,⟨z,rfl⟩,e5,e6,rfl⟩
   ·rintro e h3 ⟨rfl,e0,e3,e4,e5,e6,e7⟩ K3 hx3
    rw [F.bP.jF]
    simp only [e0,e5,e6,e7,ia,lr,aQ,Nat.reduceAdd,Nat.reduceEqDiff,reduceIte,aT s.rels hk,pU hv,aR]
    rw [hx3,F.bP.fV]
    simp only [aQ,Nat.reduceAdd,Nat.reduceEqDiff,reduceIte,e6,aK hk hs.1]
    exact hn2 _ _ ⟨rfl,e0,e3,e4,e5,rfl⟩
  ·rintro e h2 ⟨rfl,e0,e3,e4,e5,e6⟩ K2 hx2
   rw [F.bP.dc]
   simp only [e0,e5,e6,ia,lr,aQ,Nat.reduceAdd,Nat.reduceEqDiff,reduceIte,aR]
   rw [hx2,F.bP.cx]
   simp only [aQ,Nat.reduceAdd,Nat.reduceEqDiff,reduceIte,e5,aK hi (show (1:Nat)≤cy by unfold cy;omega)]
   exact hn _ _ ⟨rfl,e0,e3,e4,rfl⟩
 ·rintro e h' ⟨rfl,e0,e3,e4,e5⟩ K' hx
  rw [F.bP.aP]
  simp only [e0,e5,hl,aQ,Nat.reduceAdd,Nat.reduceEqDiff,reduceIte,aR]
  rw [hx]
  exact num _ e4
theorem Own.pV{α:Type}{enc:α→List AV}{sz k:Nat}{h:af}{a:AV}{l:List α}(o:Own enc sz k h a l):bq (AV.dh a)=true∧(AV.dh a).length=1∧AV.dh a = [a]:=by cases o<;>exact ⟨rfl,rfl,rfl⟩
def wF(s:dP)(y:bA×Int):Bool:=match s.rels.l.find? (fZ y.1) with
 |some r=>decide (r.arity=y.2)
 |none=>false
theorem zf{α:Type}(p:α→Bool):∀ (l:List α) (i:Nat),(pT p l i = -1∧l.find? p=none)∨∃ (j:Nat) (v:α),pT p l i=((i+j:Nat):Int)∧l[j]?=some v∧l.find? p=some v
 |[],i=>.inl ⟨rfl,rfl⟩
 |x :: l,i=>by
  rw [pT,List.find?_cons]
  cases hp:p x with
  |true=>exact .inr ⟨0,x,by simp,rfl,rfl⟩
  |false=>
   simp only [Bool.false_eq_true,if_false]
   rcases zf p l (i+1) with ⟨h1,h2⟩|⟨j,v,h1,h2,h3⟩
   ·exact .inl ⟨h1,h2⟩
   ·exact .inr ⟨j+1,v,by rw [h1];congr 1;omega,by simpa using h2,h3⟩
theorem mq{α:Type}(p:α→Bool)(l:List α):(jc p l = -1∧l.find? p=none)∨∃ (j:Nat) (v:α),jc p l=(j:Int)∧l[j]?=some v∧l.find? p=some v:=by
 rcases zf p l 0 with h|⟨j,v,h1,h2,h3⟩
 ·exact .inl h
 ·exact .inr ⟨j,v,by rw [jc,h1,Nat.zero_add],h2,h3⟩
theorem uO{s:dP}{i:Nat}{r:Rel}(hr:s.rels.l[i]?=some r){h:af}:aj none (.iptr (s.rels.l.flatMap bw) (i*3+1)) h=some (.int .i64 r.arity):=by
 rw [eN eR hr (by omega)];rfl
theorem Pf{x:Sl (bA×Int)}{i:Nat}{y:bA×Int}(hy:x.l[i]?=some y){h:af}:aj none (.iptr (x.l.flatMap kg) (i*2)) h=some (.str y.1):=by
 have:=eN (h:=h) lG hy (k:=0) (by omega)
 rw [Nat.add_zero] at this
 rw [this];rfl
theorem Mc{x:Sl (bA×Int)}{i:Nat}{y:bA×Int}(hy:x.l[i]?=some y){h:af}:aj none (.iptr (x.l.flatMap kg) (i*2+1)) h=some (.int .i64 y.2):=by
 rw [eN lG hy (by omega)];rfl
theorem Gv(y:bA×Int):AV.pureL (kg y)=true:=rfl
theorem dS{s:dP}(hs:s.ok){x:Sl (bA×Int)}(hx:x.l.length≤cy){h:af}{K:Out→af→Bool}(hK:K (.ret (.bool (x.l.all (wF s)))) h=true):Sem Tryz.prog 52 [.agg (aA s),aq kg 2 x] h K:=by
 refine Sem.data (r:=.bool (x.l.all (wF s))) ?_ (by simp [AV.pureL,AV.pure,eT,cj Gv]) hK
 clear hK
 refine F.yp ?_
 rw [F.zU]
 have b0:(af.alloc af.empty (.cells (aA s))).get 0=some (.cells (aA s)):=aI _ _
 simp only [cI (dD s),bindO_some,bM]
 generalize (af.alloc af.empty (.cells (aA s)))=H at b0 ⊢
 have fin:∀ b:Bool,b=x.l.all (wF s)→lU (.bool (x.l.all (wF s))) (.ret (.bool b)) H=true:=fun b hb=>by rw [hb];exact eV rfl
 have lr:aj none (.ptr 0 1) H=some (aq bw 3 s.rels):=by rw [ak b0];rfl
 have lw:aj (some 2) (.ptr 0 0) H=some (.agg (aA s)):=by rw [ak b0,dG (cs:=aA s) (n:=2) rfl]
 refine aE 0 x.l.length (Nat.zero_le _) (fun i e h'=>h'=H∧e 1=aq kg 2 x∧e 2 = .ptr 0 0∧e 5 = .int .i64 (i:Int)∧(x.l.take i).all (wF s)=true) ⟨rfl,rfl,rfl,rfl,rfl⟩ ?_ ?_
 ·rintro i e h' _ hi ⟨rfl,e1,e2,e5,ht⟩ K' hn hx' hr hp
  have hv:x.l[i]?=some x.l[i]:=List.getElem?_eq_getElem hi
  generalize x.l[i]=y at hv
  rw [F.dS.aP]
  simp only [e1,e2,e5,aQ,Nat.reduceAdd,Nat.reduceEqDiff,reduceIte,lw,bf hi,aT x hi,Pf hv]
  refine an (dU hs ?_)
  simp only [aQ,Nat.reduceAdd,Nat.reduceEqDiff,reduceIte]
  rcases mq (fZ y.1) s.rels.l with ⟨h1,h2⟩|⟨j,r,h1,h2,h3⟩
  ·rw [h1]
   simp only [show decide ((-1:Int)<0)=true from rfl,aD]
   rw [hr,F.dS.bp]
   simp only [bE,Nat.reduceEqDiff,reduceIte]
   exact fin _ (all_false hv (by rw [wF,h2])).symm
  ·rw [h1]
   have hj:j<s.rels.l.length:=(List.getElem?_eq_some_iff.1 h2).1
   simp only [decide_eq_false (by omega:¬ ((j:Int)<0)),aC,aQ,Nat.reduceAdd,Nat.reduceEqDiff,reduceIte,e1,e2,e5,lr,aT s.rels hj,uO h2,aT x hi,Mc hv,ct]
   by_cases hq:r.arity=y.2
   ·simp only [decide_eq_true hq,Bool.not_true,aC,aK hi hx,bindO_some]
    exact hn _ _ ⟨rfl,e1,e2,rfl,gz hv ht (by rw [wF,h3];exact decide_eq_true hq)⟩
   ·simp only [decide_eq_false hq,Bool.not_false,aD]
    rw [hr,F.dS.bp]
    simp only [bE,Nat.reduceEqDiff,reduceIte]
    exact fin _ (all_false hv (by rw [wF,h3];exact decide_eq_false hq)).symm
 ·rintro e h' ⟨rfl,e1,e2,e5,ht⟩ K' hx'
  rw [F.dS.aP]
  simp only [e1,e5,aQ,Nat.reduceAdd,Nat.reduceEqDiff,reduceIte,aR]
  rw [hx',F.dS.aG]
  rw [List.take_of_length_le (Nat.le_refl _)] at ht
  exact fin _ ht.symm
theorem Ms(s:St):eL Tryz.prog s Tryz.f162.results.toList=(match aj (some 3) (s.env 8) s.h,(some []:Option (List AV)) with|some v,some vs=>some (v :: vs)|_,_=>none):=by kernel_rfl
theorem zg{s:dP}(hv:cY s=true){i:Nat}{r:Rel}(hr:s.rels.l[i]?=some r):kj s.size.toNat r=true:=by
 simp only [cY,Bool.and_eq_true] at hv
 have:=tN hv.2.2.2 (List.getElem?_eq_some_iff.1 hr).1
 rw [lI,hr] at this
 simp only [Bool.and_eq_true] at this
 exact this.1
theorem qD{s:dP}(hv:cY s=true):∃ n:Nat,s.size=(n:Int)∧1≤n∧n≤64∧s.rels.l.length≤8:=by
 simp only [cY,Bool.and_eq_true,decide_eq_true_eq] at hv
 exact ⟨s.size.toNat,by omega,by omega,by omega,hv.2.2.1⟩
theorem B1{n:Nat}{r:Rel}(h:kj n r=true):∃ k:Nat,r.arity=(k:Int)∧k≤12∧n ^ k≤4096∧tJ n k r.tuples.l=true:=by
 simp only [kj,Bool.and_eq_true,decide_eq_true_eq] at h
 exact ⟨r.arity.toNat,by omega,by omega,h.2.2.2.1,h.2.2.2.2⟩
theorem r8{s:dP}(hv:cY s=true):(s.rels.l.map Rel.name).Nodup:=by
 simp only [cY,Bool.and_eq_true] at hv
 unfold List.Nodup
 rw [List.pairwise_iff_getElem]
 intro i j hi hj hij e
 rw [List.length_map] at hi hj
 have:=tN hv.2.2.2 hj
 rw [lI,List.getElem?_eq_getElem hj] at this
 simp only [Bool.and_eq_true,Bool.not_eq_true'] at this
 rw [List.getElem_map,List.getElem_map] at e
 have h2:=Iq (p:=fun q:Rel=>q.name==s.rels.l[j].name) (List.getElem?_eq_getElem hi) hij (by simpa using e)
 rw [h2] at this
 cases this.2
theorem AZ:∀ {l:List Rel},(l.map Rel.name).Nodup→∀ (nm:bA) (k:Int),l.find? (jB nm k)=match l.find? (fZ nm) with
  |some r=>if r.arity=k then some r else none
  |none=>none
 |[],_,nm,k=>rfl
 |q :: l,hn,nm,k=>by
  rw [List.map_cons,List.nodup_cons] at hn
  rw [List.find?_cons,List.find?_cons]
  cases hq:fZ nm q with
  |true=>
   have hq':q.name==nm:=hq
   simp only
   by_cases ha:q.arity=k
   ·have:jB nm k q=true:=by rw [jB,hq',decide_eq_true ha];rfl
    rw [this,if_pos ha]
   ·have:jB nm k q=false:=by rw [jB,decide_eq_false ha,Bool.and_false]
    rw [this,if_neg ha]
    simp only
    rw [List.find?_eq_none]
    intro r hr hs
    simp only [jB,Bool.and_eq_true,beq_iff_eq] at hs hq'
    exact hn.1 (by rw [hq',← hs.1];exact List.mem_map_of_mem hr)
  |false=>
   have hq':(q.name==nm)=false:=hq
   have:jB nm k q=false:=by rw [jB,hq',Bool.false_and]
   rw [this]
   exact AZ hn.2 nm k
theorem Dw{s:dP}(hv:cY s=true)(y:bA×Int):wF s y=(s.rels.l.find? (jB y.1 y.2)).isSome:=by
 rw [AZ (r8 hv),wF]
 cases s.rels.l.find? (fZ y.1) with
 |none=>rfl
 |some r=>
  simp only
  by_cases h:r.arity=y.2
  ·rw [if_pos h,decide_eq_true h];rfl
  ·rw [if_neg h,decide_eq_false h];rfl
theorem KI(l:List Int):bq (l.map iv)=true:=by
 induction l with
 |nil=>rfl
 |cons a l ih=>simp only [List.map_cons,bq,ih,Bool.and_true];rfl
theorem A0{h:af}{src:AV}{l:List Int}(r:Row encI 1 (h.alloc (.cells [])) src l)(hl:l.length≤1000000) :
  ∃ b h',cq 1 8 (.slice h.next 0 0 1) src (h.alloc (.cells []))=some (.slice b 0 l.length 1,h')∧h'.get b=some (.cells (l.map iv))∧bK h h'∧h.next≤b∧b<h'.next:=by
 have hm:cZ=140737488355328:=rfl
 have g:(h.alloc (.cells [])).get h.next=some (.cells []):=aI _ _
 have rc:=r.cells
 rw [← pe] at rc
 by_cases hz:l.length=0
 ·have:l = []:=List.eq_nil_of_length_eq_zero hz
  subst this
  refine ⟨h.next,h.alloc (.cells []),?_,g,bK.alloc _ _,Nat.le_refl _,Nat.lt_succ_self _⟩
  simp only [List.length_nil] at rc
  simp [cq,r.len,rc]
 ·refine ⟨h.next+1,((h.alloc (.cells [])).set h.next .dead).alloc (.cells (l.map iv)),?_,?_,?_,by omega,?_⟩
  ·simp only [cq,r.len,rc,if_true,if_neg hz,g]
   rw [if_pos (by simp [KI];omega)]
   simp [af.next_set,af.next_alloc]
  ·have:=aI ((h.alloc (.cells [])).set h.next .dead) (.cells (l.map iv))
   rwa [af.next_set,af.next_alloc] at this
  ·exact ((bK.alloc h (.cells [])).set (Nat.le_refl _) _).trans (bK.alloc _ _)
  ·rw [af.next_alloc,af.next_set,af.next_alloc];omega
def KJ(n:Nat)(t:List Int):List (List Int):=(List.range n).map fun (x:Nat)=>t++[(x:Int)]
def stepT(n:Nat)(out:List (List Int)):List (List Int):=out.flatMap (KJ n)
def Dx(n:Nat):Nat→List (List Int)
 |0=>[[]]
 |k+1=>stepT n (Dx n k)
theorem zh(n:Nat)(t:List Int):(KJ n t).length=n:=by simp [KJ]
theorem uQ{n:Nat}:∀ {out:List (List Int)} {r x:Nat} {t:List Int},out[r]?=some t→x<n→(stepT n out)[r*n+x]?=some (t++[(x:Int)])
 |[],r,x,t,h,_=>by simp at h
 |u :: out,0,x,t,h,hx=>by
  simp at h;subst h
  rw [stepT,List.flatMap_cons,Nat.zero_mul,Nat.zero_add,List.getElem?_append_left (by rw [zh];exact hx)]
  simp [KJ,List.getElem?_range hx]
 |u :: out,r+1,x,t,h,hx=>by
  rw [stepT,List.flatMap_cons,List.getElem?_append_right (by rw [zh,Nat.succ_mul];omega),zh]
  have:(r+1)*n+x-n=r*n+x:=by rw [Nat.succ_mul];omega
  rw [this]
  exact uQ (out:=out) (by simpa using h) hx
theorem KK{n:Nat}{t:List Int}{x:Nat}(ht:gd n t=true)(hx:x<n):gd n (t++[(x:Int)])=true:=by
 unfold gd at ht ⊢
 rw [List.all_append,ht]
 simp;omega
theorem A1{n:Nat}(hn:1≤n):∀ (k r:Nat),r<n ^ k→∃ t,(Dx n k)[r]?=some t∧t.length=k∧gd n t=true∧jH n t=r
 |0,r,h=>by
  obtain rfl:r=0:=by simp at h;omega
  exact ⟨[],rfl,rfl,rfl,rfl⟩
 |k+1,r,h=>by
  have hr:r/n<n ^ k:=Nat.div_lt_of_lt_mul (by rw [Nat.mul_comm,← Nat.pow_succ];exact h)
  have hx:r%n<n:=Nat.mod_lt _ hn
  obtain ⟨t,h1,h2,h3,h4⟩:=A1 hn k (r/n) hr
  refine ⟨t++[((r%n:Nat):Int)],?_,by simp [h2],KK h3 hx,?_⟩
  ·have:=uQ (n:=n) h1 hx
   rw [Dx]
   rwa [Nat.div_add_mod' r n] at this
  ·unfold jH at h4 ⊢
   rw [pJ,h4]
   simp only [oy,Int.toNat_natCast]
   exact Nat.div_add_mod' r n
theorem Dy{n:Nat}:∀ (a b:List Int) (r s:Nat),a.length=b.length→gd n a=true→gd n b=true→oy n a r=oy n b s→a=b∧r=s
 |[],[],r,s,_,_,_,h=>⟨rfl,h⟩
 |x :: a,y :: b,r,s,hl,ha,hb,h=>by
  simp only [gd,List.all_cons,Bool.and_eq_true,Bool.not_eq_true',decide_eq_false_iff_not] at ha hb
  obtain ⟨e1,e2⟩:=Dy a b _ _ (by simpa using hl) (by unfold gd;simpa using ha.2) (by unfold gd;simpa using hb.2) h
  subst e1
  have hn:0<n:=by omega
  have hx:x.toNat<n:=by omega
  have hy:y.toNat<n:=by omega
  have h1:r=s:=by
   have q1:(r*n+x.toNat)/n=r:=by rw [Nat.mul_comm,Nat.mul_add_div hn,Nat.div_eq_of_lt hx];rfl
   have q2:(s*n+y.toNat)/n=s:=by rw [Nat.mul_comm,Nat.mul_add_div hn,Nat.div_eq_of_lt hy];rfl
   rw [← q1,← q2,e2]
  subst h1
  exact ⟨by congr 1;omega,rfl⟩
theorem KL{n:Nat}{a b:List Int}(hl:a.length=b.length)(ha:gd n a=true)(hb:gd n b=true)(h:jH n a=jH n b):a=b:=(Dy a b 0 0 hl ha hb h).1
theorem A2:fE [] [] []=some []:=rfl
theorem Pg(p:PB):fE [.nils] [(0,1)] [.slice p.1 0 p.2.length 1]=some (Gm p):=rfl
theorem ei{x:Sl (Sl Int)}(hx:x.l.length≤1000000)(ht:∀ t ∈ x.l,t.l.length≤1000000){h:af}{K:Out→af→Bool}(hK:∀ y:Sl (Sl Int),y.l.map Sl.l=x.l.map Sl.l→K (.ret (aq ey 1 y)) h=true):Sem Tryz.prog 119 [aq ey 1 x] h K:=by
 have hm:cZ=140737488355328:=rfl
 have hbig:x.l.length≤cy:=by unfold cy;omega
 have main:Sem Tryz.prog 119 [aq ey 1 x] af.empty (fun o h'=>yes (∃ v,∃ y:Sl (Sl Int),o = .ret v∧y.l.map Sl.l=x.l.map Sl.l∧Fz true h' v (aq ey 1 y))):=by
  refine F.uE ?_
  rw [F.wo]
  refine aE 0 x.l.length (Nat.zero_le _) (fun i e h'=>∃ a ps,yS 0 h' a ps∧ps.map (·.2)=(x.l.take i).map Sl.l∧e 0=aq ey 1 x∧e 3=a∧e 4 = .int .i64 (i:Int)) ⟨_,_,.nil _ _,rfl,rfl,rfl,rfl⟩ ?_ ?_
  ·rintro i e h' _ hi ⟨a,ps,nst,hps,e0,e3,e4⟩ K' hn hx' hr hp
   have hv:x.l[i]?=some x.l[i]:=List.getElem?_eq_getElem hi
   generalize x.l[i]=t at hv
   have htl:=ht t (List.mem_of_getElem? hv)
   have hpl:ps.length=i:=by have:=congrArg List.length hps;rw [List.length_map,List.length_map,List.length_take,Nat.min_eq_left (by omega)] at this;exact this
   obtain ⟨b,h5,a5,g5,x5,l5,m5⟩:=A0 (wZ lu t (h'.alloc (.cells []))) htl
   have nst5:=nst.ext x5
   obtain ⟨a6,h6,e6,nst6,_⟩:=nst5.push (Nat.zero_le _) (by rw [hm];omega) (b,t.l) (Nat.zero_le _) m5 (fun hb=>by have:=nst.own.lt hb;simp only at this;omega) g5
   rw [F.ei.aP]
   simp only [e0,e3,e4,aQ,Nat.reduceAdd,Nat.reduceEqDiff,reduceIte,bf hi,A2,aT x hi,iC hv,a5,Pg (b,t.l),e6,aK hi hbig]
   exact hn _ _ ⟨_,_,nst6,by rw [List.map_append,hps,List.take_add_one,hv,List.map_append];rfl,e0,rfl,rfl⟩
  ·rintro e h' ⟨a,ps,nst,hps,e0,e3,e4⟩ K' hx'
   rw [F.ei.aP]
   simp only [e0,e4,aQ,Nat.reduceAdd,Nat.reduceEqDiff,reduceIte,aR]
   rw [hx',F.ei.aG]
   simp only [bE,Nat.reduceEqDiff,reduceIte,e3]
   obtain ⟨y,hy1,hy2⟩:=nst.tV (old:=true)
   exact cz.2 ⟨a,y,rfl,by rw [hy1,hps,List.take_of_length_le (Nat.le_refl _)],hy2⟩
 refine main.frozen (by simp [AV.pureL,cj mW]) fun o h' ho=>?_
 obtain ⟨v,y,rfl,hy,hf⟩:=cz.1 ho
 exact ⟨v,_,rfl,hf,hK y hy⟩
structure dP.small (s:dP):Prop where
 rels:s.rels.l.length≤1000
 tups:∀ r ∈ s.rels.l,r.tuples.l.length≤10000
 tup:∀ r ∈ s.rels.l,∀ t ∈ r.tuples.l,t.l.length≤1000
theorem dP.small.Qr{s:dP}(hs:s.small):s.rels.l.length≤cy:=by have:=hs.rels;unfold cy;omega
theorem KM(nm:bA)(k:Int)(y:Sl (Sl Int)):jo [.str [],.int .i64 0,.nils] [(0,1),(1,1),(2,1)] [.str nm,.int .i64 k,aq ey 1 y]=some (.agg (bw ⟨nm,k,y⟩)):=by cases y<;>rfl
theorem FG(r:Rel):fE [.str [],.int .i64 0,.nils] [(0,3)] [.agg (bw r)]=some (bw r):=by
 obtain ⟨nm,k,y⟩:=r
 cases y<;>rfl
theorem Ir(s:St):eL Tryz.prog s Tryz.f61.results.toList=(match aj (some 2) (s.env 2) s.h,(some []:Option (List AV)) with|some v,some vs=>some (v :: vs)|_,_=>none):=by kernel_rfl
theorem eY{s:dP}(hs:s.small){h:af}{K:Out→af→Bool}(hK:∀ a h' rs,bK h h'→Own bw 3 h.next h' a rs→rs.map eM=s.rels.l.map eM→K (.ret (.agg [.int .i64 s.size,a])) h'=true):Sem Tryz.prog 61 [.agg (aA s)] h K:=by
 have hm:cZ=140737488355328:=rfl
 refine F.yz ?_
 rw [F.z6]
 simp only [cI (dD s),bindO_some,af.next_alloc]
 have g0:(af.alloc (af.alloc h (.cells (aA s))) (.cells [.int .i64 0,.nils])).get h.next=some (.cells (aA s)):=by rw [af.aX,af.next_alloc,if_neg (by omega)];exact aI _ _
 have g1:(af.alloc (af.alloc h (.cells (aA s))) (.cells [.int .i64 0,.nils])).get (h.next+1)=some (.cells [.int .i64 0,.nils]):=aI _ _
 have gn:(af.alloc (af.alloc h (.cells (aA s))) (.cells [.int .i64 0,.nils])).next=h.next+2:=rfl
 have gx:bK h (af.alloc (af.alloc h (.cells (aA s))) (.cells [.int .i64 0,.nils])):=(bK.alloc _ _).trans (bK.alloc _ _)
 generalize (af.alloc (af.alloc h (.cells (aA s))) (.cells [.int .i64 0,.nils]))=H1 at g0 g1 gn gx ⊢
 have lz:aj none (.ptr h.next 0) H1=some (.int .i64 s.size):=by rw [ak g0];rfl
 have ha:jo [.int .i64 0,.nils] [(0,1)] [.int .i64 s.size]=some (.agg [.int .i64 s.size,.nils]):=rfl
 obtain ⟨H2,hs2,p2,po,pn⟩:=cJ (h:=H1) (zs:=[.int .i64 0,.nils]) (cs:=[.int .i64 s.size,.nils]) (n:=2) rfl rfl rfl
 rw [gn] at p2 po pn hs2
 have p0:H2.get h.next=some (.cells (aA s)):=by rw [po _ (by omega)];exact g0
 have p1:H2.get (h.next+1)=some (.cells [.int .i64 0,.nils]):=by rw [po _ (by omega)];exact g1
 have px:bK h H2:=⟨by omega,fun b hb=>by rw [po _ (by omega)];exact gx.get b hb⟩
 simp only [aQ,Nat.reduceAdd,Nat.reduceEqDiff,reduceIte,lz,ha,gn,hs2]
 refine aE 0 s.rels.l.length (Nat.zero_le _) (fun i e h'=>∃ a rs,h'.get h.next=some (.cells (aA s))∧h'.get (h.next+1)=some (.cells [.int .i64 0,.nils])∧h'.get (h.next+2)=some (.cells [.int .i64 s.size,a])∧Own bw 3 (h.next+3) h' a rs∧rs.map eM=(s.rels.l.take i).map eM∧bK h h'∧h.next+3≤h'.next ∧
  e 1 = .ptr h.next 0∧e 2 = .ptr (h.next+1) 0∧e 3 = .ptr (h.next+2) 0∧e 4 = .int .i64 (i:Int)) ⟨_,[],p0,p1,p2,.nil,rfl,px,by omega,rfl,rfl,rfl,rfl⟩ ?_ ?_
 ·rintro i e h' _ hi ⟨a,rs,q0,q1,q2,o,hrs,qx,qn,e1,e2,e3,e4⟩ K' hn hx' hr hp
  have hv:s.rels.l[i]?=some s.rels.l[i]:=List.getElem?_eq_getElem hi
  generalize s.rels.l[i]=r at hv
  have hrm:=List.mem_of_getElem? hv
  have lr:aj none (.ptr h.next 1) h'=some (aq bw 3 s.rels):=by rw [ak q0];rfl
  have lo:aj none (.ptr (h.next+2) 1) h'=some a:=by rw [ak q2];rfl
  have hrl:rs.length=i:=by have:=congrArg List.length hrs;rw [List.length_map,List.length_map,List.length_take,Nat.min_eq_left (by omega)] at this;exact this
  rw [F.eY.aP]
  simp only [e1,e3,e4,aQ,Nat.reduceAdd,Nat.reduceEqDiff,reduceIte,lr,lo,bf hi,aT s.rels hi,m7 hv,uO hv,pU hv]
  refine an (ei (by have:=hs.tups r hrm;omega) (fun t ht=>by have:=hs.tup r hrm t ht;omega) fun y hy=>?_)
  obtain ⟨a5,h5,p5,o5,f5,n5,x5,b5⟩:=o.push eR fP (by omega) (bytes:=48) (by have:=hs.rels;rw [hm];omega) ⟨r.name,r.arity,y⟩
  have hne:dQ a≠some (h.next+2):=fun hb=>by have:=o.ge hb;omega
  have s2:h5.get (h.next+2)=some (.cells [.int .i64 s.size,a]):=by rw [f5 _ (by omega) hne];exact q2
  have c5:=o5.pV
  have st:bH 1 (.ptr (h.next+2) 1) a5 h5=some (h5.set (h.next+2) (.cells [.int .i64 s.size,a5])):=by
   rw [dr (n:=1) s2 c5.2.1 c5.1 (by simp),c5.2.2];rfl
  simp only [outK_ret,lr,lo,m7 hv,uO hv,bindO_some,AV.beq_refl,Bool.and_self,if_true,KM,FG,p5,bindO2_some,e3,e4,HF,Nat.zero_add,st,aK hi hs.Qr]
  refine hn _ _ ⟨a5,rs++[⟨r.name,r.arity,y⟩],?_,?_,?_,o5.mF (by omega) _,?_,?_,by rw [af.next_set];omega,e1,e2,e3,rfl⟩
  ·rw [af.aS,if_neg (by omega),f5 _ (by omega) (fun hb=>by have:=o.ge hb;omega)];exact q0
  ·rw [af.aS,if_neg (by omega),f5 _ (by omega) (fun hb=>by have:=o.ge hb;omega)];exact q1
  ·rw [af.aS,if_pos rfl]
  ·rw [List.map_append,hrs,List.take_add_one,hv,List.map_append]
   simp [eM,hy]
  ·exact (x5 h qx (by omega)).set (by omega) _
 ·rintro e h' ⟨a,rs,q0,q1,q2,o,hrs,qx,qn,e1,e2,e3,e4⟩ K' hx'
  have lr:aj none (.ptr h.next 1) h'=some (aq bw 3 s.rels):=by rw [ak q0];rfl
  have lo:aj (some 2) (.ptr (h.next+2) 0) h'=some (.agg [.int .i64 s.size,a]):=by rw [ak q2];rfl
  have c:=o.pV
  have one2:bq [.int .i64 s.size,a]=true:=by
   have:=c.1;rw [c.2.2] at this;simp only [bq,Bool.and_true] at this ⊢;rw [this];rfl
  have st:bH 2 (.ptr (h.next+1) 0) (.agg [.int .i64 s.size,a]) h'=some (h'.set (h.next+1) (.cells [.int .i64 s.size,a])):=by
   rw [dr (n:=2) (v:=.agg [.int .i64 s.size,a]) q1 rfl one2 (by simp)];rfl
  have lo2:aj (some 2) (.ptr (h.next+1) 0) (h'.set (h.next+1) (.cells [.int .i64 s.size,a]))=some (.agg [.int .i64 s.size,a]):=by rw [ak (cs:=[.int .i64 s.size,a]) (by rw [af.aS,if_pos rfl])];rfl
  rw [F.eY.aP]
  simp only [e1,e4,aQ,Nat.reduceAdd,Nat.reduceEqDiff,reduceIte,lr,aR]
  rw [hx',F.eY.aG]
  simp only [bE,Nat.reduceEqDiff,reduceIte,e2,e3,lo,st,bindO_some,Ir,lo2,oneOf]
  rw [List.take_of_length_le (Nat.le_refl _)] at hrs
  exact hK a _ rs (qx.set (by omega) _) ((o.mF (by omega) _).weak (by omega)) hrs
theorem Dz{n:Nat}:∀ {a b:List Int} (r:Nat),a.length=b.length→gd n a=true→gd n b=true→ee a b=true→oy n a r<oy n b r
 |[],_,r,_,_,_,h=>by simp [ee] at h
 |_ :: _,[],r,_,_,_,h=>by simp [ee] at h
 |x :: a,y :: b,r,hl,ha,hb,h=>by
  have ha':=ha
  have hb':=hb
  simp only [gd,List.all_cons,Bool.and_eq_true,Bool.not_eq_true',decide_eq_false_iff_not] at ha hb
  have ia:gd n a=true:=by unfold gd;simpa using ha.2
  have ib:gd n b=true:=by unfold gd;simpa using hb.2
  have hl':a.length=b.length:=by simpa using hl
  rw [ee] at h
  simp only [oy]
  by_cases e:x=y
  ·subst e
   rw [if_pos rfl] at h
   exact Dz _ hl' ia ib h
  ·rw [if_neg e] at h
   have hxy:=of_decide_eq_true h
   have lo:∀ (l:List Int) (r:Nat),r*n ^ l.length≤oy n l r:=by
    intro l
    induction l with
    |nil=>intro r;simp [oy]
    |cons z l ih=>
     intro r
     rw [oy]
     refine Nat.le_trans ?_ (ih _)
     rw [List.length_cons,Nat.pow_succ,Nat.mul_comm (n ^ l.length) n,← Nat.mul_assoc]
     exact Nat.mul_le_mul_right _ (Nat.le_add_right _ _)
   have hi:∀ (l:List Int) (r:Nat),gd n l=true→oy n l r<(r+1)*n ^ l.length:=by
    intro l
    induction l with
    |nil=>intro r _;simp [oy]
    |cons z l ih=>
     intro r hz
     simp only [gd,List.all_cons,Bool.and_eq_true,Bool.not_eq_true',decide_eq_false_iff_not] at hz
     rw [oy]
     refine Nat.lt_of_lt_of_le (ih _ (by unfold gd;simpa using hz.2)) ?_
     rw [List.length_cons,Nat.pow_succ,Nat.mul_comm (n ^ l.length) n,← Nat.mul_assoc]
     refine Nat.mul_le_mul_right _ ?_
     rw [Nat.succ_mul];omega
   have q1:=hi a (r*n+x.toNat) ia
   have q2:=lo b (r*n+y.toNat)
   have q3:(r*n+x.toNat+1)*n ^ a.length≤(r*n+y.toNat)*n ^ b.length:=by
    rw [hl'];exact Nat.mul_le_mul_right _ (by omega)
   omega
theorem A3{n:Nat}{a b:List Int}(hl:a.length=b.length)(ha:gd n a=true)(hb:gd n b=true)(h:ee a b=true):jH n a<jH n b:=Dz 0 hl ha hb h
def kq(n:Nat):Nat→Nat→List Int
 |0,_=>[]
 |k+1,r=>kq n k (r/n)++[((r%n:Nat):Int)]
theorem A4{n:Nat}(hn:1≤n):∀ (k r:Nat),r<n ^ k→(Dx n k)[r]?=some (kq n k r)
 |0,r,h=>by
  obtain rfl:r=0:=by simp at h;omega
  rfl
 |k+1,r,h=>by
  have hr:r/n<n ^ k:=Nat.div_lt_of_lt_mul (by rw [Nat.mul_comm,← Nat.pow_succ];exact h)
  have hx:r%n<n:=Nat.mod_lt _ hn
  have:=uQ (n:=n) (A4 hn k (r/n) hr) hx
  rw [Dx,kq]
  rwa [Nat.div_add_mod' r n] at this
theorem tO{n:Nat}(hn:1≤n){k r:Nat}(h:r<n ^ k):gd n (kq n k r)=true∧jH n (kq n k r)=r:=by
 obtain ⟨t,h1,h2,h3,h4⟩:=A1 hn k r h
 rw [A4 hn k r h] at h1;cases h1
 exact ⟨h3,h4⟩
theorem KN{a b:Nat}(hb:0<b):aF .rem (.int .i64 (a:Int)) (.int .i64 (b:Int))=some (.int .i64 ((a%b:Nat):Int)):=by
 have h:¬ (b:Int)=0:=by omega
 simp only [aF,if_true,if_neg h]
 rw [Int.tmod_eq_emod_of_nonneg (by omega)];rfl
theorem KO{a b:Nat}(hb:0<b)(ha:a≤1000000):aF .quo (.int .i64 (a:Int)) (.int .i64 (b:Int))=some (.int .i64 ((a/b:Nat):Int)):=by
 have h:¬ (b:Int)=0:=by omega
 simp only [aF,if_true,if_neg h]
 have e:((a:Int).tdiv (b:Int))=((a/b:Nat):Int):=by rw [Int.tdiv_eq_ediv_of_nonneg (by omega)];rfl
 have:a/b≤a:=Nat.div_le_self _ _
 rw [e]
 generalize a/b=q at this
 rw [IntWalk.i64_in _ (by omega)]
theorem eU{n k r:Nat}(n1:1≤n)(n64:n≤64)(hk:k≤12)(hc:n ^ k≤4096)(hr:r<n ^ k){h:af}{K:Out→af→Bool}(hK:∀ t:Sl Int,t.l=kq n k r→K (.ret (.tuple [aq encI 1 t,.int .i64 0])) h=true):Sem Tryz.prog 51 [.int .i64 (n:Int),.int .i64 (k:Int),.int .i64 (r:Int)] h K:=by
 have main:Sem Tryz.prog 51 [.int .i64 (n:Int),.int .i64 (k:Int),.int .i64 (r:Int)] af.empty (fun o h'=>yes (∃ v,∃ t:Sl Int,o = .ret (.tuple [v,.int .i64 0])∧t.l=kq n k r∧Fz true h' v (aq encI 1 t))):=by
  refine F.wq ?_
  rw [F.yA]
  refine an (pQ n1 n64 (by unfold cy;omega) ?_)
  rw [Gt,if_neg (by omega),if_neg (by omega)]
  have hsub:aF .sub (.int .i64 (k:Int)) (.int .i64 1)=some (.int .i64 ((k:Int)-1)):=wW (by omega) (by omega)
  simp only [aQ,Nat.reduceAdd,Nat.reduceEqDiff,reduceIte,beq_self_eq_true,Bool.not_true,decide_eq_false (by omega:¬ (r:Int)<0),decide_eq_false (by omega:¬ ((n ^ k:Nat):Int)≤(r:Int)),tE (show k≤1000000 by omega),bM,hsub]
  refine iZ (fun j e h'=>∃ (q:Nat) (suf:List Int),j≤k∧kq n k r=kq n j q++suf∧j+suf.length=k∧q≤4096∧h'.get 0=some (.cells ((List.replicate j (0:Int)++suf).map iv))∧e 0 = .int .i64 (n:Int)∧e 2 = .int .i64 (q:Int)∧e 10 = .slice 0 0 k 1∧e 11 = .int .i64 ((j:Int)-1)) k
   ⟨r,[],Nat.le_refl _,by simp,rfl,by omega,by rw [List.append_nil];exact aI _ _,rfl,rfl,rfl,rfl⟩ ?_
  rintro j e h' ⟨q,suf,hj,ht,hl,hq,g0,e0,e2,e10,e11⟩
  rw [F.eU.aP]
  cases j with
  |zero=>
   simp only [e11,nx,bindO_some,condB_bool,decide_eq_false (by omega:¬ (0:Int)≤((0:Nat):Int)-1),aC,loopK_exit]
   rw [F.eU.aG]
   simp only [bE,Nat.reduceEqDiff,reduceIte,e10]
   rw [List.replicate_zero,List.nil_append] at g0
   refine cz.2 ⟨_,some suf,rfl,by rw [ht,kq];rfl,?_⟩
   have:=C0 g0
   rwa [show suf.length=k by omega] at this
  |succ j=>
   have e11':((j+1:Nat):Int)-1=(j:Int):=by omega
   have hjk:j<k:=by omega
   have hset:(List.replicate (j+1) (0:Int)++suf).set j ((q%n:Nat):Int)=List.replicate j 0++(((q%n:Nat):Int) :: suf):=by
    rw [List.replicate_succ',List.append_assoc,List.set_append_right _ _ (by simp)]
    simp
   have hs1:aF .sub (.int .i64 (j:Int)) (.int .i64 1)=some (.int .i64 ((j:Int)-1)):=wW (by omega) (by omega)
   rw [e11'] at e11
   simp only [e0,e2,e10,e11,nx,bindO_some,condB_bool,decide_eq_true (by omega:(0:Int)≤(j:Int)),aD,KN n1,KO n1 (show q≤1000000 by omega),j9 hjk,pg g0 (show j<(List.replicate (j+1) (0:Int)++suf).length by simp;omega),hs1]
   refine cz.2 ⟨j,by omega,rfl,rfl,⟨q/n,(((q%n:Nat):Int) :: suf),by omega,?_,by simp;omega,by have:=Nat.div_le_self q n;omega,by rw [af.aS,if_pos rfl,hset],e0,rfl,e10,rfl⟩⟩
   rw [ht,kq,List.append_assoc];rfl
 refine main.frozen (by simp [AV.pureL,AV.pure]) fun o h' ho=>?_
 obtain ⟨v,t,rfl,ht,hf⟩:=cz.1 ho
 have:=lf.cons hf (lf.cons (.scalar (.int .i64 0) rfl) lf.nil)
 exact ⟨_,_,rfl,.tuple _ _ this.len this.rel,hK t ht⟩
end
end Go.AM
namespace Go.AM
open Go Go.Proofs
noncomputable section
inductive lZ where
 |mk (rule:Int) (vals:Option (List Int)) (parts:Option (List lZ))
mutual
def dJ:lZ→List AV
 |.mk r v none=>[.int .i64 r,aq encI 1 v,.nils]
 |.mk r v (some ps)=>[.int .i64 r,aq encI 1 v,.islice (encPrL ps) 0 ps.length 3]
def encPrL:List lZ→List AV
 |[]=>[]
 |p :: ps=>dJ p++encPrL ps
end
theorem A5:∀ ps:List lZ,encPrL ps=ps.flatMap dJ
 |[]=>by rw [encPrL];rfl
 |p :: ps=>by rw [encPrL,A5 ps,List.flatMap_cons]
theorem DA(r:Int)(v:Sl Int)(p:Sl lZ):dJ (.mk r v p) = [.int .i64 r,aq encI 1 v,aq dJ 3 p]:=by
 cases p with
 |none=>rw [dJ];rfl
 |some ps=>rw [dJ,A5];rfl
def lZ.rule:lZ→Int|.mk r _ _=>r
def lZ.vals:lZ→Sl Int|.mk _ v _=>v
def lZ.parts:lZ→Sl lZ|.mk _ _ p=>p
theorem ir(p:lZ):dJ p = [.int .i64 p.rule,aq encI 1 p.vals,aq dJ 3 p.parts]:=by cases p;exact DA _ _ _
theorem uR(p:lZ):(dJ p).length=3:=by rw [ir];rfl
inductive Ae:lZ→Prop
 |mk (p:lZ):p.vals.l.length≤cy→p.parts.l.length≤cy→(∀ q ∈ p.parts.l,Ae q)→Ae p
theorem lZ.zi{p q:lZ}(h:q ∈ p.parts.l):SizeOf.sizeOf q<SizeOf.sizeOf p:=by
 obtain ⟨r,v,ps⟩:=p
 cases ps with
 |none=>cases h
 |some l=>
  have:q ∈ l:=h
  have:=List.sizeOf_lt_of_mem this
  simp only [lZ.mk.sizeOf_spec,Option.some.sizeOf_spec]
  omega
theorem A6:∀ {a b:List AV},AV.pureL a=true→AV.pureL b=true→AV.pureL (a++b)=true
 |[],_,_,h=>h
 |x :: a,b,h,g=>by
  simp only [List.cons_append,AV.pureL,Bool.and_eq_true] at h ⊢
  exact ⟨h.1,A6 h.2 g⟩
theorem zj:∀ p:lZ,AV.pureL (dJ p)=true:=by
 intro p
 induction hn:SizeOf.sizeOf p using Nat.strongRecOn generalizing p with
 |_ n ih=>
  subst hn
  rw [ir]
  have:(aq dJ 3 p.parts).pure=true:=by
   cases hp:p.parts with
   |none=>rfl
   |some l=>
    simp only [aq,AV.pure]
    have key:∀ m:List lZ,(∀ q ∈ m,q ∈ l)→AV.pureL (m.flatMap dJ)=true:=by
     intro m
     induction m with
     |nil=>intro _;rfl
     |cons q m ihm=>
      intro hm
      rw [List.flatMap_cons]
      refine A6 ?_ (ihm fun x hx=>hm x (List.mem_cons_of_mem _ hx))
      exact ih _ (lZ.zi (p:=p) (by rw [hp];exact hm q List.mem_cons_self)) q rfl
    exact key l fun q hq=>hq
  simp [AV.pureL,this,cj jQ,AV.pure]
structure Md where
 name:bA
 t:Sl Int
 proof:lZ
def mu(c:Md):List AV:=.str c.name :: aq encI 1 c.t :: dJ c.proof
structure Md.ok (c:Md):Prop where
 name:c.name.length≤cy
 t:c.t.l.length≤cy
 proof:Ae c.proof
end
end Go.AM
namespace Go.AM
open Go Go.Proofs
noncomputable section
def IW(m:cS)(p:bA×Int):Option cS:=match m.find p.1 with
 |none=>some (m.nA p.1 p.2)
 |some k=>if k=p.2 then some (m.nA p.1 p.2) else none
def pW:List (bA×Int)→cS→Option cS
 |[],m=>some m
 |p :: l,m=>match IW m p with|none=>none|some m'=>pW l m'
theorem DC(m:cS)(nm:bA)(n:Nat):yO m nm n=IW m (nm,(n:Int)):=rfl
theorem vI:∀ (a b:List (bA×Int)) (m:cS),pW (a++b) m=match pW a m with|none=>none|some m'=>pW b m'
 |[],b,m=>rfl
 |p :: a,b,m=>by
  rw [List.cons_append,pW,pW]
  cases IW m p with
  |none=>rfl
  |some m'=>exact vI a b m'
theorem r9:∀ (cs:List dI) (m:cS),kG cs m=if cs.all eZ=true then pW (dw cs) m else none
 |[],m=>rfl
 |c :: cs,m=>by
  rw [kG,List.all_cons]
  cases hc:eZ c with
  |false=>simp
  |true=>
   rw [cond_true,Bool.true_and]
   by_cases k0:c.kind=0
   ·have hca:dw (c :: cs)=(c.name,(c.args.l.length:Int)) :: dw cs:=by unfold dw;simp [k0]
    rw [if_pos k0,hca,pW,DC]
    cases IW m (c.name,(c.args.l.length:Int)) with
    |none=>simp
    |some m'=>exact r9 cs m'
   ·have hca:dw (c :: cs)=dw cs:=by unfold dw;simp [k0]
    rw [if_neg k0,hca]
    exact r9 cs m
theorem nO:∀ (rs:List aJ) (m:cS),dO rs m=if rs.all gI=true then pW (cm rs) m else none
 |[],m=>rfl
 |r :: rs,m=>by
  have hat:cm (r :: rs)=(r.name,(r.args.l.length:Int)) :: (dw r.body.l++cm rs):=by unfold cm;simp [rZ]
  rw [dO,List.all_cons,hat,pW,vC,DC]
  unfold gI
  cases h1:dB r.name with
  |false=>simp
  |true=>
  cases h2:jz r.args.l with
  |false=>simp
  |true=>
  simp only [Bool.true_and,cond_true]
  by_cases h3:r.body.l.length≤20
  ·by_cases h4:(varsOf r).length≤12
   ·rw [decide_eq_true h3,decide_eq_true h4,Bool.true_and,Bool.and_true]
    cases IW m (r.name,(r.args.l.length:Int)) with
    |none=>simp
    |some m1=>
     simp only
     rw [if_neg (by omega),if_neg (by omega),r9,vI]
     cases h5:r.body.l.all eZ with
     |false=>simp
     |true=>
      rw [if_pos rfl,Bool.true_and]
      cases pW (dw r.body.l) m1 with
      |none=>simp
      |some m2=>exact nO rs m2
   ·rw [decide_eq_false h4,Bool.and_false,Bool.and_false,Bool.false_and,if_neg (by simp)]
    cases IW m (r.name,(r.args.l.length:Int)) with
    |none=>rfl
    |some m1=>simp only;rw [if_neg (by omega),if_pos (by omega)]
  ·rw [decide_eq_false h3,Bool.false_and,Bool.false_and,if_neg (by simp)]
   cases IW m (r.name,(r.args.l.length:Int)) with
   |none=>rfl
   |some m1=>simp only;rw [if_pos (by omega)]
def B2(l:List (bA×Int)):Prop:=∀ p ∈ l,∀ q ∈ l,p.1=q.1→p.2=q.2
theorem zk:∀ (l:List (bA×Int)) (m:cS),(∃ m',pW l m=some m')↔((∀ p ∈ l,∀ k,m.find p.1=some k→k=p.2)∧B2 l)
 |[],m=>⟨fun _=>⟨fun p hp=>(by cases hp),fun p hp=>(by cases hp)⟩,fun _=>⟨m,rfl⟩⟩
 |p :: l,m=>by
  have fu:∀ q:bA×Int,(m.nA p.1 p.2).find q.1=if q.1=p.1 then some p.2 else m.find q.1:=fun q=>qz m p.1 q.1 p.2
  have key:(∃ m',pW l (m.nA p.1 p.2)=some m')∧(∀ k,m.find p.1=some k→k=p.2)↔((∀ q ∈ p :: l,∀ k,m.find q.1=some k→k=q.2)∧B2 (p :: l)):=by
   rw [zk l]
   constructor
   ·rintro ⟨⟨h1,h2⟩,h3⟩
    have hp:∀ q ∈ l,q.1=p.1→p.2=q.2:=fun q hq e=>h1 q hq p.2 (by rw [fu,if_pos e])
    refine ⟨fun q hq k hk=>?_,fun a ha b hb e=>?_⟩
    ·rcases List.mem_cons.1 hq with rfl|hq
     ·exact h3 k hk
     ·by_cases e:q.1=p.1
      ·rw [e] at hk;rw [h3 k hk,hp q hq e]
      ·exact h1 q hq k (by rw [fu,if_neg e];exact hk)
    ·rcases List.mem_cons.1 ha with ha'|ha'<;>rcases List.mem_cons.1 hb with hb'|hb'
     ·rw [ha',hb']
     ·rw [ha'] at e ⊢;exact hp b hb' e.symm
     ·rw [hb'] at e ⊢;exact (hp a ha' e).symm
     ·exact h2 a ha' b hb' e
   ·rintro ⟨h1,h2⟩
    refine ⟨⟨fun q hq k hk=>?_,fun a ha b hb e=>h2 a (List.mem_cons_of_mem _ ha) b (List.mem_cons_of_mem _ hb) e⟩,fun k hk=>h1 p List.mem_cons_self k hk⟩
    rw [fu] at hk
    by_cases e:q.1=p.1
    ·rw [if_pos e] at hk;cases hk
     exact h2 p List.mem_cons_self q (List.mem_cons_of_mem _ hq) e.symm
    ·rw [if_neg e] at hk
     exact h1 q (List.mem_cons_of_mem _ hq) k hk
  rw [← key,pW]
  unfold IW
  cases hf:m.find p.1 with
  |none=>simp
  |some k=>
   by_cases hk:k=p.2
   ·subst hk;simp
   ·simp [hk]
theorem qE(rs:List aJ):jx rs↔(rs.length≤60∧rs.all gI=true∧B2 (cm rs)∧∃ k,Lev.cK (bD rs) (Lev.iter (bD rs) k)):=by
 have h0:∀ p ∈ cm rs,∀ k,cS.find [] p.1=some k→k=p.2:=fun p _ k hk=>by simp [cS.find] at hk
 constructor
 ·rintro ⟨h1,⟨m,h2⟩,h3⟩
  rw [nO] at h2
  split at h2
  ·rename_i ha;exact ⟨h1,ha,((zk _ _).1 ⟨m,h2⟩).2,h3⟩
  ·cases h2
 ·rintro ⟨h1,h2,h3,h4⟩
  obtain ⟨m,hm⟩:=(zk (cm rs) []).2 ⟨h0,h3⟩
  exact ⟨h1,⟨m,by rw [nO,if_pos h2];exact hm⟩,h4⟩
theorem DD{x:Sl (bA×Int)}{i:Nat}{p:bA×Int}(hp:x.l[i]?=some p){h:af}:aj none (.iptr (x.l.flatMap kg) (i*2)) h=some (.str p.1):=eN lG hp (by omega:0<2)
theorem EN{x:Sl (bA×Int)}{i:Nat}{p:bA×Int}(hp:x.l[i]?=some p){h:af}:aj none (.iptr (x.l.flatMap kg) (i*2+1)) h=some (.int .i64 p.2):=eN lG hp (by omega:1<2)
set_option maxHeartbeats 1000000 in
theorem bt{rules:Sl aJ}(hok:∀ r ∈ rules.l,r.ok)(hfew:∀ r ∈ rules.l,r.lR){h:af}{K:Out→af→Bool}(hK:∀ b:Bool,(b=true↔jx rules.l)→K (.ret (.bool b)) h=true):Sem Tryz.prog 31 [aq aM 3 rules] h K:=by
 have gen:∀ R:Out→af→Bool,(∀ (b:Bool) h',(b=true↔jx rules.l)→R (.ret (.bool b)) h'=true)→Sem Tryz.prog 31 [aq aM 3 rules] af.empty R:=by
  intro R fin
  refine F.vX ?_
  rw [F.ym]
  have no:∀ h',¬ jx rules.l→R (.ret (.bool false)) h'=true:=fun h' hn=>fin false h' ⟨fun h=>(by cases h),fun h=>absurd h hn⟩
  simp only [aQ,Nat.reduceAdd,Nat.reduceEqDiff,reduceIte]
  by_cases h61:60<rules.l.length
  ·simp only [decide_eq_true (by omega:(60:Int)<(rules.l.length:Int)),aD]
   exact no _ (fun hg=>by have:=hg.lR;omega)
  have h60:rules.l.length≤60:=by omega
  have hbig:rules.l.length≤cy:=by unfold cy;omega
  simp only [decide_eq_false (by omega:¬ (60:Int)<(rules.l.length:Int)),aC]
  refine aE 0 rules.l.length (Nat.zero_le _) (fun i e h'=>e 0=aq aM 3 rules∧e 3 = .int .i64 (i:Int)∧(rules.l.take i).all gI=true) ⟨rfl,rfl,rfl⟩ ?_ ?_
  ·rintro i e h' _ hi ⟨e0,e3,ht⟩ K' hn hx hr hp
   have hv:rules.l[i]?=some rules.l[i]:=List.getElem?_eq_getElem hi
   generalize rules.l[i]=r at hv
   rw [F.bt.aP]
   simp only [e0,e3,aQ,Nat.reduceAdd,Nat.reduceEqDiff,reduceIte,bf hi,aT rules hi,c8 eP hv]
   refine an (cu (hok r (List.mem_of_getElem? hv)) (hfew r (List.mem_of_getElem? hv)) ?_)
   simp only [aQ,Nat.reduceAdd,Nat.reduceEqDiff,reduceIte]
   cases hq:gI r with
   |false=>
    simp only [Bool.not_false,aD]
    rw [hr,F.bt.bp]
    exact no _ (fun hg=>by
     have:=((qE _).1 hg).2.1
     rw [all_false hv hq] at this;cases this)
   |true=>
    simp only [Bool.not_true,aC,aK hi hbig,bindO_some]
    exact hn _ _ ⟨e0,rfl,gz hv ht hq⟩
  ·rintro e h' ⟨e0,e3,ht⟩ K' hx
   rw [List.take_of_length_le (Nat.le_refl _)] at ht
   have h20:∀ r ∈ rules.l,r.body.l.length≤20:=fun r hr=>by
    have:=List.all_eq_true.1 ht r hr
    unfold gI at this
    simp only [Bool.and_eq_true,decide_eq_true_eq] at this
    exact this.2.2.1
   rw [F.bt.aP]
   simp only [e0,e3,aQ,Nat.reduceAdd,Nat.reduceEqDiff,reduceIte,aR]
   rw [hx,F.bt.aG]
   simp only [e0,aQ,Nat.reduceAdd,Nat.reduceEqDiff,reduceIte]
   refine an (cp h60 h20 fun x hx1=>?_)
   simp only [aQ,Nat.reduceAdd,Nat.reduceEqDiff,reduceIte]
   have hxl:x.l.length≤1260:=by rw [hx1];have:=pO rules.l h20;omega
   have hxb:x.l.length≤cy:=by unfold cy;omega
   refine aE 0 x.l.length (Nat.zero_le _) (fun i e h'=>e 0=aq aM 3 rules∧e 4=aq kg 2 x∧e 5 = .int .i64 (i:Int)∧∀ a b p q,a<b→b<i→x.l[a]?=some p→x.l[b]?=some q→p.1=q.1→p.2=q.2) ⟨e0,rfl,rfl,fun a b p q h1 h2=>by omega⟩ ?_ ?_
   ·rintro i e h' _ hi ⟨e0,e4,e5,hag⟩ K1 hn1 hx1' hr1 hp1
    have hvi:x.l[i]?=some x.l[i]:=List.getElem?_eq_getElem hi
    generalize x.l[i]=q at hvi
    rw [F.bt.dc]
    simp only [e4,e5,aQ,Nat.reduceAdd,Nat.reduceEqDiff,reduceIte,bf hi]
    refine aE 0 i (Nat.zero_le _) (fun j e h'=>e 0=aq aM 3 rules∧e 4=aq kg 2 x∧e 5 = .int .i64 (i:Int)∧e 6 = .int .i64 (j:Int)∧∀ a p,a<j→x.l[a]?=some p→p.1=q.1→p.2=q.2) ⟨e0,e4,e5,rfl,fun a p h1=>by omega⟩ ?_ ?_
    ·rintro j e h' _ hj ⟨e0,e4,e5,e6,haj⟩ K2 hn2 hx2 hr2 hp2
     have hjx:j<x.l.length:=by omega
     have hvj:x.l[j]?=some x.l[j]:=List.getElem?_eq_getElem hjx
     generalize x.l[j]=p at hvj
     have hib:i≤cy:=by omega
     rw [F.bt.jF]
     simp only [e4,e5,e6,aQ,Nat.reduceAdd,Nat.reduceEqDiff,reduceIte,bf hj,aT x hi,aT x hjx,DD hvi,DD hvj,nJ]
     by_cases hq:p.1=q.1
     ·simp only [decide_eq_true hq,aD,e4,e5,e6,aQ,Nat.reduceAdd,Nat.reduceEqDiff,reduceIte,aT x hi,aT x hjx,EN hvi,EN hvj,ct]
      by_cases hq2:p.2=q.2
      ·simp only [decide_eq_true hq2,Bool.not_true,aC,aK hj hib,bindO_some]
       refine hn2 _ _ ⟨e0,e4,e5,rfl,fun a p' h1 h2=>?_⟩
       by_cases haj':a=j
       ·subst haj';rw [hvj] at h2;cases h2;exact fun _=>hq2
       ·exact haj a p' (by omega) h2
      ·simp only [decide_eq_false hq2,Bool.not_false,aD]
       rw [hr2,F.bt.tg,hr1,F.bt.gK]
       exact no _ (fun hg=>hq2 (((qE _).1 hg).2.2.1 p (by rw [← hx1];exact List.mem_of_getElem? hvj) q (by rw [← hx1];exact List.mem_of_getElem? hvi) hq))
     ·simp only [decide_eq_false hq,aC,aK hj hib,bindO_some]
      refine hn2 _ _ ⟨e0,e4,e5,rfl,fun a p' h1 h2=>?_⟩
      by_cases haj':a=j
      ·subst haj';rw [hvj] at h2;cases h2;exact fun e=>absurd e hq
      ·exact haj a p' (by omega) h2
    ·rintro e h' ⟨e0,e4,e5,e6,haj⟩ K2 hx2
     rw [F.bt.jF]
     simp only [e5,e6,aQ,Nat.reduceAdd,Nat.reduceEqDiff,reduceIte,aR]
     rw [hx2,F.bt.fV]
     simp only [e5,aQ,Nat.reduceAdd,Nat.reduceEqDiff,reduceIte,aK hi hxb]
     refine hn1 _ _ ⟨e0,e4,rfl,fun a b p' q' h1 h2 h3 h4=>?_⟩
     by_cases hb:b=i
     ·subst hb;rw [hvi] at h4;cases h4;exact haj a p' h1 h3
     ·exact hag a b p' q' h1 (by omega) h3 h4
   ·rintro e h' ⟨e0,e4,e5,hag⟩ K1 hx1'
    have hagree:B2 (cm rules.l):=fun p hp q hq e=>by
     rw [← hx1] at hp hq
     obtain ⟨a,ha⟩:=List.mem_iff_getElem?.1 hp
     obtain ⟨b,hb⟩:=List.mem_iff_getElem?.1 hq
     have hal:=(List.getElem?_eq_some_iff.1 ha).1
     have hbl:=(List.getElem?_eq_some_iff.1 hb).1
     rcases Nat.lt_trichotomy a b with h|h|h
     ·exact hag a b p q h hbl ha hb e
     ·subst h;rw [ha] at hb;cases hb;rfl
     ·exact (hag b a q p h hal hb ha e.symm).symm
    rw [F.bt.dc]
    simp only [e4,e5,aQ,Nat.reduceAdd,Nat.reduceEqDiff,reduceIte,aR]
    rw [hx1',F.bt.cx]
    simp only [e0,aQ,Nat.reduceAdd,Nat.reduceEqDiff,reduceIte]
    refine an (aV h60 h20 (fun hk=>?_) (fun y k hk hy=>?_))
    ·simp only [aQ,Nat.reduceAdd,Nat.reduceEqDiff,reduceIte]
     exact no _ (fun hg=>by obtain ⟨k,h⟩:=hg.lev;exact hk k h)
    ·simp only [aQ,Nat.reduceAdd,Nat.reduceEqDiff,reduceIte]
     exact fin true _ ⟨fun _=>(qE _).2 ⟨h60,ht,hagree,k,hk⟩,fun _=>rfl⟩
 have main:=gen (fun o h'=>yes (∃ b:Bool,o = .ret (.bool b)∧(b=true↔jx rules.l))) (fun b h' hb=>cz.2 ⟨b,rfl,hb⟩)
 refine main.frozen (by simp [AV.pureL,cj eC]) fun o h' ho=>?_
 obtain ⟨b,rfl,hb⟩:=cz.1 ho
 exact ⟨_,_,rfl,.scalar _ rfl,hK b hb⟩
end
end Go.AM
namespace Go.AM
open Go Go.Proofs
noncomputable section
abbrev Lk:=bA→Nat→Bool
def Af(n:Nat)(L:Lk)(r:aJ)(vs:List Int):Bool:=r.body.l.all fun c=>ej n L c (bZ vs (cr r c))
def zl(n:Nat)(r:aJ)(vs:List Int):Nat:=jH n (bZ vs (placesOf (varsOf r) r.args.l))
def Ch(n:Nat)(r:aJ)(vs:List Int):Prop:=vs.length=(varsOf r).length∧gd n vs=true
def kH(n:Nat)(rs:List aJ)(L:Lk):Prop:=∀ r ∈ rs,∀ vs,Ch n r vs→Af n L r vs=true→L r.name (zl n r vs)=true
structure Over (rs:List aJ) (L C:Lk):Prop where
 le:∀ nm k,L nm k=true→C nm k=true
 off:∀ nm,(∀ r ∈ rs,r.name≠nm)→∀ k,C nm k=L nm k
structure nP (n:Nat) (rs:List aJ) (L L':Lk):Prop where
 over:Over rs L L'
 closed:kH n rs L'
 least:∀ C,Over rs L C→kH n rs C→∀ nm k,L' nm k=true→C nm k=true
theorem Over.refl(rs:List aJ)(L:Lk):Over rs L L:=⟨fun _ _ h=>h,fun _ _ _=>rfl⟩
theorem nP.unique{n:Nat}{rs:List aJ}{L A B:Lk}(h:nP n rs L A)(g:nP n rs L B):A=B:=by
 funext nm k
 rw [Bool.eq_iff_iff]
 exact ⟨h.least B g.over g.closed nm k,g.least A h.over h.closed nm k⟩
def zm(rs:List aJ):Prop:=∀ r ∈ rs,∀ c ∈ r.body.l,c.kind=0→c.neg=true→∀ q ∈ rs,q.name≠c.name
theorem A8{n:Nat}{rs:List aJ}{A C:Lk}(hs:zm rs)(hle:∀ nm k,A nm k=true→C nm k=true)(hoff:∀ nm,(∀ r ∈ rs,r.name≠nm)→∀ k,C nm k=A nm k){r:aJ}(hr:r ∈ rs){c:dI}(hc:c ∈ r.body.l){t:List Int}(h:ej n A c t=true):ej n C c t=true:=by
 unfold ej at h ⊢
 by_cases k0:c.kind=0
 ·rw [if_pos k0] at h ⊢
  cases hn:c.neg with
  |false=>
   rw [hn] at h
   have:A c.name (jH n t)=true:=by simpa using h
   rw [hle _ _ this];rfl
  |true=>
   rw [hn] at h
   rw [hoff c.name (fun q hq=>hs r hr c hc k0 hn q hq)]
   exact h
 ·rw [if_neg k0] at h ⊢
  exact h
inductive fT (n:Nat) (rs:List aJ) (lv:Lev.Lv) (L0:Lk):Nat→Lk→Prop
 |zero:fT n rs lv L0 0 L0
 |succ (l:Nat) (L L':Lk):fT n rs lv L0 l L→nP n (fM lv rs l) L L'→fT n rs lv L0 (l+1) L'
theorem fT.unique{n:Nat}{rs:List aJ}{lv:Lev.Lv}{L0:Lk}:∀ {l:Nat} {A B:Lk},fT n rs lv L0 l A→fT n rs lv L0 l B→A=B
 |0,A,B,h,g=>by cases h;cases g;rfl
 |l+1,A,B,h,g=>by
  cases h with
  |succ _ La _ ha la=>
   cases g with
   |succ _ Lb _ hb lb=>
    obtain rfl:=fT.unique ha hb
    exact la.unique lb
theorem nP.nil{n:Nat}{L:Lk}:nP n [] L L:=⟨.refl _ _,fun r hr=>(by cases hr),fun C ho _ nm k h=>ho.le nm k h⟩
theorem B3{lv:Lev.Lv}{rs:List aJ}{l:Nat}(h:∀ r ∈ rs,lv r.name<l):fM lv rs l = []:=by
 unfold fM
 rw [List.filter_eq_nil_iff]
 intro r hr
 have:=h r hr
 simp;omega
theorem fT.more{n:Nat}{rs:List aJ}{lv:Lev.Lv}{L0:Lk}{t:Nat}{L:Lk}(h:fT n rs lv L0 t L)(ht:∀ r ∈ rs,lv r.name<t):∀ d,fT n rs lv L0 (t+d) L
 |0=>h
 |d+1=>by
  refine .succ (t+d) L L (fT.more h ht d) ?_
  rw [B3 fun r hr=>by have:=ht r hr;omega]
  exact .nil
theorem fT.same{n:Nat}{rs:List aJ}{lv:Lev.Lv}{L0:Lk}{s t:Nat}{A B:Lk}(h:fT n rs lv L0 s A)(g:fT n rs lv L0 t B)(hs:∀ r ∈ rs,lv r.name<s)(ht:∀ r ∈ rs,lv r.name<t):A=B:=by
 have h1:=h.more hs t
 have g1:=g.more ht s
 rw [Nat.add_comm t s] at g1
 exact h1.unique g1
def A9(rs:List aJ)(lv:Lev.Lv):Prop:=∀ r ∈ rs,∀ c ∈ r.body.l,c.kind=0→(∃ q ∈ rs,q.name=c.name)→lv c.name+(if c.neg=true then 1 else 0)≤lv r.name
theorem A9.Ph{rs:List aJ}{lv:Lev.Lv}(h:A9 rs lv)(l:Nat):zm (fM lv rs l):=by
 intro r hr c hc k0 hn q hq e
 unfold fM at hr hq
 simp only [List.mem_filter,decide_eq_true_eq] at hr hq
 have:=h r hr.1 c hc k0 ⟨q,hq.1,e⟩
 rw [hn,if_pos rfl,← e,hq.2,hr.2] at this
 omega
theorem mw{lv:Lev.Lv}{rs:List aJ}{l:Nat}{r:aJ}:r ∈ fM lv rs l↔r ∈ rs∧lv r.name=l:=by
 unfold fM;simp [List.mem_filter]
theorem fT.rest{n:Nat}{rs:List aJ}{lv:Lev.Lv}{L0:Lk}{nm:bA}{l:Nat}{A:Lk}(h:fT n rs lv L0 l A):∀ {t:Nat} {B:Lk},fT n rs lv L0 t B→l≤t→((∀ r ∈ rs,r.name≠nm)∨lv nm<l)→∀ k,B nm k=A nm k:=by
 intro t
 induction t with
 |zero=>
  intro B g hl hn k
  have:l=0:=by omega
  subst this
  rw [h.unique g]
 |succ t ih=>
  intro B g hl hn k
  by_cases e:l=t+1
  ·subst e;rw [h.unique g]
  ·cases g with
   |succ _ L _ hg lg=>
    rw [← ih hg (by omega) hn k]
    refine lg.over.off nm (fun r hr e'=>?_) k
    obtain ⟨h1,h2⟩:=mw.1 hr
    rcases hn with hn|hn
    ·exact hn r h1 e'
    ·rw [e'] at h2;omega
theorem Gw{n:Nat}{A B:Lk}{c:dI}(h:c.kind=0→∀ k,A c.name k=B c.name k)(t:List Int):ej n A c t=ej n B c t:=by
 unfold ej
 by_cases k0:c.kind=0
 ·rw [if_pos k0,if_pos k0,h k0]
 ·rw [if_neg k0,if_neg k0]
theorem fT.split{n:Nat}{rs:List aJ}{lv:Lev.Lv}{L0:Lk}:∀ {t:Nat} {B:Lk},fT n rs lv L0 t B→∀ l,l≤t→∃ A,fT n rs lv L0 l A
 |0,B,h,l,hl=>⟨B,by obtain rfl:l=0:=by omega
                    exact h⟩
 |t+1,B,h,l,hl=>by
  by_cases e:l=t+1
  ·subst e;exact ⟨B,h⟩
  ·cases h with
   |succ _ L _ hg lg=>exact fT.split hg l (by omega)
theorem fT.Is{n:Nat}{rs:List aJ}{lv:Lev.Lv}{L0:Lk}(hlv:A9 rs lv){t:Nat}{B A:Lk}{r:aJ}(hr:r ∈ rs)(g:fT n rs lv L0 t B)(h:fT n rs lv L0 (lv r.name+1) A)(ht:lv r.name+1≤t)(vs:List Int):Af n B r vs=Af n A r vs:=by
 unfold Af
 rw [Bool.eq_iff_iff,List.all_eq_true,List.all_eq_true]
 have key:∀ c ∈ r.body.l,ej n B c (bZ vs (cr r c))=ej n A c (bZ vs (cr r c)):=fun c hc=>by
  refine Gw (fun k0 k=>?_) _
  refine h.rest g ht ?_ k
  by_cases hd:∃ q ∈ rs,q.name=c.name
  ·exact .inr (by have:=hlv r hr c hc k0 hd;omega)
  ·exact .inl fun q hq e=>hd ⟨q,hq,e⟩
 exact ⟨fun h1 c hc=>by rw [← key c hc];exact h1 c hc,fun h1 c hc=>by rw [key c hc];exact h1 c hc⟩
theorem fT.closed{n:Nat}{rs:List aJ}{lv:Lev.Lv}{L0:Lk}(hlv:A9 rs lv){t:Nat}{B:Lk}(g:fT n rs lv L0 t B)(ht:∀ r ∈ rs,lv r.name<t):kH n rs B:=by
 intro r hr vs ha hb
 have hlt:=ht r hr
 obtain ⟨A,hA⟩:=g.split (lv r.name+1) hlt
 rw [g.Is hlv hr hA hlt] at hb
 have h2:A r.name (zl n r vs)=true:=by
  cases hA with
  |succ _ L _ hg lg=>exact lg.closed r (mw.2 ⟨hr,rfl⟩) vs ha hb
 rw [hA.rest g hlt (.inr (by omega))]
 exact h2
end
end Go.AM
namespace Go.AM
open Go Go.Proofs
noncomputable section
theorem uS{D:DB}{nm:bA}{p:Nat×List Bool}(hp:D nm=some p){rk:Nat}(hrk:rk<p.2.length)(x:bA)(k:Nat):cN (iQ D nm p.1 (p.2.set rk true)) x k=(cN D x k||(decide (x=nm)&&decide (k=rk))):=by
 unfold cN iQ
 by_cases hx:x=nm
 ·subst hx
  rw [if_pos rfl,hp]
  simp only [decide_true,Bool.true_and]
  by_cases hk:k=rk
  ·subst hk
   rw [List.getD_eq_getElem?_getD,List.getElem?_set,if_pos rfl,if_pos hrk];simp
  ·rw [List.getD_eq_getElem?_getD,List.getElem?_set,if_neg (fun e=>hk e.symm),← List.getD_eq_getElem?_getD,decide_eq_false hk,Bool.or_false]
 ·rw [if_neg hx,decide_eq_false hx,Bool.false_and,Bool.or_false]
theorem Me(a b:Int):a≤FB a b∧b≤FB a b:=by unfold FB;split<;>omega
theorem se:∀ (ps:List Nat) (a:Int),a≤ps.foldl (fun a (p:Nat)=>FB a (p:Int)) a∧∀ p ∈ ps,(p:Int)≤ps.foldl (fun a (p:Nat)=>FB a (p:Int)) a
 |[],a=>⟨Int.le_refl _,fun p hp=>by cases hp⟩
 |q :: ps,a=>by
  have h:=se ps (FB a (q:Int))
  have g:=Me a (q:Int)
  refine ⟨by simp only [List.foldl_cons];omega,fun p hp=>?_⟩
  simp only [List.foldl_cons]
  rcases List.mem_cons.1 hp with rfl|hp
  ·omega
  ·exact h.2 p hp
theorem zn{ps:List Nat}{p:Nat}(hp:p ∈ ps):(p:Int)≤fS ps:=(se ps (-1)).2 p hp
theorem It{ps:List Nat}{k:Nat}(h:∀ p ∈ ps,p<k):fS ps<(k:Int):=by
 unfold fS
 have:∀ (ps:List Nat) (a:Int),a<(k:Int)→(∀ p ∈ ps,p<k)→ps.foldl (fun a (p:Nat)=>FB a (p:Int)) a<(k:Int):=by
  intro ps
  induction ps with
  |nil=>intro a ha _;exact ha
  |cons q ps ih=>
   intro a ha hq
   simp only [List.foldl_cons]
   refine ih _ ?_ fun p hp=>hq p (List.mem_cons_of_mem _ hp)
   have:=hq q List.mem_cons_self
   unfold FB;split<;>omega
 exact this ps (-1) (by omega) h
theorem Gx(ps:List Nat):-1≤fS ps:=(se ps (-1)).1
theorem tP{ps:List Nat}{a b:List Int}(h:∀ p ∈ ps,a.getD p 0=b.getD p 0):bZ a ps=bZ b ps:=by
 unfold bZ
 exact List.map_congr_left h
theorem KP{r:aJ}{c:dI}(hc:c ∈ r.body.l):fS (cr r c)<((varsOf r).length:Int):=It (jU (mX hc))
theorem getD_set_ne{a:List Int}{v i:Nat}(h:i≠v)(x:Int):(a.set v x).getD i 0=a.getD i 0:=by
 rw [List.getD_eq_getElem?_getD,List.getElem?_set,if_neg (fun e=>h e.symm),← List.getD_eq_getElem?_getD]
theorem DE{a:List Int}{v:Nat}(h:v<a.length)(x:Int):(a.set v x).getD v 0=x:=by
 rw [List.getD_eq_getElem?_getD,List.getElem?_set,if_pos rfl,if_pos h];rfl
theorem qF{n:Nat}{L:Lk}{r:aJ}{vs:List Int}{u:Int}:wE n L r vs u=true↔∀ c ∈ r.body.l,fS (cr r c)=u→ej n L c (bZ vs (cr r c))=true:=by
 unfold wE
 rw [List.all_eq_true]
 refine ⟨fun h c hc e=>?_,fun h c hc=>?_⟩
 ·have:=h c hc
  rw [decide_eq_true e] at this
  exact this
 ·by_cases e:fS (cr r c)=u
  ·rw [h c hc e,Bool.or_true]
  ·rw [decide_eq_false e];rfl
structure Gy (rs:List aJ) (L C:Lk) (s:DB×Bool):Prop where
 over:Over rs L (cN s.1)
 le:∀ nm k,cN s.1 nm k=true→C nm k=true
theorem Gy.off{rs:List aJ}{L C:Lk}{s:DB×Bool}(m:Gy rs L C s)(hC:Over rs L C):∀ nm,(∀ r ∈ rs,r.name≠nm)→∀ k,C nm k=cN s.1 nm k:=fun nm hn k=>by rw [hC.off nm hn,m.over.off nm hn]
theorem KQ{n:Nat}{rs:List aJ}{L C:Lk}(hcl:kH n rs C){r:aJ}(hr:r ∈ rs){vs:List Int}(ha:Ch n r vs)(happ:Af n C r vs=true){s:DB×Bool}(hh:∀ p,s.1 r.name=some p→p.2.length=n ^ r.args.l.length)(m:Gy rs L C s):Gy rs L C (oA n r vs s):=by
 unfold oA
 cases hp:s.1 r.name with
 |none=>exact m
 |some p=>
  simp only
  split
  ·exact m
  ·have hpl:∀ p ∈ placesOf (varsOf r) r.args.l,p<vs.length:=by rw [ha.1];exact jU kM
   have hplen:(placesOf (varsOf r) r.args.l).length=r.args.l.length:=by unfold placesOf;simp
   have hrk:jH n (bZ vs (placesOf (varsOf r) r.args.l))<p.2.length:=by
    have:=pK (kN ha.2 hpl)
    rw [jb,hplen] at this
    rw [hh p hp];exact this
   have hC:=hcl r hr vs ha happ
   unfold zl at hC
   refine ⟨⟨fun nm k h=>?_,fun nm hn k=>?_⟩,fun nm k h=>?_⟩
   ·simp only [uS hp hrk,m.over.le nm k h,Bool.true_or]
   ·simp only [uS hp hrk,decide_eq_false (fun e:nm=r.name=>hn r hr e.symm),Bool.false_and,Bool.or_false]
    exact m.over.off nm hn k
   ·simp only [uS hp hrk,Bool.or_eq_true,Bool.and_eq_true,decide_eq_true_eq] at h
    rcases h with h|⟨rfl,rfl⟩
    ·exact m.le nm k h
    ·exact hC
theorem FH{n:Nat}{r:aJ}{vs:List Int}{s:DB×Bool}{nm:bA}{N:Nat}(h:∀ p,s.1 nm=some p→p.2.length=N):∀ p,(oA n r vs s).1 nm=some p→p.2.length=N:=by
 intro p hp
 unfold oA at hp
 cases hq:s.1 r.name with
 |none=>rw [hq] at hp;exact h p hp
 |some q=>
  rw [hq] at hp
  simp only at hp
  split at hp
  ·exact h p hp
  ·unfold iQ at hp
   simp only at hp
   split at hp
   ·rename_i e;subst e;cases hp;simp only [List.length_set];exact h q hq
   ·exact h p hp
theorem Ba{n:Nat}{rs:List aJ}{L C:Lk}(hs:zm rs)(hC:Over rs L C)(hcl:kH n rs C){r:aJ}(hr:r ∈ rs):∀ (m v:Nat) (vs:List Int) (s:DB×Bool),v+m=(varsOf r).length→Ch n r vs→Gy rs L C s→(∀ p,s.1 r.name=some p→p.2.length=n ^ r.args.l.length) →
  (∀ c ∈ r.body.l,fS (cr r c)<(v:Int)→ej n C c (bZ vs (cr r c))=true) →
  Gy rs L C (fC (fun s=>s.1) (oA n r) n r m v vs s).2∧(∀ p,(fC (fun s=>s.1) (oA n r) n r m v vs s).2.1 r.name=some p→p.2.length=n ^ r.args.l.length)∧Ch n r (fC (fun s=>s.1) (oA n r) n r m v vs s).1∧∀ i,i<v→(fC (fun s=>s.1) (oA n r) n r m v vs s).1.getD i 0=vs.getD i 0
 |0,v,vs,s,hv,ha,hm,hl,hc=>by
  refine ⟨KQ hcl hr ha ?_ hl hm,FH hl,ha,fun _ _=>rfl⟩
  unfold Af
  rw [List.all_eq_true]
  intro c hcm
  refine hc c hcm ?_
  have:=KP hcm
  omega
 |m+1,v,vs,s,hv,ha,hm,hl,hc=>by
  refine gG (P:=fun (a:List Int×(DB×Bool))=>Gy rs L C a.2∧(∀ p,a.2.1 r.name=some p→p.2.length=n ^ r.args.l.length)∧Ch n r a.1∧∀ i,i<v→a.1.getD i 0=vs.getD i 0) ⟨hm,hl,ha,fun _ _=>rfl⟩ fun a x hx hP=>?_
  obtain ⟨p1,p2,p3,p4⟩:=hP
  have hxn:=List.mem_range.1 hx
  have ha2:Ch n r (a.1.set v (x:Int)):=⟨by rw [List.length_set];exact p3.1,nM p3.2 v hxn⟩
  have hag:∀ i,i<v→(a.1.set v (x:Int)).getD i 0=vs.getD i 0:=fun i hi=>by rw [getD_set_ne (by omega)];exact p4 i hi
  unfold iR
  split
  ·rename_i hask
   rw [qF] at hask
   obtain ⟨q1,q2,q3,q4⟩:=Ba hs hC hcl hr m (v+1) (a.1.set v (x:Int)) a.2 (by omega) ha2 p1 p2 fun c hcm hlt=>by
    by_cases e:fS (cr r c)=(v:Int)
    ·exact A8 hs p1.le (p1.off hC) hr hcm (hask c hcm e)
    ·have hlv:fS (cr r c)<(v:Int):=by omega
     rw [tP (b:=vs) fun p hp=>hag p (by have:=zn hp;omega)]
     exact hc c hcm hlv
   exact ⟨q1,q2,q3,fun i hi=>by rw [q4 i (by omega)];exact hag i hi⟩
  ·exact ⟨p1,p2,ha2,hag⟩
theorem EO{n:Nat}(n1:1≤n){rs:List aJ}{L C:Lk}(hs:zm rs)(hC:Over rs L C)(hcl:kH n rs C){r:aJ}(hr:r ∈ rs){s:DB×Bool}(hm:Gy rs L C s)(hl:∀ p,s.1 r.name=some p→p.2.length=n ^ r.args.l.length):Gy rs L C (iI n r s):=by
 unfold iI tL
 split
 ·rename_i hask
  rw [qF] at hask
  have ha:Ch n r (List.replicate (varsOf r).length 0):=⟨by simp,xb n1 _⟩
  refine (Ba hs hC hcl hr (varsOf r).length 0 _ s (by omega) ha hm hl fun c hcm hlt=>?_).1
  have h1:=Gx (cr r c)
  exact A8 hs hm.le (hm.off hC) hr hcm (hask c hcm (by omega))
 ·exact hm
def ku(n:Nat)(rs:List aJ)(D:DB):Prop:=∀ r ∈ rs,∀ p,D r.name=some p→p.2.length=n ^ r.args.l.length
theorem Gz{n:Nat}{rs:List aJ}{r:aJ}{vs:List Int}{s:DB×Bool}(h:ku n rs s.1):ku n rs (oA n r vs s).1:=fun q hq=>FH (h q hq)
theorem B4{n:Nat}(n1:1≤n){rs:List aJ}{r:aJ}{s:DB×Bool}(h:ku n rs s.1):ku n rs (iI n r s).1:=nN (Q:=fun s:DB×Bool=>ku n rs s.1) n1 (fun vs s _ _ h=>Gz h) h
theorem GA{n:Nat}(n1:1≤n){rs:List aJ}{L C:Lk}(hs:zm rs)(hC:Over rs L C)(hcl:kH n rs C){s:DB×Bool}(hm:Gy rs L C s)(hl:ku n rs s.1):Gy rs L C (jA n rs s)∧ku n rs (jA n rs s).1:=by
 unfold jA
 exact gG (P:=fun s:DB×Bool=>Gy rs L C s∧ku n rs s.1) ⟨hm,hl⟩ fun s r hr h=>⟨EO n1 hs hC hcl hr h.1 (h.2 r hr),B4 n1 h.2⟩
theorem Bb{n:Nat}(n1:1≤n){rs:List aJ}{C:Lk}{D0 D:DB}(hs:zm rs)(hC:Over rs (cN D0) C)(hcl:kH n rs C)(hl:ku n rs D0)(hr:Reach n rs D0 D):Gy rs (cN D0) C (D,false)∧ku n rs D:=by
 induction hr with
 |refl=>exact ⟨⟨.refl _ _,hC.le⟩,hl⟩
 |step D _ ih=>
  obtain ⟨h1,h2⟩:=GA n1 hs hC hcl ih.1 ih.2
  exact ⟨⟨h1.over,h1.le⟩,h2⟩
def Still(s0 s:DB×Bool):Prop:=s.2=false→s=s0
theorem GB{n:Nat}{r:aJ}{vs:List Int}{s0 s:DB×Bool}(h:Still s0 s):Still s0 (oA n r vs s):=by
 intro hf
 unfold oA at hf ⊢
 cases hp:s.1 r.name with
 |none=>rw [hp] at hf;exact h hf
 |some p=>
  rw [hp] at hf
  simp only at hf ⊢
  split at hf
  ·rename_i e;rw [if_pos e];exact h hf
  ·cases hf
theorem pX{n:Nat}{r:aJ}{s0:DB×Bool}:∀ (m v:Nat) (vs:List Int) (s:DB×Bool),Still s0 s→Still s0 (fC (fun s=>s.1) (oA n r) n r m v vs s).2
 |0,v,vs,s,h=>GB h
 |m+1,v,vs,s,h=>by
  refine gG (P:=fun (a:List Int×(DB×Bool))=>Still s0 a.2) h fun a x _ ha=>?_
  unfold iR
  split
  ·exact pX m (v+1) _ _ ha
  ·exact ha
theorem tQ{n:Nat}{r:aJ}{s0 s:DB×Bool}(h:Still s0 s):Still s0 (iI n r s):=by
 unfold iI tL
 split
 ·exact pX _ _ _ _ h
 ·exact h
theorem nQ{α β:Type}{st:α→DB×Bool}{f:α→β→α}(hf:∀ s0 a b,Still s0 (st a)→Still s0 (st (f a b))):∀ (l:List β) (a:α) {D:DB},st (l.foldl f a)=(D,false)→st a=(D,false)
 |[],a,D,h=>h
 |b :: l,a,D,h=>by
  have h1:=nQ hf l (f a b) h
  have h2:Still (st a) (st (f a b)):=hf (st a) a b (fun _=>rfl)
  rw [← h2 (by rw [h1]),h1]
theorem zo{α β:Type}{f:α→β→α}{l:List β}{b:β}(hb:b ∈ l)(a:α):∃ l1 l2,l=l1++b :: l2∧l.foldl f a=l2.foldl f (f (l1.foldl f a) b):=by
 obtain ⟨l1,l2,h⟩:=List.append_of_mem hb
 exact ⟨l1,l2,h,by rw [h,List.foldl_append,List.foldl_cons]⟩
theorem vJ{n:Nat}{r:aJ}{m v:Nat}(s0:DB×Bool)(a:List Int×(DB×Bool))(x:Nat)(h:Still s0 a.2):Still s0 (iR (fun s=>s.1) n r v (fC (fun s=>s.1) (oA n r) n r m (v+1)) a x).2:=by
 unfold iR
 split
 ·exact pX m (v+1) _ _ h
 ·exact h
theorem vK{n:Nat}{r:aJ}:∀ (m v:Nat) (vs:List Int) (s:DB×Bool),Ch n r vs→Ch n r (fC (fun s=>s.1) (oA n r) n r m v vs s).1∧∀ i,i<v→(fC (fun s=>s.1) (oA n r) n r m v vs s).1.getD i 0=vs.getD i 0
 |0,v,vs,s,ha=>⟨ha,fun _ _=>rfl⟩
 |m+1,v,vs,s,ha=>by
  refine gG (P:=fun (a:List Int×(DB×Bool))=>Ch n r a.1∧∀ i,i<v→a.1.getD i 0=vs.getD i 0) ⟨ha,fun _ _=>rfl⟩ fun a y hy hP=>?_
  have hyn:y<n:=List.mem_range.1 hy
  have ha2:Ch n r (a.1.set v (y:Int)):=⟨by rw [List.length_set];exact hP.1.1,nM hP.1.2 v hyn⟩
  have hag2:∀ i,i<v→(a.1.set v (y:Int)).getD i 0=vs.getD i 0:=fun i hi=>by rw [getD_set_ne (by omega)];exact hP.2 i hi
  unfold iR
  split
  ·obtain ⟨w1,w2⟩:=vK m (v+1) (a.1.set v (y:Int)) a.2 ha2
   exact ⟨w1,fun i hi=>by rw [w2 i (by omega)];exact hag2 i hi⟩
  ·exact ⟨ha2,hag2⟩
theorem Bc{n:Nat}{r:aJ}{D:DB}(hD:∃ p,D r.name=some p):∀ (m v:Nat) (vs:List Int),v+m=(varsOf r).length→Ch n r vs→(fC (fun s=>s.1) (oA n r) n r m v vs (D,false)).2=(D,false) →
  ∀ us,Ch n r us→(∀ i,i<v→us.getD i 0=vs.getD i 0)→Af n (cN D) r us=true→cN D r.name (zl n r us)=true
 |0,v,vs,hv,ha,hf,us,hu,hag,happ=>by
  obtain ⟨p,hp⟩:=hD
  have:us=vs:=by
   refine List.ext_getElem? fun i=>?_
   by_cases hi:i<(varsOf r).length
   ·have:=hag i (by omega)
    rw [List.getD_eq_getElem?_getD,List.getD_eq_getElem?_getD,List.getElem?_eq_getElem (by rw [hu.1];exact hi),List.getElem?_eq_getElem (by rw [ha.1];exact hi)] at this
    rw [List.getElem?_eq_getElem (by rw [hu.1];exact hi),List.getElem?_eq_getElem (by rw [ha.1];exact hi)]
    exact congrArg some this
   ·rw [List.getElem?_eq_none (by rw [hu.1];omega),List.getElem?_eq_none (by rw [ha.1];omega)]
  subst this
  have hf':oA n r us (D,false)=(D,false):=hf
  unfold oA at hf'
  simp only [hp] at hf'
  unfold cN zl
  simp only [hp]
  split at hf'
  ·assumption
  ·exact absurd (congrArg Prod.snd hf') (by simp)
 |m+1,v,vs,hv,ha,hf,us,hu,hag,happ=>by
  have hvl:v<us.length:=by rw [hu.1];omega
  have hin:=HY hu.2 (List.getElem?_eq_getElem hvl)
  obtain ⟨x,hx⟩:∃ x:Nat,us[v]=(x:Int):=⟨us[v].toNat,by omega⟩
  have hxn:x<n:=by omega
  have hux:us.getD v 0=(x:Int):=by rw [List.getD_eq_getElem?_getD,List.getElem?_eq_getElem hvl];exact hx
  have hf0:((List.range n).foldl (iR (fun s=>s.1) n r v (fC (fun s=>s.1) (oA n r) n r m (v+1))) (vs,((D,false):DB×Bool))).2=(D,false):=hf
  obtain ⟨l1,l2,hl,hfo⟩:=zo (f:=iR (fun s=>s.1) n r v (fC (fun s=>s.1) (oA n r) n r m (v+1))) (List.mem_range.2 hxn) (vs,((D,false):DB×Bool))
  rw [hfo] at hf0
  have h1:=nQ (st:=fun a:List Int×(DB×Bool)=>a.2) (fun s0 a b h=>vJ s0 a b h) l2 _ hf0
  have hmid:(l1.foldl (iR (fun s=>s.1) n r v (fC (fun s=>s.1) (oA n r) n r m (v+1))) (vs,((D,false):DB×Bool))).2=(D,false):=by
   have h2:=vJ (m:=m) (n:=n) (r:=r) (v:=v) _ (l1.foldl (iR (fun s=>s.1) n r v (fC (fun s=>s.1) (oA n r) n r m (v+1))) (vs,((D,false):DB×Bool))) x (fun _=>rfl)
   exact (h2 (congrArg Prod.snd h1)).symm.trans h1
  have hok:Ch n r (l1.foldl (iR (fun s=>s.1) n r v (fC (fun s=>s.1) (oA n r) n r m (v+1))) (vs,((D,false):DB×Bool))).1∧∀ i,i<v→(l1.foldl (iR (fun s=>s.1) n r v (fC (fun s=>s.1) (oA n r) n r m (v+1))) (vs,((D,false):DB×Bool))).1.getD i 0=vs.getD i 0:=by
   refine gG (P:=fun (a:List Int×(DB×Bool))=>Ch n r a.1∧∀ i,i<v→a.1.getD i 0=vs.getD i 0) ⟨ha,fun _ _=>rfl⟩ fun a y hy hP=>?_
   have hyn:y<n:=List.mem_range.1 (by rw [hl];exact List.mem_append_left _ hy)
   have ha2:Ch n r (a.1.set v (y:Int)):=⟨by rw [List.length_set];exact hP.1.1,nM hP.1.2 v hyn⟩
   have hag2:∀ i,i<v→(a.1.set v (y:Int)).getD i 0=vs.getD i 0:=fun i hi=>by rw [getD_set_ne (by omega)];exact hP.2 i hi
   unfold iR
   split
   ·obtain ⟨w1,w2⟩:=vK (n:=n) (r:=r) m (v+1) (a.1.set v (y:Int)) a.2 ha2
    exact ⟨w1,fun i hi=>by rw [w2 i (by omega)];exact hag2 i hi⟩
   ·exact ⟨ha2,hag2⟩
  generalize hacc:l1.foldl (iR (fun s=>s.1) n r v (fC (fun s=>s.1) (oA n r) n r m (v+1))) (vs,((D,false):DB×Bool))=acc at h1 hmid hok
  obtain ⟨av,sv⟩:=acc
  replace hmid:sv=(D,false):=hmid
  subst hmid
  have hagu:∀ i,i<v+1→us.getD i 0=(av.set v (x:Int)).getD i 0:=fun i hi=>by
   by_cases e:i=v
   ·subst e;rw [hux,DE (by rw [hok.1.1];omega)]
   ·rw [getD_set_ne e,hok.2 i (by omega)];exact hag i (by omega)
  have hask:wE n (cN D) r (av.set v (x:Int)) (v:Int)=true:=by
   rw [qF]
   intro c hc e
   rw [tP (b:=us) fun p hp=>(hagu p (by have:=zn hp;omega)).symm]
   unfold Af at happ
   rw [List.all_eq_true] at happ
   exact happ c hc
  unfold iR at h1
  simp only [hask,if_true] at h1
  exact Bc hD m (v+1) (av.set v (x:Int)) (by omega) ⟨by rw [List.length_set];exact hok.1.1,nM hok.1.2 v hxn⟩ h1 us hu hagu happ
theorem EP{n:Nat}(n1:1≤n){r:aJ}{D:DB}(hD:∃ p,D r.name=some p)(h:iI n r (D,false)=(D,false))(us:List Int)(hu:Ch n r us)(happ:Af n (cN D) r us=true):cN D r.name (zl n r us)=true:=by
 unfold iI tL at h
 have hask:wE n (cN D) r (List.replicate (varsOf r).length 0) (-1)=true:=by
  rw [qF]
  intro c hc e
  have hno:cr r c = []:=by
   cases hps:cr r c with
   |nil=>rfl
   |cons p ps=>
    have:=zn (ps:=cr r c) (p:=p) (by rw [hps];exact List.mem_cons_self)
    omega
  unfold Af at happ
  rw [List.all_eq_true] at happ
  have:=happ c hc
  rw [hno] at this ⊢
  exact this
 simp only [hask,if_true] at h
 exact Bc hD (varsOf r).length 0 _ (by omega) ⟨by simp,xb n1 _⟩ h us hu (fun i hi=>by omega) happ
theorem GC{n:Nat}(n1:1≤n){rs:List aJ}{D:DB}(hD:∀ r ∈ rs,∃ p,D r.name=some p)(h:jA n rs (D,false)=(D,false)):kH n rs (cN D):=by
 intro r hr us hu happ
 obtain ⟨l1,l2,hl,hfo⟩:=zo (f:=fun s r=>iI n r s) hr ((D,false):DB×Bool)
 unfold jA at h
 rw [hfo] at h
 have h1:=nQ (st:=fun a:DB×Bool=>a) (f:=fun s r=>iI n r s) (fun s0 a b h=>tQ h) l2 _ h
 have h2:=nQ (st:=fun a:DB×Bool=>a) (f:=fun s (r:aJ)=>iI n r s) (fun s0 a b h=>tQ h) [r] (l1.foldl (fun s r=>iI n r s) (D,false)) (D:=D) (by simpa using h1)
 replace h2:l1.foldl (fun s r=>iI n r s) ((D,false):DB×Bool)=(D,false):=h2
 rw [h2] at h1
 exact EP n1 (hD r hr) h1 us hu happ
theorem GD{n:Nat}{rs:List aJ}{D0 D:DB}{nm:bA}(n1:1≤n)(hr:Reach n rs D0 D)(h:∃ p,D0 nm=some p):∃ p,D nm=some p:=by
 induction hr with
 |refl=>exact h
 |step D _ ih=>
  show ∃ p,(jA n rs (D,false)).1 nm=some p
  unfold jA
  refine gG (P:=fun s:DB×Bool=>∃ p,s.1 nm=some p) ih fun s r _ hs=>?_
  refine nN (Q:=fun s:DB×Bool=>∃ p,s.1 nm=some p) n1 (fun vs s _ _ hs=>?_) hs
  obtain ⟨p,hp⟩:=hs
  unfold oA
  cases hq:s.1 r.name with
  |none=>exact ⟨p,hp⟩
  |some q=>
   simp only
   split
   ·exact ⟨p,hp⟩
   ·unfold iQ
    by_cases e:nm=r.name
    ·exact ⟨_,if_pos e⟩
    ·exact ⟨p,by simp only [if_neg e];exact hp⟩
theorem DF{n:Nat}(n1:1≤n){rs:List aJ}{D0 D:DB}(hs:zm rs)(hl:ku n rs D0)(hD:∀ r ∈ rs,∃ p,D0 r.name=some p)(hr:Reach n rs D0 D)(hp:jA n rs (D,false)=(D,false)):nP n rs (cN D0) (cN D):=by
 have hcl:=GC n1 (fun r hq=>GD n1 hr (hD r hq)) hp
 refine ⟨?_,hcl,fun C hC hcC=>(Bb n1 hs hC hcC hl hr).1.le⟩
 have top:Over rs (cN D0) (fun nm k=>if (∃ r ∈ rs,r.name=nm) then true else cN D0 nm k):=⟨fun nm k h=>by
   by_cases e:∃ r ∈ rs,r.name=nm
   ·simp [e]
   ·simp [e,h],fun nm hn k=>by
   rw [if_neg]
   rintro ⟨r,h1,h2⟩
   exact hn r h1 h2⟩
 exact (Bb (C:=fun nm k=>if (∃ r ∈ rs,r.name=nm) then true else cN D0 nm k) n1 hs top (fun r hr vs _ _=>if_pos ⟨r,hr,rfl⟩) hl hr).1.over
theorem ku.GF{n:Nat}{rs:List aJ}{A B:DB}(h:ku n rs A)(hd:dK B A):ku n rs B:=fun r hr p hp=>by
 obtain ⟨p0,h1,_,h3⟩:=hd.back hp
 rw [h3];exact h r hr p0 h1
theorem ER{n:Nat}(n1:1≤n){rs:List aJ}{D0 D:DB}(hr:Reach n rs D0 D):dK D D0:=by
 induction hr with
 |refl=>exact fun _=>rfl
 |step D _ ih=>
  show dK (jA n rs (D,false)).1 D0
  unfold jA
  refine gG (P:=fun s:DB×Bool=>dK s.1 D0) ih fun s r _ hs=>?_
  refine nN (Q:=fun s:DB×Bool=>dK s.1 D0) n1 (fun vs s _ _ hs=>?_) hs
  unfold oA
  cases hq:s.1 r.name with
  |none=>exact hs
  |some q=>
   simp only
   split
   ·exact hs
   ·exact hs.set hq (by simp)
theorem GG{n:Nat}(n1:1≤n){rs:List aJ}{lv:Lev.Lv}{D0:DB}(hlv:A9 rs lv)(hl:ku n rs D0)(hD:∀ r ∈ rs,∃ p,D0 r.name=some p):∀ {t:Nat} {D:DB},AU n rs lv D0 t D→fT n rs lv (cN D0) t (cN D)∧dK D D0:=by
 intro t D h
 induction h with
 |zero=>exact ⟨.zero,fun _=>rfl⟩
 |succ l D D' _ hr hp ih=>
  have hd:=(ER n1 hr).trans ih.2
  refine ⟨.succ l _ _ ih.1 (DF n1 (hlv.Ph l) (fun r hr=>hl.GF ih.2 r (mw.1 hr).1) (fun r hr=>?_) hr hp),hd⟩
  obtain ⟨p,h1⟩:=hD r (mw.1 hr).1
  obtain ⟨q,h2,_⟩:=ih.2.get h1
  exact ⟨q,h2⟩
end
end Go.AM
namespace Go.AM
open Go Go.Proofs
noncomputable section
theorem DG{b:Nat}{h:af}{es:List Entry}{ck:Nat}{m:jS}(hb:h.get b=some (.map es ck))(hm:pz es m)(k:bA)(v:AV) :
  ∃ es' ck',dR .string (.map b) (.str k) v h=some (h.set b (.map es' ck'))∧pz es' (m.nA k v):=by
 obtain ⟨r,hr,hm'⟩:=pz.gJ (k:=k) 0 hm
 simp only [dR,hb,mK,mJ,if_true,hr]
 cases r with
 |none=>simp at hm';exact ⟨_,_,rfl,hm.append hm' v ck⟩
 |some jv=>
  obtain ⟨n,hj,_,e⟩:=hm'
  obtain ⟨j,w⟩:=jv
  simp only [Nat.zero_add] at hj
  subst hj
  exact ⟨_,_,rfl,e v⟩
theorem Iu(m:jS)(k j:bA)(v:AV):(m.nA k v).find j=if j=k then some v else m.find j:=by
 induction m with
 |nil=>
  simp only [jS.nA,jS.find,List.find?_cons,List.find?_nil]
  by_cases h:j=k
  ·subst h;simp
  ·have:(j==k)=false:=by simpa using h
   rw [this,if_neg h]
 |cons p m ih=>
  simp only [jS.nA]
  by_cases hk:k=p.1
  ·rw [if_pos (by simpa using hk)]
   subst hk
   simp only [jS.find,List.find?_cons]
   by_cases h:j=p.1
   ·subst h;simp
   ·have:(j==p.1)=false:=by simpa using h
    rw [this,if_neg h]
  ·rw [if_neg (by simpa using hk)]
   simp only [jS.find,List.find?_cons] at ih ⊢
   by_cases h:j=p.1
   ·subst h
    simp only [beq_self_eq_true,Option.map_some]
    rw [if_neg (Ne.symm hk)]
   ·have:(j==p.1)=false:=by simpa using h
    rw [this]
    exact ih
theorem Iv{n k:Nat}{l:List (Sl Int)}(h:tJ n k l=true){i:Nat}{t:Sl Int}(ht:l[i]?=some t):t.l.length=k∧gd n t.l=true:=by
 have:=tN h (List.getElem?_eq_some_iff.1 ht).1
 unfold jy at this
 rw [ht] at this
 simp only [Bool.and_eq_true,decide_eq_true_eq] at this
 exact ⟨this.1,this.2.1⟩
end
end Go.AM
namespace Go.AM
open Go Go.Proofs
noncomputable section
theorem pY(n:Nat):∀ k r,(kq n k r).length=k
 |0,_=>rfl
 |k+1,r=>by rw [kq,List.length_append,pY n k];rfl
end
end Go.AM
namespace Go.AM
open Go Go.Proofs
noncomputable section
def ES(es:List Entry)(ck:Nat)(m:cS):Prop:=iA es m∧ig es ck∧(m.map (·.1)).Nodup
theorem tR{P M:Nat}{v w:AV}{h:af}{es:List Entry}{ck:Nat}{m:cS}(hP:h.get P=some (.cells [v,.map M,w]))(hM:h.get M=some (.map es ck))(hm0:ES es ck m)(hPn:P<h.next)(hMn:M<h.next){nm:bA}{xs:Sl bA}{K:Out→af→Bool}
  (hK:∀ h' es' ck',h'.get M=some (.map es' ck')→ES es' ck' (m.nA nm xs.l.length)→(∀ b,b<h.next→b≠M→h'.get b=h.get b)→h.next≤h'.next→K (.ret (.bool (Gl m nm xs.l.length))) h'=true) :
  Sem Tryz.prog 131 [.ptr P 0,.agg [.str nm,aq encS 1 xs]] h K:=by
 obtain ⟨hm,hB,hnd⟩:=hm0
 unfold Gl at hK
 refine F.mS ?_
 rw [F.nE]
 have hb:ef (.agg [.str nm,aq encS 1 xs])=some (fW nm xs):=cI (uI nm xs)
 simp only [hb,bindO_some]
 have g0:(af.alloc h (.cells (fW nm xs))).get h.next=some (.cells (fW nm xs)):=aI _ _
 have gP:(af.alloc h (.cells (fW nm xs))).get P=some (.cells [v,.map M,w]):=by rw [af.aX,if_neg (by omega)];exact hP
 have gM:(af.alloc h (.cells (fW nm xs))).get M=some (.map es ck):=by rw [af.aX,if_neg (by omega)];exact hM
 have gx:bK h (af.alloc h (.cells (fW nm xs))):=bK.alloc _ _
 generalize (af.alloc h (.cells (fW nm xs)))=H at g0 gP gM gx ⊢
 have g0':∀ x,(H.set M x).get h.next=some (.cells (fW nm xs)):=fun x=>by rw [af.aS,if_neg (by omega)];exact g0
 obtain ⟨es',ck',hu,hue⟩:=xS gM hm nm xs.l.length
 simp only [aQ,Nat.reduceAdd,Nat.reduceEqDiff,reduceIte,bF,ak gP,ak g0,fW,nB gM hm,hu]
 have fin:=hK (H.set M (.map es' ck')) es' ck' (by rw [af.aS,if_pos rfl]) ⟨hue,rj gM hB hu (by rw [af.aS,if_pos rfl]),AN hnd nm _⟩ (fun b hb hne=>by rw [af.aS,if_neg hne];exact gx.get b hb) (by rw [af.next_set];exact gx.next)
 cases hf:m.find nm with
 |none=>
  rw [hf] at fin
  simp only [Option.isSome_none,Bool.not_false,aD]
  exact fin
 |some k=>
  rw [hf] at fin
  simp only [Option.isSome_some,Bool.not_true,aC,Option.getD_some,aQ,Nat.reduceAdd,Nat.reduceEqDiff,reduceIte,ak (g0' _),fW,ct]
  exact fin
set_option maxHeartbeats 1000000 in
theorem GH{rules:Sl aJ}(hok:∀ r ∈ rules.l,r.ok)(hfew:∀ r ∈ rules.l,r.lR){h:af}{K:Out→af→Bool}
  (hno:¬ jx rules.l→∀ h',(∀ b,b<h.next→h'.get b=h.get b)→K (.ret (.tuple [.nilp,.bool false])) h'=true)
  (hyes:∀ h' P A M ks k,jx rules.l→Lev.cK (bD rules.l) (Lev.iter (bD rules.l) k)→h'.get P=some (.cells [aq aM 3 rules,.map A,.map M])→dZ (bg rules.l) h' M ks (Lev.iter (bD rules.l) k)→ks.Nodup→P<h'.next→M<h'.next→∀ m es ck,dO rules.l []=some m→h'.get A=some (.map es ck)→ES es ck m→h.next≤A→A<M→M<P→(∀ b,b<h.next→h'.get b=h.get b)→K (.ret (.tuple [.ptr P 0,.bool true])) h'=true):Sem Tryz.prog 83 [aq aM 3 rules] h K:=by
 refine F.BO ?_
 rw [F.CT]
 simp only [af.next_alloc,Pc,Pd,bindO_some]
 have gA:(af.alloc (af.alloc (af.alloc h (.map [] 0)) (.map [] 0)) (.cells [aq aM 3 rules,.map h.next,.map (h.next+1)])).get h.next=some (.map [] 0):=by
  rw [af.aX,af.next_alloc,af.next_alloc,if_neg (by omega),af.aX,af.next_alloc,if_neg (by omega)];exact aI _ _
 have gM:(af.alloc (af.alloc (af.alloc h (.map [] 0)) (.map [] 0)) (.cells [aq aM 3 rules,.map h.next,.map (h.next+1)])).get (h.next+1)=some (.map [] 0):=by
  rw [af.aX,af.next_alloc,af.next_alloc,if_neg (by omega)];exact aI _ _
 have gP:(af.alloc (af.alloc (af.alloc h (.map [] 0)) (.map [] 0)) (.cells [aq aM 3 rules,.map h.next,.map (h.next+1)])).get (h.next+1+1)=some (.cells [aq aM 3 rules,.map h.next,.map (h.next+1)]):=aI _ _
 have gn:(af.alloc (af.alloc (af.alloc h (.map [] 0)) (.map [] 0)) (.cells [aq aM 3 rules,.map h.next,.map (h.next+1)])).next=h.next+1+1+1:=rfl
 have gF:∀ b,b<h.next→(af.alloc (af.alloc (af.alloc h (.map [] 0)) (.map [] 0)) (.cells [aq aM 3 rules,.map h.next,.map (h.next+1)])).get b=h.get b:=(((bK.alloc _ _).trans (bK.alloc _ _)).trans (bK.alloc _ _)).get
 generalize (af.alloc (af.alloc (af.alloc h (.map [] 0)) (.map [] 0)) (.cells [aq aM 3 rules,.map h.next,.map (h.next+1)]))=H0 at gA gM gP gn gF ⊢
 obtain ⟨A,hA⟩:∃ A,A=h.next:=⟨_,rfl⟩
 obtain ⟨M,hM⟩:∃ M,M=h.next+1:=⟨_,rfl⟩
 obtain ⟨P,hP⟩:∃ P,P=h.next+1+1:=⟨_,rfl⟩
 rw [← hP] at gP gn ⊢
 rw [← hM] at gM gP ⊢
 rw [← hA] at gA gP gF ⊢
 have hAM:A<M:=by omega
 have hMP:M<P:=by omega
 clear hM hP
 simp only [aQ,Nat.reduceAdd,Nat.reduceEqDiff,reduceIte]
 by_cases h61:60<rules.l.length
 ·simp only [decide_eq_true (by omega:(60:Int)<(rules.l.length:Int)),aD]
  exact hno (fun hg=>by have:=hg.lR;omega) _ (fun b hb=>gF b (by omega))
 have h60:rules.l.length≤60:=by omega
 simp only [decide_eq_false (by omega:¬ (60:Int)<(rules.l.length:Int)),aC]
 have hbig:rules.l.length≤cy:=by unfold cy;omega
 have bad:dO rules.l []=none→∀ h',(∀ b,b<A→h'.get b=h.get b)→K (.ret (.tuple [.nilp,.bool false])) h'=true:=fun hn h' hf=>hno (fun hg=>by obtain ⟨m,hm⟩:=hg.go;rw [hn] at hm;cases hm) h' (fun b hb=>hf b (by omega))
 refine aE 0 rules.l.length (Nat.zero_le _) (fun i e h'=>∃ m ks es ck,(∀ b,b<A→h'.get b=h.get b)∧dO rules.l []=dO (rules.l.drop i) m∧h'.get A=some (.map es ck)∧ES es ck m∧dZ (bg (rules.l.take i)) h' M ks (fun _=>0)∧ks.Nodup ∧
  h'.get P=some (.cells [aq aM 3 rules,.map A,.map M])∧P<h'.next∧e 4 = .ptr P 0∧e 17=aq aM 3 rules∧e 18 = .int .i64 (rules.l.length:Int)∧e 19 = .int .i64 (i:Int))
  ⟨[],[],[],0,gF,rfl,gA,⟨trivial,ig.nil 0,List.nodup_nil⟩,⟨[],0,[],gM,trivial,ig.nil 0,rfl,fun x=>by simp [bg,cS.find]⟩,List.nodup_nil,gP,by omega,rfl,rfl,rfl,rfl⟩ ?_ ?_
 ·rintro i e h' _ hi ⟨m,ks,es,ck,hF,hm,qA,hmI,la,hks,qP,hPn,e4,e17,e18,e19⟩ K' hn hx hr hp
  have hv:rules.l[i]?=some rules.l[i]:=List.getElem?_eq_getElem hi
  generalize rules.l[i]=r at hv
  have hrok:=hok r (List.mem_of_getElem? hv)
  have hrf:=hfew r (List.mem_of_getElem? hv)
  obtain ⟨H,hs1,g1,go,gn1⟩:=cJ (h:=h') (zs:=[.str [],.nils,.nils]) (cs:=aM r) (n:=3) rfl rfl (ji r)
  have pA:H.get A=some (.map es ck):=by rw [go A (by omega)];exact qA
  have pP:H.get P=some (.cells [aq aM 3 rules,.map A,.map M]):=by rw [go P (by omega)];exact qP
  have pl:dZ (bg (rules.l.take i)) H M ks (fun _=>0):=la.keep (go M (by omega))
  rw [AP hv,dO] at hm
  rw [F.bT.aP]
  simp only [e4,e17,e18,e19,aQ,Nat.reduceAdd,Nat.reduceEqDiff,reduceIte,bf hi,aT rules hi,c8 eP hv,hs1]
  simp only [aQ,Nat.reduceAdd,Nat.reduceEqDiff,reduceIte,ak g1,aM,Fw]
  refine an (yL hrok.2.1 ?_)
  simp only [aQ,Nat.reduceAdd,Nat.reduceEqDiff,reduceIte]
  cases ha:jI r.name r.args.l with
  |false=>
   rw [ha,cond_false] at hm
   simp only [Bool.not_false,aD]
   rw [hr,F.bT.bp]
   exact bad hm _ (fun b hb=>by rw [go b (by omega)];exact hF b hb)
  |true=>
  rw [ha,cond_true,AR] at hm
  simp only [Bool.not_true,aC,aQ,Nat.reduceAdd,Nat.reduceEqDiff,reduceIte,ak g1,aM,Fw,e4]
  refine an (tR pP pA hmI (by omega) (by omega) fun h3 es3 ck3 a1 a2 a3 a4=>?_)
  simp only [aQ,Nat.reduceAdd,Nat.reduceEqDiff,reduceIte]
  cases hq:Gl m r.name r.args.l.length with
  |false=>
   rw [hq,if_neg (by simp)] at hm
   simp only [Bool.not_false,aD]
   rw [hr,F.bT.bp]
   exact bad hm _ (fun b hb=>by rw [a3 b (by omega) (by omega),go b (by omega)];exact hF b hb)
  |true=>
  rw [hq,if_pos rfl] at hm
  have g3:h3.get h'.next=some (.cells (aM r)):=by rw [a3 _ (by omega) (by omega)];exact g1
  have P3:h3.get P=some (.cells [aq aM 3 rules,.map A,.map M]):=by rw [a3 P (by omega) (by omega)];exact pP
  have l3:dZ (bg (rules.l.take i)) h3 M ks (fun _=>0):=pl.keep (a3 M (by omega) (by omega))
  simp only [Bool.not_true,aC,aQ,Nat.reduceAdd,Nat.reduceEqDiff,reduceIte,ak g3,aM]
  by_cases h20:20<r.body.l.length
  ·simp only at hm
   rw [if_pos h20] at hm
   simp only [decide_eq_true (by omega:(20:Int)<(r.body.l.length:Int)),aD]
   rw [hr,F.bT.bp]
   exact bad hm _ (fun b hb=>by rw [a3 b (by omega) (by omega),go b (by omega)];exact hF b hb)
  simp only at hm
  rw [if_neg h20] at hm
  simp only [decide_eq_false (by omega:¬ (20:Int)<(r.body.l.length:Int)),aC,aQ,Nat.reduceAdd,Nat.reduceEqDiff,reduceIte,ak g3,aM,nL]
  refine an (cF hrf fun x hx1=>?_)
  simp only [aQ,Nat.reduceAdd,Nat.reduceEqDiff,reduceIte,hx1]
  by_cases h12:12<(varsOf r).length
  ·rw [if_pos h12] at hm
   simp only [decide_eq_true (by omega:(12:Int)<((varsOf r).length:Int)),aD]
   rw [hr,F.bT.bp]
   exact bad hm _ (fun b hb=>by rw [a3 b (by omega) (by omega),go b (by omega)];exact hF b hb)
  rw [if_neg h12] at hm
  simp only [decide_eq_false (by omega:¬ (12:Int)<((varsOf r).length:Int)),aC,aQ,Nat.reduceAdd,Nat.reduceEqDiff,reduceIte,ak g3,aM]
  have hbb:r.body.l.length≤cy:=by unfold cy;omega
  refine aE 0 r.body.l.length (Nat.zero_le _) (fun j e h2=>∃ m2 es2 ck2,(∀ b,b<A→h2.get b=h.get b)∧kG r.body.l (m.nA r.name r.args.l.length)=kG (r.body.l.drop j) m2∧h2.get A=some (.map es2 ck2)∧ES es2 ck2 m2∧dZ (bg (rules.l.take i)) h2 M ks (fun _=>0) ∧
   h2.get P=some (.cells [aq aM 3 rules,.map A,.map M])∧h2.get h'.next=some (.cells (aM r))∧h'.next<h2.next∧e 4 = .ptr P 0∧e 6 = .ptr h'.next 0∧e 17=aq aM 3 rules∧e 18 = .int .i64 (rules.l.length:Int)∧e 19 = .int .i64 (i:Int) ∧
   e 47=aq bJ 4 r.body∧e 48 = .int .i64 (r.body.l.length:Int)∧e 49 = .int .i64 (j:Int))
   ⟨_,es3,ck3,fun b hb=>by rw [a3 b (by omega) (by omega),go b (by omega)];exact hF b hb,rfl,a1,a2,l3,P3,g3,by omega,e4,rfl,e17,e18,e19,rfl,rfl,rfl⟩ ?_ ?_
  ·rintro j e h2 _ hj ⟨m2,es2,ck2,hF2,hm2,qA2,hmI2,la2,qP2,qR2,hn2,e4,e6,e17,e18,e19,e47,e48,e49⟩ K2 hnn hx2 hr2 hp2
   have hc:r.body.l[j]?=some r.body.l[j]:=List.getElem?_eq_getElem hj
   generalize r.body.l[j]=c at hc
   have hcok:=hrok.2.2.2.2 c (List.mem_of_getElem? hc)
   obtain ⟨H2,hs2,k1,ko,kn⟩:=cJ (h:=h2) (zs:=[.int .i64 0,.bool false,.str [],.nils]) (cs:=bJ c) (n:=4) rfl rfl (fY c)
   have kA:H2.get A=some (.map es2 ck2):=by rw [ko A (by omega)];exact qA2
   have kP:H2.get P=some (.cells [aq aM 3 rules,.map A,.map M]):=by rw [ko P (by omega)];exact qP2
   have kR:H2.get h'.next=some (.cells (aM r)):=by rw [ko _ (by omega)];exact qR2
   have kl:dZ (bg (rules.l.take i)) H2 M ks (fun _=>0):=la2.keep (ko M (by omega))
   rw [AP hc,kG] at hm2
   rw [F.bT.dc]
   simp only [e4,e6,e17,e18,e19,e47,e48,e49,aQ,Nat.reduceAdd,Nat.reduceEqDiff,reduceIte,bf hj,aT r.body hj,c8 fX hc,hs2]
   simp only [aQ,Nat.reduceAdd,Nat.reduceEqDiff,reduceIte,ak k1,bJ,w8]
   refine an (eF hcok ?_)
   simp only [aQ,Nat.reduceAdd,Nat.reduceEqDiff,reduceIte]
   cases hco:eZ c with
   |false=>
    rw [hco,cond_false] at hm2
    rw [hm2] at hm
    simp only [Bool.not_false,aD]
    rw [hr2,F.bT.gK,hr,F.bT.bp]
    exact bad hm _ (fun b hb=>by rw [ko b (by omega)];exact hF2 b hb)
   |true=>
   rw [hco,cond_true] at hm2
   simp only [Bool.not_true,aC,aQ,Nat.reduceAdd,Nat.reduceEqDiff,reduceIte,ak k1,bJ,ct]
   by_cases k0:c.kind=0
   ·rw [if_pos k0,AR] at hm2
    simp only [decide_eq_true k0,aD,aQ,Nat.reduceAdd,Nat.reduceEqDiff,reduceIte,ak k1,bJ,Fv,e4]
    refine an (tR kP kA hmI2 (by omega) (by omega) fun h4 es4 ck4 b1 b2 b3 b4=>?_)
    simp only [aQ,Nat.reduceAdd,Nat.reduceEqDiff,reduceIte]
    cases hq2:Gl m2 c.name c.args.l.length with
    |false=>
     rw [hq2,if_neg (by simp)] at hm2
     simp only at hm2
     rw [hm2] at hm
     simp only [Bool.not_false,aD]
     rw [hr2,F.bT.gK,hr,F.bT.bp]
     exact bad hm _ (fun b hb=>by rw [b3 b (by omega) (by omega),ko b (by omega)];exact hF2 b hb)
    |true=>
     rw [hq2,if_pos rfl] at hm2
     simp only [Bool.not_true,aC,e49,aK hj hbb,bindO_some]
     refine hnn _ _ ⟨_,es4,ck4,fun b hb=>by rw [b3 b (by omega) (by omega),ko b (by omega)];exact hF2 b hb,hm2,b1,b2,kl.keep (b3 M (by omega) (by omega)),?_,?_,by omega,e4,e6,e17,e18,e19,e47,e48,rfl⟩
     ·rw [b3 P (by omega) (by omega)];exact kP
     ·rw [b3 _ (by omega) (by omega)];exact kR
   ·rw [if_neg k0] at hm2
    simp only [decide_eq_false k0,aC,e49,aK hj hbb,bindO_some]
    exact hnn _ _ ⟨m2,es2,ck2,fun b hb=>by rw [ko b (by omega)];exact hF2 b hb,hm2,kA,hmI2,kl,kP,kR,by omega,e4,e6,e17,e18,e19,e47,e48,rfl⟩
  ·rintro e h2 ⟨m2,es2,ck2,hF2,hm2,qA2,hmI2,la2,qP2,qR2,hn2,e4,e6,e17,e18,e19,e47,e48,e49⟩ K2 hx2
   rw [List.drop_of_length_le (Nat.le_refl _),kG] at hm2
   rw [hm2] at hm
   simp only at hm
   obtain ⟨h5,ks5,u1,u2,u3,u4,u5⟩:=la2.add hks r.name
   rw [F.bT.dc]
   simp only [e48,e49,aQ,Nat.reduceAdd,Nat.reduceEqDiff,reduceIte,aR]
   rw [hx2,F.bT.cx]
   simp only [e4,e6,e19,aQ,Nat.reduceAdd,Nat.reduceEqDiff,reduceIte,bF,ak qP2,ak qR2,aM,u1,aK hi hbig]
   refine hn _ _ ⟨m2,ks5,es2,ck2,fun b hb=>by rw [u4 b (by omega)];exact hF2 b hb,hm,by rw [u4 A (by omega)];exact qA2,hmI2,?_,u3,by rw [u4 P (by omega)];exact qP2,by omega,e4,e17,e18,rfl⟩
   have:bg (rules.l.take (i+1))=bg (rules.l.take i)++[r.name]:=by unfold bg;rw [List.take_add_one,hv];simp
   rw [this];exact u2
 ·rintro e h' ⟨m,ks,es,ck,hF,hm,qA,hmI,la,hks,qP,hPn,e4,e17,e18,e19⟩ K' hx
  rw [List.drop_of_length_le (Nat.le_refl _),dO] at hm
  rw [List.take_of_length_le (Nat.le_refl _)] at la
  have hgo:=iq hm
  have hk60:ks.length≤60:=by
   have:=Lev.mI hks (m:=bg rules.l) fun x hx=>(la.mem x).1 hx
   have h1:(bg rules.l).length=rules.l.length:=by simp [bg]
   omega
  rw [F.bT.aP]
  simp only [e18,e19,aQ,Nat.reduceAdd,Nat.reduceEqDiff,reduceIte,aR]
  rw [hx,F.bT.aG]
  simp only [e4,aQ,Nat.reduceAdd,Nat.reduceEqDiff,reduceIte,bF,ak qP,la.len,aK (i:=ks.length) (n:=61) (by omega) (by unfold cy;omega)]
  refine aE 0 (ks.length+1) (Nat.zero_le _) (fun i e h'=>(∀ b,b<A→h'.get b=h.get b)∧h'.get A=some (.map es ck)∧dZ (bg rules.l) h' M ks (Lev.iter (bD rules.l) i)∧h'.get P=some (.cells [aq aM 3 rules,.map A,.map M])∧P<h'.next∧(∀ j,j<i→¬ Lev.cK (bD rules.l) (Lev.iter (bD rules.l) j)) ∧
   e 4 = .ptr P 0∧e 82 = .int .i64 ((ks.length+1:Nat):Int)∧e 83 = .int .i64 (i:Int)) ⟨hF,qA,la,qP,hPn,fun j hj=>by omega,e4,rfl,rfl⟩ ?_ ?_
  ·rintro i e h2 _ hi ⟨hF2,qA2,l2,q2,n2,st2,e4,e82,e83⟩ K2 hn2 hx2 hr2 hp2
   rw [F.bT.jF]
   simp only [e4,e82,e83,aQ,Nat.reduceAdd,Nat.reduceEqDiff,reduceIte,bf hi]
   refine an (EC (N:=i*1200) q2 l2 n2 (by omega) h60 (fun r hr=>⟨(hgo r hr).2.1,List.mem_map_of_mem hr⟩) (rX h60 (fun r hr=>(hgo r hr).2.1) i) (by omega) fun h3 l3 f3 n3=>?_)
   simp only [aQ,Nat.reduceAdd,Nat.reduceEqDiff,reduceIte,Bool.not_not]
   have qA3:h3.get A=some (.map es ck):=by rw [f3 A (by omega) (by omega)];exact qA2
   have q3:h3.get P=some (.cells [aq aM 3 rules,.map A,.map M]):=by rw [f3 P n2 (by omega)];exact q2
   by_cases hst:Lev.cK (bD rules.l) (Lev.iter (bD rules.l) i)
   ·have hst':Lev.cK (iE (bg rules.l) rules.l) (Lev.iter (bD rules.l) i):=hst
    simp only [decide_eq_true hst',aD]
    rw [hr2,F.bT.tg]
    simp only [bE,Nat.reduceEqDiff,reduceIte,e4]
    rw [Lev.rC hst'] at l3
    exact hyes h3 P A M ks i ⟨h60,⟨m,hm⟩,i,hst⟩ hst q3 l3 hks (by omega) (by omega) m es ck hm qA3 hmI (by omega) hAM hMP (fun b hb=>by rw [f3 b (by omega) (by omega)];exact hF2 b (by omega))
   ·have hst':¬ Lev.cK (iE (bg rules.l) rules.l) (Lev.iter (bD rules.l) i):=hst
    simp only [decide_eq_false hst',aC,e83,aK hi (show ks.length+1≤cy by unfold cy;omega),bindO_some]
    exact hn2 _ _ ⟨fun b hb=>by rw [f3 b (by omega) (by omega)];exact hF2 b hb,qA3,l3,q3,by omega,fun j hj=>by
     by_cases hji:j=i
     ·subst hji;exact hst
     ·exact st2 j (by omega),e4,e82,rfl⟩
  ·rintro e h2 ⟨hF2,_,l2,q2,n2,st2,e4,e82,e83⟩ K2 hx2
   rw [F.bT.jF]
   simp only [e82,e83,aQ,Nat.reduceAdd,Nat.reduceEqDiff,reduceIte,aR]
   rw [hx2,F.bT.fV]
   refine hno (fun hg=>?_) _ (fun b hb=>hF2 b (by omega))
   obtain ⟨k,hk⟩:=hg.lev
   refine st2 ks.length (by omega) (Lev.settle (fun e he=>?_) hk)
   obtain ⟨r,hr,c,hc,_,hin,rfl⟩:=pI he
   exact ⟨(la.mem _).2 hin,(la.mem _).2 (List.mem_map_of_mem hr)⟩
end
end Go.AM
namespace Go.AM
open Go Go.Proofs
noncomputable section
theorem GI(D:DB)(nm:bA)(b:Nat)(d d':List Bool):iQ (iQ D nm b d) nm b d'=iQ D nm b d':=by
 funext j;unfold iQ
 by_cases e:j=nm
 ·rw [if_pos e,if_pos e]
 ·rw [if_neg e,if_neg e,if_neg e]
theorem m8(D:DB)(nm:bA)(b:Nat)(d:List Bool):iQ D nm b d nm=some (b,d):=if_pos rfl
theorem xd{D:DB}{nm j:bA}(h:j≠nm)(b:Nat)(d:List Bool):iQ D nm b d j=D j:=if_neg h
theorem dm.add{D:DB}{h:af}{B lo:Nat}(b:dm D h B lo)(hlo:lo≤h.next)(N:Nat)(nm:bA) :
  ∃ h',dR .string (.map B) (.str nm) (.slice h.next 0 N 1) (h.alloc (.cells ((List.replicate N false).map bv)))=some h'∧dm (iQ D nm h.next (List.replicate N false)) h' B lo∧(∀ c,c<h.next→c≠B→h'.get c=h.get c)∧h'.next=h.next+1:=by
 obtain ⟨es,ck,m,e1,e2,e3⟩:=b.ex
 have hB:=b.lt
 have a1:(h.alloc (.cells ((List.replicate N false).map bv))).get B=some (.map es ck):=by rw [af.aX,if_neg (by omega)];exact e1
 obtain ⟨es',ck',hu,hue⟩:=DG a1 e2 nm (.slice h.next 0 N 1)
 refine ⟨_,hu,⟨⟨es',ck',_,by rw [af.aS,if_pos rfl],hue,fun j=>?_⟩,fun j q hq=>?_,fun j j' q q' hq hq' hqq=>?_,by rw [af.next_set,af.next_alloc];omega⟩,fun c hc hcB=>by rw [af.aS,if_neg hcB,af.aX,if_neg (by omega)],by rw [af.next_set,af.next_alloc]⟩
 ·rw [Iu]
  unfold iQ
  by_cases e:j=nm
  ·rw [if_pos e,if_pos e,Option.map_some,List.length_replicate]
  ·rw [if_neg e,if_neg e,e3]
 ·unfold iQ at hq
  by_cases e:j=nm
  ·rw [if_pos e] at hq;cases hq
   exact ⟨hlo,by rw [af.next_set,af.next_alloc];exact Nat.lt_succ_self _,by show h.next≠B;omega,by rw [af.aS,if_neg (by show h.next≠B;omega)];exact aI _ _⟩
  ·rw [if_neg e] at hq
   obtain ⟨k1,k2,k3,k4⟩:=b.blk j q hq
   exact ⟨k1,by rw [af.next_set,af.next_alloc];omega,k3,by rw [af.aS,if_neg k3,af.aX,if_neg (by omega)];exact k4⟩
 ·unfold iQ at hq hq'
  by_cases e:j=nm
  ·by_cases e':j'=nm
   ·rw [e,e']
   ·rw [if_pos e] at hq;rw [if_neg e'] at hq';cases hq
    have:=(b.blk j' q' hq').2.1
    simp only at hqq;omega
  ·by_cases e':j'=nm
   ·rw [if_neg e] at hq;rw [if_pos e'] at hq';cases hq'
    have:=(b.blk j q hq).2.1
    simp only at hqq;omega
   ·rw [if_neg e] at hq;rw [if_neg e'] at hq';exact b.inj j j' q q' hq hq' hqq
theorem Mf{S n:Nat}{R:AV}{h:af}(hS:h.get S=some (.cells [.int .i64 (n:Int),R]))(h1:1≤n){x:Sl Int}{k:Nat}(hk:x.l.length=k)(hx:k≤12)(hc:n ^ k≤4096)(hb:gd n x.l=true){K:Out→af→Bool}
  (hK:K (.ret (.int .i64 ((jH n x.l:Nat):Int))) h=true):Sem Tryz.prog 69 [.ptr S 0,aq encI 1 x] h K:=EG hS h1 (by omega) (by rw [hk];exact hc) hb hK
theorem KR{n k:Nat}(hk:k≤12)(hc:n ^ k≤4096):Gt n k = .tuple [.int .i64 ((n ^ k:Nat):Int),.int .i64 0]:=by rw [Gt,if_neg (by omega),if_neg (by omega)]
set_option maxHeartbeats 1000000 in
theorem B5{n B S SB P lo:Nat}{s:dP}{D1:DB}(hsok:s.ok)(hsv:cY s=true)(hn:s.size=(n:Int))(n1:1≤n)(n64:n≤64){h:af}{e0:Env}{K:Out→af→Bool}
  (hS:h.get S=some (.cells [.int .i64 (n:Int),.map B])) (hSB:h.get SB=some (.cells (aA s))) (hD:dm D1 h B lo) (hSne:S≠B) (hSBne:SB≠B) (hSn:S<h.next) (hSBn:SB<h.next) (hlo:lo≤h.next)
  (q3:e0 3 = .ptr SB 0) (q7:e0 7 = .ptr P 0) (q17:e0 17 = .ptr S 0) (q154:e0 154=aq bw 3 s.rels) (q155:e0 155 = .int .i64 (s.rels.l.length:Int)) (q156:e0 156 = .int .i64 0)
  (done:∀ h' D',dm D' h' B lo→(∀ r ∈ s.rels.l,∃ b,h.next≤b∧D' r.name=some (b,bitsOf n r.arity.toNat r.tuples.l))→(∀ nm,(∀ r ∈ s.rels.l,r.name≠nm)→D' nm=D1 nm)→(∀ c,c<h.next→c≠B→h'.get c=h.get c)→h.next≤h'.next→K (.ret (.tuple [.ptr P 0,.ptr S 0,.int .i64 0])) h'=true) :
  bS (au Tryz.prog (ah Tryz.prog) F.ax.L5) ⟨e0,198,[],h⟩ (F.ax.PI K)=true:=by
 have hbig:=hsok.1
 have hBn:=hD.lt
 refine aE 0 s.rels.l.length (Nat.zero_le _) (fun i e h'=>∃ D,dm D h' B lo∧(∀ r ∈ s.rels.l.take i,∃ b,h.next≤b∧D r.name=some (b,bitsOf n r.arity.toNat r.tuples.l))∧(∀ nm,(∀ r ∈ s.rels.l.take i,r.name≠nm)→D nm=D1 nm)∧(∀ c,c<h.next→c≠B→h'.get c=h.get c)∧h.next≤h'.next ∧
  e 3 = .ptr SB 0∧e 7 = .ptr P 0∧e 17 = .ptr S 0∧e 154=aq bw 3 s.rels∧e 155 = .int .i64 (s.rels.l.length:Int)∧e 156 = .int .i64 (i:Int))
  ⟨D1,hD,fun r hr=>(by cases hr),fun _ _=>rfl,fun _ _ _=>rfl,Nat.le_refl _,q3,q7,q17,q154,q155,q156⟩ ?_ ?_
 ·rintro i e h' _ hi ⟨D,hDa,hrel,hoth,hfr,hnx,e3,e7,e17,e154,e155,e156⟩ K' hn' hx hr hp
  have hv:s.rels.l[i]?=some s.rels.l[i]:=List.getElem?_eq_getElem hi
  generalize s.rels.l[i]=r at hv
  have hro:r.ok:=hsok.2 r (List.mem_of_getElem? hv)
  have hrb:=zg hsv hv
  rw [show s.size.toNat=n by omega] at hrb
  obtain ⟨k,hk,k12,hkc,hkt⟩:=B1 hrb
  have hkn:r.arity.toNat=k:=by omega
  obtain ⟨H,hs1,g1,go,gn⟩:=cJ (h:=h') (zs:=[.str [],.int .i64 0,.nils]) (cs:=bw r) (n:=3) rfl rfl (fP r)
  have xH:bK h' H:=⟨by omega,fun b hb=>go b (by omega)⟩
  have pSB:H.get SB=some (.cells (aA s)):=by rw [xH.get _ (by omega),hfr _ hSBn hSBne];exact hSB
  have pS:H.get S=some (.cells [.int .i64 (n:Int),.map B]):=by rw [xH.get _ (by omega),hfr _ hSn hSne];exact hS
  have hDH:=hDa.ext xH
  have lz:aj none (.ptr SB 0) H=some (.int .i64 (n:Int)):=by rw [ak pSB,← hn];rfl
  have la:aj none (.ptr h'.next 1) H=some (.int .i64 (k:Int)):=by rw [ak g1,← hk];rfl
  have ln:aj none (.ptr h'.next 0) H=some (.str r.name):=by rw [ak g1];rfl
  obtain ⟨h2,hu,hD2,hf2,hn2⟩:=hDH.add (by omega) (n ^ k) r.name
  have lt:aj none (.ptr h'.next 2) h2=some (aq ey 1 r.tuples):=by rw [ak (show h2.get h'.next=some (.cells (bw r)) by rw [hf2 _ (by omega) (by omega)];exact g1)];rfl
  rw [F.ax.Lo]
  simp only [e154,e155,e156,e3,e17,aQ,Nat.reduceAdd,Nat.reduceEqDiff,reduceIte,bf hi,aT s.rels hi,c8 eR hv,hs1]
  simp only [aQ,Nat.reduceAdd,Nat.reduceEqDiff,reduceIte,lz,la]
  refine an (pQ n1 n64 (by unfold cy;omega) ?_)
  rw [KR k12 hkc]
  simp only [aQ,Nat.reduceAdd,Nat.reduceEqDiff,reduceIte,bF,ak pS,ln,Fy (show n ^ k≤1000000 by omega),hu,lt]
  refine aE 0 r.tuples.l.length (Nat.zero_le _) (fun j e h3=>∃ d,bitsOf n k r.tuples.l=pL n (r.tuples.l.drop j) d∧d.length=n ^ k∧dm (iQ D r.name H.next d) h3 B lo∧(∀ c,c<H.next→c≠B→h3.get c=H.get c)∧h3.next=h2.next ∧
   e 3 = .ptr SB 0∧e 7 = .ptr P 0∧e 17 = .ptr S 0∧e 154=aq bw 3 s.rels∧e 155 = .int .i64 (s.rels.l.length:Int)∧e 156 = .int .i64 (i:Int)∧e 25 = .ptr h'.next 0∧e 177=aq ey 1 r.tuples∧e 178 = .int .i64 (r.tuples.l.length:Int)∧e 179 = .int .i64 (j:Int))
   ⟨_,rfl,by simp,hD2,hf2,rfl,e3,e7,e17,e154,e155,e156,rfl,rfl,rfl,rfl⟩ ?_ ?_
  ·rintro j e h3 _ hj ⟨d,hd,hdl,hD3,hf3,hn3,e3,e7,e17,e154,e155,e156,e25,e177,e178,e179⟩ K2 hnn hx2 hr2 hp2
   have hvt:r.tuples.l[j]?=some r.tuples.l[j]:=List.getElem?_eq_getElem hj
   generalize r.tuples.l[j]=t at hvt
   obtain ⟨htl,htb⟩:=Iv hkt hvt
   rw [Gn hvt] at hd
   have hrk:jH n t.l<d.length:=by have:=pK htb;rw [htl] at this;omega
   have wS:h3.get S=some (.cells [.int .i64 (n:Int),.map B]):=by rw [hf3 _ (by omega) hSne];exact pS
   have wR:h3.get h'.next=some (.cells (bw r)):=by rw [hf3 _ (by omega) (by omega)];exact g1
   have lnm:aj none (.ptr h'.next 0) h3=some (.str r.name):=by rw [ak wR];rfl
   have hlk:=hD3.look (m8 D r.name H.next d)
   obtain ⟨_,_,_,hrow⟩:=hD3.blk r.name _ (m8 D r.name H.next d)
   simp only at hlk hrow
   have hset:=hD3.set (m8 D r.name H.next d) (d:=d.set (jH n t.l) true) (by simp)
   rw [GI] at hset
   simp only at hset
   rw [F.ax.Lq]
   simp only [e17,e25,e177,e178,e179,aQ,Nat.reduceAdd,Nat.reduceEqDiff,reduceIte,bf hj,aT r.tuples hj,iC hvt,bF,ak wS,lnm,hlk]
   refine an (Mf wS n1 htl k12 hkc htb ?_)
   simp only [aQ,Nat.reduceAdd,Nat.reduceEqDiff,reduceIte,ak wS,lnm,hlk,AV.beq_refl,Bool.and_self,Bool.and_true,if_true,j9 hrk,Dd hrow hrk,aK hj hro.2.1]
   exact hnn _ _ ⟨_,hd,by simpa using hdl,hset,fun c hc hcB=>by rw [af.aS,if_neg (by omega)];exact hf3 c hc hcB,by rw [af.next_set];exact hn3,e3,e7,e17,e154,e155,e156,e25,e177,e178,rfl⟩
  ·rintro e h3 ⟨d,hd,hdl,hD3,hf3,hn3,e3,e7,e17,e154,e155,e156,e25,e177,e178,e179⟩ K2 hx2
   rw [List.drop_of_length_le (Nat.le_refl _)] at hd
   simp only [pL] at hd
   rw [F.ax.Lq]
   simp only [e178,e179,aQ,Nat.reduceAdd,Nat.reduceEqDiff,reduceIte,aR]
   rw [hx2,F.ax.Gg]
   simp only [aQ,Nat.reduceAdd,Nat.reduceEqDiff,reduceIte,e156,aK hi hbig]
   refine hn' _ _ ⟨iQ D r.name H.next d,hD3,fun q hq=>?_,fun nm hnm=>?_,fun c hc hcB=>by rw [hf3 c (by omega) hcB,xH.get c (by omega)];exact hfr c hc hcB,by omega,e3,e7,e17,e154,e155,rfl⟩
   ·rw [List.take_add_one,hv] at hq
    rcases List.mem_append.1 hq with hq'|hq'
    ·by_cases e:q.name=r.name
     ·obtain ⟨a,ha⟩:=List.mem_iff_getElem?.1 hq'
      have ha':s.rels.l[a]?=some q:=by
       rw [List.getElem?_take] at ha
       split at ha
       ·exact ha
       ·cases ha
      have hai:a<i:=by
       rw [List.getElem?_take] at ha
       split at ha
       ·assumption
       ·cases ha
      have:=kO (r8 hsv) (i:=a) (j:=i) (s:=q.name) (by rw [List.getElem?_map,ha'];rfl) (by rw [List.getElem?_map,hv,e];rfl)
      omega
     ·obtain ⟨b,b1,b2⟩:=hrel q hq'
      exact ⟨b,b1,by rw [xd e];exact b2⟩
    ·simp only [Option.toList_some,List.mem_singleton] at hq'
     subst hq'
     exact ⟨H.next,by omega,by rw [m8,hkn,hd]⟩
   ·have h1:nm≠r.name:=fun e=>hnm r (by rw [List.take_add_one,hv];simp) e.symm
    rw [xd h1]
    exact hoth nm fun q hq=>hnm q (by rw [List.take_add_one,hv];exact List.mem_append_left _ hq)
 ·rintro e h' ⟨D,hDa,hrel,hoth,hfr,hnx,e3,e7,e17,e154,e155,e156⟩ K' hx
  rw [List.take_of_length_le (Nat.le_refl _)] at hrel hoth
  rw [F.ax.Lo]
  simp only [e155,e156,aQ,Nat.reduceAdd,Nat.reduceEqDiff,reduceIte,aR]
  rw [hx,F.ax.Gf]
  simp only [bE,Nat.reduceEqDiff,reduceIte,e7,e17]
  exact done h' D hDa hrel hoth hfr hnx
end
end Go.AM
namespace Go.AM
open Go Go.Proofs
noncomputable section
theorem dm.mF{D:DB}{h:af}{B lo c:Nat}(b:dm D h B lo)(hc:c<lo)(hcB:c≠B)(x:iL):dm D (h.set c x) B lo:=by
 obtain ⟨es,ck,m,e1,e2,e3⟩:=b.ex
 refine ⟨⟨es,ck,m,by rw [af.aS,if_neg (Ne.symm hcB)];exact e1,e2,e3⟩,fun nm p hp=>?_,b.inj,by rw [af.next_set];exact b.lt⟩
 obtain ⟨k1,k2,k3,k4⟩:=b.blk nm p hp
 exact ⟨k1,by rw [af.next_set];exact k2,k3,by rw [af.aS,if_neg (by omega)];exact k4⟩
theorem Bd:∀ (l:List (bA×Int)) (m m':cS),pW l m=some m'→∀ x k,m'.find x=some k↔((x,k) ∈ l∨m.find x=some k)
 |[],m,m',h,x,k=>by cases h;simp
 |p :: l,m,m',h,x,k=>by
  have fu:=qz m p.1 x p.2
  have hs:IW m p=some (m.nA p.1 p.2)∧∀ j,m.find p.1=some j→j=p.2:=by
   rw [pW] at h
   unfold IW at h ⊢
   cases hf:m.find p.1 with
   |none=>simp
   |some j=>
    rw [hf] at h
    by_cases e:j=p.2
    ·simp [e]
    ·simp [e] at h
  rw [pW,hs.1] at h
  rw [Bd l _ m' h x k,fu]
  by_cases e:x=p.1
  ·rw [if_pos e,List.mem_cons]
   subst e
   constructor
   ·rintro (h1|h1)
    ·exact .inl (.inr h1)
    ·cases h1;exact .inl (.inl rfl)
   ·rintro ((h1|h1)|h1)
    ·exact .inr (by rw [← h1])
    ·exact .inl h1
    ·exact .inr (by rw [hs.2 k h1])
  ·rw [if_neg e,List.mem_cons]
   constructor
   ·rintro (h1|h1)
    ·exact .inl (.inr h1)
    ·exact .inr h1
   ·rintro ((h1|h1)|h1)
    ·exact absurd (congrArg Prod.fst h1) e
    ·exact .inl h1
    ·exact .inr h1
theorem iD{rs:List aJ}{m:cS}(h:dO rs []=some m)(x:bA)(k:Int):m.find x=some k↔(x,k) ∈ cm rs:=by
 rw [nO] at h
 split at h
 ·rw [Bd _ _ _ h]
  simp [cS.find]
 ·cases h
theorem kS{rs:List aJ}{r:aJ}(hr:r ∈ rs):(r.name,(r.args.l.length:Int)) ∈ cm rs:=List.mem_flatMap.2 ⟨r,hr,List.mem_cons_self⟩
theorem m9{nm:bA}{xs:List bA}(h:jI nm xs=true):xs.length≤12:=by
 unfold jI at h
 simp only [Bool.and_eq_true,decide_eq_true_eq] at h
 omega
theorem sg{n:Nat}(n1:1≤n){i j:Nat}(h:i≤j):n ^ i≤n ^ j:=Nat.pow_le_pow_right n1 h
set_option maxHeartbeats 1000000 in
theorem Ag{n SB P S:Nat}{rules:Sl aJ}{s:dP}(hn:s.size=(n:Int))(n1:1≤n)(n64:n≤64)(hfew:∀ r ∈ rules.l,r.lR)(h60:rules.l.length≤60)(h12:∀ r ∈ rules.l,(varsOf r).length≤12){h:af}{e0:Env}{K:Out→af→Bool}
  (hSB:h.get SB=some (.cells (aA s))) (hSBn:SB<h.next) (q3:e0 3 = .ptr SB 0) (q7:e0 7 = .ptr P 0) (q17:e0 17 = .ptr S 0) (q134:e0 134=aq aM 3 rules) (q135:e0 135 = .int .i64 (rules.l.length:Int)) (q136:e0 136 = .int .i64 0)
  (err:(∃ r ∈ rules.l,65536<n ^ (varsOf r).length)→∀ h',bK h h'→K (.ret (.tuple [.nilp,.nilp,.int .i64 5])) h'=true)
  (done:(∀ r ∈ rules.l,n ^ (varsOf r).length≤65536)→∀ (e:Env) h',bK h h'→e 3 = .ptr SB 0→e 7 = .ptr P 0→e 17 = .ptr S 0→F.ax.MB K (.exit 6) ⟨e,198,[],h'⟩=true) :
  bS (au Tryz.prog (ah Tryz.prog) F.ax.L3) ⟨e0,198,[],h⟩ (F.ax.MB K)=true:=by
 have hbig:rules.l.length≤cy:=by unfold cy;omega
 refine aE 0 rules.l.length (Nat.zero_le _) (fun i e h'=>bK h h'∧(∀ r ∈ rules.l.take i,n ^ (varsOf r).length≤65536)∧e 3 = .ptr SB 0∧e 7 = .ptr P 0∧e 17 = .ptr S 0∧e 134=aq aM 3 rules∧e 135 = .int .i64 (rules.l.length:Int)∧e 136 = .int .i64 (i:Int))
  ⟨bK.refl _,fun r hr=>(by cases hr),q3,q7,q17,q134,q135,q136⟩ ?_ ?_
 ·rintro i e h' _ hi ⟨hx,hok,e3,e7,e17,e134,e135,e136⟩ K' hn' hx' hr hp
  have hv:rules.l[i]?=some rules.l[i]:=List.getElem?_eq_getElem hi
  generalize rules.l[i]=r at hv
  have hrm:=List.mem_of_getElem? hv
  have hr12:=h12 r hrm
  obtain ⟨H,hs1,g1,go,gn⟩:=cJ (h:=h') (zs:=[.str [],.nils,.nils]) (cs:=aM r) (n:=3) rfl rfl (ji r)
  have xH:bK h H:=hx.trans ⟨by omega,fun b hb=>go b (by omega)⟩
  have pSB:H.get SB=some (.cells (aA s)):=by rw [xH.get _ hSBn];exact hSB
  have lz:aj none (.ptr SB 0) H=some (.int .i64 (n:Int)):=by rw [ak pSB,← hn];rfl
  rw [F.ax.Lm]
  simp only [e134,e135,e136,aQ,Nat.reduceAdd,Nat.reduceEqDiff,reduceIte,bf hi,aT rules hi,c8 eP hv,hs1]
  simp only [ak g1,aM,nL,bindO_some]
  refine an (cF (hfew r hrm) fun x hx1=>?_)
  simp only [aQ,Nat.reduceAdd,Nat.reduceEqDiff,reduceIte]
  rw [hx1]
  have hvb:(varsOf r).length≤cy:=by unfold cy;omega
  refine aE 0 (varsOf r).length (Nat.zero_le _) (fun j e h2=>h2=H∧n ^ j≤65536∧e 3 = .ptr SB 0∧e 7 = .ptr P 0∧e 17 = .ptr S 0∧e 134=aq aM 3 rules∧e 135 = .int .i64 (rules.l.length:Int)∧e 136 = .int .i64 (i:Int)∧e 23 = .int .i64 ((n ^ j:Nat):Int)∧e 142 = .int .i64 ((varsOf r).length:Int)∧e 143 = .int .i64 (j:Int))
   ⟨rfl,by simp,e3,e7,e17,e134,e135,e136,rfl,rfl,rfl⟩ ?_ ?_
  ·rintro j e h2 _ hj ⟨rfl,hpj,e3,e7,e17,e134,e135,e136,e23,e142,e143⟩ K2 hnn hx2 hr2 hp2
   have hps:n ^ (j+1)=n ^ j*n:=Nat.pow_succ n j
   have hmul:n ^ j*n≤65536*64:=Nat.mul_le_mul hpj n64
   have hm:((n ^ j:Nat):Int)*(n:Int)=((n ^ (j+1):Nat):Int):=by rw [hps,Int.natCast_mul]
   have hmm:aF .mul (.int .i64 ((n ^ j:Nat):Int)) (.int .i64 (n:Int))=some (.int .i64 ((n ^ (j+1):Nat):Int)):=by rw [qs (by rw [hm];omega) (by rw [hm];omega),hm]
   rw [F.ax.Ln]
   simp only [e3,e23,e142,e143,aQ,Nat.reduceAdd,Nat.reduceEqDiff,reduceIte,bf hj,lz,hmm]
   by_cases hbg:65536<n ^ (j+1)
   ·simp only [decide_eq_true (by omega:(65536:Int)<((n ^ (j+1):Nat):Int)),aD]
    rw [hr2,F.ax.Jm,hr,F.ax.Jl]
    simp only [bE,Nat.reduceEqDiff,reduceIte]
    exact err ⟨r,hrm,by have:=sg n1 (show j+1≤(varsOf r).length by omega);omega⟩ _ xH
   ·simp only [decide_eq_false (by omega:¬ (65536:Int)<((n ^ (j+1):Nat):Int)),aC,e143,aK hj hvb,bindO_some]
    exact hnn _ _ ⟨rfl,by omega,e3,e7,e17,e134,e135,e136,rfl,e142,rfl⟩
  ·rintro e h2 ⟨rfl,hpj,e3,e7,e17,e134,e135,e136,e23,e142,e143⟩ K2 hx2
   rw [F.ax.Ln]
   simp only [e142,e143,aQ,Nat.reduceAdd,Nat.reduceEqDiff,reduceIte,aR]
   rw [hx2,F.ax.HO]
   simp only [aQ,Nat.reduceAdd,Nat.reduceEqDiff,reduceIte,e136,aK hi hbig]
   refine hn' _ _ ⟨xH,fun q hq=>?_,e3,e7,e17,e134,e135,rfl⟩
   rw [List.take_add_one,hv] at hq
   rcases List.mem_append.1 hq with hq|hq
   ·exact hok q hq
   ·simp only [Option.toList_some,List.mem_singleton] at hq
    subst hq;exact hpj
 ·rintro e h' ⟨hx,hok,e3,e7,e17,e134,e135,e136⟩ K' hx'
  rw [List.take_of_length_le (Nat.le_refl _)] at hok
  rw [F.ax.Lm]
  simp only [e135,e136,aQ,Nat.reduceAdd,Nat.reduceEqDiff,reduceIte,aR]
  rw [hx']
  exact done hok _ h' hx e3 e7 e17
set_option maxHeartbeats 1000000 in
theorem Ah{n B S SB P A M IT:Nat}{rules:Sl aJ}{s:dP}{ks:List bA}{lv:Lev.Lv}{m:cS}{esA:List Entry}{ckA:Nat}{hR:AV}(hn:s.size=(n:Int))(n1:1≤n)(n64:n≤64)(h12:∀ r ∈ rules.l,r.args.l.length≤12)(hgo:dO rules.l []=some m){h:af}{e0:Env}{K:Out→af→Bool}
  (hS:h.get S=some (.cells [.int .i64 (n:Int),.map B])) (hSB:h.get SB=some (.cells (aA s))) (hP:h.get P=some (.cells [hR,.map A,.map M])) (hA:h.get A=some (.map esA ckA)) (hmA:ES esA ckA m) (hl:dZ (bg rules.l) h M ks lv)
  (hB:dm (fun _=>none) h B (IT+1)) (hIT:∀ es ck,h.get M=some (.map es ck)→h.get IT=some (.miter (some M) ck [] ck)) (hITn:h.next=IT+1) (o1:S<IT) (o2:SB<IT) (o3:P<IT) (o4:A<IT) (o5:M<IT) (o6:B<IT) (b1:S≠B) (b2:SB≠B) (b3:P≠B) (b4:A≠B) (b5:M≠B)
  (q0:e0 0=aq aM 3 rules) (q3:e0 3 = .ptr SB 0) (q7:e0 7 = .ptr P 0) (q17:e0 17 = .ptr S 0) (q108:e0 108 = .ptr IT 0)
  (err:(∃ r ∈ rules.l,4096<n ^ r.args.l.length)→∀ h',(∀ c,c<IT→c≠B→h'.get c=h.get c)→K (.ret (.tuple [.nilp,.nilp,.int .i64 5])) h'=true)
  (done:∀ (e:Env) h' D,(∀ r ∈ rules.l,n ^ r.args.l.length≤4096)→dm D h' B (IT+1)→(∀ r ∈ rules.l,∃ b,D r.name=some (b,List.replicate (n ^ r.args.l.length) false))→(∀ nm p,D nm=some p→nm ∈ bg rules.l)→(∀ c,c<IT→c≠B→h'.get c=h.get c)→IT<h'.next →
   e 0=aq aM 3 rules→e 3 = .ptr SB 0→e 7 = .ptr P 0→e 17 = .ptr S 0→F.ax.tU K (.exit 4) ⟨e,198,[],h'⟩=true) :
  bS (au Tryz.prog (ah Tryz.prog) F.ax.L2) ⟨e0,198,[],h⟩ (F.ax.tU K)=true:=by
 obtain ⟨es,ck,ml,z1,z2,z3,z4,z5⟩:=hl.ex
 have w0:=hIT es ck z1
 have hfind:∀ r ∈ rules.l,m.find r.name=some (r.args.l.length:Int):=fun r hr=>(iD hgo _ _).2 (kS hr)
 refine uL es (fun seen e hh=>∃ D,dm D hh B (IT+1)∧(∀ en ∈ es,en.2.2 ∈ seen→∀ r ∈ rules.l,en.1 = .str r.name→n ^ r.args.l.length≤4096∧∃ b,D r.name=some (b,List.replicate (n ^ r.args.l.length) false))∧(∀ nm p,D nm=some p→nm ∈ bg rules.l) ∧
   hh.get IT=some (.miter (some M) ck seen ck)∧(∀ c,c<IT→c≠B→hh.get c=h.get c)∧IT<hh.next∧e 0=aq aM 3 rules∧e 3 = .ptr SB 0∧e 7 = .ptr P 0∧e 17 = .ptr S 0∧e 108 = .ptr IT 0)
  ⟨_,hB,fun en _ hen=>(by cases hen),fun nm p hp=>(by cases hp),w0,fun _ _ _=>rfl,by omega,q0,q3,q7,q17,q108⟩ ?_
 rintro seen e hh ⟨D,hD,hseen,honly,w3,wf,wn,e0',e3,e7,e17,e108⟩ K' hnx' hex hret hpan
 have hM:hh.get M=some (.map es ck):=by rw [wf M o5 b5];exact z1
 rw [F.ax.jF]
 simp only [e108]
 refine y8 w3 hM z3 (by omega) (fun hall=>?_) (fun en hen hns hent=>?_)
 ·simp only [BH,aQ,Nat.reduceAdd,Nat.reduceEqDiff,reduceIte]
  rw [hex]
  have hev:∀ r ∈ rules.l,∃ en ∈ es,en.1 = .str r.name:=fun r hr=>by
   have h1:ml.find r.name=some (lv r.name:Int):=by rw [z5,if_pos (show r.name ∈ bg rules.l from List.mem_map_of_mem hr)]
   obtain ⟨en,hen,h2,_⟩:=z2.mem' _ (mV h1)
   exact ⟨en,hen,h2⟩
  refine done _ hh D (fun r hr=>?_) hD (fun r hr=>?_) honly wf wn e0' e3 e7 e17
  ·obtain ⟨en,hen,h2⟩:=hev r hr
   exact (hseen en hen (hall en hen) r hr h2).1
  ·obtain ⟨en,hen,h2⟩:=hev r hr
   exact (hseen en hen (hall en hen) r hr h2).2
 obtain ⟨p,hpm,hn1,hn2⟩:=z2.mem en hen
 have hph:p.1 ∈ bg rules.l:=(hl.mem p.1).1 (by rw [← z4];exact List.mem_map_of_mem hpm)
 obtain ⟨r,hrm,hrn⟩:=List.mem_map.1 hph
 have vf:∀ c,c<IT→c≠B→(hh.set IT (.miter (some M) ck (seen++[en.2.2]) ck)).get c=h.get c:=fun c hc hcB=>by rw [af.aS,if_neg (by omega)];exact wf c hc hcB
 have v3:(hh.set IT (.miter (some M) ck (seen++[en.2.2]) ck)).get IT=some (.miter (some M) ck (seen++[en.2.2]) ck):=by rw [af.aS,if_pos rfl]
 have vn:(hh.set IT (.miter (some M) ck (seen++[en.2.2]) ck)).next=hh.next:=af.next_set _ _ _
 have vD:=hD.mF (c:=IT) (by omega) (by omega) (.miter (some M) ck (seen++[en.2.2]) ck)
 simp only [BH,kJ,qt,bindO_some,condB_bool,aD,hent,e3,e7,e17,e108]
 clear hent
 generalize (hh.set IT (.miter (some M) ck (seen++[en.2.2]) ck))=H at vf v3 vn vD ⊢
 have pSB:H.get SB=some (.cells (aA s)):=by rw [vf _ o2 b2];exact hSB
 have pS:H.get S=some (.cells [.int .i64 (n:Int),.map B]):=by rw [vf _ o1 b1];exact hS
 have pP:H.get P=some (.cells [hR,.map A,.map M]):=by rw [vf _ o3 b3];exact hP
 have pA:H.get A=some (.map esA ckA):=by rw [vf _ o4 b4];exact hA
 have lz:aj none (.ptr SB 0) H=some (.int .i64 (n:Int)):=by rw [ak pSB,← hn];rfl
 have hlk:cV .string (.int .i64 0) false (.map A) (.str r.name) H=some (.int .i64 (r.args.l.length:Int)):=by rw [pG pA hmA.1,hfind r hrm];rfl
 have hk12:=h12 r hrm
 simp only [aQ,Nat.reduceAdd,Nat.reduceEqDiff,reduceIte,hn1,← hrn,lz,bF,ak pP,hlk]
 refine an (pQ n1 n64 (by unfold cy;omega) ?_)
 unfold Gt
 rw [if_neg (by omega)]
 by_cases hpow:4096<n ^ r.args.l.length
 ·rw [if_pos hpow]
  simp only [aQ,Nat.reduceAdd,Nat.reduceEqDiff,reduceIte,ct]
  simp only [show (!decide ((5:Int)=0))=true from rfl,aD]
  rw [hret,F.ax.tg]
  simp only [bE,Nat.reduceEqDiff,reduceIte]
  exact err ⟨r,hrm,hpow⟩ _ vf
 ·rw [if_neg hpow]
  obtain ⟨h2,hu,hD2,hf2,hn2'⟩:=vD.add (by omega) (n ^ r.args.l.length) r.name
  simp only [aQ,Nat.reduceAdd,Nat.reduceEqDiff,reduceIte,ct]
  simp only [show (!decide ((0:Int)=0))=false from rfl,aC,bF,aQ,Nat.reduceAdd,Nat.reduceEqDiff,reduceIte,ak pS,Fy (show n ^ r.args.l.length≤1000000 by omega),hu]
  refine hnx' en hen hns _ _ ⟨iQ D r.name H.next _,hD2,fun en' hen' hse q hq hqn=>?_,fun nm p' hp'=>?_,by rw [hf2 _ (by omega) (by omega)];exact v3,fun c hc hcB=>by rw [hf2 c (by omega) hcB];exact vf c hc hcB,by omega,e0',e3,e7,e17,e108⟩
  ·by_cases e:q.name=r.name
   ·have h1:=hfind q hq
    rw [e,hfind r hrm] at h1
    have h2:r.args.l.length=q.args.l.length:=by have:=Option.some.inj h1;omega
    exact ⟨by rw [← h2];omega,H.next,by rw [e,m8,h2]⟩
   ·rcases List.mem_append.1 hse with hse|hse
    ·obtain ⟨a1,b,a2⟩:=hseen en' hen' hse q hq hqn
     exact ⟨a1,b,by rw [xd e];exact a2⟩
    ·rw [List.mem_singleton] at hse
     have hee:en'=en:=by
      have hb:=z3.nodup
      obtain ⟨i,hi⟩:=List.mem_iff_getElem?.1 hen
      obtain ⟨j,hj⟩:=List.mem_iff_getElem?.1 hen'
      have hi':(es.map (·.2.2))[i]?=some en.2.2:=by rw [List.getElem?_map,hi];rfl
      have hj':(es.map (·.2.2))[j]?=some en.2.2:=by rw [List.getElem?_map,hj,← hse];rfl
      have hij:=kO hb hi' hj'
      subst hij
      rw [hi] at hj;exact (Option.some.inj hj).symm
     rw [hee,hn1] at hqn
     injection hqn with h3
     exact absurd (h3.symm.trans hrn.symm) e
  ·by_cases e:nm=r.name
   ·rw [e];exact List.mem_map_of_mem hrm
   ·rw [xd e] at hp'
    exact honly nm p' hp'
end
end Go.AM