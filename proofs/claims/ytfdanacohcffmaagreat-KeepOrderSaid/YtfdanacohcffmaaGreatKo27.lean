/- Parts of the proof. Conditions: none. -/
import Derived.Test.YtfdanacohcffmaaGreatKo19
import Derived.Test.YtfdanacohcffmaaGreatKo26
set_option linter.unusedSimpArgs false
set_option linter.unusedVariables false
namespace Go.AM
open List Nat Bool Option
open Go Go.Proofs
noncomputable section
variable {rs:List aP} {K:Out->Heap->Bool} {s:cN} {m:eE} {h:Heap} {r:aP} {n k i M B P S:Nat} {ks:List cc} {rules:Sl aP} {c:eP} {D0:DB} {nm x:cc} {lv:eA.Lv}
theorem er.kF{D:DB}{lo c:Nat}(b:er D h B lo)(hc:c<lo)(NJ:c≠B)(x:jX):er D (h.set c x) B lo:=by
 obtain ⟨es,ck,m,e1,e2,e3⟩:=b.ex;refine ⟨⟨es,ck,m,by rw [Heap.aN,if_neg (Ne.symm NJ)];exact e1,e2,e3⟩,fun nm p hp=>?_,b.inj,by rw [Heap.br];exact b.lt⟩;obtain ⟨k1,k2,k3,k4⟩:=b.Co nm p hp;exact ⟨k1,by rw [Heap.br];exact k2,k3,by rw [Heap.aN,if_neg (by omega)];exact k4⟩
theorem FN:∀ (l:List (cc×Int)) (m m':eE),tW l m=some m'->∀ x k,m'.find x=some k↔((x,k) ∈ l\/m.find x=some k)
 |[],m,m',h,x,k=>by cases h;simp
 |p :: l,m,m',h,x,k=>by
  have fu:=uE m p.1 x p.2
  have hs:QX m p=some (m.qY p.1 p.2)/\∀ j,m.find p.1=some j->j=p.2:=by
   rw [tW] at h;unfold QX at h ⊢
   cases hf:m.find p.1 with
   |none=>simp
   |some j=>
    rw [hf] at h;by_cases e:j=p.2
    ·simp [e]
    ·simp [e] at h
  rw [tW,hs.1] at h;rw [FN l _ m' h x k,fu];by_cases e:x=p.1
  ·rw [if_pos e,mem_cons];subst e;constructor
   ·rintro (h1|h1)
    ·exact .inl (.inr h1)
    ·cases h1;exact .inl (.inl rfl)
   ·rintro ((h1|h1)|h1)
    ·exact .inr (by rw [<- h1])
    ·exact .inl h1
    ·exact .inr (by rw [hs.2 k h1])
  ·rw [if_neg e,mem_cons];constructor
   ·rintro (h1|h1)
    ·exact .inl (.inr h1)
    ·exact .inr h1
   ·rintro ((h1|h1)|h1)
    ·exact absurd (congrArg Prod.fst h1) e
    ·exact .inl h1
    ·exact .inr h1
theorem kg(h:dW rs []=some m)(x:cc)(k:Int):m.find x=some k↔(x,k) ∈ cD rs:=by
 rw [rJ] at h;split at h
 ·rw [FN _ _ _ h];simp [eE.find]
 ·cases h
theorem nU(hr:r ∈ rs):(r.name,(r.args.l.length:Int)) ∈ cD rs:=mem_flatMap.2 ⟨r,hr,mem_cons_self⟩
theorem nV{xs:List cc}(h:mz nm xs=true):xs.length<=12:=by
 unfold mz at h;simp only [and_eq_true,decide_eq_true_eq] at h;omega
theorem wY(n1:1<=n){j:Nat}(h:i<=j):n ^ i<=n ^ j:=Nat.pow_le_pow_right n1 h
set_option maxHeartbeats 1000000 in
theorem EJ{SB:Nat}(hn:s.size=(n:Int))(n1:1<=n)(xj:n<=64)(iY:∀ r ∈ rules.l,r.mj)(se:rules.l.length<=60)(IA:∀ r ∈ rules.l,(varsOf r).length<=12){e0:Env}
  (hSB:h.get SB=some (.cells (au s))) (V8:SB<h.next) (q3:e0 3 = .ptr SB 0) (q7:e0 7 = .ptr P 0) (q17:e0 17 = .ptr S 0) (adV:e0 134=an aQ 3 rules) (adW:e0 135 = .int .i64 (rules.l.length:Int)) (adX:e0 136 = .int .i64 0)
  (err:(∃ r ∈ rules.l,65536<n ^ (varsOf r).length)->∀ h',bC h h'->K (.ret (.tuple [.ey,.ey,.int .i64 5])) h'=true)
  (done:(∀ r ∈ rules.l,n ^ (varsOf r).length<=65536)->∀ (e:Env) h',bC h h'->e 3 = .ptr SB 0->e 7 = .ptr P 0->e 17 = .ptr S 0->F.az.XW K (.exit 6) ⟨e,198,[],h'⟩=true) :
  bV (EV F.az.L3) ⟨e0,198,[],h⟩ (F.az.XW K)=true:=by
 have hbig:rules.l.length<=cM:=by unfold cM;omega
 refine aE 0 rules.l.length (zero_le _) (fun i e h'=>bC h h'/\(∀ r ∈ rules.l.take i,n ^ (varsOf r).length<=65536)/\e 3 = .ptr SB 0/\e 7 = .ptr P 0/\e 17 = .ptr S 0/\e 134=an aQ 3 rules/\e 135 = .int .i64 (rules.l.length:Int)/\e 136 = .int .i64 (i:Int))
  ⟨bC.refl _,fun r hr=>(by cases hr),q3,q7,q17,adV,adW,adX⟩ ?_ ?_
 ·rintro i e h' _ hi ⟨hx,kD,e3,e7,tN,KX,Jm,Jn⟩ K' DQ gm hr hp;have hv:rules.l[i]?=some rules.l[i]:=ew hi;generalize rules.l[i]=r at hv;have nR:=iq hv;have aaY:=IA r nR;obtain ⟨H,GQ,g1,go,gn⟩:=cF (h:=h') (zs:=[.str [],.ay,.ay]) (cs:=aQ r) (n:=3) rfl rfl (kf r);have xH:bC h H:=hx.trans ⟨by omega,fun b hb=>go b (by omega)⟩;have pSB:H.get SB=some (.cells (au s)):=by rw [xH.get _ V8];exact hSB
  have lz:ah none (.ptr SB 0) H=some (.int .i64 (n:Int)):=by rw [ak pSB,<- hn];rfl
  rw [F.az.Us];simp only [KX,Jm,Jn,aS,reduceAdd,reduceEqDiff,reduceIte,bp hi,aV rules hi,dx gz hv,GQ];simp only [ak g1,aQ,rC,aq];refine ai (dr (iY r nR) fun x jI=>?_);simp only [aS,reduceAdd,reduceEqDiff,reduceIte];rw [jI];have UJ:(varsOf r).length<=cM:=by unfold cM;omega
  refine aE 0 (varsOf r).length (zero_le _) (fun j e h2=>h2=H/\n ^ j<=65536/\e 3 = .ptr SB 0/\e 7 = .ptr P 0/\e 17 = .ptr S 0/\e 134=an aQ 3 rules/\e 135 = .int .i64 (rules.l.length:Int)/\e 136 = .int .i64 (i:Int)/\e 23 = .int .i64 ((n ^ j:Nat):Int)/\e 142 = .int .i64 ((varsOf r).length:Int)/\e 143 = .int .i64 (j:Int))
   ⟨rfl,by simp,e3,e7,tN,KX,Jm,Jn,rfl,rfl,rfl⟩ ?_ ?_
  ·rintro j e h2 _ hj ⟨rfl,QS,e3,e7,tN,KX,Jm,Jn,UK,TB,TC⟩ K2 uJ fY qi DT;have we:n ^ (j+1)=n ^ j*n:=Nat.pow_succ n j;have hmul:n ^ j*n<=65536*64:=Nat.mul_le_mul QS xj;have hm:((n ^ j:Nat):Int)*(n:Int)=((n ^ (j+1):Nat):Int):=by rw [we,Int.natCast_mul]
   have hmm:aI .mul (.int .i64 ((n ^ j:Nat):Int)) (.int .i64 (n:Int))=some (.int .i64 ((n ^ (j+1):Nat):Int)):=by rw [uv (by rw [hm];omega) (by rw [hm];omega),hm]
   rw [F.az.Ut];simp only [e3,UK,TB,TC,aS,reduceAdd,reduceEqDiff,reduceIte,bp hj,lz,hmm];by_cases hbg:65536<n ^ (j+1)
   ·simp only [fC (by omega:(65536:Int)<((n ^ (j+1):Nat):Int)),aL];rw [qi,F.az.RM,hr,F.az.RK];simp only [bP,reduceEqDiff,reduceIte];exact err ⟨r,nR,by have:=wY n1 (show j+1<=(varsOf r).length by omega);omega⟩ _ xH
   ·simp only [eV (by omega:¬ (65536:Int)<((n ^ (j+1):Nat):Int)),aK,TC,aJ hj UJ,aq];exact uJ _ _ ⟨rfl,by omega,e3,e7,tN,KX,Jm,Jn,rfl,TB,rfl⟩
  ·rintro e h2 ⟨rfl,QS,e3,e7,tN,KX,Jm,Jn,UK,TB,TC⟩ K2 fY;rw [F.az.Ut];simp only [TB,TC,aS,reduceAdd,reduceEqDiff,reduceIte,aX];rw [fY,F.az.Ph];simp only [aS,reduceAdd,reduceEqDiff,reduceIte,Jn,aJ hi hbig];refine DQ _ _ ⟨xH,fun q hq=>?_,e3,e7,tN,KX,Jm,rfl⟩;rw [take_add_one,hv] at hq;rcases mem_append.1 hq with hq|hq
   ·exact kD q hq
   ·simp only [toList_some,mem_singleton] at hq;subst hq;exact QS
 ·rintro e h' ⟨hx,kD,e3,e7,tN,KX,Jm,Jn⟩ K' gm;rw [jW (dN _)] at kD;rw [F.az.Us];simp only [Jm,Jn,aS,reduceAdd,reduceEqDiff,reduceIte,aX];rw [gm];exact done kD _ h' hx e3 e7 tN
set_option maxHeartbeats 1000000 in
theorem EK{SB A IT:Nat}{esA:List Entry}{ckA:Nat}{hR:AV}(hn:s.size=(n:Int))(n1:1<=n)(xj:n<=64)(IA:∀ r ∈ rules.l,r.args.l.length<=12)(jG:dW rules.l []=some m){e0:Env}
  (hS:h.get S=some (.cells [.int .i64 (n:Int),.map B])) (hSB:h.get SB=some (.cells (au s))) (hP:h.get P=some (.cells [hR,.map A,.map M])) (hA:h.get A=some (.map esA ckA)) (hmA:KU esA ckA m) (hl:fy (bF rules.l) h M ks lv)
  (hB:er (fun _=>none) h B (IT+1)) (hIT:∀ es ck,h.get M=some (.map es ck)->h.get IT=some (.fU (some M) ck [] ck)) (aiy:h.next=IT+1) (o1:S<IT) (o2:SB<IT) (o3:P<IT) (o4:A<IT) (o5:M<IT) (o6:B<IT) (b1:S≠B) (b2:SB≠B) (b3:P≠B) (b4:A≠B) (b5:M≠B)
  (q0:e0 0=an aQ 3 rules) (q3:e0 3 = .ptr SB 0) (q7:e0 7 = .ptr P 0) (q17:e0 17 = .ptr S 0) (ad0:e0 108 = .ptr IT 0)
  (err:(∃ r ∈ rules.l,4096<n ^ r.args.l.length)->∀ h',(∀ c,c<IT->c≠B->h'.get c=h.get c)->K (.ret (.tuple [.ey,.ey,.int .i64 5])) h'=true)
  (done:∀ (e:Env) h' D,(∀ r ∈ rules.l,n ^ r.args.l.length<=4096)->er D h' B (IT+1)->(∀ r ∈ rules.l,∃ b,D r.name=some (b,replicate (n ^ r.args.l.length) false))->(∀ nm p,D nm=some p->nm ∈ bF rules.l)->(∀ c,c<IT->c≠B->h'.get c=h.get c)->IT<h'.next ->
   e 0=an aQ 3 rules->e 3 = .ptr SB 0->e 7 = .ptr P 0->e 17 = .ptr S 0->F.az.wD K (.exit 4) ⟨e,198,[],h'⟩=true) :
  bV (EV F.az.L2) ⟨e0,198,[],h⟩ (F.az.wD K)=true:=by
 obtain ⟨es,ck,ml,z1,z2,z3,z4,z5⟩:=hl.ex;have w0:=hIT es ck z1;have Qj:∀ r ∈ rules.l,m.find r.name=some (r.args.l.length:Int):=fun r hr=>(kg jG _ _).2 (nU hr)
 refine zB es (fun seen e hh=>∃ D,er D hh B (IT+1)/\(∀ en ∈ es,en.2.2 ∈ seen->∀ r ∈ rules.l,en.1 = .str r.name->n ^ r.args.l.length<=4096/\∃ b,D r.name=some (b,replicate (n ^ r.args.l.length) false))/\(∀ nm p,D nm=some p->nm ∈ bF rules.l) /\
   hh.get IT=some (.fU (some M) ck seen ck)/\(∀ c,c<IT->c≠B->hh.get c=h.get c)/\IT<hh.next/\e 0=an aQ 3 rules/\e 3 = .ptr SB 0/\e 7 = .ptr P 0/\e 17 = .ptr S 0/\e 108 = .ptr IT 0)
  ⟨_,hB,fun en _ rV=>(by cases rV),fun nm p hp=>(by cases hp),w0,fun _ _ _=>rfl,by omega,q0,q3,q7,q17,ad0⟩ ?_
 rintro seen e hh ⟨D,hD,FO,UL,w3,wf,wn,e0',e3,e7,tN,Wd⟩ K' PX hex Th aaE;have hM:hh.get M=some (.map es ck):=by rw [wf M o5 b5];exact z1
 rw [F.az.kM];simp only [Wd];refine Di w3 hM z3 (by omega) (fun lM=>?_) (fun en rV hns B8=>?_)
 ·simp only [Gs,aS,reduceAdd,reduceEqDiff,reduceIte];rw [hex]
  have hev:∀ r ∈ rules.l,∃ en ∈ es,en.1 = .str r.name:=fun r hr=>by
   have h1:ml.find r.name=some (lv r.name:Int):=by rw [z5,if_pos (show r.name ∈ bF rules.l from List.mem_map_of_mem hr)]
   obtain ⟨en,rV,h2,_⟩:=z2.Tg _ (qv h1);exact ⟨en,rV,h2⟩
  refine done _ hh D (fun r hr=>?_) hD (fun r hr=>?_) UL wf wn e0' e3 e7 tN
  ·obtain ⟨en,rV,h2⟩:=hev r hr;exact (FO en rV (lM en rV) r hr h2).1
  ·obtain ⟨en,rV,h2⟩:=hev r hr;exact (FO en rV (lM en rV) r hr h2).2
 obtain ⟨p,Fy,Mk,oW⟩:=z2.mem en rV;have hph:p.1 ∈ bF rules.l:=(hl.mem p.1).1 (by rw [<- z4];exact List.mem_map_of_mem Fy);obtain ⟨r,nR,DU⟩:=mem_map.1 hph;have vf:∀ c,c<IT->c≠B->(hh.set IT (.fU (some M) ck (seen++[en.2.2]) ck)).get c=h.get c:=fun c hc NJ=>by rw [Heap.aN,if_neg (by omega)];exact wf c hc NJ
 have v3:(hh.set IT (.fU (some M) ck (seen++[en.2.2]) ck)).get IT=some (.fU (some M) ck (seen++[en.2.2]) ck):=by rw [Heap.aN,if_pos rfl]
 have vn:(hh.set IT (.fU (some M) ck (seen++[en.2.2]) ck)).next=hh.next:=Heap.br _ _ _
 have vD:=hD.kF (c:=IT) (by omega) (by omega) (.fU (some M) ck (seen++[en.2.2]) ck);simp only [Gs,nL,uw,aq,cE,aL,B8,e3,e7,tN,Wd];clear B8;generalize (hh.set IT (.fU (some M) ck (seen++[en.2.2]) ck))=H at vf v3 vn vD ⊢;have pSB:H.get SB=some (.cells (au s)):=by rw [vf _ o2 b2];exact hSB
 have pS:H.get S=some (.cells [.int .i64 (n:Int),.map B]):=by rw [vf _ o1 b1];exact hS
 have pP:H.get P=some (.cells [hR,.map A,.map M]):=by rw [vf _ o3 b3];exact hP
 have pA:H.get A=some (.map esA ckA):=by rw [vf _ o4 b4];exact hA
 have lz:ah none (.ptr SB 0) H=some (.int .i64 (n:Int)):=by rw [ak pSB,<- hn];rfl
 have Qi:dV .string (.int .i64 0) false (.map A) (.str r.name) H=some (.int .i64 (r.args.l.length:Int)):=by rw [tD pA hmA.1,Qj r nR];rfl
 have GV:=IA r nR;simp only [aS,reduceAdd,reduceEqDiff,reduceIte,Mk,<- DU,lz,ct,ak pP,Qi];refine ai (tO n1 xj (by unfold cM;omega) ?_);unfold Nu;rw [if_neg (by omega)];by_cases EG:4096<n ^ r.args.l.length
 ·rw [if_pos EG];simp only [aS,reduceAdd,reduceEqDiff,reduceIte,cP];simp only [show (!decide ((5:Int)=0))=true from rfl,aL];rw [Th,F.az.xY];simp only [bP,reduceEqDiff,reduceIte];exact err ⟨r,nR,EG⟩ _ vf
 ·rw [if_neg EG];obtain ⟨h2,hu,hD2,U8,Pq⟩:=vD.add (by omega) (n ^ r.args.l.length) r.name;simp only [aS,reduceAdd,reduceEqDiff,reduceIte,cP];simp only [show (!decide ((0:Int)=0))=false from rfl,aK,ct,aS,reduceAdd,reduceEqDiff,reduceIte,ak pS,Md (show n ^ r.args.l.length<=1000000 by omega),hu];refine PX en rV hns _ _ ⟨kO D r.name H.next _,hD2,fun UF I5 NK q hq DV=>?_,fun nm p' B2=>?_,by rw [U8 _ (by omega) (by omega)];exact v3,fun c hc NJ=>by rw [U8 c (by omega) NJ];exact vf c hc NJ,by omega,e0',e3,e7,tN,Wd⟩
  ·by_cases e:q.name=r.name
   ·have h1:=Qj q hq;rw [e,Qj r nR] at h1;have h2:r.args.l.length=q.args.l.length:=by have:=Option.some.inj h1;omega
    exact ⟨by rw [<- h2];omega,H.next,by rw [e,qG,h2]⟩
   ·rcases mem_append.1 NK with NK|NK
    ·obtain ⟨a1,b,a2⟩:=FO UF I5 NK q hq DV;exact ⟨a1,b,by rw [BE e];exact a2⟩
    ·rw [mem_singleton] at NK
     have hee:UF=en:=by
      have hb:=z3.nodup;obtain ⟨i,hi⟩:=mem_iff_getElem?.1 rV;obtain ⟨j,hj⟩:=mem_iff_getElem?.1 I5;have uU:(es.map (·.2.2))[i]?=some en.2.2:=by rw [getElem?_map,hi];rfl
      have Gl:(es.map (·.2.2))[j]?=some en.2.2:=by rw [getElem?_map,hj,<- NK];rfl
      have hij:=nS hb uU Gl;subst hij;rw [hi] at hj;exact (Option.some.inj hj).symm
     rw [hee,Mk] at DV;injection DV with h3;exact absurd (h3.symm.trans DU.symm) e
  ·by_cases e:nm=r.name
   ·rw [e];exact List.mem_map_of_mem nR
   ·rw [BE e] at B2;exact UL nm p' B2
def JM(rs:List aP)(s:cN):Prop:=(∃ p ∈ cD rs,p.1 ∉ bF rs/\s.aF.l.find? (iP p.1 p.2)=none)\/∃ r ∈ s.aF.l,r.name ∈ bF rs
def Mr(rs:List aP)(s:cN):Prop:=8<s.aF.l.length+(eF rs).length\/(∃ r ∈ rs,4096<s.size.toNat ^ r.args.l.length)\/∃ r ∈ rs,65536<s.size.toNat ^ (varsOf r).length
structure zI (n:Nat) (rs:List aP) (s:cN) (D:DB):Prop where
 rel:∀ r ∈ s.aF.l,∃ b,D r.name=some (b,bitsOf n r.arity.toNat r.aO.l)
 head:∀ r ∈ rs,∃ b,D r.name=some (b,replicate (n ^ r.args.l.length) false)
 only:∀ nm p,D nm=some p->nm ∈ bF rs\/∃ r ∈ s.aF.l,r.name=nm
structure KY (n P A M S B lo:Nat) (rules:Sl aP) (ks:List cc) (lv:eA.Lv) (D0:DB) (m:eE) (h:Heap):Prop where
 hP:h.get P=some (.cells [an aQ 3 rules,.map A,.map M])
 hl:fy (bF rules.l) h M ks lv
 Bz:ks.Nodup
 jG:dW rules.l []=some m
 hA:∃ es ck,h.get A=some (.map es ck)/\KU es ck m
 hS:h.get S=some (.cells [.int .i64 (n:Int),.map B])
 hD:er D0 h B lo
 ord:A<M/\M<P/\P<B/\B<S/\S<lo/\lo<=h.next
theorem Ms(hl:fy (bF rs) h M ks lv)(Bz:ks.Nodup):ks.length=(eF rs).length:=by
 have h1:(eF rs).Nodup:=by
  have:=pI rs;unfold rP at this;refine this.imp fun {a b} h e=>?_;rw [e,nP] at h;cases h
 have h2:=eA.pZ Bz (m:=eF rs) fun x hx=>(fO rs).2 ((hl.mem x).1 hx);have h3:=eA.pZ h1 (m:=ks) fun x hx=>(hl.mem x).2 ((fO rs).1 hx);omega
set_option maxHeartbeats 2000000 in
theorem az{rules:Sl aP}{s:cN}(kD:∀ r ∈ rules.l,r.ok)(iY:∀ r ∈ rules.l,r.mj)(me:s.ok){h:Heap}{K:Out->Heap->Bool}
  (h1:(¬ kN rules.l\/de s=false)->∀ h',(∀ b,b<h.next->h'.get b=h.get b)->K (.ret (.tuple [.ey,.ey,.int .i64 1])) h'=true)
  (h4:kN rules.l->de s=true->JM rules.l s->∀ h',(∀ b,b<h.next->h'.get b=h.get b)->K (.ret (.tuple [.ey,.ey,.int .i64 4])) h'=true)
  (h5:kN rules.l->de s=true->¬ JM rules.l s->Mr rules.l s->∀ h',(∀ b,b<h.next->h'.get b=h.get b)->K (.ret (.tuple [.ey,.ey,.int .i64 5])) h'=true)
  (h0:kN rules.l->de s=true->¬ JM rules.l s->¬ Mr rules.l s->∀ h' (n:Nat) P A M S B lo ks k D0 m,s.size=(n:Int)->1<=n->n<=64->eA.dy (bL rules.l) (eA.iter (bL rules.l) k) ->
   KY n P A M S B lo rules ks (eA.iter (bL rules.l) k) D0 m h'->zI n rules.l s D0->(∀ b,b<h.next->h'.get b=h.get b)->h.next<=A->K (.ret (.tuple [.ptr P 0,.ptr S 0,.int .i64 0])) h'=true) :
  Sem TP 58 [an aQ 3 rules,.agg (au s)] h K:=by
 refine F.ya ?_;rw [F.zg];simp only [c8 (cA s),aq];have g0:(h.alloc (.cells (au s))).get h.next=some (.cells (au s)):=aB _ _
 have gx:bC h (h.alloc (.cells (au s))):=bC.alloc _ _;have gn:(h.alloc (.cells (au s))).next=h.next+1:=rfl
 generalize (h.alloc (.cells (au s)))=H0 at g0 gx gn ⊢;refine ai (NH kD iY (fun hb h' hf=>?_) fun h' P A M ks k hg iM gP la Bz QN VO m es ck jG gA We o1 o2 o3 hfr=>?_)
 ·simp only [aS,reduceAdd,reduceEqDiff,reduceIte,Bool.not_false];exact h1 (.inl hb) _ (fun b hb=>by rw [hf b (by omega),gx.get b hb])
 have p0:h'.get h.next=some (.cells (au s)):=by rw [hfr _ (by omega)];exact g0
 have l0:ah (some 2) (.ptr h.next 0) h'=some (.agg (au s)):=by rw [ak p0,cV (cs:=au s) (n:=2) rfl]
 simp only [aS,reduceAdd,reduceEqDiff,reduceIte,Bool.not_true,l0];refine ai (dJ me ?_);simp only [aS,reduceAdd,reduceEqDiff,reduceIte]
 cases uO:de s with
 |false=>simp only [Bool.not_false,aL];exact h1 (.inr uO) _ (fun b hb=>by rw [hfr b (by omega),gx.get b hb])
 |true=>
 obtain ⟨n,hn,n1,xj,h8⟩:=jw uO;have uJ:s.size.toNat=n:=by omega
 specialize h4 hg uO;specialize h5 hg uO;specialize h0 hg uO;clear h1;have aa1:=hg.mj;have zJ:=jf jG;obtain ⟨W9,aa2,hmN⟩:=id We;have WV:mC .map (.map A) h'=some (.ptr h'.next 0,h'.alloc (.fU (some A) ck [] ck)):=by simp only [mC,gA]
 simp only [Bool.not_true,aK,ct,aS,reduceAdd,reduceEqDiff,reduceIte,ak gP,WV];have lM:∀ p ∈ m,(p.1,p.2) ∈ cD rules.l:=fun p hp=>(kg jG p.1 p.2).1 (uF hmN hp)
 refine zB es (fun seen e hh=>(∀ en ∈ es,en.2.2 ∈ seen->∀ p ∈ m,en.1 = .str p.1->¬ (p.1 ∉ bF rules.l/\s.aF.l.find? (iP p.1 p.2)=none))/\hh.get h'.next=some (.fU (some A) ck seen ck)/\(∀ b,b<h'.next->hh.get b=h'.get b)/\h'.next<hh.next /\
   e 0=an aQ 3 rules/\e 3 = .ptr h.next 0/\e 7 = .ptr P 0/\e 46 = .ptr h'.next 0)
  ⟨fun en _ rV=>(by cases rV),aB _ _,fun b hb=>by rw [Heap.aW,if_neg (by omega)],by rw [Heap.aM];omega,rfl,rfl,rfl,rfl⟩ ?_
 rintro seen e hh ⟨FO,w3,wf,wn,e0,e3,e7,Xb⟩ K' PX hex Th aaE;rw [F.az.aU];simp only [Xb];refine Di w3 (by rw [wf A (by omega)];exact gA) aa2 (by omega) (fun aa3=>?_) (fun en rV hns B8=>?_)
 ·
  have ad2:¬ ∃ p ∈ cD rules.l,p.1 ∉ bF rules.l/\s.aF.l.find? (iP p.1 p.2)=none:=by
   rintro ⟨p,hp,hb⟩;have hf:=(kg jG p.1 p.2).2 hp;have Fy:=qv hf;obtain ⟨en,rV,ad3,_⟩:=W9.Tg _ Fy;exact FO en rV (aa3 en rV) _ Fy ad3 hb
  simp only [Gs,nL,aq,cE,aK];rw [hex,F.az.aG];have v0:hh.get h.next=some (.cells (au s)):=by rw [wf _ (by omega)];exact p0
  have lr:ah none (.ptr h.next 1) hh=some (an aR 3 s.aF):=by rw [ak v0];rfl
  simp only [aS,reduceAdd,reduceEqDiff,reduceIte,e3,lr]
  refine aE 0 s.aF.l.length (zero_le _) (fun i e h2=>(∀ r ∈ s.aF.l.take i,r.name ∉ bF rules.l)/\(∀ b,b<h'.next->h2.get b=h'.get b)/\h'.next<h2.next/\e 0=an aQ 3 rules/\e 3 = .ptr h.next 0/\e 7 = .ptr P 0/\e 71=an aR 3 s.aF/\e 72 = .int .i64 (s.aF.l.length:Int)/\e 73 = .int .i64 (i:Int))
   ⟨fun r hr=>(by cases hr),wf,wn,e0,e3,e7,rfl,rfl,rfl⟩ ?_ ?_
  ·rintro i e h2 _ hi ⟨GY,JN,wn2,e0,e3,e7,e71,e72,e73⟩ K2 oW fY qi DT;have hv:s.aF.l[i]?=some s.aF.l[i]:=ew hi;generalize s.aF.l[i]=r at hv;obtain ⟨H,GQ,q1,qo,qn⟩:=cF (h:=h2) (zs:=[.str [],.int .i64 0,.ay]) (cs:=aR r) (n:=3) rfl rfl (fP r);have pP:H.get P=some (.cells [an aQ 3 rules,.map A,.map M]):=by rw [qo _ (by omega),JN _ (by omega)];exact gP
   have hM:H.get M=h'.get M:=by rw [qo _ (by omega),JN _ (by omega)]
   obtain ⟨esL,Hp,mL,y1,y2,y3,y4,y5⟩:=la.ex;have Qi:=qZ (h:=H) (by rw [hM];exact y1) y2 r.name;have LR:(mL.find r.name).isSome=decide (r.name ∈ bF rules.l):=by rw [y5];by_cases hh':r.name ∈ bF rules.l<;>simp [hh']
   have ln:ah none (.ptr h2.next 0) H=some (.str r.name):=by rw [ak q1];rfl
   rw [F.az.dm];simp only [e7,e71,e72,e73,aS,reduceAdd,reduceEqDiff,reduceIte,bp hi,aV s.aF hi,dx dU hv,GQ];simp only [aS,reduceAdd,reduceEqDiff,reduceIte,ct,ak pP,ln,Qi,LR];by_cases hd:r.name ∈ bF rules.l
   ·simp only [fC hd,aL];rw [qi,F.az.iR];simp only [bP,reduceEqDiff,reduceIte];exact h4 (.inr ⟨r,iq hv,hd⟩) _ (fun b hb=>by rw [qo b (by omega),JN b (by omega),hfr b (by omega),gx.get b hb])
   ·simp only [eV hd,aK,e73,aJ hi me.1,aq];refine oW _ _ ⟨fun q hq=>?_,fun b hb=>by rw [qo b (by omega)];exact JN b hb,by omega,e0,e3,e7,e71,e72,rfl⟩;rw [take_add_one,hv] at hq;rcases mem_append.1 hq with hq|hq
    ·exact GY q hq
    ·simp only [toList_some,mem_singleton] at hq;subst hq;exact hd
  ·rintro e h2 ⟨GY,JN,wn2,e0,e3,e7,e71,e72,e73⟩ K2 fY;rw [jW (dN _)] at GY
   have aa4:¬ JM rules.l s:=by
    rintro (hb|⟨r,hr,hd⟩)
    ·exact ad2 hb
    ·exact GY r hr hd
   specialize h5 aa4;specialize h0 aa4;have v0:h2.get h.next=some (.cells (au s)):=by rw [JN _ (by omega)];exact p0
   have vP:h2.get P=some (.cells [an aQ 3 rules,.map A,.map M]):=by rw [JN _ (by omega)];exact gP
   have vl:fy (bF rules.l) h2 M ks (eA.iter (bL rules.l) k):=la.gd (JN _ (by omega));have lr:ah none (.ptr h.next 1) h2=some (an aR 3 s.aF):=by rw [ak v0];rfl
   have ls:ah none (.ptr h.next 0) h2=some (.int .i64 (n:Int)):=by rw [ak v0,<- hn];rfl
   have hkl:ks.length<=60:=by
    have:=eA.pZ Bz (m:=bF rules.l) fun x hx=>(la.mem x).1 hx;have h1:(bF rules.l).length=rules.l.length:=by simp [bF]
    omega
   have C6:aI .add (.int .i64 (s.aF.l.length:Int)) (.int .i64 (ks.length:Int))=some (.int .i64 ((s.aF.l.length+ks.length:Nat):Int)):=by
    rw [je (by omega) (by omega)];rfl
   have hdk:=Ms la Bz;rw [F.az.dm];simp only [e72,e73,aS,reduceAdd,reduceEqDiff,reduceIte,aX];rw [fY,F.az.cx];simp only [aS,reduceAdd,reduceEqDiff,reduceIte,e3,e7,lr,ct,ak vP,vl.len,C6];by_cases hbg:8<s.aF.l.length+ks.length
   ·simp only [fC (by omega:(8:Int)<((s.aF.l.length+ks.length:Nat):Int)),aL];exact h5 (.inl (by rw [<- hdk];exact hbg)) _ (fun b hb=>by rw [JN b (by omega),hfr b (by omega),gx.get b hb])
   have ad6:iA [.int .i64 0,.jJ] [(0,1),(1,1)] [.int .i64 (n:Int),.map h2.next]=some (.agg [.int .i64 (n:Int),.map h2.next]):=rfl;simp only [eV (by omega:¬ (8:Int)<((s.aF.l.length+ks.length:Nat):Int)),aK,ls,aq,ad6,c8 (show bw [.int .i64 (n:Int),.map h2.next]=true from rfl),Heap.aM];have f0:((h2.alloc (.map [] 0)).alloc (.cells [.int .i64 (n:Int),.map h2.next])).get h2.next=some (.map [] 0):=by rw [Heap.aW,Heap.aM,if_neg (by omega)];exact aB _ _
   have f1:((h2.alloc (.map [] 0)).alloc (.cells [.int .i64 (n:Int),.map h2.next])).get (h2.next+1)=some (.cells [.int .i64 (n:Int),.map h2.next]):=aB _ _;have fx:bC h2 ((h2.alloc (.map [] 0)).alloc (.cells [.int .i64 (n:Int),.map h2.next])):=(bC.alloc _ _).trans (bC.alloc _ _);have fn:((h2.alloc (.map [] 0)).alloc (.cells [.int .i64 (n:Int),.map h2.next])).next=h2.next+1+1:=rfl
   generalize ((h2.alloc (.map [] 0)).alloc (.cells [.int .i64 (n:Int),.map h2.next]))=H2 at f0 f1 fx fn ⊢;have uP:H2.get P=some (.cells [an aQ 3 rules,.map A,.map M]):=by rw [fx.get _ (by omega)];exact vP
   obtain ⟨esL,Hp,mL,y1,y2,y3,y4,y5⟩:=la.ex;have uM:H2.get M=some (.map esL Hp):=by rw [fx.get _ (by omega),JN _ (by omega)];exact y1
   have ad7:mC .map (.map M) H2=some (.ptr H2.next 0,H2.alloc (.fU (some M) Hp [] Hp)):=by simp only [mC,uM]
   simp only [e7,ct,aS,reduceAdd,reduceEqDiff,reduceIte,ak uP,ad7];have r3:(H2.alloc (.fU (some M) Hp [] Hp)).get (h2.next+1+1)=some (.fU (some M) Hp [] Hp):=by have:=aB H2 (.fU (some M) Hp [] Hp);rwa [fn] at this
   have rx:bC H2 (H2.alloc (.fU (some M) Hp [] Hp)):=bC.alloc _ _;have rn:(H2.alloc (.fU (some M) Hp [] Hp)).next=h2.next+1+1+1:=by rw [Heap.aM,fn]
   rw [fn];generalize (H2.alloc (.fU (some M) Hp [] Hp))=H3 at r3 rx rn ⊢;have low:∀ b,b<h2.next->H3.get b=h2.get b:=fun b hb=>by rw [rx.get b (by omega),fx.get b hb]
   have s0:H3.get h2.next=some (.map [] 0):=by rw [rx.get _ (by omega)];exact f0
   have s1:H3.get (h2.next+1)=some (.cells [.int .i64 (n:Int),.map h2.next]):=by rw [rx.get _ (by omega)];exact f1
   have sM:H3.get M=some (.map esL Hp):=by rw [rx.get _ (by omega)];exact uM
   have sP:H3.get P=some (.cells [an aQ 3 rules,.map A,.map M]):=by rw [rx.get _ (by omega)];exact uP
   have sA:H3.get A=some (.map es ck):=by rw [low _ (by omega),JN _ (by omega)];exact gA
   have sB:H3.get h.next=some (.cells (au s)):=by rw [low _ (by omega)];exact v0
   have sl:fy (bF rules.l) H3 M ks (eA.iter (bL rules.l) k):=la.gd (by rw [sM,y1]);have sD:er (fun _=>none) H3 h2.next (h2.next+1+1+1):=⟨⟨[],0,[],s0,trivial,fun nm=>rfl⟩,fun nm p hp=>(by cases hp),fun nm nm' p p' hp=>(by cases hp),by omega⟩
   refine EK (S:=h2.next+1) (SB:=h.next) hn n1 xj (fun r hr=>nV (zJ r hr).1) jG s1 sB sP sA We sl sD (fun xA Gu hM'=>by rw [sM] at hM';cases hM';exact r3) rn (by omega) (by omega) (by omega) (by omega) (by omega) (by omega) (by omega) (by omega) (by omega) (by omega) (by omega) e0 e3 e7 rfl rfl (fun hb h' hf=>h5 (.inr (.inl (by rw [uJ];exact hb))) h' (fun b hb=>by rw [hf b (by omega) (by omega),low b (by omega),JN b (by omega),hfr b (by omega),gx.get b hb])) fun e4 h4' D a1 a2 a3 a4 a5 a6 j0 j3 j7 j17=>?_;rw [F.az.ic];simp only [j0,aS,reduceAdd,reduceEqDiff,reduceIte]
   refine EJ (s:=s) (SB:=h.next) (S:=h2.next+1) hn n1 xj iY aa1 (fun r hr=>(zJ r hr).2.2) (by rw [a5 _ (by omega) (by omega)];exact sB) (by omega) j3 j7 j17 rfl rfl rfl (fun hb h' hx=>h5 (.inr (.inr (by rw [uJ];exact hb))) h' (fun b hb=>by rw [hx.get b (by omega),a5 b (by omega) (by omega),low b (by omega),JN b (by omega),hfr b (by omega),gx.get b hb])) fun c1 e5 h6 c2 i3 i7 i17=>?_;have c6:=c2.next
   have t0:h6.get h.next=some (.cells (au s)):=by rw [c2.get _ (by omega),a5 _ (by omega) (by omega)];exact sB
   have t1:h6.get (h2.next+1)=some (.cells [.int .i64 (n:Int),.map h2.next]):=by rw [c2.get _ (by omega),a5 _ (by omega) (by omega)];exact s1
   have lr6:ah none (.ptr h.next 1) h6=some (an aR 3 s.aF):=by rw [ak t0];rfl
   rw [F.az.Pg];simp only [aS,reduceAdd,reduceEqDiff,reduceIte,i3,lr6];refine G7 (S:=h2.next+1) (SB:=h.next) me uO hn n1 xj t1 t0 (a2.ext c2) (by omega) (by omega) (by omega) (by omega) (by omega) i3 i7 i17 rfl rfl rfl fun h7 D7 d1 d2 d3 d4 d5=>?_
   have ad8:¬ Mr rules.l s:=by
    rintro (hb|⟨r,hr,hb⟩|⟨r,hr,hb⟩)
    ·omega
    ·rw [uJ] at hb;have:=a1 r hr;omega
    ·rw [uJ] at hb;have:=c1 r hr;omega
   have gd:∀ b,b<h2.next->h7.get b=h2.get b:=fun b hb=>by rw [d4 b (by omega) (by omega),c2.get b (by omega),a5 b (by omega) (by omega),low b hb]
   refine h0 ad8 h7 n P A M (h2.next+1) h2.next (h2.next+1+1+1) ks k D7 m hn n1 xj iM ⟨?_,la.gd ?_,Bz,jG,⟨es,ck,?_,We⟩,?_,d1,by omega⟩ ⟨fun r hr=>?_,fun r hr=>?_,fun nm p hp=>?_⟩ (fun b hb=>?_) (by omega)
   ·rw [gd _ (by omega)];exact vP
   ·rw [gd _ (by omega),JN _ (by omega)]
   ·rw [gd _ (by omega),JN _ (by omega)];exact gA
   ·rw [d4 _ (by omega) (by omega)];exact t1
   ·obtain ⟨b,_,b2⟩:=d2 r hr;exact ⟨b,b2⟩
   ·obtain ⟨b,b2⟩:=a3 r hr;refine ⟨b,?_⟩;rw [d3 r.name fun q hq e=>GY q hq (by rw [e];exact List.mem_map_of_mem hr)];exact b2
   ·by_cases hq:∃ q ∈ s.aF.l,q.name=nm
    ·exact .inr hq
    ·rw [d3 nm fun q pq e=>hq ⟨q,pq,e⟩] at hp;exact .inl (a4 nm p hp)
   ·rw [gd _ (by omega),JN _ (by omega),hfr _ (by omega),gx.get _ hb]
 obtain ⟨p,Fy,Mk,oW⟩:=W9.mem en rV;have vf:∀ b,b<h'.next->(hh.set h'.next (.fU (some A) ck (seen++[en.2.2]) ck)).get b=h'.get b:=fun b hb=>by rw [Heap.aN,if_neg (by omega)];exact wf b hb
 have v3:(hh.set h'.next (.fU (some A) ck (seen++[en.2.2]) ck)).get h'.next=some (.fU (some A) ck (seen++[en.2.2]) ck):=by rw [Heap.aN,if_pos rfl]
 have vn:(hh.set h'.next (.fU (some A) ck (seen++[en.2.2]) ck)).next=hh.next:=Heap.br _ _ _
 simp only [Gs,nL,uw,aq,cE,aL,B8,e3,e7,Xb,Mk,oW];clear B8;generalize (hh.set h'.next (.fU (some A) ck (seen++[en.2.2]) ck))=H at vf v3 vn ⊢;have pP:H.get P=some (.cells [an aQ 3 rules,.map A,.map M]):=by rw [vf _ (by omega)];exact gP
 have p0':H.get h.next=some (.cells (au s)):=by rw [vf _ (by omega)];exact p0
 have lS:ah (some 2) (.ptr h.next 0) H=some (.agg (au s)):=by rw [ak p0',cV (cs:=au s) (n:=2) rfl]
 obtain ⟨esL,Hp,mL,y1,y2,y3,y4,y5⟩:=la.ex;have Qi:=qZ (h:=H) (by rw [vf M (by omega)];exact y1) y2 p.1;have LR:(mL.find p.1).isSome=decide (p.1 ∈ bF rules.l):=by rw [y5];by_cases hh':p.1 ∈ bF rules.l<;>simp [hh']
 have fin:∀ (e':Env),(¬ (p.1 ∉ bF rules.l/\s.aF.l.find? (iP p.1 p.2)=none))->e' 0=an aQ 3 rules->e' 3 = .ptr h.next 0->e' 7 = .ptr P 0->e' 46 = .ptr h'.next 0->K' .normal ⟨e',198,[],H⟩=true:=fun e' aa5 e0 e3 e7 Xb=>by
  refine PX en rV hns _ _ ⟨fun UF I5 NK q hq DV=>?_,v3,vf,by omega,e0,e3,e7,Xb⟩;rcases mem_append.1 NK with NK|NK
  ·exact FO UF I5 NK q hq DV
  ·rw [mem_singleton] at NK
   have hee:UF=en:=by
    obtain ⟨i,hi⟩:=mem_iff_getElem?.1 rV;obtain ⟨j,hj⟩:=mem_iff_getElem?.1 I5;have uU:(es.map (·.2.2))[i]?=some en.2.2:=by rw [getElem?_map,hi];rfl
    have Gl:(es.map (·.2.2))[j]?=some en.2.2:=by rw [getElem?_map,hj,<- NK];rfl
    have hij:=nS aa2.nodup uU Gl;subst hij;rw [hi] at hj;exact (Option.some.inj hj).symm
   rw [hee,Mk] at DV;injection DV with h3
   have h6:q.2=p.2:=by
    have h7:=uF hmN hq;have h8:=uF hmN Fy;rw [<- h3,h8] at h7;exact (Option.some.inj h7).symm
   rw [<- h3,h6];exact aa5
 simp only [aS,reduceAdd,reduceEqDiff,reduceIte,ct,ak pP,Qi,LR];by_cases hd:p.1 ∈ bF rules.l
 ·simp only [fC hd,Bool.not_true,aK];exact fin _ (fun hb=>hb.1 hd) e0 e3 e7 Xb
 ·simp only [eV hd,Bool.not_false,aL,aS,reduceAdd,reduceEqDiff,reduceIte,lS];refine ai (rG me ?_);simp only [aS,reduceAdd,reduceEqDiff,reduceIte];rcases pJ (iP p.1 p.2) s.aF.l with ⟨f1,f2⟩|⟨j,r,f1,f2,f3⟩
  ·rw [f1];simp only [show decide ((-1:Int)<0)=true from rfl,aL];rw [Th,F.az.bz];simp only [bP,reduceEqDiff,reduceIte];exact h4 (.inl ⟨(p.1,p.2),lM p Fy,hd,f2⟩) _ (fun b hb=>by rw [vf b (by omega),hfr b (by omega),gx.get b hb])
  ·rw [f1];simp only [eV (by omega:¬ ((j:Int)<0)),aK];exact fin _ (fun hb=>by rw [f3] at hb;exact absurd hb.2 (by simp)) e0 e3 e7 Xb
def zK(n:Nat)(s:cN):Lk:=fun nm k=>match s.aF.l.find? (fQ nm) with|some r=>(bitsOf n r.arity.toNat r.aO.l).getD k false|none=>false
def mO(rs:List aP)(n:Nat)(s:cN)(F:Lk):Prop:=∃ k t,eA.dy (bL rs) (eA.iter (bL rs) k)/\(∀ r ∈ rs,eA.iter (bL rs) k r.name<t)/\mA n rs (eA.iter (bL rs) k) (zK n s) t F
theorem mO.unique{A B:Lk}(h:mO rs n s A)(g:mO rs n s B):A=B:=by
 obtain ⟨j,t,h1,h2,h3⟩:=h;obtain ⟨k,u,g1,g2,g3⟩:=g;rw [eA.EU h1 g1] at h2 h3;exact h3.same g3 h2 g2
theorem NL(h:eA.dy (bL rs) (eA.iter (bL rs) k)):Mp rs (eA.iter (bL rs) k):=by
 intro r hr c hc k0 ⟨q,hq,DV⟩
 have he:fm r c ∈ bL rs:=by
  refine mem_flatMap.2 ⟨r,hr,mem_flatMap.2 ⟨c,hc,?_⟩⟩;unfold lY;rw [if_pos ⟨k0,by rw [<- DV];exact List.mem_map_of_mem hq⟩];exact mem_singleton.2 rfl
 have:=h _ he;unfold fm at this;exact this
theorem KZ(se:rs.length<=60)(uD:∀ r ∈ rs,r.body.l.length<=20)(h:eA.dy (bL rs) (eA.iter (bL rs) k))(x:cc):eA.iter (bL rs) k x<=1000000:=by
 have hN:∀ e ∈ bL rs,e.b ∈ bF rs/\e.h ∈ bF rs:=fun e he=>by
  obtain ⟨r,hr,c,hc,_,hin,rfl⟩:=tF he;exact ⟨hin,List.mem_map_of_mem hr⟩
 rw [eA.EU h (eA.settle hN h)];have:=wN se uD (bF rs).length x;have h1:(bF rs).length=rs.length:=by simp [bF]
 rw [h1] at this ⊢;omega
def pY(rs:List aP)(nm:cc):Nat:=match rs.find? (fun r=>r.name==nm) with|some r=>r.args.l.length|none=>0
theorem tX(jG:dW rs []=some m){j k:Int}(h1:(x,j) ∈ cD rs)(h2:(x,k) ∈ cD rs):j=k:=by
 have a:=(kg jG x j).2 h1;have b:=(kg jG x k).2 h2;rw [a] at b;exact Option.some.inj b
theorem K4(jG:dW rs []=some m)(hr:r ∈ rs):pY rs r.name=r.args.l.length:=by
 unfold pY
 cases hf:rs.find? (fun q=>q.name==r.name) with
 |none=>
  rw [find?_eq_none] at hf;exact absurd (hf r hr) (by simp)
 |some q=>
  have hq:=mem_of_find?_eq_some hf;have DV:=find?_some hf;rw [beq_iff_eq] at DV;have:=tX jG (nU hq) (by rw [DV];exact nU hr);simp only;omega
theorem NM(hr:r ∈ rs)(hc:c ∈ r.body.l)(k0:c.kind=0):(c.name,(c.args.l.length:Int)) ∈ cD rs:=by
 refine mem_flatMap.2 ⟨r,hr,mem_cons_of_mem _ ?_⟩;unfold dY;exact mem_map.2 ⟨c,mem_filter.2 ⟨hc,by simpa using k0⟩,rfl⟩
structure aa6 (c:eP):Prop where
 kinds:c.kind=0\/c.kind=1\/c.kind=2
 two:c.kind=1\/c.kind=2->c.args.l.length=2
 arity:c.args.l.length<=12
theorem Dz(h:gI c=true):aa6 c:=by
 unfold gI at h;by_cases k0:c.kind=0
 ·rw [if_pos k0] at h;exact ⟨.inl k0,fun h'=>by omega,nV h⟩
 ·rw [if_neg k0] at h;by_cases Np:c.kind=1\/c.kind=2
  ·rw [if_pos Np] at h;simp only [and_eq_true,decide_eq_true_eq] at h;exact ⟨.inr Np,fun _=>h.2.1,by omega⟩
  ·rw [if_neg Np] at h;cases h
theorem NN(hg:kN rs)(hr:r ∈ rs):jz r=true:=by
 have:=((uQ rs).1 hg).2.1;rw [List.all_eq_true] at this;exact this r hr
theorem zL(hg:kN rs)(hr:r ∈ rs)(hc:c ∈ r.body.l):gI c=true:=by
 have:=NN hg hr;unfold jz at this;simp only [and_eq_true] at this;have h5:=this.2.2.2.1;rw [List.all_eq_true] at h5;exact h5 c hc
theorem NO{k:Int}{r:Rel}(h:s.aF.l.find? (iP nm k)=some r):r ∈ s.aF.l/\r.name=nm/\r.arity=k:=by
 have h1:=mem_of_find?_eq_some h;have h2:=find?_some h;simp only [iP,and_eq_true,beq_iff_eq,decide_eq_true_eq] at h2;exact ⟨h1,h2.1,by first|exact h2.2|exact h2.2.symm⟩
theorem NP(jG:dW rs []=some m)(uO:de s=true)(hn:s.size=(n:Int))(h4:¬ JM rs s)(h5:¬ Mr rs s)(sd:zI n rs s D0)(hr:r ∈ rs)(hc:c ∈ r.body.l)(k0:c.kind=0) :
  n ^ c.args.l.length<=4096/\∃ p,D0 c.name=some p/\p.2.length=n ^ c.args.l.length:=by
 have uJ:s.size.toNat=n:=by omega
 have GZ:=NM hr hc k0;by_cases hd:c.name ∈ bF rs
 ·obtain ⟨q,hq,DV⟩:=mem_map.1 hd
  have hl:q.args.l.length=c.args.l.length:=by
   have:=tX jG (nU hq) (by rw [DV];exact GZ);omega
  obtain ⟨b,hb⟩:=sd.head q hq;rw [DV] at hb;refine ⟨?_,_,hb,by rw [length_replicate,hl]⟩;rw [<- hl,<- uJ];exact Nat.le_of_not_lt fun h=>h5 (.inr (.inl ⟨q,hq,h⟩))
 ·cases hf:s.aF.l.find? (iP c.name (c.args.l.length:Int)) with
  |none=>exact absurd (.inl ⟨_,GZ,hd,hf⟩) h4
  |some q=>
   obtain ⟨hq,DV,QY⟩:=NO hf;obtain ⟨i,hi⟩:=mem_iff_getElem?.1 hq;have P4:=Dq uO hi;rw [uJ] at P4;obtain ⟨k,hk,Np,hkc,Ty⟩:=G0 P4;obtain ⟨b,hb⟩:=sd.rel q hq;have hkl:k=c.args.l.length:=by omega
   rw [DV] at hb;exact ⟨by rw [<- hkl];exact hkc,_,hb,by rw [KE];congr 1;omega⟩
theorem oR(hn:s.size=(n:Int))(h5:¬ Mr rs s)(sd:zI n rs s D0)(hr:r ∈ rs):n ^ r.args.l.length<=4096/\∃ p,D0 r.name=some p/\p.2.length=n ^ r.args.l.length:=by
 have uJ:s.size.toNat=n:=by omega
 obtain ⟨b,hb⟩:=sd.head r hr;refine ⟨?_,_,hb,length_replicate⟩;rw [<- uJ];exact Nat.le_of_not_lt fun h=>h5 (.inr (.inl ⟨r,hr,h⟩))
theorem Qk(hg:kN rs)(jG:dW rs []=some m)(uO:de s=true)(hn:s.size=(n:Int))(h4:¬ JM rs s)(h5:¬ Mr rs s)(sd:zI n rs s D0)(hr:r ∈ rs)(D:DB)(hd:eC D D0):Fu n D r:=
 ⟨fun c hc k0=>by
  obtain ⟨a,p0,b1,b2⟩:=NP jG uO hn h4 h5 sd hr hc k0;obtain ⟨p,c1,_,c3⟩:=hd.get b1
  exact ⟨a,p,c1,by rw [c3];exact b2⟩,fun c hc=>(Dz (zL hg hr hc)).two,fun c hc=>(Dz (zL hg hr hc)).kinds,fun c hc=>(Dz (zL hg hr hc)).arity⟩
theorem Ql(N k:Nat):(replicate N false).getD k false=false:=by
 rw [getD_eq_getElem?_getD,getElem?_replicate];split<;>rfl
theorem K5(uO:de s=true)(h4:¬ JM rs s)(sd:zI n rs s D0):eR D0=zK n s:=by
 funext nm k;unfold zK
 cases hf:s.aF.l.find? (fQ nm) with
 |some r=>
  have hr:=mem_of_find?_eq_some hf;have hn:=find?_some hf;simp only [fQ,beq_iff_eq] at hn;obtain ⟨b,hb⟩:=sd.rel r hr;rw [hn] at hb;unfold eR;rw [hb]
 |none=>
  unfold eR
  cases hp:D0 nm with
  |none=>rfl
  |some p=>
   rcases sd.only nm p hp with hh|⟨r,hr,DU⟩
   ·obtain ⟨r,hr,DU⟩:=mem_map.1 hh;obtain ⟨b,hb⟩:=sd.head r hr;rw [DU,hp] at hb;cases hb;exact Ql _ _
   ·rw [find?_eq_none] at hf;exact absurd (hf r hr) (by simp [fQ,DU])
theorem K6(iY:∀ r ∈ rules.l,r.mj)(hg:kN rules.l)(uO:de s=true)(h4:¬ JM rules.l s)(h5:¬ Mr rules.l s){A lo:Nat}(hn:s.size=(n:Int))(n1:1<=n)(xj:n<=64)
  (iM:eA.dy (bL rules.l) (eA.iter (bL rules.l) k)) (sh:KY n P A M S B lo rules ks (eA.iter (bL rules.l) k) D0 m h) (sd:zI n rules.l s D0) {ng:FuncId} {na nb:List AV}
  (note:∀ (i:Int) (r:aP) (k:Int) (hd:Sl Int) (cs:Sl (Sl Int)) (ls:Sl Int) (y:AV) (h:Heap) (K:Out->Heap->Bool),(∀ h',bC h h'->K (.ret (.tuple [])) h'=true)->Sem TP ng (na++([.agg (bS i r k (an encI 1 hd) (an cZ 1 cs) (an encI 1 ls)),y]++nb)) h K)
  (hK:∀ h' D' F,mO rules.l n s F->eR D'=F->eC D' D0->KY n P A M S B lo rules ks (eA.iter (bL rules.l) k) D' m h'->(∀ b,b<lo->h'.get b=h.get b)->h.next<=h'.next->K (.ret (.tuple [])) h'=true) :
  Sem TP 59 [.ptr P 0,.ptr S 0,.func ng na nb] h K:=by
 obtain ⟨hP,hl,Bz,jG,⟨es,ck,hA,We⟩,hS,hD,o1,o2,o3,o4,o5,o6⟩:=sh;have zJ:=jf jG;have nh:∀ nm p,D0 nm=some p->lo<=p.1:=fun nm p hp=>(hD.Co nm p hp).1
 have o:PS S n D0 rules.l ng na nb:=
  ⟨n1,xj,iY,fun r hr=>(zJ r hr).2.2,fun nm p hp=>by have:=nh nm p hp;omega,fun r hr D hd=>Qk hg jG uO hn h4 h5 sd hr D hd,fun r hr=>⟨(oR hn h5 sd hr).1,nV (zJ r hr).1,(oR hn h5 sd hr).2⟩,note,hg.mj⟩
 refine Nt o hP (by omega) hl Bz (by omega) (fun r hr=>List.mem_map_of_mem hr) (KZ hg.mj (fun r hr=>(zJ r hr).2.1) iM) hS (by omega) hD (fun nm p hp=>by have:=nh nm p hp;omega) fun h' D' T hT hrun wU oN hfr pg=>?_;have gd:∀ b,b<lo->h'.get b=h.get b:=fun b hb=>hfr b (by omega) fun nm p hp=>by have:=nh nm p hp;omega
 have hlen:nw n rules.l D0:=fun r hr p hp=>by
  obtain ⟨_,q,h1,h2⟩:=oR hn h5 sd hr;rw [h1] at hp;cases hp;exact h2
 have Ud:=(NG n1 (NL iM) hlen (fun r hr=>by obtain ⟨_,q,h1,_⟩:=oR hn h5 sd hr;exact ⟨q,h1⟩) hrun).1;rw [K5 uO h4 sd] at Ud;refine hK h' D' (eR D') ⟨k,T+1,iM,fun r hr=>by have:=hT r.name (List.mem_map_of_mem hr);omega,Ud⟩ rfl wU ⟨by rw [gd _ (by omega)];exact hP,hl.gd (gd _ (by omega)),Bz,jG,⟨es,ck,by rw [gd _ (by omega)];exact hA,We⟩,by rw [gd _ (by omega)];exact hS,oN,by omega⟩ gd pg
theorem Qm{i:Int}{k:Int}{hd:Sl Int}{cs:Sl (Sl Int)}{ls:Sl Int}{y:AV}(hK:∀ h',bC h h'->K (.ret (.tuple [])) h'=true):Sem TP 60 ([]++([.agg (bS i r k (an encI 1 hd) (an cZ 1 cs) (an encI 1 ls)),y]++[])) h K:=by
 refine F.A7 ?_;rw [F.CU];simp only [c8 (zy i r k hd cs ls),aq];exact hK _ (bC.alloc _ _)
def yD(n:Nat)(F:Lk)(nm:cc)(k i:Nat):List (List Int):=((List.range i).filter (F nm)).map (nG n k)
theorem NQ(n:Nat)(F:Lk)(nm:cc)(k i:Nat):yD n F nm k (i+1)=yD n F nm k i++if F nm i=true then [nG n k i] else []:=by
 unfold yD;rw [range_succ,filter_append,map_append];by_cases h:F nm i=true<;>simp [h]
theorem Jo(n:Nat)(F:Lk)(nm:cc)(k i:Nat):(yD n F nm k i).length<=i:=by
 unfold yD;rw [length_map];have:=length_filter_le (F nm) (List.range i);simpa using this
def wZ(rs:List aP)(n:Nat)(F:Lk)(UM:List cc):List (cc×Int×List (List Int)):=UM.map fun nm=>(nm,(pY rs nm:Int),yD n F nm (pY rs nm) (n ^ pY rs nm))
def DA(rs:List aP)(s:cN)(e:Int):Prop:=((¬ kN rs\/de s=false)/\e=1)\/(kN rs/\de s=true/\((JM rs s/\e=4)\/(¬ JM rs s/\Mr rs s/\e=5)))
structure fo (rs:List aP) (s:cN):Prop where
 gh:kN rs
 valid:de s=true
 names:¬ JM rs s
 Ax:¬ Mr rs s
theorem BF(s:St):dz TP s Tryz.f19.results.toList=(match ah (some 2) (s.env 4) s.h,(some [s.env 5]:Option (List AV)) with|some v,some vs=>some (v :: vs)|_,_=>none):=by kernel_rfl
theorem BG(jG:dW rs []=some m)(h:nm ∈ bF rs):m.find nm=some (pY rs nm:Int)/\∃ r ∈ rs,r.name=nm/\pY rs nm=r.args.l.length:=by
 obtain ⟨r,hr,DU⟩:=mem_map.1 h;have:=K4 jG hr;rw [<- DU];refine ⟨?_,r,hr,rfl,this⟩;rw [this];exact (kg jG _ _).2 (nU hr)
theorem K7(hl:fy (bF rs) h M ks lv)(Bz:ks.Nodup):qm ks=eF rs:=by
 obtain ⟨h1,h2⟩:=GM Bz;exact vN h1 (pI rs) fun x=>by rw [h2,hl.mem,fO]
theorem NR{D:DB}{p:Nat×List Bool}(hp:D nm=some p)(hi:i<p.2.length):p.2[i]?=some (eR D nm i):=by
 unfold eR;rw [hp];simp only;rw [getD_eq_getElem?_getD,ew hi];rfl
set_option maxHeartbeats 4000000 in
theorem dG{rules:Sl aP}{s:cN}(kD:∀ r ∈ rules.l,r.ok)(iY:∀ r ∈ rules.l,r.mj)(me:s.ok)(Qn:de s=true->s.small){h:Heap}{K:Out->Heap->Bool}
  (K8:∀ e,DA rules.l s e->K (.ret (.tuple [.agg (au ⟨0,none⟩),.int .i64 e])) h=true)
  (zA:fo rules.l s->∀ out:cN,out.size=s.size->(∃ Fk,mO rules.l s.size.toNat s Fk/\out.aF.l.map bY=s.aF.l.map bY++wZ rules.l s.size.toNat Fk (eF rules.l))->K (.ret (.tuple [.agg (au out),.int .i64 0])) h=true) :
  Sem TP 19 [an aQ 3 rules,.agg (au s)] h K:=by
 have hm:cJ=140737488355328:=rfl
 have gen:∀ R:Out->Heap->Bool,(∀ e h',DA rules.l s e->R (.ret (.tuple [.agg (au ⟨0,none⟩),.int .i64 e])) h'=true) ->
   (fo rules.l s->∀ h' a (x:Sl Rel) Fk,Fz true h' a (an aR 3 x)->mO rules.l s.size.toNat s Fk->x.l.map bY=s.aF.l.map bY++wZ rules.l s.size.toNat Fk (eF rules.l)->R (.ret (.tuple [.agg [.int .i64 s.size,a],.int .i64 0])) h'=true) ->
   Sem TP 19 [an aQ 3 rules,.agg (au s)] Heap.empty R:=by
  intro R aa7 Wf;refine F.Em ?_;rw [F.GB];simp only [c8 (cA s),aq,bU,Heap.aM];have g0:((Heap.alloc Heap.empty (.cells (au s))).alloc (.cells [.int .i64 0,.ay])).get 0=some (.cells (au s)):=by simp [Heap.aW,bU]
  have g1:((Heap.alloc Heap.empty (.cells (au s))).alloc (.cells [.int .i64 0,.ay])).get 1=some (.cells [.int .i64 0,.ay]):=by simp [Heap.aW,bU]
  have gn:((Heap.alloc Heap.empty (.cells (au s))).alloc (.cells [.int .i64 0,.ay])).next=2:=rfl
  generalize ((Heap.alloc Heap.empty (.cells (au s))).alloc (.cells [.int .i64 0,.ay]))=H0 at g0 g1 gn ⊢;have l0:ah (some 2) (.ptr 0 0) H0=some (.agg (au s)):=by rw [ak g0,cV (cs:=au s) (n:=2) rfl]
  have hz:iA [.int .i64 0,.ay] [] []=some (.agg [.int .i64 0,.ay]):=rfl
  have bad:∀ (e:Int) (h':Heap) (v:AV) (en:Env),e≠0->DA rules.l s e->(∀ b,b<2->h'.get b=H0.get b)->en 4 = .ptr 1 0->en 5 = .int .i64 e ->
    (ag (iA [.int .i64 0,.ay] [] []) fun Tf=>ag (aZ 2 (.ptr 1 0) Tf h') fun h11=>ag (match ah (some 2) (en 4) h11,(some [en 5]:Option (List AV)) with|some v,some vs=>some (v :: vs)|_,_=>none) fun vs=>R (.ret (oneOf vs)) h11)=true:=by
   intro e h' v en he hb hf e4 e5;have q1:h'.get 1=some (.cells [.int .i64 0,.ay]):=by rw [hf 1 (by omega)];exact g1
   have st:aZ 2 (.ptr 1 0) (.agg [.int .i64 0,.ay]) h'=some (h'.set 1 (.cells [.int .i64 0,.ay])):=by
    rw [cB (n:=2) (v:=.agg [.int .i64 0,.ay]) q1 rfl rfl (by simp)];rfl
   have P9:ah (some 2) (.ptr 1 0) (h'.set 1 (.cells [.int .i64 0,.ay]))=some (.agg [.int .i64 0,.ay]):=by rw [ak (cs:=[.int .i64 0,.ay]) (by rw [Heap.aN,if_pos rfl])];rfl
   simp only [hz,aq,st,e4,e5,P9,oneOf];exact aa7 e _ hb
  simp only [l0,aq];refine ai (az kD iY me (fun hb h' hf=>?_) (fun a1 a2 a3 h' hf=>?_) (fun a1 a2 a3 a4 h' hf=>?_) fun a1 a2 a3 a4 h' n P A M S B lo ks k D0 m hn n1 xj iM sh sd hf hA2=>?_)
  ·simp only [aS,reduceAdd,reduceEqDiff,reduceIte,cP];simp only [show (!decide ((1:Int)=0))=true from rfl,aL,BF];exact bad 1 h' .ey _ (by omega) (.inl ⟨hb,rfl⟩) (by rw [<- gn];exact hf) rfl rfl
  ·simp only [aS,reduceAdd,reduceEqDiff,reduceIte,cP];simp only [show (!decide ((4:Int)=0))=true from rfl,aL,BF];exact bad 4 h' .ey _ (by omega) (.inr ⟨a1,a2,.inl ⟨a3,rfl⟩⟩) (by rw [<- gn];exact hf) rfl rfl
  ·simp only [aS,reduceAdd,reduceEqDiff,reduceIte,cP];simp only [show (!decide ((5:Int)=0))=true from rfl,aL,BF];exact bad 5 h' .ey _ (by omega) (.inr ⟨a1,a2,.inr ⟨a3,a4,rfl⟩⟩) (by rw [<- gn];exact hf) rfl rfl
  have uJ:s.size.toNat=n:=by omega
  have ad9:=Qn a2;obtain ⟨_,_,_,_,h8⟩:=jw a2;specialize Wf ⟨a1,a2,a3,a4⟩;rw [uJ] at Wf;clear aa7 bad;simp only [aS,reduceAdd,reduceEqDiff,reduceIte,cP];simp only [decide_true,Bool.not_true,aK];refine ai (K6 iY a1 a2 a3 a4 hn n1 xj iM sh sd (fun _ _ _ _ _ _ _ _ _ hk=>Qm hk) fun h3 D' Fk hF hDF wU sh3 UN hn3=>?_);obtain ⟨hP,hl,Bz,jG,⟨es,ck,hA,We⟩,hS,hD,o1,o2,o3,o4,o5,o6⟩:=sh3;rw [gn] at hA2;have p0:h3.get 0=some (.cells (au s)):=by rw [UN 0 (by omega),hf 0 (by omega)];exact g0
  have p1:h3.get 1=some (.cells [.int .i64 0,.ay]):=by rw [UN 1 (by omega),hf 1 (by omega)];exact g1
  have l3:ah (some 2) (.ptr 0 0) h3=some (.agg (au s)):=by rw [ak p0,cV (cs:=au s) (n:=2) rfl]
  simp only [aS,reduceAdd,reduceEqDiff,reduceIte,l3];refine ai (cI ad9 fun a h4 l x4 o4' hl4=>?_);obtain ⟨BD,JL⟩:=mT o4'.own;have Be:bw [.int .i64 s.size,a]=true:=by simp only [bw,Bool.and_true] at BD ⊢;rw [BD];rfl
  obtain ⟨H5,hs5,p5,po5,pn5⟩:=cF (h:=h4) (zs:=[.int .i64 0,.ay]) (cs:=[.int .i64 s.size,a]) (n:=2) rfl rfl Be;have x5:bC h4 H5:=⟨by omega,fun b hb=>po5 b (by omega)⟩
  have x35:bC h3 H5:=x4.trans x5;have hn4:=x4.next
  have hP5:H5.get P=some (.cells [an aQ 3 rules,.map A,.map M]):=by rw [x35.get _ (by omega)];exact hP
  simp only [aS,reduceAdd,reduceEqDiff,reduceIte,hs5,ct,ak hP5];refine ai (keys_map ?_);simp only [aS,reduceAdd,reduceEqDiff,reduceIte];have gB:(H5.alloc (.box (.map M))).get H5.next=some (.box (.map M)):=aB _ _
  have xB:bC H5 (H5.alloc (.box (.map M))):=bC.alloc _ _;generalize (H5.alloc (.box (.map M)))=H6 at gB xB ⊢;have zJ:=jf jG;have l5:fy (bF rules.l) H6 M ks (eA.iter (bL rules.l) k):=hl.gd ((x35.trans xB).get M (by omega))
  obtain ⟨UH,UI,gM,aa8,Vr,hel⟩:=l5.adl Bz fun s hs=>by
   obtain ⟨r,hr,rfl⟩:=mem_map.1 ((l5.mem s).1 hs);have:=IE (wO (zJ r hr).1);omega
  have adO:=Ms hl Bz;have aiH:=oP rules.l;have aa1:=a1.mj;refine ai (KA gB gM aa8 (by omega) fun av h7 x7 oa=>?_);rw [Vr,K7 hl Bz] at oa;have hb7:=x7.next
  have hb6:=xB.next
  have x47:bC h4 h7:=(x5.trans xB).trans x7;have oo:=o4'.adJ x47 (Y:=fun b=>b=h4.next) (fun b hb=>by omega);have q5:h7.get h4.next=some (.cells [.int .i64 s.size,a]):=by rw [(xB.trans x7).get _ (by omega)];exact p5
  have x37:bC h3 h7:=x4.trans x47;simp only [aS,reduceAdd,reduceEqDiff,reduceIte,oa.len];have hdl:(eF rules.l).length<=cM:=by unfold cM;omega
  have VU:l.length<=8:=by have:=congrArg List.length hl4;rw [length_map,length_map] at this;omega
  refine aE 0 (eF rules.l).length (zero_le _) (fun i e h'=>∃ a l,h'.get h4.next=some (.cells [.int .i64 s.size,a])/\Qc (fun b=>b=h4.next) h3.next h' a l/\(l.map fun p=>bY p.2)=s.aF.l.map bY++wZ rules.l n Fk ((eF rules.l).take i)/\l.length<=8+i/\(∀ b,b<h3.next->h'.get b=h3.get b)/\Own encS 1 H6.next h' av (eF rules.l)/\(∀ b,cz av=some b->cz a≠some b)/\h7.next<=h'.next /\
   e 3 = .ptr 0 0/\e 4 = .ptr 1 0/\e 6 = .ptr P 0/\e 7 = .ptr S 0/\e 9 = .ptr h4.next 0/\e 38=av/\e 39 = .int .i64 ((eF rules.l).length:Int)/\e 40 = .int .i64 (i:Int))
   ⟨a,l,q5,oo,by rw [hl4];simp [wZ],by omega,fun b hb=>x37.get b hb,oa,fun b hb eX=>by have:=oa.ge hb;have:=o4'.own.lt eX;have:=x5.next;omega,dN _,rfl,rfl,rfl,rfl,rfl,rfl,rfl,rfl⟩ ?_ ?_
  ·rintro i e h' _ hi ⟨a,l,q5,o,hl5,hlen,hfr,Xc,aa9,pg,e3,e4,e6,e7,e9,UO,No,Mi⟩ K' aed hx hr hp;have hv:(eF rules.l)[i]?=some (eF rules.l)[i]:=ew hi;generalize (eF rules.l)[i]=nm at hv;have vr:nm ∈ bF rules.l:=(fO _).1 (iq hv);obtain ⟨HG,r,nR,DU,TD⟩:=BG jG vr;obtain ⟨EG,p0',Bu,aap⟩:=oR hn a4 sd nR;rw [DU] at Bu;obtain ⟨p,hpD,_,sE⟩:=wU.get Bu;rw [aap,<- TD] at sE;rw [<- TD] at EG;have GV:pY rules.l nm<=12:=by rw [TD];exact nV (zJ r nR).1
   obtain ⟨_,hpn,_,aba⟩:=hD.Co nm p hpD;obtain ⟨q,_,i1,i2⟩:=tu Xc hv;have pP:h'.get P=some (.cells [an aQ 3 rules,.map A,.map M]):=by rw [hfr _ (by omega)];exact hP
   have pA:h'.get A=some (.map es ck):=by rw [hfr _ (by omega)];exact hA
   have Qi:dV .string (.int .i64 0) false (.map A) (.str nm) h'=some (.int .i64 (pY rules.l nm:Int)):=by rw [tD pA We.1,HG];rfl
   have xh:iA [.str [],.int .i64 0,.ay] [(0,1),(1,1)] [.str nm,.int .i64 (pY rules.l nm:Int)]=some (.agg [.str nm,.int .i64 (pY rules.l nm:Int),.ay]):=rfl;obtain ⟨H8,hs8,p8,po8,pn8⟩:=cF (h:=h') (zs:=[.str [],.int .i64 0,.ay]) (cs:=[.str nm,.int .i64 (pY rules.l nm:Int),.ay]) (n:=3) rfl rfl rfl;have x8:bC h' H8:=⟨by omega,fun b hb=>po8 b (by omega)⟩
   have pS:H8.get S=some (.cells [.int .i64 (n:Int),.map B]):=by rw [x8.get _ (by omega),hfr _ (by omega)];exact hS
   have hD8:er D' H8 B lo:=hD.ext ⟨by omega,fun b hb=>by rw [x8.get _ (by omega),hfr b hb]⟩;rw [F.dG.aU];simp only [e6,e7,UO,No,Mi,aS,reduceAdd,reduceEqDiff,reduceIte,bp hi,i1,i2,ct,ak pP,Qi,xh,hs8];simp only [aS,reduceAdd,reduceEqDiff,reduceIte,ct,ak pS,hD8.look hpD];have TE:∀ hh,bX .slice (.slice p.1 0 p.2.length 1) hh=some (.int .i64 (p.2.length:Int)):=fun _=>rfl;simp only [TE,aq];have hbp:p.2.length<=cM:=by rw [sE];unfold cM;omega
   refine aE 0 p.2.length (zero_le _) (fun j e h2=>∃ tv ts,h2.get h'.next=some (.cells [.str nm,.int .i64 (pY rules.l nm:Int),tv])/\Own cZ 1 (h'.next+1) h2 tv ts/\ts.map Sl.l=yD n Fk nm (pY rules.l nm) j/\bC h' h2/\h'.next+1<=h2.next /\
    e 3 = .ptr 0 0/\e 4 = .ptr 1 0/\e 6 = .ptr P 0/\e 7 = .ptr S 0/\e 9 = .ptr h4.next 0/\e 38=av/\e 39 = .int .i64 ((eF rules.l).length:Int)/\e 40 = .int .i64 (i:Int)/\e 12 = .ptr h'.next 0/\e 57 = .slice p.1 0 p.2.length 1/\e 58 = .int .i64 (p.2.length:Int)/\e 59 = .int .i64 (j:Int))
    ⟨_,[],p8,.nil,rfl,x8,by omega,e3,e4,e6,e7,e9,UO,No,Mi,rfl,rfl,rfl,rfl⟩ ?_ ?_
   ·rintro j e h2 _ hj ⟨tv,ts,q6,ot,Jd,x2,Qe,e3,e4,e6,e7,e9,UO,No,Mi,Ba,e57,e58,Xd⟩ K2 TF fY qi DT;have aaL:ts.length<=j:=by have:=congrArg List.length Jd;rw [length_map] at this;have:=Jo n Fk nm (pY rules.l nm) j;omega
    have abc:h2.get p.1=some (.cells (p.2.map bv)):=(by rw [x2.get _ (by omega),hfr _ hpn];exact aba);have oN:=NR hpD hj;rw [hDF] at oN;have TG:=NQ n Fk nm (pY rules.l nm) j;rw [F.dG.dm];simp only [e57,e58,Xd,aS,reduceAdd,reduceEqDiff,reduceIte,bp hj,nt hj,GS abc oN]
    cases hFb:Fk nm j with
    |false=>
     rw [hFb,if_neg (by simp),append_nil] at TG;simp only [aK,Xd,aJ hj hbp,aq];exact TF _ _ ⟨tv,ts,q6,ot,by rw [TG];exact Jd,x2,Qe,e3,e4,e6,e7,e9,UO,No,Mi,Ba,e57,e58,rfl⟩
    |true=>
     rw [hFb,if_pos rfl] at TG;have w0:h2.get 0=some (.cells (au s)):=by rw [x2.get _ (by omega),hfr 0 (by omega)];exact p0
     have lz:ah none (.ptr 0 0) h2=some (.int .i64 (n:Int)):=(by rw [ak w0,<- hn];rfl);have la:ah none (.ptr h'.next 1) h2=some (.int .i64 (pY rules.l nm:Int)):=by rw [ak q6];rfl
     have lt:ah none (.ptr h'.next 2) h2=some tv:=(by rw [ak q6];rfl);simp only [aL,e3,Ba,Xd,aS,reduceAdd,reduceEqDiff,reduceIte,lz,la];refine ai (gq n1 xj GV EG (by rw [<- sE];exact hj) fun t ht=>?_);obtain ⟨a9,h9,c9,o9,f9,n9,w9,b9⟩:=ot.push qw Du Qe (bytes:=24) (by rw [hm];omega) t;have hne:cz tv≠some h'.next:=fun hb=>by have:=ot.ge hb;omega
     have s6:h9.get h'.next=some (.cells [.str nm,.int .i64 (pY rules.l nm:Int),tv]):=by rw [f9 _ (by omega) hne];exact q6
     have c6:=o9.k9
     have st:aZ 1 (.ptr h'.next 2) a9 h9=some (h9.set h'.next (.cells [.str nm,.int .i64 (pY rules.l nm:Int),a9])):=by
      rw [cB (n:=1) s6 c6.2.1 c6.1 (by simp),c6.2.2];rfl
     simp only [aS,reduceAdd,reduceEqDiff,reduceIte,Ba,lt,Mo,c9,st,Xd,aJ hj hbp];refine TF _ _ ⟨a9,ts++[t],by rw [Heap.aN,if_pos rfl],o9.kF (by omega) _,?_,(w9 h' x2 (by omega)).set (dN _) _,by rw [Heap.br];omega,e3,e4,e6,e7,e9,UO,No,Mi,Ba,e57,e58,rfl⟩;rw [map_append,Jd,TG];simp [ht]
   ·rintro e h2 ⟨tv,ts,q6,ot,Jd,x2,Qe,e3,e4,e6,e7,e9,UO,No,Mi,Ba,e57,e58,Xd⟩ K2 fY;have oe:=o.ext x2;obtain ⟨JK,Oh⟩:=mT ot;have lq:ah (some 3) (.ptr h'.next 0) h2=some (.agg (gZ (nm,(pY rules.l nm:Int),⟨tv,JK,Oh⟩))):=by rw [ak q6];rfl
    have q52:h2.get h4.next=some (.cells [.int .i64 s.size,a]):=by rw [x2.get _ (by omega)];exact q5
    have lo:ah none (.ptr h4.next 1) h2=some a:=(by rw [ak q52];rfl);obtain ⟨x,jI,KK⟩:=(jB.zG ot mN).data;have IS:x.l=ts:=by rw [jI,List.map_map];simp [Function.comp_def]
    obtain ⟨a9,h9,c9,o9,f9,n9,w9,b9⟩:=oe.push lF uL (by omega) (bytes:=48) (by rw [hm];omega) (nm,(pY rules.l nm:Int),⟨tv,JK,Oh⟩) ⟨nm,(pY rules.l nm:Int),x⟩ (fun b hb=>by omega)
     (fun g hg=>KP (KK g fun b b1 b2 _=>hg b (by omega) b2 (by omega) (fun hb=>by have:=o.own.lt hb;omega)))
    have hne:cz a≠some h4.next:=fun hb=>oe.av _ hb rfl
    have s5:h9.get h4.next=some (.cells [.int .i64 s.size,a]):=by rw [f9 _ (by omega) hne];exact q52
    have c6:=o9.own.k9
    have st:aZ 1 (.ptr h4.next 1) a9 h9=some (h9.set h4.next (.cells [.int .i64 s.size,a9])):=by
     rw [cB (n:=1) s5 c6.2.1 c6.1 (by simp),c6.2.2];rfl
    rw [F.dG.dm];simp only [e58,Xd,aS,reduceAdd,reduceEqDiff,reduceIte,aX];rw [fY,F.dG.cx];simp only [aS,reduceAdd,reduceEqDiff,reduceIte,e9,Ba,Mi,lo,lq,KO,c9,st,aJ hi hdl];refine aed _ _ ⟨a9,_,by rw [Heap.aN,if_pos rfl],o9.adI rfl _,?_,by simp;omega,fun b hb=>?_,?_,fun b hb eX=>by have:=Xc.lt hb;have:=b9 b eX;omega,by rw [Heap.br];omega,e3,e4,e6,e7,e9,UO,No,rfl⟩
    ·rw [map_append,hl5,take_add_one,hv];unfold wZ;rw [map_append,<- append_assoc];simp only [toList_some,map_cons,map_nil,bY,IS,Jd,sE]
    ·rw [Heap.aN,if_neg (by omega),f9 b (by omega) (fun eX=>by have:=oe.own.ge eX;omega),x2.get b (by omega)];exact hfr b hb
    ·have aef:∀ b,cz av=some b->(h9.set h4.next (.cells [.int .i64 s.size,a9])).get b=h'.get b:=fun b hb=>by
      have b1:=Xc.ge hb;have b2:=Xc.lt hb;rw [Heap.aN,if_neg (by omega),f9 b (by omega) ?_,x2.get b b2];intro eX;exact aa9 b hb eX
     exact Xc.agree aef (by rw [Heap.br];omega)
  ·rintro e h' ⟨a,l,q5,o,hl5,hlen,hfr,Xc,aa9,pg,e3,e4,e6,e7,e9,UO,No,Mi⟩ K' hx;rw [jW (dN _)] at hl5;obtain ⟨BD,JL⟩:=mT o.own;have Wg:bw [.int .i64 s.size,a]=true:=by simp only [bw,Bool.and_true] at BD ⊢;rw [BD];rfl
   have q1:h'.get 1=some (.cells [.int .i64 0,.ay]):=by rw [hfr 1 (by omega)];exact p1
   have lo:ah (some 2) (.ptr h4.next 0) h'=some (.agg [.int .i64 s.size,a]):=by rw [ak q5];rfl
   have st:aZ 2 (.ptr 1 0) (.agg [.int .i64 s.size,a]) h'=some (h'.set 1 (.cells [.int .i64 s.size,a])):=by
    rw [cB (n:=2) (v:=.agg [.int .i64 s.size,a]) q1 rfl Wg (by simp)];rfl
   have P9:ah (some 2) (.ptr 1 0) (h'.set 1 (.cells [.int .i64 s.size,a]))=some (.agg [.int .i64 s.size,a]):=by rw [ak (cs:=[.int .i64 s.size,a]) (by rw [Heap.aN,if_pos rfl])];rfl
   rw [F.dG.aU];simp only [No,Mi,aS,reduceAdd,reduceEqDiff,reduceIte,aX];rw [hx,F.dG.aG];simp only [bP,reduceEqDiff,reduceIte,e4,e9,lo,st,aq,BF,P9,oneOf];obtain ⟨x,jI,fY⟩:=(o.low (d:=1) (by omega) (.cells [.int .i64 s.size,a])).fz;exact Wf _ a x Fk fY hF (by rw [jI,List.map_map];exact hl5)
 have main:=gen (fun o h'=>yes ((∃ e,DA rules.l s e/\o = .ret (.tuple [.agg (au ⟨0,none⟩),.int .i64 e]))\/(fo rules.l s/\∃ (a:AV) (x:Sl Rel) (Fk:Lk),o = .ret (.tuple [.agg [.int .i64 s.size,a],.int .i64 0])/\Fz true h' a (an aR 3 x)/\mO rules.l s.size.toNat s Fk/\x.l.map bY=s.aF.l.map bY++wZ rules.l s.size.toNat Fk (eF rules.l))))
  (fun e h' he=>cw.2 (.inl ⟨e,he,rfl⟩)) (fun hr h' a x Fk hf hF hx=>cw.2 (.inr ⟨hr,a,x,Fk,rfl,hf,hF,hx⟩))
 refine main.frozen (by simp [AV.cO,AV.pure,cp fN,eO]) fun o h' ho=>?_;rcases cw.1 ho with ⟨e,he,rfl⟩|⟨hr,a,x,Fk,rfl,hf,hF,hx⟩
 ·exact ⟨_,_,rfl,.dR (by rfl),K8 e he⟩
 ·have f1:=lI.cons (.scalar (.int .i64 s.size) rfl) (lI.cons hf lI.nil);have f2:=lI.cons (Fz.agg _ _ f1.len f1.rel) (lI.cons (.scalar (.int .i64 0) rfl) lI.nil);exact ⟨_,_,rfl,.tuple _ _ f2.len f2.rel,zA hr ⟨s.size,x⟩ rfl ⟨Fk,hF,hx⟩⟩
theorem EL{x:Sl cc}{s:cc}(hl:x.l.length<=cM)(hK:K (.ret (.bool (x.l.any fun x=>x==s))) h=true):Sem TP 86 [an encS 1 x,.str s] h K:=by
 refine F.rO ?_;rw [F.sR];refine aE 0 x.l.length (zero_le _) (fun i e h'=>h'=h/\e 0=an encS 1 x/\e 1 = .str s/\e 5 = .int .i64 (i:Int)/\((x.l.take i).any fun x=>x==s)=false) ⟨rfl,rfl,rfl,rfl,rfl⟩ ?_ ?_
 ·rintro i e h' _ hi ⟨rfl,e0,e1,e5,ht⟩ K' hn hx hr hp;have hv:x.l[i]?=some x.l[i]:=ew hi;generalize x.l[i]=t at hv;rw [F.dA.aU];simp only [e0,e1,e5,aS,reduceAdd,reduceEqDiff,reduceIte,bp hi,aV x hi,jr hv]
  cases hq:(t==s) with
  |true=>
   simp only [aL];rw [hr,F.dA.bz];have:(x.l.any fun x=>x==s)=true:=List.any_eq_true.2 ⟨t,iq hv,hq⟩;rw [this] at hK;simp only [bP,reduceEqDiff,reduceIte];exact hK
  |false=>
   simp only [aK,e5,aJ hi hl,aq];exact hn _ _ ⟨rfl,e0,e1,rfl,yl hv ht hq⟩
 ·rintro e h' ⟨rfl,e0,e1,e5,ht⟩ K' hx;rw [jW (dN _)] at ht;rw [F.dA.aU];simp only [e0,e5,aS,reduceAdd,reduceEqDiff,reduceIte,aX];rw [hx,F.dA.aG];rw [ht] at hK;exact hK
theorem Qo(y:cc×Int):bw (nj y)=true:=rfl
def QZ(l:List (cc×Int))(x:cc):Int:=match l.find? (fun p=>p.1==x) with|some p=>p.2|none=>-1
theorem zM(se:rs.length<=60)(uD:∀ r ∈ rs,r.body.l.length<=20):(cD rs).length<=1260:=by
 have:∀ rs:List aP,(∀ r ∈ rs,r.body.l.length<=20)->(cD rs).length<=rs.length*21:=by
  intro rs
  induction rs with
  |nil=>intro _;simp [cD]
  |cons r rs ih=>
   intro h;have h1:=ih fun q hq=>h q (mem_cons_of_mem _ hq);have h2:=h r mem_cons_self;have h3:=pX r.body.l;unfold cD at h1 ⊢;rw [flatMap_cons,length_append,length_cons];have:(tL r).length=1+(dY r.body.l).length:=by unfold tL;rw [length_cons];omega
   omega
 have:=this rs uD;omega
theorem ei{rules:Sl aP}(se:rules.l.length<=60)(uD:∀ r ∈ rules.l,r.body.l.length<=20){s:cc}{h:Heap}{K:Out->Heap->Bool}(hK:K (.ret (.int .i64 (QZ (cD rules.l) s))) h=true):Sem TP 116 [an aQ 3 rules,.str s] h K:=by
 have hal:=zM se uD;refine F.A4 ?_;rw [F.CQ];refine ai (cL se uD fun x jI=>?_);simp only [aS,reduceAdd,reduceEqDiff,reduceIte];have Mf:x.l.length<=cM:=by rw [jI];unfold cM;omega
 rw [<- jI] at hK;refine aE 0 x.l.length (zero_le _) (fun i e h'=>h'=h/\e 1 = .str s/\e 5=an nj 2 x/\e 6 = .int .i64 (i:Int)/\∀ p ∈ x.l.take i,p.1≠s) ⟨rfl,rfl,rfl,rfl,fun p hp=>(by cases hp)⟩ ?_ ?_
 ·rintro i e h' _ hi ⟨rfl,e1,e5,e6,Bc⟩ K' hn hx hr hp;have hv:x.l[i]?=some x.l[i]:=ew hi;generalize x.l[i]=p at hv;rw [F.ei.aU];simp only [e1,e5,e6,aS,reduceAdd,reduceEqDiff,reduceIte,bp hi,aV x hi,Jl hv,KW hv,rA];by_cases hq:p.1=s
  ·simp only [fC hq,aL];rw [hr,F.ei.bz];simp only [bP,reduceEqDiff,reduceIte]
   have:x.l.find? (fun p=>p.1==s)=some p:=by
    rw [find?_eq_some_iff_getElem];refine ⟨by simp [hq],i,hi,(ki.1 hv).2,fun j hj=>?_⟩;have:=Bc _ (mem_take_iff_getElem.2 ⟨j,by omega,rfl⟩);simp [this]
   unfold QZ at hK;rw [this] at hK;exact hK
  ·simp only [eV hq,aK,e6,aJ hi Mf,aq];refine hn _ _ ⟨rfl,e1,e5,rfl,fun q pq=>?_⟩;rw [take_add_one,hv] at pq;rcases mem_append.1 pq with pq|pq
   ·exact Bc q pq
   ·simp only [toList_some,mem_singleton] at pq;subst pq;exact hq
 ·rintro e h' ⟨rfl,e1,e5,e6,Bc⟩ K' hx;rw [jW (dN _)] at Bc;rw [F.ei.aU];simp only [e5,e6,aS,reduceAdd,reduceEqDiff,reduceIte,aX];rw [hx,F.ei.aG]
  have:x.l.find? (fun p=>p.1==s)=none:=by
   rw [find?_eq_none];intro q hq;simp [Bc q hq]
  unfold QZ at hK;rw [this] at hK;exact hK
theorem G9(jG:dW rs []=some m){k:Int}(h:(x,k) ∈ cD rs):QZ (cD rs) x=k:=by
 unfold QZ
 cases hf:(cD rs).find? (fun p=>p.1==x) with
 |none=>
  rw [find?_eq_none] at hf;exact absurd (hf _ h) (by simp)
 |some p=>
  have h1:=mem_of_find?_eq_some hf;have h2:=find?_some hf;rw [beq_iff_eq] at h2;simp only;exact tX jG (x:=x) (by rw [<- h2];exact h1) h
theorem Qp(jG:dW rs []=some m)(h:x ∈ bF rs):QZ (cD rs) x=(pY rs x:Int):=by
 obtain ⟨r,hr,DU⟩:=mem_map.1 h;rw [<- DU,G9 jG (nU hr),K4 jG hr]
def oS(ds:List cc)(ys:List (cc×Int)):List cc:=ys.foldl (fun o y=>if y.1 ∈ ds then o else eL o y.1) []
theorem Jp{ds:List cc}{ys:List (cc×Int)}{y:cc×Int}(hy:ys[i]?=some y):oS ds (ys.take (i+1))=if y.1 ∈ ds then oS ds (ys.take i) else eL (oS ds (ys.take i)) y.1:=by
 unfold oS;rw [take_add_one,hy];simp
theorem DC{ds:List cc}:∀ {ys:List (cc×Int)},x ∈ oS ds ys↔∃ y ∈ ys,y.1=x/\x ∉ ds:=by
 have key:∀ (ys:List (cc×Int)) (o:List cc),x ∈ ys.foldl (fun o y=>if y.1 ∈ ds then o else eL o y.1) o↔(x ∈ o\/∃ y ∈ ys,y.1=x/\x ∉ ds):=by
  intro ys
  induction ys with
  |nil=>intro o;simp
  |cons y ys ih=>
   intro o;rw [foldl_cons,ih];by_cases hd:y.1 ∈ ds
   ·rw [if_pos hd];constructor
    ·rintro (h|⟨z,hz,h1,h2⟩)
     ·exact .inl h
     ·exact .inr ⟨z,mem_cons_of_mem _ hz,h1,h2⟩
    ·rintro (h|⟨z,hz,h1,h2⟩)
     ·exact .inl h
     ·rcases mem_cons.1 hz with rfl|hz
      ·exact absurd (h1▸hd) h2
      ·exact .inr ⟨z,hz,h1,h2⟩
   ·rw [if_neg hd,rB];constructor
    ·rintro ((h|h)|⟨z,hz,h1,h2⟩)
     ·exact .inl h
     ·exact .inr ⟨y,mem_cons_self,h.symm,by rw [h];exact hd⟩
     ·exact .inr ⟨z,mem_cons_of_mem _ hz,h1,h2⟩
    ·rintro (h|⟨z,hz,h1,h2⟩)
     ·exact .inl (.inl h)
     ·rcases mem_cons.1 hz with rfl|hz
      ·exact .inl (.inr h1.symm)
      ·exact .inr ⟨z,hz,h1,h2⟩
 intro ys;unfold oS;rw [key];simp
theorem w8(ds:List cc):∀ (ys:List (cc×Int)),(oS ds ys).length<=ys.length:=by
 have key:∀ (ys:List (cc×Int)) (o:List cc),(ys.foldl (fun o y=>if y.1 ∈ ds then o else eL o y.1) o).length<=o.length+ys.length:=by
  intro ys
  induction ys with
  |nil=>intro o;simp
  |cons y ys ih=>
   intro o;rw [foldl_cons];have h1:=ih (if y.1 ∈ ds then o else eL o y.1)
   have h2:(if y.1 ∈ ds then o else eL o y.1).length<=o.length+1:=by
    split
    ·omega
    ·exact wT o y.1
   rw [length_cons];omega
 intro ys;have:=key ys [];simpa [oS] using this
def FP(rs:List aP):List (cc×Int):=(oS (eF rs) (cD rs)).map fun s=>(s,QZ (cD rs) s)
theorem TH{l:List cc}{s:cc}:(l.any fun x=>x==s)=decide (s ∈ l):=by
 rw [Bool.eq_iff_iff,List.any_eq_true,decide_eq_true_iff];constructor
 ·rintro ⟨x,hx,e⟩;rw [beq_iff_eq] at e;rw [<- e];exact hx
 ·intro h;exact ⟨s,h,by simp⟩
set_option maxHeartbeats 1000000 in
theorem cy{rules:Sl aP}(se:rules.l.length<=60)(uD:∀ r ∈ rules.l,r.body.l.length<=20){h:Heap}{K:Out->Heap->Bool}(hK:∀ x:Sl (cc×Int),x.l=FP rules.l->K (.ret (an nj 2 x)) h=true):Sem TP 68 [an aQ 3 rules] h K:=by
 have hm:cJ=140737488355328:=rfl;have hal:=zM se uD;have hdl:=oP rules.l
 have main:Sem TP 68 [an aQ 3 rules] Heap.empty (fun o h'=>yes (∃ v,∃ x:Sl (cc×Int),o = .ret v/\x.l=FP rules.l/\Fz true h' v (an nj 2 x))):=by
  refine F.yf ?_;rw [F.zm];refine ai (dD se fun d hd1=>?_);simp only [aS,reduceAdd,reduceEqDiff,reduceIte];refine ai (cL se uD fun x jI=>?_);simp only [aS,reduceAdd,reduceEqDiff,reduceIte];have IS:x.l.length<=1260:=by rw [jI];exact hal
  have Mf:x.l.length<=cM:=by unfold cM;omega
  have hdb:d.l.length<=cM:=by rw [hd1];unfold cM;omega
  refine aE 0 x.l.length (zero_le _) (fun i e h'=>∃ a,Own encS 1 0 h' a (oS (eF rules.l) (x.l.take i))/\e 0=an aQ 3 rules/\e 3=an encS 1 d/\e 4=a/\e 5=an nj 2 x/\e 6 = .int .i64 (i:Int)) ⟨.ay,.nil,rfl,rfl,rfl,rfl,rfl⟩ ?_ ?_
  ·rintro i e h' _ hi ⟨a,o,e0,e3,e4,e5,e6⟩ K' hn hx hr hp;have hv:x.l[i]?=some x.l[i]:=ew hi;generalize x.l[i]=y at hv;have iM:=Jp (ds:=eF rules.l) hv;rw [F.cy.aU];simp only [e3,e5,e6,aS,reduceAdd,reduceEqDiff,reduceIte,bp hi,aV x hi,Jl hv];refine ai (EL hdb ?_);rw [TH,hd1];simp only [aS,reduceAdd,reduceEqDiff,reduceIte];by_cases Qq:y.1 ∈ eF rules.l
   ·rw [if_pos Qq] at iM;simp only [fC Qq,Bool.not_true,aK,e6,aJ hi Mf,aq];exact hn _ _ ⟨a,by rw [iM];exact o,e0,e3,e4,e5,rfl⟩
   ·rw [if_neg Qq] at iM;simp only [eV Qq,Bool.not_false,aL,e4,e5,e6,aS,reduceAdd,reduceEqDiff,reduceIte,aV x hi,Jl hv];refine ai (ez o (zero_le _) (by have h1:=w8 (eF rules.l) (x.l.take i);have h2:=length_take_le i x.l;omega) fun a1 h1 x1 o1=>?_);simp only [aS,reduceAdd,reduceEqDiff,reduceIte,e6,aJ hi Mf];exact hn _ _ ⟨a1,by rw [iM];exact o1,e0,e3,rfl,e5,rfl⟩
  ·rintro e h' ⟨a,o,e0,e3,e4,e5,e6⟩ K' hx;rw [jW (dN _),jI] at o;have hol:=w8 (eF rules.l) (cD rules.l);have hos:∃ os,os=oS (eF rules.l) (cD rules.l):=⟨_,rfl⟩
   obtain ⟨os,hos⟩:=hos;rw [<- hos] at o hol;have hob:os.length<=cM:=by unfold cM;omega
   rw [F.cy.aU];simp only [e5,e6,aS,reduceAdd,reduceEqDiff,reduceIte,aX];rw [hx,F.cy.aG]
   refine aE 0 os.length (zero_le _) (fun i e h2=>∃ b,(∀ c,cz a=some c->h2.get c=h'.get c)/\h'.next<=h2.next/\Own nj 2 h'.next h2 b ((os.take i).map fun s=>(s,QZ (cD rules.l) s))/\e 0=an aQ 3 rules/\e 4=a/\e 7=b/\e 8 = .int .i64 (i:Int))
    ⟨.ay,fun _ _=>rfl,dN _,.nil,e0,e4,rfl,rfl⟩ ?_ ?_
   ·rintro i e h2 _ hi ⟨b,hfr,pg,ob,e0,e4,e7,e8⟩ K2 oW fY qi DT;have hv:os[i]?=some os[i]:=ew hi;generalize os[i]=s at hv;have o2:=o.agree hfr pg;obtain ⟨q,_,i1,i2⟩:=tu o2 hv;obtain ⟨a5,h5,p5,o5,f5,n5,x5,b5⟩:=ob.push oI Qo pg (bytes:=24) (by rw [hm,length_map,length_take];omega) (s,QZ (cD rules.l) s);rw [F.cy.dm];simp only [e0,e4,e7,e8,o2.len,aS,reduceAdd,reduceEqDiff,reduceIte,bp hi,i1,i2];refine ai (ei se uD ?_);simp only [aS,reduceAdd,reduceEqDiff,reduceIte,i2,AV.beq_refl,Bool.and_self,if_true,Pn,Po,p5,e8,aJ hi hob];refine oW _ _ ⟨a5,fun c hc=>by rw [f5 c (by have:=o.lt hc;omega) (fun hb=>by have:=ob.ge hb;have:=o.lt hc;omega)];exact hfr c hc,by omega,?_,e0,e4,rfl,rfl⟩;rw [take_add_one,hv,map_append];exact o5
   ·rintro e h2 ⟨b,hfr,pg,ob,e0,e4,e7,e8⟩ K2 fY;rw [jW (dN _)] at ob;have o2:=o.agree hfr pg;rw [F.cy.dm];simp only [e4,e8,o2.len,aS,reduceAdd,reduceEqDiff,reduceIte,aX];rw [fY,F.cy.cx];simp only [bP,reduceEqDiff,reduceIte,e7]
    obtain ⟨y,hy1,hy2⟩:=ob.Ky (fun v y hy=>by
     simp only [nj,mem_cons,not_mem_nil,_root_.or_false] at hy
     rcases hy with rfl|rfl<;>exact .scalar _ rfl)
    exact cw.2 ⟨b,y,rfl,by rw [hy1,hos];rfl,hy2⟩
 refine main.frozen (by simp [AV.cO,cp fN]) fun o h' ho=>?_;obtain ⟨v,x,rfl,hx,hf⟩:=cw.1 ho;exact ⟨v,_,rfl,hf,hK x hx⟩
theorem Jq(jG:dW rs []=some m)(uO:de s=true):(FP rs).all (Bd s)=true↔¬ ∃ p ∈ cD rs,p.1 ∉ bF rs/\s.aF.l.find? (iP p.1 p.2)=none:=by
 rw [List.all_eq_true];constructor
 ·rintro h ⟨p,hp,hd,hf⟩;have hin:(p.1,QZ (cD rs) p.1) ∈ FP rs:=mem_map.2 ⟨p.1,DC.2 ⟨p,hp,rfl,fun qI=>hd ((fO rs).1 qI)⟩,rfl⟩;have h1:=h _ hin;rw [G9 jG (show (p.1,p.2) ∈ cD rs from hp),I8 uO,hf] at h1;cases h1
 ·intro h y hy;obtain ⟨x,hx,rfl⟩:=mem_map.1 hy;obtain ⟨p,hp,rfl,hd⟩:=DC.1 hx;rw [G9 jG (show (p.1,p.2) ∈ cD rs from hp),I8 uO]
  cases hf:s.aF.l.find? (iP p.1 p.2) with
  |some _=>rfl
  |none=>exact absurd ⟨p,hp,fun qI=>hd ((fO rs).2 qI),hf⟩ h
theorem jV:∀ {a b c:List Int},dw a b=true->dw b c=true->dw a c=true
 |x :: a,y :: b,z :: c,h1,h2=>by
  rw [dw] at h1 h2 ⊢;by_cases e1:x=y
  ·rw [if_pos e1] at h1;subst e1;by_cases e2:x=z
   ·rw [if_pos e2] at h2 ⊢;exact jV h1 h2
   ·rw [if_neg e2] at h2 ⊢;exact h2
  ·rw [if_neg e1] at h1;have q1:=of_decide_eq_true h1;by_cases e2:y=z
   ·subst e2;rw [if_neg e1];exact h1
   ·rw [if_neg e2] at h2;have q2:=of_decide_eq_true h2;rw [if_neg (by omega)];exact fC (by omega)
 |[],_,_,h1,_=>by simp [dw] at h1
 |_ :: _,[],_,h1,_=>by simp [dw] at h1
 |_ :: _,_ :: _,[],_,h2=>by simp [dw] at h2
def iX(l:List (List Int)):Prop:=l.Pairwise fun a b=>dw a b=true
def TI(n k:Nat)(l:List (List Int)):Prop:=(∀ t ∈ l,t.length=k/\jy n t=true)/\iX l
theorem DD:∀ {l:List (List Int)},(∀ i a b,l[i]?=some a->l[i+1]?=some b->dw a b=true)->iX l
 |[],_=>.nil
 |x :: l,h=>by
  have ih:iX l:=DD fun i a b ha hb=>h (i+1) a b (by simpa using ha) (by simpa using hb);refine pairwise_cons.2 ⟨fun y hy=>?_,ih⟩
  cases l with
  |nil=>cases hy
  |cons z l=>
   have hz:=h 0 x z rfl rfl;rcases mem_cons.1 hy with rfl|hy
   ·exact hz
   ·exact jV hz ((pairwise_cons.1 ih).1 y hy)
theorem DE{l:List (List Int)}(hs:iX l){a b:List Int}(ha:l[i]?=some a)(hb:l[i+1]?=some b):dw a b=true:=by
 obtain ⟨h1,rfl⟩:=ki.1 ha;obtain ⟨h2,rfl⟩:=ki.1 hb;exact pairwise_iff_getElem.1 hs i (i+1) h1 h2 (lt_succ_self i)
theorem Jr{l:List (Sl Int)}:yq n k l=true↔TI n k (l.map Sl.l):=by
 constructor
 ·intro h;refine ⟨fun t ht=>?_,DD fun i a b ha hb=>?_⟩
  ·obtain ⟨u,hu,rfl⟩:=mem_map.1 ht;obtain ⟨i,hi⟩:=getElem?_of_mem hu;exact Qb h hi
  ·rw [getElem?_map] at ha hb;obtain ⟨p,hp,rfl⟩:=map_eq_some_iff.1 ha;obtain ⟨t,ht,rfl⟩:=map_eq_some_iff.1 hb;have:=yy h (ki.1 ht).1;unfold lZ at this;rw [ht] at this;simp only [hp,and_eq_true] at this;exact this.2.2
 ·rintro ⟨h1,h2⟩;refine nT fun i hi=>?_;have ht:l[i]?=some l[i]:=ew hi;generalize l[i]=t at ht;obtain ⟨q1,q2⟩:=h1 t.l (List.mem_map_of_mem (iq ht));unfold lZ;rw [ht];simp only [q1,q2,decide_true,Bool.true_and]
  cases i with
  |zero=>rfl
  |succ j=>
   have hj:j<l.length:=by omega
   have hp:l[j]?=some l[j]:=ew hj;generalize l[j]=p at hp;simp only [hp];exact DE h2 (i:=j) (by rw [getElem?_map,hp];rfl) (by rw [getElem?_map,ht];rfl)
theorem TJ{l:List (List Int)}(h:TI n k l):l.length<=n ^ k:=by
 have key:∀ i a,l[i]?=some a->i<=ni n a:=by
  intro i
  induction i with
  |zero=>intro a _;exact zero_le _
  |succ i ih=>
   intro b hb;have hi:i<l.length:=by have:=(ki.1 hb).1;omega
   have ha:l[i]?=some l[i]:=ew hi;generalize l[i]=a at ha;have:=ih a ha;obtain ⟨a1,a2⟩:=h.1 a (iq ha);obtain ⟨b1,b2⟩:=h.1 b (iq hb);have:=FF (by omega) a2 b2 (DE h.2 ha hb);omega
 cases hl:l.length with
 |zero=>exact zero_le _
 |succ m=>
  have hm:l[m]?=some (l[m]'(by omega)):=ew _;have h1:=key m _ hm;obtain ⟨a1,a2⟩:=h.1 _ (iq hm);have h2:=wP a2;rw [a1] at h2;omega
def abe(n:Nat)(d:Nl):Prop:=ej d.1=true/\∃ k:Nat,d.2.1=(k:Int)/\k<=12/\n ^ k<=4096/\TI n k d.2.2
theorem Js{r:Rel}:nq n r=true↔abe n (bY r):=by
 constructor
 ·intro h;obtain ⟨k,h1,h2,h3,h4⟩:=G0 h;simp only [nq,and_eq_true] at h;exact ⟨h.1,k,h1,h2,h3,Jr.1 h4⟩
 ·rintro ⟨h0,k,h1,h2,h3,h4⟩;have T9:r.arity=(k:Int):=h1;have hk:r.arity.toNat=k:=by omega
  simp only [nq,and_eq_true,decide_eq_true_eq,hk];exact ⟨h0,by omega,by omega,h3,Jr.2 h4⟩
structure Jt (size:Int) (ds:List Nl):Prop where
 lo:1<=size
 hi:size<=64
 mj:ds.length<=8
 rel:∀ d ∈ ds,abe size.toNat d
 names:(ds.map (·.1)).Nodup
theorem fR:de s=true↔Jt s.size (s.aF.l.map bY):=by
 constructor
 ·intro h;have h':=h;simp only [de,and_eq_true,decide_eq_true_eq] at h';refine ⟨h'.1,h'.2.1,by simpa using h'.2.2.1,fun d hd=>?_,?_⟩
  ·obtain ⟨r,hr,rfl⟩:=mem_map.1 hd;obtain ⟨i,hi⟩:=getElem?_of_mem hr;exact Js.1 (Dq h hi)
  ·have:=rH h;rw [List.map_map];exact this
 ·rintro ⟨h1,h2,h3,h4,h5⟩;rw [length_map] at h3;simp only [de,and_eq_true,decide_eq_true_eq];refine ⟨h1,h2,h3,nT fun i hi=>?_⟩;have hr:s.aF.l[i]?=some s.aF.l[i]:=ew hi;have uW:=hr;generalize s.aF.l[i]=r at hr;rw [oL,hr];simp only [and_eq_true,not_eq_true'];refine ⟨Js.2 (h4 _ (List.mem_map_of_mem (iq hr))),?_⟩;rw [eq_false_iff];intro aeg;obtain ⟨q,hq,DV⟩:=List.any_eq_true.1 aeg;obtain ⟨j,hj⟩:=getElem?_of_mem hq;have hji:j<i:=by have:=(ki.1 hj).1;rw [length_take] at this;omega
  rw [getElem?_take_of_lt hji] at hj;rw [List.map_map,List.Nodup,pairwise_iff_getElem] at h5;have ML:j<s.aF.l.length:=by omega
  have:=h5 j i (by simpa using ML) (by simpa using hi) hji;rw [getElem_map,getElem_map] at this;rw [ew ML] at hj;rw [ew hi] at hr;cases hj;cases hr;simp only [beq_iff_eq] at DV;exact this DV
theorem gi(h:de s=true):s.small/\s.ok:=by
 have hp:=fR.1 h
 have len:∀ r ∈ s.aF.l,r.aO.l.length<=4096/\(∀ t ∈ r.aO.l,t.l.length<=12)/\r.name.length<=12:=fun r hr=>by
  obtain ⟨h0,k,h1,h2,h3,h4⟩:=hp.rel _ (List.mem_map_of_mem hr);have:=TJ h4;simp only [bY,length_map] at this;refine ⟨by omega,fun t ht=>?_,?_⟩
  ·have:=(h4.1 t.l (List.mem_map_of_mem ht)).1;omega
  ·replace h0:ej r.name=true:=h0;unfold ej at h0;split at h0
   ·cases h0
   ·simp only [and_eq_true,decide_eq_true_eq] at h0;exact h0.1
 have hl:s.aF.l.length<=8:=by have:=hp.mj;simpa using this
 exact ⟨⟨by omega,fun r hr=>by have:=(len r hr).1;omega,fun r hr t ht=>by have:=(len r hr).2.1 t ht;omega⟩,
  ⟨by unfold cM;omega,fun r hr=>⟨by have:=(len r hr).2.2;unfold cM;omega,by have:=(len r hr).1;unfold cM;omega,fun t ht=>by have:=(len r hr).2.1 t ht;unfold cM;omega⟩⟩⟩
def oT(rs:List aP)(UM:List cc):List Rel:=UM.map fun nm=>⟨nm,(pY rs nm:Int),none⟩
def lf(rs:List aP)(UM:List cc):List Nl:=UM.map fun nm=>(nm,(pY rs nm:Int),[])
theorem xd(rs:List aP)(UM:List cc):(oT rs UM).map bY=lf rs UM:=by unfold oT lf;rw [List.map_map];rfl
theorem NS(s:St):dz TP s Tryz.f70.results.toList=(match ah (some 2) (s.env 4) s.h,(some []:Option (List AV)) with|some v,some vs=>some (v :: vs)|_,_=>none):=by kernel_rfl
theorem TK(nm:cc)(k:Int):iA [.str [],.int .i64 0,.ay] [(0,1),(1,1)] [.str nm,.int .i64 k]=some (.agg (aR ⟨nm,k,none⟩)):=rfl
set_option maxHeartbeats 1000000 in
theorem fX{rules:Sl aP}{s:cN}{m:eE}(se:rules.l.length<=60)(uD:∀ r ∈ rules.l,r.body.l.length<=20)(jG:dW rules.l []=some m)(Qn:s.small){h:Heap}{K:Out->Heap->Bool}
  (hK:∀ a h' rs1,bC h h'->Own aR 3 h.next h' a (rs1++oT rules.l (eF rules.l))->rs1.map bY=s.aF.l.map bY->K (.ret (.agg [.int .i64 s.size,a])) h'=true):Sem TP 70 [an aQ 3 rules,.agg (au s)] h K:=by
 have hm:cJ=140737488355328:=rfl;have hdl:=oP rules.l;refine F.A5 ?_;rw [F.CR];simp only [c8 (cA s),aq,Heap.aM];have g0:(Heap.alloc (Heap.alloc h (.cells (au s))) (.cells [.int .i64 0,.ay])).get h.next=some (.cells (au s)):=by rw [Heap.aW,Heap.aM,if_neg (by omega)];exact aB _ _
 have g1:(Heap.alloc (Heap.alloc h (.cells (au s))) (.cells [.int .i64 0,.ay])).get (h.next+1)=some (.cells [.int .i64 0,.ay]):=aB _ _;have gn:(Heap.alloc (Heap.alloc h (.cells (au s))) (.cells [.int .i64 0,.ay])).next=h.next+2:=rfl
 have gx:bC h (Heap.alloc (Heap.alloc h (.cells (au s))) (.cells [.int .i64 0,.ay])):=(bC.alloc _ _).trans (bC.alloc _ _);generalize (Heap.alloc (Heap.alloc h (.cells (au s))) (.cells [.int .i64 0,.ay]))=H1 at g0 g1 gn gx ⊢;have l0:ah (some 2) (.ptr h.next 0) H1=some (.agg (au s)):=by rw [ak g0,cV (cs:=au s) (n:=2) rfl]
 simp only [l0,aq];refine ai (gH Qn fun a h3 rs x3 o3 Ja=>?_);obtain ⟨BD,JL⟩:=mT o3;have Be:bw [.int .i64 s.size,a]=true:=by simp only [bw,Bool.and_true] at BD ⊢;rw [BD];rfl
 obtain ⟨H4,QU,p4,Ny,W8⟩:=cF (h:=h3) (zs:=[.int .i64 0,.ay]) (cs:=[.int .i64 s.size,a]) (n:=2) rfl rfl Be;have x4:bC h3 H4:=⟨by omega,fun b hb=>Ny b (by omega)⟩
 have n3:=x3.next
 rw [gn] at o3 n3;have x34:=(gx.trans x3).trans x4;simp only [aS,reduceAdd,reduceEqDiff,reduceIte,QU];refine ai (dD se fun d hd1=>?_);have aiQ:d.l.length<=60:=by rw [hd1];omega
 have hdb:d.l.length<=cM:=by unfold cM;omega
 have hrl:=Qn.aF;have aiR:rs.length=s.aF.l.length:=by have:=congrArg List.length Ja;simpa using this
 simp only [aS,reduceAdd,reduceEqDiff,reduceIte]
 refine aE 0 d.l.length (zero_le _) (fun i e h'=>∃ a,h'.get h3.next=some (.cells [.int .i64 s.size,a])/\h'.get (h.next+1)=some (.cells [.int .i64 0,.ay])/\Own aR 3 (h.next+2) h' a (rs++oT rules.l (d.l.take i))/\cz a≠some h3.next/\(∀ b,b<h.next->h'.get b=h.get b)/\h3.next<h'.next /\
  e 0=an aQ 3 rules/\e 4 = .ptr (h.next+1) 0/\e 5 = .ptr h3.next 0/\e 6=an encS 1 d/\e 7 = .int .i64 (i:Int))
  ⟨a,p4,by rw [x4.get _ (by omega),x3.get _ (by omega)];exact g1,by simpa [oT] using o3.ext x4,fun hb=>by have:=o3.lt hb;omega,fun b hb=>x34.get b hb,by omega,rfl,rfl,rfl,rfl,rfl⟩ ?_ ?_
 ·rintro i e h' _ hi ⟨a,q3,q1,o,hne,hfr,pg,e0,e4,e5,e6,e7⟩ K' hn hx hr hp;have hv:d.l[i]?=some d.l[i]:=ew hi;generalize d.l[i]=nm at hv;have vr:nm ∈ bF rules.l:=(fO _).1 (by rw [<- hd1];exact iq hv);have lo:ah none (.ptr h3.next 1) h'=some a:=by rw [ak q3];rfl
  have li:∀ hh,ah none (.dQ (d.l.flatMap encS) (i*1)) hh=some (.str nm):=fun hh=>jr hv;obtain ⟨a5,h5,p5,o5,f5,n5,x5,b5⟩:=o.push dU fP (by omega) (bytes:=48) (by rw [hm,length_append];unfold oT;rw [length_map,length_take];omega) ⟨nm,(pY rules.l nm:Int),none⟩;have s3:h5.get h3.next=some (.cells [.int .i64 s.size,a]):=by rw [f5 _ (by omega) hne];exact q3
  have c5:=o5.k9
  have st:aZ 1 (.ptr h3.next 1) a5 h5=some (h5.set h3.next (.cells [.int .i64 s.size,a5])):=by
   rw [cB (n:=1) s3 c5.2.1 c5.1 (by simp),c5.2.2];rfl
  rw [F.fX.aU];simp only [e0,e5,e6,e7,aS,reduceAdd,reduceEqDiff,reduceIte,bp hi,lo,aV d hi,li];refine ai (ei se uD ?_);rw [Qp jG vr];simp only [aS,reduceAdd,reduceEqDiff,reduceIte,li,lo,AV.beq_refl,Bool.and_self,Bool.and_true,if_true,TK,Mn,p5,e5,e7,st,aJ hi hdb];refine hn _ _ ⟨a5,by rw [Heap.aN,if_pos rfl],by rw [Heap.aN,if_neg (by omega),f5 _ (by omega) (fun hb=>by have:=o.ge hb;omega)];exact q1,?_,fun hb=>by have:=b5 _ hb;omega,fun b hb=>?_,by rw [Heap.br];omega,e0,e4,e5,e6,rfl⟩
  ·have hl:rs++oT rules.l (d.l.take (i+1))=(rs++oT rules.l (d.l.take i))++[⟨nm,(pY rules.l nm:Int),none⟩]:=by
    rw [take_add_one,hv];unfold oT;rw [map_append,<- append_assoc];rfl
   rw [hl];exact o5.agree (fun b hb=>by rw [Heap.aN,if_neg (by have:=b5 _ hb;omega)]) (by rw [Heap.br];exact dN _)
  ·rw [Heap.aN,if_neg (by omega),f5 b (by omega) (fun eX=>by have:=o.ge eX;omega)];exact hfr b hb
 ·rintro e h' ⟨a,q3,q1,o,hne,hfr,pg,e0,e4,e5,e6,e7⟩ K' hx;rw [jW (dN _),hd1] at o;obtain ⟨BD,JL⟩:=mT o;have Wg:bw [.int .i64 s.size,a]=true:=by simp only [bw,Bool.and_true] at BD ⊢;rw [BD];rfl
  have lo:ah (some 2) (.ptr h3.next 0) h'=some (.agg [.int .i64 s.size,a]):=by rw [ak q3];rfl
  have st:aZ 2 (.ptr (h.next+1) 0) (.agg [.int .i64 s.size,a]) h'=some (h'.set (h.next+1) (.cells [.int .i64 s.size,a])):=by
   rw [cB (n:=2) (v:=.agg [.int .i64 s.size,a]) q1 rfl Wg (by simp)];rfl
  have P9:ah (some 2) (.ptr (h.next+1) 0) (h'.set (h.next+1) (.cells [.int .i64 s.size,a]))=some (.agg [.int .i64 s.size,a]):=by rw [ak (cs:=[.int .i64 s.size,a]) (by rw [Heap.aN,if_pos rfl])];rfl
  rw [F.fX.aU];simp only [e6,e7,aS,reduceAdd,reduceEqDiff,reduceIte,aX];rw [hx,F.fX.aG];simp only [bP,reduceEqDiff,reduceIte,e4,e5,lo,st,aq,NS,P9,oneOf];exact hK a _ rs ⟨by rw [Heap.br];omega,fun b hb=>by rw [Heap.aN,if_neg (by omega)];exact hfr b hb⟩ ((o.kF (by omega) _).CY (by omega)) Ja
theorem EM{n:Int}{a:AV}{rs:List Rel}(o:Own aR 3 k h a rs)(kD:(⟨n,some rs⟩:cN).ok)(hK:K (.ret (.bool (de ⟨n,some rs⟩))) h=true):Sem TP 66 [.agg [.int .i64 n,a]] h K:=by
 obtain ⟨x,jI,fY⟩:=o.Ky (fun v y hy=>by
  simp only [aR,mem_cons,not_mem_nil,_root_.or_false] at hy;rcases hy with rfl|rfl|rfl
  ·exact .scalar _ rfl
  ·exact .scalar _ rfl
  ·exact .dR (cp mN _))
 have Wh:(⟨n,x⟩:cN).ok:=by
  obtain ⟨q1,q2⟩:=kD;exact ⟨by show x.l.length<=cM;rw [jI];exact q1,fun r hr=>q2 r (by have:r ∈ x.l:=hr;rw [jI] at this;exact this)⟩
 have he:de ⟨n,x⟩=de ⟨n,some rs⟩:=by
  rw [Bool.eq_iff_iff,fR,fR];show Jt n (x.l.map bY)↔Jt n (rs.map bY);rw [jI]
 have hs:=cr (s:=⟨n,x⟩) Wh (h:=Heap.empty) (K:=pU (.bool (de ⟨n,x⟩))) (gw rfl);rw [<- he] at hK;have fl:=lI.cons (.scalar (.int .i64 n) rfl) (lI.cons fY lI.nil);exact Sem.aac rfl hs (lI.cons (.agg _ _ fl.len fl.rel) .nil) hK
theorem Ay{rs':List Rel}(hg:kN rs)(jG:dW rs []=some m)(uO:de s=true)(h4:¬ ∃ r ∈ s.aF.l,r.name ∈ bF rs)(Ja:rs'.map bY=s.aF.l.map bY++lf rs (eF rs)) :
  de ⟨s.size,some rs'⟩=true↔¬ (8<s.aF.l.length+(eF rs).length\/∃ r ∈ rs,4096<s.size.toNat ^ r.args.l.length):=by
 have hsp:=fR.1 uO;have hlen:rs'.length=s.aF.l.length+(eF rs).length:=by have:=congrArg List.length Ja;simpa [lf] using this
 rw [fR];show Jt s.size (rs'.map bY)↔_;rw [Ja];constructor
 ·rintro ⟨q1,q2,q3,q4,q5⟩ (hb|⟨r,hr,hb⟩)
  ·rw [length_append,length_map] at q3;unfold lf at q3;rw [length_map] at q3;omega
  ·have hm:(r.name,(pY rs r.name:Int),([]:List (List Int))) ∈ s.aF.l.map bY++lf rs (eF rs):=mem_append_right _ (mem_map.2 ⟨r.name,(fO rs).2 (List.mem_map_of_mem hr),rfl⟩);obtain ⟨_,k,h1,h2,h3,_⟩:=q4 _ hm;rw [K4 jG hr] at h1;have:k=r.args.l.length:=by simp only at h1;omega
   rw [this] at h3;omega
 ·intro Bc;have hd8:s.aF.l.length+(eF rs).length<=8:=Nat.le_of_not_lt fun h=>Bc (.inl h);refine ⟨hsp.lo,hsp.hi,by rw [length_append,length_map];unfold lf;rw [length_map];exact hd8,fun d hd=>?_,?_⟩
  ·rcases mem_append.1 hd with hd|hd
   ·exact hsp.rel d hd
   ·obtain ⟨nm,vr,rfl⟩:=mem_map.1 hd;obtain ⟨_,r,hr,DU,TD⟩:=BG jG ((fO rs).1 vr);have GZ:=(jf jG r hr).1;refine ⟨by rw [<- DU];exact wO GZ,pY rs nm,rfl,by rw [TD];exact nV GZ,?_,fun t ht=>(by cases ht),List.Pairwise.nil⟩;rw [TD];exact Nat.le_of_not_lt fun h=>Bc (.inr ⟨r,hr,h⟩)
  ·rw [map_append];have e2:(lf rs (eF rs)).map (·.1)=eF rs:=by unfold lf;rw [List.map_map];simp [Function.comp_def]
   rw [e2];refine nodup_append.2 ⟨hsp.names,Aq (pI rs),fun x hx y hy e=>?_⟩;subst e;rw [List.map_map] at hx;obtain ⟨r,hr,DU⟩:=mem_map.1 hx;exact h4 ⟨r,hr,by have:=(fO rs).1 hy;rw [<- DU] at this;exact this⟩
set_option maxHeartbeats 2000000 in
theorem bH{rules:Sl aP}{s:cN}(kD:∀ r ∈ rules.l,r.ok)(iY:∀ r ∈ rules.l,r.mj)(me:s.ok){h:Heap}{K:Out->Heap->Bool}
  (K8:∀ e,DA rules.l s e->K (.ret (.int .i64 e)) h=true) (zA:fo rules.l s->K (.ret (.int .i64 0)) h=true):Sem TP 23 [an aQ 3 rules,.agg (au s)] h K:=by
 have gen:∀ R:Out->Heap->Bool,(∀ e h',(DA rules.l s e\/(e=0/\fo rules.l s))->R (.ret (.int .i64 e)) h'=true)->Sem TP 23 [an aQ 3 rules,.agg (au s)] Heap.empty R:=by
  intro R fin;refine F.A3 ?_;rw [F.CP];simp only [c8 (cA s),aq,bU];have g0:(Heap.empty.alloc (.cells (au s))).get 0=some (.cells (au s)):=aB _ _;have gn:(Heap.empty.alloc (.cells (au s))).next=1:=rfl
  generalize (Heap.empty.alloc (.cells (au s)))=H at g0 gn ⊢;have l0:ah (some 2) (.ptr 0 0) H=some (.agg (au s)):=by rw [ak g0,cV (cs:=au s) (n:=2) rfl]
  refine ai (bD kD iY fun b hb=>?_);simp only [aS,reduceAdd,reduceEqDiff,reduceIte]
  cases b with
  |false=>
   simp only [Bool.not_false,aL];exact fin 1 _ (.inl (.inl ⟨.inl fun hg=>(by have:=hb.2 hg;cases this),rfl⟩))
  |true=>
  have hg:=hb.1 rfl;simp only [Bool.not_true,aK,l0,aq];refine ai (cr me ?_);simp only [aS,reduceAdd,reduceEqDiff,reduceIte]
  cases uO:de s with
  |false=>
   simp only [Bool.not_false,aL];exact fin 1 _ (.inl (.inl ⟨.inr uO,rfl⟩))
  |true=>
  obtain ⟨n,hn,n1,xj,h8⟩:=jw uO;have uJ:s.size.toNat=n:=by omega
  obtain ⟨m,jG⟩:=hg.go;have zJ:=jf jG;have uD:∀ r ∈ rules.l,r.body.l.length<=20:=fun r hr=>(zJ r hr).2.1;have se:=hg.mj;have hdl:=oP rules.l;simp only [Bool.not_true,aK];refine ai (dD se fun d hd1=>?_);simp only [aS,reduceAdd,reduceEqDiff,reduceIte,l0];refine ai (cy se uD fun sy UP=>?_)
  have U6:sy.l.length<=1260:=by
   rw [UP];unfold FP;rw [length_map];have h1:=w8 (eF rules.l) (cD rules.l);have h2:=zM se uD;omega
  simp only [aS,reduceAdd,reduceEqDiff,reduceIte,l0,AV.beq_refl,Bool.and_self,if_true];refine ai (eT me (by unfold cM;omega) ?_);rw [UP];simp only [aS,reduceAdd,reduceEqDiff,reduceIte];have e4:JM rules.l s->DA rules.l s 4:=fun h=>.inr ⟨hg,uO,.inl ⟨h,rfl⟩⟩
  cases hfit:(FP rules.l).all (Bd s) with
  |false=>
   simp only [Bool.not_false,aL];refine fin 4 _ (.inl (e4 (.inl ?_)));exact Decidable.not_not.1 fun h=>by rw [(Jq jG uO).2 h] at hfit;cases hfit
  |true=>
  have aeh:=(Jq jG uO).1 hfit;have hdb:d.l.length<=cM:=by rw [hd1];unfold cM;omega
  have P4:rules.l.length<=cM:=by unfold cM;omega
  simp only [Bool.not_true,aK];refine aE 0 d.l.length (zero_le _) (fun i e h'=>h'.get 0=some (.cells (au s))/\1<=h'.next/\(∀ nm ∈ d.l.take i,∀ r ∈ s.aF.l,r.name≠nm)/\e 0=an aQ 3 rules/\e 3 = .ptr 0 0/\e 5=an encS 1 d/\e 6 = .int .i64 (i:Int)) ⟨g0,by omega,fun nm vr=>(by cases vr),rfl,rfl,rfl,rfl⟩ ?_ ?_
  ·rintro i e h' _ hi ⟨q0,qn,Bc,e0,e3,e5,e6⟩ K' DQ hx hr hp;have hv:d.l[i]?=some d.l[i]:=ew hi;generalize d.l[i]=nm at hv;have Wi:ah (some 2) (.ptr 0 0) h'=some (.agg (au s)):=by rw [ak q0,cV (cs:=au s) (n:=2) rfl]
   rw [F.bH.aU];simp only [e3,e5,e6,aS,reduceAdd,reduceEqDiff,reduceIte,bp hi,Wi,aV d hi,jr hv];refine ai (eU me ?_);simp only [aS,reduceAdd,reduceEqDiff,reduceIte];rcases pJ (fQ nm) s.aF.l with ⟨f1,f2⟩|⟨j,r,f1,f2,f3⟩
   ·rw [f1];simp only [show decide ((0:Int)<=-1)=false from rfl,aK,e6,aJ hi hdb,aq];refine DQ _ _ ⟨q0,qn,fun x gm r uW e=>?_,e0,e3,e5,rfl⟩;rw [take_add_one,hv] at gm;rcases mem_append.1 gm with gm|gm
    ·exact Bc x gm r uW e
    ·simp only [toList_some,mem_singleton] at gm;rw [find?_eq_none] at f2;exact f2 r uW (by simp [fQ,e,gm])
   ·rw [f1];simp only [fC (by omega:(0:Int)<=(j:Int)),aL];rw [hr,F.bH.bz];simp only [bP,reduceEqDiff,reduceIte];have DU:=find?_some f3;simp only [fQ,beq_iff_eq] at DU;exact fin 4 _ (.inl (e4 (.inr ⟨r,iq f2,(fO _).1 (by rw [DU,<- hd1];exact iq hv)⟩)))
  ·rintro e h' ⟨q0,qn,Bc,e0,e3,e5,e6⟩ K' hx;rw [jW (dN _)] at Bc;have abf:¬ ∃ r ∈ s.aF.l,r.name ∈ bF rules.l:=fun ⟨r,hr,hh⟩=>Bc r.name (by rw [hd1];exact (fO _).2 hh) r hr rfl;have h4:¬ JM rules.l s:=fun h=>h.elim aeh abf;have e5':Mr rules.l s->DA rules.l s 5:=fun h=>.inr ⟨hg,uO,.inr ⟨h4,h,rfl⟩⟩;rw [F.bH.aU];simp only [e5,e6,aS,reduceAdd,reduceEqDiff,reduceIte,aX];rw [hx,F.bH.aG];refine aE 0 rules.l.length (zero_le _) (fun i e h2=>h2.get 0=some (.cells (au s))/\1<=h2.next/\(∀ r ∈ rules.l.take i,n ^ (varsOf r).length<=65536)/\e 0=an aQ 3 rules/\e 3 = .ptr 0 0/\e 7 = .int .i64 (i:Int)) ⟨q0,qn,fun r hr=>(by cases hr),e0,e3,rfl⟩ ?_ ?_
   ·rintro i e h2 _ hi ⟨q0,qn,hsz,e0,e3,e7⟩ K2 oW fY qi DT;have hv:rules.l[i]?=some rules.l[i]:=ew hi;generalize rules.l[i]=r at hv;have nR:=iq hv;have aaY:=(zJ r nR).2.2;have UJ:(varsOf r).length<=cM:=by unfold cM;omega
    rw [F.bH.dm];simp only [e0,e7,aS,reduceAdd,reduceEqDiff,reduceIte,bp hi]
    refine k7 (fun k e h3=>∃ j,k=(varsOf r).length-j/\j<=(varsOf r).length/\n ^ (j-1)<=65536/\h3.get 0=some (.cells (au s))/\1<=h3.next/\e 0=an aQ 3 rules/\e 3 = .ptr 0 0/\e 7 = .int .i64 (i:Int)/\e 8 = .int .i64 ((n ^ j:Nat):Int)/\e 9 = .int .i64 (j:Int)) ((varsOf r).length)
     ⟨0,rfl,zero_le _,by simp,q0,qn,e0,e3,e7,rfl,rfl⟩ ?_
    rintro k e h3 ⟨j,hk,hj,QS,q0,qn,e0,e3,e7,e8,e9⟩;have lz:ah none (.ptr 0 0) h3=some (.int .i64 (n:Int)):=by rw [ak q0,<- hn];rfl
    have hn8:n ^ j<=65536*64:=by
     cases j with
     |zero=>simp
     |succ j=>rw [Nat.pow_succ];simp only [Nat.add_sub_cancel] at QS;exact Nat.mul_le_mul QS xj
    have out:∀ (e':Env),e' 0=an aQ 3 rules->e' 3 = .ptr 0 0->e' 7 = .int .i64 (i:Int)->e' 8 = .int .i64 ((n ^ j:Nat):Int)->(65536<n ^ j\/j=(varsOf r).length)->F.bH.wD K2 (.exit 4) ⟨e',69,[],h3⟩=true:=by
     intro e' e0 e3 e7 e8 abg;rw [F.bH.ic];simp only [e8,aS,reduceAdd,reduceEqDiff,reduceIte];by_cases hbg:65536<n ^ j
     ·simp only [fC (by omega:(65536:Int)<((n ^ j:Nat):Int)),aL];rw [qi,F.bH.iR];simp only [bP,reduceEqDiff,reduceIte];exact fin 5 _ (.inl (e5' (.inr (.inr ⟨r,nR,by rw [uJ];have:=wY n1 hj;omega⟩))))
     ·have hjv:=abg.resolve_left hbg;simp only [eV (by omega:¬ (65536:Int)<((n ^ j:Nat):Int)),aK,e7,aJ hi P4,aq];refine oW _ _ ⟨q0,qn,fun q hq=>?_,e0,e3,rfl⟩;rw [take_add_one,hv] at hq;rcases mem_append.1 hq with hq|hq
      ·exact hsz q hq
      ·simp only [toList_some,mem_singleton] at hq;subst hq;rw [<- hjv];omega
    rw [F.bH.kM];simp only [e0,e7,aS,reduceAdd,reduceEqDiff,reduceIte,aV rules hi,dx gz hv];simp only [aQ];refine ai (bN (iY r nR) fun x jI=>?_);simp only [aS,reduceAdd,reduceEqDiff,reduceIte,jI,e8,e9];by_cases ML:j<(varsOf r).length
    ·simp only [bp ML,aL,aS,reduceAdd,reduceEqDiff,reduceIte];by_cases hle:n ^ j<=65536
     ·have hm:((n ^ j:Nat):Int)*(n:Int)=((n ^ (j+1):Nat):Int):=(by rw [Nat.pow_succ,Int.natCast_mul]);have hmul:n ^ j*n<=65536*64:=Nat.mul_le_mul hle xj;have we:n ^ (j+1)=n ^ j*n:=Nat.pow_succ n j;have hmm:aI .mul (.int .i64 ((n ^ j:Nat):Int)) (.int .i64 (n:Int))=some (.int .i64 ((n ^ (j+1):Nat):Int)):=by rw [uv (by rw [hm];omega) (by rw [hm];omega),hm]
      simp only [fC (by omega:((n ^ j:Nat):Int)<=65536),aL,e3,e8,e9,aS,reduceAdd,reduceEqDiff,reduceIte,lz,hmm,aJ ML UJ];exact cw.2 ⟨(varsOf r).length-(j+1),by omega,rfl,rfl,j+1,rfl,by omega,by simpa using hle,q0,qn,e0,e3,e7,rfl,rfl⟩
     ·simp only [eV (by omega:¬ ((n ^ j:Nat):Int)<=65536),aK,oB];exact out _ e0 e3 e7 e8 (.inl (by omega))
    ·have hje:j=(varsOf r).length:=(by omega);simp only [eV (by omega:¬ (j:Int)<((varsOf r).length:Int)),aK,oB];exact out _ e0 e3 e7 e8 (.inr hje)
   ·rintro e h2 ⟨q0,qn,hsz,e0,e3,e7⟩ K2 fY;rw [jW (dN _)] at hsz;have Wi:ah (some 2) (.ptr 0 0) h2=some (.agg (au s)):=by rw [ak q0,cV (cs:=au s) (n:=2) rfl]
    rw [F.bH.dm];simp only [e0,e7,aS,reduceAdd,reduceEqDiff,reduceIte,aX];rw [fY,F.bH.cx];simp only [aS,reduceAdd,reduceEqDiff,reduceIte,e0,e3,Wi];refine ai (fX se uD jG (gi uO).1 fun a h4' rs1 x4 o4 aei=>?_);obtain ⟨rs',abh⟩:∃ rs',rs'=rs1++oT rules.l (eF rules.l):=⟨_,rfl⟩
    rw [<- abh] at o4;have Ja:rs'.map bY=s.aF.l.map bY++lf rules.l (eF rules.l):=by rw [abh,map_append,xd,aei]
    simp only [aS,reduceAdd,reduceEqDiff,reduceIte]
    have Vw:(⟨s.size,some rs'⟩:cN).ok:=by
     have hl:rs'.length=s.aF.l.length+(eF rules.l).length:=(by have:=congrArg List.length Ja;simpa [lf] using this);refine ⟨by show rs'.length<=cM;unfold cM;omega,fun r hr=>?_⟩;have hd:bY r ∈ s.aF.l.map bY++lf rules.l (eF rules.l):=by rw [<- Ja];exact List.mem_map_of_mem hr
     have abi:=(gi uO).2;have aiV:=(gi uO).1;rcases mem_append.1 hd with hd|hd
     ·obtain ⟨q,hq,Oj⟩:=mem_map.1 hd;unfold bY at Oj;simp only [Prod.mk.injEq] at Oj;have Qh:=abi.2 q hq;refine ⟨by rw [<- Oj.1];exact Qh.1,?_,fun t ht=>?_⟩
      ·have h1:=congrArg List.length Oj.2.2;simp only [length_map] at h1;rw [<- h1];exact Qh.2.1
      ·have h1:t.l ∈ q.aO.l.map Sl.l:=(by rw [Oj.2.2];exact List.mem_map_of_mem ht);obtain ⟨u,hu,V6⟩:=mem_map.1 h1;rw [<- V6];exact Qh.2.2 u hu
     ·obtain ⟨nm,vr,Oj⟩:=mem_map.1 hd;unfold bY at Oj;simp only [Prod.mk.injEq] at Oj;obtain ⟨_,q,hq,DV,_⟩:=BG jG ((fO _).1 vr);have ht0:r.aO.l = []:=by have:=Oj.2.2;simpa using this.symm
      refine ⟨by rw [<- Oj.1,<- DV];have:=IE (wO (zJ q hq).1);unfold cM;omega,by rw [ht0];exact zero_le _,fun t ht=>by rw [ht0] at ht;cases ht⟩
    refine ai (EM o4 Vw ?_);simp only [aS,reduceAdd,reduceEqDiff,reduceIte];have hev:=Ay hg jG uO abf Ja
    cases hvd:de ⟨s.size,some rs'⟩ with
    |false=>
     simp only [Bool.not_false,aL];refine fin 5 _ (.inl (e5' ?_));have:(8<s.aF.l.length+(eF rules.l).length\/∃ r ∈ rules.l,4096<s.size.toNat ^ r.args.l.length):=Decidable.not_not.1 fun h=>by rw [hev.2 h] at hvd;cases hvd
     rcases this with h|h
     ·exact .inl h
     ·exact .inr (.inl h)
    |true=>
     simp only [Bool.not_true,aK];have abj:=hev.1 hvd;refine fin 0 _ (.inr ⟨rfl,hg,uO,h4,?_⟩);rintro (h|h|⟨r,hr,h⟩)
     ·exact abj (.inl h)
     ·exact abj (.inr h)
     ·rw [uJ] at h;have:=hsz r hr;omega
 have main:=gen (fun o h'=>yes (∃ e,o = .ret (.int .i64 e)/\(DA rules.l s e\/(e=0/\fo rules.l s)))) (fun e h' he=>cw.2 ⟨e,rfl,he⟩);refine main.frozen (by simp [AV.cO,AV.pure,cp fN,eO]) fun o h' ho=>?_;obtain ⟨e,rfl,he⟩:=cw.1 ho;refine ⟨_,_,rfl,.scalar _ rfl,?_⟩;rcases he with he|⟨rfl,he⟩
 ·exact K8 e he
 ·exact zA he
section
variable {rs:List aP} {s:cN} {rs':List Rel} {n:Nat} {m:eE}
theorem Wj(ho:fo rs s)(jG:dW rs []=some m)(Ja:rs'.map bY=s.aF.l.map bY++lf rs (eF rs)):Jt s.size (rs'.map bY):=by
 have h5:=ho.Ax;have:=(Ay ho.gh jG ho.valid (fun h=>ho.names (.inr h)) Ja).2 fun h=>h5 (h.elim .inl fun h=>.inr (.inl h));exact fR.1 this
end
theorem Own.UQ{a:AV}{m:List vt}(o:Own gZ 3 k h a m){q:vt}(hp:m[i]?=some q)(v:Nx) :
  ∃ b cs,dM 3 a (.int .i64 (i:Int))=some (.ptr b (i*3))/\cz a=some b/\b<h.next/\ah none (.ptr b (i*3+2)) h=some q.2.2.1/\aZ 1 (.ptr b (i*3+2)) v.1 h=some (h.set b (.cells cs))/\Own gZ 3 k (h.set b (.cells cs)) a (m.set i (q.1,q.2.1,v)):=by
 have hg:=o.get lF hp
 cases o with
 |nil=>simp at hp
 |row b m h1 h2 h3=>
  have hmi:=(ki.1 hp).1
  have sC:((m.flatMap gZ).set (i*3+2) v.1)=(m.set i (q.1,q.2.1,v)).flatMap gZ:=by
   clear h3 hg
   have:∀ (m:List vt) (i:Nat) (q:vt),m[i]?=some q->(m.flatMap gZ).set (i*3+2) v.1=(m.set i (q.1,q.2.1,v)).flatMap gZ:=by
    intro m
    induction m with
    |nil=>intro i q hq;simp at hq
    |cons x m ih=>
     intro i q hq
     cases i with
     |zero=>
      simp at hq;subst hq;rw [set_cons_zero,flatMap_cons,flatMap_cons,set_append_left _ _ (by simp [gZ])];rfl
     |succ i=>
      rw [getElem?_cons_succ] at hq;rw [set_cons_succ,flatMap_cons,flatMap_cons,set_append_right _ _ (by rw [lF];omega)];have:(i+1)*3+2-(gZ x).length=i*3+2:=by rw [lF];omega
      rw [this,ih i q hq]
   exact this m i q hp
  have hlen:(m.flatMap gZ).length=m.length*3:=fV lF m;obtain ⟨b',_,_,i3,_,i5⟩:=hg;have hia:∀ q:IntKind,dM 3 (.slice b 0 m.length 3) (.int q (i:Int))=some (.ptr b (i*3)):=fun q=>by simp [dM,asNat,hmi]
  obtain rfl:b'=b:=by have:=i3 .i64;rw [hia .i64] at this;cases this;rfl
  have ho:=v.2;refine ⟨b',(m.flatMap gZ).set (i*3+2) v.1,hia .i64,rfl,h2,by rw [i5 2 (by omega)];rfl,?_,?_⟩
  ·rw [cB (n:=1) h3 (by rw [ho.2];rfl) (by rw [ho.2];exact ho.1) (by rw [hlen];omega),ho.2];rfl
  ·rw [sC];have:m.length=(m.set i (q.1,q.2.1,v)).length:=by rw [length_set]
   rw [this];exact .row b' _ h1 (by rw [Heap.br];exact h2) (by rw [Heap.aN,if_pos rfl])
end
end Go.AM