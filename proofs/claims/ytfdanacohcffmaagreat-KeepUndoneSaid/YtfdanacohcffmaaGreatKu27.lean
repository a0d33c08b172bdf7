/- Parts of the proof. Conditions: none. -/
import Derived.Test.YtfdanacohcffmaaGreatKu19
import Derived.Test.YtfdanacohcffmaaGreatKu26
set_option linter.unusedSimpArgs false
set_option linter.unusedVariables false
namespace Go.AM
open List Nat Bool Option
open Go Go.Proofs
noncomputable section
variable {rs:List aO} {K:Out->Heap->Bool} {s:cD} {m:eE} {h:Heap} {r:aO} {n k i M B P S:Nat} {ks:List b7} {rules:Sl aO} {c:eO} {D0:DB} {nm x:b7} {lv:ew.Lv}
theorem eo.kE{D:DB}{lo c:Nat}(b:eo D h B lo)(hc:c<lo)(NV:c≠B)(x:jV):eo D (h.set c x) B lo:=by
 obtain ⟨es,ck,m,e1,e2,e3⟩:=b.ex;refine ⟨⟨es,ck,m,by rw [Heap.aN,if_neg (Ne.symm NV)];exact e1,e2,e3⟩,fun nm p hp=>?_,b.inj,by rw [Heap.bt];exact b.lt⟩;obtain ⟨k1,k2,k3,k4⟩:=b.Fw nm p hp;exact ⟨k1,by rw [Heap.bt];exact k2,k3,by rw [Heap.aN,if_neg (by omega)];exact k4⟩
theorem F6:∀ (l:List (b7×Int)) (m m':eE),ud l m=some m'->∀ x k,m'.find x=some k↔((x,k) ∈ l\/m.find x=some k)
 |[],m,m',h,x,k=>by cases h;simp
 |p :: l,m,m',h,x,k=>by
  have fu:=uI m p.1 x p.2
  have hs:Rn m p=some (m.qX p.1 p.2)/\∀ j,m.find p.1=some j->j=p.2:=by
   rw [ud] at h;unfold Rn at h ⊢
   cases hf:m.find p.1 with
   |none=>simp
   |some j=>
    rw [hf] at h;by_cases e:j=p.2
    ·simp [e]
    ·simp [e] at h
  rw [ud,hs.1] at h;rw [F6 l _ m' h x k,fu];by_cases e:x=p.1
  ·rw [if_pos e,mem_cons];subst e;constructor
   ·rintro (h1|h1)
    ·exact .inl (.inr h1)
    ·cases h1;exact .inl (.inl rfl)
   ·rintro ((h1|h1)|h1)
    ·exact .inr (by rw [<- h1])
    ·exact .inl h1
    ·exact .inr (by rw [hs.2 k h1])
  ·rw [if_neg e,mem_cons];constructor
   ·rintro (h1|h1)
    ·exact .inl (.inr h1)
    ·exact .inr h1
   ·rintro ((h1|h1)|h1)
    ·exact absurd (congrArg Prod.fst h1) e
    ·exact .inl h1
    ·exact .inr h1
theorem ke(h:dV rs []=some m)(x:b7)(k:Int):m.find x=some k↔(x,k) ∈ cB rs:=by
 rw [rJ] at h;split at h
 ·rw [F6 _ _ _ h];simp [eE.find]
 ·cases h
theorem nU(hr:r ∈ rs):(r.name,(r.args.l.length:Int)) ∈ cB rs:=mem_flatMap.2 ⟨r,hr,mem_cons_self⟩
theorem nV{xs:List b7}(h:mj nm xs=true):xs.length<=12:=by
 unfold mj at h;simp only [and_eq_true,decide_eq_true_eq] at h;omega
theorem wY(n1:1<=n){j:Nat}(h:i<=j):n ^ i<=n ^ j:=Nat.pow_le_pow_right n1 h
set_option maxHeartbeats 1000000 in
theorem ES{SB:Nat}(hn:s.size=(n:Int))(n1:1<=n)(xh:n<=64)(jz:∀ r ∈ rules.l,r.mc)(sq:rules.l.length<=60)(IK:∀ r ∈ rules.l,(varsOf r).length<=12){e0:Env}
  (hSB:h.get SB=some (.cells (an s))) (Wy:SB<h.next) (q3:e0 3 = .ptr SB 0) (q7:e0 7 = .ptr P 0) (q17:e0 17 = .ptr S 0) (aeS:e0 134=ak aP 3 rules) (aeT:e0 135 = .int .i64 (rules.l.length:Int)) (aeU:e0 136 = .int .i64 0)
  (err:(∃ r ∈ rules.l,65536<n ^ (varsOf r).length)->∀ h',bA h h'->K (.ret (.tuple [.ey,.ey,.int .i64 5])) h'=true)
  (done:(∀ r ∈ rules.l,n ^ (varsOf r).length<=65536)->∀ (e:Env) h',bA h h'->e 3 = .ptr SB 0->e 7 = .ptr P 0->e 17 = .ptr S 0->F.az.Yt K (.exit 6) ⟨e,198,[],h'⟩=true) :
  bW (EV F.az.L3) ⟨e0,198,[],h⟩ (F.az.Yt K)=true:=by
 have hbig:rules.l.length<=cM:=by unfold cM;omega
 refine aD 0 rules.l.length (zero_le _) (fun i e h'=>bA h h'/\(∀ r ∈ rules.l.take i,n ^ (varsOf r).length<=65536)/\e 3 = .ptr SB 0/\e 7 = .ptr P 0/\e 17 = .ptr S 0/\e 134=ak aP 3 rules/\e 135 = .int .i64 (rules.l.length:Int)/\e 136 = .int .i64 (i:Int))
  ⟨bA.refl _,fun r hr=>(by cases hr),q3,q7,q17,aeS,aeT,aeU⟩ ?_ ?_
 ·rintro i e h' _ hi ⟨hx,kV,e3,e7,tV,K9,Ju,Jv⟩ K' DZ fW hr hp;have hv:rules.l[i]?=some rules.l[i]:=eA hi;generalize rules.l[i]=r at hv;have nR:=ig hv;have abE:=IK r nR;obtain ⟨H,Da,g1,go,gn⟩:=cu (h:=h') (zs:=[.str [],.ax,.ax]) (cs:=aP r) (n:=3) rfl rfl (j9 r);have xH:bA h H:=hx.trans ⟨by omega,fun b hb=>go b (by omega)⟩;have pSB:H.get SB=some (.cells (an s)):=by rw [xH.get _ Wy];exact hSB
  have lz:ag none (.ptr SB 0) H=some (.int .i64 (n:Int)):=by rw [aj pSB,<- hn];rfl
  rw [F.az.UK];simp only [K9,Ju,Jv,aR,reduceAdd,reduceEqDiff,reduceIte,bh hi,aV rules hi,dF gv hv,Da];simp only [aj g1,aP,rC,aq];refine ah (di (jz r nR) fun x jG=>?_);simp only [aR,reduceAdd,reduceEqDiff,reduceIte];rw [jG];have U2:(varsOf r).length<=cM:=by unfold cM;omega
  refine aD 0 (varsOf r).length (zero_le _) (fun j e h2=>h2=H/\n ^ j<=65536/\e 3 = .ptr SB 0/\e 7 = .ptr P 0/\e 17 = .ptr S 0/\e 134=ak aP 3 rules/\e 135 = .int .i64 (rules.l.length:Int)/\e 136 = .int .i64 (i:Int)/\e 23 = .int .i64 ((n ^ j:Nat):Int)/\e 142 = .int .i64 ((varsOf r).length:Int)/\e 143 = .int .i64 (j:Int))
   ⟨rfl,by simp,e3,e7,tV,K9,Ju,Jv,rfl,rfl,rfl⟩ ?_ ?_
  ·rintro j e h2 _ hj ⟨rfl,Ri,e3,e7,tV,K9,Ju,Jv,U3,TS,TT⟩ K2 uO gi rN FD;have wh:n ^ (j+1)=n ^ j*n:=Nat.pow_succ n j;have hmul:n ^ j*n<=65536*64:=Nat.mul_le_mul Ri xh;have hm:((n ^ j:Nat):Int)*(n:Int)=((n ^ (j+1):Nat):Int):=by rw [wh,Int.natCast_mul]
   have hmm:aF .mul (.int .i64 ((n ^ j:Nat):Int)) (.int .i64 (n:Int))=some (.int .i64 ((n ^ (j+1):Nat):Int)):=by rw [uA (by rw [hm];omega) (by rw [hm];omega),hm]
   rw [F.az.UL];simp only [e3,U3,TS,TT,aR,reduceAdd,reduceEqDiff,reduceIte,bh hj,lz,hmm];by_cases hbg:65536<n ^ (j+1)
   ·simp only [fy (by omega:(65536:Int)<((n ^ (j+1):Nat):Int)),aK];rw [rN,F.az.R6,hr,F.az.R5];simp only [bK,reduceEqDiff,reduceIte];exact err ⟨r,nR,by have:=wY n1 (show j+1<=(varsOf r).length by omega);omega⟩ _ xH
   ·simp only [eR (by omega:¬ (65536:Int)<((n ^ (j+1):Nat):Int)),aJ,TT,aI hj U2,aq];exact uO _ _ ⟨rfl,by omega,e3,e7,tV,K9,Ju,Jv,rfl,TS,rfl⟩
  ·rintro e h2 ⟨rfl,Ri,e3,e7,tV,K9,Ju,Jv,U3,TS,TT⟩ K2 gi;rw [F.az.UL];simp only [TS,TT,aR,reduceAdd,reduceEqDiff,reduceIte,aW];rw [gi,F.az.Pw];simp only [aR,reduceAdd,reduceEqDiff,reduceIte,Jv,aI hi hbig];refine DZ _ _ ⟨xH,fun q hq=>?_,e3,e7,tV,K9,Ju,rfl⟩;rw [take_add_one,hv] at hq;rcases mem_append.1 hq with hq|hq
   ·exact kV q hq
   ·simp only [toList_some,mem_singleton] at hq;subst hq;exact Ri
 ·rintro e h' ⟨hx,kV,e3,e7,tV,K9,Ju,Jv⟩ K' fW;rw [kf (dM _)] at kV;rw [F.az.UK];simp only [Ju,Jv,aR,reduceAdd,reduceEqDiff,reduceIte,aW];rw [fW];exact done kV _ h' hx e3 e7 tV
set_option maxHeartbeats 1000000 in
theorem ET{SB A IT:Nat}{esA:List Entry}{ckA:Nat}{hR:AV}(hn:s.size=(n:Int))(n1:1<=n)(xh:n<=64)(IK:∀ r ∈ rules.l,r.args.l.length<=12)(jE:dV rules.l []=some m){e0:Env}
  (hS:h.get S=some (.cells [.int .i64 (n:Int),.map B])) (hSB:h.get SB=some (.cells (an s))) (hP:h.get P=some (.cells [hR,.map A,.map M])) (hA:h.get A=some (.map esA ckA)) (hmA:K6 esA ckA m) (hl:fq (bF rules.l) h M ks lv)
  (hB:eo (fun _=>none) h B (IT+1)) (hIT:∀ es ck,h.get M=some (.map es ck)->h.get IT=some (.fT (some M) ck [] ck)) (ajN:h.next=IT+1) (o1:S<IT) (o2:SB<IT) (o3:P<IT) (o4:A<IT) (o5:M<IT) (o6:B<IT) (b1:S≠B) (b2:SB≠B) (b3:P≠B) (b4:A≠B) (b5:M≠B)
  (q0:e0 0=ak aP 3 rules) (q3:e0 3 = .ptr SB 0) (q7:e0 7 = .ptr P 0) (q17:e0 17 = .ptr S 0) (aeX:e0 108 = .ptr IT 0)
  (err:(∃ r ∈ rules.l,4096<n ^ r.args.l.length)->∀ h',(∀ c,c<IT->c≠B->h'.get c=h.get c)->K (.ret (.tuple [.ey,.ey,.int .i64 5])) h'=true)
  (done:∀ (e:Env) h' D,(∀ r ∈ rules.l,n ^ r.args.l.length<=4096)->eo D h' B (IT+1)->(∀ r ∈ rules.l,∃ b,D r.name=some (b,replicate (n ^ r.args.l.length) false))->(∀ nm p,D nm=some p->nm ∈ bF rules.l)->(∀ c,c<IT->c≠B->h'.get c=h.get c)->IT<h'.next ->
   e 0=ak aP 3 rules->e 3 = .ptr SB 0->e 7 = .ptr P 0->e 17 = .ptr S 0->F.az.yN K (.exit 4) ⟨e,198,[],h'⟩=true) :
  bW (EV F.az.L2) ⟨e0,198,[],h⟩ (F.az.yN K)=true:=by
 obtain ⟨es,ck,ml,z1,z2,z3,z4,z5⟩:=hl.ex;have w0:=hIT es ck z1;have Qu:∀ r ∈ rules.l,m.find r.name=some (r.args.l.length:Int):=fun r hr=>(ke jE _ _).2 (nU hr)
 refine zE es (fun seen e hh=>∃ D,eo D hh B (IT+1)/\(∀ en ∈ es,en.2.2 ∈ seen->∀ r ∈ rules.l,en.1 = .str r.name->n ^ r.args.l.length<=4096/\∃ b,D r.name=some (b,replicate (n ^ r.args.l.length) false))/\(∀ nm p,D nm=some p->nm ∈ bF rules.l) /\
   hh.get IT=some (.fT (some M) ck seen ck)/\(∀ c,c<IT->c≠B->hh.get c=h.get c)/\IT<hh.next/\e 0=ak aP 3 rules/\e 3 = .ptr SB 0/\e 7 = .ptr P 0/\e 17 = .ptr S 0/\e 108 = .ptr IT 0)
  ⟨_,hB,fun en _ rY=>(by cases rY),fun nm p hp=>(by cases hp),w0,fun _ _ _=>rfl,by omega,q0,q3,q7,q17,aeX⟩ ?_
 rintro seen e hh ⟨D,hD,F7,U4,w3,wf,wn,e0',e3,e7,tV,WD⟩ K' Qd hex Tx abl;have hM:hh.get M=some (.map es ck):=by rw [wf M o5 b5];exact z1
 rw [F.az.mg];simp only [WD];refine Dq w3 hM z3 (by omega) (fun lI=>?_) (fun en rY hns Cc=>?_)
 ·simp only [GG,aR,reduceAdd,reduceEqDiff,reduceIte];rw [hex]
  have hev:∀ r ∈ rules.l,∃ en ∈ es,en.1 = .str r.name:=fun r hr=>by
   have h1:ml.find r.name=some (lv r.name:Int):=by rw [z5,if_pos (show r.name ∈ bF rules.l from List.mem_map_of_mem hr)]
   obtain ⟨en,rY,h2,_⟩:=z2.Tw _ (qs h1);exact ⟨en,rY,h2⟩
  refine done _ hh D (fun r hr=>?_) hD (fun r hr=>?_) U4 wf wn e0' e3 e7 tV
  ·obtain ⟨en,rY,h2⟩:=hev r hr;exact (F7 en rY (lI en rY) r hr h2).1
  ·obtain ⟨en,rY,h2⟩:=hev r hr;exact (F7 en rY (lI en rY) r hr h2).2
 obtain ⟨p,FM,FL,pV⟩:=z2.mem en rY;have hph:p.1 ∈ bF rules.l:=(hl.mem p.1).1 (by rw [<- z4];exact List.mem_map_of_mem FM);obtain ⟨r,nR,D5⟩:=mem_map.1 hph;have vf:∀ c,c<IT->c≠B->(hh.set IT (.fT (some M) ck (seen++[en.2.2]) ck)).get c=h.get c:=fun c hc NV=>by rw [Heap.aN,if_neg (by omega)];exact wf c hc NV
 have v3:(hh.set IT (.fT (some M) ck (seen++[en.2.2]) ck)).get IT=some (.fT (some M) ck (seen++[en.2.2]) ck):=by rw [Heap.aN,if_pos rfl]
 have vn:(hh.set IT (.fT (some M) ck (seen++[en.2.2]) ck)).next=hh.next:=Heap.bt _ _ _
 have vD:=hD.kE (c:=IT) (by omega) (by omega) (.fT (some M) ck (seen++[en.2.2]) ck);simp only [GG,nM,uB,aq,cC,aK,Cc,e3,e7,tV,WD];clear Cc;generalize (hh.set IT (.fT (some M) ck (seen++[en.2.2]) ck))=H at vf v3 vn vD ⊢;have pSB:H.get SB=some (.cells (an s)):=by rw [vf _ o2 b2];exact hSB
 have pS:H.get S=some (.cells [.int .i64 (n:Int),.map B]):=by rw [vf _ o1 b1];exact hS
 have pP:H.get P=some (.cells [hR,.map A,.map M]):=by rw [vf _ o3 b3];exact hP
 have pA:H.get A=some (.map esA ckA):=by rw [vf _ o4 b4];exact hA
 have lz:ag none (.ptr SB 0) H=some (.int .i64 (n:Int)):=by rw [aj pSB,<- hn];rfl
 have Qt:dU .string (.int .i64 0) false (.map A) (.str r.name) H=some (.int .i64 (r.args.l.length:Int)):=by rw [tK pA hmA.1,Qu r nR];rfl
 have G6:=IK r nR;simp only [aR,reduceAdd,reduceEqDiff,reduceIte,FL,<- D5,lz,cq,aj pP,Qt];refine ah (tW n1 xh (by unfold cM;omega) ?_);unfold NI;rw [if_neg (by omega)];by_cases EO:4096<n ^ r.args.l.length
 ·rw [if_pos EO];simp only [aR,reduceAdd,reduceEqDiff,reduceIte,cw];simp only [show (!decide ((5:Int)=0))=true from rfl,aK];rw [Tx,F.az.xY];simp only [bK,reduceEqDiff,reduceIte];exact err ⟨r,nR,EO⟩ _ vf
 ·rw [if_neg EO];obtain ⟨h2,hu,hD2,Vv,PD⟩:=vD.add (by omega) (n ^ r.args.l.length) r.name;simp only [aR,reduceAdd,reduceEqDiff,reduceIte,cw];simp only [show (!decide ((0:Int)=0))=false from rfl,aJ,cq,aR,reduceAdd,reduceEqDiff,reduceIte,aj pS,Mm (show n ^ r.args.l.length<=1000000 by omega),hu];refine Qd en rY hns _ _ ⟨kO D r.name H.next _,hD2,fun UX Je NW q hq D6=>?_,fun nm p' B6=>?_,by rw [Vv _ (by omega) (by omega)];exact v3,fun c hc NV=>by rw [Vv c (by omega) NV];exact vf c hc NV,by omega,e0',e3,e7,tV,WD⟩
  ·by_cases e:q.name=r.name
   ·have h1:=Qu q hq;rw [e,Qu r nR] at h1;have h2:r.args.l.length=q.args.l.length:=by have:=Option.some.inj h1;omega
    exact ⟨by rw [<- h2];omega,H.next,by rw [e,qD,h2]⟩
   ·rcases mem_append.1 NW with NW|NW
    ·obtain ⟨a1,b,a2⟩:=F7 UX Je NW q hq D6;exact ⟨a1,b,by rw [BI e];exact a2⟩
    ·rw [mem_singleton] at NW
     have hee:UX=en:=by
      have hb:=z3.nodup;obtain ⟨i,hi⟩:=mem_iff_getElem?.1 rY;obtain ⟨j,hj⟩:=mem_iff_getElem?.1 Je;have uX:(es.map (·.2.2))[i]?=some en.2.2:=by rw [getElem?_map,hi];rfl
      have Gz:(es.map (·.2.2))[j]?=some en.2.2:=by rw [getElem?_map,hj,<- NW];rfl
      have hij:=nS hb uX Gz;subst hij;rw [hi] at hj;exact (Option.some.inj hj).symm
     rw [hee,FL] at D6;injection D6 with h3;exact absurd (h3.symm.trans D5.symm) e
  ·by_cases e:nm=r.name
   ·rw [e];exact List.mem_map_of_mem nR
   ·rw [BI e] at B6;exact U4 nm p' B6
def JU(rs:List aO)(s:cD):Prop:=(∃ p ∈ cB rs,p.1 ∉ bF rs/\s.aE.l.find? (gm p.1 p.2)=none)\/∃ r ∈ s.aE.l,r.name ∈ bF rs
def MA(rs:List aO)(s:cD):Prop:=8<s.aE.l.length+(eF rs).length\/(∃ r ∈ rs,4096<s.size.toNat ^ r.args.l.length)\/∃ r ∈ rs,65536<s.size.toNat ^ (varsOf r).length
structure zL (n:Nat) (rs:List aO) (s:cD) (D:DB):Prop where
 rel:∀ r ∈ s.aE.l,∃ b,D r.name=some (b,bitsOf n r.arity.toNat r.aM.l)
 head:∀ r ∈ rs,∃ b,D r.name=some (b,replicate (n ^ r.args.l.length) false)
 only:∀ nm p,D nm=some p->nm ∈ bF rs\/∃ r ∈ s.aE.l,r.name=nm
structure Lc (n P A M S B lo:Nat) (rules:Sl aO) (ks:List b7) (lv:ew.Lv) (D0:DB) (m:eE) (h:Heap):Prop where
 hP:h.get P=some (.cells [ak aP 3 rules,.map A,.map M])
 hl:fq (bF rules.l) h M ks lv
 BD:ks.Nodup
 jE:dV rules.l []=some m
 hA:∃ es ck,h.get A=some (.map es ck)/\K6 es ck m
 hS:h.get S=some (.cells [.int .i64 (n:Int),.map B])
 hD:eo D0 h B lo
 ord:A<M/\M<P/\P<B/\B<S/\S<lo/\lo<=h.next
theorem MB(hl:fq (bF rs) h M ks lv)(BD:ks.Nodup):ks.length=(eF rs).length:=by
 have h1:(eF rs).Nodup:=by
  have:=pH rs;unfold rS at this;refine this.imp fun {a b} h e=>?_;rw [e,nP] at h;cases h
 have h2:=ew.pW BD (m:=eF rs) fun x hx=>(fO rs).2 ((hl.mem x).1 hx);have h3:=ew.pW h1 (m:=ks) fun x hx=>(hl.mem x).2 ((fO rs).1 hx);omega
set_option maxHeartbeats 2000000 in
theorem az{rules:Sl aO}{s:cD}(kV:∀ r ∈ rules.l,r.ok)(jz:∀ r ∈ rules.l,r.mc)(mI:s.ok){h:Heap}{K:Out->Heap->Bool}
  (h1:(¬ kN rules.l\/cV s=false)->∀ h',(∀ b,b<h.next->h'.get b=h.get b)->K (.ret (.tuple [.ey,.ey,.int .i64 1])) h'=true)
  (h4:kN rules.l->cV s=true->JU rules.l s->∀ h',(∀ b,b<h.next->h'.get b=h.get b)->K (.ret (.tuple [.ey,.ey,.int .i64 4])) h'=true)
  (h5:kN rules.l->cV s=true->¬ JU rules.l s->MA rules.l s->∀ h',(∀ b,b<h.next->h'.get b=h.get b)->K (.ret (.tuple [.ey,.ey,.int .i64 5])) h'=true)
  (h0:kN rules.l->cV s=true->¬ JU rules.l s->¬ MA rules.l s->∀ h' (n:Nat) P A M S B lo ks k D0 m,s.size=(n:Int)->1<=n->n<=64->ew.dr (bL rules.l) (ew.iter (bL rules.l) k) ->
   Lc n P A M S B lo rules ks (ew.iter (bL rules.l) k) D0 m h'->zL n rules.l s D0->(∀ b,b<h.next->h'.get b=h.get b)->h.next<=A->K (.ret (.tuple [.ptr P 0,.ptr S 0,.int .i64 0])) h'=true) :
  Sem TP 58 [ak aP 3 rules,.agg (an s)] h K:=by
 refine F.ya ?_;rw [F.zk];simp only [cY (cp s),aq];have g0:(h.alloc (.cells (an s))).get h.next=some (.cells (an s)):=aB _ _
 have gx:bA h (h.alloc (.cells (an s))):=bA.alloc _ _;have gn:(h.alloc (.cells (an s))).next=h.next+1:=rfl
 generalize (h.alloc (.cells (an s)))=H0 at g0 gx gn ⊢;refine ah (NT kV jz (fun hb h' hf=>?_) fun h' P A M ks k hg iG gP la BD Rg Wf m es ck jE gA WE o1 o2 o3 hfr=>?_)
 ·simp only [aR,reduceAdd,reduceEqDiff,reduceIte,Bool.not_false];exact h1 (.inl hb) _ (fun b hb=>by rw [hf b (by omega),gx.get b hb])
 have p0:h'.get h.next=some (.cells (an s)):=by rw [hfr _ (by omega)];exact g0
 have l0:ag (some 2) (.ptr h.next 0) h'=some (.agg (an s)):=by rw [aj p0,cE (cs:=an s) (n:=2) rfl]
 simp only [aR,reduceAdd,reduceEqDiff,reduceIte,Bool.not_true,l0];refine ah (dI mI ?_);simp only [aR,reduceAdd,reduceEqDiff,reduceIte]
 cases uT:cV s with
 |false=>simp only [Bool.not_false,aK];exact h1 (.inr uT) _ (fun b hb=>by rw [hfr b (by omega),gx.get b hb])
 |true=>
 obtain ⟨n,hn,n1,xh,h8⟩:=iW uT;have uO:s.size.toNat=n:=by omega
 specialize h4 hg uT;specialize h5 hg uT;specialize h0 hg uT;clear h1;have abH:=hg.mc;have zM:=je jE;obtain ⟨XF,abI,hmN⟩:=id WE;have Xs:mu .map (.map A) h'=some (.ptr h'.next 0,h'.alloc (.fT (some A) ck [] ck)):=by simp only [mu,gA]
 simp only [Bool.not_true,aJ,cq,aR,reduceAdd,reduceEqDiff,reduceIte,aj gP,Xs];have lI:∀ p ∈ m,(p.1,p.2) ∈ cB rules.l:=fun p hp=>(ke jE p.1 p.2).1 (uJ hmN hp)
 refine zE es (fun seen e hh=>(∀ en ∈ es,en.2.2 ∈ seen->∀ p ∈ m,en.1 = .str p.1->¬ (p.1 ∉ bF rules.l/\s.aE.l.find? (gm p.1 p.2)=none))/\hh.get h'.next=some (.fT (some A) ck seen ck)/\(∀ b,b<h'.next->hh.get b=h'.get b)/\h'.next<hh.next /\
   e 0=ak aP 3 rules/\e 3 = .ptr h.next 0/\e 7 = .ptr P 0/\e 46 = .ptr h'.next 0)
  ⟨fun en _ rY=>(by cases rY),aB _ _,fun b hb=>by rw [Heap.aU,if_neg (by omega)],by rw [Heap.aL];omega,rfl,rfl,rfl,rfl⟩ ?_
 rintro seen e hh ⟨F7,w3,wf,wn,e0,e3,e7,XH⟩ K' Qd hex Tx abl;rw [F.az.aT];simp only [XH];refine Dq w3 (by rw [wf A (by omega)];exact gA) abI (by omega) (fun abJ=>?_) (fun en rY hns Cc=>?_)
 ·
  have aeZ:¬ ∃ p ∈ cB rules.l,p.1 ∉ bF rules.l/\s.aE.l.find? (gm p.1 p.2)=none:=by
   rintro ⟨p,hp,hb⟩;have hf:=(ke jE p.1 p.2).2 hp;have FM:=qs hf;obtain ⟨en,rY,ae0,_⟩:=XF.Tw _ FM;exact F7 en rY (abJ en rY) _ FM ae0 hb
  simp only [GG,nM,aq,cC,aJ];rw [hex,F.az.aG];have v0:hh.get h.next=some (.cells (an s)):=by rw [wf _ (by omega)];exact p0
  have lr:ag none (.ptr h.next 1) hh=some (ak aQ 3 s.aE):=by rw [aj v0];rfl
  simp only [aR,reduceAdd,reduceEqDiff,reduceIte,e3,lr]
  refine aD 0 s.aE.l.length (zero_le _) (fun i e h2=>(∀ r ∈ s.aE.l.take i,r.name ∉ bF rules.l)/\(∀ b,b<h'.next->h2.get b=h'.get b)/\h'.next<h2.next/\e 0=ak aP 3 rules/\e 3 = .ptr h.next 0/\e 7 = .ptr P 0/\e 71=ak aQ 3 s.aE/\e 72 = .int .i64 (s.aE.l.length:Int)/\e 73 = .int .i64 (i:Int))
   ⟨fun r hr=>(by cases hr),wf,wn,e0,e3,e7,rfl,rfl,rfl⟩ ?_ ?_
  ·rintro i e h2 _ hi ⟨G9,JV,wn2,e0,e3,e7,e71,e72,e73⟩ K2 pV gi rN FD;have hv:s.aE.l[i]?=some s.aE.l[i]:=eA hi;generalize s.aE.l[i]=r at hv;obtain ⟨H,Da,q1,qo,qn⟩:=cu (h:=h2) (zs:=[.str [],.int .i64 0,.ax]) (cs:=aQ r) (n:=3) rfl rfl (fP r);have pP:H.get P=some (.cells [ak aP 3 rules,.map A,.map M]):=by rw [qo _ (by omega),JV _ (by omega)];exact gP
   have hM:H.get M=h'.get M:=by rw [qo _ (by omega),JV _ (by omega)]
   obtain ⟨esL,Hy,mL,y1,y2,y3,y4,y5⟩:=la.ex;have Qt:=qY (h:=H) (by rw [hM];exact y1) y2 r.name;have L8:(mL.find r.name).isSome=decide (r.name ∈ bF rules.l):=by rw [y5];by_cases hh':r.name ∈ bF rules.l<;>simp [hh']
   have ln:ag none (.ptr h2.next 0) H=some (.str r.name):=by rw [aj q1];rfl
   rw [F.az.dh];simp only [e7,e71,e72,e73,aR,reduceAdd,reduceEqDiff,reduceIte,bh hi,aV s.aE hi,dF dR hv,Da];simp only [aR,reduceAdd,reduceEqDiff,reduceIte,cq,aj pP,ln,Qt,L8];by_cases hd:r.name ∈ bF rules.l
   ·simp only [fy hd,aK];rw [rN,F.az.jC];simp only [bK,reduceEqDiff,reduceIte];exact h4 (.inr ⟨r,ig hv,hd⟩) _ (fun b hb=>by rw [qo b (by omega),JV b (by omega),hfr b (by omega),gx.get b hb])
   ·simp only [eR hd,aJ,e73,aI hi mI.1,aq];refine pV _ _ ⟨fun q hq=>?_,fun b hb=>by rw [qo b (by omega)];exact JV b hb,by omega,e0,e3,e7,e71,e72,rfl⟩;rw [take_add_one,hv] at hq;rcases mem_append.1 hq with hq|hq
    ·exact G9 q hq
    ·simp only [toList_some,mem_singleton] at hq;subst hq;exact hd
  ·rintro e h2 ⟨G9,JV,wn2,e0,e3,e7,e71,e72,e73⟩ K2 gi;rw [kf (dM _)] at G9
   have abK:¬ JU rules.l s:=by
    rintro (hb|⟨r,hr,hd⟩)
    ·exact aeZ hb
    ·exact G9 r hr hd
   specialize h5 abK;specialize h0 abK;have v0:h2.get h.next=some (.cells (an s)):=by rw [JV _ (by omega)];exact p0
   have vP:h2.get P=some (.cells [ak aP 3 rules,.map A,.map M]):=by rw [JV _ (by omega)];exact gP
   have vl:fq (bF rules.l) h2 M ks (ew.iter (bL rules.l) k):=la.gj (JV _ (by omega));have lr:ag none (.ptr h.next 1) h2=some (ak aQ 3 s.aE):=by rw [aj v0];rfl
   have ls:ag none (.ptr h.next 0) h2=some (.int .i64 (n:Int)):=by rw [aj v0,<- hn];rfl
   have hkl:ks.length<=60:=by
    have:=ew.pW BD (m:=bF rules.l) fun x hx=>(la.mem x).1 hx;have h1:(bF rules.l).length=rules.l.length:=by simp [bF]
    omega
   have Db:aF .add (.int .i64 (s.aE.l.length:Int)) (.int .i64 (ks.length:Int))=some (.int .i64 ((s.aE.l.length+ks.length:Nat):Int)):=by
    rw [jd (by omega) (by omega)];rfl
   have hdk:=MB la BD;rw [F.az.dh];simp only [e72,e73,aR,reduceAdd,reduceEqDiff,reduceIte,aW];rw [gi,F.az.cx];simp only [aR,reduceAdd,reduceEqDiff,reduceIte,e3,e7,lr,cq,aj vP,vl.len,Db];by_cases hbg:8<s.aE.l.length+ks.length
   ·simp only [fy (by omega:(8:Int)<((s.aE.l.length+ks.length:Nat):Int)),aK];exact h5 (.inl (by rw [<- hdk];exact hbg)) _ (fun b hb=>by rw [JV b (by omega),hfr b (by omega),gx.get b hb])
   have ae3:iy [.int .i64 0,.jH] [(0,1),(1,1)] [.int .i64 (n:Int),.map h2.next]=some (.agg [.int .i64 (n:Int),.map h2.next]):=rfl;simp only [eR (by omega:¬ (8:Int)<((s.aE.l.length+ks.length:Nat):Int)),aJ,ls,aq,ae3,cY (show bw [.int .i64 (n:Int),.map h2.next]=true from rfl),Heap.aL];have f0:((h2.alloc (.map [] 0)).alloc (.cells [.int .i64 (n:Int),.map h2.next])).get h2.next=some (.map [] 0):=by rw [Heap.aU,Heap.aL,if_neg (by omega)];exact aB _ _
   have f1:((h2.alloc (.map [] 0)).alloc (.cells [.int .i64 (n:Int),.map h2.next])).get (h2.next+1)=some (.cells [.int .i64 (n:Int),.map h2.next]):=aB _ _;have fx:bA h2 ((h2.alloc (.map [] 0)).alloc (.cells [.int .i64 (n:Int),.map h2.next])):=(bA.alloc _ _).trans (bA.alloc _ _);have fn:((h2.alloc (.map [] 0)).alloc (.cells [.int .i64 (n:Int),.map h2.next])).next=h2.next+1+1:=rfl
   generalize ((h2.alloc (.map [] 0)).alloc (.cells [.int .i64 (n:Int),.map h2.next]))=H2 at f0 f1 fx fn ⊢;have uP:H2.get P=some (.cells [ak aP 3 rules,.map A,.map M]):=by rw [fx.get _ (by omega)];exact vP
   obtain ⟨esL,Hy,mL,y1,y2,y3,y4,y5⟩:=la.ex;have uM:H2.get M=some (.map esL Hy):=by rw [fx.get _ (by omega),JV _ (by omega)];exact y1
   have ae4:mu .map (.map M) H2=some (.ptr H2.next 0,H2.alloc (.fT (some M) Hy [] Hy)):=by simp only [mu,uM]
   simp only [e7,cq,aR,reduceAdd,reduceEqDiff,reduceIte,aj uP,ae4];have r3:(H2.alloc (.fT (some M) Hy [] Hy)).get (h2.next+1+1)=some (.fT (some M) Hy [] Hy):=by have:=aB H2 (.fT (some M) Hy [] Hy);rwa [fn] at this
   have rx:bA H2 (H2.alloc (.fT (some M) Hy [] Hy)):=bA.alloc _ _;have rn:(H2.alloc (.fT (some M) Hy [] Hy)).next=h2.next+1+1+1:=by rw [Heap.aL,fn]
   rw [fn];generalize (H2.alloc (.fT (some M) Hy [] Hy))=H3 at r3 rx rn ⊢;have low:∀ b,b<h2.next->H3.get b=h2.get b:=fun b hb=>by rw [rx.get b (by omega),fx.get b hb]
   have s0:H3.get h2.next=some (.map [] 0):=by rw [rx.get _ (by omega)];exact f0
   have s1:H3.get (h2.next+1)=some (.cells [.int .i64 (n:Int),.map h2.next]):=by rw [rx.get _ (by omega)];exact f1
   have sM:H3.get M=some (.map esL Hy):=by rw [rx.get _ (by omega)];exact uM
   have sP:H3.get P=some (.cells [ak aP 3 rules,.map A,.map M]):=by rw [rx.get _ (by omega)];exact uP
   have sA:H3.get A=some (.map es ck):=by rw [low _ (by omega),JV _ (by omega)];exact gA
   have sB:H3.get h.next=some (.cells (an s)):=by rw [low _ (by omega)];exact v0
   have sl:fq (bF rules.l) H3 M ks (ew.iter (bL rules.l) k):=la.gj (by rw [sM,y1]);have sD:eo (fun _=>none) H3 h2.next (h2.next+1+1+1):=⟨⟨[],0,[],s0,trivial,fun nm=>rfl⟩,fun nm p hp=>(by cases hp),fun nm nm' p p' hp=>(by cases hp),by omega⟩
   refine ET (S:=h2.next+1) (SB:=h.next) hn n1 xh (fun r hr=>nV (zM r hr).1) jE s1 sB sP sA WE sl sD (fun xA GI hM'=>by rw [sM] at hM';cases hM';exact r3) rn (by omega) (by omega) (by omega) (by omega) (by omega) (by omega) (by omega) (by omega) (by omega) (by omega) (by omega) e0 e3 e7 rfl rfl (fun hb h' hf=>h5 (.inr (.inl (by rw [uO];exact hb))) h' (fun b hb=>by rw [hf b (by omega) (by omega),low b (by omega),JV b (by omega),hfr b (by omega),gx.get b hb])) fun e4 h4' D a1 a2 a3 a4 a5 a6 j0 j3 j7 j17=>?_;rw [F.az.iU];simp only [j0,aR,reduceAdd,reduceEqDiff,reduceIte]
   refine ES (s:=s) (SB:=h.next) (S:=h2.next+1) hn n1 xh jz abH (fun r hr=>(zM r hr).2.2) (by rw [a5 _ (by omega) (by omega)];exact sB) (by omega) j3 j7 j17 rfl rfl rfl (fun hb h' hx=>h5 (.inr (.inr (by rw [uO];exact hb))) h' (fun b hb=>by rw [hx.get b (by omega),a5 b (by omega) (by omega),low b (by omega),JV b (by omega),hfr b (by omega),gx.get b hb])) fun c1 e5 h6 c2 i3 i7 i17=>?_;have c6:=c2.next
   have t0:h6.get h.next=some (.cells (an s)):=by rw [c2.get _ (by omega),a5 _ (by omega) (by omega)];exact sB
   have t1:h6.get (h2.next+1)=some (.cells [.int .i64 (n:Int),.map h2.next]):=by rw [c2.get _ (by omega),a5 _ (by omega) (by omega)];exact s1
   have lr6:ag none (.ptr h.next 1) h6=some (ak aQ 3 s.aE):=by rw [aj t0];rfl
   rw [F.az.Pv];simp only [aR,reduceAdd,reduceEqDiff,reduceIte,i3,lr6];refine Hp (S:=h2.next+1) (SB:=h.next) mI uT hn n1 xh t1 t0 (a2.ext c2) (by omega) (by omega) (by omega) (by omega) (by omega) i3 i7 i17 rfl rfl rfl fun h7 D7 d1 d2 d3 d4 d5=>?_
   have ae5:¬ MA rules.l s:=by
    rintro (hb|⟨r,hr,hb⟩|⟨r,hr,hb⟩)
    ·omega
    ·rw [uO] at hb;have:=a1 r hr;omega
    ·rw [uO] at hb;have:=c1 r hr;omega
   have gj:∀ b,b<h2.next->h7.get b=h2.get b:=fun b hb=>by rw [d4 b (by omega) (by omega),c2.get b (by omega),a5 b (by omega) (by omega),low b hb]
   refine h0 ae5 h7 n P A M (h2.next+1) h2.next (h2.next+1+1+1) ks k D7 m hn n1 xh iG ⟨?_,la.gj ?_,BD,jE,⟨es,ck,?_,WE⟩,?_,d1,by omega⟩ ⟨fun r hr=>?_,fun r hr=>?_,fun nm p hp=>?_⟩ (fun b hb=>?_) (by omega)
   ·rw [gj _ (by omega)];exact vP
   ·rw [gj _ (by omega),JV _ (by omega)]
   ·rw [gj _ (by omega),JV _ (by omega)];exact gA
   ·rw [d4 _ (by omega) (by omega)];exact t1
   ·obtain ⟨b,_,b2⟩:=d2 r hr;exact ⟨b,b2⟩
   ·obtain ⟨b,b2⟩:=a3 r hr;refine ⟨b,?_⟩;rw [d3 r.name fun q hq e=>G9 q hq (by rw [e];exact List.mem_map_of_mem hr)];exact b2
   ·by_cases hq:∃ q ∈ s.aE.l,q.name=nm
    ·exact .inr hq
    ·rw [d3 nm fun q pe e=>hq ⟨q,pe,e⟩] at hp;exact .inl (a4 nm p hp)
   ·rw [gj _ (by omega),JV _ (by omega),hfr _ (by omega),gx.get _ hb]
 obtain ⟨p,FM,FL,pV⟩:=XF.mem en rY;have vf:∀ b,b<h'.next->(hh.set h'.next (.fT (some A) ck (seen++[en.2.2]) ck)).get b=h'.get b:=fun b hb=>by rw [Heap.aN,if_neg (by omega)];exact wf b hb
 have v3:(hh.set h'.next (.fT (some A) ck (seen++[en.2.2]) ck)).get h'.next=some (.fT (some A) ck (seen++[en.2.2]) ck):=by rw [Heap.aN,if_pos rfl]
 have vn:(hh.set h'.next (.fT (some A) ck (seen++[en.2.2]) ck)).next=hh.next:=Heap.bt _ _ _
 simp only [GG,nM,uB,aq,cC,aK,Cc,e3,e7,XH,FL,pV];clear Cc;generalize (hh.set h'.next (.fT (some A) ck (seen++[en.2.2]) ck))=H at vf v3 vn ⊢;have pP:H.get P=some (.cells [ak aP 3 rules,.map A,.map M]):=by rw [vf _ (by omega)];exact gP
 have p0':H.get h.next=some (.cells (an s)):=by rw [vf _ (by omega)];exact p0
 have lS:ag (some 2) (.ptr h.next 0) H=some (.agg (an s)):=by rw [aj p0',cE (cs:=an s) (n:=2) rfl]
 obtain ⟨esL,Hy,mL,y1,y2,y3,y4,y5⟩:=la.ex;have Qt:=qY (h:=H) (by rw [vf M (by omega)];exact y1) y2 p.1;have L8:(mL.find p.1).isSome=decide (p.1 ∈ bF rules.l):=by rw [y5];by_cases hh':p.1 ∈ bF rules.l<;>simp [hh']
 have fin:∀ (e':Env),(¬ (p.1 ∉ bF rules.l/\s.aE.l.find? (gm p.1 p.2)=none))->e' 0=ak aP 3 rules->e' 3 = .ptr h.next 0->e' 7 = .ptr P 0->e' 46 = .ptr h'.next 0->K' .normal ⟨e',198,[],H⟩=true:=fun e' abL e0 e3 e7 XH=>by
  refine Qd en rY hns _ _ ⟨fun UX Je NW q hq D6=>?_,v3,vf,by omega,e0,e3,e7,XH⟩;rcases mem_append.1 NW with NW|NW
  ·exact F7 UX Je NW q hq D6
  ·rw [mem_singleton] at NW
   have hee:UX=en:=by
    obtain ⟨i,hi⟩:=mem_iff_getElem?.1 rY;obtain ⟨j,hj⟩:=mem_iff_getElem?.1 Je;have uX:(es.map (·.2.2))[i]?=some en.2.2:=by rw [getElem?_map,hi];rfl
    have Gz:(es.map (·.2.2))[j]?=some en.2.2:=by rw [getElem?_map,hj,<- NW];rfl
    have hij:=nS abI.nodup uX Gz;subst hij;rw [hi] at hj;exact (Option.some.inj hj).symm
   rw [hee,FL] at D6;injection D6 with h3
   have h6:q.2=p.2:=by
    have h7:=uJ hmN hq;have h8:=uJ hmN FM;rw [<- h3,h8] at h7;exact (Option.some.inj h7).symm
   rw [<- h3,h6];exact abL
 simp only [aR,reduceAdd,reduceEqDiff,reduceIte,cq,aj pP,Qt,L8];by_cases hd:p.1 ∈ bF rules.l
 ·simp only [fy hd,Bool.not_true,aJ];exact fin _ (fun hb=>hb.1 hd) e0 e3 e7 XH
 ·simp only [eR hd,Bool.not_false,aK,aR,reduceAdd,reduceEqDiff,reduceIte,lS];refine ah (rG mI ?_);simp only [aR,reduceAdd,reduceEqDiff,reduceIte];rcases lD (gm p.1 p.2) s.aE.l with ⟨f1,f2⟩|⟨j,r,f1,f2,f3⟩
  ·rw [f1];simp only [show decide ((-1:Int)<0)=true from rfl,aK];rw [Tx,F.az.bC];simp only [bK,reduceEqDiff,reduceIte];exact h4 (.inl ⟨(p.1,p.2),lI p FM,hd,f2⟩) _ (fun b hb=>by rw [vf b (by omega),hfr b (by omega),gx.get b hb])
  ·rw [f1];simp only [eR (by omega:¬ ((j:Int)<0)),aJ];exact fin _ (fun hb=>by rw [f3] at hb;exact absurd hb.2 (by simp)) e0 e3 e7 XH
def zN(n:Nat)(s:cD):Lk:=fun nm k=>match s.aE.l.find? (fQ nm) with|some r=>(bitsOf n r.arity.toNat r.aM.l).getD k false|none=>false
def mJ(rs:List aO)(n:Nat)(s:cD)(F:Lk):Prop:=∃ k t,ew.dr (bL rs) (ew.iter (bL rs) k)/\(∀ r ∈ rs,ew.iter (bL rs) k r.name<t)/\mo n rs (ew.iter (bL rs) k) (zN n s) t F
theorem mJ.unique{A B:Lk}(h:mJ rs n s A)(g:mJ rs n s B):A=B:=by
 obtain ⟨j,t,h1,h2,h3⟩:=h;obtain ⟨k,u,g1,g2,g3⟩:=g;rw [ew.E5 h1 g1] at h2 h3;exact h3.same g3 h2 g2
theorem NX(h:ew.dr (bL rs) (ew.iter (bL rs) k)):My rs (ew.iter (bL rs) k):=by
 intro r hr c hc k0 ⟨q,hq,D6⟩
 have he:fh r c ∈ bL rs:=by
  refine mem_flatMap.2 ⟨r,hr,mem_flatMap.2 ⟨c,hc,?_⟩⟩;unfold lT;rw [if_pos ⟨k0,by rw [<- D6];exact List.mem_map_of_mem hq⟩];exact mem_singleton.2 rfl
 have:=h _ he;unfold fh at this;exact this
theorem Ld(sq:rs.length<=60)(uH:∀ r ∈ rs,r.body.l.length<=20)(h:ew.dr (bL rs) (ew.iter (bL rs) k))(x:b7):ew.iter (bL rs) k x<=1000000:=by
 have hN:∀ e ∈ bL rs,e.b ∈ bF rs/\e.h ∈ bF rs:=fun e he=>by
  obtain ⟨r,hr,c,hc,_,hin,rfl⟩:=tM he;exact ⟨hin,List.mem_map_of_mem hr⟩
 rw [ew.E5 h (ew.settle hN h)];have:=wN sq uH (bF rs).length x;have h1:(bF rs).length=rs.length:=by simp [bF]
 rw [h1] at this ⊢;omega
def pU(rs:List aO)(nm:b7):Nat:=match rs.find? (fun r=>r.name==nm) with|some r=>r.args.l.length|none=>0
theorem ue(jE:dV rs []=some m){j k:Int}(h1:(x,j) ∈ cB rs)(h2:(x,k) ∈ cB rs):j=k:=by
 have a:=(ke jE x j).2 h1;have b:=(ke jE x k).2 h2;rw [a] at b;exact Option.some.inj b
theorem Le(jE:dV rs []=some m)(hr:r ∈ rs):pU rs r.name=r.args.l.length:=by
 unfold pU
 cases hf:rs.find? (fun q=>q.name==r.name) with
 |none=>
  rw [find?_eq_none] at hf;exact absurd (hf r hr) (by simp)
 |some q=>
  have hq:=mem_of_find?_eq_some hf;have D6:=find?_some hf;rw [beq_iff_eq] at D6;have:=ue jE (nU hq) (by rw [D6];exact nU hr);simp only;omega
theorem NY(hr:r ∈ rs)(hc:c ∈ r.body.l)(k0:c.kind=0):(c.name,(c.args.l.length:Int)) ∈ cB rs:=by
 refine mem_flatMap.2 ⟨r,hr,mem_cons_of_mem _ ?_⟩;unfold dX;exact mem_map.2 ⟨c,mem_filter.2 ⟨hc,by simpa using k0⟩,rfl⟩
structure abM (c:eO):Prop where
 kinds:c.kind=0\/c.kind=1\/c.kind=2
 two:c.kind=1\/c.kind=2->c.args.l.length=2
 arity:c.args.l.length<=12
theorem DH(h:gG c=true):abM c:=by
 unfold gG at h;by_cases k0:c.kind=0
 ·rw [if_pos k0] at h;exact ⟨.inl k0,fun h'=>by omega,nV h⟩
 ·rw [if_neg k0] at h;by_cases NC:c.kind=1\/c.kind=2
  ·rw [if_pos NC] at h;simp only [and_eq_true,decide_eq_true_eq] at h;exact ⟨.inr NC,fun _=>h.2.1,by omega⟩
  ·rw [if_neg NC] at h;cases h
theorem NZ(hg:kN rs)(hr:r ∈ rs):jx r=true:=by
 have:=((uU rs).1 hg).2.1;rw [List.all_eq_true] at this;exact this r hr
theorem zO(hg:kN rs)(hr:r ∈ rs)(hc:c ∈ r.body.l):gG c=true:=by
 have:=NZ hg hr;unfold jx at this;simp only [and_eq_true] at this;have h5:=this.2.2.2.1;rw [List.all_eq_true] at h5;exact h5 c hc
theorem N3{k:Int}{r:Rel}(h:s.aE.l.find? (gm nm k)=some r):r ∈ s.aE.l/\r.name=nm/\r.arity=k:=by
 have h1:=mem_of_find?_eq_some h;have h2:=find?_some h;simp only [gm,and_eq_true,beq_iff_eq,decide_eq_true_eq] at h2;exact ⟨h1,h2.1,by first|exact h2.2|exact h2.2.symm⟩
theorem N7(jE:dV rs []=some m)(uT:cV s=true)(hn:s.size=(n:Int))(h4:¬ JU rs s)(h5:¬ MA rs s)(sd:zL n rs s D0)(hr:r ∈ rs)(hc:c ∈ r.body.l)(k0:c.kind=0) :
  n ^ c.args.l.length<=4096/\∃ p,D0 c.name=some p/\p.2.length=n ^ c.args.l.length:=by
 have uO:s.size.toNat=n:=by omega
 have He:=NY hr hc k0;by_cases hd:c.name ∈ bF rs
 ·obtain ⟨q,hq,D6⟩:=mem_map.1 hd
  have hl:q.args.l.length=c.args.l.length:=by
   have:=ue jE (nU hq) (by rw [D6];exact He);omega
  obtain ⟨b,hb⟩:=sd.head q hq;rw [D6] at hb;refine ⟨?_,_,hb,by rw [length_replicate,hl]⟩;rw [<- hl,<- uO];exact Nat.le_of_not_lt fun h=>h5 (.inr (.inl ⟨q,hq,h⟩))
 ·cases hf:s.aE.l.find? (gm c.name (c.args.l.length:Int)) with
  |none=>exact absurd (.inl ⟨_,He,hd,hf⟩) h4
  |some q=>
   obtain ⟨hq,D6,MC⟩:=N3 hf;obtain ⟨i,hi⟩:=mem_iff_getElem?.1 hq;have Qh:=Dx uT hi;rw [uO] at Qh;obtain ⟨k,hk,NC,hkc,TO⟩:=Hf Qh;obtain ⟨b,hb⟩:=sd.rel q hq;have hkl:k=c.args.l.length:=by omega
   rw [D6] at hb;exact ⟨by rw [<- hkl];exact hkc,_,hb,by rw [KL];congr 1;omega⟩
theorem oR(hn:s.size=(n:Int))(h5:¬ MA rs s)(sd:zL n rs s D0)(hr:r ∈ rs):n ^ r.args.l.length<=4096/\∃ p,D0 r.name=some p/\p.2.length=n ^ r.args.l.length:=by
 have uO:s.size.toNat=n:=by omega
 obtain ⟨b,hb⟩:=sd.head r hr;refine ⟨?_,_,hb,length_replicate⟩;rw [<- uO];exact Nat.le_of_not_lt fun h=>h5 (.inr (.inl ⟨r,hr,h⟩))
theorem Qv(hg:kN rs)(jE:dV rs []=some m)(uT:cV s=true)(hn:s.size=(n:Int))(h4:¬ JU rs s)(h5:¬ MA rs s)(sd:zL n rs s D0)(hr:r ∈ rs)(D:DB)(hd:eB D D0):FH n D r:=
 ⟨fun c hc k0=>by
  obtain ⟨a,p0,b1,b2⟩:=N7 jE uT hn h4 h5 sd hr hc k0;obtain ⟨p,c1,_,c3⟩:=hd.get b1
  exact ⟨a,p,c1,by rw [c3];exact b2⟩,fun c hc=>(DH (zO hg hr hc)).two,fun c hc=>(DH (zO hg hr hc)).kinds,fun c hc=>(DH (zO hg hr hc)).arity⟩
theorem Qw(N k:Nat):(replicate N false).getD k false=false:=by
 rw [getD_eq_getElem?_getD,getElem?_replicate];split<;>rfl
theorem Lf(uT:cV s=true)(h4:¬ JU rs s)(sd:zL n rs s D0):eP D0=zN n s:=by
 funext nm k;unfold zN
 cases hf:s.aE.l.find? (fQ nm) with
 |some r=>
  have hr:=mem_of_find?_eq_some hf;have hn:=find?_some hf;simp only [fQ,beq_iff_eq] at hn;obtain ⟨b,hb⟩:=sd.rel r hr;rw [hn] at hb;unfold eP;rw [hb]
 |none=>
  unfold eP
  cases hp:D0 nm with
  |none=>rfl
  |some p=>
   rcases sd.only nm p hp with hh|⟨r,hr,D5⟩
   ·obtain ⟨r,hr,D5⟩:=mem_map.1 hh;obtain ⟨b,hb⟩:=sd.head r hr;rw [D5,hp] at hb;cases hb;exact Qw _ _
   ·rw [find?_eq_none] at hf;exact absurd (hf r hr) (by simp [fQ,D5])
theorem Lg(jz:∀ r ∈ rules.l,r.mc)(hg:kN rules.l)(uT:cV s=true)(h4:¬ JU rules.l s)(h5:¬ MA rules.l s){A lo:Nat}(hn:s.size=(n:Int))(n1:1<=n)(xh:n<=64)
  (iG:ew.dr (bL rules.l) (ew.iter (bL rules.l) k)) (sh:Lc n P A M S B lo rules ks (ew.iter (bL rules.l) k) D0 m h) (sd:zL n rules.l s D0) {ng:FuncId} {na nb:List AV}
  (note:∀ (i:Int) (r:aO) (k:Int) (hd:Sl Int) (cs:Sl (Sl Int)) (ls:Sl Int) (y:AV) (h:Heap) (K:Out->Heap->Bool),(∀ h',bA h h'->K (.ret (.tuple [])) h'=true)->Sem TP ng (na++([.agg (bR i r k (ak encI 1 hd) (ak cU 1 cs) (ak encI 1 ls)),y]++nb)) h K)
  (hK:∀ h' D' F,mJ rules.l n s F->eP D'=F->eB D' D0->Lc n P A M S B lo rules ks (ew.iter (bL rules.l) k) D' m h'->(∀ b,b<lo->h'.get b=h.get b)->h.next<=h'.next->K (.ret (.tuple [])) h'=true) :
  Sem TP 59 [.ptr P 0,.ptr S 0,.func ng na nb] h K:=by
 obtain ⟨hP,hl,BD,jE,⟨es,ck,hA,WE⟩,hS,hD,o1,o2,o3,o4,o5,o6⟩:=sh;have zM:=je jE;have m7:∀ nm p,D0 nm=some p->lo<=p.1:=fun nm p hp=>(hD.Fw nm p hp).1
 have o:P8 S n D0 rules.l ng na nb:=
  ⟨n1,xh,jz,fun r hr=>(zM r hr).2.2,fun nm p hp=>by have:=m7 nm p hp;omega,fun r hr D hd=>Qv hg jE uT hn h4 h5 sd hr D hd,fun r hr=>⟨(oR hn h5 sd hr).1,nV (zM r hr).1,(oR hn h5 sd hr).2⟩,note,hg.mc⟩
 refine NH o hP (by omega) hl BD (by omega) (fun r hr=>List.mem_map_of_mem hr) (Ld hg.mc (fun r hr=>(zM r hr).2.1) iG) hS (by omega) hD (fun nm p hp=>by have:=m7 nm p hp;omega) fun h' D' T hT hrun wU oN hfr oZ=>?_;have gj:∀ b,b<lo->h'.get b=h.get b:=fun b hb=>hfr b (by omega) fun nm p hp=>by have:=m7 nm p hp;omega
 have hlen:nu n rules.l D0:=fun r hr p hp=>by
  obtain ⟨_,q,h1,h2⟩:=oR hn h5 sd hr;rw [h1] at hp;cases hp;exact h2
 have Uw:=(NS n1 (NX iG) hlen (fun r hr=>by obtain ⟨_,q,h1,_⟩:=oR hn h5 sd hr;exact ⟨q,h1⟩) hrun).1;rw [Lf uT h4 sd] at Uw;refine hK h' D' (eP D') ⟨k,T+1,iG,fun r hr=>by have:=hT r.name (List.mem_map_of_mem hr);omega,Uw⟩ rfl wU ⟨by rw [gj _ (by omega)];exact hP,hl.gj (gj _ (by omega)),BD,jE,⟨es,ck,by rw [gj _ (by omega)];exact hA,WE⟩,by rw [gj _ (by omega)];exact hS,oN,by omega⟩ gj oZ
theorem Qx{i:Int}{k:Int}{hd:Sl Int}{cs:Sl (Sl Int)}{ls:Sl Int}{y:AV}(hK:∀ h',bA h h'->K (.ret (.tuple [])) h'=true):Sem TP 60 ([]++([.agg (bR i r k (ak encI 1 hd) (ak cU 1 cs) (ak encI 1 ls)),y]++[])) h K:=by
 refine F.Bc ?_;rw [F.CY];simp only [cY (zC i r k hd cs ls),aq];exact hK _ (bA.alloc _ _)
def yD(n:Nat)(F:Lk)(nm:b7)(k i:Nat):List (List Int):=((List.range i).filter (F nm)).map (nI n k)
theorem N8(n:Nat)(F:Lk)(nm:b7)(k i:Nat):yD n F nm k (i+1)=yD n F nm k i++if F nm i=true then [nI n k i] else []:=by
 unfold yD;rw [range_succ,filter_append,map_append];by_cases h:F nm i=true<;>simp [h]
theorem Jw(n:Nat)(F:Lk)(nm:b7)(k i:Nat):(yD n F nm k i).length<=i:=by
 unfold yD;rw [length_map];have:=length_filter_le (F nm) (List.range i);simpa using this
def wZ(rs:List aO)(n:Nat)(F:Lk)(U5:List b7):List (b7×Int×List (List Int)):=U5.map fun nm=>(nm,(pU rs nm:Int),yD n F nm (pU rs nm) (n ^ pU rs nm))
def DI(rs:List aO)(s:cD)(e:Int):Prop:=((¬ kN rs\/cV s=false)/\e=1)\/(kN rs/\cV s=true/\((JU rs s/\e=4)\/(¬ JU rs s/\MA rs s/\e=5)))
structure ez (rs:List aO) (s:cD):Prop where
 gC:kN rs
 valid:cV s=true
 names:¬ JU rs s
 AE:¬ MA rs s
theorem BJ(s:St):dw TP s Tryz.f19.results.toList=(match ag (some 2) (s.env 4) s.h,(some [s.env 5]:Option (List AV)) with|some v,some vs=>some (v :: vs)|_,_=>none):=by kernel_rfl
theorem BK(jE:dV rs []=some m)(h:nm ∈ bF rs):m.find nm=some (pU rs nm:Int)/\∃ r ∈ rs,r.name=nm/\pU rs nm=r.args.l.length:=by
 obtain ⟨r,hr,D5⟩:=mem_map.1 h;have:=Le jE hr;rw [<- D5];refine ⟨?_,r,hr,rfl,this⟩;rw [this];exact (ke jE _ _).2 (nU hr)
theorem Lh(hl:fq (bF rs) h M ks lv)(BD:ks.Nodup):qd ks=eF rs:=by
 obtain ⟨h1,h2⟩:=G0 BD;exact vQ h1 (pH rs) fun x=>by rw [h2,hl.mem,fO]
theorem N9{D:DB}{p:Nat×List Bool}(hp:D nm=some p)(hi:i<p.2.length):p.2[i]?=some (eP D nm i):=by
 unfold eP;rw [hp];simp only;rw [getD_eq_getElem?_getD,eA hi];rfl
set_option maxHeartbeats 4000000 in
theorem dB{rules:Sl aO}{s:cD}(kV:∀ r ∈ rules.l,r.ok)(jz:∀ r ∈ rules.l,r.mc)(mI:s.ok)(Ro:cV s=true->s.small){h:Heap}{K:Out->Heap->Bool}
  (Li:∀ e,DI rules.l s e->K (.ret (.tuple [.agg (an ⟨0,none⟩),.int .i64 e])) h=true)
  (zD:ez rules.l s->∀ out:cD,out.size=s.size->(∃ Fk,mJ rules.l s.size.toNat s Fk/\out.aE.l.map bX=s.aE.l.map bX++wZ rules.l s.size.toNat Fk (eF rules.l))->K (.ret (.tuple [.agg (an out),.int .i64 0])) h=true) :
  Sem TP 19 [ak aP 3 rules,.agg (an s)] h K:=by
 have hm:cG=140737488355328:=rfl
 have gen:∀ R:Out->Heap->Bool,(∀ e h',DI rules.l s e->R (.ret (.tuple [.agg (an ⟨0,none⟩),.int .i64 e])) h'=true) ->
   (ez rules.l s->∀ h' a (x:Sl Rel) Fk,Fz true h' a (ak aQ 3 x)->mJ rules.l s.size.toNat s Fk->x.l.map bX=s.aE.l.map bX++wZ rules.l s.size.toNat Fk (eF rules.l)->R (.ret (.tuple [.agg [.int .i64 s.size,a],.int .i64 0])) h'=true) ->
   Sem TP 19 [ak aP 3 rules,.agg (an s)] Heap.empty R:=by
  intro R abN WG;refine F.Ew ?_;rw [F.GP];simp only [cY (cp s),aq,bT,Heap.aL];have g0:((Heap.alloc Heap.empty (.cells (an s))).alloc (.cells [.int .i64 0,.ax])).get 0=some (.cells (an s)):=by simp [Heap.aU,bT]
  have g1:((Heap.alloc Heap.empty (.cells (an s))).alloc (.cells [.int .i64 0,.ax])).get 1=some (.cells [.int .i64 0,.ax]):=by simp [Heap.aU,bT]
  have gn:((Heap.alloc Heap.empty (.cells (an s))).alloc (.cells [.int .i64 0,.ax])).next=2:=rfl
  generalize ((Heap.alloc Heap.empty (.cells (an s))).alloc (.cells [.int .i64 0,.ax]))=H0 at g0 g1 gn ⊢;have l0:ag (some 2) (.ptr 0 0) H0=some (.agg (an s)):=by rw [aj g0,cE (cs:=an s) (n:=2) rfl]
  have hz:iy [.int .i64 0,.ax] [] []=some (.agg [.int .i64 0,.ax]):=rfl
  have bad:∀ (e:Int) (h':Heap) (v:AV) (en:Env),e≠0->DI rules.l s e->(∀ b,b<2->h'.get b=H0.get b)->en 4 = .ptr 1 0->en 5 = .int .i64 e ->
    (af (iy [.int .i64 0,.ax] [] []) fun Tv=>af (aY 2 (.ptr 1 0) Tv h') fun h11=>af (match ag (some 2) (en 4) h11,(some [en 5]:Option (List AV)) with|some v,some vs=>some (v :: vs)|_,_=>none) fun vs=>R (.ret (oneOf vs)) h11)=true:=by
   intro e h' v en he hb hf e4 e5;have q1:h'.get 1=some (.cells [.int .i64 0,.ax]):=by rw [hf 1 (by omega)];exact g1
   have st:aY 2 (.ptr 1 0) (.agg [.int .i64 0,.ax]) h'=some (h'.set 1 (.cells [.int .i64 0,.ax])):=by
    rw [cF (n:=2) (v:=.agg [.int .i64 0,.ax]) q1 rfl rfl (by simp)];rfl
   have Qk:ag (some 2) (.ptr 1 0) (h'.set 1 (.cells [.int .i64 0,.ax]))=some (.agg [.int .i64 0,.ax]):=by rw [aj (cs:=[.int .i64 0,.ax]) (by rw [Heap.aN,if_pos rfl])];rfl
   simp only [hz,aq,st,e4,e5,Qk,oneOf];exact abN e _ hb
  simp only [l0,aq];refine ah (az kV jz mI (fun hb h' hf=>?_) (fun a1 a2 a3 h' hf=>?_) (fun a1 a2 a3 a4 h' hf=>?_) fun a1 a2 a3 a4 h' n P A M S B lo ks k D0 m hn n1 xh iG sh sd hf hA2=>?_)
  ·simp only [aR,reduceAdd,reduceEqDiff,reduceIte,cw];simp only [show (!decide ((1:Int)=0))=true from rfl,aK,BJ];exact bad 1 h' .ey _ (by omega) (.inl ⟨hb,rfl⟩) (by rw [<- gn];exact hf) rfl rfl
  ·simp only [aR,reduceAdd,reduceEqDiff,reduceIte,cw];simp only [show (!decide ((4:Int)=0))=true from rfl,aK,BJ];exact bad 4 h' .ey _ (by omega) (.inr ⟨a1,a2,.inl ⟨a3,rfl⟩⟩) (by rw [<- gn];exact hf) rfl rfl
  ·simp only [aR,reduceAdd,reduceEqDiff,reduceIte,cw];simp only [show (!decide ((5:Int)=0))=true from rfl,aK,BJ];exact bad 5 h' .ey _ (by omega) (.inr ⟨a1,a2,.inr ⟨a3,a4,rfl⟩⟩) (by rw [<- gn];exact hf) rfl rfl
  have uO:s.size.toNat=n:=by omega
  have ae6:=Ro a2;obtain ⟨_,_,_,_,h8⟩:=iW a2;specialize WG ⟨a1,a2,a3,a4⟩;rw [uO] at WG;clear abN bad;simp only [aR,reduceAdd,reduceEqDiff,reduceIte,cw];simp only [decide_true,Bool.not_true,aJ];refine ah (Lg jz a1 a2 a3 a4 hn n1 xh iG sh sd (fun _ _ _ _ _ _ _ _ _ hk=>Qx hk) fun h3 D' Fk hF hDF wU sh3 U6 UY=>?_);obtain ⟨hP,hl,BD,jE,⟨es,ck,hA,WE⟩,hS,hD,o1,o2,o3,o4,o5,o6⟩:=sh3;rw [gn] at hA2;have p0:h3.get 0=some (.cells (an s)):=by rw [U6 0 (by omega),hf 0 (by omega)];exact g0
  have p1:h3.get 1=some (.cells [.int .i64 0,.ax]):=by rw [U6 1 (by omega),hf 1 (by omega)];exact g1
  have l3:ag (some 2) (.ptr 0 0) h3=some (.agg (an s)):=by rw [aj p0,cE (cs:=an s) (n:=2) rfl]
  simp only [aR,reduceAdd,reduceEqDiff,reduceIte,l3];refine ah (cJ ae6 fun a h4 l x4 o4' hl4=>?_);obtain ⟨BH,JT⟩:=mP o4'.own;have Bi:bw [.int .i64 s.size,a]=true:=by simp only [bw,Bool.and_true] at BH ⊢;rw [BH];rfl
  obtain ⟨H5,hs5,p5,po5,pn5⟩:=cu (h:=h4) (zs:=[.int .i64 0,.ax]) (cs:=[.int .i64 s.size,a]) (n:=2) rfl rfl Bi;have x5:bA h4 H5:=⟨by omega,fun b hb=>po5 b (by omega)⟩
  have x35:bA h3 H5:=x4.trans x5;have hn4:=x4.next
  have hP5:H5.get P=some (.cells [ak aP 3 rules,.map A,.map M]):=by rw [x35.get _ (by omega)];exact hP
  simp only [aR,reduceAdd,reduceEqDiff,reduceIte,hs5,cq,aj hP5];refine ah (keys_map ?_);simp only [aR,reduceAdd,reduceEqDiff,reduceIte];have gB:(H5.alloc (.box (.map M))).get H5.next=some (.box (.map M)):=aB _ _
  have xB:bA H5 (H5.alloc (.box (.map M))):=bA.alloc _ _;generalize (H5.alloc (.box (.map M)))=H6 at gB xB ⊢;have zM:=je jE;have l5:fq (bF rules.l) H6 M ks (ew.iter (bL rules.l) k):=hl.gj ((x35.trans xB).get M (by omega))
  obtain ⟨U0,U1,gM,abO,VQ,hel⟩:=l5.aeh BD fun s hs=>by
   obtain ⟨r,hr,rfl⟩:=mem_map.1 ((l5.mem s).1 hs);have:=IP (wO (zM r hr).1);omega
  have aeL:=MB hl BD;have ajW:=oP rules.l;have abH:=a1.mc;refine ah (KH gB gM abO (by omega) fun av h7 x7 oa=>?_);rw [VQ,Lh hl BD] at oa;have hb7:=x7.next
  have hb6:=xB.next
  have x47:bA h4 h7:=(x5.trans xB).trans x7;have oo:=o4'.aeF x47 (Y:=fun b=>b=h4.next) (fun b hb=>by omega);have q5:h7.get h4.next=some (.cells [.int .i64 s.size,a]):=by rw [(xB.trans x7).get _ (by omega)];exact p5
  have x37:bA h3 h7:=x4.trans x47;simp only [aR,reduceAdd,reduceEqDiff,reduceIte,oa.len];have hdl:(eF rules.l).length<=cM:=by unfold cM;omega
  have PW:l.length<=8:=by have:=congrArg List.length hl4;rw [length_map,length_map] at this;omega
  refine aD 0 (eF rules.l).length (zero_le _) (fun i e h'=>∃ a l,h'.get h4.next=some (.cells [.int .i64 s.size,a])/\Qn (fun b=>b=h4.next) h3.next h' a l/\(l.map fun p=>bX p.2)=s.aE.l.map bX++wZ rules.l n Fk ((eF rules.l).take i)/\l.length<=8+i/\(∀ b,b<h3.next->h'.get b=h3.get b)/\Own encS 1 H6.next h' av (eF rules.l)/\(∀ b,cz av=some b->cz a≠some b)/\h7.next<=h'.next /\
   e 3 = .ptr 0 0/\e 4 = .ptr 1 0/\e 6 = .ptr P 0/\e 7 = .ptr S 0/\e 9 = .ptr h4.next 0/\e 38=av/\e 39 = .int .i64 ((eF rules.l).length:Int)/\e 40 = .int .i64 (i:Int))
   ⟨a,l,q5,oo,by rw [hl4];simp [wZ],by omega,fun b hb=>x37.get b hb,oa,fun b hb eW=>by have:=oa.ge hb;have:=o4'.own.lt eW;have:=x5.next;omega,dM _,rfl,rfl,rfl,rfl,rfl,rfl,rfl,rfl⟩ ?_ ?_
  ·rintro i e h' _ hi ⟨a,l,q5,o,XI,hlen,hfr,XJ,abP,oZ,e3,e4,e6,e7,e9,U7,NB,Mr⟩ K' afa hx hr hp;have hv:(eF rules.l)[i]?=some (eF rules.l)[i]:=eA hi;generalize (eF rules.l)[i]=nm at hv;have xj:nm ∈ bF rules.l:=(fO _).1 (ig hv);obtain ⟨HN,r,nR,D5,TU⟩:=BK jE xj;obtain ⟨EO,p0',By,aa6⟩:=oR hn a4 sd nR;rw [D5] at By;obtain ⟨p,hpD,_,sI⟩:=wU.get By;rw [aa6,<- TU] at sI;rw [<- TU] at EO;have G6:pU rules.l nm<=12:=by rw [TU];exact nV (zM r nR).1
   obtain ⟨_,hpn,_,abQ⟩:=hD.Fw nm p hpD;obtain ⟨q,_,i1,i2⟩:=tI XJ hv;have pP:h'.get P=some (.cells [ak aP 3 rules,.map A,.map M]):=by rw [hfr _ (by omega)];exact hP
   have pA:h'.get A=some (.map es ck):=by rw [hfr _ (by omega)];exact hA
   have Qt:dU .string (.int .i64 0) false (.map A) (.str nm) h'=some (.int .i64 (pU rules.l nm:Int)):=by rw [tK pA WE.1,HN];rfl
   have xg:iy [.str [],.int .i64 0,.ax] [(0,1),(1,1)] [.str nm,.int .i64 (pU rules.l nm:Int)]=some (.agg [.str nm,.int .i64 (pU rules.l nm:Int),.ax]):=rfl;obtain ⟨H8,hs8,p8,po8,pn8⟩:=cu (h:=h') (zs:=[.str [],.int .i64 0,.ax]) (cs:=[.str nm,.int .i64 (pU rules.l nm:Int),.ax]) (n:=3) rfl rfl rfl;have x8:bA h' H8:=⟨by omega,fun b hb=>po8 b (by omega)⟩
   have pS:H8.get S=some (.cells [.int .i64 (n:Int),.map B]):=by rw [x8.get _ (by omega),hfr _ (by omega)];exact hS
   have hD8:eo D' H8 B lo:=hD.ext ⟨by omega,fun b hb=>by rw [x8.get _ (by omega),hfr b hb]⟩;rw [F.dB.aT];simp only [e6,e7,U7,NB,Mr,aR,reduceAdd,reduceEqDiff,reduceIte,bh hi,i1,i2,cq,aj pP,Qt,xg,hs8];simp only [aR,reduceAdd,reduceEqDiff,reduceIte,cq,aj pS,hD8.look hpD];have TV:∀ hh,bU .slice (.slice p.1 0 p.2.length 1) hh=some (.int .i64 (p.2.length:Int)):=fun _=>rfl;simp only [TV,aq];have hbp:p.2.length<=cM:=by rw [sI];unfold cM;omega
   refine aD 0 p.2.length (zero_le _) (fun j e h2=>∃ tv ts,h2.get h'.next=some (.cells [.str nm,.int .i64 (pU rules.l nm:Int),tv])/\Own cU 1 (h'.next+1) h2 tv ts/\ts.map Sl.l=yD n Fk nm (pU rules.l nm) j/\bA h' h2/\h'.next+1<=h2.next /\
    e 3 = .ptr 0 0/\e 4 = .ptr 1 0/\e 6 = .ptr P 0/\e 7 = .ptr S 0/\e 9 = .ptr h4.next 0/\e 38=av/\e 39 = .int .i64 ((eF rules.l).length:Int)/\e 40 = .int .i64 (i:Int)/\e 12 = .ptr h'.next 0/\e 57 = .slice p.1 0 p.2.length 1/\e 58 = .int .i64 (p.2.length:Int)/\e 59 = .int .i64 (j:Int))
    ⟨_,[],p8,.nil,rfl,x8,by omega,e3,e4,e6,e7,e9,U7,NB,Mr,rfl,rfl,rfl,rfl⟩ ?_ ?_
   ·rintro j e h2 _ hj ⟨tv,ts,q6,ot,DC,x2,Qp,e3,e4,e6,e7,e9,U7,NB,Mr,Bf,e57,e58,XK⟩ K2 TW gi rN FD;have abq:ts.length<=j:=by have:=congrArg List.length DC;rw [length_map] at this;have:=Jw n Fk nm (pU rules.l nm) j;omega
    have abS:h2.get p.1=some (.cells (p.2.map bv)):=(by rw [x2.get _ (by omega),hfr _ hpn];exact abQ);have oN:=N9 hpD hj;rw [hDF] at oN;have TX:=N8 n Fk nm (pU rules.l nm) j;rw [F.dB.dh];simp only [e57,e58,XK,aR,reduceAdd,reduceEqDiff,reduceIte,bh hj,nr hj,G4 abS oN]
    cases hFb:Fk nm j with
    |false=>
     rw [hFb,if_neg (by simp),append_nil] at TX;simp only [aJ,XK,aI hj hbp,aq];exact TW _ _ ⟨tv,ts,q6,ot,by rw [TX];exact DC,x2,Qp,e3,e4,e6,e7,e9,U7,NB,Mr,Bf,e57,e58,rfl⟩
    |true=>
     rw [hFb,if_pos rfl] at TX;have w0:h2.get 0=some (.cells (an s)):=by rw [x2.get _ (by omega),hfr 0 (by omega)];exact p0
     have lz:ag none (.ptr 0 0) h2=some (.int .i64 (n:Int)):=(by rw [aj w0,<- hn];rfl);have la:ag none (.ptr h'.next 1) h2=some (.int .i64 (pU rules.l nm:Int)):=by rw [aj q6];rfl
     have lt:ag none (.ptr h'.next 2) h2=some tv:=(by rw [aj q6];rfl);simp only [aK,e3,Bf,XK,aR,reduceAdd,reduceEqDiff,reduceIte,lz,la];refine ah (gl n1 xh G6 EO (by rw [<- sI];exact hj) fun t ht=>?_);obtain ⟨a9,h9,c9,o9,f9,n9,w9,b9⟩:=ot.push qt DA Qp (bytes:=24) (by rw [hm];omega) t;have hne:cz tv≠some h'.next:=fun hb=>by have:=ot.ge hb;omega
     have s6:h9.get h'.next=some (.cells [.str nm,.int .i64 (pU rules.l nm:Int),tv]):=by rw [f9 _ (by omega) hne];exact q6
     have c6:=o9.kH
     have st:aY 1 (.ptr h'.next 2) a9 h9=some (h9.set h'.next (.cells [.str nm,.int .i64 (pU rules.l nm:Int),a9])):=by
      rw [cF (n:=1) s6 c6.2.1 c6.1 (by simp),c6.2.2];rfl
     simp only [aR,reduceAdd,reduceEqDiff,reduceIte,Bf,lt,Mx,c9,st,XK,aI hj hbp];refine TW _ _ ⟨a9,ts++[t],by rw [Heap.aN,if_pos rfl],o9.kE (by omega) _,?_,(w9 h' x2 (by omega)).set (dM _) _,by rw [Heap.bt];omega,e3,e4,e6,e7,e9,U7,NB,Mr,Bf,e57,e58,rfl⟩;rw [map_append,DC,TX];simp [ht]
   ·rintro e h2 ⟨tv,ts,q6,ot,DC,x2,Qp,e3,e4,e6,e7,e9,U7,NB,Mr,Bf,e57,e58,XK⟩ K2 gi;have oe:=o.ext x2;obtain ⟨Fo,Ov⟩:=mP ot;have lq:ag (some 3) (.ptr h'.next 0) h2=some (.agg (gX (nm,(pU rules.l nm:Int),⟨tv,Fo,Ov⟩))):=by rw [aj q6];rfl
    have q52:h2.get h4.next=some (.cells [.int .i64 s.size,a]):=by rw [x2.get _ (by omega)];exact q5
    have lo:ag none (.ptr h4.next 1) h2=some a:=(by rw [aj q52];rfl);obtain ⟨x,jG,KR⟩:=(jy.zJ ot mH).data;have I2:x.l=ts:=by rw [jG,List.map_map];simp [Function.comp_def]
    obtain ⟨a9,h9,c9,o9,f9,n9,w9,b9⟩:=oe.push lE uR (by omega) (bytes:=48) (by rw [hm];omega) (nm,(pU rules.l nm:Int),⟨tv,Fo,Ov⟩) ⟨nm,(pU rules.l nm:Int),x⟩ (fun b hb=>by omega)
     (fun g hg=>KW (KR g fun b b1 b2 _=>hg b (by omega) b2 (by omega) (fun hb=>by have:=o.own.lt hb;omega)))
    have hne:cz a≠some h4.next:=fun hb=>oe.av _ hb rfl
    have s5:h9.get h4.next=some (.cells [.int .i64 s.size,a]):=by rw [f9 _ (by omega) hne];exact q52
    have c6:=o9.own.kH
    have st:aY 1 (.ptr h4.next 1) a9 h9=some (h9.set h4.next (.cells [.int .i64 s.size,a9])):=by
     rw [cF (n:=1) s5 c6.2.1 c6.1 (by simp),c6.2.2];rfl
    rw [F.dB.dh];simp only [e58,XK,aR,reduceAdd,reduceEqDiff,reduceIte,aW];rw [gi,F.dB.cx];simp only [aR,reduceAdd,reduceEqDiff,reduceIte,e9,Bf,Mr,lo,lq,KV,c9,st,aI hi hdl];refine afa _ _ ⟨a9,_,by rw [Heap.aN,if_pos rfl],o9.aeE rfl _,?_,by simp;omega,fun b hb=>?_,?_,fun b hb eW=>by have:=XJ.lt hb;have:=b9 b eW;omega,by rw [Heap.bt];omega,e3,e4,e6,e7,e9,U7,NB,rfl⟩
    ·rw [map_append,XI,take_add_one,hv];unfold wZ;rw [map_append,<- append_assoc];simp only [toList_some,map_cons,map_nil,bX,I2,DC,sI]
    ·rw [Heap.aN,if_neg (by omega),f9 b (by omega) (fun eW=>by have:=oe.own.ge eW;omega),x2.get b (by omega)];exact hfr b hb
    ·have afc:∀ b,cz av=some b->(h9.set h4.next (.cells [.int .i64 s.size,a9])).get b=h'.get b:=fun b hb=>by
      have b1:=XJ.ge hb;have b2:=XJ.lt hb;rw [Heap.aN,if_neg (by omega),f9 b (by omega) ?_,x2.get b b2];intro eW;exact abP b hb eW
     exact XJ.agree afc (by rw [Heap.bt];omega)
  ·rintro e h' ⟨a,l,q5,o,XI,hlen,hfr,XJ,abP,oZ,e3,e4,e6,e7,e9,U7,NB,Mr⟩ K' hx;rw [kf (dM _)] at XI;obtain ⟨BH,JT⟩:=mP o.own;have WH:bw [.int .i64 s.size,a]=true:=by simp only [bw,Bool.and_true] at BH ⊢;rw [BH];rfl
   have q1:h'.get 1=some (.cells [.int .i64 0,.ax]):=by rw [hfr 1 (by omega)];exact p1
   have lo:ag (some 2) (.ptr h4.next 0) h'=some (.agg [.int .i64 s.size,a]):=by rw [aj q5];rfl
   have st:aY 2 (.ptr 1 0) (.agg [.int .i64 s.size,a]) h'=some (h'.set 1 (.cells [.int .i64 s.size,a])):=by
    rw [cF (n:=2) (v:=.agg [.int .i64 s.size,a]) q1 rfl WH (by simp)];rfl
   have Qk:ag (some 2) (.ptr 1 0) (h'.set 1 (.cells [.int .i64 s.size,a]))=some (.agg [.int .i64 s.size,a]):=by rw [aj (cs:=[.int .i64 s.size,a]) (by rw [Heap.aN,if_pos rfl])];rfl
   rw [F.dB.aT];simp only [NB,Mr,aR,reduceAdd,reduceEqDiff,reduceIte,aW];rw [hx,F.dB.aG];simp only [bK,reduceEqDiff,reduceIte,e4,e9,lo,st,aq,BJ,Qk,oneOf];obtain ⟨x,jG,gi⟩:=(o.low (d:=1) (by omega) (.cells [.int .i64 s.size,a])).fz;exact WG _ a x Fk gi hF (by rw [jG,List.map_map];exact XI)
 have main:=gen (fun o h'=>yes ((∃ e,DI rules.l s e/\o = .ret (.tuple [.agg (an ⟨0,none⟩),.int .i64 e]))\/(ez rules.l s/\∃ (a:AV) (x:Sl Rel) (Fk:Lk),o = .ret (.tuple [.agg [.int .i64 s.size,a],.int .i64 0])/\Fz true h' a (ak aQ 3 x)/\mJ rules.l s.size.toNat s Fk/\x.l.map bX=s.aE.l.map bX++wZ rules.l s.size.toNat Fk (eF rules.l))))
  (fun e h' he=>ct.2 (.inl ⟨e,he,rfl⟩)) (fun hr h' a x Fk hf hF hx=>ct.2 (.inr ⟨hr,a,x,Fk,rfl,hf,hF,hx⟩))
 refine main.frozen (by simp [AV.cN,AV.pure,cc fN,eu]) fun o h' ho=>?_;rcases ct.1 ho with ⟨e,he,rfl⟩|⟨hr,a,x,Fk,rfl,hf,hF,hx⟩
 ·exact ⟨_,_,rfl,.dP (by rfl),Li e he⟩
 ·have f1:=lF.cons (.scalar (.int .i64 s.size) rfl) (lF.cons hf lF.nil);have f2:=lF.cons (Fz.agg _ _ f1.len f1.rel) (lF.cons (.scalar (.int .i64 0) rfl) lF.nil);exact ⟨_,_,rfl,.tuple _ _ f2.len f2.rel,zD hr ⟨s.size,x⟩ rfl ⟨Fk,hF,hx⟩⟩
theorem EU{x:Sl b7}{s:b7}(hl:x.l.length<=cM)(hK:K (.ret (.bool (x.l.any fun x=>x==s))) h=true):Sem TP 86 [ak encS 1 x,.str s] h K:=by
 refine F.rR ?_;rw [F.sX];refine aD 0 x.l.length (zero_le _) (fun i e h'=>h'=h/\e 0=ak encS 1 x/\e 1 = .str s/\e 5 = .int .i64 (i:Int)/\((x.l.take i).any fun x=>x==s)=false) ⟨rfl,rfl,rfl,rfl,rfl⟩ ?_ ?_
 ·rintro i e h' _ hi ⟨rfl,e0,e1,e5,ht⟩ K' hn hx hr hp;have hv:x.l[i]?=some x.l[i]:=eA hi;generalize x.l[i]=t at hv;rw [F.dx.aT];simp only [e0,e1,e5,aR,reduceAdd,reduceEqDiff,reduceIte,bh hi,aV x hi,jq hv]
  cases hq:(t==s) with
  |true=>
   simp only [aK];rw [hr,F.dx.bC];have:(x.l.any fun x=>x==s)=true:=List.any_eq_true.2 ⟨t,ig hv,hq⟩;rw [this] at hK;simp only [bK,reduceEqDiff,reduceIte];exact hK
  |false=>
   simp only [aJ,e5,aI hi hl,aq];exact hn _ _ ⟨rfl,e0,e1,rfl,yl hv ht hq⟩
 ·rintro e h' ⟨rfl,e0,e1,e5,ht⟩ K' hx;rw [kf (dM _)] at ht;rw [F.dx.aT];simp only [e0,e5,aR,reduceAdd,reduceEqDiff,reduceIte,aW];rw [hx,F.dx.aG];rw [ht] at hK;exact hK
theorem Qy(y:b7×Int):bw (nh y)=true:=rfl
def Rp(l:List (b7×Int))(x:b7):Int:=match l.find? (fun p=>p.1==x) with|some p=>p.2|none=>-1
theorem zP(sq:rs.length<=60)(uH:∀ r ∈ rs,r.body.l.length<=20):(cB rs).length<=1260:=by
 have:∀ rs:List aO,(∀ r ∈ rs,r.body.l.length<=20)->(cB rs).length<=rs.length*21:=by
  intro rs
  induction rs with
  |nil=>intro _;simp [cB]
  |cons r rs ih=>
   intro h;have h1:=ih fun q hq=>h q (mem_cons_of_mem _ hq);have h2:=h r mem_cons_self;have h3:=pT r.body.l;unfold cB at h1 ⊢;rw [flatMap_cons,length_append,length_cons];have:(tT r).length=1+(dX r.body.l).length:=by unfold tT;rw [length_cons];omega
   omega
 have:=this rs uH;omega
theorem ee{rules:Sl aO}(sq:rules.l.length<=60)(uH:∀ r ∈ rules.l,r.body.l.length<=20){s:b7}{h:Heap}{K:Out->Heap->Bool}(hK:K (.ret (.int .i64 (Rp (cB rules.l) s))) h=true):Sem TP 116 [ak aP 3 rules,.str s] h K:=by
 have hal:=zP sq uH;refine F.A9 ?_;rw [F.CU];refine ah (cL sq uH fun x jG=>?_);simp only [aR,reduceAdd,reduceEqDiff,reduceIte];have Mo:x.l.length<=cM:=by rw [jG];unfold cM;omega
 rw [<- jG] at hK;refine aD 0 x.l.length (zero_le _) (fun i e h'=>h'=h/\e 1 = .str s/\e 5=ak nh 2 x/\e 6 = .int .i64 (i:Int)/\∀ p ∈ x.l.take i,p.1≠s) ⟨rfl,rfl,rfl,rfl,fun p hp=>(by cases hp)⟩ ?_ ?_
 ·rintro i e h' _ hi ⟨rfl,e1,e5,e6,Dm⟩ K' hn hx hr hp;have hv:x.l[i]?=some x.l[i]:=eA hi;generalize x.l[i]=p at hv;rw [F.ee.aT];simp only [e1,e5,e6,aR,reduceAdd,reduceEqDiff,reduceIte,bh hi,aV x hi,Jt hv,K8 hv,rA];by_cases hq:p.1=s
  ·simp only [fy hq,aK];rw [hr,F.ee.bC];simp only [bK,reduceEqDiff,reduceIte]
   have:x.l.find? (fun p=>p.1==s)=some p:=by
    rw [find?_eq_some_iff_getElem];refine ⟨by simp [hq],i,hi,(kg.1 hv).2,fun j hj=>?_⟩;have:=Dm _ (mem_take_iff_getElem.2 ⟨j,by omega,rfl⟩);simp [this]
   unfold Rp at hK;rw [this] at hK;exact hK
  ·simp only [eR hq,aJ,e6,aI hi Mo,aq];refine hn _ _ ⟨rfl,e1,e5,rfl,fun q pe=>?_⟩;rw [take_add_one,hv] at pe;rcases mem_append.1 pe with pe|pe
   ·exact Dm q pe
   ·simp only [toList_some,mem_singleton] at pe;subst pe;exact hq
 ·rintro e h' ⟨rfl,e1,e5,e6,Dm⟩ K' hx;rw [kf (dM _)] at Dm;rw [F.ee.aT];simp only [e5,e6,aR,reduceAdd,reduceEqDiff,reduceIte,aW];rw [hx,F.ee.aG]
  have:x.l.find? (fun p=>p.1==s)=none:=by
   rw [find?_eq_none];intro q hq;simp [Dm q hq]
  unfold Rp at hK;rw [this] at hK;exact hK
theorem Hr(jE:dV rs []=some m){k:Int}(h:(x,k) ∈ cB rs):Rp (cB rs) x=k:=by
 unfold Rp
 cases hf:(cB rs).find? (fun p=>p.1==x) with
 |none=>
  rw [find?_eq_none] at hf;exact absurd (hf _ h) (by simp)
 |some p=>
  have h1:=mem_of_find?_eq_some hf;have h2:=find?_some hf;rw [beq_iff_eq] at h2;simp only;exact ue jE (x:=x) (by rw [<- h2];exact h1) h
theorem Qz(jE:dV rs []=some m)(h:x ∈ bF rs):Rp (cB rs) x=(pU rs x:Int):=by
 obtain ⟨r,hr,D5⟩:=mem_map.1 h;rw [<- D5,Hr jE (nU hr),Le jE hr]
def oS(ds:List b7)(ys:List (b7×Int)):List b7:=ys.foldl (fun o y=>if y.1 ∈ ds then o else eL o y.1) []
theorem Jx{ds:List b7}{ys:List (b7×Int)}{y:b7×Int}(hy:ys[i]?=some y):oS ds (ys.take (i+1))=if y.1 ∈ ds then oS ds (ys.take i) else eL (oS ds (ys.take i)) y.1:=by
 unfold oS;rw [take_add_one,hy];simp
theorem DJ{ds:List b7}:∀ {ys:List (b7×Int)},x ∈ oS ds ys↔∃ y ∈ ys,y.1=x/\x ∉ ds:=by
 have key:∀ (ys:List (b7×Int)) (o:List b7),x ∈ ys.foldl (fun o y=>if y.1 ∈ ds then o else eL o y.1) o↔(x ∈ o\/∃ y ∈ ys,y.1=x/\x ∉ ds):=by
  intro ys
  induction ys with
  |nil=>intro o;simp
  |cons y ys ih=>
   intro o;rw [foldl_cons,ih];by_cases hd:y.1 ∈ ds
   ·rw [if_pos hd];constructor
    ·rintro (h|⟨z,hz,h1,h2⟩)
     ·exact .inl h
     ·exact .inr ⟨z,mem_cons_of_mem _ hz,h1,h2⟩
    ·rintro (h|⟨z,hz,h1,h2⟩)
     ·exact .inl h
     ·rcases mem_cons.1 hz with rfl|hz
      ·exact absurd (h1▸hd) h2
      ·exact .inr ⟨z,hz,h1,h2⟩
   ·rw [if_neg hd,rB];constructor
    ·rintro ((h|h)|⟨z,hz,h1,h2⟩)
     ·exact .inl h
     ·exact .inr ⟨y,mem_cons_self,h.symm,by rw [h];exact hd⟩
     ·exact .inr ⟨z,mem_cons_of_mem _ hz,h1,h2⟩
    ·rintro (h|⟨z,hz,h1,h2⟩)
     ·exact .inl (.inl h)
     ·rcases mem_cons.1 hz with rfl|hz
      ·exact .inl (.inr h1.symm)
      ·exact .inr ⟨z,hz,h1,h2⟩
 intro ys;unfold oS;rw [key];simp
theorem w8(ds:List b7):∀ (ys:List (b7×Int)),(oS ds ys).length<=ys.length:=by
 have key:∀ (ys:List (b7×Int)) (o:List b7),(ys.foldl (fun o y=>if y.1 ∈ ds then o else eL o y.1) o).length<=o.length+ys.length:=by
  intro ys
  induction ys with
  |nil=>intro o;simp
  |cons y ys ih=>
   intro o;rw [foldl_cons];have h1:=ih (if y.1 ∈ ds then o else eL o y.1)
   have h2:(if y.1 ∈ ds then o else eL o y.1).length<=o.length+1:=by
    split
    ·omega
    ·exact wT o y.1
   rw [length_cons];omega
 intro ys;have:=key ys [];simpa [oS] using this
def F8(rs:List aO):List (b7×Int):=(oS (eF rs) (cB rs)).map fun s=>(s,Rp (cB rs) s)
theorem TY{l:List b7}{s:b7}:(l.any fun x=>x==s)=decide (s ∈ l):=by
 rw [Bool.eq_iff_iff,List.any_eq_true,decide_eq_true_iff];constructor
 ·rintro ⟨x,hx,e⟩;rw [beq_iff_eq] at e;rw [<- e];exact hx
 ·intro h;exact ⟨s,h,by simp⟩
set_option maxHeartbeats 1000000 in
theorem cy{rules:Sl aO}(sq:rules.l.length<=60)(uH:∀ r ∈ rules.l,r.body.l.length<=20){h:Heap}{K:Out->Heap->Bool}(hK:∀ x:Sl (b7×Int),x.l=F8 rules.l->K (.ret (ak nh 2 x)) h=true):Sem TP 68 [ak aP 3 rules] h K:=by
 have hm:cG=140737488355328:=rfl;have hal:=zP sq uH;have hdl:=oP rules.l
 have main:Sem TP 68 [ak aP 3 rules] Heap.empty (fun o h'=>yes (∃ v,∃ x:Sl (b7×Int),o = .ret v/\x.l=F8 rules.l/\Fz true h' v (ak nh 2 x))):=by
  refine F.yf ?_;rw [F.zu];refine ah (dz sq fun d hd1=>?_);simp only [aR,reduceAdd,reduceEqDiff,reduceIte];refine ah (cL sq uH fun x jG=>?_);simp only [aR,reduceAdd,reduceEqDiff,reduceIte];have I2:x.l.length<=1260:=by rw [jG];exact hal
  have Mo:x.l.length<=cM:=by unfold cM;omega
  have hdb:d.l.length<=cM:=by rw [hd1];unfold cM;omega
  refine aD 0 x.l.length (zero_le _) (fun i e h'=>∃ a,Own encS 1 0 h' a (oS (eF rules.l) (x.l.take i))/\e 0=ak aP 3 rules/\e 3=ak encS 1 d/\e 4=a/\e 5=ak nh 2 x/\e 6 = .int .i64 (i:Int)) ⟨.ax,.nil,rfl,rfl,rfl,rfl,rfl⟩ ?_ ?_
  ·rintro i e h' _ hi ⟨a,o,e0,e3,e4,e5,e6⟩ K' hn hx hr hp;have hv:x.l[i]?=some x.l[i]:=eA hi;generalize x.l[i]=y at hv;have iG:=Jx (ds:=eF rules.l) hv;rw [F.cy.aT];simp only [e3,e5,e6,aR,reduceAdd,reduceEqDiff,reduceIte,bh hi,aV x hi,Jt hv];refine ah (EU hdb ?_);rw [TY,hd1];simp only [aR,reduceAdd,reduceEqDiff,reduceIte];by_cases QA:y.1 ∈ eF rules.l
   ·rw [if_pos QA] at iG;simp only [fy QA,Bool.not_true,aJ,e6,aI hi Mo,aq];exact hn _ _ ⟨a,by rw [iG];exact o,e0,e3,e4,e5,rfl⟩
   ·rw [if_neg QA] at iG;simp only [eR QA,Bool.not_false,aK,e4,e5,e6,aR,reduceAdd,reduceEqDiff,reduceIte,aV x hi,Jt hv];refine ah (er o (zero_le _) (by have h1:=w8 (eF rules.l) (x.l.take i);have h2:=length_take_le i x.l;omega) fun a1 h1 x1 o1=>?_);simp only [aR,reduceAdd,reduceEqDiff,reduceIte,e6,aI hi Mo];exact hn _ _ ⟨a1,by rw [iG];exact o1,e0,e3,rfl,e5,rfl⟩
  ·rintro e h' ⟨a,o,e0,e3,e4,e5,e6⟩ K' hx;rw [kf (dM _),jG] at o;have hol:=w8 (eF rules.l) (cB rules.l);have hos:∃ os,os=oS (eF rules.l) (cB rules.l):=⟨_,rfl⟩
   obtain ⟨os,hos⟩:=hos;rw [<- hos] at o hol;have hob:os.length<=cM:=by unfold cM;omega
   rw [F.cy.aT];simp only [e5,e6,aR,reduceAdd,reduceEqDiff,reduceIte,aW];rw [hx,F.cy.aG]
   refine aD 0 os.length (zero_le _) (fun i e h2=>∃ b,(∀ c,cz a=some c->h2.get c=h'.get c)/\h'.next<=h2.next/\Own nh 2 h'.next h2 b ((os.take i).map fun s=>(s,Rp (cB rules.l) s))/\e 0=ak aP 3 rules/\e 4=a/\e 7=b/\e 8 = .int .i64 (i:Int))
    ⟨.ax,fun _ _=>rfl,dM _,.nil,e0,e4,rfl,rfl⟩ ?_ ?_
   ·rintro i e h2 _ hi ⟨b,hfr,oZ,ob,e0,e4,e7,e8⟩ K2 pV gi rN FD;have hv:os[i]?=some os[i]:=eA hi;generalize os[i]=s at hv;have o2:=o.agree hfr oZ;obtain ⟨q,_,i1,i2⟩:=tI o2 hv;obtain ⟨a5,h5,p5,o5,f5,n5,x5,b5⟩:=ob.push oI Qy oZ (bytes:=24) (by rw [hm,length_map,length_take];omega) (s,Rp (cB rules.l) s);rw [F.cy.dh];simp only [e0,e4,e7,e8,o2.len,aR,reduceAdd,reduceEqDiff,reduceIte,bh hi,i1,i2];refine ah (ee sq uH ?_);simp only [aR,reduceAdd,reduceEqDiff,reduceIte,i2,AV.beq_refl,Bool.and_self,if_true,Pz,PA,p5,e8,aI hi hob];refine pV _ _ ⟨a5,fun c hc=>by rw [f5 c (by have:=o.lt hc;omega) (fun hb=>by have:=ob.ge hb;have:=o.lt hc;omega)];exact hfr c hc,by omega,?_,e0,e4,rfl,rfl⟩;rw [take_add_one,hv,map_append];exact o5
   ·rintro e h2 ⟨b,hfr,oZ,ob,e0,e4,e7,e8⟩ K2 gi;rw [kf (dM _)] at ob;have o2:=o.agree hfr oZ;rw [F.cy.dh];simp only [e4,e8,o2.len,aR,reduceAdd,reduceEqDiff,reduceIte,aW];rw [gi,F.cy.cx];simp only [bK,reduceEqDiff,reduceIte,e7]
    obtain ⟨y,hy1,hy2⟩:=ob.KF (fun v y hy=>by
     simp only [nh,mem_cons,not_mem_nil,_root_.or_false] at hy
     rcases hy with rfl|rfl<;>exact .scalar _ rfl)
    exact ct.2 ⟨b,y,rfl,by rw [hy1,hos];rfl,hy2⟩
 refine main.frozen (by simp [AV.cN,cc fN]) fun o h' ho=>?_;obtain ⟨v,x,rfl,hx,hf⟩:=ct.1 ho;exact ⟨v,_,rfl,hf,hK x hx⟩
theorem Jy(jE:dV rs []=some m)(uT:cV s=true):(F8 rs).all (Bh s)=true↔¬ ∃ p ∈ cB rs,p.1 ∉ bF rs/\s.aE.l.find? (gm p.1 p.2)=none:=by
 rw [List.all_eq_true];constructor
 ·rintro h ⟨p,hp,hd,hf⟩;have hin:(p.1,Rp (cB rs) p.1) ∈ F8 rs:=mem_map.2 ⟨p.1,DJ.2 ⟨p,hp,rfl,fun rQ=>hd ((fO rs).1 rQ)⟩,rfl⟩;have h1:=h _ hin;rw [Hr jE (show (p.1,p.2) ∈ cB rs from hp),Jh uT,hf] at h1;cases h1
 ·intro h y hy;obtain ⟨x,hx,rfl⟩:=mem_map.1 hy;obtain ⟨p,hp,rfl,hd⟩:=DJ.1 hx;rw [Hr jE (show (p.1,p.2) ∈ cB rs from hp),Jh uT]
  cases hf:s.aE.l.find? (gm p.1 p.2) with
  |some _=>rfl
  |none=>exact absurd ⟨p,hp,fun rQ=>hd ((fO rs).2 rQ),hf⟩ h
theorem jS:∀ {a b c:List Int},dm a b=true->dm b c=true->dm a c=true
 |x :: a,y :: b,z :: c,h1,h2=>by
  rw [dm] at h1 h2 ⊢;by_cases e1:x=y
  ·rw [if_pos e1] at h1;subst e1;by_cases e2:x=z
   ·rw [if_pos e2] at h2 ⊢;exact jS h1 h2
   ·rw [if_neg e2] at h2 ⊢;exact h2
  ·rw [if_neg e1] at h1;have q1:=of_decide_eq_true h1;by_cases e2:y=z
   ·subst e2;rw [if_neg e1];exact h1
   ·rw [if_neg e2] at h2;have q2:=of_decide_eq_true h2;rw [if_neg (by omega)];exact fy (by omega)
 |[],_,_,h1,_=>by simp [dm] at h1
 |_ :: _,[],_,h1,_=>by simp [dm] at h1
 |_ :: _,_ :: _,[],_,h2=>by simp [dm] at h2
def iF(l:List (List Int)):Prop:=l.Pairwise fun a b=>dm a b=true
def TZ(n k:Nat)(l:List (List Int)):Prop:=(∀ t ∈ l,t.length=k/\jo n t=true)/\iF l
theorem DK:∀ {l:List (List Int)},(∀ i a b,l[i]?=some a->l[i+1]?=some b->dm a b=true)->iF l
 |[],_=>.nil
 |x :: l,h=>by
  have ih:iF l:=DK fun i a b ha hb=>h (i+1) a b (by simpa using ha) (by simpa using hb);refine pairwise_cons.2 ⟨fun y hy=>?_,ih⟩
  cases l with
  |nil=>cases hy
  |cons z l=>
   have hz:=h 0 x z rfl rfl;rcases mem_cons.1 hy with rfl|hy
   ·exact hz
   ·exact jS hz ((pairwise_cons.1 ih).1 y hy)
theorem DL{l:List (List Int)}(hs:iF l){a b:List Int}(ha:l[i]?=some a)(hb:l[i+1]?=some b):dm a b=true:=by
 obtain ⟨h1,rfl⟩:=kg.1 ha;obtain ⟨h2,rfl⟩:=kg.1 hb;exact pairwise_iff_getElem.1 hs i (i+1) h1 h2 (lt_succ_self i)
theorem Jz{l:List (Sl Int)}:yq n k l=true↔TZ n k (l.map Sl.l):=by
 constructor
 ·intro h;refine ⟨fun t ht=>?_,DK fun i a b ha hb=>?_⟩
  ·obtain ⟨u,hu,rfl⟩:=mem_map.1 ht;obtain ⟨i,hi⟩:=getElem?_of_mem hu;exact Qm h hi
  ·rw [getElem?_map] at ha hb;obtain ⟨p,hp,rfl⟩:=map_eq_some_iff.1 ha;obtain ⟨t,ht,rfl⟩:=map_eq_some_iff.1 hb;have:=yy h (kg.1 ht).1;unfold lU at this;rw [ht] at this;simp only [hp,and_eq_true] at this;exact this.2.2
 ·rintro ⟨h1,h2⟩;refine nT fun i hi=>?_;have ht:l[i]?=some l[i]:=eA hi;generalize l[i]=t at ht;obtain ⟨q1,q2⟩:=h1 t.l (List.mem_map_of_mem (ig ht));unfold lU;rw [ht];simp only [q1,q2,decide_true,Bool.true_and]
  cases i with
  |zero=>rfl
  |succ j=>
   have hj:j<l.length:=by omega
   have hp:l[j]?=some l[j]:=eA hj;generalize l[j]=p at hp;simp only [hp];exact DL h2 (i:=j) (by rw [getElem?_map,hp];rfl) (by rw [getElem?_map,ht];rfl)
theorem T0{l:List (List Int)}(h:TZ n k l):l.length<=n ^ k:=by
 have key:∀ i a,l[i]?=some a->i<=nc n a:=by
  intro i
  induction i with
  |zero=>intro a _;exact zero_le _
  |succ i ih=>
   intro b hb;have hi:i<l.length:=by have:=(kg.1 hb).1;omega
   have ha:l[i]?=some l[i]:=eA hi;generalize l[i]=a at ha;have:=ih a ha;obtain ⟨a1,a2⟩:=h.1 a (ig ha);obtain ⟨b1,b2⟩:=h.1 b (ig hb);have:=FT (by omega) a2 b2 (DL h.2 ha hb);omega
 cases hl:l.length with
 |zero=>exact zero_le _
 |succ m=>
  have hm:l[m]?=some (l[m]'(by omega)):=eA _;have h1:=key m _ hm;obtain ⟨a1,a2⟩:=h.1 _ (ig hm);have h2:=wP a2;rw [a1] at h2;omega
def abU(n:Nat)(d:Nz):Prop:=ef d.1=true/\∃ k:Nat,d.2.1=(k:Int)/\k<=12/\n ^ k<=4096/\TZ n k d.2.2
theorem JA{r:Rel}:nj n r=true↔abU n (bX r):=by
 constructor
 ·intro h;obtain ⟨k,h1,h2,h3,h4⟩:=Hf h;simp only [nj,and_eq_true] at h;exact ⟨h.1,k,h1,h2,h3,Jz.1 h4⟩
 ·rintro ⟨h0,k,h1,h2,h3,h4⟩;have Ut:r.arity=(k:Int):=h1;have hk:r.arity.toNat=k:=by omega
  simp only [nj,and_eq_true,decide_eq_true_eq,hk];exact ⟨h0,by omega,by omega,h3,Jz.2 h4⟩
structure JB (size:Int) (ds:List Nz):Prop where
 lo:1<=size
 hi:size<=64
 mc:ds.length<=8
 rel:∀ d ∈ ds,abU size.toNat d
 names:(ds.map (·.1)).Nodup
theorem fX:cV s=true↔JB s.size (s.aE.l.map bX):=by
 constructor
 ·intro h;have h':=h;simp only [cV,and_eq_true,decide_eq_true_eq] at h';refine ⟨h'.1,h'.2.1,by simpa using h'.2.2.1,fun d hd=>?_,?_⟩
  ·obtain ⟨r,hr,rfl⟩:=mem_map.1 hd;obtain ⟨i,hi⟩:=getElem?_of_mem hr;exact JA.1 (Dx h hi)
  ·have:=rH h;rw [List.map_map];exact this
 ·rintro ⟨h1,h2,h3,h4,h5⟩;rw [length_map] at h3;simp only [cV,and_eq_true,decide_eq_true_eq];refine ⟨h1,h2,h3,nT fun i hi=>?_⟩;have hr:s.aE.l[i]?=some s.aE.l[i]:=eA hi;have vF:=hr;generalize s.aE.l[i]=r at hr;rw [oL,hr];simp only [and_eq_true,not_eq_true'];refine ⟨JA.2 (h4 _ (List.mem_map_of_mem (ig hr))),?_⟩;rw [eq_false_iff];intro afd;obtain ⟨q,hq,D6⟩:=List.any_eq_true.1 afd;obtain ⟨j,hj⟩:=getElem?_of_mem hq;have hji:j<i:=by have:=(kg.1 hj).1;rw [length_take] at this;omega
  rw [getElem?_take_of_lt hji] at hj;rw [List.map_map,List.Nodup,pairwise_iff_getElem] at h5;have MX:j<s.aE.l.length:=by omega
  have:=h5 j i (by simpa using MX) (by simpa using hi) hji;rw [getElem_map,getElem_map] at this;rw [eA MX] at hj;rw [eA hi] at hr;cases hj;cases hr;simp only [beq_iff_eq] at D6;exact this D6
theorem fC(h:cV s=true):s.small/\s.ok:=by
 have hp:=fX.1 h
 have len:∀ r ∈ s.aE.l,r.aM.l.length<=4096/\(∀ t ∈ r.aM.l,t.l.length<=12)/\r.name.length<=12:=fun r hr=>by
  obtain ⟨h0,k,h1,h2,h3,h4⟩:=hp.rel _ (List.mem_map_of_mem hr);have:=T0 h4;simp only [bX,length_map] at this;refine ⟨by omega,fun t ht=>?_,?_⟩
  ·have:=(h4.1 t.l (List.mem_map_of_mem ht)).1;omega
  ·replace h0:ef r.name=true:=h0;unfold ef at h0;split at h0
   ·cases h0
   ·simp only [and_eq_true,decide_eq_true_eq] at h0;exact h0.1
 have hl:s.aE.l.length<=8:=by have:=hp.mc;simpa using this
 exact ⟨⟨by omega,fun r hr=>by have:=(len r hr).1;omega,fun r hr t ht=>by have:=(len r hr).2.1 t ht;omega⟩,
  ⟨by unfold cM;omega,fun r hr=>⟨by have:=(len r hr).2.2;unfold cM;omega,by have:=(len r hr).1;unfold cM;omega,fun t ht=>by have:=(len r hr).2.1 t ht;unfold cM;omega⟩⟩⟩
def oT(rs:List aO)(U5:List b7):List Rel:=U5.map fun nm=>⟨nm,(pU rs nm:Int),none⟩
def k9(rs:List aO)(U5:List b7):List Nz:=U5.map fun nm=>(nm,(pU rs nm:Int),[])
theorem xb(rs:List aO)(U5:List b7):(oT rs U5).map bX=k9 rs U5:=by unfold oT k9;rw [List.map_map];rfl
theorem Oa(s:St):dw TP s Tryz.f70.results.toList=(match ag (some 2) (s.env 4) s.h,(some []:Option (List AV)) with|some v,some vs=>some (v :: vs)|_,_=>none):=by kernel_rfl
theorem T1(nm:b7)(k:Int):iy [.str [],.int .i64 0,.ax] [(0,1),(1,1)] [.str nm,.int .i64 k]=some (.agg (aQ ⟨nm,k,none⟩)):=rfl
set_option maxHeartbeats 1000000 in
theorem fV{rules:Sl aO}{s:cD}{m:eE}(sq:rules.l.length<=60)(uH:∀ r ∈ rules.l,r.body.l.length<=20)(jE:dV rules.l []=some m)(Ro:s.small){h:Heap}{K:Out->Heap->Bool}
  (hK:∀ a h' rs1,bA h h'->Own aQ 3 h.next h' a (rs1++oT rules.l (eF rules.l))->rs1.map bX=s.aE.l.map bX->K (.ret (.agg [.int .i64 s.size,a])) h'=true):Sem TP 70 [ak aP 3 rules,.agg (an s)] h K:=by
 have hm:cG=140737488355328:=rfl;have hdl:=oP rules.l;refine F.Ba ?_;rw [F.CV];simp only [cY (cp s),aq,Heap.aL];have g0:(Heap.alloc (Heap.alloc h (.cells (an s))) (.cells [.int .i64 0,.ax])).get h.next=some (.cells (an s)):=by rw [Heap.aU,Heap.aL,if_neg (by omega)];exact aB _ _
 have g1:(Heap.alloc (Heap.alloc h (.cells (an s))) (.cells [.int .i64 0,.ax])).get (h.next+1)=some (.cells [.int .i64 0,.ax]):=aB _ _;have gn:(Heap.alloc (Heap.alloc h (.cells (an s))) (.cells [.int .i64 0,.ax])).next=h.next+2:=rfl
 have gx:bA h (Heap.alloc (Heap.alloc h (.cells (an s))) (.cells [.int .i64 0,.ax])):=(bA.alloc _ _).trans (bA.alloc _ _);generalize (Heap.alloc (Heap.alloc h (.cells (an s))) (.cells [.int .i64 0,.ax]))=H1 at g0 g1 gn gx ⊢;have l0:ag (some 2) (.ptr h.next 0) H1=some (.agg (an s)):=by rw [aj g0,cE (cs:=an s) (n:=2) rfl]
 simp only [l0,aq];refine ah (gE Ro fun a h3 rs x3 o3 Jj=>?_);obtain ⟨BH,JT⟩:=mP o3;have Bi:bw [.int .i64 s.size,a]=true:=by simp only [bw,Bool.and_true] at BH ⊢;rw [BH];rfl
 obtain ⟨H4,Oy,p4,KX,Wt⟩:=cu (h:=h3) (zs:=[.int .i64 0,.ax]) (cs:=[.int .i64 s.size,a]) (n:=2) rfl rfl Bi;have x4:bA h3 H4:=⟨by omega,fun b hb=>KX b (by omega)⟩
 have n3:=x3.next
 rw [gn] at o3 n3;have x34:=(gx.trans x3).trans x4;simp only [aR,reduceAdd,reduceEqDiff,reduceIte,Oy];refine ah (dz sq fun d hd1=>?_);have aj5:d.l.length<=60:=by rw [hd1];omega
 have hdb:d.l.length<=cM:=by unfold cM;omega
 have hrl:=Ro.aE;have aj6:rs.length=s.aE.l.length:=by have:=congrArg List.length Jj;simpa using this
 simp only [aR,reduceAdd,reduceEqDiff,reduceIte]
 refine aD 0 d.l.length (zero_le _) (fun i e h'=>∃ a,h'.get h3.next=some (.cells [.int .i64 s.size,a])/\h'.get (h.next+1)=some (.cells [.int .i64 0,.ax])/\Own aQ 3 (h.next+2) h' a (rs++oT rules.l (d.l.take i))/\cz a≠some h3.next/\(∀ b,b<h.next->h'.get b=h.get b)/\h3.next<h'.next /\
  e 0=ak aP 3 rules/\e 4 = .ptr (h.next+1) 0/\e 5 = .ptr h3.next 0/\e 6=ak encS 1 d/\e 7 = .int .i64 (i:Int))
  ⟨a,p4,by rw [x4.get _ (by omega),x3.get _ (by omega)];exact g1,by simpa [oT] using o3.ext x4,fun hb=>by have:=o3.lt hb;omega,fun b hb=>x34.get b hb,by omega,rfl,rfl,rfl,rfl,rfl⟩ ?_ ?_
 ·rintro i e h' _ hi ⟨a,q3,q1,o,hne,hfr,oZ,e0,e4,e5,e6,e7⟩ K' hn hx hr hp;have hv:d.l[i]?=some d.l[i]:=eA hi;generalize d.l[i]=nm at hv;have xj:nm ∈ bF rules.l:=(fO _).1 (by rw [<- hd1];exact ig hv);have lo:ag none (.ptr h3.next 1) h'=some a:=by rw [aj q3];rfl
  have li:∀ hh,ag none (.dO (d.l.flatMap encS) (i*1)) hh=some (.str nm):=fun hh=>jq hv;obtain ⟨a5,h5,p5,o5,f5,n5,x5,b5⟩:=o.push dR fP (by omega) (bytes:=48) (by rw [hm,length_append];unfold oT;rw [length_map,length_take];omega) ⟨nm,(pU rules.l nm:Int),none⟩;have s3:h5.get h3.next=some (.cells [.int .i64 s.size,a]):=by rw [f5 _ (by omega) hne];exact q3
  have c5:=o5.kH
  have st:aY 1 (.ptr h3.next 1) a5 h5=some (h5.set h3.next (.cells [.int .i64 s.size,a5])):=by
   rw [cF (n:=1) s3 c5.2.1 c5.1 (by simp),c5.2.2];rfl
  rw [F.fV.aT];simp only [e0,e5,e6,e7,aR,reduceAdd,reduceEqDiff,reduceIte,bh hi,lo,aV d hi,li];refine ah (ee sq uH ?_);rw [Qz jE xj];simp only [aR,reduceAdd,reduceEqDiff,reduceIte,li,lo,AV.beq_refl,Bool.and_self,Bool.and_true,if_true,T1,Mw,p5,e5,e7,st,aI hi hdb];refine hn _ _ ⟨a5,by rw [Heap.aN,if_pos rfl],by rw [Heap.aN,if_neg (by omega),f5 _ (by omega) (fun hb=>by have:=o.ge hb;omega)];exact q1,?_,fun hb=>by have:=b5 _ hb;omega,fun b hb=>?_,by rw [Heap.bt];omega,e0,e4,e5,e6,rfl⟩
  ·have hl:rs++oT rules.l (d.l.take (i+1))=(rs++oT rules.l (d.l.take i))++[⟨nm,(pU rules.l nm:Int),none⟩]:=by
    rw [take_add_one,hv];unfold oT;rw [map_append,<- append_assoc];rfl
   rw [hl];exact o5.agree (fun b hb=>by rw [Heap.aN,if_neg (by have:=b5 _ hb;omega)]) (by rw [Heap.bt];exact dM _)
  ·rw [Heap.aN,if_neg (by omega),f5 b (by omega) (fun eW=>by have:=o.ge eW;omega)];exact hfr b hb
 ·rintro e h' ⟨a,q3,q1,o,hne,hfr,oZ,e0,e4,e5,e6,e7⟩ K' hx;rw [kf (dM _),hd1] at o;obtain ⟨BH,JT⟩:=mP o;have WH:bw [.int .i64 s.size,a]=true:=by simp only [bw,Bool.and_true] at BH ⊢;rw [BH];rfl
  have lo:ag (some 2) (.ptr h3.next 0) h'=some (.agg [.int .i64 s.size,a]):=by rw [aj q3];rfl
  have st:aY 2 (.ptr (h.next+1) 0) (.agg [.int .i64 s.size,a]) h'=some (h'.set (h.next+1) (.cells [.int .i64 s.size,a])):=by
   rw [cF (n:=2) (v:=.agg [.int .i64 s.size,a]) q1 rfl WH (by simp)];rfl
  have Qk:ag (some 2) (.ptr (h.next+1) 0) (h'.set (h.next+1) (.cells [.int .i64 s.size,a]))=some (.agg [.int .i64 s.size,a]):=by rw [aj (cs:=[.int .i64 s.size,a]) (by rw [Heap.aN,if_pos rfl])];rfl
  rw [F.fV.aT];simp only [e6,e7,aR,reduceAdd,reduceEqDiff,reduceIte,aW];rw [hx,F.fV.aG];simp only [bK,reduceEqDiff,reduceIte,e4,e5,lo,st,aq,Oa,Qk,oneOf];exact hK a _ rs ⟨by rw [Heap.bt];omega,fun b hb=>by rw [Heap.aN,if_neg (by omega)];exact hfr b hb⟩ ((o.kE (by omega) _).C6 (by omega)) Jj
theorem EW{n:Int}{a:AV}{rs:List Rel}(o:Own aQ 3 k h a rs)(kV:(⟨n,some rs⟩:cD).ok)(hK:K (.ret (.bool (cV ⟨n,some rs⟩))) h=true):Sem TP 66 [.agg [.int .i64 n,a]] h K:=by
 obtain ⟨x,jG,gi⟩:=o.KF (fun v y hy=>by
  simp only [aQ,mem_cons,not_mem_nil,_root_.or_false] at hy;rcases hy with rfl|rfl|rfl
  ·exact .scalar _ rfl
  ·exact .scalar _ rfl
  ·exact .dP (cc mH _))
 have WI:(⟨n,x⟩:cD).ok:=by
  obtain ⟨q1,q2⟩:=kV;exact ⟨by show x.l.length<=cM;rw [jG];exact q1,fun r hr=>q2 r (by have:r ∈ x.l:=hr;rw [jG] at this;exact this)⟩
 have he:cV ⟨n,x⟩=cV ⟨n,some rs⟩:=by
  rw [Bool.eq_iff_iff,fX,fX];show JB n (x.l.map bX)↔JB n (rs.map bX);rw [jG]
 have hs:=cm (s:=⟨n,x⟩) WI (h:=Heap.empty) (K:=pO (.bool (cV ⟨n,x⟩))) (fY rfl);rw [<- he] at hK;have fl:=lF.cons (.scalar (.int .i64 n) rfl) (lF.cons gi lF.nil);exact Sem.aaT rfl hs (lF.cons (.agg _ _ fl.len fl.rel) .nil) hK
theorem AF{rs':List Rel}(hg:kN rs)(jE:dV rs []=some m)(uT:cV s=true)(h4:¬ ∃ r ∈ s.aE.l,r.name ∈ bF rs)(Jj:rs'.map bX=s.aE.l.map bX++k9 rs (eF rs)) :
  cV ⟨s.size,some rs'⟩=true↔¬ (8<s.aE.l.length+(eF rs).length\/∃ r ∈ rs,4096<s.size.toNat ^ r.args.l.length):=by
 have hsp:=fX.1 uT;have hlen:rs'.length=s.aE.l.length+(eF rs).length:=by have:=congrArg List.length Jj;simpa [k9] using this
 rw [fX];show JB s.size (rs'.map bX)↔_;rw [Jj];constructor
 ·rintro ⟨q1,q2,q3,q4,q5⟩ (hb|⟨r,hr,hb⟩)
  ·rw [length_append,length_map] at q3;unfold k9 at q3;rw [length_map] at q3;omega
  ·have hm:(r.name,(pU rs r.name:Int),([]:List (List Int))) ∈ s.aE.l.map bX++k9 rs (eF rs):=mem_append_right _ (mem_map.2 ⟨r.name,(fO rs).2 (List.mem_map_of_mem hr),rfl⟩);obtain ⟨_,k,h1,h2,h3,_⟩:=q4 _ hm;rw [Le jE hr] at h1;have:k=r.args.l.length:=by simp only at h1;omega
   rw [this] at h3;omega
 ·intro Dm;have hd8:s.aE.l.length+(eF rs).length<=8:=Nat.le_of_not_lt fun h=>Dm (.inl h);refine ⟨hsp.lo,hsp.hi,by rw [length_append,length_map];unfold k9;rw [length_map];exact hd8,fun d hd=>?_,?_⟩
  ·rcases mem_append.1 hd with hd|hd
   ·exact hsp.rel d hd
   ·obtain ⟨nm,xj,rfl⟩:=mem_map.1 hd;obtain ⟨_,r,hr,D5,TU⟩:=BK jE ((fO rs).1 xj);have He:=(je jE r hr).1;refine ⟨by rw [<- D5];exact wO He,pU rs nm,rfl,by rw [TU];exact nV He,?_,fun t ht=>(by cases ht),List.Pairwise.nil⟩;rw [TU];exact Nat.le_of_not_lt fun h=>Dm (.inr ⟨r,hr,h⟩)
  ·rw [map_append];have e2:(k9 rs (eF rs)).map (·.1)=eF rs:=by unfold k9;rw [List.map_map];simp [Function.comp_def]
   rw [e2];refine nodup_append.2 ⟨hsp.names,Ax (pH rs),fun x hx y hy e=>?_⟩;subst e;rw [List.map_map] at hx;obtain ⟨r,hr,D5⟩:=mem_map.1 hx;exact h4 ⟨r,hr,by have:=(fO rs).1 hy;rw [<- D5] at this;exact this⟩
set_option maxHeartbeats 2000000 in
theorem bH{rules:Sl aO}{s:cD}(kV:∀ r ∈ rules.l,r.ok)(jz:∀ r ∈ rules.l,r.mc)(mI:s.ok){h:Heap}{K:Out->Heap->Bool}
  (Li:∀ e,DI rules.l s e->K (.ret (.int .i64 e)) h=true) (zD:ez rules.l s->K (.ret (.int .i64 0)) h=true):Sem TP 23 [ak aP 3 rules,.agg (an s)] h K:=by
 have gen:∀ R:Out->Heap->Bool,(∀ e h',(DI rules.l s e\/(e=0/\ez rules.l s))->R (.ret (.int .i64 e)) h'=true)->Sem TP 23 [ak aP 3 rules,.agg (an s)] Heap.empty R:=by
  intro R fin;refine F.A8 ?_;rw [F.CT];simp only [cY (cp s),aq,bT];have g0:(Heap.empty.alloc (.cells (an s))).get 0=some (.cells (an s)):=aB _ _;have gn:(Heap.empty.alloc (.cells (an s))).next=1:=rfl
  generalize (Heap.empty.alloc (.cells (an s)))=H at g0 gn ⊢;have l0:ag (some 2) (.ptr 0 0) H=some (.agg (an s)):=by rw [aj g0,cE (cs:=an s) (n:=2) rfl]
  refine ah (bD kV jz fun b hb=>?_);simp only [aR,reduceAdd,reduceEqDiff,reduceIte]
  cases b with
  |false=>
   simp only [Bool.not_false,aK];exact fin 1 _ (.inl (.inl ⟨.inl fun hg=>(by have:=hb.2 hg;cases this),rfl⟩))
  |true=>
  have hg:=hb.1 rfl;simp only [Bool.not_true,aJ,l0,aq];refine ah (cm mI ?_);simp only [aR,reduceAdd,reduceEqDiff,reduceIte]
  cases uT:cV s with
  |false=>
   simp only [Bool.not_false,aK];exact fin 1 _ (.inl (.inl ⟨.inr uT,rfl⟩))
  |true=>
  obtain ⟨n,hn,n1,xh,h8⟩:=iW uT;have uO:s.size.toNat=n:=by omega
  obtain ⟨m,jE⟩:=hg.go;have zM:=je jE;have uH:∀ r ∈ rules.l,r.body.l.length<=20:=fun r hr=>(zM r hr).2.1;have sq:=hg.mc;have hdl:=oP rules.l;simp only [Bool.not_true,aJ];refine ah (dz sq fun d hd1=>?_);simp only [aR,reduceAdd,reduceEqDiff,reduceIte,l0];refine ah (cy sq uH fun sy MD=>?_)
  have Vt:sy.l.length<=1260:=by
   rw [MD];unfold F8;rw [length_map];have h1:=w8 (eF rules.l) (cB rules.l);have h2:=zP sq uH;omega
  simp only [aR,reduceAdd,reduceEqDiff,reduceIte,l0,AV.beq_refl,Bool.and_self,if_true];refine ah (eT mI (by unfold cM;omega) ?_);rw [MD];simp only [aR,reduceAdd,reduceEqDiff,reduceIte];have e4:JU rules.l s->DI rules.l s 4:=fun h=>.inr ⟨hg,uT,.inl ⟨h,rfl⟩⟩
  cases hfit:(F8 rules.l).all (Bh s) with
  |false=>
   simp only [Bool.not_false,aK];refine fin 4 _ (.inl (e4 (.inl ?_)));exact Decidable.not_not.1 fun h=>by rw [(Jy jE uT).2 h] at hfit;cases hfit
  |true=>
  have afe:=(Jy jE uT).1 hfit;have hdb:d.l.length<=cM:=by rw [hd1];unfold cM;omega
  have Qh:rules.l.length<=cM:=by unfold cM;omega
  simp only [Bool.not_true,aJ];refine aD 0 d.l.length (zero_le _) (fun i e h'=>h'.get 0=some (.cells (an s))/\1<=h'.next/\(∀ nm ∈ d.l.take i,∀ r ∈ s.aE.l,r.name≠nm)/\e 0=ak aP 3 rules/\e 3 = .ptr 0 0/\e 5=ak encS 1 d/\e 6 = .int .i64 (i:Int)) ⟨g0,by omega,fun nm xj=>(by cases xj),rfl,rfl,rfl,rfl⟩ ?_ ?_
  ·rintro i e h' _ hi ⟨q0,qn,Dm,e0,e3,e5,e6⟩ K' DZ hx hr hp;have hv:d.l[i]?=some d.l[i]:=eA hi;generalize d.l[i]=nm at hv;have WJ:ag (some 2) (.ptr 0 0) h'=some (.agg (an s)):=by rw [aj q0,cE (cs:=an s) (n:=2) rfl]
   rw [F.bH.aT];simp only [e3,e5,e6,aR,reduceAdd,reduceEqDiff,reduceIte,bh hi,WJ,aV d hi,jq hv];refine ah (eU mI ?_);simp only [aR,reduceAdd,reduceEqDiff,reduceIte];rcases lD (fQ nm) s.aE.l with ⟨f1,f2⟩|⟨j,r,f1,f2,f3⟩
   ·rw [f1];simp only [show decide ((0:Int)<=-1)=false from rfl,aJ,e6,aI hi hdb,aq];refine DZ _ _ ⟨q0,qn,fun x fW r vF e=>?_,e0,e3,e5,rfl⟩;rw [take_add_one,hv] at fW;rcases mem_append.1 fW with fW|fW
    ·exact Dm x fW r vF e
    ·simp only [toList_some,mem_singleton] at fW;rw [find?_eq_none] at f2;exact f2 r vF (by simp [fQ,e,fW])
   ·rw [f1];simp only [fy (by omega:(0:Int)<=(j:Int)),aK];rw [hr,F.bH.bC];simp only [bK,reduceEqDiff,reduceIte];have D5:=find?_some f3;simp only [fQ,beq_iff_eq] at D5;exact fin 4 _ (.inl (e4 (.inr ⟨r,ig f2,(fO _).1 (by rw [D5,<- hd1];exact ig hv)⟩)))
  ·rintro e h' ⟨q0,qn,Dm,e0,e3,e5,e6⟩ K' hx;rw [kf (dM _)] at Dm;have abV:¬ ∃ r ∈ s.aE.l,r.name ∈ bF rules.l:=fun ⟨r,hr,hh⟩=>Dm r.name (by rw [hd1];exact (fO _).2 hh) r hr rfl;have h4:¬ JU rules.l s:=fun h=>h.elim afe abV;have e5':MA rules.l s->DI rules.l s 5:=fun h=>.inr ⟨hg,uT,.inr ⟨h4,h,rfl⟩⟩;rw [F.bH.aT];simp only [e5,e6,aR,reduceAdd,reduceEqDiff,reduceIte,aW];rw [hx,F.bH.aG];refine aD 0 rules.l.length (zero_le _) (fun i e h2=>h2.get 0=some (.cells (an s))/\1<=h2.next/\(∀ r ∈ rules.l.take i,n ^ (varsOf r).length<=65536)/\e 0=ak aP 3 rules/\e 3 = .ptr 0 0/\e 7 = .int .i64 (i:Int)) ⟨q0,qn,fun r hr=>(by cases hr),e0,e3,rfl⟩ ?_ ?_
   ·rintro i e h2 _ hi ⟨q0,qn,hsz,e0,e3,e7⟩ K2 pV gi rN FD;have hv:rules.l[i]?=some rules.l[i]:=eA hi;generalize rules.l[i]=r at hv;have nR:=ig hv;have abE:=(zM r nR).2.2;have U2:(varsOf r).length<=cM:=by unfold cM;omega
    rw [F.bH.dh];simp only [e0,e7,aR,reduceAdd,reduceEqDiff,reduceIte,bh hi]
    refine k7 (fun k e h3=>∃ j,k=(varsOf r).length-j/\j<=(varsOf r).length/\n ^ (j-1)<=65536/\h3.get 0=some (.cells (an s))/\1<=h3.next/\e 0=ak aP 3 rules/\e 3 = .ptr 0 0/\e 7 = .int .i64 (i:Int)/\e 8 = .int .i64 ((n ^ j:Nat):Int)/\e 9 = .int .i64 (j:Int)) ((varsOf r).length)
     ⟨0,rfl,zero_le _,by simp,q0,qn,e0,e3,e7,rfl,rfl⟩ ?_
    rintro k e h3 ⟨j,hk,hj,Ri,q0,qn,e0,e3,e7,e8,e9⟩;have lz:ag none (.ptr 0 0) h3=some (.int .i64 (n:Int)):=by rw [aj q0,<- hn];rfl
    have hn8:n ^ j<=65536*64:=by
     cases j with
     |zero=>simp
     |succ j=>rw [Nat.pow_succ];simp only [Nat.add_sub_cancel] at Ri;exact Nat.mul_le_mul Ri xh
    have out:∀ (e':Env),e' 0=ak aP 3 rules->e' 3 = .ptr 0 0->e' 7 = .int .i64 (i:Int)->e' 8 = .int .i64 ((n ^ j:Nat):Int)->(65536<n ^ j\/j=(varsOf r).length)->F.bH.yN K2 (.exit 4) ⟨e',69,[],h3⟩=true:=by
     intro e' e0 e3 e7 e8 abW;rw [F.bH.iU];simp only [e8,aR,reduceAdd,reduceEqDiff,reduceIte];by_cases hbg:65536<n ^ j
     ·simp only [fy (by omega:(65536:Int)<((n ^ j:Nat):Int)),aK];rw [rN,F.bH.jC];simp only [bK,reduceEqDiff,reduceIte];exact fin 5 _ (.inl (e5' (.inr (.inr ⟨r,nR,by rw [uO];have:=wY n1 hj;omega⟩))))
     ·have hjv:=abW.resolve_left hbg;simp only [eR (by omega:¬ (65536:Int)<((n ^ j:Nat):Int)),aJ,e7,aI hi Qh,aq];refine pV _ _ ⟨q0,qn,fun q hq=>?_,e0,e3,rfl⟩;rw [take_add_one,hv] at hq;rcases mem_append.1 hq with hq|hq
      ·exact hsz q hq
      ·simp only [toList_some,mem_singleton] at hq;subst hq;rw [<- hjv];omega
    rw [F.bH.mg];simp only [e0,e7,aR,reduceAdd,reduceEqDiff,reduceIte,aV rules hi,dF gv hv];simp only [aP];refine ah (bN (jz r nR) fun x jG=>?_);simp only [aR,reduceAdd,reduceEqDiff,reduceIte,jG,e8,e9];by_cases MX:j<(varsOf r).length
    ·simp only [bh MX,aK,aR,reduceAdd,reduceEqDiff,reduceIte];by_cases hle:n ^ j<=65536
     ·have hm:((n ^ j:Nat):Int)*(n:Int)=((n ^ (j+1):Nat):Int):=(by rw [Nat.pow_succ,Int.natCast_mul]);have hmul:n ^ j*n<=65536*64:=Nat.mul_le_mul hle xh;have wh:n ^ (j+1)=n ^ j*n:=Nat.pow_succ n j;have hmm:aF .mul (.int .i64 ((n ^ j:Nat):Int)) (.int .i64 (n:Int))=some (.int .i64 ((n ^ (j+1):Nat):Int)):=by rw [uA (by rw [hm];omega) (by rw [hm];omega),hm]
      simp only [fy (by omega:((n ^ j:Nat):Int)<=65536),aK,e3,e8,e9,aR,reduceAdd,reduceEqDiff,reduceIte,lz,hmm,aI MX U2];exact ct.2 ⟨(varsOf r).length-(j+1),by omega,rfl,rfl,j+1,rfl,by omega,by simpa using hle,q0,qn,e0,e3,e7,rfl,rfl⟩
     ·simp only [eR (by omega:¬ ((n ^ j:Nat):Int)<=65536),aJ,oB];exact out _ e0 e3 e7 e8 (.inl (by omega))
    ·have hje:j=(varsOf r).length:=(by omega);simp only [eR (by omega:¬ (j:Int)<((varsOf r).length:Int)),aJ,oB];exact out _ e0 e3 e7 e8 (.inr hje)
   ·rintro e h2 ⟨q0,qn,hsz,e0,e3,e7⟩ K2 gi;rw [kf (dM _)] at hsz;have WJ:ag (some 2) (.ptr 0 0) h2=some (.agg (an s)):=by rw [aj q0,cE (cs:=an s) (n:=2) rfl]
    rw [F.bH.dh];simp only [e0,e7,aR,reduceAdd,reduceEqDiff,reduceIte,aW];rw [gi,F.bH.cx];simp only [aR,reduceAdd,reduceEqDiff,reduceIte,e0,e3,WJ];refine ah (fV sq uH jE (fC uT).1 fun a h4' rs1 x4 o4 aff=>?_);obtain ⟨rs',abX⟩:∃ rs',rs'=rs1++oT rules.l (eF rules.l):=⟨_,rfl⟩
    rw [<- abX] at o4;have Jj:rs'.map bX=s.aE.l.map bX++k9 rules.l (eF rules.l):=by rw [abX,map_append,xb,aff]
    simp only [aR,reduceAdd,reduceEqDiff,reduceIte]
    have VW:(⟨s.size,some rs'⟩:cD).ok:=by
     have hl:rs'.length=s.aE.l.length+(eF rules.l).length:=(by have:=congrArg List.length Jj;simpa [k9] using this);refine ⟨by show rs'.length<=cM;unfold cM;omega,fun r hr=>?_⟩;have hd:bX r ∈ s.aE.l.map bX++k9 rules.l (eF rules.l):=by rw [<- Jj];exact List.mem_map_of_mem hr
     have abY:=(fC uT).2;have aka:=(fC uT).1;rcases mem_append.1 hd with hd|hd
     ·obtain ⟨q,hq,Rq⟩:=mem_map.1 hd;unfold bX at Rq;simp only [Prod.mk.injEq] at Rq;have Qs:=abY.2 q hq;refine ⟨by rw [<- Rq.1];exact Qs.1,?_,fun t ht=>?_⟩
      ·have h1:=congrArg List.length Rq.2.2;simp only [length_map] at h1;rw [<- h1];exact Qs.2.1
      ·have h1:t.l ∈ q.aM.l.map Sl.l:=(by rw [Rq.2.2];exact List.mem_map_of_mem ht);obtain ⟨u,hu,Ww⟩:=mem_map.1 h1;rw [<- Ww];exact Qs.2.2 u hu
     ·obtain ⟨nm,xj,Rq⟩:=mem_map.1 hd;unfold bX at Rq;simp only [Prod.mk.injEq] at Rq;obtain ⟨_,q,hq,D6,_⟩:=BK jE ((fO _).1 xj);have ht0:r.aM.l = []:=by have:=Rq.2.2;simpa using this.symm
      refine ⟨by rw [<- Rq.1,<- D6];have:=IP (wO (zM q hq).1);unfold cM;omega,by rw [ht0];exact zero_le _,fun t ht=>by rw [ht0] at ht;cases ht⟩
    refine ah (EW o4 VW ?_);simp only [aR,reduceAdd,reduceEqDiff,reduceIte];have hev:=AF hg jE uT abV Jj
    cases hvd:cV ⟨s.size,some rs'⟩ with
    |false=>
     simp only [Bool.not_false,aK];refine fin 5 _ (.inl (e5' ?_));have:(8<s.aE.l.length+(eF rules.l).length\/∃ r ∈ rules.l,4096<s.size.toNat ^ r.args.l.length):=Decidable.not_not.1 fun h=>by rw [hev.2 h] at hvd;cases hvd
     rcases this with h|h
     ·exact .inl h
     ·exact .inr (.inl h)
    |true=>
     simp only [Bool.not_true,aJ];have abZ:=hev.1 hvd;refine fin 0 _ (.inr ⟨rfl,hg,uT,h4,?_⟩);rintro (h|h|⟨r,hr,h⟩)
     ·exact abZ (.inl h)
     ·exact abZ (.inr h)
     ·rw [uO] at h;have:=hsz r hr;omega
 have main:=gen (fun o h'=>yes (∃ e,o = .ret (.int .i64 e)/\(DI rules.l s e\/(e=0/\ez rules.l s)))) (fun e h' he=>ct.2 ⟨e,rfl,he⟩);refine main.frozen (by simp [AV.cN,AV.pure,cc fN,eu]) fun o h' ho=>?_;obtain ⟨e,rfl,he⟩:=ct.1 ho;refine ⟨_,_,rfl,.scalar _ rfl,?_⟩;rcases he with he|⟨rfl,he⟩
 ·exact Li e he
 ·exact zD he
section
variable {rs:List aO} {s:cD} {rs':List Rel} {n:Nat} {m:eE}
theorem WK(ho:ez rs s)(jE:dV rs []=some m)(Jj:rs'.map bX=s.aE.l.map bX++k9 rs (eF rs)):JB s.size (rs'.map bX):=by
 have h5:=ho.AE;have:=(AF ho.gC jE ho.valid (fun h=>ho.names (.inr h)) Jj).2 fun h=>h5 (h.elim .inl fun h=>.inr (.inl h));exact fX.1 this
end
theorem Own.U8{a:AV}{m:List vu}(o:Own gX 3 k h a m){q:vu}(hp:m[i]?=some q)(v:NL) :
  ∃ b cs,dG 3 a (.int .i64 (i:Int))=some (.ptr b (i*3))/\cz a=some b/\b<h.next/\ag none (.ptr b (i*3+2)) h=some q.2.2.1/\aY 1 (.ptr b (i*3+2)) v.1 h=some (h.set b (.cells cs))/\Own gX 3 k (h.set b (.cells cs)) a (m.set i (q.1,q.2.1,v)):=by
 have hg:=o.get lE hp
 cases o with
 |nil=>simp at hp
 |row b m h1 h2 h3=>
  have hmi:=(kg.1 hp).1
  have sH:((m.flatMap gX).set (i*3+2) v.1)=(m.set i (q.1,q.2.1,v)).flatMap gX:=by
   clear h3 hg
   have:∀ (m:List vu) (i:Nat) (q:vu),m[i]?=some q->(m.flatMap gX).set (i*3+2) v.1=(m.set i (q.1,q.2.1,v)).flatMap gX:=by
    intro m
    induction m with
    |nil=>intro i q hq;simp at hq
    |cons x m ih=>
     intro i q hq
     cases i with
     |zero=>
      simp at hq;subst hq;rw [set_cons_zero,flatMap_cons,flatMap_cons,set_append_left _ _ (by simp [gX])];rfl
     |succ i=>
      rw [getElem?_cons_succ] at hq;rw [set_cons_succ,flatMap_cons,flatMap_cons,set_append_right _ _ (by rw [lE];omega)];have:(i+1)*3+2-(gX x).length=i*3+2:=by rw [lE];omega
      rw [this,ih i q hq]
   exact this m i q hp
  have hlen:(m.flatMap gX).length=m.length*3:=fH lE m;obtain ⟨b',_,_,i3,_,i5⟩:=hg;have hia:∀ q:IntKind,dG 3 (.slice b 0 m.length 3) (.int q (i:Int))=some (.ptr b (i*3)):=fun q=>by simp [dG,asNat,hmi]
  obtain rfl:b'=b:=by have:=i3 .i64;rw [hia .i64] at this;cases this;rfl
  have ho:=v.2;refine ⟨b',(m.flatMap gX).set (i*3+2) v.1,hia .i64,rfl,h2,by rw [i5 2 (by omega)];rfl,?_,?_⟩
  ·rw [cF (n:=1) h3 (by rw [ho.2];rfl) (by rw [ho.2];exact ho.1) (by rw [hlen];omega),ho.2];rfl
  ·rw [sH];have:m.length=(m.set i (q.1,q.2.1,v)).length:=by rw [length_set]
   rw [this];exact .row b' _ h1 (by rw [Heap.bt];exact h2) (by rw [Heap.aN,if_pos rfl])
end
end Go.AM