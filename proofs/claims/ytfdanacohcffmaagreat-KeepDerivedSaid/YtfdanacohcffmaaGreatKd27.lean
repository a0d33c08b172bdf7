/- Parts of the proof. Conditions: none. -/
import Derived.Test.YtfdanacohcffmaaGreatKd18
import Derived.Test.YtfdanacohcffmaaGreatKd19
import Derived.Test.YtfdanacohcffmaaGreatKd20
import Derived.Test.YtfdanacohcffmaaGreatKd21
import Derived.Test.YtfdanacohcffmaaGreatKd26
set_option linter.unusedSimpArgs false
set_option linter.unusedVariables false
namespace Go.AM
open List Nat Bool Option
open Go Go.Proofs
noncomputable section
variable {rs:List aN} {K:Out->Heap->Bool} {s:di} {r:aN} {h h0:Heap} {m:eP} {n k i B M S NN SB P:Nat} {ks:List b8} {rules:Sl aN} {cs:Sl (Sl Int)} {D D0:DB} {c:eV} {nm x:b8} {lv:eA.Lv} {hd ls:Sl Int} {e0:Env}
theorem dB.kM{lo c:Nat}(b:dB D h B lo)(hc:c<lo)(II:c≠B)(x:j9):dB D (h.set c x) B lo:=by
 obtain ⟨es,ck,m,e1,e2,e3⟩:=b.ex;refine ⟨⟨es,ck,m,by rw [Heap.aP,if_neg (Ne.symm II)];exact e1,e2,e3⟩,fun nm p hp=>?_,b.inj,by rw [Heap.bp];exact b.lt⟩;obtain ⟨k1,k2,k3,k4⟩:=b.Df nm p hp;exact ⟨k1,by rw [Heap.bp];exact k2,k3,by rw [Heap.aP,if_neg (by omega)];exact k4⟩
theorem GQ:∀ (l:List (b8×Int)) (m m':eP),ve l m=some m'->∀ x k,m'.find x=some k↔((x,k) ∈ l\/m.find x=some k)
 |[],m,m',h,x,k=>by cases h;simp
 |p :: l,m,m',h,x,k=>by
  have fu:=vL m p.1 x p.2
  have hs:SV m p=some (m.r9 p.1 p.2)/\∀ j,m.find p.1=some j->j=p.2:=by
   rw [ve] at h;unfold SV at h ⊢
   cases hf:m.find p.1 with
   |none=>simp
   |some j=>
    rw [hf] at h;by_cases e:j=p.2
    ·simp [e]
    ·simp [e] at h
  rw [ve,hs.1] at h;rw [GQ l _ m' h x k,fu];by_cases e:x=p.1
  ·rw [if_pos e,mem_cons];subst e;constructor
   ·rintro (h1|h1)
    ·exact .inl (.inr h1)
    ·cases h1;exact .inl (.inl rfl)
   ·rintro ((h1|h1)|h1)
    ·exact .inr (by rw [<- h1])
    ·exact .inl h1
    ·exact .inr (by rw [hs.2 k h1])
  ·rw [if_neg e,mem_cons];constructor
   ·rintro (h1|h1)
    ·exact .inl (.inr h1)
    ·exact .inr h1
   ·rintro ((h1|h1)|h1)
    ·exact absurd (congrArg Prod.fst h1) e
    ·exact .inl h1
    ·exact .inr h1
theorem kD(h:dR rs []=some m)(x:b8)(k:Int):m.find x=some k↔(x,k) ∈ cD rs:=by
 rw [sN] at h;split at h
 ·rw [GQ _ _ _ h];simp [eP.find]
 ·cases h
theorem kE(hr:r ∈ rs):(r.name,(r.args.l.length:Int)) ∈ cD rs:=mem_flatMap.2 ⟨r,hr,mem_cons_self⟩
theorem oU{xs:List b8}(h:mV nm xs=true):xs.length<=12:=by
 unfold mV at h;simp only [and_eq_true,decide_eq_true_eq] at h;omega
theorem yl(n1:1<=n){j:Nat}(h:i<=j):n ^ i<=n ^ j:=Nat.pow_le_pow_right n1 h
set_option maxHeartbeats 1000000 in
theorem FJ(hn:s.size=(n:Int))(n1:1<=n)(sI:n<=64)(iV:∀ r ∈ rules.l,r.lJ)(tP:rules.l.length<=60)(H7:∀ r ∈ rules.l,(varsOf r).length<=12)
  (X2:h.get SB=some (.cells (aq s))) (R2:SB<h.next) (q3:e0 3 = .ptr SB 0) (q7:e0 7 = .ptr P 0) (q17:e0 17 = .ptr S 0) (afS:e0 134=ak aO 3 rules) (afT:e0 135 = .int .i64 (rules.l.length:Int)) (afU:e0 136 = .int .i64 0)
  (err:(∃ r ∈ rules.l,65536<n ^ (varsOf r).length)->∀ h',bu h h'->K (.ret (.tuple [.eH,.eH,.int .i64 5])) h'=true)
  (done:(∀ r ∈ rules.l,n ^ (varsOf r).length<=65536)->∀ (e:Env) h',bu h h'->e 3 = .ptr SB 0->e 7 = .ptr P 0->e 17 = .ptr S 0->F.az.ZM K (.exit 6) ⟨e,198,[],h'⟩=true) :
  bV (EV F.az.L3) ⟨e0,198,[],h⟩ (F.az.ZM K)=true:=by
 have hbig:rules.l.length<=cE:=by unfold cE;omega
 refine aD 0 rules.l.length (zero_le _) (fun i e h'=>bu h h'/\(∀ r ∈ rules.l.take i,n ^ (varsOf r).length<=65536)/\e 3 = .ptr SB 0/\e 7 = .ptr P 0/\e 17 = .ptr S 0/\e 134=ak aO 3 rules/\e 135 = .int .i64 (rules.l.length:Int)/\e 136 = .int .i64 (i:Int))
  ⟨bu.refl _,fun r hr=>(by cases hr),q3,q7,q17,afS,afT,afU⟩ ?_ ?_
 ·rintro i e h' _ hi ⟨hx,l9,e3,e7,uW,Ms,Kq,Kr⟩ K' yF gi hr hp;have hv:rules.l[i]?=some rules.l[i]:=ez hi;generalize rules.l[i]=r at hv;have nV:=iz hv;have acR:=H7 r nV;obtain ⟨H,DX,g1,go,gn⟩:=cx (h:=h') (zs:=[.str [],.ax,.ax]) (cs:=aO r) (n:=3) rfl rfl (jG r);have xH:bu h H:=hx.trans ⟨by omega,fun b hb=>go b (by omega)⟩;have X4:H.get SB=some (.cells (aq s)):=by rw [xH.get _ R2];exact X2
  have lz:ag none (.ptr SB 0) H=some (.int .i64 (n:Int)):=by rw [aj X4,<- hn];rfl
  rw [F.az.Wj];simp only [Ms,Kq,Kr,aR,reduceAdd,reduceEqDiff,reduceIte,aZ hi,aV rules hi,dO gu hv,DX];simp only [aj g1,aO,sG,an];refine ai (dx (iV r nV) fun x jO=>?_);simp only [aR,reduceAdd,reduceEqDiff,reduceIte];rw [jO];have Wx:(varsOf r).length<=cE:=by unfold cE;omega
  refine aD 0 (varsOf r).length (zero_le _) (fun j e h2=>h2=H/\n ^ j<=65536/\e 3 = .ptr SB 0/\e 7 = .ptr P 0/\e 17 = .ptr S 0/\e 134=ak aO 3 rules/\e 135 = .int .i64 (rules.l.length:Int)/\e 136 = .int .i64 (i:Int)/\e 23 = .int .i64 ((n ^ j:Nat):Int)/\e 142 = .int .i64 ((varsOf r).length:Int)/\e 143 = .int .i64 (j:Int))
   ⟨rfl,by simp,e3,e7,uW,Ms,Kq,Kr,rfl,rfl,rfl⟩ ?_ ?_
  ·rintro j e h2 _ hj ⟨rfl,KV,e3,e7,uW,Ms,Kq,Kr,Wy,Vi,Vj⟩ K2 qR fo qL DY;have tu:n ^ (j+1)=n ^ j*n:=Nat.pow_succ n j;have hmul:n ^ j*n<=65536*64:=Nat.mul_le_mul KV sI;have hm:((n ^ j:Nat):Int)*(n:Int)=((n ^ (j+1):Nat):Int):=by rw [tu,Int.natCast_mul]
   have hmm:aG .mul (.int .i64 ((n ^ j:Nat):Int)) (.int .i64 (n:Int))=some (.int .i64 ((n ^ (j+1):Nat):Int)):=by rw [vB (by rw [hm];omega) (by rw [hm];omega),hm]
   rw [F.az.Wk];simp only [e3,Wy,Vi,Vj,aR,reduceAdd,reduceEqDiff,reduceIte,aZ hj,lz,hmm];by_cases hbg:65536<n ^ (j+1)
   ·simp only [fh (by omega:(65536:Int)<((n ^ (j+1):Nat):Int)),aL];rw [qL,F.az.Tz,hr,F.az.Ty];simp only [bL,reduceEqDiff,reduceIte];exact err ⟨r,nV,by have:=yl n1 (show j+1<=(varsOf r).length by omega);omega⟩ _ xH
   ·simp only [eT (by omega:¬ (65536:Int)<((n ^ (j+1):Nat):Int)),aK,Vj,aI hj Wx,an];exact qR _ _ ⟨rfl,by omega,e3,e7,uW,Ms,Kq,Kr,rfl,Vi,rfl⟩
  ·rintro e h2 ⟨rfl,KV,e3,e7,uW,Ms,Kq,Kr,Wy,Vi,Vj⟩ K2 fo;rw [F.az.Wk];simp only [Vi,Vj,aR,reduceAdd,reduceEqDiff,reduceIte,aS];rw [fo,F.az.QV];simp only [aR,reduceAdd,reduceEqDiff,reduceIte,Kr,aI hi hbig];refine yF _ _ ⟨xH,fun q hq=>?_,e3,e7,uW,Ms,Kq,rfl⟩;rw [take_add_one,hv] at hq;rcases mem_append.1 hq with hq|hq
   ·exact l9 q hq
   ·simp only [toList_some,mem_singleton] at hq;subst hq;exact KV
 ·rintro e h' ⟨hx,l9,e3,e7,uW,Ms,Kq,Kr⟩ K' gi;rw [jD (dK _)] at l9;rw [F.az.Wj];simp only [Kq,Kr,aR,reduceAdd,reduceEqDiff,reduceIte,aS];rw [gi];exact done l9 _ h' hx e3 e7 uW
set_option maxHeartbeats 1000000 in
theorem FK{A IT:Nat}{esA:List Entry}{ckA:Nat}{hR:AV}(hn:s.size=(n:Int))(n1:1<=n)(sI:n<=64)(H7:∀ r ∈ rules.l,r.args.l.length<=12)(iE:dR rules.l []=some m)
  (hS:h.get S=some (.cells [.int .i64 (n:Int),.map B])) (X2:h.get SB=some (.cells (aq s))) (hP:h.get P=some (.cells [hR,.map A,.map M])) (hA:h.get A=some (.map esA ckA)) (hmA:Mo esA ckA m) (hl:fK (bA rules.l) h M ks lv)
  (hB:dB (fun _=>none) h B (IT+1)) (hIT:∀ es ck,h.get M=some (.map es ck)->h.get IT=some (.gh (some M) ck [] ck)) (akN:h.next=IT+1) (o1:S<IT) (o2:SB<IT) (o3:P<IT) (o4:A<IT) (o5:M<IT) (o6:B<IT) (b1:S≠B) (b2:SB≠B) (b3:P≠B) (b4:A≠B) (b5:M≠B)
  (q0:e0 0=ak aO 3 rules) (q3:e0 3 = .ptr SB 0) (q7:e0 7 = .ptr P 0) (q17:e0 17 = .ptr S 0) (afX:e0 108 = .ptr IT 0)
  (err:(∃ r ∈ rules.l,4096<n ^ r.args.l.length)->∀ h',(∀ c,c<IT->c≠B->h'.get c=h.get c)->K (.ret (.tuple [.eH,.eH,.int .i64 5])) h'=true)
  (done:∀ (e:Env) h' D,(∀ r ∈ rules.l,n ^ r.args.l.length<=4096)->dB D h' B (IT+1)->(∀ r ∈ rules.l,∃ b,D r.name=some (b,replicate (n ^ r.args.l.length) false))->(∀ nm p,D nm=some p->nm ∈ bA rules.l)->(∀ c,c<IT->c≠B->h'.get c=h.get c)->IT<h'.next ->
   e 0=ak aO 3 rules->e 3 = .ptr SB 0->e 7 = .ptr P 0->e 17 = .ptr S 0->F.az.sY K (.exit 4) ⟨e,198,[],h'⟩=true) :
  bV (EV F.az.L2) ⟨e0,198,[],h⟩ (F.az.sY K)=true:=by
 obtain ⟨es,ck,ml,z1,z2,z3,z4,z5⟩:=hl.ex;have w0:=hIT es ck z1;have R5:∀ r ∈ rules.l,m.find r.name=some (r.args.l.length:Int):=fun r hr=>(kD iE _ _).2 (kE hr)
 refine Au es (fun seen e hh=>∃ D,dB D hh B (IT+1)/\(∀ en ∈ es,en.2.2 ∈ seen->∀ r ∈ rules.l,en.1 = .str r.name->n ^ r.args.l.length<=4096/\∃ b,D r.name=some (b,replicate (n ^ r.args.l.length) false))/\(∀ nm p,D nm=some p->nm ∈ bA rules.l) /\
   hh.get IT=some (.gh (some M) ck seen ck)/\(∀ c,c<IT->c≠B->hh.get c=h.get c)/\IT<hh.next/\e 0=ak aO 3 rules/\e 3 = .ptr SB 0/\e 7 = .ptr P 0/\e 17 = .ptr S 0/\e 108 = .ptr IT 0)
  ⟨_,hB,fun en _ rY=>(by cases rY),fun nm p hp=>(by cases hp),w0,fun _ _ _=>rfl,by omega,q0,q3,q7,q17,afX⟩ ?_
 rintro seen e hh ⟨D,hD,GR,Wz,w3,wf,wn,e0',e3,e7,uW,X9⟩ K' RF hex UW acC;have hM:hh.get M=some (.map es ck):=by rw [wf M o5 b5];exact z1
 rw [F.az.jf];simp only [X9];refine Eh w3 hM z3 (by omega) (fun mA=>?_) (fun en rY UX CV=>?_)
 ·simp only [HD,aR,reduceAdd,reduceEqDiff,reduceIte];rw [hex]
  have hev:∀ r ∈ rules.l,∃ en ∈ es,en.1 = .str r.name:=fun r hr=>by
   have h1:ml.find r.name=some (lv r.name:Int):=by rw [z5,if_pos (show r.name ∈ bA rules.l from List.mem_map_of_mem hr)]
   obtain ⟨en,rY,h2,_⟩:=z2.UU _ (rE h1);exact ⟨en,rY,h2⟩
  refine done _ hh D (fun r hr=>?_) hD (fun r hr=>?_) Wz wf wn e0' e3 e7 uW
  ·obtain ⟨en,rY,h2⟩:=hev r hr;exact (GR en rY (mA en rY) r hr h2).1
  ·obtain ⟨en,rY,h2⟩:=hev r hr;exact (GR en rY (mA en rY) r hr h2).2
 obtain ⟨p,GB,NF,qj⟩:=z2.mem en rY;have hph:p.1 ∈ bA rules.l:=(hl.mem p.1).1 (by rw [<- z4];exact List.mem_map_of_mem GB);obtain ⟨r,nV,rG⟩:=mem_map.1 hph;have vf:∀ c,c<IT->c≠B->(hh.set IT (.gh (some M) ck (seen++[en.2.2]) ck)).get c=h.get c:=fun c hc II=>by rw [Heap.aP,if_neg (by omega)];exact wf c hc II
 have v3:(hh.set IT (.gh (some M) ck (seen++[en.2.2]) ck)).get IT=some (.gh (some M) ck (seen++[en.2.2]) ck):=by rw [Heap.aP,if_pos rfl]
 have vn:(hh.set IT (.gh (some M) ck (seen++[en.2.2]) ck)).next=hh.next:=Heap.bp _ _ _
 have vD:=hD.kM (c:=IT) (by omega) (by omega) (.gh (some M) ck (seen++[en.2.2]) ck);simp only [HD,oL,vC,an,cF,aL,CV,e3,e7,uW,X9];clear CV;generalize (hh.set IT (.gh (some M) ck (seen++[en.2.2]) ck))=H at vf v3 vn vD ⊢;have X4:H.get SB=some (.cells (aq s)):=by rw [vf _ o2 b2];exact X2
 have pS:H.get S=some (.cells [.int .i64 (n:Int),.map B]):=by rw [vf _ o1 b1];exact hS
 have pP:H.get P=some (.cells [hR,.map A,.map M]):=by rw [vf _ o3 b3];exact hP
 have pA:H.get A=some (.map esA ckA):=by rw [vf _ o4 b4];exact hA
 have lz:ag none (.ptr SB 0) H=some (.int .i64 (n:Int)):=by rw [aj X4,<- hn];rfl
 have Mq:dW .string (.int .i64 0) false (.map A) (.str r.name) H=some (.int .i64 (r.args.l.length:Int)):=by rw [uK pA hmA.1,R5 r nV];rfl
 have Ii:=H7 r nV;simp only [aR,reduceAdd,reduceEqDiff,reduceIte,NF,<- rG,lz,cp,aj pP,Mq];refine ai (qz n1 sI (by unfold cE;omega) ?_);unfold OY;rw [if_neg (by omega)];by_cases FG:4096<n ^ r.args.l.length
 ·rw [if_pos FG];simp only [aR,reduceAdd,reduceEqDiff,reduceIte,cI];simp only [show (!decide ((5:Int)=0))=true from rfl,aL];rw [UW,F.az.y8];simp only [bL,reduceEqDiff,reduceIte];exact err ⟨r,nV,FG⟩ _ vf
 ·rw [if_neg FG];obtain ⟨h2,hu,hD2,SG,Rb⟩:=vD.add (by omega) (n ^ r.args.l.length) r.name;simp only [aR,reduceAdd,reduceEqDiff,reduceIte,cI];simp only [show (!decide ((0:Int)=0))=false from rfl,aK,cp,aR,reduceAdd,reduceEqDiff,reduceIte,aj pS,Ie (show n ^ r.args.l.length<=1000000 by omega),hu];refine RF en rY UX _ _ ⟨kz D r.name H.next _,hD2,fun Wt Ka Pc q hq rQ=>?_,fun nm p' zP=>?_,by rw [SG _ (by omega) (by omega)];exact v3,fun c hc II=>by rw [SG c (by omega) II];exact vf c hc II,by omega,e0',e3,e7,uW,X9⟩
  ·by_cases e:q.name=r.name
   ·have h1:=R5 q hq;rw [e,R5 r nV] at h1;have h2:r.args.l.length=q.args.l.length:=by have:=Option.some.inj h1;omega
    exact ⟨by rw [<- h2];omega,H.next,by rw [e,kC,h2]⟩
   ·rcases mem_append.1 Pc with Pc|Pc
    ·obtain ⟨a1,b,a2⟩:=GR Wt Ka Pc q hq rQ;exact ⟨a1,b,by rw [v8 e];exact a2⟩
    ·rw [mem_singleton] at Pc
     have hee:Wt=en:=by
      have hb:=z3.nodup;obtain ⟨i,hi⟩:=mem_iff_getElem?.1 rY;obtain ⟨j,hj⟩:=mem_iff_getElem?.1 Ka;have wo:(es.map (·.2.2))[i]?=some en.2.2:=by rw [getElem?_map,hi];rfl
      have Hw:(es.map (·.2.2))[j]?=some en.2.2:=by rw [getElem?_map,hj,<- Pc];rfl
      have hij:=nq hb wo Hw;subst hij;rw [hi] at hj;exact (Option.some.inj hj).symm
     rw [hee,NF] at rQ;injection rQ with h3;exact absurd (h3.symm.trans rG.symm) e
  ·by_cases e:nm=r.name
   ·rw [e];exact List.mem_map_of_mem nV
   ·rw [v8 e] at zP;exact Wz nm p' zP
def KX(rs:List aN)(s:di):Prop:=(∃ p ∈ cD rs,p.1 ∉ bA rs/\s.aC.l.find? (gY p.1 p.2)=none)\/∃ r ∈ s.aC.l,r.name ∈ bA rs
def NR(rs:List aN)(s:di):Prop:=8<s.aC.l.length+(dS rs).length\/(∃ r ∈ rs,4096<s.size.toNat ^ r.args.l.length)\/∃ r ∈ rs,65536<s.size.toNat ^ (varsOf r).length
structure AE (n:Nat) (rs:List aN) (s:di) (D:DB):Prop where
 rel:∀ r ∈ s.aC.l,∃ b,D r.name=some (b,bitsOf n r.arity.toNat r.aM.l)
 head:∀ r ∈ rs,∃ b,D r.name=some (b,replicate (n ^ r.args.l.length) false)
 only:∀ nm p,D nm=some p->nm ∈ bA rs\/∃ r ∈ s.aC.l,r.name=nm
structure Mt (n P A M S B lo:Nat) (rules:Sl aN) (ks:List b8) (lv:eA.Lv) (D0:DB) (m:eP) (h:Heap):Prop where
 hP:h.get P=some (.cells [ak aO 3 rules,.map A,.map M])
 hl:fK (bA rules.l) h M ks lv
 Cs:ks.Nodup
 iE:dR rules.l []=some m
 hA:∃ es ck,h.get A=some (.map es ck)/\Mo es ck m
 hS:h.get S=some (.cells [.int .i64 (n:Int),.map B])
 hD:dB D0 h B lo
 ord:A<M/\M<P/\P<B/\B<S/\S<lo/\lo<=h.next
theorem NS(hl:fK (bA rs) h M ks lv)(Cs:ks.Nodup):ks.length=(dS rs).length:=by
 have h1:(dS rs).Nodup:=by
  have:=qy rs;unfold sZ at this;refine this.imp fun {a b} h e=>?_;rw [e,oO] at h;cases h
 have h2:=eA.qY Cs (m:=dS rs) fun x hx=>(eF rs).2 ((hl.mem x).1 hx);have h3:=eA.qY h1 (m:=ks) fun x hx=>(hl.mem x).2 ((eF rs).1 hx);omega
set_option maxHeartbeats 2000000 in
theorem az{rules:Sl aN}{s:di}(l9:∀ r ∈ rules.l,r.ok)(iV:∀ r ∈ rules.l,r.lJ)(k9:s.ok){h:Heap}{K:Out->Heap->Bool}
  (h1:(¬ k8 rules.l\/cY s=false)->∀ h',(∀ b,b<h.next->h'.get b=h.get b)->K (.ret (.tuple [.eH,.eH,.int .i64 1])) h'=true)
  (h4:k8 rules.l->cY s=true->KX rules.l s->∀ h',(∀ b,b<h.next->h'.get b=h.get b)->K (.ret (.tuple [.eH,.eH,.int .i64 4])) h'=true)
  (h5:k8 rules.l->cY s=true->¬ KX rules.l s->NR rules.l s->∀ h',(∀ b,b<h.next->h'.get b=h.get b)->K (.ret (.tuple [.eH,.eH,.int .i64 5])) h'=true)
  (h0:k8 rules.l->cY s=true->¬ KX rules.l s->¬ NR rules.l s->∀ h' (n:Nat) P A M S B lo ks k D0 m,s.size=(n:Int)->1<=n->n<=64->eA.dA (bO rules.l) (eA.iter (bO rules.l) k) ->
   Mt n P A M S B lo rules ks (eA.iter (bO rules.l) k) D0 m h'->AE n rules.l s D0->(∀ b,b<h.next->h'.get b=h.get b)->h.next<=A->K (.ret (.tuple [.ptr P 0,.ptr S 0,.int .i64 0])) h'=true) :
  Sem TP 58 [ak aO 3 rules,.agg (aq s)] h K:=by
 refine F.za ?_;rw [F.Af];simp only [dg (cA s),an];have g0:(h.alloc (.cells (aq s))).get h.next=some (.cells (aq s)):=aA _ _
 have gx:bu h (h.alloc (.cells (aq s))):=bu.alloc _ _;have gn:(h.alloc (.cells (aq s))).next=h.next+1:=rfl
 generalize (h.alloc (.cells (aq s)))=H0 at g0 gx gn ⊢;refine ai (Pb l9 iV (fun hb h' hf=>?_) fun h' P A M ks k hg iJ gP la Cs SM XK m es ck iE gA Ya o1 o2 o3 hfr=>?_)
 ·simp only [aR,reduceAdd,reduceEqDiff,reduceIte,Bool.not_false];exact h1 (.inl hb) _ (fun b hb=>by rw [hf b (by omega),gx.get b hb])
 have p0:h'.get h.next=some (.cells (aq s)):=by rw [hfr _ (by omega)];exact g0
 have l0:ag (some 2) (.ptr h.next 0) h'=some (.agg (aq s)):=by rw [aj p0,cV (cs:=aq s) (n:=2) rfl]
 simp only [aR,reduceAdd,reduceEqDiff,reduceIte,Bool.not_true,l0];refine ai (dQ k9 ?_);simp only [aR,reduceAdd,reduceEqDiff,reduceIte]
 cases qC:cY s with
 |false=>simp only [Bool.not_false,aL];exact h1 (.inr qC) _ (fun b hb=>by rw [hfr b (by omega),gx.get b hb])
 |true=>
 obtain ⟨n,hn,n1,sI,h8⟩:=jI qC;have qR:s.size.toNat=n:=by omega
 specialize h4 hg qC;specialize h5 hg qC;specialize h0 hg qC;clear h1;have acU:=hg.lJ;have AF:=jo iE;obtain ⟨Y0,acV,hmN⟩:=id Ya;have YR:mY .map (.map A) h'=some (.ptr h'.next 0,h'.alloc (.gh (some A) ck [] ck)):=by simp only [mY,gA]
 simp only [Bool.not_true,aK,cp,aR,reduceAdd,reduceEqDiff,reduceIte,aj gP,YR];have mA:∀ p ∈ m,(p.1,p.2) ∈ cD rules.l:=fun p hp=>(kD iE p.1 p.2).1 (vM hmN hp)
 refine Au es (fun seen e hh=>(∀ en ∈ es,en.2.2 ∈ seen->∀ p ∈ m,en.1 = .str p.1->¬ (p.1 ∉ bA rules.l/\s.aC.l.find? (gY p.1 p.2)=none))/\hh.get h'.next=some (.gh (some A) ck seen ck)/\(∀ b,b<h'.next->hh.get b=h'.get b)/\h'.next<hh.next /\
   e 0=ak aO 3 rules/\e 3 = .ptr h.next 0/\e 7 = .ptr P 0/\e 46 = .ptr h'.next 0)
  ⟨fun en _ rY=>(by cases rY),aA _ _,fun b hb=>by rw [Heap.aQ,if_neg (by omega)],by rw [Heap.aJ];omega,rfl,rfl,rfl,rfl⟩ ?_
 rintro seen e hh ⟨GR,w3,wf,wn,e0,e3,e7,Y2⟩ K' RF hex UW acC;rw [F.az.aT];simp only [Y2];refine Eh w3 (by rw [wf A (by omega)];exact gA) acV (by omega) (fun acW=>?_) (fun en rY UX CV=>?_)
 ·
  have afZ:¬ ∃ p ∈ cD rules.l,p.1 ∉ bA rules.l/\s.aC.l.find? (gY p.1 p.2)=none:=by
   rintro ⟨p,hp,hb⟩;have hf:=(kD iE p.1 p.2).2 hp;have GB:=rE hf;obtain ⟨en,rY,af0,_⟩:=Y0.UU _ GB;exact GR en rY (acW en rY) _ GB af0 hb
  simp only [HD,oL,an,cF,aK];rw [hex,F.az.aF];have v0:hh.get h.next=some (.cells (aq s)):=by rw [wf _ (by omega)];exact p0
  have lr:ag none (.ptr h.next 1) hh=some (ak aW 3 s.aC):=by rw [aj v0];rfl
  simp only [aR,reduceAdd,reduceEqDiff,reduceIte,e3,lr]
  refine aD 0 s.aC.l.length (zero_le _) (fun i e h2=>(∀ r ∈ s.aC.l.take i,r.name ∉ bA rules.l)/\(∀ b,b<h'.next->h2.get b=h'.get b)/\h'.next<h2.next/\e 0=ak aO 3 rules/\e 3 = .ptr h.next 0/\e 7 = .ptr P 0/\e 71=ak aW 3 s.aC/\e 72 = .int .i64 (s.aC.l.length:Int)/\e 73 = .int .i64 (i:Int))
   ⟨fun r hr=>(by cases hr),wf,wn,e0,e3,e7,rfl,rfl,rfl⟩ ?_ ?_
  ·rintro i e h2 _ hi ⟨Il,KY,wn2,e0,e3,e7,e71,e72,e73⟩ K2 qj fo qL DY;have hv:s.aC.l[i]?=some s.aC.l[i]:=ez hi;generalize s.aC.l[i]=r at hv;obtain ⟨H,DX,q1,qo,qn⟩:=cx (h:=h2) (zs:=[.str [],.int .i64 0,.ax]) (cs:=aW r) (n:=3) rfl rfl (fY r);have pP:H.get P=some (.cells [ak aO 3 rules,.map A,.map M]):=by rw [qo _ (by omega),KY _ (by omega)];exact gP
   have hM:H.get M=h'.get M:=by rw [qo _ (by omega),KY _ (by omega)]
   obtain ⟨esL,IJ,mL,y1,y2,y3,y4,y5⟩:=la.ex;have Mq:=se (h:=H) (by rw [hM];exact y1) y2 r.name;have Ni:(mL.find r.name).isSome=decide (r.name ∈ bA rules.l):=by rw [y5];by_cases hh':r.name ∈ bA rules.l<;>simp [hh']
   have ln:ag none (.ptr h2.next 0) H=some (.str r.name):=by rw [aj q1];rfl
   rw [F.az.dm];simp only [e7,e71,e72,e73,aR,reduceAdd,reduceEqDiff,reduceIte,aZ hi,aV s.aC hi,dO eC hv,DX];simp only [aR,reduceAdd,reduceEqDiff,reduceIte,cp,aj pP,ln,Mq,Ni];by_cases hd:r.name ∈ bA rules.l
   ·simp only [fh hd,aL];rw [qL,F.az.jP];simp only [bL,reduceEqDiff,reduceIte];exact h4 (.inr ⟨r,iz hv,hd⟩) _ (fun b hb=>by rw [qo b (by omega),KY b (by omega),hfr b (by omega),gx.get b hb])
   ·simp only [eT hd,aK,e73,aI hi k9.1,an];refine qj _ _ ⟨fun q hq=>?_,fun b hb=>by rw [qo b (by omega)];exact KY b hb,by omega,e0,e3,e7,e71,e72,rfl⟩;rw [take_add_one,hv] at hq;rcases mem_append.1 hq with hq|hq
    ·exact Il q hq
    ·simp only [toList_some,mem_singleton] at hq;subst hq;exact hd
  ·rintro e h2 ⟨Il,KY,wn2,e0,e3,e7,e71,e72,e73⟩ K2 fo;rw [jD (dK _)] at Il
   have acX:¬ KX rules.l s:=by
    rintro (hb|⟨r,hr,hd⟩)
    ·exact afZ hb
    ·exact Il r hr hd
   specialize h5 acX;specialize h0 acX;have v0:h2.get h.next=some (.cells (aq s)):=by rw [KY _ (by omega)];exact p0
   have vP:h2.get P=some (.cells [ak aO 3 rules,.map A,.map M]):=by rw [KY _ (by omega)];exact gP
   have vl:fK (bA rules.l) h2 M ks (eA.iter (bO rules.l) k):=la.gz (KY _ (by omega));have lr:ag none (.ptr h.next 1) h2=some (ak aW 3 s.aC):=by rw [aj v0];rfl
   have ls:ag none (.ptr h.next 0) h2=some (.int .i64 (n:Int)):=by rw [aj v0,<- hn];rfl
   have hkl:ks.length<=60:=by
    have:=eA.qY Cs (m:=bA rules.l) fun x hx=>(la.mem x).1 hx;have h1:(bA rules.l).length=rules.l.length:=by simp [bA]
    omega
   have DZ:aG .add (.int .i64 (s.aC.l.length:Int)) (.int .i64 (ks.length:Int))=some (.int .i64 ((s.aC.l.length+ks.length:Nat):Int)):=by
    rw [iX (by omega) (by omega)];rfl
   have hdk:=NS la Cs;rw [F.az.dm];simp only [e72,e73,aR,reduceAdd,reduceEqDiff,reduceIte,aS];rw [fo,F.az.cq];simp only [aR,reduceAdd,reduceEqDiff,reduceIte,e3,e7,lr,cp,aj vP,vl.len,DZ];by_cases hbg:8<s.aC.l.length+ks.length
   ·simp only [fh (by omega:(8:Int)<((s.aC.l.length+ks.length:Nat):Int)),aL];exact h5 (.inl (by rw [<- hdk];exact hbg)) _ (fun b hb=>by rw [KY b (by omega),hfr b (by omega),gx.get b hb])
   have af3:iD [.int .i64 0,.jJ] [(0,1),(1,1)] [.int .i64 (n:Int),.map h2.next]=some (.agg [.int .i64 (n:Int),.map h2.next]):=rfl;simp only [eT (by omega:¬ (8:Int)<((s.aC.l.length+ks.length:Nat):Int)),aK,ls,an,af3,dg (show bx [.int .i64 (n:Int),.map h2.next]=true from rfl),Heap.aJ];have f0:((h2.alloc (.map [] 0)).alloc (.cells [.int .i64 (n:Int),.map h2.next])).get h2.next=some (.map [] 0):=by rw [Heap.aQ,Heap.aJ,if_neg (by omega)];exact aA _ _
   have f1:((h2.alloc (.map [] 0)).alloc (.cells [.int .i64 (n:Int),.map h2.next])).get (h2.next+1)=some (.cells [.int .i64 (n:Int),.map h2.next]):=aA _ _;have fx:bu h2 ((h2.alloc (.map [] 0)).alloc (.cells [.int .i64 (n:Int),.map h2.next])):=(bu.alloc _ _).trans (bu.alloc _ _);have fn:((h2.alloc (.map [] 0)).alloc (.cells [.int .i64 (n:Int),.map h2.next])).next=h2.next+1+1:=rfl
   generalize ((h2.alloc (.map [] 0)).alloc (.cells [.int .i64 (n:Int),.map h2.next]))=H2 at f0 f1 fx fn ⊢;have uP:H2.get P=some (.cells [ak aO 3 rules,.map A,.map M]):=by rw [fx.get _ (by omega)];exact vP
   obtain ⟨esL,IJ,mL,y1,y2,y3,y4,y5⟩:=la.ex;have uM:H2.get M=some (.map esL IJ):=by rw [fx.get _ (by omega),KY _ (by omega)];exact y1
   have af4:mY .map (.map M) H2=some (.ptr H2.next 0,H2.alloc (.gh (some M) IJ [] IJ)):=by simp only [mY,uM]
   simp only [e7,cp,aR,reduceAdd,reduceEqDiff,reduceIte,aj uP,af4];have r3:(H2.alloc (.gh (some M) IJ [] IJ)).get (h2.next+1+1)=some (.gh (some M) IJ [] IJ):=by have:=aA H2 (.gh (some M) IJ [] IJ);rwa [fn] at this
   have rx:bu H2 (H2.alloc (.gh (some M) IJ [] IJ)):=bu.alloc _ _;have rn:(H2.alloc (.gh (some M) IJ [] IJ)).next=h2.next+1+1+1:=by rw [Heap.aJ,fn]
   rw [fn];generalize (H2.alloc (.gh (some M) IJ [] IJ))=H3 at r3 rx rn ⊢;have low:∀ b,b<h2.next->H3.get b=h2.get b:=fun b hb=>by rw [rx.get b (by omega),fx.get b hb]
   have s0:H3.get h2.next=some (.map [] 0):=by rw [rx.get _ (by omega)];exact f0
   have s1:H3.get (h2.next+1)=some (.cells [.int .i64 (n:Int),.map h2.next]):=by rw [rx.get _ (by omega)];exact f1
   have sM:H3.get M=some (.map esL IJ):=by rw [rx.get _ (by omega)];exact uM
   have sP:H3.get P=some (.cells [ak aO 3 rules,.map A,.map M]):=by rw [rx.get _ (by omega)];exact uP
   have sA:H3.get A=some (.map es ck):=by rw [low _ (by omega),KY _ (by omega)];exact gA
   have sB:H3.get h.next=some (.cells (aq s)):=by rw [low _ (by omega)];exact v0
   have sl:fK (bA rules.l) H3 M ks (eA.iter (bO rules.l) k):=la.gz (by rw [sM,y1]);have sD:dB (fun _=>none) H3 h2.next (h2.next+1+1+1):=⟨⟨[],0,[],s0,trivial,fun nm=>rfl⟩,fun nm p hp=>(by cases hp),fun nm nm' p p' hp=>(by cases hp),by omega⟩
   refine FK (S:=h2.next+1) (SB:=h.next) hn n1 sI (fun r hr=>oU (AF r hr).1) iE s1 sB sP sA Ya sl sD (fun yE HG hM'=>by rw [sM] at hM';cases hM';exact r3) rn (by omega) (by omega) (by omega) (by omega) (by omega) (by omega) (by omega) (by omega) (by omega) (by omega) (by omega) e0 e3 e7 rfl rfl (fun hb h' hf=>h5 (.inr (.inl (by rw [qR];exact hb))) h' (fun b hb=>by rw [hf b (by omega) (by omega),low b (by omega),KY b (by omega),hfr b (by omega),gx.get b hb])) fun e4 h4' D a1 a2 a3 a4 a5 a6 j0 j3 j7 j17=>?_;rw [F.az.fX];simp only [j0,aR,reduceAdd,reduceEqDiff,reduceIte]
   refine FJ (s:=s) (SB:=h.next) (S:=h2.next+1) hn n1 sI iV acU (fun r hr=>(AF r hr).2.2) (by rw [a5 _ (by omega) (by omega)];exact sB) (by omega) j3 j7 j17 rfl rfl rfl (fun hb h' hx=>h5 (.inr (.inr (by rw [qR];exact hb))) h' (fun b hb=>by rw [hx.get b (by omega),a5 b (by omega) (by omega),low b (by omega),KY b (by omega),hfr b (by omega),gx.get b hb])) fun c1 e5 h6 c2 i3 i7 i17=>?_;have c6:=c2.next
   have t0:h6.get h.next=some (.cells (aq s)):=by rw [c2.get _ (by omega),a5 _ (by omega) (by omega)];exact sB
   have t1:h6.get (h2.next+1)=some (.cells [.int .i64 (n:Int),.map h2.next]):=by rw [c2.get _ (by omega),a5 _ (by omega) (by omega)];exact s1
   have lr6:ag none (.ptr h.next 1) h6=some (ak aW 3 s.aC):=by rw [aj t0];rfl
   rw [F.az.QU];simp only [aR,reduceAdd,reduceEqDiff,reduceIte,i3,lr6];refine Is (S:=h2.next+1) (SB:=h.next) k9 qC hn n1 sI t1 t0 (a2.ext c2) (by omega) (by omega) (by omega) (by omega) (by omega) i3 i7 i17 rfl rfl rfl fun h7 D7 d1 d2 d3 d4 d5=>?_
   have af5:¬ NR rules.l s:=by
    rintro (hb|⟨r,hr,hb⟩|⟨r,hr,hb⟩)
    ·omega
    ·rw [qR] at hb;have:=a1 r hr;omega
    ·rw [qR] at hb;have:=c1 r hr;omega
   have gz:∀ b,b<h2.next->h7.get b=h2.get b:=fun b hb=>by rw [d4 b (by omega) (by omega),c2.get b (by omega),a5 b (by omega) (by omega),low b hb]
   refine h0 af5 h7 n P A M (h2.next+1) h2.next (h2.next+1+1+1) ks k D7 m hn n1 sI iJ ⟨?_,la.gz ?_,Cs,iE,⟨es,ck,?_,Ya⟩,?_,d1,by omega⟩ ⟨fun r hr=>?_,fun r hr=>?_,fun nm p hp=>?_⟩ (fun b hb=>?_) (by omega)
   ·rw [gz _ (by omega)];exact vP
   ·rw [gz _ (by omega),KY _ (by omega)]
   ·rw [gz _ (by omega),KY _ (by omega)];exact gA
   ·rw [d4 _ (by omega) (by omega)];exact t1
   ·obtain ⟨b,_,b2⟩:=d2 r hr;exact ⟨b,b2⟩
   ·obtain ⟨b,b2⟩:=a3 r hr;refine ⟨b,?_⟩;rw [d3 r.name fun q hq e=>Il q hq (by rw [e];exact List.mem_map_of_mem hr)];exact b2
   ·by_cases hq:∃ q ∈ s.aC.l,q.name=nm
    ·exact .inr hq
    ·rw [d3 nm fun q nW e=>hq ⟨q,nW,e⟩] at hp;exact .inl (a4 nm p hp)
   ·rw [gz _ (by omega),KY _ (by omega),hfr _ (by omega),gx.get _ hb]
 obtain ⟨p,GB,NF,qj⟩:=Y0.mem en rY;have vf:∀ b,b<h'.next->(hh.set h'.next (.gh (some A) ck (seen++[en.2.2]) ck)).get b=h'.get b:=fun b hb=>by rw [Heap.aP,if_neg (by omega)];exact wf b hb
 have v3:(hh.set h'.next (.gh (some A) ck (seen++[en.2.2]) ck)).get h'.next=some (.gh (some A) ck (seen++[en.2.2]) ck):=by rw [Heap.aP,if_pos rfl]
 have vn:(hh.set h'.next (.gh (some A) ck (seen++[en.2.2]) ck)).next=hh.next:=Heap.bp _ _ _
 simp only [HD,oL,vC,an,cF,aL,CV,e3,e7,Y2,NF,qj];clear CV;generalize (hh.set h'.next (.gh (some A) ck (seen++[en.2.2]) ck))=H at vf v3 vn ⊢;have pP:H.get P=some (.cells [ak aO 3 rules,.map A,.map M]):=by rw [vf _ (by omega)];exact gP
 have p0':H.get h.next=some (.cells (aq s)):=by rw [vf _ (by omega)];exact p0
 have lS:ag (some 2) (.ptr h.next 0) H=some (.agg (aq s)):=by rw [aj p0',cV (cs:=aq s) (n:=2) rfl]
 obtain ⟨esL,IJ,mL,y1,y2,y3,y4,y5⟩:=la.ex;have Mq:=se (h:=H) (by rw [vf M (by omega)];exact y1) y2 p.1;have Ni:(mL.find p.1).isSome=decide (p.1 ∈ bA rules.l):=by rw [y5];by_cases hh':p.1 ∈ bA rules.l<;>simp [hh']
 have fin:∀ (e':Env),(¬ (p.1 ∉ bA rules.l/\s.aC.l.find? (gY p.1 p.2)=none))->e' 0=ak aO 3 rules->e' 3 = .ptr h.next 0->e' 7 = .ptr P 0->e' 46 = .ptr h'.next 0->K' .normal ⟨e',198,[],H⟩=true:=fun e' acY e0 e3 e7 Y2=>by
  refine RF en rY UX _ _ ⟨fun Wt Ka Pc q hq rQ=>?_,v3,vf,by omega,e0,e3,e7,Y2⟩;rcases mem_append.1 Pc with Pc|Pc
  ·exact GR Wt Ka Pc q hq rQ
  ·rw [mem_singleton] at Pc
   have hee:Wt=en:=by
    obtain ⟨i,hi⟩:=mem_iff_getElem?.1 rY;obtain ⟨j,hj⟩:=mem_iff_getElem?.1 Ka;have wo:(es.map (·.2.2))[i]?=some en.2.2:=by rw [getElem?_map,hi];rfl
    have Hw:(es.map (·.2.2))[j]?=some en.2.2:=by rw [getElem?_map,hj,<- Pc];rfl
    have hij:=nq acV.nodup wo Hw;subst hij;rw [hi] at hj;exact (Option.some.inj hj).symm
   rw [hee,NF] at rQ;injection rQ with h3
   have h6:q.2=p.2:=by
    have h7:=vM hmN hq;have h8:=vM hmN GB;rw [<- h3,h8] at h7;exact (Option.some.inj h7).symm
   rw [<- h3,h6];exact acY
 simp only [aR,reduceAdd,reduceEqDiff,reduceIte,cp,aj pP,Mq,Ni];by_cases hd:p.1 ∈ bA rules.l
 ·simp only [fh hd,Bool.not_true,aK];exact fin _ (fun hb=>hb.1 hd) e0 e3 e7 Y2
 ·simp only [eT hd,Bool.not_false,aL,aR,reduceAdd,reduceEqDiff,reduceIte,lS];refine ai (sK k9 ?_);simp only [aR,reduceAdd,reduceEqDiff,reduceIte];rcases nL (gY p.1 p.2) s.aC.l with ⟨f1,f2⟩|⟨j,r,f1,f2,f3⟩
  ·rw [f1];simp only [show decide ((-1:Int)<0)=true from rfl,aL];rw [UW,F.az.bz];simp only [bL,reduceEqDiff,reduceIte];exact h4 (.inl ⟨(p.1,p.2),mA p GB,hd,f2⟩) _ (fun b hb=>by rw [vf b (by omega),hfr b (by omega),gx.get b hb])
  ·rw [f1];simp only [eT (by omega:¬ ((j:Int)<0)),aK];exact fin _ (fun hb=>by rw [f3] at hb;exact absurd hb.2 (by simp)) e0 e3 e7 Y2
def iG(n:Nat)(s:di):Lk:=fun nm k=>match s.aC.l.find? (dD nm) with|some r=>(bitsOf n r.arity.toNat r.aM.l).getD k false|none=>false
def nr(rs:List aN)(n:Nat)(s:di)(F:Lk):Prop:=∃ k t,eA.dA (bO rs) (eA.iter (bO rs) k)/\(∀ r ∈ rs,eA.iter (bO rs) k r.name<t)/\gN n rs (eA.iter (bO rs) k) (iG n s) t F
theorem nr.unique{A B:Lk}(h:nr rs n s A)(g:nr rs n s B):A=B:=by
 obtain ⟨j,t,h1,h2,h3⟩:=h;obtain ⟨k,u,g1,g2,g3⟩:=g;rw [eA.FV h1 g1] at h2 h3;exact h3.same g3 h2 g2
theorem GS(h:eA.dA (bO rs) (eA.iter (bO rs) k)):Et rs (eA.iter (bO rs) k):=by
 intro r hr c hc k0 ⟨q,hq,rQ⟩
 have he:fI r c ∈ bO rs:=by
  refine mem_flatMap.2 ⟨r,hr,mem_flatMap.2 ⟨c,hc,?_⟩⟩;unfold mJ;rw [if_pos ⟨k0,by rw [<- rQ];exact List.mem_map_of_mem hq⟩];exact mem_singleton.2 rfl
 have:=h _ he;unfold fI at this;exact this
theorem Mv(tP:rs.length<=60)(vK:∀ r ∈ rs,r.body.l.length<=20)(h:eA.dA (bO rs) (eA.iter (bO rs) k))(x:b8):eA.iter (bO rs) k x<=1000000:=by
 have hN:∀ e ∈ bO rs,e.b ∈ bA rs/\e.h ∈ bA rs:=fun e he=>by
  obtain ⟨r,hr,c,hc,_,hin,rfl⟩:=uN he;exact ⟨hin,List.mem_map_of_mem hr⟩
 rw [eA.FV h (eA.settle hN h)];have:=yc tP vK (bA rs).length x;have h1:(bA rs).length=rs.length:=by simp [bA]
 rw [h1] at this ⊢;omega
def mW(rs:List aN)(nm:b8):Nat:=match rs.find? (fun r=>r.name==nm) with|some r=>r.args.l.length|none=>0
theorem mj(iE:dR rs []=some m){j k:Int}(h1:(x,j) ∈ cD rs)(h2:(x,k) ∈ cD rs):j=k:=by
 have a:=(kD iE x j).2 h1;have b:=(kD iE x k).2 h2;rw [a] at b;exact Option.some.inj b
theorem Iu(iE:dR rs []=some m)(hr:r ∈ rs):mW rs r.name=r.args.l.length:=by
 unfold mW
 cases hf:rs.find? (fun q=>q.name==r.name) with
 |none=>
  rw [find?_eq_none] at hf;exact absurd (hf r hr) (by simp)
 |some q=>
  have hq:=mem_of_find?_eq_some hf;have rQ:=find?_some hf;rw [beq_iff_eq] at rQ;have:=mj iE (kE hq) (by rw [rQ];exact kE hr);simp only;omega
theorem rM(hr:r ∈ rs)(hc:c ∈ r.body.l)(k0:c.kind=0):(c.name,(c.args.l.length:Int)) ∈ cD rs:=by
 refine mem_flatMap.2 ⟨r,hr,mem_cons_of_mem _ ?_⟩;unfold eo;exact mem_map.2 ⟨c,mem_filter.2 ⟨hc,by simpa using k0⟩,rfl⟩
structure WA (c:eV):Prop where
 kinds:c.kind=0\/c.kind=1\/c.kind=2
 two:c.kind=1\/c.kind=2->c.args.l.length=2
 arity:c.args.l.length<=12
theorem pZ(h:gX c=true):WA c:=by
 unfold gX at h;by_cases k0:c.kind=0
 ·rw [if_pos k0] at h;exact ⟨.inl k0,fun h'=>by omega,oU h⟩
 ·rw [if_neg k0] at h;by_cases Ih:c.kind=1\/c.kind=2
  ·rw [if_pos Ih] at h;simp only [and_eq_true,decide_eq_true_eq] at h;exact ⟨.inr Ih,fun _=>h.2.1,by omega⟩
  ·rw [if_neg Ih] at h;cases h
theorem GU(hg:k8 rs)(hr:r ∈ rs):jq r=true:=by
 have:=((we rs).1 hg).2.1;rw [List.all_eq_true] at this;exact this r hr
theorem nt(hg:k8 rs)(hr:r ∈ rs)(hc:c ∈ r.body.l):gX c=true:=by
 have:=GU hg hr;unfold jq at this;simp only [and_eq_true] at this;have h5:=this.2.2.2.1;rw [List.all_eq_true] at h5;exact h5 c hc
theorem wg{k:Int}{r:Rel}(h:s.aC.l.find? (gY nm k)=some r):r ∈ s.aC.l/\r.name=nm/\r.arity=k:=by
 have h1:=mem_of_find?_eq_some h;have h2:=find?_some h;simp only [gY,and_eq_true,beq_iff_eq,decide_eq_true_eq] at h2;exact ⟨h1,h2.1,by first|exact h2.2|exact h2.2.symm⟩
theorem Pd(iE:dR rs []=some m)(qC:cY s=true)(hn:s.size=(n:Int))(h4:¬ KX rs s)(h5:¬ NR rs s)(sd:AE n rs s D0)(hr:r ∈ rs)(hc:c ∈ r.body.l)(k0:c.kind=0) :
  n ^ c.args.l.length<=4096/\∃ p,D0 c.name=some p/\p.2.length=n ^ c.args.l.length:=by
 have qR:s.size.toNat=n:=by omega
 have B6:=rM hr hc k0;by_cases hd:c.name ∈ bA rs
 ·obtain ⟨q,hq,rQ⟩:=mem_map.1 hd
  have hl:q.args.l.length=c.args.l.length:=by
   have:=mj iE (kE hq) (by rw [rQ];exact B6);omega
  obtain ⟨b,hb⟩:=sd.head q hq;rw [rQ] at hb;refine ⟨?_,_,hb,by rw [length_replicate,hl]⟩;rw [<- hl,<- qR];exact Nat.le_of_not_lt fun h=>h5 (.inr (.inl ⟨q,hq,h⟩))
 ·cases hf:s.aC.l.find? (gY c.name (c.args.l.length:Int)) with
  |none=>exact absurd (.inl ⟨_,B6,hd,hf⟩) h4
  |some q=>
   obtain ⟨hq,rQ,Pe⟩:=wg hf;obtain ⟨i,hi⟩:=mem_iff_getElem?.1 hq;have Im:=rL qC hi;rw [qR] at Im;obtain ⟨k,hk,Ih,PT,NQ⟩:=vV Im;obtain ⟨b,hb⟩:=sd.rel q hq;have hkl:k=c.args.l.length:=by omega
   rw [rQ] at hb;exact ⟨by rw [<- hkl];exact PT,_,hb,by rw [sH];congr 1;omega⟩
theorem p9(hn:s.size=(n:Int))(h5:¬ NR rs s)(sd:AE n rs s D0)(hr:r ∈ rs):n ^ r.args.l.length<=4096/\∃ p,D0 r.name=some p/\p.2.length=n ^ r.args.l.length:=by
 have qR:s.size.toNat=n:=by omega
 obtain ⟨b,hb⟩:=sd.head r hr;refine ⟨?_,_,hb,length_replicate⟩;rw [<- qR];exact Nat.le_of_not_lt fun h=>h5 (.inr (.inl ⟨r,hr,h⟩))
theorem R6(hg:k8 rs)(iE:dR rs []=some m)(qC:cY s=true)(hn:s.size=(n:Int))(h4:¬ KX rs s)(h5:¬ NR rs s)(sd:AE n rs s D0)(hr:r ∈ rs)(D:DB)(hd:eM D D0):zq n D r:=
 ⟨fun c hc k0=>by
  obtain ⟨a,p0,b1,b2⟩:=Pd iE qC hn h4 h5 sd hr hc k0;obtain ⟨p,c1,_,c3⟩:=hd.get b1
  exact ⟨a,p,c1,by rw [c3];exact b2⟩,fun c hc=>(pZ (nt hg hr hc)).two,fun c hc=>(pZ (nt hg hr hc)).kinds,fun c hc=>(pZ (nt hg hr hc)).arity⟩
theorem R7(N k:Nat):(replicate N false).getD k false=false:=by
 rw [getD_eq_getElem?_getD,getElem?_replicate];split<;>rfl
theorem wh(qC:cY s=true){r:Rel}(hr:r ∈ s.aC.l):s.aC.l.find? (dD r.name)=some r:=u0 (lP qC) r hr
theorem Mw(qC:cY s=true)(h4:¬ KX rs s)(sd:AE n rs s D0):dz D0=iG n s:=by
 funext nm k;unfold iG
 cases hf:s.aC.l.find? (dD nm) with
 |some r=>
  have hr:=mem_of_find?_eq_some hf;have hn:=find?_some hf;simp only [dD,beq_iff_eq] at hn;obtain ⟨b,hb⟩:=sd.rel r hr;rw [hn] at hb;unfold dz;rw [hb]
 |none=>
  unfold dz
  cases hp:D0 nm with
  |none=>rfl
  |some p=>
   rcases sd.only nm p hp with hh|⟨r,hr,rG⟩
   ·obtain ⟨r,hr,rG⟩:=mem_map.1 hh;obtain ⟨b,hb⟩:=sd.head r hr;rw [rG,hp] at hb;cases hb;exact R7 _ _
   ·rw [find?_eq_none] at hf;exact absurd (hf r hr) (by simp [dD,rG])
theorem Mx(iV:∀ r ∈ rules.l,r.lJ)(hg:k8 rules.l)(qC:cY s=true)(h4:¬ KX rules.l s)(h5:¬ NR rules.l s){A lo:Nat}(hn:s.size=(n:Int))(n1:1<=n)(sI:n<=64)
  (iJ:eA.dA (bO rules.l) (eA.iter (bO rules.l) k)) (sh:Mt n P A M S B lo rules ks (eA.iter (bO rules.l) k) D0 m h) (sd:AE n rules.l s D0) {ng:FuncId} {na nb:List AV}
  (note:∀ (i:Int) (r:aN) (k:Int) (hd:Sl Int) (cs:Sl (Sl Int)) (ls:Sl Int) (y:AV) (h:Heap) (K:Out->Heap->Bool),(∀ h',bu h h'->K (.ret (.tuple [])) h'=true)->Sem TP ng (na++([.agg (bI i r k (ak encI 1 hd) (ak cU 1 cs) (ak encI 1 ls)),y]++nb)) h K)
  (hK:∀ h' D' F,nr rules.l n s F->dz D'=F->eM D' D0->Mt n P A M S B lo rules ks (eA.iter (bO rules.l) k) D' m h'->(∀ b,b<lo->h'.get b=h.get b)->h.next<=h'.next->K (.ret (.tuple [])) h'=true) :
  Sem TP 59 [.ptr P 0,.ptr S 0,.func ng na nb] h K:=by
 obtain ⟨hP,hl,Cs,iE,⟨es,ck,hA,Ya⟩,hS,hD,o1,o2,o3,o4,o5,o6⟩:=sh;have AF:=jo iE;have kX:∀ nm p,D0 nm=some p->lo<=p.1:=fun nm p hp=>(hD.Df nm p hp).1
 have o:Rz S n D0 rules.l ng na nb:=
  ⟨n1,sI,iV,fun r hr=>(AF r hr).2.2,fun nm p hp=>by have:=kX nm p hp;omega,fun r hr D hd=>R6 hg iE qC hn h4 h5 sd hr D hd,fun r hr=>⟨(p9 hn h5 sd hr).1,oU (AF r hr).1,(p9 hn h5 sd hr).2⟩,note,hg.lJ⟩
 refine OX o hP (by omega) hl Cs (by omega) (fun r hr=>List.mem_map_of_mem hr) (Mv hg.lJ (fun r hr=>(AF r hr).2.1) iJ) hS (by omega) hD (fun nm p hp=>by have:=kX nm p hp;omega) fun h' D' T hT hrun yf pR hfr oK=>?_;have gz:∀ b,b<lo->h'.get b=h.get b:=fun b hb=>hfr b (by omega) fun nm p hp=>by have:=kX nm p hp;omega
 have hlen:og n rules.l D0:=fun r hr p hp=>by
  obtain ⟨_,q,h1,h2⟩:=p9 hn h5 sd hr;rw [h1] at hp;cases hp;exact h2
 have M9:=(O9 n1 (GS iJ) hlen (fun r hr=>by obtain ⟨_,q,h1,_⟩:=p9 hn h5 sd hr;exact ⟨q,h1⟩) hrun).1;rw [Mw qC h4 sd] at M9;refine hK h' D' (dz D') ⟨k,T+1,iJ,fun r hr=>by have:=hT r.name (List.mem_map_of_mem hr);omega,M9⟩ rfl yf ⟨by rw [gz _ (by omega)];exact hP,hl.gz (gz _ (by omega)),Cs,iE,⟨es,ck,by rw [gz _ (by omega)];exact hA,Ya⟩,by rw [gz _ (by omega)];exact hS,pR,by omega⟩ gz oK
theorem R8{i:Int}{k:Int}{y:AV}(hK:∀ h',bu h h'->K (.ret (.tuple [])) h'=true):Sem TP 60 ([]++([.agg (bI i r k (ak encI 1 hd) (ak cU 1 cs) (ak encI 1 ls)),y]++[])) h K:=by
 refine F.BZ ?_;rw [F.DP];simp only [dg (vS i r k hd cs ls),an];exact hK _ (bu.alloc _ _)
structure Vk (n:Nat) (r:aN) (ts:List Tab):Prop where
 len:ts.length<=cE
 conds:∀ c ∈ r.body.l,WA c
 rel:∀ c ∈ r.body.l,c.kind=0->n ^ c.args.l.length<=4096/\∀ q ∈ ts,q.name=c.name->q.bits.length=n ^ c.args.l.length
def wN(n:Nat)(F:Lk)(nm:b8)(k i:Nat):List (List Int):=((List.range i).filter (F nm)).map (nM n k)
theorem Pf(n:Nat)(F:Lk)(nm:b8)(k i:Nat):wN n F nm k (i+1)=wN n F nm k i++if F nm i=true then [nM n k i] else []:=by
 unfold wN;rw [range_succ,filter_append,map_append];by_cases h:F nm i=true<;>simp [h]
theorem Ks(n:Nat)(F:Lk)(nm:b8)(k i:Nat):(wN n F nm k i).length<=i:=by
 unfold wN;rw [length_map];have:=length_filter_le (F nm) (List.range i);simpa using this
def rN(rs:List aN)(n:Nat)(F:Lk)(WB:List b8):List (b8×Int×List (List Int)):=WB.map fun nm=>(nm,(mW rs nm:Int),wN n F nm (mW rs nm) (n ^ mW rs nm))
def Ew(rs:List aN)(s:di)(e:Int):Prop:=((¬ k8 rs\/cY s=false)/\e=1)\/(k8 rs/\cY s=true/\((KX rs s/\e=4)\/(¬ KX rs s/\NR rs s/\e=5)))
structure dZ (rs:List aN) (s:di):Prop where
 fV:k8 rs
 valid:cY s=true
 names:¬ KX rs s
 xw:¬ NR rs s
theorem Cv(s:St):dG TP s Tryz.f19.results.toList=(match ag (some 2) (s.env 4) s.h,(some [s.env 5]:Option (List AV)) with|some v,some vs=>some (v :: vs)|_,_=>none):=by kernel_rfl
theorem sO(iE:dR rs []=some m)(h:nm ∈ bA rs):m.find nm=some (mW rs nm:Int)/\∃ r ∈ rs,r.name=nm/\mW rs nm=r.args.l.length:=by
 obtain ⟨r,hr,rG⟩:=mem_map.1 h;have:=Iu iE hr;rw [<- rG];refine ⟨?_,r,hr,rfl,this⟩;rw [this];exact (kD iE _ _).2 (kE hr)
theorem My(hl:fK (bA rs) h M ks lv)(Cs:ks.Nodup):ru ks=dS rs:=by
 obtain ⟨h1,h2⟩:=HX Cs;exact xk h1 (qy rs) fun x=>by rw [h2,hl.mem,eF]
theorem Pg{p:Nat×List Bool}(hp:D nm=some p)(hi:i<p.2.length):p.2[i]?=some (dz D nm i):=by
 unfold dz;rw [hp];simp only;rw [getD_eq_getElem?_getD,ez hi];rfl
set_option maxHeartbeats 4000000 in
theorem dL{rules:Sl aN}{s:di}(l9:∀ r ∈ rules.l,r.ok)(iV:∀ r ∈ rules.l,r.lJ)(k9:s.ok)(SW:cY s=true->s.small){h:Heap}{K:Out->Heap->Bool}
  (Mz:∀ e,Ew rules.l s e->K (.ret (.tuple [.agg (aq ⟨0,none⟩),.int .i64 e])) h=true)
  (As:dZ rules.l s->∀ out:di,out.size=s.size->(∃ Fk,nr rules.l s.size.toNat s Fk/\out.aC.l.map bZ=s.aC.l.map bZ++rN rules.l s.size.toNat Fk (dS rules.l))->K (.ret (.tuple [.agg (aq out),.int .i64 0])) h=true) :
  Sem TP 19 [ak aO 3 rules,.agg (aq s)] h K:=by
 have hm:cG=140737488355328:=rfl
 have gen:∀ R:Out->Heap->Bool,(∀ e h',Ew rules.l s e->R (.ret (.tuple [.agg (aq ⟨0,none⟩),.int .i64 e])) h'=true) ->
   (dZ rules.l s->∀ h' a (x:Sl Rel) Fk,Fz true h' a (ak aW 3 x)->nr rules.l s.size.toNat s Fk->x.l.map bZ=s.aC.l.map bZ++rN rules.l s.size.toNat Fk (dS rules.l)->R (.ret (.tuple [.agg [.int .i64 s.size,a],.int .i64 0])) h'=true) ->
   Sem TP 19 [ak aO 3 rules,.agg (aq s)] Heap.empty R:=by
  intro R acZ Yb;refine F.Fo ?_;rw [F.HN];simp only [dg (cA s),an,bJ,Heap.aJ];have g0:((Heap.alloc Heap.empty (.cells (aq s))).alloc (.cells [.int .i64 0,.ax])).get 0=some (.cells (aq s)):=by simp [Heap.aQ,bJ]
  have g1:((Heap.alloc Heap.empty (.cells (aq s))).alloc (.cells [.int .i64 0,.ax])).get 1=some (.cells [.int .i64 0,.ax]):=by simp [Heap.aQ,bJ]
  have gn:((Heap.alloc Heap.empty (.cells (aq s))).alloc (.cells [.int .i64 0,.ax])).next=2:=rfl
  generalize ((Heap.alloc Heap.empty (.cells (aq s))).alloc (.cells [.int .i64 0,.ax]))=H0 at g0 g1 gn ⊢;have l0:ag (some 2) (.ptr 0 0) H0=some (.agg (aq s)):=by rw [aj g0,cV (cs:=aq s) (n:=2) rfl]
  have hz:iD [.int .i64 0,.ax] [] []=some (.agg [.int .i64 0,.ax]):=rfl
  have bad:∀ (e:Int) (h':Heap) (v:AV) (en:Env),e≠0->Ew rules.l s e->(∀ b,b<2->h'.get b=H0.get b)->en 4 = .ptr 1 0->en 5 = .int .i64 e ->
    (af (iD [.int .i64 0,.ax] [] []) fun UT=>af (bf 2 (.ptr 1 0) UT h') fun h11=>af (match ag (some 2) (en 4) h11,(some [en 5]:Option (List AV)) with|some v,some vs=>some (v :: vs)|_,_=>none) fun vs=>R (.ret (oneOf vs)) h11)=true:=by
   intro e h' v en he hb hf e4 e5;have q1:h'.get 1=some (.cells [.int .i64 0,.ax]):=by rw [hf 1 (by omega)];exact g1
   have st:bf 2 (.ptr 1 0) (.agg [.int .i64 0,.ax]) h'=some (h'.set 1 (.cells [.int .i64 0,.ax])):=by
    rw [cK (n:=2) (v:=.agg [.int .i64 0,.ax]) q1 rfl rfl (by simp)];rfl
   have RM:ag (some 2) (.ptr 1 0) (h'.set 1 (.cells [.int .i64 0,.ax]))=some (.agg [.int .i64 0,.ax]):=by rw [aj (cs:=[.int .i64 0,.ax]) (by rw [Heap.aP,if_pos rfl])];rfl
   simp only [hz,an,st,e4,e5,RM,oneOf];exact acZ e _ hb
  simp only [l0,an];refine ai (az l9 iV k9 (fun hb h' hf=>?_) (fun a1 a2 a3 h' hf=>?_) (fun a1 a2 a3 a4 h' hf=>?_) fun a1 a2 a3 a4 h' n P A M S B lo ks k D0 m hn n1 sI iJ sh sd hf hA2=>?_)
  ·simp only [aR,reduceAdd,reduceEqDiff,reduceIte,cI];simp only [show (!decide ((1:Int)=0))=true from rfl,aL,Cv];exact bad 1 h' .eH _ (by omega) (.inl ⟨hb,rfl⟩) (by rw [<- gn];exact hf) rfl rfl
  ·simp only [aR,reduceAdd,reduceEqDiff,reduceIte,cI];simp only [show (!decide ((4:Int)=0))=true from rfl,aL,Cv];exact bad 4 h' .eH _ (by omega) (.inr ⟨a1,a2,.inl ⟨a3,rfl⟩⟩) (by rw [<- gn];exact hf) rfl rfl
  ·simp only [aR,reduceAdd,reduceEqDiff,reduceIte,cI];simp only [show (!decide ((5:Int)=0))=true from rfl,aL,Cv];exact bad 5 h' .eH _ (by omega) (.inr ⟨a1,a2,.inr ⟨a3,a4,rfl⟩⟩) (by rw [<- gn];exact hf) rfl rfl
  have qR:s.size.toNat=n:=by omega
  have af6:=SW a2;obtain ⟨_,_,_,_,h8⟩:=jI a2;specialize Yb ⟨a1,a2,a3,a4⟩;rw [qR] at Yb;clear acZ bad;simp only [aR,reduceAdd,reduceEqDiff,reduceIte,cI];simp only [decide_true,Bool.not_true,aK];refine ai (Mx iV a1 a2 a3 a4 hn n1 sI iJ sh sd (fun _ _ _ _ _ _ _ _ _ hk=>R8 hk) fun h3 D' Fk hF hDF yf sh3 WC PR=>?_);obtain ⟨hP,hl,Cs,iE,⟨es,ck,hA,Ya⟩,hS,hD,o1,o2,o3,o4,o5,o6⟩:=sh3;rw [gn] at hA2;have p0:h3.get 0=some (.cells (aq s)):=by rw [WC 0 (by omega),hf 0 (by omega)];exact g0
  have p1:h3.get 1=some (.cells [.int .i64 0,.ax]):=by rw [WC 1 (by omega),hf 1 (by omega)];exact g1
  have l3:ag (some 2) (.ptr 0 0) h3=some (.agg (aq s)):=by rw [aj p0,cV (cs:=aq s) (n:=2) rfl]
  simp only [aR,reduceAdd,reduceEqDiff,reduceIte,l3];refine ai (cJ af6 fun a h4 l x4 o4' hl4=>?_);obtain ⟨Cu,KW⟩:=nD o4'.own;have B8:bx [.int .i64 s.size,a]=true:=by simp only [bx,Bool.and_true] at Cu ⊢;rw [Cu];rfl
  obtain ⟨H5,hs5,p5,po5,pn5⟩:=cx (h:=h4) (zs:=[.int .i64 0,.ax]) (cs:=[.int .i64 s.size,a]) (n:=2) rfl rfl B8;have x5:bu h4 H5:=⟨by omega,fun b hb=>po5 b (by omega)⟩
  have x35:bu h3 H5:=x4.trans x5;have hn4:=x4.next
  have hP5:H5.get P=some (.cells [ak aO 3 rules,.map A,.map M]):=by rw [x35.get _ (by omega)];exact hP
  simp only [aR,reduceAdd,reduceEqDiff,reduceIte,hs5,cp,aj hP5];refine ai (keys_map ?_);simp only [aR,reduceAdd,reduceEqDiff,reduceIte];have gB:(H5.alloc (.box (.map M))).get H5.next=some (.box (.map M)):=aA _ _
  have xB:bu H5 (H5.alloc (.box (.map M))):=bu.alloc _ _;generalize (H5.alloc (.box (.map M)))=H6 at gB xB ⊢;have AF:=jo iE;have l5:fK (bA rules.l) H6 M ks (eA.iter (bO rules.l) k):=hl.gz ((x35.trans xB).get M (by omega))
  obtain ⟨Wv,Ww,gM,ac0,Xn,hel⟩:=l5.aff Cs fun s hs=>by
   obtain ⟨r,hr,rfl⟩:=mem_map.1 ((l5.mem s).1 hs);have:=JO (yd (AF r hr).1);omega
  have afL:=NS hl Cs;have akW:=pV rules.l;have acU:=a1.lJ;refine ai (LX gB gM ac0 (by omega) fun av h7 x7 oa=>?_);rw [Xn,My hl Cs] at oa;have hb7:=x7.next
  have hb6:=xB.next
  have x47:bu h4 h7:=(x5.trans xB).trans x7;have oo:=o4'.afG x47 (Y:=fun b=>b=h4.next) (fun b hb=>by omega);have q5:h7.get h4.next=some (.cells [.int .i64 s.size,a]):=by rw [(xB.trans x7).get _ (by omega)];exact p5
  have x37:bu h3 h7:=x4.trans x47;simp only [aR,reduceAdd,reduceEqDiff,reduceIte,oa.len];have hdl:(dS rules.l).length<=cE:=by unfold cE;omega
  have XO:l.length<=8:=by have:=congrArg List.length hl4;rw [length_map,length_map] at this;omega
  refine aD 0 (dS rules.l).length (zero_le _) (fun i e h'=>∃ a l,h'.get h4.next=some (.cells [.int .i64 s.size,a])/\RO (fun b=>b=h4.next) h3.next h' a l/\(l.map fun p=>bZ p.2)=s.aC.l.map bZ++rN rules.l n Fk ((dS rules.l).take i)/\l.length<=8+i/\(∀ b,b<h3.next->h'.get b=h3.get b)/\Own encS 1 H6.next h' av (dS rules.l)/\(∀ b,cL av=some b->cL a≠some b)/\h7.next<=h'.next /\
   e 3 = .ptr 0 0/\e 4 = .ptr 1 0/\e 6 = .ptr P 0/\e 7 = .ptr S 0/\e 9 = .ptr h4.next 0/\e 38=av/\e 39 = .int .i64 ((dS rules.l).length:Int)/\e 40 = .int .i64 (i:Int))
   ⟨a,l,q5,oo,by rw [hl4];simp [rN],by omega,fun b hb=>x37.get b hb,oa,fun b hb fq=>by have:=oa.ge hb;have:=o4'.own.lt fq;have:=x5.next;omega,dK _,rfl,rfl,rfl,rfl,rfl,rfl,rfl,rfl⟩ ?_ ?_
  ·rintro i e h' _ hi ⟨a,l,q5,o,hl5,hlen,hfr,Y3,ac1,oK,e3,e4,e6,e7,e9,WD,OS,NC⟩ K' aga hx hr hp;have hv:(dS rules.l)[i]?=some (dS rules.l)[i]:=ez hi;generalize (dS rules.l)[i]=nm at hv;have pU:nm ∈ bA rules.l:=(eF _).1 (iz hv);obtain ⟨I1,r,nV,rG,Ph⟩:=sO iE pU;obtain ⟨FG,p0',Bx,ack⟩:=p9 hn a4 sd nV;rw [rG] at Bx;obtain ⟨p,hpD,_,qJ⟩:=yf.get Bx;rw [ack,<- Ph] at qJ;rw [<- Ph] at FG;have Ii:mW rules.l nm<=12:=by rw [Ph];exact oU (AF r nV).1
   obtain ⟨_,hpn,_,ac2⟩:=hD.Df nm p hpD;obtain ⟨q,_,i1,i2⟩:=uH Y3 hv;have pP:h'.get P=some (.cells [ak aO 3 rules,.map A,.map M]):=by rw [hfr _ (by omega)];exact hP
   have pA:h'.get A=some (.map es ck):=by rw [hfr _ (by omega)];exact hA
   have Mq:dW .string (.int .i64 0) false (.map A) (.str nm) h'=some (.int .i64 (mW rules.l nm:Int)):=by rw [uK pA Ya.1,I1];rfl
   have uj:iD [.str [],.int .i64 0,.ax] [(0,1),(1,1)] [.str nm,.int .i64 (mW rules.l nm:Int)]=some (.agg [.str nm,.int .i64 (mW rules.l nm:Int),.ax]):=rfl;obtain ⟨H8,hs8,p8,po8,pn8⟩:=cx (h:=h') (zs:=[.str [],.int .i64 0,.ax]) (cs:=[.str nm,.int .i64 (mW rules.l nm:Int),.ax]) (n:=3) rfl rfl rfl;have x8:bu h' H8:=⟨by omega,fun b hb=>po8 b (by omega)⟩
   have pS:H8.get S=some (.cells [.int .i64 (n:Int),.map B]):=by rw [x8.get _ (by omega),hfr _ (by omega)];exact hS
   have hD8:dB D' H8 B lo:=hD.ext ⟨by omega,fun b hb=>by rw [x8.get _ (by omega),hfr b hb]⟩;rw [F.dL.aT];simp only [e6,e7,WD,OS,NC,aR,reduceAdd,reduceEqDiff,reduceIte,aZ hi,i1,i2,cp,aj pP,Mq,uj,hs8];simp only [aR,reduceAdd,reduceEqDiff,reduceIte,cp,aj pS,hD8.look hpD];have Vl:∀ hh,bX .slice (.slice p.1 0 p.2.length 1) hh=some (.int .i64 (p.2.length:Int)):=fun _=>rfl;simp only [Vl,an];have hbp:p.2.length<=cE:=by rw [qJ];unfold cE;omega
   refine aD 0 p.2.length (zero_le _) (fun j e h2=>∃ tv ts,h2.get h'.next=some (.cells [.str nm,.int .i64 (mW rules.l nm:Int),tv])/\Own cU 1 (h'.next+1) h2 tv ts/\ts.map Sl.l=wN n Fk nm (mW rules.l nm) j/\bu h' h2/\h'.next+1<=h2.next /\
    e 3 = .ptr 0 0/\e 4 = .ptr 1 0/\e 6 = .ptr P 0/\e 7 = .ptr S 0/\e 9 = .ptr h4.next 0/\e 38=av/\e 39 = .int .i64 ((dS rules.l).length:Int)/\e 40 = .int .i64 (i:Int)/\e 12 = .ptr h'.next 0/\e 57 = .slice p.1 0 p.2.length 1/\e 58 = .int .i64 (p.2.length:Int)/\e 59 = .int .i64 (j:Int))
    ⟨_,[],p8,.nil,rfl,x8,by omega,e3,e4,e6,e7,e9,WD,OS,NC,rfl,rfl,rfl,rfl⟩ ?_ ?_
   ·rintro j e h2 _ hj ⟨tv,ts,q6,ot,Kj,x2,RQ,e3,e4,e6,e7,e9,WD,OS,NC,tO,e57,e58,Y4⟩ K2 Vm fo qL DY;have acJ:ts.length<=j:=by have:=congrArg List.length Kj;rw [length_map] at this;have:=Ks n Fk nm (mW rules.l nm) j;omega
    have ac4:h2.get p.1=some (.cells (p.2.map bv)):=(by rw [x2.get _ (by omega),hfr _ hpn];exact ac2);have pR:=Pg hpD hj;rw [hDF] at pR;have Vn:=Pf n Fk nm (mW rules.l nm) j;rw [F.dL.dm];simp only [e57,e58,Y4,aR,reduceAdd,reduceEqDiff,reduceIte,aZ hj,nK hj,Ic ac4 pR]
    cases hFb:Fk nm j with
    |false=>
     rw [hFb,if_neg (by simp),append_nil] at Vn;simp only [aK,Y4,aI hj hbp,an];exact Vm _ _ ⟨tv,ts,q6,ot,by rw [Vn];exact Kj,x2,RQ,e3,e4,e6,e7,e9,WD,OS,NC,tO,e57,e58,rfl⟩
    |true=>
     rw [hFb,if_pos rfl] at Vn;have w0:h2.get 0=some (.cells (aq s)):=by rw [x2.get _ (by omega),hfr 0 (by omega)];exact p0
     have lz:ag none (.ptr 0 0) h2=some (.int .i64 (n:Int)):=(by rw [aj w0,<- hn];rfl);have la:ag none (.ptr h'.next 1) h2=some (.int .i64 (mW rules.l nm:Int)):=by rw [aj q6];rfl
     have lt:ag none (.ptr h'.next 2) h2=some tv:=(by rw [aj q6];rfl);simp only [aL,e3,tO,Y4,aR,reduceAdd,reduceEqDiff,reduceIte,lz,la];refine ai (gC n1 sI Ii FG (by rw [<- qJ];exact hj) fun t ht=>?_);obtain ⟨a9,h9,c9,o9,f9,n9,w9,b9⟩:=ot.push rF Er RQ (bytes:=24) (by rw [hm];omega) t;have hne:cL tv≠some h'.next:=fun hb=>by have:=ot.ge hb;omega
     have s6:h9.get h'.next=some (.cells [.str nm,.int .i64 (mW rules.l nm:Int),tv]):=by rw [f9 _ (by omega) hne];exact q6
     have c6:=o9.lM
     have st:bf 1 (.ptr h'.next 2) a9 h9=some (h9.set h'.next (.cells [.str nm,.int .i64 (mW rules.l nm:Int),a9])):=by
      rw [cK (n:=1) s6 c6.2.1 c6.1 (by simp),c6.2.2];rfl
     simp only [aR,reduceAdd,reduceEqDiff,reduceIte,tO,lt,NL,c9,st,Y4,aI hj hbp];refine Vm _ _ ⟨a9,ts++[t],by rw [Heap.aP,if_pos rfl],o9.kM (by omega) _,?_,(w9 h' x2 (by omega)).set (dK _) _,by rw [Heap.bp];omega,e3,e4,e6,e7,e9,WD,OS,NC,tO,e57,e58,rfl⟩;rw [map_append,Kj,Vn];simp [ht]
   ·rintro e h2 ⟨tv,ts,q6,ot,Kj,x2,RQ,e3,e4,e6,e7,e9,WD,OS,NC,tO,e57,e58,Y4⟩ K2 fo;have oe:=o.ext x2;obtain ⟨KT,LI⟩:=nD ot;have lq:ag (some 3) (.ptr h'.next 0) h2=some (.agg (iw (nm,(mW rules.l nm:Int),⟨tv,KT,LI⟩))):=by rw [aj q6];rfl
    have q52:h2.get h4.next=some (.cells [.int .i64 s.size,a]):=by rw [x2.get _ (by omega)];exact q5
    have lo:ag none (.ptr h4.next 1) h2=some a:=(by rw [aj q52];rfl);obtain ⟨x,jO,B5⟩:=(jM.AA ot nj).data;have Gx:x.l=ts:=by rw [jO,List.map_map];simp [Function.comp_def]
    obtain ⟨a9,h9,c9,o9,f9,n9,w9,b9⟩:=oe.push me v7 (by omega) (bytes:=48) (by rw [hm];omega) (nm,(mW rules.l nm:Int),⟨tv,KT,LI⟩) ⟨nm,(mW rules.l nm:Int),x⟩ (fun b hb=>by omega)
     (fun g hg=>Mi (B5 g fun b b1 b2 _=>hg b (by omega) b2 (by omega) (fun hb=>by have:=o.own.lt hb;omega)))
    have hne:cL a≠some h4.next:=fun hb=>oe.av _ hb rfl
    have s5:h9.get h4.next=some (.cells [.int .i64 s.size,a]):=by rw [f9 _ (by omega) hne];exact q52
    have c6:=o9.own.lM
    have st:bf 1 (.ptr h4.next 1) a9 h9=some (h9.set h4.next (.cells [.int .i64 s.size,a9])):=by
     rw [cK (n:=1) s5 c6.2.1 c6.1 (by simp),c6.2.2];rfl
    rw [F.dL.dm];simp only [e58,Y4,aR,reduceAdd,reduceEqDiff,reduceIte,aS];rw [fo,F.dL.cq];simp only [aR,reduceAdd,reduceEqDiff,reduceIte,e9,tO,NC,lo,lq,Mh,c9,st,aI hi hdl];refine aga _ _ ⟨a9,_,by rw [Heap.aP,if_pos rfl],o9.afF rfl _,?_,by simp;omega,fun b hb=>?_,?_,fun b hb fq=>by have:=Y3.lt hb;have:=b9 b fq;omega,by rw [Heap.bp];omega,e3,e4,e6,e7,e9,WD,OS,rfl⟩
    ·rw [map_append,hl5,take_add_one,hv];unfold rN;rw [map_append,<- append_assoc];simp only [toList_some,map_cons,map_nil,bZ,Gx,Kj,qJ]
    ·rw [Heap.aP,if_neg (by omega),f9 b (by omega) (fun fq=>by have:=oe.own.ge fq;omega),x2.get b (by omega)];exact hfr b hb
    ·have agc:∀ b,cL av=some b->(h9.set h4.next (.cells [.int .i64 s.size,a9])).get b=h'.get b:=fun b hb=>by
      have b1:=Y3.ge hb;have b2:=Y3.lt hb;rw [Heap.aP,if_neg (by omega),f9 b (by omega) ?_,x2.get b b2];intro fq;exact ac1 b hb fq
     exact Y3.agree agc (by rw [Heap.bp];omega)
  ·rintro e h' ⟨a,l,q5,o,hl5,hlen,hfr,Y3,ac1,oK,e3,e4,e6,e7,e9,WD,OS,NC⟩ K' hx;rw [jD (dK _)] at hl5;obtain ⟨Cu,KW⟩:=nD o.own;have Yc:bx [.int .i64 s.size,a]=true:=by simp only [bx,Bool.and_true] at Cu ⊢;rw [Cu];rfl
   have q1:h'.get 1=some (.cells [.int .i64 0,.ax]):=by rw [hfr 1 (by omega)];exact p1
   have lo:ag (some 2) (.ptr h4.next 0) h'=some (.agg [.int .i64 s.size,a]):=by rw [aj q5];rfl
   have st:bf 2 (.ptr 1 0) (.agg [.int .i64 s.size,a]) h'=some (h'.set 1 (.cells [.int .i64 s.size,a])):=by
    rw [cK (n:=2) (v:=.agg [.int .i64 s.size,a]) q1 rfl Yc (by simp)];rfl
   have RM:ag (some 2) (.ptr 1 0) (h'.set 1 (.cells [.int .i64 s.size,a]))=some (.agg [.int .i64 s.size,a]):=by rw [aj (cs:=[.int .i64 s.size,a]) (by rw [Heap.aP,if_pos rfl])];rfl
   rw [F.dL.aT];simp only [OS,NC,aR,reduceAdd,reduceEqDiff,reduceIte,aS];rw [hx,F.dL.aF];simp only [bL,reduceEqDiff,reduceIte,e4,e9,lo,st,an,Cv,RM,oneOf];obtain ⟨x,jO,fo⟩:=(o.low (d:=1) (by omega) (.cells [.int .i64 s.size,a])).fz;exact Yb _ a x Fk fo hF (by rw [jO,List.map_map];exact hl5)
 have main:=gen (fun o h'=>yes ((∃ e,Ew rules.l s e/\o = .ret (.tuple [.agg (aq ⟨0,none⟩),.int .i64 e]))\/(dZ rules.l s/\∃ (a:AV) (x:Sl Rel) (Fk:Lk),o = .ret (.tuple [.agg [.int .i64 s.size,a],.int .i64 0])/\Fz true h' a (ak aW 3 x)/\nr rules.l s.size.toNat s Fk/\x.l.map bZ=s.aC.l.map bZ++rN rules.l s.size.toNat Fk (dS rules.l))))
  (fun e h' he=>cu.2 (.inl ⟨e,he,rfl⟩)) (fun hr h' a x Fk hf hF hx=>cu.2 (.inr ⟨hr,a,x,Fk,rfl,hf,hF,hx⟩))
 refine main.frozen (by simp [AV.cN,AV.pure,b7 fN,eG]) fun o h' ho=>?_;rcases cu.1 ho with ⟨e,he,rfl⟩|⟨hr,a,x,Fk,rfl,hf,hF,hx⟩
 ·exact ⟨_,_,rfl,.dX (by rfl),Mz e he⟩
 ·have f1:=mu.cons (.scalar (.int .i64 s.size) rfl) (mu.cons hf mu.nil);have f2:=mu.cons (Fz.agg _ _ f1.len f1.rel) (mu.cons (.scalar (.int .i64 0) rfl) mu.nil);exact ⟨_,_,rfl,.tuple _ _ f2.len f2.rel,As hr ⟨s.size,x⟩ rfl ⟨Fk,hF,hx⟩⟩
theorem FL{x:Sl b8}{s:b8}(hl:x.l.length<=cE)(hK:K (.ret (.bool (x.l.any fun x=>x==s))) h=true):Sem TP 86 [ak encS 1 x,.str s] h K:=by
 refine F.sX ?_;rw [F.ur];refine aD 0 x.l.length (zero_le _) (fun i e h'=>h'=h/\e 0=ak encS 1 x/\e 1 = .str s/\e 5 = .int .i64 (i:Int)/\((x.l.take i).any fun x=>x==s)=false) ⟨rfl,rfl,rfl,rfl,rfl⟩ ?_ ?_
 ·rintro i e h' _ hi ⟨rfl,e0,e1,e5,ht⟩ K' hn hx hr hp;have hv:x.l[i]?=some x.l[i]:=ez hi;generalize x.l[i]=t at hv;rw [F.dH.aT];simp only [e0,e1,e5,aR,reduceAdd,reduceEqDiff,reduceIte,aZ hi,aV x hi,jC hv]
  cases hq:(t==s) with
  |true=>
   simp only [aL];rw [hr,F.dH.bz];have:(x.l.any fun x=>x==s)=true:=List.any_eq_true.2 ⟨t,iz hv,hq⟩;rw [this] at hK;simp only [bL,reduceEqDiff,reduceIte];exact hK
  |false=>
   simp only [aK,e5,aI hi hl,an];exact hn _ _ ⟨rfl,e0,e1,rfl,uI hv ht hq⟩
 ·rintro e h' ⟨rfl,e0,e1,e5,ht⟩ K' hx;rw [jD (dK _)] at ht;rw [F.dH.aT];simp only [e0,e5,aR,reduceAdd,reduceEqDiff,reduceIte,aS];rw [hx,F.dH.aF];rw [ht] at hK;exact hK
theorem R9(y:b8×Int):bx (nR y)=true:=rfl
def SX(l:List (b8×Int))(x:b8):Int:=match l.find? (fun p=>p.1==x) with|some p=>p.2|none=>-1
theorem AG(tP:rs.length<=60)(vK:∀ r ∈ rs,r.body.l.length<=20):(cD rs).length<=1260:=by
 have:∀ rs:List aN,(∀ r ∈ rs,r.body.l.length<=20)->(cD rs).length<=rs.length*21:=by
  intro rs
  induction rs with
  |nil=>intro _;simp [cD]
  |cons r rs ih=>
   intro h;have h1:=ih fun q hq=>h q (mem_cons_of_mem _ hq);have h2:=h r mem_cons_self;have h3:=qS r.body.l;unfold cD at h1 ⊢;rw [flatMap_cons,length_append,length_cons];have:(uU r).length=1+(eo r.body.l).length:=by unfold uU;rw [length_cons];omega
   omega
 have:=this rs vK;omega
theorem ew{rules:Sl aN}(tP:rules.l.length<=60)(vK:∀ r ∈ rules.l,r.body.l.length<=20){s:b8}{h:Heap}{K:Out->Heap->Bool}(hK:K (.ret (.int .i64 (SX (cD rules.l) s))) h=true):Sem TP 116 [ak aO 3 rules,.str s] h K:=by
 have hal:=AG tP vK;refine F.BW ?_;rw [F.DM];refine ai (cP tP vK fun x jO=>?_);simp only [aR,reduceAdd,reduceEqDiff,reduceIte];have Nz:x.l.length<=cE:=by rw [jO];unfold cE;omega
 rw [<- jO] at hK;refine aD 0 x.l.length (zero_le _) (fun i e h'=>h'=h/\e 1 = .str s/\e 5=ak nR 2 x/\e 6 = .int .i64 (i:Int)/\∀ p ∈ x.l.take i,p.1≠s) ⟨rfl,rfl,rfl,rfl,fun p hp=>(by cases hp)⟩ ?_ ?_
 ·rintro i e h' _ hi ⟨rfl,e1,e5,e6,yp⟩ K' hn hx hr hp;have hv:x.l[i]?=some x.l[i]:=ez hi;generalize x.l[i]=p at hv;rw [F.ew.aT];simp only [e1,e5,e6,aR,reduceAdd,reduceEqDiff,reduceIte,aZ hi,aV x hi,Kp hv,Mr hv,sE];by_cases hq:p.1=s
  ·simp only [fh hq,aL];rw [hr,F.ew.bz];simp only [bL,reduceEqDiff,reduceIte]
   have:x.l.find? (fun p=>p.1==s)=some p:=by
    rw [find?_eq_some_iff_getElem];refine ⟨by simp [hq],i,hi,(kT.1 hv).2,fun j hj=>?_⟩;have:=yp _ (mem_take_iff_getElem.2 ⟨j,by omega,rfl⟩);simp [this]
   unfold SX at hK;rw [this] at hK;exact hK
  ·simp only [eT hq,aK,e6,aI hi Nz,an];refine hn _ _ ⟨rfl,e1,e5,rfl,fun q nW=>?_⟩;rw [take_add_one,hv] at nW;rcases mem_append.1 nW with nW|nW
   ·exact yp q nW
   ·simp only [toList_some,mem_singleton] at nW;subst nW;exact hq
 ·rintro e h' ⟨rfl,e1,e5,e6,yp⟩ K' hx;rw [jD (dK _)] at yp;rw [F.ew.aT];simp only [e5,e6,aR,reduceAdd,reduceEqDiff,reduceIte,aS];rw [hx,F.ew.aF]
  have:x.l.find? (fun p=>p.1==s)=none:=by
   rw [find?_eq_none];intro q hq;simp [yp q hq]
  unfold SX at hK;rw [this] at hK;exact hK
theorem Iv(iE:dR rs []=some m){k:Int}(h:(x,k) ∈ cD rs):SX (cD rs) x=k:=by
 unfold SX
 cases hf:(cD rs).find? (fun p=>p.1==x) with
 |none=>
  rw [find?_eq_none] at hf;exact absurd (hf _ h) (by simp)
 |some p=>
  have h1:=mem_of_find?_eq_some hf;have h2:=find?_some hf;rw [beq_iff_eq] at h2;simp only;exact mj iE (x:=x) (by rw [<- h2];exact h1) h
theorem Sa(iE:dR rs []=some m)(h:x ∈ bA rs):SX (cD rs) x=(mW rs x:Int):=by
 obtain ⟨r,hr,rG⟩:=mem_map.1 h;rw [<- rG,Iv iE (kE hr),Iu iE hr]
def qb(ds:List b8)(ys:List (b8×Int)):List b8:=ys.foldl (fun o y=>if y.1 ∈ ds then o else eY o y.1) []
theorem Kt{ds:List b8}{ys:List (b8×Int)}{y:b8×Int}(hy:ys[i]?=some y):qb ds (ys.take (i+1))=if y.1 ∈ ds then qb ds (ys.take i) else eY (qb ds (ys.take i)) y.1:=by
 unfold qb;rw [take_add_one,hy];simp
theorem Ey{ds:List b8}:∀ {ys:List (b8×Int)},x ∈ qb ds ys↔∃ y ∈ ys,y.1=x/\x ∉ ds:=by
 have key:∀ (ys:List (b8×Int)) (o:List b8),x ∈ ys.foldl (fun o y=>if y.1 ∈ ds then o else eY o y.1) o↔(x ∈ o\/∃ y ∈ ys,y.1=x/\x ∉ ds):=by
  intro ys
  induction ys with
  |nil=>intro o;simp
  |cons y ys ih=>
   intro o;rw [foldl_cons,ih];by_cases hd:y.1 ∈ ds
   ·rw [if_pos hd];constructor
    ·rintro (h|⟨z,hz,h1,h2⟩)
     ·exact .inl h
     ·exact .inr ⟨z,mem_cons_of_mem _ hz,h1,h2⟩
    ·rintro (h|⟨z,hz,h1,h2⟩)
     ·exact .inl h
     ·rcases mem_cons.1 hz with rfl|hz
      ·exact absurd (h1▸hd) h2
      ·exact .inr ⟨z,hz,h1,h2⟩
   ·rw [if_neg hd,sF];constructor
    ·rintro ((h|h)|⟨z,hz,h1,h2⟩)
     ·exact .inl h
     ·exact .inr ⟨y,mem_cons_self,h.symm,by rw [h];exact hd⟩
     ·exact .inr ⟨z,mem_cons_of_mem _ hz,h1,h2⟩
    ·rintro (h|⟨z,hz,h1,h2⟩)
     ·exact .inl (.inl h)
     ·rcases mem_cons.1 hz with rfl|hz
      ·exact .inl (.inr h1.symm)
      ·exact .inr ⟨z,hz,h1,h2⟩
 intro ys;unfold qb;rw [key];simp
theorem ym(ds:List b8):∀ (ys:List (b8×Int)),(qb ds ys).length<=ys.length:=by
 have key:∀ (ys:List (b8×Int)) (o:List b8),(ys.foldl (fun o y=>if y.1 ∈ ds then o else eY o y.1) o).length<=o.length+ys.length:=by
  intro ys
  induction ys with
  |nil=>intro o;simp
  |cons y ys ih=>
   intro o;rw [foldl_cons];have h1:=ih (if y.1 ∈ ds then o else eY o y.1)
   have h2:(if y.1 ∈ ds then o else eY o y.1).length<=o.length+1:=by
    split
    ·omega
    ·exact ye o y.1
   rw [length_cons];omega
 intro ys;have:=key ys [];simpa [qb] using this
def GV(rs:List aN):List (b8×Int):=(qb (dS rs) (cD rs)).map fun s=>(s,SX (cD rs) s)
theorem Vo{l:List b8}{s:b8}:(l.any fun x=>x==s)=decide (s ∈ l):=by
 rw [Bool.eq_iff_iff,List.any_eq_true,decide_eq_true_iff];constructor
 ·rintro ⟨x,hx,e⟩;rw [beq_iff_eq] at e;rw [<- e];exact hx
 ·intro h;exact ⟨s,h,by simp⟩
set_option maxHeartbeats 1000000 in
theorem cz{rules:Sl aN}(tP:rules.l.length<=60)(vK:∀ r ∈ rules.l,r.body.l.length<=20){h:Heap}{K:Out->Heap->Bool}(hK:∀ x:Sl (b8×Int),x.l=GV rules.l->K (.ret (ak nR 2 x)) h=true):Sem TP 68 [ak aO 3 rules] h K:=by
 have hm:cG=140737488355328:=rfl;have hal:=AG tP vK;have hdl:=pV rules.l
 have main:Sem TP 68 [ak aO 3 rules] Heap.empty (fun o h'=>yes (∃ v,∃ x:Sl (b8×Int),o = .ret v/\x.l=GV rules.l/\Fz true h' v (ak nR 2 x))):=by
  refine F.zg ?_;rw [F.Am];refine ai (dF tP fun d hd1=>?_);simp only [aR,reduceAdd,reduceEqDiff,reduceIte];refine ai (cP tP vK fun x jO=>?_);simp only [aR,reduceAdd,reduceEqDiff,reduceIte];have Gx:x.l.length<=1260:=by rw [jO];exact hal
  have Nz:x.l.length<=cE:=by unfold cE;omega
  have hdb:d.l.length<=cE:=by rw [hd1];unfold cE;omega
  refine aD 0 x.l.length (zero_le _) (fun i e h'=>∃ a,Own encS 1 0 h' a (qb (dS rules.l) (x.l.take i))/\e 0=ak aO 3 rules/\e 3=ak encS 1 d/\e 4=a/\e 5=ak nR 2 x/\e 6 = .int .i64 (i:Int)) ⟨.ax,.nil,rfl,rfl,rfl,rfl,rfl⟩ ?_ ?_
  ·rintro i e h' _ hi ⟨a,o,e0,e3,e4,e5,e6⟩ K' hn hx hr hp;have hv:x.l[i]?=some x.l[i]:=ez hi;generalize x.l[i]=y at hv;have iJ:=Kt (ds:=dS rules.l) hv;rw [F.cz.aT];simp only [e3,e5,e6,aR,reduceAdd,reduceEqDiff,reduceIte,aZ hi,aV x hi,Kp hv];refine ai (FL hdb ?_);rw [Vo,hd1];simp only [aR,reduceAdd,reduceEqDiff,reduceIte];by_cases B9:y.1 ∈ dS rules.l
   ·rw [if_pos B9] at iJ;simp only [fh B9,Bool.not_true,aK,e6,aI hi Nz,an];exact hn _ _ ⟨a,by rw [iJ];exact o,e0,e3,e4,e5,rfl⟩
   ·rw [if_neg B9] at iJ;simp only [eT B9,Bool.not_false,aL,e4,e5,e6,aR,reduceAdd,reduceEqDiff,reduceIte,aV x hi,Kp hv];refine ai (eD o (zero_le _) (by have h1:=ym (dS rules.l) (x.l.take i);have h2:=length_take_le i x.l;omega) fun a1 h1 x1 o1=>?_);simp only [aR,reduceAdd,reduceEqDiff,reduceIte,e6,aI hi Nz];exact hn _ _ ⟨a1,by rw [iJ];exact o1,e0,e3,rfl,e5,rfl⟩
  ·rintro e h' ⟨a,o,e0,e3,e4,e5,e6⟩ K' hx;rw [jD (dK _),jO] at o;have hol:=ym (dS rules.l) (cD rules.l);have hos:∃ os,os=qb (dS rules.l) (cD rules.l):=⟨_,rfl⟩
   obtain ⟨os,hos⟩:=hos;rw [<- hos] at o hol;have hob:os.length<=cE:=by unfold cE;omega
   rw [F.cz.aT];simp only [e5,e6,aR,reduceAdd,reduceEqDiff,reduceIte,aS];rw [hx,F.cz.aF]
   refine aD 0 os.length (zero_le _) (fun i e h2=>∃ b,(∀ c,cL a=some c->h2.get c=h'.get c)/\h'.next<=h2.next/\Own nR 2 h'.next h2 b ((os.take i).map fun s=>(s,SX (cD rules.l) s))/\e 0=ak aO 3 rules/\e 4=a/\e 7=b/\e 8 = .int .i64 (i:Int))
    ⟨.ax,fun _ _=>rfl,dK _,.nil,e0,e4,rfl,rfl⟩ ?_ ?_
   ·rintro i e h2 _ hi ⟨b,hfr,oK,ob,e0,e4,e7,e8⟩ K2 qj fo qL DY;have hv:os[i]?=some os[i]:=ez hi;generalize os[i]=s at hv;have o2:=o.agree hfr oK;obtain ⟨q,_,i1,i2⟩:=uH o2 hv;obtain ⟨a5,h5,p5,o5,f5,n5,x5,b5⟩:=ob.push pM R9 oK (bytes:=24) (by rw [hm,length_map,length_take];omega) (s,SX (cD rules.l) s);rw [F.cz.dm];simp only [e0,e4,e7,e8,o2.len,aR,reduceAdd,reduceEqDiff,reduceIte,aZ hi,i1,i2];refine ai (ew tP vK ?_);simp only [aR,reduceAdd,reduceEqDiff,reduceIte,i2,AV.beq_refl,Bool.and_self,if_true,QY,QZ,p5,e8,aI hi hob];refine qj _ _ ⟨a5,fun c hc=>by rw [f5 c (by have:=o.lt hc;omega) (fun hb=>by have:=ob.ge hb;have:=o.lt hc;omega)];exact hfr c hc,by omega,?_,e0,e4,rfl,rfl⟩;rw [take_add_one,hv,map_append];exact o5
   ·rintro e h2 ⟨b,hfr,oK,ob,e0,e4,e7,e8⟩ K2 fo;rw [jD (dK _)] at ob;have o2:=o.agree hfr oK;rw [F.cz.dm];simp only [e4,e8,o2.len,aR,reduceAdd,reduceEqDiff,reduceIte,aS];rw [fo,F.cz.cq];simp only [bL,reduceEqDiff,reduceIte,e7]
    obtain ⟨y,hy1,hy2⟩:=ob.LV (fun v y hy=>by
     simp only [nR,mem_cons,not_mem_nil,_root_.or_false] at hy
     rcases hy with rfl|rfl<;>exact .scalar _ rfl)
    exact cu.2 ⟨b,y,rfl,by rw [hy1,hos];rfl,hy2⟩
 refine main.frozen (by simp [AV.cN,b7 fN]) fun o h' ho=>?_;obtain ⟨v,x,rfl,hx,hf⟩:=cu.1 ho;exact ⟨v,_,rfl,hf,hK x hx⟩
theorem Ku(iE:dR rs []=some m)(qC:cY s=true):(GV rs).all (B7 s)=true↔¬ ∃ p ∈ cD rs,p.1 ∉ bA rs/\s.aC.l.find? (gY p.1 p.2)=none:=by
 rw [List.all_eq_true];constructor
 ·rintro h ⟨p,hp,hd,hf⟩;have hin:(p.1,SX (cD rs) p.1) ∈ GV rs:=mem_map.2 ⟨p.1,Ey.2 ⟨p,hp,rfl,fun sW=>hd ((eF rs).1 sW)⟩,rfl⟩;have h1:=h _ hin;rw [Iv iE (show (p.1,p.2) ∈ cD rs from hp),Kf qC,hf] at h1;cases h1
 ·intro h y hy;obtain ⟨x,hx,rfl⟩:=mem_map.1 hy;obtain ⟨p,hp,rfl,hd⟩:=Ey.1 hx;rw [Iv iE (show (p.1,p.2) ∈ cD rs from hp),Kf qC]
  cases hf:s.aC.l.find? (gY p.1 p.2) with
  |some _=>rfl
  |none=>exact absurd ⟨p,hp,fun sW=>hd ((eF rs).2 sW),hf⟩ h
theorem mo:∀ {a b c:List Int},dy a b=true->dy b c=true->dy a c=true
 |x :: a,y :: b,z :: c,h1,h2=>by
  rw [dy] at h1 h2 ⊢;by_cases e1:x=y
  ·rw [if_pos e1] at h1;subst e1;by_cases e2:x=z
   ·rw [if_pos e2] at h2 ⊢;exact mo h1 h2
   ·rw [if_neg e2] at h2 ⊢;exact h2
  ·rw [if_neg e1] at h1;have q1:=of_decide_eq_true h1;by_cases e2:y=z
   ·subst e2;rw [if_neg e1];exact h1
   ·rw [if_neg e2] at h2;have q2:=of_decide_eq_true h2;rw [if_neg (by omega)];exact fh (by omega)
 |[],_,_,h1,_=>by simp [dy] at h1
 |_ :: _,[],_,h1,_=>by simp [dy] at h1
 |_ :: _,_ :: _,[],_,h2=>by simp [dy] at h2
def kG(l:List (List Int)):Prop:=l.Pairwise fun a b=>dy a b=true
def Vp(n k:Nat)(l:List (List Int)):Prop:=(∀ t ∈ l,t.length=k/\iY n t=true)/\kG l
theorem Ez:∀ {l:List (List Int)},(∀ i a b,l[i]?=some a->l[i+1]?=some b->dy a b=true)->kG l
 |[],_=>.nil
 |x :: l,h=>by
  have ih:kG l:=Ez fun i a b ha hb=>h (i+1) a b (by simpa using ha) (by simpa using hb);refine pairwise_cons.2 ⟨fun y hy=>?_,ih⟩
  cases l with
  |nil=>cases hy
  |cons z l=>
   have hz:=h 0 x z rfl rfl;rcases mem_cons.1 hy with rfl|hy
   ·exact hz
   ·exact mo hz ((pairwise_cons.1 ih).1 y hy)
theorem EA{l:List (List Int)}(hs:kG l){a b:List Int}(ha:l[i]?=some a)(hb:l[i+1]?=some b):dy a b=true:=by
 obtain ⟨h1,rfl⟩:=kT.1 ha;obtain ⟨h2,rfl⟩:=kT.1 hb;exact pairwise_iff_getElem.1 hs i (i+1) h1 h2 (lt_succ_self i)
theorem Kv{l:List (Sl Int)}:zn n k l=true↔Vp n k (l.map Sl.l):=by
 constructor
 ·intro h;refine ⟨fun t ht=>?_,Ez fun i a b ha hb=>?_⟩
  ·obtain ⟨u,hu,rfl⟩:=mem_map.1 ht;obtain ⟨i,hi⟩:=getElem?_of_mem hu;exact Mg h hi
  ·rw [getElem?_map] at ha hb;obtain ⟨p,hp,rfl⟩:=map_eq_some_iff.1 ha;obtain ⟨t,ht,rfl⟩:=map_eq_some_iff.1 hb;have:=zw h (kT.1 ht).1;unfold mK at this;rw [ht] at this;simp only [hp,and_eq_true] at this;exact this.2.2
 ·rintro ⟨h1,h2⟩;refine oT fun i hi=>?_;have ht:l[i]?=some l[i]:=ez hi;generalize l[i]=t at ht;obtain ⟨q1,q2⟩:=h1 t.l (List.mem_map_of_mem (iz ht));unfold mK;rw [ht];simp only [q1,q2,decide_true,Bool.true_and]
  cases i with
  |zero=>rfl
  |succ j=>
   have hj:j<l.length:=by omega
   have hp:l[j]?=some l[j]:=ez hj;generalize l[j]=p at hp;simp only [hp];exact EA h2 (i:=j) (by rw [getElem?_map,hp];rfl) (by rw [getElem?_map,ht];rfl)
theorem Vq{l:List (List Int)}(h:Vp n k l):l.length<=n ^ k:=by
 have key:∀ i a,l[i]?=some a->i<=kS n a:=by
  intro i
  induction i with
  |zero=>intro a _;exact zero_le _
  |succ i ih=>
   intro b hb;have hi:i<l.length:=by have:=(kT.1 hb).1;omega
   have ha:l[i]?=some l[i]:=ez hi;generalize l[i]=a at ha;have:=ih a ha;obtain ⟨a1,a2⟩:=h.1 a (iz ha);obtain ⟨b1,b2⟩:=h.1 b (iz hb);have:=GH (by omega) a2 b2 (EA h.2 ha hb);omega
 cases hl:l.length with
 |zero=>exact zero_le _
 |succ m=>
  have hm:l[m]?=some (l[m]'(by omega)):=ez _;have h1:=key m _ hm;obtain ⟨a1,a2⟩:=h.1 _ (iz hm);have h2:=qO a2;rw [a1] at h2;omega
def ac6(n:Nat)(d:L7):Prop:=ey d.1=true/\∃ k:Nat,d.2.1=(k:Int)/\k<=12/\n ^ k<=4096/\Vp n k d.2.2
theorem Kw{r:Rel}:nT n r=true↔ac6 n (bZ r):=by
 constructor
 ·intro h;obtain ⟨k,h1,h2,h3,h4⟩:=vV h;simp only [nT,and_eq_true] at h;exact ⟨h.1,k,h1,h2,h3,Kv.1 h4⟩
 ·rintro ⟨h0,k,h1,h2,h3,h4⟩;have VZ:r.arity=(k:Int):=h1;have hk:r.arity.toNat=k:=by omega
  simp only [nT,and_eq_true,decide_eq_true_eq,hk];exact ⟨h0,by omega,by omega,h3,Kv.2 h4⟩
structure Kx (size:Int) (ds:List L7):Prop where
 lo:1<=size
 hi:size<=64
 lJ:ds.length<=8
 rel:∀ d ∈ ds,ac6 size.toNat d
 names:(ds.map (·.1)).Nodup
theorem gE:cY s=true↔Kx s.size (s.aC.l.map bZ):=by
 constructor
 ·intro h;have h':=h;simp only [cY,and_eq_true,decide_eq_true_eq] at h';refine ⟨h'.1,h'.2.1,by simpa using h'.2.2.1,fun d hd=>?_,?_⟩
  ·obtain ⟨r,hr,rfl⟩:=mem_map.1 hd;obtain ⟨i,hi⟩:=getElem?_of_mem hr;exact Kw.1 (rL h hi)
  ·have:=lP h;rw [List.map_map];exact this
 ·rintro ⟨h1,h2,h3,h4,h5⟩;rw [length_map] at h3;simp only [cY,and_eq_true,decide_eq_true_eq];refine ⟨h1,h2,h3,oT fun i hi=>?_⟩;have hr:s.aC.l[i]?=some s.aC.l[i]:=ez hi;have yo:=hr;generalize s.aC.l[i]=r at hr;rw [pQ,hr];simp only [and_eq_true,not_eq_true'];refine ⟨Kw.2 (h4 _ (List.mem_map_of_mem (iz hr))),?_⟩;rw [eq_false_iff];intro agd;obtain ⟨q,hq,rQ⟩:=List.any_eq_true.1 agd;obtain ⟨j,hj⟩:=getElem?_of_mem hq;have hji:j<i:=by have:=(kT.1 hj).1;rw [length_take] at this;omega
  rw [getElem?_take_of_lt hji] at hj;rw [List.map_map,List.Nodup,pairwise_iff_getElem] at h5;have Ht:j<s.aC.l.length:=by omega
  have:=h5 j i (by simpa using Ht) (by simpa using hi) hji;rw [getElem_map,getElem_map] at this;rw [ez Ht] at hj;rw [ez hi] at hr;cases hj;cases hr;simp only [beq_iff_eq] at rQ;exact this rQ
theorem ff(h:cY s=true):s.small/\s.ok:=by
 have hp:=gE.1 h
 have len:∀ r ∈ s.aC.l,r.aM.l.length<=4096/\(∀ t ∈ r.aM.l,t.l.length<=12)/\r.name.length<=12:=fun r hr=>by
  obtain ⟨h0,k,h1,h2,h3,h4⟩:=hp.rel _ (List.mem_map_of_mem hr);have:=Vq h4;simp only [bZ,length_map] at this;refine ⟨by omega,fun t ht=>?_,?_⟩
  ·have:=(h4.1 t.l (List.mem_map_of_mem ht)).1;omega
  ·replace h0:ey r.name=true:=h0;unfold ey at h0;split at h0
   ·cases h0
   ·simp only [and_eq_true,decide_eq_true_eq] at h0;exact h0.1
 have hl:s.aC.l.length<=8:=by have:=hp.lJ;simpa using this
 exact ⟨⟨by omega,fun r hr=>by have:=(len r hr).1;omega,fun r hr t ht=>by have:=(len r hr).2.1 t ht;omega⟩,
  ⟨by unfold cE;omega,fun r hr=>⟨by have:=(len r hr).2.2;unfold cE;omega,by have:=(len r hr).1;unfold cE;omega,fun t ht=>by have:=(len r hr).2.1 t ht;unfold cE;omega⟩⟩⟩
def mO(rs:List aN)(WB:List b8):List Rel:=WB.map fun nm=>⟨nm,(mW rs nm:Int),none⟩
def jt(rs:List aN)(WB:List b8):List L7:=WB.map fun nm=>(nm,(mW rs nm:Int),[])
theorem nu(rs:List aN)(WB:List b8):(mO rs WB).map bZ=jt rs WB:=by unfold mO jt;rw [List.map_map];rfl
theorem Pj(s:St):dG TP s Tryz.f70.results.toList=(match ag (some 2) (s.env 4) s.h,(some []:Option (List AV)) with|some v,some vs=>some (v :: vs)|_,_=>none):=by kernel_rfl
theorem Vr(nm:b8)(k:Int):iD [.str [],.int .i64 0,.ax] [(0,1),(1,1)] [.str nm,.int .i64 k]=some (.agg (aW ⟨nm,k,none⟩)):=rfl
set_option maxHeartbeats 1000000 in
theorem gm{rules:Sl aN}{s:di}{m:eP}(tP:rules.l.length<=60)(vK:∀ r ∈ rules.l,r.body.l.length<=20)(iE:dR rules.l []=some m)(SW:s.small){h:Heap}{K:Out->Heap->Bool}
  (hK:∀ a h' rs1,bu h h'->Own aW 3 h.next h' a (rs1++mO rules.l (dS rules.l))->rs1.map bZ=s.aC.l.map bZ->K (.ret (.agg [.int .i64 s.size,a])) h'=true):Sem TP 70 [ak aO 3 rules,.agg (aq s)] h K:=by
 have hm:cG=140737488355328:=rfl;have hdl:=pV rules.l;refine F.BX ?_;rw [F.DN];simp only [dg (cA s),an,Heap.aJ];have g0:(Heap.alloc (Heap.alloc h (.cells (aq s))) (.cells [.int .i64 0,.ax])).get h.next=some (.cells (aq s)):=by rw [Heap.aQ,Heap.aJ,if_neg (by omega)];exact aA _ _
 have g1:(Heap.alloc (Heap.alloc h (.cells (aq s))) (.cells [.int .i64 0,.ax])).get (h.next+1)=some (.cells [.int .i64 0,.ax]):=aA _ _;have gn:(Heap.alloc (Heap.alloc h (.cells (aq s))) (.cells [.int .i64 0,.ax])).next=h.next+2:=rfl
 have gx:bu h (Heap.alloc (Heap.alloc h (.cells (aq s))) (.cells [.int .i64 0,.ax])):=(bu.alloc _ _).trans (bu.alloc _ _);generalize (Heap.alloc (Heap.alloc h (.cells (aq s))) (.cells [.int .i64 0,.ax]))=H1 at g0 g1 gn gx ⊢;have l0:ag (some 2) (.ptr h.next 0) H1=some (.agg (aq s)):=by rw [aj g0,cV (cs:=aq s) (n:=2) rfl]
 simp only [l0,an];refine ai (gW SW fun a h3 rs x3 o3 Eo=>?_);obtain ⟨Cu,KW⟩:=nD o3;have B8:bx [.int .i64 s.size,a]=true:=by simp only [bx,Bool.and_true] at Cu ⊢;rw [Cu];rfl
 obtain ⟨H4,PS,p4,Mj,XY⟩:=cx (h:=h3) (zs:=[.int .i64 0,.ax]) (cs:=[.int .i64 s.size,a]) (n:=2) rfl rfl B8;have x4:bu h3 H4:=⟨by omega,fun b hb=>Mj b (by omega)⟩
 have n3:=x3.next
 rw [gn] at o3 n3;have x34:=(gx.trans x3).trans x4;simp only [aR,reduceAdd,reduceEqDiff,reduceIte,PS];refine ai (dF tP fun d hd1=>?_);have ak5:d.l.length<=60:=by rw [hd1];omega
 have hdb:d.l.length<=cE:=by unfold cE;omega
 have hrl:=SW.aC;have ak6:rs.length=s.aC.l.length:=by have:=congrArg List.length Eo;simpa using this
 simp only [aR,reduceAdd,reduceEqDiff,reduceIte]
 refine aD 0 d.l.length (zero_le _) (fun i e h'=>∃ a,h'.get h3.next=some (.cells [.int .i64 s.size,a])/\h'.get (h.next+1)=some (.cells [.int .i64 0,.ax])/\Own aW 3 (h.next+2) h' a (rs++mO rules.l (d.l.take i))/\cL a≠some h3.next/\(∀ b,b<h.next->h'.get b=h.get b)/\h3.next<h'.next /\
  e 0=ak aO 3 rules/\e 4 = .ptr (h.next+1) 0/\e 5 = .ptr h3.next 0/\e 6=ak encS 1 d/\e 7 = .int .i64 (i:Int))
  ⟨a,p4,by rw [x4.get _ (by omega),x3.get _ (by omega)];exact g1,by simpa [mO] using o3.ext x4,fun hb=>by have:=o3.lt hb;omega,fun b hb=>x34.get b hb,by omega,rfl,rfl,rfl,rfl,rfl⟩ ?_ ?_
 ·rintro i e h' _ hi ⟨a,q3,q1,o,hne,hfr,oK,e0,e4,e5,e6,e7⟩ K' hn hx hr hp;have hv:d.l[i]?=some d.l[i]:=ez hi;generalize d.l[i]=nm at hv;have pU:nm ∈ bA rules.l:=(eF _).1 (by rw [<- hd1];exact iz hv);have lo:ag none (.ptr h3.next 1) h'=some a:=by rw [aj q3];rfl
  have li:∀ hh,ag none (.ef (d.l.flatMap encS) (i*1)) hh=some (.str nm):=fun hh=>jC hv;obtain ⟨a5,h5,p5,o5,f5,n5,x5,b5⟩:=o.push eC fY (by omega) (bytes:=48) (by rw [hm,length_append];unfold mO;rw [length_map,length_take];omega) ⟨nm,(mW rules.l nm:Int),none⟩;have s3:h5.get h3.next=some (.cells [.int .i64 s.size,a]):=by rw [f5 _ (by omega) hne];exact q3
  have c5:=o5.lM
  have st:bf 1 (.ptr h3.next 1) a5 h5=some (h5.set h3.next (.cells [.int .i64 s.size,a5])):=by
   rw [cK (n:=1) s3 c5.2.1 c5.1 (by simp),c5.2.2];rfl
  rw [F.gm.aT];simp only [e0,e5,e6,e7,aR,reduceAdd,reduceEqDiff,reduceIte,aZ hi,lo,aV d hi,li];refine ai (ew tP vK ?_);rw [Sa iE pU];simp only [aR,reduceAdd,reduceEqDiff,reduceIte,li,lo,AV.beq_refl,Bool.and_self,Bool.and_true,if_true,Vr,NK,p5,e5,e7,st,aI hi hdb];refine hn _ _ ⟨a5,by rw [Heap.aP,if_pos rfl],by rw [Heap.aP,if_neg (by omega),f5 _ (by omega) (fun hb=>by have:=o.ge hb;omega)];exact q1,?_,fun hb=>by have:=b5 _ hb;omega,fun b hb=>?_,by rw [Heap.bp];omega,e0,e4,e5,e6,rfl⟩
  ·have hl:rs++mO rules.l (d.l.take (i+1))=(rs++mO rules.l (d.l.take i))++[⟨nm,(mW rules.l nm:Int),none⟩]:=by
    rw [take_add_one,hv];unfold mO;rw [map_append,<- append_assoc];rfl
   rw [hl];exact o5.agree (fun b hb=>by rw [Heap.aP,if_neg (by have:=b5 _ hb;omega)]) (by rw [Heap.bp];exact dK _)
  ·rw [Heap.aP,if_neg (by omega),f5 b (by omega) (fun fq=>by have:=o.ge fq;omega)];exact hfr b hb
 ·rintro e h' ⟨a,q3,q1,o,hne,hfr,oK,e0,e4,e5,e6,e7⟩ K' hx;rw [jD (dK _),hd1] at o;obtain ⟨Cu,KW⟩:=nD o;have Yc:bx [.int .i64 s.size,a]=true:=by simp only [bx,Bool.and_true] at Cu ⊢;rw [Cu];rfl
  have lo:ag (some 2) (.ptr h3.next 0) h'=some (.agg [.int .i64 s.size,a]):=by rw [aj q3];rfl
  have st:bf 2 (.ptr (h.next+1) 0) (.agg [.int .i64 s.size,a]) h'=some (h'.set (h.next+1) (.cells [.int .i64 s.size,a])):=by
   rw [cK (n:=2) (v:=.agg [.int .i64 s.size,a]) q1 rfl Yc (by simp)];rfl
  have RM:ag (some 2) (.ptr (h.next+1) 0) (h'.set (h.next+1) (.cells [.int .i64 s.size,a]))=some (.agg [.int .i64 s.size,a]):=by rw [aj (cs:=[.int .i64 s.size,a]) (by rw [Heap.aP,if_pos rfl])];rfl
  rw [F.gm.aT];simp only [e6,e7,aR,reduceAdd,reduceEqDiff,reduceIte,aS];rw [hx,F.gm.aF];simp only [bL,reduceEqDiff,reduceIte,e4,e5,lo,st,an,Pj,RM,oneOf];exact hK a _ rs ⟨by rw [Heap.bp];omega,fun b hb=>by rw [Heap.aP,if_neg (by omega)];exact hfr b hb⟩ ((o.kM (by omega) _).B3 (by omega)) Eo
theorem FM{n:Int}{a:AV}{rs:List Rel}(o:Own aW 3 k h a rs)(l9:(⟨n,some rs⟩:di).ok)(hK:K (.ret (.bool (cY ⟨n,some rs⟩))) h=true):Sem TP 66 [.agg [.int .i64 n,a]] h K:=by
 obtain ⟨x,jO,fo⟩:=o.LV (fun v y hy=>by
  simp only [aW,mem_cons,not_mem_nil,_root_.or_false] at hy;rcases hy with rfl|rfl|rfl
  ·exact .scalar _ rfl
  ·exact .scalar _ rfl
  ·exact .dX (b7 nj _))
 have Yd:(⟨n,x⟩:di).ok:=by
  obtain ⟨q1,q2⟩:=l9;exact ⟨by show x.l.length<=cE;rw [jO];exact q1,fun r hr=>q2 r (by have:r ∈ x.l:=hr;rw [jO] at this;exact this)⟩
 have he:cY ⟨n,x⟩=cY ⟨n,some rs⟩:=by
  rw [Bool.eq_iff_iff,gE,gE];show Kx n (x.l.map bZ)↔Kx n (rs.map bZ);rw [jO]
 have hs:=ct (s:=⟨n,x⟩) Yd (h:=Heap.empty) (K:=qN (.bool (cY ⟨n,x⟩))) (gd rfl);rw [<- he] at hK;have fl:=mu.cons (.scalar (.int .i64 n) rfl) (mu.cons fo mu.nil);exact Sem.Wn rfl hs (mu.cons (.agg _ _ fl.len fl.rel) .nil) hK
theorem Bt{rs':List Rel}(hg:k8 rs)(iE:dR rs []=some m)(qC:cY s=true)(h4:¬ ∃ r ∈ s.aC.l,r.name ∈ bA rs)(Eo:rs'.map bZ=s.aC.l.map bZ++jt rs (dS rs)) :
  cY ⟨s.size,some rs'⟩=true↔¬ (8<s.aC.l.length+(dS rs).length\/∃ r ∈ rs,4096<s.size.toNat ^ r.args.l.length):=by
 have hsp:=gE.1 qC;have hlen:rs'.length=s.aC.l.length+(dS rs).length:=by have:=congrArg List.length Eo;simpa [jt] using this
 rw [gE];show Kx s.size (rs'.map bZ)↔_;rw [Eo];constructor
 ·rintro ⟨q1,q2,q3,q4,q5⟩ (hb|⟨r,hr,hb⟩)
  ·rw [length_append,length_map] at q3;unfold jt at q3;rw [length_map] at q3;omega
  ·have hm:(r.name,(mW rs r.name:Int),([]:List (List Int))) ∈ s.aC.l.map bZ++jt rs (dS rs):=mem_append_right _ (mem_map.2 ⟨r.name,(eF rs).2 (List.mem_map_of_mem hr),rfl⟩);obtain ⟨_,k,h1,h2,h3,_⟩:=q4 _ hm;rw [Iu iE hr] at h1;have:k=r.args.l.length:=by simp only at h1;omega
   rw [this] at h3;omega
 ·intro yp;have hd8:s.aC.l.length+(dS rs).length<=8:=Nat.le_of_not_lt fun h=>yp (.inl h);refine ⟨hsp.lo,hsp.hi,by rw [length_append,length_map];unfold jt;rw [length_map];exact hd8,fun d hd=>?_,?_⟩
  ·rcases mem_append.1 hd with hd|hd
   ·exact hsp.rel d hd
   ·obtain ⟨nm,pU,rfl⟩:=mem_map.1 hd;obtain ⟨_,r,hr,rG,Ph⟩:=sO iE ((eF rs).1 pU);have B6:=(jo iE r hr).1;refine ⟨by rw [<- rG];exact yd B6,mW rs nm,rfl,by rw [Ph];exact oU B6,?_,fun t ht=>(by cases ht),List.Pairwise.nil⟩;rw [Ph];exact Nat.le_of_not_lt fun h=>yp (.inr ⟨r,hr,h⟩)
  ·rw [map_append];have e2:(jt rs (dS rs)).map (·.1)=dS rs:=by unfold jt;rw [List.map_map];simp [Function.comp_def]
   rw [e2];refine nodup_append.2 ⟨hsp.names,Bn (qy rs),fun x hx y hy e=>?_⟩;subst e;rw [List.map_map] at hx;obtain ⟨r,hr,rG⟩:=mem_map.1 hx;exact h4 ⟨r,hr,by have:=(eF rs).1 hy;rw [<- rG] at this;exact this⟩
set_option maxHeartbeats 2000000 in
theorem bH{rules:Sl aN}{s:di}(l9:∀ r ∈ rules.l,r.ok)(iV:∀ r ∈ rules.l,r.lJ)(k9:s.ok){h:Heap}{K:Out->Heap->Bool}
  (Mz:∀ e,Ew rules.l s e->K (.ret (.int .i64 e)) h=true) (As:dZ rules.l s->K (.ret (.int .i64 0)) h=true):Sem TP 23 [ak aO 3 rules,.agg (aq s)] h K:=by
 have gen:∀ R:Out->Heap->Bool,(∀ e h',(Ew rules.l s e\/(e=0/\dZ rules.l s))->R (.ret (.int .i64 e)) h'=true)->Sem TP 23 [ak aO 3 rules,.agg (aq s)] Heap.empty R:=by
  intro R fin;refine F.BV ?_;rw [F.DL];simp only [dg (cA s),an,bJ];have g0:(Heap.empty.alloc (.cells (aq s))).get 0=some (.cells (aq s)):=aA _ _;have gn:(Heap.empty.alloc (.cells (aq s))).next=1:=rfl
  generalize (Heap.empty.alloc (.cells (aq s)))=H at g0 gn ⊢;have l0:ag (some 2) (.ptr 0 0) H=some (.agg (aq s)):=by rw [aj g0,cV (cs:=aq s) (n:=2) rfl]
  refine ai (bE l9 iV fun b hb=>?_);simp only [aR,reduceAdd,reduceEqDiff,reduceIte]
  cases b with
  |false=>
   simp only [Bool.not_false,aL];exact fin 1 _ (.inl (.inl ⟨.inl fun hg=>(by have:=hb.2 hg;cases this),rfl⟩))
  |true=>
  have hg:=hb.1 rfl;simp only [Bool.not_true,aK,l0,an];refine ai (ct k9 ?_);simp only [aR,reduceAdd,reduceEqDiff,reduceIte]
  cases qC:cY s with
  |false=>
   simp only [Bool.not_false,aL];exact fin 1 _ (.inl (.inl ⟨.inr qC,rfl⟩))
  |true=>
  obtain ⟨n,hn,n1,sI,h8⟩:=jI qC;have qR:s.size.toNat=n:=by omega
  obtain ⟨m,iE⟩:=hg.go;have AF:=jo iE;have vK:∀ r ∈ rules.l,r.body.l.length<=20:=fun r hr=>(AF r hr).2.1;have tP:=hg.lJ;have hdl:=pV rules.l;simp only [Bool.not_true,aK];refine ai (dF tP fun d hd1=>?_);simp only [aR,reduceAdd,reduceEqDiff,reduceIte,l0];refine ai (cz tP vK fun sy hsy=>?_)
  have WZ:sy.l.length<=1260:=by
   rw [hsy];unfold GV;rw [length_map];have h1:=ym (dS rules.l) (cD rules.l);have h2:=AG tP vK;omega
  simp only [aR,reduceAdd,reduceEqDiff,reduceIte,l0,AV.beq_refl,Bool.and_self,if_true];refine ai (fc k9 (by unfold cE;omega) ?_);rw [hsy];simp only [aR,reduceAdd,reduceEqDiff,reduceIte];have e4:KX rules.l s->Ew rules.l s 4:=fun h=>.inr ⟨hg,qC,.inl ⟨h,rfl⟩⟩
  cases hfit:(GV rules.l).all (B7 s) with
  |false=>
   simp only [Bool.not_false,aL];refine fin 4 _ (.inl (e4 (.inl ?_)));exact Decidable.not_not.1 fun h=>by rw [(Ku iE qC).2 h] at hfit;cases hfit
  |true=>
  have age:=(Ku iE qC).1 hfit;have hdb:d.l.length<=cE:=by rw [hd1];unfold cE;omega
  have Im:rules.l.length<=cE:=by unfold cE;omega
  simp only [Bool.not_true,aK];refine aD 0 d.l.length (zero_le _) (fun i e h'=>h'.get 0=some (.cells (aq s))/\1<=h'.next/\(∀ nm ∈ d.l.take i,∀ r ∈ s.aC.l,r.name≠nm)/\e 0=ak aO 3 rules/\e 3 = .ptr 0 0/\e 5=ak encS 1 d/\e 6 = .int .i64 (i:Int)) ⟨g0,by omega,fun nm pU=>(by cases pU),rfl,rfl,rfl,rfl⟩ ?_ ?_
  ·rintro i e h' _ hi ⟨q0,qn,yp,e0,e3,e5,e6⟩ K' yF hx hr hp;have hv:d.l[i]?=some d.l[i]:=ez hi;generalize d.l[i]=nm at hv;have Ye:ag (some 2) (.ptr 0 0) h'=some (.agg (aq s)):=by rw [aj q0,cV (cs:=aq s) (n:=2) rfl]
   rw [F.bH.aT];simp only [e3,e5,e6,aR,reduceAdd,reduceEqDiff,reduceIte,aZ hi,Ye,aV d hi,jC hv];refine ai (fe k9 ?_);simp only [aR,reduceAdd,reduceEqDiff,reduceIte];rcases nL (dD nm) s.aC.l with ⟨f1,f2⟩|⟨j,r,f1,f2,f3⟩
   ·rw [f1];simp only [show decide ((0:Int)<=-1)=false from rfl,aK,e6,aI hi hdb,an];refine yF _ _ ⟨q0,qn,fun x gi r yo e=>?_,e0,e3,e5,rfl⟩;rw [take_add_one,hv] at gi;rcases mem_append.1 gi with gi|gi
    ·exact yp x gi r yo e
    ·simp only [toList_some,mem_singleton] at gi;rw [find?_eq_none] at f2;exact f2 r yo (by simp [dD,e,gi])
   ·rw [f1];simp only [fh (by omega:(0:Int)<=(j:Int)),aL];rw [hr,F.bH.bz];simp only [bL,reduceEqDiff,reduceIte];have rG:=find?_some f3;simp only [dD,beq_iff_eq] at rG;exact fin 4 _ (.inl (e4 (.inr ⟨r,iz f2,(eF _).1 (by rw [rG,<- hd1];exact iz hv)⟩)))
  ·rintro e h' ⟨q0,qn,yp,e0,e3,e5,e6⟩ K' hx;rw [jD (dK _)] at yp;have ac8:¬ ∃ r ∈ s.aC.l,r.name ∈ bA rules.l:=fun ⟨r,hr,hh⟩=>yp r.name (by rw [hd1];exact (eF _).2 hh) r hr rfl;have h4:¬ KX rules.l s:=fun h=>h.elim age ac8;have e5':NR rules.l s->Ew rules.l s 5:=fun h=>.inr ⟨hg,qC,.inr ⟨h4,h,rfl⟩⟩;rw [F.bH.aT];simp only [e5,e6,aR,reduceAdd,reduceEqDiff,reduceIte,aS];rw [hx,F.bH.aF];refine aD 0 rules.l.length (zero_le _) (fun i e h2=>h2.get 0=some (.cells (aq s))/\1<=h2.next/\(∀ r ∈ rules.l.take i,n ^ (varsOf r).length<=65536)/\e 0=ak aO 3 rules/\e 3 = .ptr 0 0/\e 7 = .int .i64 (i:Int)) ⟨q0,qn,fun r hr=>(by cases hr),e0,e3,rfl⟩ ?_ ?_
   ·rintro i e h2 _ hi ⟨q0,qn,hsz,e0,e3,e7⟩ K2 qj fo qL DY;have hv:rules.l[i]?=some rules.l[i]:=ez hi;generalize rules.l[i]=r at hv;have nV:=iz hv;have acR:=(AF r nV).2.2;have Wx:(varsOf r).length<=cE:=by unfold cE;omega
    rw [F.bH.dm];simp only [e0,e7,aR,reduceAdd,reduceEqDiff,reduceIte,aZ hi]
    refine lG (fun k e h3=>∃ j,k=(varsOf r).length-j/\j<=(varsOf r).length/\n ^ (j-1)<=65536/\h3.get 0=some (.cells (aq s))/\1<=h3.next/\e 0=ak aO 3 rules/\e 3 = .ptr 0 0/\e 7 = .int .i64 (i:Int)/\e 8 = .int .i64 ((n ^ j:Nat):Int)/\e 9 = .int .i64 (j:Int)) ((varsOf r).length)
     ⟨0,rfl,zero_le _,by simp,q0,qn,e0,e3,e7,rfl,rfl⟩ ?_
    rintro k e h3 ⟨j,hk,hj,KV,q0,qn,e0,e3,e7,e8,e9⟩;have lz:ag none (.ptr 0 0) h3=some (.int .i64 (n:Int)):=by rw [aj q0,<- hn];rfl
    have hn8:n ^ j<=65536*64:=by
     cases j with
     |zero=>simp
     |succ j=>rw [Nat.pow_succ];simp only [Nat.add_sub_cancel] at KV;exact Nat.mul_le_mul KV sI
    have out:∀ (e':Env),e' 0=ak aO 3 rules->e' 3 = .ptr 0 0->e' 7 = .int .i64 (i:Int)->e' 8 = .int .i64 ((n ^ j:Nat):Int)->(65536<n ^ j\/j=(varsOf r).length)->F.bH.sY K2 (.exit 4) ⟨e',69,[],h3⟩=true:=by
     intro e' e0 e3 e7 e8 ac9;rw [F.bH.fX];simp only [e8,aR,reduceAdd,reduceEqDiff,reduceIte];by_cases hbg:65536<n ^ j
     ·simp only [fh (by omega:(65536:Int)<((n ^ j:Nat):Int)),aL];rw [qL,F.bH.jP];simp only [bL,reduceEqDiff,reduceIte];exact fin 5 _ (.inl (e5' (.inr (.inr ⟨r,nV,by rw [qR];have:=yl n1 hj;omega⟩))))
     ·have hjv:=ac9.resolve_left hbg;simp only [eT (by omega:¬ (65536:Int)<((n ^ j:Nat):Int)),aK,e7,aI hi Im,an];refine qj _ _ ⟨q0,qn,fun q hq=>?_,e0,e3,rfl⟩;rw [take_add_one,hv] at hq;rcases mem_append.1 hq with hq|hq
      ·exact hsz q hq
      ·simp only [toList_some,mem_singleton] at hq;subst hq;rw [<- hjv];omega
    rw [F.bH.jf];simp only [e0,e7,aR,reduceAdd,reduceEqDiff,reduceIte,aV rules hi,dO gu hv];simp only [aO];refine ai (bQ (iV r nV) fun x jO=>?_);simp only [aR,reduceAdd,reduceEqDiff,reduceIte,jO,e8,e9];by_cases Ht:j<(varsOf r).length
    ·simp only [aZ Ht,aL,aR,reduceAdd,reduceEqDiff,reduceIte];by_cases hle:n ^ j<=65536
     ·have hm:((n ^ j:Nat):Int)*(n:Int)=((n ^ (j+1):Nat):Int):=(by rw [Nat.pow_succ,Int.natCast_mul]);have hmul:n ^ j*n<=65536*64:=Nat.mul_le_mul hle sI;have tu:n ^ (j+1)=n ^ j*n:=Nat.pow_succ n j;have hmm:aG .mul (.int .i64 ((n ^ j:Nat):Int)) (.int .i64 (n:Int))=some (.int .i64 ((n ^ (j+1):Nat):Int)):=by rw [vB (by rw [hm];omega) (by rw [hm];omega),hm]
      simp only [fh (by omega:((n ^ j:Nat):Int)<=65536),aL,e3,e8,e9,aR,reduceAdd,reduceEqDiff,reduceIte,lz,hmm,aI Ht Wx];exact cu.2 ⟨(varsOf r).length-(j+1),by omega,rfl,rfl,j+1,rfl,by omega,by simpa using hle,q0,qn,e0,e3,e7,rfl,rfl⟩
     ·simp only [eT (by omega:¬ ((n ^ j:Nat):Int)<=65536),aK,pG];exact out _ e0 e3 e7 e8 (.inl (by omega))
    ·have hje:j=(varsOf r).length:=(by omega);simp only [eT (by omega:¬ (j:Int)<((varsOf r).length:Int)),aK,pG];exact out _ e0 e3 e7 e8 (.inr hje)
   ·rintro e h2 ⟨q0,qn,hsz,e0,e3,e7⟩ K2 fo;rw [jD (dK _)] at hsz;have Ye:ag (some 2) (.ptr 0 0) h2=some (.agg (aq s)):=by rw [aj q0,cV (cs:=aq s) (n:=2) rfl]
    rw [F.bH.dm];simp only [e0,e7,aR,reduceAdd,reduceEqDiff,reduceIte,aS];rw [fo,F.bH.cq];simp only [aR,reduceAdd,reduceEqDiff,reduceIte,e0,e3,Ye];refine ai (gm tP vK iE (ff qC).1 fun a h4' rs1 x4 o4 agf=>?_);obtain ⟨rs',ada⟩:∃ rs',rs'=rs1++mO rules.l (dS rules.l):=⟨_,rfl⟩
    rw [<- ada] at o4;have Eo:rs'.map bZ=s.aC.l.map bZ++jt rules.l (dS rules.l):=by rw [ada,map_append,nu,agf]
    simp only [aR,reduceAdd,reduceEqDiff,reduceIte]
    have Xs:(⟨s.size,some rs'⟩:di).ok:=by
     have hl:rs'.length=s.aC.l.length+(dS rules.l).length:=(by have:=congrArg List.length Eo;simpa [jt] using this);refine ⟨by show rs'.length<=cE;unfold cE;omega,fun r hr=>?_⟩;have hd:bZ r ∈ s.aC.l.map bZ++jt rules.l (dS rules.l):=by rw [<- Eo];exact List.mem_map_of_mem hr
     have adb:=(ff qC).2;have ala:=(ff qC).1;rcases mem_append.1 hd with hd|hd
     ·obtain ⟨q,hq,SY⟩:=mem_map.1 hd;unfold bZ at SY;simp only [Prod.mk.injEq] at SY;have RV:=adb.2 q hq;refine ⟨by rw [<- SY.1];exact RV.1,?_,fun t ht=>?_⟩
      ·have h1:=congrArg List.length SY.2.2;simp only [length_map] at h1;rw [<- h1];exact RV.2.1
      ·have h1:t.l ∈ q.aM.l.map Sl.l:=(by rw [SY.2.2];exact List.mem_map_of_mem ht);obtain ⟨u,hu,X1⟩:=mem_map.1 h1;rw [<- X1];exact RV.2.2 u hu
     ·obtain ⟨nm,pU,SY⟩:=mem_map.1 hd;unfold bZ at SY;simp only [Prod.mk.injEq] at SY;obtain ⟨_,q,hq,rQ,_⟩:=sO iE ((eF _).1 pU);have ht0:r.aM.l = []:=by have:=SY.2.2;simpa using this.symm
      refine ⟨by rw [<- SY.1,<- rQ];have:=JO (yd (AF q hq).1);unfold cE;omega,by rw [ht0];exact zero_le _,fun t ht=>by rw [ht0] at ht;cases ht⟩
    refine ai (FM o4 Xs ?_);simp only [aR,reduceAdd,reduceEqDiff,reduceIte];have hev:=Bt hg iE qC ac8 Eo
    cases hvd:cY ⟨s.size,some rs'⟩ with
    |false=>
     simp only [Bool.not_false,aL];refine fin 5 _ (.inl (e5' ?_));have:(8<s.aC.l.length+(dS rules.l).length\/∃ r ∈ rules.l,4096<s.size.toNat ^ r.args.l.length):=Decidable.not_not.1 fun h=>by rw [hev.2 h] at hvd;cases hvd
     rcases this with h|h
     ·exact .inl h
     ·exact .inr (.inl h)
    |true=>
     simp only [Bool.not_true,aK];have ade:=hev.1 hvd;refine fin 0 _ (.inr ⟨rfl,hg,qC,h4,?_⟩);rintro (h|h|⟨r,hr,h⟩)
     ·exact ade (.inl h)
     ·exact ade (.inr h)
     ·rw [qR] at h;have:=hsz r hr;omega
 have main:=gen (fun o h'=>yes (∃ e,o = .ret (.int .i64 e)/\(Ew rules.l s e\/(e=0/\dZ rules.l s)))) (fun e h' he=>cu.2 ⟨e,rfl,he⟩);refine main.frozen (by simp [AV.cN,AV.pure,b7 fN,eG]) fun o h' ho=>?_;obtain ⟨e,rfl,he⟩:=cu.1 ho;refine ⟨_,_,rfl,.scalar _ rfl,?_⟩;rcases he with he|⟨rfl,he⟩
 ·exact Mz e he
 ·exact As he
theorem GW{rs':List Rel}(Eo:rs'.map bZ=s.aC.l.map bZ++jt rs (dS rs)){q:Rel}(hq:q ∈ rs') :
  (∃ p ∈ s.aC.l,p.name=q.name/\p.arity=q.arity/\p.aM.l.map Sl.l=q.aM.l.map Sl.l)\/(q.name ∈ bA rs/\q.arity=(mW rs q.name:Int)/\q.aM.l = []):=by
 have hd:bZ q ∈ s.aC.l.map bZ++jt rs (dS rs):=by rw [<- Eo];exact List.mem_map_of_mem hq
 rcases mem_append.1 hd with hd|hd
 ·obtain ⟨p,hp,e⟩:=mem_map.1 hd;unfold bZ at e;simp only [Prod.mk.injEq] at e;exact .inl ⟨p,hp,e.1,e.2.1,e.2.2⟩
 ·obtain ⟨nm,pU,e⟩:=mem_map.1 hd;unfold bZ at e;simp only [Prod.mk.injEq] at e;refine .inr ⟨by rw [<- e.1];exact (eF rs).1 pU,by rw [<- e.1];exact e.2.1.symm,?_⟩;have:=e.2.2;simpa using this.symm
section
variable {rs:List aN} {s:di} {rs':List Rel} {n:Nat} {m:eP}
theorem Iw(ho:dZ rs s)(iE:dR rs []=some m)(Eo:rs'.map bZ=s.aC.l.map bZ++jt rs (dS rs)):Kx s.size (rs'.map bZ):=by
 have h5:=ho.xw;have:=(Bt ho.fV iE ho.valid (fun h=>ho.names (.inr h)) Eo).2 fun h=>h5 (h.elim .inl fun h=>.inr (.inl h));exact gE.1 this
theorem Vs(ho:dZ rs s)(iE:dR rs []=some m)(hn:s.size=(n:Int))(Eo:rs'.map bZ=s.aC.l.map bZ++jt rs (dS rs))(hr:r ∈ rs):Vk n r (rs'.map (RI n)):=by
 have hp:=Iw ho iE Eo;have hlen:rs'.length<=8:=by have:=hp.lJ;simpa using this
 refine ⟨by rw [length_map];unfold cE;omega,fun c hc=>pZ (nt ho.fV hr hc),fun c hc k0=>?_⟩;have B6:=rM hr hc k0;have qR:s.size.toNat=n:=by omega
 by_cases hd:c.name ∈ bA rs
 ·obtain ⟨_,q,hq,rQ,Ph⟩:=sO iE hd
  have hl:q.args.l.length=c.args.l.length:=by
   have:=mj iE (kE hq) (by rw [rQ];exact B6);omega
  refine ⟨?_,fun t ht htn=>?_⟩
  ·rw [<- hl,<- qR];exact Nat.le_of_not_lt fun h=>ho.xw (.inr (.inl ⟨q,hq,h⟩))
  ·obtain ⟨p,zP,rfl⟩:=mem_map.1 ht;replace htn:p.name=c.name:=htn;show (bitsOf n p.arity.toNat p.aM.l).length=_;rw [sH];rcases GW Eo zP with ⟨u,hu,Zx,_⟩|⟨_,ha,_⟩
   ·exact absurd (.inr ⟨u,hu,by rw [Zx,htn];exact hd⟩) ho.names
   ·rw [htn,Ph,hl] at ha;congr 1;omega
 ·cases hf:s.aC.l.find? (gY c.name (c.args.l.length:Int)) with
  |none=>exact absurd (.inl ⟨_,B6,hd,hf⟩) ho.names
  |some q=>
   obtain ⟨hq,rQ,Pe⟩:=wg hf;obtain ⟨i,hi⟩:=mem_iff_getElem?.1 hq;have Im:=rL ho.valid hi;rw [qR] at Im;obtain ⟨k,hk,Ih,PT,NQ⟩:=vV Im;have hkl:k=c.args.l.length:=by omega
   refine ⟨by rw [<- hkl];exact PT,fun t ht htn=>?_⟩;obtain ⟨p,zP,rfl⟩:=mem_map.1 ht;replace htn:p.name=c.name:=htn;show (bitsOf n p.arity.toNat p.aM.l).length=_;rw [sH];rcases GW Eo zP with ⟨u,hu,Zx,hua,_⟩|⟨hh,_,_⟩
   ·have h1:=wh ho.valid hu;have h2:=wh ho.valid hq;rw [Zx,htn] at h1;rw [rQ,h1] at h2;have:=Option.some.inj h2;rw [this] at hua;congr 1;omega
   ·exact absurd (by rw [<- htn];exact hh) hd
end
theorem Own.WE{a:AV}{m:List wM}(o:Own iw 3 k h a m){q:wM}(hp:m[i]?=some q)(v:O2) :
  ∃ b cs,dN 3 a (.int .i64 (i:Int))=some (.ptr b (i*3))/\cL a=some b/\b<h.next/\ag none (.ptr b (i*3+2)) h=some q.2.2.1/\bf 1 (.ptr b (i*3+2)) v.1 h=some (h.set b (.cells cs))/\Own iw 3 k (h.set b (.cells cs)) a (m.set i (q.1,q.2.1,v)):=by
 have hg:=o.get me hp
 cases o with
 |nil=>simp at hp
 |row b m h1 h2 h3=>
  have hmi:=(kT.1 hp).1
  have ua:((m.flatMap iw).set (i*3+2) v.1)=(m.set i (q.1,q.2.1,v)).flatMap iw:=by
   clear h3 hg
   have:∀ (m:List wM) (i:Nat) (q:wM),m[i]?=some q->(m.flatMap iw).set (i*3+2) v.1=(m.set i (q.1,q.2.1,v)).flatMap iw:=by
    intro m
    induction m with
    |nil=>intro i q hq;simp at hq
    |cons x m ih=>
     intro i q hq
     cases i with
     |zero=>
      simp at hq;subst hq;rw [set_cons_zero,flatMap_cons,flatMap_cons,set_append_left _ _ (by simp [iw])];rfl
     |succ i=>
      rw [getElem?_cons_succ] at hq;rw [set_cons_succ,flatMap_cons,flatMap_cons,set_append_right _ _ (by rw [me];omega)];have:(i+1)*3+2-(iw x).length=i*3+2:=by rw [me];omega
      rw [this,ih i q hq]
   exact this m i q hp
  have hlen:(m.flatMap iw).length=m.length*3:=gj me m;obtain ⟨b',_,_,i3,_,i5⟩:=hg;have hia:∀ q:IntKind,dN 3 (.slice b 0 m.length 3) (.int q (i:Int))=some (.ptr b (i*3)):=fun q=>by simp [dN,asNat,hmi]
  obtain rfl:b'=b:=by have:=i3 .i64;rw [hia .i64] at this;cases this;rfl
  have ho:=v.2;refine ⟨b',(m.flatMap iw).set (i*3+2) v.1,hia .i64,rfl,h2,by rw [i5 2 (by omega)];rfl,?_,?_⟩
  ·rw [cK (n:=1) h3 (by rw [ho.2];rfl) (by rw [ho.2];exact ho.1) (by rw [hlen];omega),ho.2];rfl
  ·rw [ua];have:m.length=(m.set i (q.1,q.2.1,v)).length:=by rw [length_set]
   rw [this];exact .row b' _ h1 (by rw [Heap.bp];exact h2) (by rw [Heap.aP,if_pos rfl])
theorem Ix{x y:Sl Int}(hx:x.l.length<=cE)(hK:K (.ret (.bool (decide (x.l=y.l)))) h=true):Sem TP 120 [ak encI 1 x,ak encI 1 y] h K:=by
 refine F.pK ?_;rw [F.qi];simp only [aR,reduceAdd,reduceEqDiff,reduceIte,cI];by_cases hl:x.l.length=y.l.length
 ·simp only [fh (show ((x.l.length:Nat):Int)=((y.l.length:Nat):Int) by omega),Bool.not_true,aK];refine aD 0 x.l.length (zero_le _) (fun i e h'=>h'=h/\e 0=ak encI 1 x/\e 1=ak encI 1 y/\e 12 = .int .i64 (x.l.length:Int)/\e 13 = .int .i64 (i:Int)/\x.l.take i=y.l.take i) ⟨rfl,rfl,rfl,rfl,rfl,rfl⟩ ?_ ?_
  ·rintro i e h' _ hi ⟨rfl,e0,e1,tO,oQ,ht⟩ K' hn gi hr hp;have hv:x.l[i]?=some x.l[i]:=ez hi;have hw:y.l[i]?=some (y.l[i]'(by omega)):=ez _;generalize x.l[i]=a at hv;generalize y.l[i]'(by omega)=b at hw;rw [F.cw.aT];simp only [e0,e1,tO,oQ,aR,reduceAdd,reduceEqDiff,reduceIte,aZ hi,aV x hi,aV y (show i<y.l.length by omega),iB hv,iB hw,cI];by_cases qX:a=b
   ·simp only [fh qX,Bool.not_true,aK,oQ,aI hi hx,an];exact hn _ _ ⟨rfl,e0,e1,tO,rfl,by rw [take_add_one,take_add_one,ht,hv,hw,qX]⟩
   ·simp only [eT qX,Bool.not_false,aL];rw [hr,F.cw.bz];simp only [bL,reduceEqDiff,reduceIte];rw [eT (fun h5=>qX (by rw [h5,hw] at hv;exact (Option.some.inj hv).symm))] at hK;exact hK
  ·rintro e h' ⟨rfl,e0,e1,tO,oQ,ht⟩ K' gi;rw [F.cw.aT];simp only [tO,oQ,aR,reduceAdd,reduceEqDiff,reduceIte,aS];rw [gi,F.cw.aF];rw [jD (dK _),jD (by omega)] at ht;rw [fh ht] at hK;exact hK
 ·simp only [eT (show ¬ ((x.l.length:Nat):Int)=((y.l.length:Nat):Int) by omega),Bool.not_false,aL];rw [eT (fun h5=>hl (by rw [h5]))] at hK;exact hK
set_option maxHeartbeats 1000000 in
theorem MA{lo:Nat}{D1:DB}(k9:s.ok)(qC:cY s=true)(hn:s.size=(n:Int))(n1:1<=n)(sI:n<=64){a0 a2:AV}
  (hS:h.get S=some (.cells [.int .i64 (n:Int),.map B])) (X2:h.get SB=some (.cells (aq s))) (hD:dB D1 h B lo) (RY:S≠B) (RZ:SB≠B) (Ri:S<h.next) (R2:SB<h.next) (CQ:lo<=h.next)
  (q5:e0 5 = .ptr SB 0) (qa:e0 0=a0) (qc:e0 2=a2) (q7:e0 7 = .ptr P 0) (q9:e0 9 = .ptr S 0) (q26:e0 26=ak aW 3 s.aC) (q27:e0 27 = .int .i64 (s.aC.l.length:Int)) (q28:e0 28 = .int .i64 0)
  (done:∀ h' D' (E:Env),dB D' h' B lo->(∀ r ∈ s.aC.l,∃ b,h.next<=b/\D' r.name=some (b,bitsOf n r.arity.toNat r.aM.l))->(∀ nm,(∀ r ∈ s.aC.l,r.name≠nm)->D' nm=D1 nm)->(∀ c,c<h.next->c≠B->h'.get c=h.get c)->h.next<=h'.next->E 0=a0->E 2=a2->E 7 = .ptr P 0->E 9 = .ptr S 0->F.bS.cR K (.exit 0) ⟨E,89,[],h'⟩=true) :
  bV (EV F.bS.L0) ⟨e0,89,[],h⟩ (F.bS.cR K)=true:=by
 have hbig:=k9.1;have hBn:=hD.lt
 refine aD 0 s.aC.l.length (zero_le _) (fun i e h'=>∃ D,dB D h' B lo/\(∀ r ∈ s.aC.l.take i,∃ b,h.next<=b/\D r.name=some (b,bitsOf n r.arity.toNat r.aM.l))/\(∀ nm,(∀ r ∈ s.aC.l.take i,r.name≠nm)->D nm=D1 nm)/\(∀ c,c<h.next->c≠B->h'.get c=h.get c)/\h.next<=h'.next /\
  e 5 = .ptr SB 0/\e 0=a0/\e 2=a2/\e 7 = .ptr P 0/\e 9 = .ptr S 0/\e 26=ak aW 3 s.aC/\e 27 = .int .i64 (s.aC.l.length:Int)/\e 28 = .int .i64 (i:Int))
  ⟨D1,hD,fun r hr=>(by cases hr),fun _ _=>rfl,fun _ _ _=>rfl,dK _,q5,qa,qc,q7,q9,q26,q27,q28⟩ ?_ ?_
 ·rintro i e h' _ hi ⟨D,X3,mF,AD,hfr,oK,e5,ea,ec,e7,e9,xq,wL,KU⟩ K' yF hx hr hp;have hv:s.aC.l[i]?=some s.aC.l[i]:=ez hi;generalize s.aC.l[i]=r at hv;have U0:r.ok:=k9.2 r (iz hv);have Im:=rL qC hv;rw [show s.size.toNat=n by omega] at Im;obtain ⟨k,hk,Ih,PT,NQ⟩:=vV Im;have hkn:r.arity.toNat=k:=by omega
  obtain ⟨H,DX,g1,go,gn⟩:=cx (h:=h') (zs:=[.str [],.int .i64 0,.ax]) (cs:=aW r) (n:=3) rfl rfl (fY r);have xH:bu h' H:=⟨by omega,fun b hb=>go b (by omega)⟩
  have X4:H.get SB=some (.cells (aq s)):=by rw [xH.get _ (by omega),hfr _ R2 RZ];exact X2
  have pS:H.get S=some (.cells [.int .i64 (n:Int),.map B]):=by rw [xH.get _ (by omega),hfr _ Ri RY];exact hS
  have hDH:=X3.ext xH;have lz:ag none (.ptr SB 0) H=some (.int .i64 (n:Int)):=by rw [aj X4,<- hn];rfl
  have la:ag none (.ptr h'.next 1) H=some (.int .i64 (k:Int)):=by rw [aj g1,<- hk];rfl
  have ln:ag none (.ptr h'.next 0) H=some (.str r.name):=by rw [aj g1];rfl
  obtain ⟨h2,hu,hD2,SG,qj⟩:=hDH.add (by omega) (n ^ k) r.name;have lt:ag none (.ptr h'.next 2) h2=some (ak cU 1 r.aM):=by rw [aj (show h2.get h'.next=some (.cells (aW r)) by rw [SG _ (by omega) (by omega)];exact g1)];rfl
  rw [F.bS.aT];simp only [xq,wL,KU,e5,e9,aR,reduceAdd,reduceEqDiff,reduceIte,aZ hi,aV s.aC hi,dO eC hv,DX];simp only [aR,reduceAdd,reduceEqDiff,reduceIte,lz,la];refine ai (qz n1 sI (by unfold cE;omega) ?_);rw [NP Ih PT];simp only [aR,reduceAdd,reduceEqDiff,reduceIte,cp,aj pS,ln,Ie (show n ^ k<=1000000 by omega),hu,lt]
  refine aD 0 r.aM.l.length (zero_le _) (fun j e h3=>∃ d,bitsOf n k r.aM.l=kN n (r.aM.l.drop j) d/\d.length=n ^ k/\dB (kz D r.name H.next d) h3 B lo/\(∀ c,c<H.next->c≠B->h3.get c=H.get c)/\h3.next=h2.next /\
   e 5 = .ptr SB 0/\e 0=a0/\e 2=a2/\e 7 = .ptr P 0/\e 9 = .ptr S 0/\e 26=ak aW 3 s.aC/\e 27 = .int .i64 (s.aC.l.length:Int)/\e 28 = .int .i64 (i:Int)/\e 11 = .ptr h'.next 0/\e 49=ak cU 1 r.aM/\e 50 = .int .i64 (r.aM.l.length:Int)/\e 51 = .int .i64 (j:Int))
   ⟨_,rfl,by simp,hD2,SG,rfl,e5,ea,ec,e7,e9,xq,wL,KU,rfl,rfl,rfl,rfl⟩ ?_ ?_
  ·rintro j e h3 _ hj ⟨d,hd,hdl,R3,R4,PR,e5,ea,ec,e7,e9,xq,wL,KU,nU,Vf,e50,e51⟩ K2 qR fo qL DY;have zx:r.aM.l[j]?=some r.aM.l[j]:=ez hj;generalize r.aM.l[j]=t at zx;obtain ⟨vZ,Nq⟩:=Mg NQ zx;rw [Gw zx] at hd;have Ct:kS n t.l<d.length:=by have:=qO Nq;rw [vZ] at this;omega
   have wS:h3.get S=some (.cells [.int .i64 (n:Int),.map B]):=by rw [R4 _ (by omega) RY];exact pS
   have wR:h3.get h'.next=some (.cells (aW r)):=by rw [R4 _ (by omega) (by omega)];exact g1
   have lnm:ag none (.ptr h'.next 0) h3=some (.str r.name):=by rw [aj wR];rfl
   have Mq:=R3.look (kC D r.name H.next d);obtain ⟨_,_,_,kX⟩:=R3.Df r.name _ (kC D r.name H.next d);simp only at Mq kX;have kK:=R3.set (kC D r.name H.next d) (d:=d.set (kS n t.l) true) (by simp);rw [GP] at kK;simp only at kK;rw [F.bS.dm];simp only [e9,nU,Vf,e50,e51,aR,reduceAdd,reduceEqDiff,reduceIte,aZ hj,aV r.aM hj,gK zx,cp,aj wS,lnm,Mq];refine ai (RX wS n1 vZ Ih PT Nq ?_);simp only [aR,reduceAdd,reduceEqDiff,reduceIte,aj wS,lnm,Mq,AV.beq_refl,Bool.and_self,Bool.and_true,if_true,nK Ct,D8 kX Ct,aI hj U0.2.1];exact qR _ _ ⟨_,hd,by simpa using hdl,kK,fun c hc II=>by rw [Heap.aP,if_neg (by omega)];exact R4 c hc II,by rw [Heap.bp];exact PR,e5,ea,ec,e7,e9,xq,wL,KU,nU,Vf,e50,rfl⟩
  ·rintro e h3 ⟨d,hd,hdl,R3,R4,PR,e5,ea,ec,e7,e9,xq,wL,KU,nU,Vf,e50,e51⟩ K2 fo;rw [drop_of_length_le (dK _)] at hd;simp only [kN] at hd;rw [F.bS.dm];simp only [e50,e51,aR,reduceAdd,reduceEqDiff,reduceIte,aS];rw [fo,F.bS.cq];simp only [aR,reduceAdd,reduceEqDiff,reduceIte,KU,aI hi hbig];refine yF _ _ ⟨kz D r.name H.next d,R3,fun q hq=>?_,fun nm pU=>?_,fun c hc II=>by rw [R4 c (by omega) II,xH.get c (by omega)];exact hfr c hc II,by omega,e5,ea,ec,e7,e9,xq,wL,rfl⟩
   ·rw [take_add_one,hv] at hq;rcases mem_append.1 hq with nW|nW
    ·by_cases e:q.name=r.name
     ·obtain ⟨a,ha⟩:=mem_iff_getElem?.1 nW
      have SP:s.aC.l[a]?=some q:=by
       rw [getElem?_take] at ha;split at ha
       ·exact ha
       ·cases ha
      have Zn:a<i:=by
       rw [getElem?_take] at ha;split at ha
       ·assumption
       ·cases ha
      have:=nq (lP qC) (i:=a) (j:=i) (s:=q.name) (by rw [getElem?_map,SP];rfl) (by rw [getElem?_map,hv,e];rfl);omega
     ·obtain ⟨b,b1,b2⟩:=mF q nW;exact ⟨b,b1,by rw [v8 e];exact b2⟩
    ·simp only [toList_some,mem_singleton] at nW;subst nW;exact ⟨H.next,by omega,by rw [kC,hkn,hd]⟩
   ·have h1:nm≠r.name:=fun e=>pU r (by rw [take_add_one,hv];simp) e.symm;rw [v8 h1];exact AD nm fun q hq=>pU q (by rw [take_add_one,hv];exact mem_append_left _ hq)
 ·rintro e h' ⟨D,X3,mF,AD,hfr,oK,e5,ea,ec,e7,e9,xq,wL,KU⟩ K' hx;rw [jD (dK _)] at mF AD;rw [F.bS.aT];simp only [wL,KU,aR,reduceAdd,reduceEqDiff,reduceIte,aS];rw [hx];exact done h' D _ X3 mF AD hfr oK ea ec e7 e9
def zH(x:Int):Int:=IntKind.i64.wrap x
theorem Sb{x:Int}(h1:-9223372036854775808<=x)(h2:x<=9223372036854775807):zH x=x:=IntWalk.i64_in _ ⟨h1,h2⟩
theorem Sc(x:Int):zH (zH x+1)=zH (x+1):=by
 have e:∀ y:Int,zH y=if (y%18446744073709551616)>=9223372036854775808 then y%18446744073709551616-18446744073709551616 else y%18446744073709551616:=fun y=>by
  have p1:(2:Int) ^ IntKind.i64.bits=18446744073709551616:=rfl;have p2:(2:Int) ^ (IntKind.i64.bits-1)=9223372036854775808:=rfl;unfold zH IntKind.wrap;simp only [p1,p2,show IntKind.i64.signed=true from rfl,Bool.true_and];by_cases h:y%18446744073709551616>=9223372036854775808
  ·rw [if_pos h,if_pos (by rw [fh h])]
  ·rw [if_neg h,if_neg (by rw [eT h];exact Bool.false_ne_true)]
 rw [e (zH x+1),e (x+1),e x];omega
def Ky(r:aN)(t vs:List Int):Bool:=decide (de vs (placesOf (varsOf r) r.args.l)=t)
def vg(r:aN)(t vs:List Int)(c:Int):Int:=if Ky r t vs=true then zH (c+1) else c
structure Sd (S B n lo PL T NN:Nat) (D:DB) (r:aN) (i0:Int) (k:Nat) (hd:Sl Int) (cs:Sl (Sl Int)) (ls:Sl Int) (t:Sl Int) (h0:Heap):Prop where
 n1:1<=n
 sI:n<=64
 hS:h0.get S=some (.cells [.int .i64 (n:Int),.map B])
 hD:dB D h0 B lo
 hL:h0.get PL=some (.cells (bI i0 r k (ak encI 1 hd) (ak cU 1 cs) (ak encI 1 ls)))
 hT:h0.get T=some (.cells [ak encI 1 t])
 low:S<h0.next/\B<h0.next/\PL<h0.next/\T<h0.next/\NN<h0.next
 ne:S≠NN/\B≠NN/\PL≠NN/\T≠NN
 rows:∀ nm p,D nm=some p->p.1≠NN
 ask:zq n D r
 lJ:r.args.l.length<=1500
 tl:t.l.length<=cE
 hkk:k=(varsOf r).length
 hhd:hd.l=iZ (varsOf r) r.args.l
structure EB (NN:Nat) (h0:Heap) (c:Int) (h:Heap):Prop where
 hN:h.get NN=some (.cells [.int .i64 c])
 lt:h0.next<=h.next
 gJ:∀ b,b<h0.next->b≠NN->h.get b=h0.get b
theorem dB.gJ{lo:Nat}(b:dB D h0 B lo)(hB:B≠NN)(hr:∀ nm p,D nm=some p->p.1≠NN)(ho:∀ c,c<h0.next->c≠NN->h.get c=h0.get c)(hn:h0.next<=h.next):dB D h B lo:=by
 obtain ⟨es,ck,m,e1,e2,e3⟩:=b.ex;have hlt:=b.lt;refine ⟨⟨es,ck,m,by rw [ho _ (by omega) hB];exact e1,e2,e3⟩,fun nm p hp=>?_,b.inj,by omega⟩;obtain ⟨q1,q2,q3,q4⟩:=b.Df nm p hp;exact ⟨q1,by omega,q3,by rw [ho _ q2 (hr nm p hp)];exact q4⟩
set_option maxHeartbeats 1000000 in
theorem Se{lo PL T:Nat}{i0:Int}{t:Sl Int}(o:Sd S B n lo PL T NN D r i0 k hd cs ls t h0){c:Int}{V:Nat}{vs:List Int}
  (a:EB NN h0 c h) (hVb:h0.next<=V) (UR:V<h.next) (hV:h.get V=some (.cells (vs.map iv))) (A9:vs.length=k)
  (hK:∀ h',EB NN h0 (vg r t.l vs c) h'->(∀ b,h0.next<=b->b<h.next->h'.get b=h.get b)->h.next<=h'.next->K (.ret (.bool true)) h'=true) :
  Sem TP 119 ([]++([.slice V 0 vs.length 1]++[.ptr PL 0,.ptr T 0,.ptr NN 0])) h K:=by
 obtain ⟨l1,l2,l3,l4,l5⟩:=o.low;obtain ⟨n1,n2,n3,n4⟩:=o.ne;have hL:h.get PL=some (.cells (bI i0 r k (ak encI 1 hd) (ak cU 1 cs) (ak encI 1 ls))):=by rw [a.gJ _ l3 n3];exact o.hL
 have hT:h.get T=some (.cells [ak encI 1 t]):=by rw [a.gJ _ l4 n4];exact o.hT
 simp only [bI] at hL;have lT:ag none (.ptr T 0) h=some (ak encI 1 t):=by rw [aj hT];rfl
 simp only [nil_append,cons_append];refine F.zh ?_;rw [F.An];simp only [aR,reduceAdd,reduceEqDiff,reduceIte,aj hL,lT];have qJ:∀ p ∈ placesOf (varsOf r) r.args.l,p<vs.length:=by rw [A9,o.hkk];exact mc oR
 have nZ:(placesOf (varsOf r) r.args.l).length=r.args.l.length:=by unfold placesOf;simp
 have iV:=o.lJ;refine ai (Ig (ps:=placesOf (varsOf r) r.args.l) hV UR rfl o.hhd qJ (by rw [nZ];omega) fun h3 t1 x3 t2=>?_);have ta:=lK vs (placesOf (varsOf r) r.args.l);have hlt:=a.lt;have n3x:=x3.next
 have lT3:ag none (.ptr T 0) h3=some (ak encI 1 t):=by rw [aj (cs:=[ak encI 1 t]) (by rw [x3.get _ (by omega)];exact hT)];rfl
 have a3:EB NN h0 c h3:=⟨by rw [x3.get _ (by omega)];exact a.hN,by omega,fun b h1 h2=>by rw [x3.get _ (by omega)];exact a.gJ b h1 h2⟩
 simp only [aR,reduceAdd,reduceEqDiff,reduceIte,lT3,AV.beq_refl,Bool.and_self,if_true];rw [<- ta];refine ai (Sem.Wn (r:=.bool (Ky r t.l vs)) rfl (Ix (x:=some (de vs (placesOf (varsOf r) r.args.l))) (y:=t) (by simp only [Sl.HE];rw [ta,nZ];unfold cE;omega) (gd rfl)) (.cons (vN t1) (.cons (.dX (b7 jd t)) .nil)) ?_)
 cases hb:Ky r t.l vs with
 |false=>
  have:vg r t.l vs c=c:=by unfold vg;rw [hb];rfl
  rw [this] at hK;simp only [aR,reduceAdd,reduceEqDiff,reduceIte];exact hK h3 a3 (fun b _ b2=>x3.get b b2) n3x
 |true=>
  have:vg r t.l vs c=zH (c+1):=by unfold vg;rw [hb];rfl
  rw [this] at hK;have lN:ag none (.ptr NN 0) h3=some (.int .i64 c):=by rw [aj a3.hN];rfl
  have st:bf 1 (.ptr NN 0) (.int .i64 (zH (c+1))) h3=some (h3.set NN (.cells [.int .i64 (zH (c+1))])):=by
   rw [cK (n:=1) a3.hN rfl rfl (by simp)];rfl
  simp only [aR,reduceAdd,reduceEqDiff,reduceIte,lN,Nk,show IntKind.i64.wrap (c+1)=zH (c+1) from rfl,st];exact hK _ ⟨by rw [Heap.aP,if_pos rfl],by rw [Heap.bp];omega,fun b h1 h2=>by rw [Heap.aP,if_neg h2];exact a3.gJ b h1 h2⟩ (fun b b1 b2=>by rw [Heap.aP,if_neg (by omega),x3.get b b2]) (by rw [Heap.bp];exact n3x)
theorem MB{lo PL T:Nat}{i0:Int}{t:Sl Int}(o:Sd S B n lo PL T NN D r i0 k hd cs ls t h0)(V0:Nat)(hV0:h0.next<=V0) :
  Rs Int (EB NN h0) (fun _=>D) (vg r t.l) S B n lo h0.next k r 119 [] [.ptr PL 0,.ptr T 0,.ptr NN 0] V0:=
 ⟨o.n1,o.sI,o.low.1,fun s h a=>⟨by rw [a.gJ _ o.low.1 o.ne.1];exact o.hS,o.hD.gJ o.ne.2.1 o.rows a.gJ a.lt,o.ask⟩,
  fun s h h' a Li hb hn=>⟨by rw [hb _ (by have:=o.low.2.2.2.2;omega) (by have:=o.low.2.2.2.2;omega)];exact a.hN,by omega,fun b h1 h2=>by rw [hb b (by omega) (by omega)];exact a.gJ b h1 h2⟩,
  fun s h vs K a h1 h2 h3 h4 h5 hK=>Se o a h1 h2 h3 h4 hK⟩
def Vt(n:Nat)(D:DB)(r:aN)(t:List Int)(c:Int):Int:=tc (fun _=>D) (vg r t) n r (varsOf r).length c
def AH(n:Nat)(D:DB)(nm:b8)(t:List Int)(rs:List aN)(c:Int):Int:=rs.foldl (fun c r=>if r.name=nm then Vt n D r t c else c) c
def oI(n:Nat)(L:Lk)(r:aN)(t:List Int):Nat->Nat->List Int->Nat
 |0,_,vs=>if (lQ n L r vs&&Ky r t vs)=true then 1 else 0
 |m+1,v,vs=>((List.range n).map fun (x:Nat)=>oI n L r t m (v+1) (vs.set v (x:Int))).sum
theorem Sf(l:List Nat)(x:Nat):(l++[x]).sum=l.sum+x:=by
 induction l with
 |nil=>simp
 |cons a l ih=>rw [cons_append,sum_cons,sum_cons,ih];omega
theorem Kz{α:Type}{f:α->Nat}:∀ {l:List α},(∀ a ∈ l,f a=0)->(l.map f).sum=0
 |[],_=>rfl
 |a :: l,h=>by rw [map_cons,sum_cons,h a mem_cons_self,Kz fun b hb=>h b (mem_cons_of_mem _ hb)]
theorem zI{α:Type}{f:α->Nat}{B:Nat}:∀ {l:List α},(∀ a ∈ l,f a<=B)->(l.map f).sum<=l.length*B
 |[],_=>by simp
 |a :: l,h=>by
  have h1:=h a mem_cons_self;have h2:=zI (l:=l) fun b hb=>h b (mem_cons_of_mem _ hb);rw [map_cons,sum_cons,length_cons,Nat.add_mul];omega
theorem Iy{α:Type}{f:α->Nat}:∀ {l:List α},0<(l.map f).sum↔∃ a ∈ l,0<f a
 |[]=>by simp
 |a :: l=>by
  rw [map_cons,sum_cons];constructor
  ·intro h;by_cases h1:0<f a
   ·exact ⟨a,mem_cons_self,h1⟩
   ·obtain ⟨b,hb,h2⟩:=Iy.1 (show 0<(l.map f).sum by omega);exact ⟨b,mem_cons_of_mem _ hb,h2⟩
  ·rintro ⟨b,hb,h2⟩;rcases mem_cons.1 hb with rfl|hb
   ·omega
   ·have:=Iy.2 ⟨b,hb,h2⟩;omega
theorem KA{a b:List Int}(hl:a.length=b.length)(h:∀ i,i<a.length->a.getD i 0=b.getD i 0):a=b:=by
 refine ext_getElem hl fun i h1 h2=>?_;have:=h i h1
 rwa [getD_eq_getElem?_getD,getD_eq_getElem?_getD,ez h1,ez h2] at this
theorem EC{n:Nat}{L:Lk}{r:aN}{t:List Int}:∀ (m v:Nat) (a b:List Int),a.length=v+m->b.length=v+m->(∀ i,i<v->a.getD i 0=b.getD i 0)->oI n L r t m v a=oI n L r t m v b
 |0,v,a,b,ha,hb,h=>by rw [KA (a:=a) (b:=b) (by omega) fun i hi=>h i (by omega)]
 |m+1,v,a,b,ha,hb,h=>by
  unfold oI;congr 1;refine map_congr_left fun x _=>?_;refine EC m (v+1) _ _ (by rw [length_set];omega) (by rw [length_set];omega) fun i hi=>?_;by_cases e:i=v
  ·subst e;rw [mg (by omega),mg (by omega)]
  ·rw [getD_set_ne e,getD_set_ne e];exact h i (by omega)
theorem AI{n:Nat}{L:Lk}{r:aN}{t:List Int}{c:eV}(hc:c ∈ r.body.l):∀ (m v:Nat) (vs:List Int),iu (cM r c)<(v:Int)->eE n L c (de vs (cM r c))=false->oI n L r t m v vs=0
 |0,v,vs,h1,h2=>by
  unfold oI
  have:lQ n L r vs=false:=by
   obtain ⟨i,hi⟩:=getElem?_of_mem hc;unfold lQ;exact all_false hi h2
  rw [this];rfl
 |m+1,v,vs,h1,h2=>by
  unfold oI;refine Kz fun x _=>?_;refine AI hc m (v+1) _ (by omega) ?_;rw [oE (b:=vs) fun p hp=>getD_set_ne (by have:=u9 hp;omega) _];exact h2
theorem NT{n:Nat}{L:Lk}{r:aN}{t:List Int}:∀ (m v:Nat) (vs:List Int),oI n L r t m v vs<=n ^ m
 |0,v,vs=>by unfold oI;split<;>simp
 |m+1,v,vs=>by
  unfold oI;have:=zI (l:=List.range n) (f:=fun (x:Nat)=>oI n L r t m (v+1) (vs.set v (x:Int))) (B:=n ^ m) fun x _=>NT m (v+1) _;rw [length_range] at this;rw [Nat.pow_succ,Nat.mul_comm];exact this
theorem ED{n:Nat}{L:Lk}{r:aN}{t:List Int}:∀ (m v:Nat) (vs:List Int),v+m=(varsOf r).length->zy n r vs ->
  (0<oI n L r t m v vs↔∃ us,zy n r us/\(∀ i,i<v->us.getD i 0=vs.getD i 0)/\lQ n L r us=true/\Ky r t us=true)
 |0,v,vs,hv,ha=>by
  unfold oI;constructor
  ·intro h;refine ⟨vs,ha,fun _ _=>rfl,?_⟩;by_cases hh:(lQ n L r vs&&Ky r t vs)=true
   ·simpa using hh
   ·rw [if_neg hh] at h;omega
  ·rintro ⟨us,hu,hi,h1,h2⟩;have:us=vs:=KA (by rw [hu.1,ha.1]) fun i h=>hi i (by have:=hu.1;omega);rw [<- this,h1,h2];simp
 |m+1,v,vs,hv,ha=>by
  unfold oI;rw [Iy];have A9:v<vs.length:=by rw [ha.1];omega
  constructor
  ·rintro ⟨x,hx,h⟩;have OT:=mem_range.1 hx;obtain ⟨us,hu,hi,h1⟩:=(ED m (v+1) (vs.set v (x:Int)) (by omega) ⟨by rw [length_set];exact ha.1,nC ha.2 v OT⟩).1 h;exact ⟨us,hu,fun i h=>by rw [hi i (by omega),getD_set_ne (by omega)],h1⟩
  ·rintro ⟨us,hu,hi,h1⟩;have hul:v<us.length:=by rw [hu.1];omega
   have hin:=hu.2;unfold iY at hin;rw [List.all_eq_true] at hin;have h0:=hin us[v] (getElem_mem hul);simp only [and_eq_true,not_eq_true',decide_eq_false_iff_not] at h0;have hg:us.getD v 0=us[v]:=by rw [getD_eq_getElem?_getD,ez hul];rfl
   have hx:us[v].toNat<n:=by omega
   refine ⟨us[v].toNat,mem_range.2 hx,?_⟩;refine (ED m (v+1) _ (by omega) ⟨by rw [length_set];exact ha.1,nC ha.2 v hx⟩).2 ⟨us,hu,fun i h=>?_,h1⟩;by_cases e:i=v
   ·subst e;rw [mg A9,hg];omega
   ·rw [getD_set_ne e];exact hi i (by omega)
theorem GX{n:Nat}{D:DB}{r:aN}{t:List Int}:∀ (m v:Nat) (vs:List Int) (x:Int),v+m=(varsOf r).length->zy n r vs->(∀ c ∈ r.body.l,iu (cM r c)<(v:Int)->eE n (dz D) c (de vs (cM r c))=true) ->
  (gq (fun _=>D) (vg r t) n r m v vs (zH x)).2=zH (x+(oI n (dz D) r t m v vs:Nat))/\zy n r (gq (fun _=>D) (vg r t) n r m v vs (zH x)).1/\∀ i,i<v->(gq (fun _=>D) (vg r t) n r m v vs (zH x)).1.getD i 0=vs.getD i 0
 |0,v,vs,x,hv,ha,hc=>by
  refine ⟨?_,ha,fun _ _=>rfl⟩
  have oG:lQ n (dz D) r vs=true:=by
   unfold lQ;rw [List.all_eq_true];intro c vR;refine hc c vR ?_;have:=NM vR;omega
  show vg r t vs (zH x)=_;unfold vg oI;rw [oG,Bool.true_and]
  cases Ky r t vs with
  |true=>simp only [if_true];exact Sc x
  |false=>simp
 |m+1,v,vs,x,hv,ha,hc=>by
  have key:∀ j,j<=n->((List.range j).foldl (jg (fun _=>D) n r v (gq (fun _=>D) (vg r t) n r m (v+1))) (vs,zH x)).2=zH (x+(((List.range j).map fun (y:Nat)=>oI n (dz D) r t m (v+1) (vs.set v (y:Int))).sum:Nat)) /\
    zy n r ((List.range j).foldl (jg (fun _=>D) n r v (gq (fun _=>D) (vg r t) n r m (v+1))) (vs,zH x)).1/\∀ i,i<v->((List.range j).foldl (jg (fun _=>D) n r v (gq (fun _=>D) (vg r t) n r m (v+1))) (vs,zH x)).1.getD i 0=vs.getD i 0:=by
   intro j
   induction j with
   |zero=>exact fun _=>⟨by simp,ha,fun _ _=>rfl⟩
   |succ j ih=>
    intro hj;obtain ⟨p1,p2,p3⟩:=ih (by omega);rw [range_succ,foldl_append,foldl_cons,foldl_nil,map_append,map_cons,map_nil,Sf];generalize (List.range j).foldl (jg (fun _=>D) n r v (gq (fun _=>D) (vg r t) n r m (v+1))) (vs,zH x)=acc at p1 p2 p3 ⊢;generalize ((List.range j).map fun (y:Nat)=>oI n (dz D) r t m (v+1) (vs.set v (y:Int))).sum=S at p1 ⊢;have NH:zy n r (acc.1.set v (j:Int)):=⟨by rw [length_set];exact p2.1,nC p2.2 v (by omega)⟩
    have uj:∀ i,i<v->(acc.1.set v (j:Int)).getD i 0=vs.getD i 0:=fun i hi=>by rw [getD_set_ne (by omega)];exact p3 i hi
    have F8:oI n (dz D) r t m (v+1) (acc.1.set v (j:Int))=oI n (dz D) r t m (v+1) (vs.set v (j:Int)):=by
     have q1:=p2.1;have q2:=ha.1;refine EC m (v+1) _ _ (by rw [length_set];omega) (by rw [length_set];omega) fun i hi=>?_;by_cases e:i=v
     ·subst e;rw [mg (by omega),mg (by omega)]
     ·rw [uj i (by omega),getD_set_ne e]
    unfold jg;split
    ·rename_i nk;rw [mh] at nk;rw [p1]
     obtain ⟨q1,q2,q3⟩:=GX m (v+1) (acc.1.set v (j:Int)) (x+(S:Nat)) (by omega) NH fun c vR hlt=>by
      by_cases e:iu (cM r c)=(v:Int)
      ·exact nk c vR e
      ·rw [oE (b:=vs) fun p hp=>uj p (by have:=u9 hp;omega)];exact hc c vR (by omega)
     refine ⟨by rw [q1,F8];congr 1;omega,q2,fun i hi=>by rw [q3 i (by omega)];exact uj i hi⟩
    ·rename_i nk;rw [mh] at nk
     have h0:oI n (dz D) r t m (v+1) (vs.set v (j:Int))=0:=by
      rw [<- F8];refine Classical.byContradiction fun yp=>nk fun c vR e=>?_
      cases hcv:eE n (dz D) c (de (acc.1.set v (j:Int)) (cM r c)) with
      |true=>rfl
      |false=>exact absurd (AI vR m (v+1) _ (by omega) hcv) yp
     refine ⟨by rw [p1,h0];simp,NH,uj⟩
  have:=key n (dK _);show ((List.range n).foldl (jg (fun _=>D) n r v (gq (fun _=>D) (vg r t) n r m (v+1))) (vs,zH x)).2=_/\_;unfold oI;exact this
def MC(n:Nat)(L:Lk)(r:aN)(t:List Int):Nat:=oI n L r t (varsOf r).length 0 (replicate (varsOf r).length 0)
theorem Vu(n1:1<=n){t:List Int}(x:Int):Vt n D r t (zH x)=zH (x+(MC n (dz D) r t:Nat)):=by
 have ha:zy n r (replicate (varsOf r).length 0):=⟨by simp,vT n1 _⟩
 unfold Vt tc MC;split
 ·rename_i nk;rw [mh] at nk;exact (GX (varsOf r).length 0 _ x (by omega) ha fun c vR hlt=>nk c vR (by have:=GL (cM r c);omega)).1
 ·rename_i nk;rw [mh] at nk
  have h0:oI n (dz D) r t (varsOf r).length 0 (replicate (varsOf r).length 0)=0:=by
   refine Classical.byContradiction fun yp=>nk fun c vR e=>?_
   cases hcv:eE n (dz D) c (de (replicate (varsOf r).length 0) (cM r c)) with
   |true=>rfl
   |false=>exact absurd (AI vR _ 0 _ (by omega) hcv) yp
  rw [h0];simp
def kQ(n:Nat)(L:Lk)(nm:b8)(t:List Int):List aN->Nat
 |[]=>0
 |r :: rs=>(if r.name=nm then MC n L r t else 0)+kQ n L nm t rs
theorem Iz{n:Nat}(n1:1<=n){D:DB}{nm:b8}{t:List Int}:∀ (rs:List aN) (x:Int),AH n D nm t rs (zH x)=zH (x+(kQ n (dz D) nm t rs:Nat))
 |[],x=>by simp [AH,kQ]
 |r :: rs,x=>by
  unfold AH kQ;rw [foldl_cons];by_cases h:r.name=nm
  ·rw [if_pos h,if_pos h,Vu n1];have:=Iz (n:=n) n1 (D:=D) (nm:=nm) (t:=t) rs (x+(MC n (dz D) r t:Nat));unfold AH at this;rw [this];congr 1;omega
  ·rw [if_neg h,if_neg h];have:=Iz (n:=n) n1 (D:=D) (nm:=nm) (t:=t) rs x;unfold AH at this;rw [this];congr 1;omega
theorem GY{n:Nat}{L:Lk}{nm:b8}{t:List Int}{B:Nat}:∀ {rs:List aN},(∀ r ∈ rs,n ^ (varsOf r).length<=B)->kQ n L nm t rs<=rs.length*B
 |[],_=>by simp [kQ]
 |r :: rs,h=>by
  have h1:=h r mem_cons_self;have h2:=GY (n:=n) (L:=L) (nm:=nm) (t:=t) (rs:=rs) fun b hb=>h b (mem_cons_of_mem _ hb);have h3:MC n L r t<=n ^ (varsOf r).length:=NT _ _ _;unfold kQ;rw [length_cons,Nat.add_mul];split<;>omega
theorem EE{n:Nat}(n1:1<=n){L:Lk}{nm:b8}{t:List Int}:∀ {rs:List aN},0<kQ n L nm t rs↔∃ r ∈ rs,r.name=nm/\∃ us,zy n r us/\lQ n L r us=true/\Ky r t us=true
 |[]=>by simp [kQ]
 |r :: rs=>by
  have ih:=EE (n:=n) n1 (L:=L) (nm:=nm) (t:=t) (rs:=rs);have h1:=ED (n:=n) (L:=L) (r:=r) (t:=t) (varsOf r).length 0 (replicate (varsOf r).length 0) (by omega) ⟨by simp,vT n1 _⟩;unfold kQ;constructor
  ·intro h;by_cases hn:r.name=nm
   ·rw [if_pos hn] at h;by_cases h2:0<MC n L r t
    ·obtain ⟨us,hu,_,h3⟩:=h1.1 h2;exact ⟨r,mem_cons_self,hn,us,hu,h3⟩
    ·obtain ⟨q,hq,h3⟩:=ih.1 (by omega);exact ⟨q,mem_cons_of_mem _ hq,h3⟩
   ·rw [if_neg hn] at h;obtain ⟨q,hq,h3⟩:=ih.1 (by omega);exact ⟨q,mem_cons_of_mem _ hq,h3⟩
  ·rintro ⟨q,hq,hn,us,hu,h3⟩;rcases mem_cons.1 hq with rfl|hq
   ·rw [if_pos hn];have:0<MC n L q t:=h1.2 ⟨us,hu,fun i hi=>by omega,h3⟩;omega
   ·have:=ih.2 ⟨q,hq,hn,us,hu,h3⟩;omega
end
end Go.AM