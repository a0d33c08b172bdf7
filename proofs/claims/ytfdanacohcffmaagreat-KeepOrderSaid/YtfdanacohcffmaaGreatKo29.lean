/- Parts of the proof. Conditions: none. -/
import Derived.Test.YtfdanacohcffmaaGreatKo14
import Derived.Test.YtfdanacohcffmaaGreatKo24
import Derived.Test.YtfdanacohcffmaaGreatKo25
import Derived.Test.YtfdanacohcffmaaGreatKo26
import Derived.Test.YtfdanacohcffmaaGreatKo27
import Derived.Test.YtfdanacohcffmaaGreatKo28
set_option linter.unusedSimpArgs false
set_option linter.unusedVariables false
namespace Go.AM
open List Nat Bool Option
open Go Go.Proofs
noncomputable section
variable {K:Out->Heap->Bool} {s s0 s' out:cN} {h h':Heap} {rs:List aP} {N n j k i:Nat} {dn:AV} {d:List nJ} {is:Bool} {nm:cc} {r:Rel} {t:Sl Int} {α:Type} {L:Lk}
theorem Mx{a b:Nat}(hb:0<b)(ha:a<=cM):aI .quo (.int .i64 (a:Int)) (.int .i64 (b:Int))=some (.int .i64 ((a/b:Nat):Int)):=by
 have h:¬ (b:Int)=0:=by omega
 simp only [aI,if_true,if_neg h];have e:((a:Int).tdiv (b:Int))=((a/b:Nat):Int):=by rw [Int.tdiv_eq_ediv_of_nonneg (by omega)];rfl
 have:a/b<=a:=div_le_self _ _;unfold cM at ha;rw [e];generalize a/b=q at this;rw [IntWalk.i64_in _ (by omega)]
theorem Jy{enc:α->List AV}{sz:Nat}(he:∀ a,(enc a).length=sz){l:List α}{a:α}(ha:l[i]?=some a)(hk:k+n<=sz) :
  ah (some n) (.dQ (l.flatMap enc) (i*sz+k)) h=some (.agg (((enc a).drop k).take n)):=by
 have hi:i<l.length:=(ki.1 ha).1
 have hle:i*sz+sz<=(l.flatMap enc).length:=by
  rw [fV he];have:(i+1)*sz<=l.length*sz:=mul_le_mul_right _ hi;rw [Nat.add_mul] at this;omega
 show ji (some n) _ _=_;simp only [ji];rw [if_pos (by omega),<- nC he l i a ha,drop_take,take_take,drop_drop,Nat.min_eq_left (by omega)]
theorem fM{nm:cc}{xs:Sl cc}(h1:nm.length<=cM)(h2:xs.l.length<=cM)(h3:∀ s ∈ xs.l,s.length<=cM){h:Heap}{K:Out->Heap->Bool}
  (hK:∀ n:Int,(xs.l.length:Int)<=n->n<=5000000000000000000->K (.ret (.int .i64 n)) h=true):Sem TP 85 [.agg [.str nm,an encS 1 xs]] h K:=by
 have An:cM=4611686018427387904:=rfl
 have gen:∀ R:Out->Heap->Bool,(∀ (n:Int) h',(xs.l.length:Int)<=n->n<=5000000000000000000->R (.ret (.int .i64 n)) h'=true)->Sem TP 85 [.agg [.str nm,an encS 1 xs]] Heap.empty R:=by
  intro R fin;refine F.CC ?_;rw [F.Ek];have g0:(Heap.alloc Heap.empty (.cells (iF nm xs))).get 0=some (.cells (iF nm xs)):=aB _ _;have hb:eY (.agg [.str nm,an encS 1 xs])=some (iF nm xs):=c8 (zq nm xs);simp only [hb,aq,bU];generalize (Heap.alloc Heap.empty (.cells (iF nm xs)))=H at g0 ⊢;have hq:=Mx (a:=nm.length) (b:=20) (by omega) h1;have pq:aI .quo (.int .i64 (nm.length:Int)) (.int .i64 20)=some (.int .i64 ((nm.length/20:Nat):Int)):=hq;have hdl:nm.length/20<=240000000000000000:=by omega
  have C6:=je (a:=(xs.l.length:Int)) (b:=((nm.length/20:Nat):Int)) (by omega) (by omega);simp only [aS,reduceAdd,reduceEqDiff,reduceIte,ak g0,iF,pq,C6];generalize WH:(xs.l.length:Int)+((nm.length/20:Nat):Int)=s0;refine aE 0 xs.l.length (zero_le _) (fun i e h'=>h'=H/\e 1 = .ptr 0 0/\e 4 = .int .i64 (i:Int)/\∃ n:Int,e 3 = .int .i64 n/\(xs.l.length:Int)<=n/\n<=5000000000000000000) ⟨rfl,rfl,rfl,s0,rfl,by omega,by omega⟩ ?_ ?_
  ·rintro i e h' _ hi ⟨rfl,e1,e4,n,e3,n1,n2⟩ K' hn hx hr hp;have hv:xs.l[i]?=some xs.l[i]:=ew hi;generalize xs.l[i]=t at hv;have ht:=h3 t (iq hv);have hqt:aI .quo (.int .i64 (t.length:Int)) (.int .i64 20)=some (.int .i64 ((t.length/20:Nat):Int)):=Mx (a:=t.length) (b:=20) (by omega) ht;have hdt:t.length/20<=240000000000000000:=by omega
   rw [F.fM.aU];simp only [e1,e3,e4,aS,reduceAdd,reduceEqDiff,reduceIte,ak g0,iF,bp hi];by_cases Qn:n<10000
   ·have abt:=je (a:=n) (b:=((t.length/20:Nat):Int)) (by omega) (by omega);simp only [fC Qn,aL,e1,e4,aS,reduceAdd,reduceEqDiff,reduceIte,ak g0,iF,aV xs hi,jr hv,hqt,abt,aJ hi h2];exact hn _ _ ⟨rfl,e1,rfl,_,rfl,by omega,by omega⟩
   ·simp only [eV Qn,aK];rw [hx,F.fM.aG];simp only [bP,reduceEqDiff,reduceIte,e3];exact fin n _ n1 n2
  ·rintro e h' ⟨rfl,e1,e4,n,e3,n1,n2⟩ K' hx;rw [F.fM.aU];simp only [e1,e4,aS,reduceAdd,reduceEqDiff,reduceIte,ak g0,iF,aX];rw [hx,F.fM.aG];simp only [bP,reduceEqDiff,reduceIte,e3];exact fin n _ n1 n2
 have main:=gen (fun o h'=>yes (∃ n:Int,o = .ret (.int .i64 n)/\(xs.l.length:Int)<=n/\n<=5000000000000000000)) (fun n h' q1 q2=>cw.2 ⟨n,rfl,q1,q2⟩);refine main.frozen (by simp [AV.cO,AV.pure,cp j8]) fun o h' ho=>?_;obtain ⟨n,rfl,q1,q2⟩:=cw.1 ho;exact ⟨_,_,rfl,.scalar _ rfl,hK n q1 q2⟩
set_option maxHeartbeats 1000000 in
theorem Lf{N:Int}(hN:N<=1500){rules:Sl aP}(kD:∀ r ∈ rules.l,r.ok)(hK:∀ b:Bool,(b=true->∀ r ∈ rules.l,r.mj)->K (.ret (.bool b)) h=true):Sem TP 41 [an aQ 3 rules,.int .i64 N] h K:=by
 have gen:∀ R:Out->Heap->Bool,(∀ (b:Bool) h',(b=true->∀ r ∈ rules.l,r.mj)->R (.ret (.bool b)) h'=true)->Sem TP 41 [an aQ 3 rules,.int .i64 N] Heap.empty R:=by
  intro R fin;refine F.Ej ?_;rw [F.Gz];simp only [aS,reduceAdd,reduceEqDiff,reduceIte];by_cases h71:70<rules.l.length
  ·simp only [fC (by omega:(70:Int)<(rules.l.length:Int)),aL];exact fin false _ (fun h=>by cases h)
  have hbig:rules.l.length<=cM:=by unfold cM;omega
  simp only [eV (by omega:¬ (70:Int)<(rules.l.length:Int)),aK];refine aE 0 rules.l.length (zero_le _) (fun i e h'=>e 0=an aQ 3 rules/\e 1 = .int .i64 N/\e 6 = .int .i64 (i:Int)/\∃ s:Int,e 5 = .int .i64 s/\0<=s/\s<=6000000000000000000/\(s<=N->∀ r ∈ rules.l.take i,r.mj)) ⟨rfl,rfl,rfl,0,rfl,by omega,by omega,fun _ r hr=>by simp at hr⟩ ?_ ?_
  ·rintro i e h' _ hi ⟨e0,e1,e6,s,e5,s0,s1,hs⟩ K' hn hx hr hp;have hv:rules.l[i]?=some rules.l[i]:=ew hi;generalize rules.l[i]=r at hv;have Jh:=kD r (iq hv);have An:=Jh.2.2.2.1;have ld:∀ j,j<3->∀ h,ah none (.dQ (rules.l.flatMap aQ) (i*3+j)) h=(aQ r)[j]?:=fun j hj h=>fH gz hv hj;have lh:∀ h,ah (some 2) (.dQ (rules.l.flatMap aQ) (i*3)) h=some (.agg [.str r.name,an encS 1 r.args]):=fun h=>Jy (k:=0) (n:=2) gz hv (by omega);rw [F.dL.aU];simp only [e0,e1,e5,e6,aS,reduceAdd,reduceEqDiff,reduceIte,bp hi];by_cases hle:s<=N
   ·have Wq:=je (a:=s) (b:=1) (by omega) (by omega);simp only [fC hle,aL,Wq,e0,e6,aS,reduceAdd,reduceEqDiff,reduceIte,aV rules hi,lh];refine ai (fM Jh.1 Jh.2.1 Jh.2.2.1 fun n n1 n2=>?_);have Wr:=je (a:=s+1) (b:=n) (by omega) (by omega);simp only [aS,reduceAdd,reduceEqDiff,reduceIte,Wr]
    refine aE 0 r.body.l.length (zero_le _) (fun j e h'=>e 0=an aQ 3 rules/\e 1 = .int .i64 N/\e 6 = .int .i64 (i:Int)/\e 7 = .int .i64 (j:Int)/\∃ s:Int,e 5 = .int .i64 s/\0<=s/\s<=6000000000000000000 /\
     (s<=N->(∀ r ∈ rules.l.take i,r.mj)/\r.args.l.length<=1500/\(j:Int)<=s/\∀ c ∈ r.body.l.take j,c.args.l.length<=1500)) ⟨e0,e1,e6,rfl,s+1+n,rfl,by omega,by omega,fun h=>⟨hs hle,by omega,by omega,fun c hc=>by simp at hc⟩⟩ ?_ ?_
    ·rintro j e h' _ hj ⟨e0,e1,e6,e7,s,e5,s0,s1,hs⟩ K2 oW fY qi DT;have hc:r.body.l[j]?=some r.body.l[j]:=ew hj;generalize r.body.l[j]=c at hc;have IY:=Jh.2.2.2.2 c (iq hc);have lc:∀ h,ah (some 2) (.dQ (r.body.l.flatMap bM) (j*4+2)) h=some (.agg [.str c.name,an encS 1 c.args]):=fun h=>Jy (k:=2) (n:=2) iy hc (by omega);rw [F.dL.dm];simp only [e0,e1,e5,e6,e7,aS,reduceAdd,reduceEqDiff,reduceIte,aV rules hi,ld 2 (by omega),aQ,bp hj];by_cases hle:s<=N
     ·have Wq:=je (a:=s) (b:=1) (by omega) (by omega);simp only [fC hle,aL,Wq,e0,e6,e7,aS,reduceAdd,reduceEqDiff,reduceIte,aV rules hi,ld 2 (by omega),aQ,aV r.body hj,lc];refine ai (fM IY.1 IY.2.1 IY.2.2 fun n n1 n2=>?_);have Wr:=je (a:=s+1) (b:=n) (by omega) (by omega);simp only [aS,reduceAdd,reduceEqDiff,reduceIte,Wr,aJ hj An];refine oW _ _ ⟨e0,e1,e6,rfl,s+1+n,rfl,by omega,by omega,fun h=>?_⟩;obtain ⟨q1,q2,q3,q4⟩:=hs hle;refine ⟨q1,q2,by omega,fun d hd=>?_⟩;rw [take_add_one,hc] at hd;rcases mem_append.1 hd with hd|hd
      ·exact q4 d hd
      ·simp only [toList_some,mem_singleton] at hd;subst hd;omega
     ·simp only [eV hle,aK];rw [fY,F.dL.cx];simp only [aS,reduceAdd,reduceEqDiff,reduceIte,e6,aJ hi hbig];exact hn _ _ ⟨e0,e1,rfl,s,e5,s0,s1,fun h=>absurd h hle⟩
    ·rintro e h' ⟨e0,e1,e6,e7,s,e5,s0,s1,hs⟩ K2 fY;rw [F.dL.dm];simp only [e0,e6,e7,aS,reduceAdd,reduceEqDiff,reduceIte,aV rules hi,ld 2 (by omega),aQ,aX];rw [fY,F.dL.cx];simp only [aS,reduceAdd,reduceEqDiff,reduceIte,e6,aJ hi hbig];refine hn _ _ ⟨e0,e1,rfl,s,e5,s0,s1,fun h=>?_⟩;obtain ⟨q1,q2,q3,q4⟩:=hs h;rw [jW (dN _)] at q4;intro q hq;rw [take_add_one,hv] at hq;rcases mem_append.1 hq with hq|hq
     ·exact q1 q hq
     ·simp only [toList_some,mem_singleton] at hq;subst hq;exact ⟨q2,by omega,q4⟩
   ·simp only [eV hle,aK];rw [hx,F.dL.aG];simp only [aS,reduceAdd,reduceEqDiff,reduceIte,e1,e5];exact fin _ _ (fun h=>absurd (of_decide_eq_true h) hle)
  ·rintro e h' ⟨e0,e1,e6,s,e5,s0,s1,hs⟩ K' hx;rw [jW (dN _)] at hs;rw [F.dL.aU];simp only [e0,e6,aS,reduceAdd,reduceEqDiff,reduceIte,aX];rw [hx,F.dL.aG];simp only [aS,reduceAdd,reduceEqDiff,reduceIte,e1,e5];exact fin _ _ (fun h=>hs (of_decide_eq_true h))
 have main:=gen (fun o h'=>yes (∃ b:Bool,o = .ret (.bool b)/\(b=true->∀ r ∈ rules.l,r.mj))) (fun b h' hb=>cw.2 ⟨b,rfl,hb⟩);refine main.frozen (by simp [AV.cO,AV.pure,cp fN]) fun o h' ho=>?_;obtain ⟨b,rfl,hb⟩:=cw.1 ho;exact ⟨_,_,rfl,.scalar _ rfl,hK b hb⟩
theorem xe{x y:Sl (Sl Int)}(Uw:x.l.map Sl.l=y.l.map Sl.l)(hx:x.l.length<=cM)(ht:∀ t ∈ x.l,t.l.length<=cM)(hK:K (.ret (.bool true)) h=true):Sem TP 51 [an cZ 1 x,an cZ 1 y] h K:=by
 have hl:x.l.length=y.l.length:=by have:=congrArg List.length Uw;simpa using this
 refine F.tc ?_;rw [F.vi];simp only [aS,reduceAdd,reduceEqDiff,reduceIte,hl,cP,decide_true,Bool.not_true,aK];refine aE 0 x.l.length (zero_le _) (fun i e h'=>h'=h/\e 0=an cZ 1 x/\e 1=an cZ 1 y/\e 5 = .int .i64 (i:Int)) ⟨rfl,rfl,rfl,rfl⟩ ?_ ?_
 ·rintro i e h' _ hi ⟨rfl,e0,e1,e5⟩ K' hn gm hr hp;have hv:x.l[i]?=some x.l[i]:=ew hi;generalize x.l[i]=t at hv;have Bv:i<y.l.length:=by omega
  have hw:y.l[i]?=some y.l[i]:=ew Bv;generalize y.l[i]=u at hw
  have htu:t.l=u.l:=by
   have h1:(x.l.map Sl.l)[i]?=some t.l:=by rw [getElem?_map,hv];rfl
   rw [Uw,getElem?_map,hw] at h1;exact (Option.some.inj h1).symm
  rw [F.dX.aU];simp only [e0,e1,e5,aS,reduceAdd,reduceEqDiff,reduceIte,bp hi,aV x hi,aV y Bv,ij hv,ij hw];refine ai (ec (ht t (iq hv)) ?_);rw [show (t.l==u.l)=true by rw [htu];simp];simp only [aS,reduceAdd,reduceEqDiff,reduceIte,Bool.not_true,aK,e5,aJ hi hx];exact hn _ _ ⟨rfl,e0,e1,rfl⟩
 ·rintro e h' ⟨rfl,e0,e1,e5⟩ K' gm;rw [F.dX.aU];simp only [e0,e5,aS,reduceAdd,reduceEqDiff,reduceIte,aX];rw [gm,F.dX.aG];exact hK
theorem Hf{a b:cN}(hz:a.size=b.size)(hd:a.aF.l.map bY=b.aF.l.map bY)(hs:a.small)(hK:∀ h',K (.ret (.bool true)) h'=true):Sem TP 16 [.agg (au a),.agg (au b)] h K:=by
 have hl:a.aF.l.length=b.aF.l.length:=by have:=congrArg List.length hd;simpa using this
 have rj:=hs.ok';refine F.CS ?_;rw [F.Ey];simp only [c8 (cA a),c8 (cA b),aq,Heap.aM];have g0:(Heap.alloc (Heap.alloc h (.cells (au a))) (.cells (au b))).get h.next=some (.cells (au a)):=by rw [Heap.aW,Heap.aM,if_neg (by omega)];exact aB _ _
 have g1:(Heap.alloc (Heap.alloc h (.cells (au a))) (.cells (au b))).get (h.next+1)=some (.cells (au b)):=aB _ _;have gn:(Heap.alloc (Heap.alloc h (.cells (au a))) (.cells (au b))).next=h.next+2:=rfl
 generalize (Heap.alloc (Heap.alloc h (.cells (au a))) (.cells (au b)))=H at g0 g1 gn ⊢;have lz:ah none (.ptr h.next 0) H=some (.int .i64 a.size):=by rw [ak g0];rfl
 have lz1:ah none (.ptr (h.next+1) 0) H=some (.int .i64 b.size):=by rw [ak g1];rfl
 have lr:ah none (.ptr h.next 1) H=some (an aR 3 a.aF):=by rw [ak g0];rfl
 have lr1:ah none (.ptr (h.next+1) 1) H=some (an aR 3 b.aF):=by rw [ak g1];rfl
 simp only [aS,reduceAdd,reduceEqDiff,reduceIte,lz,lz1,lr,lr1,hz,hl,cP,decide_true,Bool.not_true,aK];refine aE 0 a.aF.l.length (zero_le _) (fun i e h'=>h'.get h.next=some (.cells (au a))/\h'.get (h.next+1)=some (.cells (au b))/\h.next+2<=h'.next/\e 2 = .ptr h.next 0/\e 3 = .ptr (h.next+1) 0/\e 5 = .int .i64 (i:Int)) ⟨g0,g1,by omega,rfl,rfl,rfl⟩ ?_ ?_
 ·rintro i e h' _ hi ⟨q0,q1,qn,e2,e3,e5⟩ K' hn gm hr hp;have hv:a.aF.l[i]?=some a.aF.l[i]:=ew hi;generalize a.aF.l[i]=r at hv;have Bv:i<b.aF.l.length:=by omega
  have hw:b.aF.l[i]?=some b.aF.l[i]:=ew Bv;generalize b.aF.l[i]=u at hw;have nR:=iq hv
  have hru:bY r=bY u:=by
   have h1:(a.aF.l.map bY)[i]?=some (bY r):=by rw [getElem?_map,hv];rfl
   rw [hd,getElem?_map,hw] at h1;exact (Option.some.inj h1).symm
  unfold bY at hru;simp only [Prod.mk.injEq] at hru;have lr:ah none (.ptr h.next 1) h'=some (an aR 3 a.aF):=by rw [ak q0];rfl
  have lr1:ah none (.ptr (h.next+1) 1) h'=some (an aR 3 b.aF):=by rw [ak q1];rfl
  have la:∀ hh,ah (some 3) (.dQ (a.aF.l.flatMap aR) (i*3)) hh=some (.agg (aR r)):=fun hh=>dx dU hv;have lb:∀ hh,ah (some 3) (.dQ (b.aF.l.flatMap aR) (i*3)) hh=some (.agg (aR u)):=fun hh=>dx dU hw;have y0:((h'.alloc (.cells [.str [],.int .i64 0,.ay])).alloc (.cells [.str [],.int .i64 0,.ay])).get h'.next=some (.cells [.str [],.int .i64 0,.ay]):=by rw [Heap.aW,Heap.aM,if_neg (by omega)];exact aB _ _
  have y1:((h'.alloc (.cells [.str [],.int .i64 0,.ay])).alloc (.cells [.str [],.int .i64 0,.ay])).get (h'.next+1)=some (.cells [.str [],.int .i64 0,.ay]):=aB _ _;have yx:bC h' ((h'.alloc (.cells [.str [],.int .i64 0,.ay])).alloc (.cells [.str [],.int .i64 0,.ay])):=(bC.alloc _ _).trans (bC.alloc _ _);have yn:((h'.alloc (.cells [.str [],.int .i64 0,.ay])).alloc (.cells [.str [],.int .i64 0,.ay])).next=h'.next+2:=rfl
  rw [F.iL.aU];simp only [e2,e3,e5,aS,reduceAdd,reduceEqDiff,reduceIte,lr,lr1,bp hi,aV a.aF hi,aV b.aF Bv,la,lb,Heap.aM];generalize ((h'.alloc (.cells [.str [],.int .i64 0,.ay])).alloc (.cells [.str [],.int .i64 0,.ay]))=Y at y0 y1 yx yn ⊢;have abv:∀ (v:Rel),eo [.str [],.int .i64 0,.ay] 0 (aR v)=aR v:=fun v=>by obtain ⟨nm,k,t⟩:=v;rfl
  have Tc:aZ 3 (.ptr h'.next 0) (.agg (aR r)) Y=some (Y.set h'.next (.cells (aR r))):=by
   rw [cB (n:=3) (v:=.agg (aR r)) y0 (dU r) (fP r) (by simp)];show some (Y.set h'.next (.cells (eo [.str [],.int .i64 0,.ay] 0 (aR r))))=_;rw [abv]
  have z1:(Y.set h'.next (.cells (aR r))).get (h'.next+1)=some (.cells [.str [],.int .i64 0,.ay]):=by rw [Heap.aN,if_neg (by omega)];exact y1
  have zq1:(Y.set h'.next (.cells (aR r))).get (h.next+1)=some (.cells (au b)):=by rw [Heap.aN,if_neg (by omega),yx.get _ (by omega)];exact q1
  have aer:ah none (.ptr (h.next+1) 1) (Y.set h'.next (.cells (aR r)))=some (an aR 3 b.aF):=by rw [ak zq1];rfl
  have PI:aZ 3 (.ptr (h'.next+1) 0) (.agg (aR u)) (Y.set h'.next (.cells (aR r)))=some ((Y.set h'.next (.cells (aR r))).set (h'.next+1) (.cells (aR u))):=by
   rw [cB (n:=3) (v:=.agg (aR u)) z1 (dU u) (fP u) (by simp)];show some ((Y.set h'.next (.cells (aR r))).set (h'.next+1) (.cells (eo [.str [],.int .i64 0,.ay] 0 (aR u))))=_;rw [abv]
  simp only [Tc,aq,aer,AV.beq_refl,Bool.and_self,if_true,PI];have w0:((Y.set h'.next (.cells (aR r))).set (h'.next+1) (.cells (aR u))).get h'.next=some (.cells (aR r)):=by rw [Heap.aN,if_neg (by omega),Heap.aN,if_pos rfl]
  have w1:((Y.set h'.next (.cells (aR r))).set (h'.next+1) (.cells (aR u))).get (h'.next+1)=some (.cells (aR u)):=by rw [Heap.aN,if_pos rfl]
  have wx:∀ b,b<h'.next->((Y.set h'.next (.cells (aR r))).set (h'.next+1) (.cells (aR u))).get b=h'.get b:=fun b hb=>by rw [Heap.aN,if_neg (by omega),Heap.aN,if_neg (by omega)];exact yx.get b hb
  have wn:((Y.set h'.next (.cells (aR r))).set (h'.next+1) (.cells (aR u))).next=h'.next+2:=by rw [Heap.br,Heap.br];exact yn
  generalize ((Y.set h'.next (.cells (aR r))).set (h'.next+1) (.cells (aR u)))=W at w0 w1 wx wn ⊢;have k0:ah none (.ptr h'.next 0) W=some (.str r.name):=by rw [ak w0];rfl
  have k1:ah none (.ptr h'.next 1) W=some (.int .i64 r.arity):=by rw [ak w0];rfl
  have k2:ah none (.ptr h'.next 2) W=some (an cZ 1 r.aO):=by rw [ak w0];rfl
  have j0:ah none (.ptr (h'.next+1) 0) W=some (.str u.name):=by rw [ak w1];rfl
  have j1:ah none (.ptr (h'.next+1) 1) W=some (.int .i64 u.arity):=by rw [ak w1];rfl
  have j2:ah none (.ptr (h'.next+1) 2) W=some (an cZ 1 u.aO):=by rw [ak w1];rfl
  simp only [aS,reduceAdd,reduceEqDiff,reduceIte,k0,k1,k2,j0,j1,j2,hru.1,hru.2.1,beq_self_eq_true,Bool.not_true,aK];refine ai (xe hru.2.2 (by have:=hs.G1 r nR;unfold cM;omega) (fun t ht=>by have:=hs.W7 r nR t ht;unfold cM;omega) ?_);simp only [aS,reduceAdd,reduceEqDiff,reduceIte,Bool.not_true,aK,e5,aJ hi rj];exact hn _ _ ⟨by rw [wx _ (by omega)];exact q0,by rw [wx _ (by omega)];exact q1,by omega,e2,e3,rfl⟩
 ·rintro e h' ⟨q0,q1,qn,e2,e3,e5⟩ K' gm;have lr:ah none (.ptr h.next 1) h'=some (an aR 3 a.aF):=by rw [ak q0];rfl
  rw [F.iL.aU];simp only [e2,e5,aS,reduceAdd,reduceEqDiff,reduceIte,lr,aX];rw [gm,F.iL.aG];exact hK h'
theorem Qr(s:cN):fZ [.int .i64 0,.ay] [(0,2)] [.agg (au s)]=some (au s):=by
 obtain ⟨z,r⟩:=s;cases r<;>rfl
theorem cT{rules:Sl aP}{s:cN}{N:Int}(kD:∀ r ∈ rules.l,r.ok)(me:s.ok){h:Heap}{K:Out->Heap->Bool}(hK:∀ b:Bool,(b=true->∀ r ∈ rules.l,r.mj)->K (.ret (.bool b)) h=true) :
  Sem TP 10 [an aQ 3 rules,.agg (au s),.int .i64 N] h K:=by
 have gen:∀ R:Out->Heap->Bool,(∀ (b:Bool) h',(b=true->∀ r ∈ rules.l,r.mj)->R (.ret (.bool b)) h'=true)->Sem TP 10 [an aQ 3 rules,.agg (au s),.int .i64 N] Heap.empty R:=by
  intro R fin;refine F.A6 ?_;rw [F.CT];simp only [c8 (cA s),aq,bU];have g0:(Heap.empty.alloc (.cells (au s))).get 0=some (.cells (au s)):=aB _ _;have gn:(Heap.empty.alloc (.cells (au s))).next=1:=rfl
  generalize (Heap.empty.alloc (.cells (au s)))=H at g0 gn ⊢;refine ai (Lf (by omega) kD fun b hb=>?_);simp only [aS,reduceAdd,reduceEqDiff,reduceIte]
  cases b with
  |false=>
   simp only [Bool.not_false,aL];exact fin false _ (fun h=>by cases h)
  |true=>
  have iY:=hb rfl;have l0:ah (some 2) (.ptr 0 0) H=some (.agg (au s)):=by rw [ak g0,cV (cs:=au s) (n:=2) rfl]
  have g1:(H.alloc (.cells (au s))).get H.next=some (.cells (au s)):=aB _ _
  have S9:(H.alloc (.cells (au s))).get 0=some (.cells (au s)):=by rw [Heap.aW,if_neg (by omega)];exact g0
  simp only [Bool.not_true,aK,l0,aq,Qr];generalize (H.alloc (.cells (au s)))=H2 at g1 S9 ⊢;refine ai (bZ me g1 fun b=>?_);simp only [aS,reduceAdd,reduceEqDiff,reduceIte]
  cases b with
  |false=>
   simp only [Bool.not_false,aL];exact fin false _ (fun h=>by cases h)
  |true=>
  have Wi:ah (some 2) (.ptr 0 0) H2=some (.agg (au s)):=by rw [ak S9,cV (cs:=au s) (n:=2) rfl]
  simp only [Bool.not_true,aK,Wi,aq];refine ai (bH kD iY me (fun e he=>?_) fun ho=>?_)
  ·have hne:e≠0:=by
    rcases he with ⟨_,rfl⟩|⟨_,_,⟨_,rfl⟩|⟨_,_,rfl⟩⟩<;>omega
   simp only [aS,reduceAdd,reduceEqDiff,reduceIte,cP,eV hne,Bool.not_false,aL];exact fin true _ (fun _=>iY)
  ·obtain ⟨n,hn,n1,xj,h8⟩:=jw ho.valid;have uJ:s.size.toNat=n:=by omega
   have P4:rules.l.length<=cM:=by have:=ho.gh.mj;unfold cM;omega
   have Of:∀ r ∈ rules.l,n ^ (varsOf r).length<=65536:=fun r hr=>Nat.le_of_not_lt fun h=>ho.Ax (.inr (.inr ⟨r,hr,by rw [uJ];exact h⟩));simp only [aS,reduceAdd,reduceEqDiff,reduceIte,cP,decide_true,Bool.not_true,aK];refine aE 0 rules.l.length (zero_le _) (fun i e h'=>h'=H2/\∃ q:Nat,q<=i*65536/\e 0=an aQ 3 rules/\e 2 = .int .i64 N/\e 4 = .ptr 0 0/\e 7 = .int .i64 (q:Int)/\e 8 = .int .i64 (i:Int)) ⟨rfl,0,by omega,rfl,rfl,rfl,rfl,rfl⟩ ?_ ?_
   ·rintro i e h' _ hi ⟨rfl,q,hq,e0,e2,e4,e7,e8⟩ K' DQ hx hr hp;have hv:rules.l[i]?=some rules.l[i]:=ew hi;generalize rules.l[i]=r at hv;have nR:=iq hv;have ai8:=Of r nR;have se:=ho.gh.mj;obtain ⟨m,jG⟩:=ho.gh.go;have aaY:=(jf jG r nR).2.2;have UJ:(varsOf r).length<=cM:=by unfold cM;omega
    have lz:ah none (.ptr 0 0) h'=some (.int .i64 (n:Int)):=(by rw [ak S9,<- hn];rfl);rw [F.cT.aU];simp only [e0,e8,aS,reduceAdd,reduceEqDiff,reduceIte,bp hi];refine aE 0 (varsOf r).length (zero_le _) (fun j e h2=>h2=h'/\e 0=an aQ 3 rules/\e 2 = .int .i64 N/\e 4 = .ptr 0 0/\e 7 = .int .i64 (q:Int)/\e 8 = .int .i64 (i:Int)/\e 9 = .int .i64 ((n ^ j:Nat):Int)/\e 10 = .int .i64 (j:Int)) ⟨rfl,e0,e2,e4,e7,e8,rfl,rfl⟩ ?_ ?_
    ·rintro j e h2 _ hj ⟨rfl,e0,e2,e4,e7,e8,e9,jF⟩ K2 TF fY qi DT;have we:n ^ (j+1)=n ^ j*n:=Nat.pow_succ n j;have hle:=wY n1 (show j+1<=(varsOf r).length by omega);have hm:((n ^ j:Nat):Int)*(n:Int)=((n ^ (j+1):Nat):Int):=by rw [we,Int.natCast_mul]
     have hmm:aI .mul (.int .i64 ((n ^ j:Nat):Int)) (.int .i64 (n:Int))=some (.int .i64 ((n ^ (j+1):Nat):Int)):=(by rw [uv (by rw [hm];omega) (by rw [hm];omega),hm]);rw [F.cT.dm];simp only [e0,e8,aS,reduceAdd,reduceEqDiff,reduceIte,aV rules hi,dx gz hv];simp only [aQ];refine ai (bN (iY r nR) fun x jI=>?_);simp only [aS,reduceAdd,reduceEqDiff,reduceIte,jI,e4,e9,jF,bp hj,aL,lz,hmm,aJ hj UJ];exact TF _ _ ⟨rfl,e0,e2,e4,e7,e8,rfl,rfl⟩
    ·rintro e h2 ⟨rfl,e0,e2,e4,e7,e8,e9,jF⟩ K2 fY
     have C6:aI .add (.int .i64 (q:Int)) (.int .i64 ((n ^ (varsOf r).length:Nat):Int))=some (.int .i64 ((q+n ^ (varsOf r).length:Nat):Int)):=by
      rw [je (by omega) (by omega)];rfl
     rw [F.cT.dm];simp only [e0,e8,aS,reduceAdd,reduceEqDiff,reduceIte,aV rules hi,dx gz hv];simp only [aQ];refine ai (bN (iY r nR) fun x jI=>?_);simp only [aS,reduceAdd,reduceEqDiff,reduceIte,jI,jF,aX,aK];rw [fY,F.cT.cx];simp only [aS,reduceAdd,reduceEqDiff,reduceIte,e7,e8,e9,C6,aJ hi P4];exact DQ _ _ ⟨rfl,q+n ^ (varsOf r).length,by rw [succ_mul];omega,e0,e2,e4,rfl,rfl⟩
   ·rintro e h' ⟨rfl,q,hq,e0,e2,e4,e7,e8⟩ K' hx;rw [F.cT.aU];simp only [e0,e8,aS,reduceAdd,reduceEqDiff,reduceIte,aX];rw [hx,F.cT.aG];simp only [aS,reduceAdd,reduceEqDiff,reduceIte,e2,e7];exact fin _ _ (fun _=>iY)
 have main:=gen (fun o h'=>yes (∃ b:Bool,o = .ret (.bool b)/\(b=true->∀ r ∈ rules.l,r.mj))) (fun b h' hb=>cw.2 ⟨b,rfl,hb⟩);refine main.frozen (by simp [AV.cO,AV.pure,cp fN,eO]) fun o h' ho=>?_;obtain ⟨b,rfl,hb⟩:=cw.1 ho;exact ⟨_,_,rfl,.scalar _ rfl,hK b hb⟩
theorem yH{e:Int}(h:DA rs s e):e≠0/\¬ fo rs s:=by
 rcases h with ⟨a,rfl⟩|⟨g,v,⟨a,rfl⟩|⟨a,b,rfl⟩⟩
 ·exact ⟨by omega,fun h=>a.elim (fun h'=>h' h.gh) fun h'=>by rw [h.valid] at h';cases h'⟩
 ·exact ⟨by omega,fun h=>h.names a⟩
 ·exact ⟨by omega,fun h=>h.Ax b⟩
theorem NX{Fk:Lk}(ho:fo rs s)(hd:out.aF.l.map bY=s.aF.l.map bY++wZ rs s.size.toNat Fk (eF rs)):out.small:=by
 have hs:=(gi ho.valid).1;obtain ⟨m,jG⟩:=ho.gh.go;have se:=ho.gh.mj;have hdl:=oP rs
 have key:∀ r ∈ out.aF.l,(∃ p ∈ s.aF.l,p.aO.l.map Sl.l=r.aO.l.map Sl.l)\/∃ nm ∈ eF rs,r.aO.l.map Sl.l=yD s.size.toNat Fk nm (pY rs nm) (s.size.toNat ^ pY rs nm):=fun r hr=>by
  have h1:bY r ∈ s.aF.l.map bY++wZ rs s.size.toNat Fk (eF rs):=by rw [<- hd];exact List.mem_map_of_mem hr
  rcases mem_append.1 h1 with h1|h1
  ·obtain ⟨p,hp,e⟩:=mem_map.1 h1;unfold bY at e;simp only [Prod.mk.injEq] at e;exact .inl ⟨p,hp,e.2.2⟩
  ·obtain ⟨nm,vr,e⟩:=mem_map.1 h1;unfold bY at e;simp only [Prod.mk.injEq] at e;exact .inr ⟨nm,vr,e.2.2.symm⟩
 have TD:∀ nm ∈ eF rs,pY rs nm<=12/\s.size.toNat ^ pY rs nm<=4096:=fun nm vr=>by
  obtain ⟨_,r,hr,_,ha⟩:=BG jG ((fO rs).1 vr);rw [ha];exact ⟨nV (jf jG r hr).1,Nat.le_of_not_lt fun h=>ho.Ax (.inr (.inl ⟨r,hr,h⟩))⟩
 refine ⟨?_,fun r hr=>?_,fun r hr t ht=>?_⟩
 ·have h1:=congrArg List.length hd;rw [length_map,length_append,length_map] at h1;unfold wZ at h1;rw [length_map] at h1;have h2:¬ 8<s.aF.l.length+(eF rs).length:=fun h=>ho.Ax (.inl h);omega
 ·rcases key r hr with ⟨p,hp,e⟩|⟨nm,vr,e⟩
  ·have h1:=congrArg List.length e;simp only [length_map] at h1;have:=hs.G1 p hp;omega
  ·have h1:=congrArg List.length e;rw [length_map] at h1;have h2:=Jo s.size.toNat Fk nm (pY rs nm) (s.size.toNat ^ pY rs nm);have:=(TD nm vr).2;omega
 ·rcases key r hr with ⟨p,hp,e⟩|⟨nm,vr,e⟩
  ·have h1:t.l ∈ p.aO.l.map Sl.l:=by rw [e];exact List.mem_map_of_mem ht
   obtain ⟨u,hu,V6⟩:=mem_map.1 h1;rw [<- V6];exact hs.W7 p hp u hu
  ·have h1:t.l ∈ yD s.size.toNat Fk nm (pY rs nm) (s.size.toNat ^ pY rs nm):=by rw [<- e];exact List.mem_map_of_mem ht
   unfold yD at h1;obtain ⟨i,_,hi⟩:=mem_map.1 h1;rw [<- hi,tV];have:=(TD nm vr).1;omega
theorem Qs{u:List Int}:u ∈ yD n L nm k N↔∃ i,i<N/\L nm i=true/\u=nG n k i:=by
 unfold yD;rw [mem_map];constructor
 ·rintro ⟨i,hi,rfl⟩;rw [mem_filter,mem_range] at hi;exact ⟨i,hi.1,hi.2,rfl⟩
 ·rintro ⟨i,h1,h2,rfl⟩;exact ⟨i,mem_filter.2 ⟨mem_range.2 h1,h2⟩,rfl⟩
theorem NY(n1:1<=n)(hj:j<n ^ k)(hij:i<j):dw (nG n k i) (nG n k j)=true:=by
 obtain ⟨a1,a2⟩:=G2 n1 (show i<n ^ k by omega);obtain ⟨b1,b2⟩:=G2 n1 hj
 cases h:dw (nG n k i) (nG n k j) with
 |true=>rfl
 |false=>
  have hl:(nG n k i).length=(nG n k j).length:=by rw [tV,tV]
  have hne:nG n k i≠nG n k j:=fun e=>by rw [e,b2] at a2;omega
  have:=FF hl.symm b1 a1 (zN hl h hne);omega
theorem Qt(n1:1<=n)(L:Lk)(nm:cc)(k:Nat):TI n k (yD n L nm k (n ^ k)):=by
 refine ⟨fun u hu=>?_,?_⟩
 ·obtain ⟨i,hi,_,rfl⟩:=Qs.1 hu;exact ⟨tV _ _ _,(G2 n1 hi).1⟩
 ·unfold iX yD;rw [pairwise_map];refine (List.Pairwise.filter _ ?_);refine List.Pairwise.imp_of_mem ?_ (pairwise_lt_range (n:=n ^ k));intro a b _ hb rj;exact NY n1 (mem_range.1 hb) rj
section
variable {rs:List aP} {s out:cN} {n:Nat} {m:eE} {L:Lk}
theorem TM(hd:out.aF.l.map bY=s.aF.l.map bY++wZ rs n L (eF rs)):(out.aF.l.map bY).map m4=(s.aF.l.map bY++lf rs (eF rs)).map m4:=by
 rw [hd,map_append,map_append];unfold wZ lf;congr 1;rw [List.map_map,List.map_map];rfl
theorem NZ(ho:fo rs s)(jG:dW rs []=some m)(hn:s.size=(n:Int))(hz:out.size=s.size)(hd:out.aF.l.map bY=s.aF.l.map bY++wZ rs n L (eF rs)):de out=true:=by
 have hE:=Wj (rs':=s.aF.l++oT rs (eF rs)) ho jG (by rw [map_append,xd]);rw [map_append,xd] at hE;have Ju:=TM hd;have n1:1<=n:=by have:=hE.lo;omega
 have uJ:s.size.toNat=n:=by omega
 rw [fR,hz];have vr:∀ l:List Nl,l.map (·.1)=(l.map m4).map (·.1):=fun l=>by rw [List.map_map];rfl
 refine ⟨hE.lo,hE.hi,?_,fun d Qq=>?_,?_⟩
 ·have:=congrArg List.length Ju;simp only [length_map] at this;have h8:=hE.mj;rw [length_map];omega
 ·rw [hd] at Qq;rcases mem_append.1 Qq with Qq|Qq
  ·exact hE.rel d (mem_append_left _ Qq)
  ·obtain ⟨nm,vr,rfl⟩:=mem_map.1 Qq;obtain ⟨q0,k,q1,q2,q3,_⟩:=hE.rel (nm,(pY rs nm:Int),[]) (mem_append_right _ (mem_map.2 ⟨nm,vr,rfl⟩));have q1':(pY rs nm:Int)=(k:Int):=q1;obtain rfl:pY rs nm=k:=by omega
   rw [uJ] at q3 ⊢;exact ⟨q0,_,rfl,q2,q3,Qt n1 L nm _⟩
 ·rw [vr,Ju,<- vr];exact hE.names
set_option maxHeartbeats 1000000 in
end
structure m6 (rs:List aP) (s out:cN):Prop where
 size:out.size=s.size
 fin:∃ Fk,mO rs s.size.toNat s Fk/\out.aF.l.map bY=s.aF.l.map bY++wZ rs s.size.toNat Fk (eF rs)
theorem FV{n:Nat}:∀ {x y:List (Sl Int)} (d:List Bool),x.map Sl.l=y.map Sl.l->oM n x d=oM n y d
 |[],[],d,_=>rfl
 |t :: x,u :: y,d,h=>by
  simp only [map_cons,List.cons.injEq] at h;simp only [oM,h.1];exact FV _ h.2
 |[],_ :: _,_,h=>by simp at h
 |_ :: _,[],_,h=>by simp at h
theorem N3{x y:List (Sl Int)}(h:x.map Sl.l=y.map Sl.l):bitsOf n k x=bitsOf n k y:=by
 unfold bitsOf;exact FV _ h
theorem Jz{nm:cc}:∀ {l m:List Rel},l.map bY=m.map bY->(l.find? (fQ nm)).map bY=(m.find? (fQ nm)).map bY
 |[],[],_=>rfl
 |q :: l,u :: m,h=>by
  simp only [map_cons,List.cons.injEq] at h
  have hn:fQ nm q=fQ nm u:=by
   have:q.name=u.name:=congrArg (·.1) h.1;simp only [fQ,this]
  rw [find?_cons,find?_cons,hn]
  cases fQ nm u with
  |true=>simp [h.1]
  |false=>exact Jz h.2
 |[],_ :: _,h=>by simp at h
 |_ :: _,[],h=>by simp at h
theorem DF{t:cN}(h:s.aF.l.map bY=t.aF.l.map bY):zK n s=zK n t:=by
 funext nm k;have:=Jz (nm:=nm) h;unfold zK
 cases h1:s.aF.l.find? (fQ nm) with
 |none=>
  cases h2:t.aF.l.find? (fQ nm) with
  |none=>rfl
  |some u=>rw [h1,h2] at this;simp at this
 |some q=>
  cases h2:t.aF.l.find? (fQ nm) with
  |none=>rw [h1,h2] at this;simp at this
  |some u=>
   rw [h1,h2] at this;simp only [map_some,Option.some.injEq] at this;have e1:q.arity=u.arity:=congrArg (·.2.1) this;have e2:q.aO.l.map Sl.l=u.aO.l.map Sl.l:=congrArg (·.2.2) this;show (bitsOf n q.arity.toNat q.aO.l).getD k false=(bitsOf n u.arity.toNat u.aO.l).getD k false;rw [e1,N3 e2]
theorem m6.det{t a b:cN}(ha:m6 rs s a)(hb:m6 rs t b)(hz:s.size=t.size)(hd:s.aF.l.map bY=t.aF.l.map bY):a.size=b.size/\a.aF.l.map bY=b.aF.l.map bY:=by
 obtain ⟨z1,F,f1,f2⟩:=ha;obtain ⟨z2,G,g1,g2⟩:=hb;refine ⟨by rw [z1,z2,hz],?_⟩;rw [<- hz] at g1 g2
 have g1':mO rs s.size.toNat s G:=by
  unfold mO at g1 ⊢
  rwa [DF hd]
 obtain rfl:=f1.unique g1';rw [f2,g2,hd]
theorem BI{t:cN}(h:(t.aF.l.map bY).map m4=(s.aF.l.map bY).map m4){x:Rel}(hx:x ∈ t.aF.l):∃ y ∈ s.aF.l,y.name=x.name/\y.arity=x.arity:=by
 have h1:m4 (bY x) ∈ (t.aF.l.map bY).map m4:=List.mem_map_of_mem (List.mem_map_of_mem hx);rw [h] at h1;obtain ⟨d,hd,e⟩:=mem_map.1 h1;obtain ⟨y,hy,rfl⟩:=mem_map.1 hd;exact ⟨y,hy,congrArg (·.1) e,congrArg (·.2) e⟩
theorem DG{t:cN}(ho:fo rs s)(hv:de t=true)(hz:t.size=s.size)(h:(t.aF.l.map bY).map m4=(s.aF.l.map bY).map m4):fo rs t:=by
 refine ⟨ho.gh,hv,fun h4=>ho.names ?_,fun h5=>ho.Ax ?_⟩
 ·rcases h4 with ⟨p,hp,hn,hf⟩|⟨r,hr,hn⟩
  ·refine .inl ⟨p,hp,hn,?_⟩;rw [find?_eq_none] at hf ⊢;intro y hy hs;obtain ⟨x,hx,e1,e2⟩:=BI h.symm hy;refine hf x hx ?_;simp only [iP] at hs ⊢;rw [e1,e2];exact hs
  ·obtain ⟨y,hy,e1,_⟩:=BI h hr;exact .inr ⟨y,hy,by rw [e1];exact hn⟩
 ·have hl:t.aF.l.length=s.aF.l.length:=by have:=congrArg List.length h;simpa using this
  unfold Mr at h5 ⊢;rw [hl,hz] at h5;exact h5
theorem Lg{t:List Int}(ho:fo rs s)(hr:s.aF.l[j]?=some r)(hk:r.arity=(t.length:Int))(hb:jy s.size t=true)(hp:vu s j r t is s'):fo rs s':=by
 obtain ⟨n,hn,n1,_⟩:=jw ho.valid;refine DG ho (FQ ho.valid hr hk rfl ?_ hp) hp.size (yE hr hp);have:((s.size.toNat:Nat):Int)=s.size:=by rw [hn];simp
 rw [this];exact hb
theorem m6.valid{rs:List aP}{s out:cN}(ho:fo rs s)(h:m6 rs s out):de out=true:=by
 obtain ⟨n,hn,n1,_⟩:=jw ho.valid;obtain ⟨m,jG⟩:=ho.gh.go;obtain ⟨hz,F,_,hd⟩:=h;have e:s.size.toNat=n:=by rw [hn];simp
 rw [e] at hd;exact NZ ho jG hn hz hd
theorem m6.small{rs:List aP}{s out:cN}(ho:fo rs s)(h:m6 rs s out):out.small:=by
 obtain ⟨hz,F,_,hd⟩:=h;exact NX ho hd
theorem m6.sig{t a b:cN}(ha:m6 rs s a)(hb:m6 rs t b)(h:(t.aF.l.map bY).map m4=(s.aF.l.map bY).map m4):(b.aF.l.map bY).map m4=(a.aF.l.map bY).map m4:=by
 obtain ⟨_,F,_,f2⟩:=ha;obtain ⟨_,G,_,g2⟩:=hb;rw [f2,g2,map_append,map_append,h];congr 1;unfold wZ;rw [List.map_map,List.map_map];rfl
theorem My{a b:cN}(ha:de a=true)(hb:de b=true)(h:(b.aF.l.map bY).map m4=(a.aF.l.map bY).map m4) :
  a.aF.l.length<=b.aF.l.length/\∀ (i:Nat) (q u:Rel),a.aF.l[i]?=some q->b.aF.l[i]?=some u->(∀ t ∈ q.aO.l,∀ w ∈ u.aO.l,w.l.length=t.l.length)/\iX (u.aO.l.map Sl.l):=by
 have hl:b.aF.l.length=a.aF.l.length:=by have:=congrArg List.length h;simpa using this
 refine ⟨by omega,fun i q u hq hu=>?_⟩
 have e:m4 (bY u)=m4 (bY q):=by
  have:=congrArg (·[i]?) h;simp only [getElem?_map,hq,hu,map_some,Option.some.injEq] at this;exact this
 have ea:u.arity=q.arity:=congrArg (·.2) e;obtain ⟨_,k,k1,_,_,kt⟩:=(fR.1 ha).rel _ (List.mem_map_of_mem (iq hq));obtain ⟨_,m,m1,_,_,mt⟩:=(fR.1 hb).rel _ (List.mem_map_of_mem (iq hu));have k1:q.arity=(k:Int):=k1;have m1:u.arity=(m:Int):=m1;refine ⟨fun t ht w hw=>?_,mt.2⟩;rw [(kt.1 _ (List.mem_map_of_mem ht)).1,(mt.1 _ (List.mem_map_of_mem hw)).1];omega
def lG(rs:Sl aP)(s all:cN)(dn:AV):List AV:=[an aQ 3 rs,.int .i64 s.size,an aR 3 s.aF,.int .i64 all.size,an aR 3 all.aF,dn]
structure eB (rs:Sl aP) (N:Nat) (h:Heap) (s all:cN) (dn:AV):Prop where
 lt:N<h.next
 get:h.get N=some (.cells (lG rs s all dn))
theorem eB.agree{rs:Sl aP}{all:cN}(x:eB rs N h s all dn)(hg:h'.get N=h.get N)(hn:h.next<=h'.next):eB rs N h' s all dn:=⟨Nat.lt_of_lt_of_le x.lt hn,by rw [hg];exact x.get⟩
theorem eB.ext{rs:Sl aP}{all:cN}(x:eB rs N h s all dn)(e:bC h h'):eB rs N h' s all dn:=x.agree (e.get N x.lt) e.next
theorem eB.base{rs:Sl aP}{all:cN}(x:eB rs N h s all dn):ah (some 2) (.ptr N 1) h=some (.agg (au s)):=by rw [ak x.get];rfl
theorem eB.all{rs:Sl aP}{N:Nat}{h:Heap}{s all:cN}{dn:AV}(x:eB rs N h s all dn):ah (some 2) (.ptr N 3) h=some (.agg (au all)):=by rw [ak x.get];rfl
theorem eB.rules{rs:Sl aP}{all:cN}(x:eB rs N h s all dn):ah none (.ptr N 0) h=some (an aQ 3 rs):=by rw [ak x.get];rfl
theorem eB.size{rs:Sl aP}{N:Nat}{h:Heap}{s all:cN}{dn:AV}(x:eB rs N h s all dn):ah none (.ptr N 1) h=some (.int .i64 s.size):=by rw [ak x.get];rfl
theorem eB.done{rs:Sl aP}{all:cN}(x:eB rs N h s all dn):ah none (.ptr N 5) h=some dn:=by rw [ak x.get];rfl
theorem eB.TN{rs:Sl aP}{all:cN}(x:eB rs N h s all dn)(s':cN):aZ 2 (.ptr N 1) (.agg (au s')) h=some (h.set N (.cells (lG rs s' all dn)))/\eB rs N (h.set N (.cells (lG rs s' all dn))) s' all dn:=
 ⟨by rw [cB (n:=2) (v:=.agg (au s')) x.get rfl (cA s') (by simp [lG])];rfl,by rw [Heap.br];exact x.lt,by rw [Heap.aN,if_pos rfl]⟩
theorem eB.Ws{rs:Sl aP}{all:cN}(x:eB rs N h s all dn)(a':cN):aZ 2 (.ptr N 3) (.agg (au a')) h=some (h.set N (.cells (lG rs s a' dn)))/\eB rs N (h.set N (.cells (lG rs s a' dn))) s a' dn:=
 ⟨by rw [cB (n:=2) (v:=.agg (au a')) x.get rfl (cA a') (by simp [lG])];rfl,by rw [Heap.br];exact x.lt,by rw [Heap.aN,if_pos rfl]⟩
theorem eB.TO{rs:Sl aP}{all:cN}(x:eB rs N h s all dn){d:AV}(h1:d.dB = [d])(h2:bw [d]=true):aZ 1 (.ptr N 5) d h=some (h.set N (.cells (lG rs s all d)))/\eB rs N (h.set N (.cells (lG rs s all d))) s all d:=
 ⟨by rw [cB (n:=1) (v:=d) x.get (by rw [h1];rfl) (by rw [h1];exact h2) (by simp [lG]),h1];rfl,by rw [Heap.br];exact x.lt,by rw [Heap.aN,if_pos rfl]⟩
structure DH (N:Nat) (h h':Heap):Prop where
 next:h.next<=h'.next
 get:∀ b,b<h.next->b≠N->h'.get b=h.get b
theorem DH.set{N:Nat}{h h':Heap}(x:DH N h h')(o:jX):DH N h (h'.set N o):=⟨by rw [Heap.br];exact x.next,fun b hb hn=>by rw [Heap.aN,if_neg hn];exact x.get b hb hn⟩
theorem bC.but(x:bC h h')(N:Nat):DH N h h':=⟨x.next,fun b hb _=>x.get b hb⟩
theorem DH.trans{a b c:Heap}(x:DH N a b)(y:DH N b c):DH N a c:=⟨Nat.le_trans x.next y.next,fun i hi hn=>by rw [y.get i (Nat.lt_of_lt_of_le hi x.next) hn,x.get i hi hn]⟩
set_option maxHeartbeats 1000000 in
theorem Qu{rs:Sl aP}{all:cN}(x:eB rs N h s all dn)(kD:∀ r ∈ rs.l,r.ok)(iY:∀ r ∈ rs.l,r.mj)(ho:fo rs.l s)(hp:m6 rs.l s all)
  (hj:jA (iP nm (t.l.length:Int)) s.aF.l=(j:Int)) (hr:s.aF.l[j]?=some r) (QY:r.arity=(t.l.length:Int)) (hin:jy s.size t.l=true)
  (hK:∀ (s' tY:cN) h' (f g:Sl EN),vu s j r t.l is s'->fo rs.l s'->m6 rs.l s' tY->eB rs N h' s' tY dn->DH N h h' ->
   f.l.map He=vU (tY.aF.l.map bY) (all.aF.l.map bY)->g.l.map He=vU (all.aF.l.map bY) (tY.aF.l.map bY)->K (.ret (.tuple [an nx 2 f,an nx 2 g])) h'=true) :
  Sem TP 50 [.ptr N 0,.str nm,an encI 1 t,.bool is] h K:=by
 have hv:=ho.valid;have hnc:∀ c o:Nat,bx (.ptr c o)=some (.ptr c o):=fun _ _=>rfl;refine F.vo ?_;rw [F.wK];simp only [aS,reduceAdd,reduceEqDiff,reduceIte,hnc,x.base];refine ai (NU (gi hv).2 hv hj hr QY hin fun s' MZ=>?_);have oh:=Lg ho hr QY hin MZ;have HC:=oh.valid;obtain ⟨Tc,x1⟩:=x.TN s';have b1:DH N h (h.set N (.cells (lG rs s' all dn))):=(bC.refl h).but N |>.set _;simp only [aS,reduceAdd,reduceEqDiff,reduceIte,Tc,hnc,x1.all];have n1:(h.set N (.cells (lG rs s' all dn))).next=h.next:=Heap.br _ _ _
 generalize (h.set N (.cells (lG rs s' all dn)))=h1 at x1 b1 n1 ⊢;obtain ⟨H2,qJ,p2,po2,pn2⟩:=cF (h:=h1) (zs:=[.int .i64 0,.ay]) (cs:=au all) (n:=2) rfl rfl (cA all);have e2:bC h1 H2:=⟨by omega,fun b hb=>po2 b (by omega)⟩
 have x2:=x1.ext e2;have b2:=b1.trans (e2.but N);simp only [aS,reduceAdd,reduceEqDiff,reduceIte,qJ,hnc,x2.rules,x2.base];refine ai (dG kD iY (gi HC).2 (fun _=>(gi HC).1) (fun e he=>absurd oh (yH he).2) fun _ out hz hx=>?_);have hrun:m6 rs.l s' out:=⟨hz,hx⟩
 obtain ⟨st3,x3⟩:=x2.Ws out;have b3:=b2.set (.cells (lG rs s' out dn));have hNn:N≠h1.next:=by have:=x.lt;omega
 have l4:ah (some 2) (.ptr h1.next 0) (H2.set N (.cells (lG rs s' out dn)))=some (.agg (au all)):=by
  rw [ak (cs:=au all) (by rw [Heap.aN,if_neg (Ne.symm hNn)];exact p2),cV (cs:=au all) (n:=2) rfl]
 simp only [aS,reduceAdd,reduceEqDiff,reduceIte,st3,hnc,x3.all,l4];have GQ:=hrun.sig hp (yE hr MZ).symm;have aet:=hp.sig hrun (yE hr MZ);have W5:=hp.valid ho;have hvo:=hrun.valid oh;obtain ⟨q1,q2⟩:=My hvo W5 GQ;obtain ⟨q3,q4⟩:=My W5 hvo aet;refine ai (dH (hrun.small oh) (hp.small ho) q1 q2 fun f hf=>?_);simp only [aS,reduceAdd,reduceEqDiff,reduceIte,x3.all,l4,AV.beq_refl,Bool.and_self,if_true];refine ai (dH (hp.small ho) (hrun.small oh) q3 q4 fun g hg=>?_);simp only [aS,reduceAdd,reduceEqDiff,reduceIte];exact hK s' out _ f g MZ oh hrun x3 b3 hf hg
theorem EO(ht:t.l.length<=1000000)(hK:K (.ret (an encI 1 t)) h=true):Sem TP 49 [an encI 1 t] h K:=by
 have main:Sem TP 49 [an encI 1 t] Heap.empty (fun o h'=>yes (∃ v,o = .ret v/\Fz true h' v (an encI 1 t))):=by
  refine F.jS ?_;rw [F.kr];simp only [G3,aS,reduceAdd,reduceEqDiff,reduceIte]
  cases t with
  |none=>simp only [aL];exact cw.2 ⟨_,rfl,.dR rfl⟩
  |some l=>
   obtain ⟨b,h',a1,a2,_,_,_⟩:=zE (uG mX (some l) (Heap.empty.alloc (.cells []))) ht;simp only [aK,uK,aq,a1,ja];exact cw.2 ⟨_,rfl,ym a2⟩
 refine main.frozen (by simp [AV.cO,cp j6]) fun o h' ho=>?_;obtain ⟨v,rfl,hf⟩:=cw.1 ho;exact ⟨v,_,rfl,hf,hK⟩
theorem AA(hs:s.small)(hK:∀ s':cN,s'.size=s.size->s'.aF.l.map bY=s.aF.l.map bY->K (.ret (.agg (au s'))) h=true):Sem TP 46 [.agg (au s)] h K:=by
 have main:Sem TP 46 [.agg (au s)] Heap.empty (fun o h'=>yes (∃ v,∃ s':cN,o = .ret v/\s'.size=s.size/\s'.aF.l.map bY=s.aF.l.map bY/\Fz true h' v (.agg (au s')))):=by
  refine Az hs fun a h' l hx hd hl=>?_;obtain ⟨z,z1,z2⟩:=Mw hd.own hd.row;have:=lI.cons (.scalar (.int .i64 s.size) rfl) (lI.cons z2 lI.nil);exact cw.2 ⟨_,⟨s.size,z⟩,rfl,rfl,by rw [<- hl];exact z1,.agg _ _ this.len this.rel⟩
 refine main.frozen (by simp [AV.cO,AV.pure,eO]) fun o h' ho=>?_;obtain ⟨v,s',rfl,h1,h2,hf⟩:=cw.1 ho;exact ⟨v,_,rfl,hf,hK s' h1 h2⟩
theorem Hg(hs:s.ok)(hv:de s=true)(hj:jA (iP nm (t.l.length:Int)) s.aF.l = -1)
  (hK:K (.ret (.tuple [.bool false,.int .i64 4])) h=true):Sem TP 21 [.agg (au s),.str nm,an encI 1 t] h K:=by
 refine Sem.data (r:=.tuple [.bool false,.int .i64 4]) ?_ (by simp [AV.cO,AV.pure,eO,cp j6]) hK;clear hK;refine F.vK ?_;rw [F.yb];simp only [c8 (cA s),aq,bU];have g0:(Heap.empty.alloc (.cells (au s))).get 0=some (.cells (au s)):=aB _ _;generalize (Heap.empty.alloc (.cells (au s)))=H at g0 ⊢;have l0:ah (some 2) (.ptr 0 0) H=some (.agg (au s)):=by rw [ak g0,cV (cs:=au s) (n:=2) rfl]
 simp only [l0,aq];refine ai (dJ hs ?_);rw [hv];simp only [aS,reduceAdd,reduceEqDiff,reduceIte,Bool.not_true,aK,l0];refine ai (rG hs ?_);rw [hj];simp only [aS,reduceAdd,reduceEqDiff,reduceIte,fC (show (-1:Int)<0 by omega)];exact gw rfl
theorem AB{rs:Sl aP}{all:cN}(x:eB rs N h s all dn)(h1:0<s.size)(hK:K (.ret (.bool true)) h=true):Sem TP 45 [.ptr N 0] h K:=by
 refine F.r8 ?_;rw [F.td];simp only [show pM (.pointer 78) (.ptr N 0) .ey=some (.bool true) from rfl,show bx (.ptr N 0)=some (.ptr N 0) from rfl,aS,reduceAdd,reduceEqDiff,reduceIte,x.size,fC h1];exact hK
theorem Qv(s:St):dz TP s Tryz.f14.results.toList=(match ah (some 2) (s.env 2) s.h,(some []:Option (List AV)) with|some v,some vs=>some (v :: vs)|_,_=>none):=by kernel_rfl
theorem FW{rs:Sl aP}{all:cN}(x:eB rs N h s all dn)(h1:0<s.size)(hs:all.small)
  (hK:∀ (a':cN) h',bC h h'->a'.size=all.size->a'.aF.l.map bY=all.aF.l.map bY->K (.ret (.agg (au a'))) h'=true):Sem TP 14 [.ptr N 0] h K:=by
 refine F.vk ?_;rw [F.wI];have x1:=x.ext (bC.alloc h (.cells [.int .i64 0,.ay]));have g:(h.alloc (.cells [.int .i64 0,.ay])).get h.next=some (.cells [.int .i64 0,.ay]):=aB _ _
 refine ai (AB x1 h1 ?_);simp only [aS,reduceAdd,reduceEqDiff,reduceIte,Bool.not_true,show bx (.ptr N 0)=some (.ptr N 0) from rfl,x1.all];refine ai (AA hs fun a' z1 z2=>?_)
 have st:aZ 2 (.ptr h.next 0) (.agg (au a')) (h.alloc (.cells [.int .i64 0,.ay]))=some ((h.alloc (.cells [.int .i64 0,.ay])).set h.next (.cells (au a'))):=by
  rw [cB (n:=2) (v:=.agg (au a')) g rfl (cA a') (by simp)];rfl
 have l1:ah (some 2) (.ptr h.next 0) ((h.alloc (.cells [.int .i64 0,.ay])).set h.next (.cells (au a')))=some (.agg (au a')):=by
  rw [ak (cs:=au a') (by rw [Heap.aN,if_pos rfl]),cV (cs:=au a') (n:=2) rfl]
 simp only [aS,reduceAdd,reduceEqDiff,reduceIte,st,Qv,l1];exact hK a' _ ((bC.alloc _ _).set (dN _) _) z1 z2
structure Qw where
 name:cc
 tuple:Sl Int
 was:Bool
 to:Bool
def gE(c:Qw):List AV:=[.str c.name,an encI 1 c.tuple,.bool c.was,.bool c.to]
theorem N7(c:Qw):(gE c).length=4:=rfl
theorem uR(c:Qw):bw (gE c)=true:=by unfold gE;simp only [bw,fT,Bool.and_true];rfl
inductive lp (N:Nat) (h:Heap):AV->List Qw->Prop
 |nil:lp N h .ay []
 |row (b:Nat) (l:List Qw) (cs:List AV):b≠N->b<h.next->h.get b=some (.cells cs)->l.length*4<=cs.length->cs.take (l.length*4)=l.flatMap gE->lp N h (.slice b 0 l.length 4) l
theorem lp.but{d:AV}{l:List Qw}(o:lp N h d l)(x:DH N h h'):lp N h' d l:=by
 cases o with
 |nil=>exact .nil
 |row b l cs h1 h2 h3 h4 h5=>exact .row b l cs h1 (Nat.lt_of_lt_of_le h2 x.next) (by rw [x.get b h2 h1];exact h3) h4 h5
theorem lp.k9{d:AV}{l:List Qw}(o:lp N h d l):d.dB = [d]/\bw [d]=true:=by cases o<;>exact ⟨rfl,rfl⟩
theorem lp.push{d:AV}{l:List Qw}(o:lp N h d l)(hN:N<h.next)(hroom:l.length<=1000000)(c:Qw) :
  ∃ d' h',cj 4 48 d (.slice h.next 0 1 4) (h.alloc (.cells (gE c)))=some (d',h')/\lp N h' d' (l++[c])/\h.next<=h'.next/\(∀ b,b<h.next->cz d≠some b->h'.get b=h.get b):=by
 have hm:cJ=140737488355328:=rfl;have g:=aB h (.cells (gE c));have hn:(h.alloc (.cells (gE c))).next=h.next+1:=Heap.aM h _
 have hf:iu 4 1 (.slice h.next 0 1 4) (h.alloc (.cells (gE c)))=some (gE c):=by
  simp only [iu,g];rfl
 cases o with
 |nil=>
  refine ⟨.slice (h.alloc (.cells (gE c))).next 0 1 4,(h.alloc (.cells (gE c))).alloc (.cells (gE c)),?_,?_,by rw [Heap.aM,hn];omega,fun b hb _=>by rw [Heap.aW,if_neg (by omega),Heap.aW,if_neg (by omega)]⟩
  ·simp only [cj,lH,hf,uR,Bool.and_true];rw [if_neg (by omega),if_pos (by rw [hm];decide)]
  ·exact .row _ [c] (gE c) (by rw [hn];omega) (by simp only [Heap.aM];omega) (aB _ _) (by simp [gE]) (by simp [gE])
 |row b l cs h1 h2 h3 h4 h5=>
  have g2:(h.alloc (.cells (gE c))).get b=some (.cells cs):=by rw [Heap.aW,if_neg (by omega)];exact h3
  have pg:((h.alloc (.cells (gE c))).set b .dead).next=h.next+1:=by rw [Heap.br,hn]
  refine ⟨.slice (h.alloc (.cells (gE c))).next 0 (l.length+1) 4,((h.alloc (.cells (gE c))).set b .dead).alloc (.cells ((cs.drop 0).take (l.length*4)++gE c)),?_,?_,by rw [Heap.aM,pg];omega,fun b' hb hne=>?_⟩
  ·simp only [cj,lH,hf,g2,uR,Bool.and_true];rw [if_pos True.intro,if_neg (by omega),if_pos (by rw [hm];simp only [and_eq_true,decide_eq_true_eq];omega)]
  ·have hcs:(cs.drop 0).take (l.length*4)++gE c=(l++[c]).flatMap gE:=by
    rw [drop_zero,h5,flatMap_append];simp
   have VU:l.length+1=(l++[c]).length:=by simp
   rw [hcs,VU];have hlf:((l++[c]).flatMap gE).length=(l++[c]).length*4:=fV N7 _;refine .row _ (l++[c]) ((l++[c]).flatMap gE) (by rw [hn];omega) (by simp only [Heap.aM,Heap.br];omega) ?_ (Nat.le_of_eq hlf.symm) (jW (Nat.le_of_eq hlf));rw [hn,<- pg];exact aB _ _
  ·rw [Heap.aW,if_neg (by omega),Heap.aN,if_neg (fun e=>hne (by rw [e];rfl)),Heap.aW,if_neg (by omega)]
theorem Lh{B:Nat}{rs:Sl aP}{all:cN}(x:eB rs N h s all dn)(hb:h.get B=some (.cells [.ptr N 0]))(v:Int)(K:Out->Heap->Bool)(hK:K (.ret (.bool (Dl s.size v))) h=true):Sem TP 48 ([]++([.int .i64 v]++[.ptr B 0])) h K:=by
 refine F.r9 ?_;rw [F.tg];simp only [show bx (.ptr N 0)=some (.ptr N 0) from rfl,ak hb,aS,reduceAdd,reduceEqDiff,reduceIte,x.size];unfold Dl at hK;by_cases h1:v<0<;>by_cases h2:s.size<=v<;>simpa [h1,h2] using hK
theorem Wt(nm:cc)(y:Sl Int)(a b:Bool):iA [.str [],.ay,.bool false,.bool false] [(0,1),(1,1),(2,1),(3,1)] [.str nm,an encI 1 y,.bool a,.bool b]=some (.agg (gE ⟨nm,y,a,b⟩)):=by cases y<;>rfl
theorem Wu(c:Qw):fZ [.str [],.ay,.bool false,.bool false] [(0,4)] [.agg (gE c)]=some (gE c):=by
 obtain ⟨nm,y,a,b⟩:=c;cases y<;>rfl
structure Qx (N:Nat) (dn:AV) (h h':Heap):Prop where
 next:h.next<=h'.next
 get:∀ b,b<h.next->b≠N->cz dn≠some b->h'.get b=h.get b
set_option maxHeartbeats 1000000 in
theorem N8{rs:Sl aP}{all:cN}{dl:List Qw}(x:eB rs N h s all dn)(od:lp N h dn dl)(hdl:dl.length<=1000000)(kD:∀ r ∈ rs.l,r.ok)(iY:∀ r ∈ rs.l,r.mj)(ho:fo rs.l s)(hp:m6 rs.l s all)
  (Dt:t.l.length<=1000000)
  (h4:s.aF.l.find? (iP nm (t.l.length:Int))=none->∀ h',bC h h'->K (.ret (.tuple [.ay,.ay,.int .i64 4])) h'=true)
  (h2:∀ r,s.aF.l.find? (iP nm (t.l.length:Int))=some r->jy s.size t.l=false->∀ h',bC h h'->K (.ret (.tuple [.ay,.ay,.int .i64 2])) h'=true)
  (h0:∀ (j:Nat) (r:Rel),jA (iP nm (t.l.length:Int)) s.aF.l=(j:Int)->s.aF.l[j]?=some r->s.aF.l.find? (iP nm (t.l.length:Int))=some r->r.arity=(t.l.length:Int)->jy s.size t.l=true->∀ (s' tY:cN) h' Hj (f g:Sl EN),vu s j r t.l is s'->fo rs.l s'->m6 rs.l s' tY ->
   eB rs N h' s' tY Hj->lp N h' Hj (dl++[⟨nm,t,decide (t.l ∈ r.aO.l.map Sl.l),is⟩])->Qx N dn h h'->(∀ b,cz Hj=some b->h.next<=b) ->
   f.l.map He=vU (tY.aF.l.map bY) (all.aF.l.map bY)->g.l.map He=vU (all.aF.l.map bY) (tY.aF.l.map bY)->K (.ret (.tuple [an nx 2 f,an nx 2 g,.int .i64 0])) h'=true) :
  Sem TP 15 [.ptr N 0,.str nm,an encI 1 t,.bool is] h K:=by
 have hv:=ho.valid;have me:=(gi hv).2;have hbig:t.l.length<=cM:=by unfold cM;omega
 obtain ⟨n,hn,n1,_⟩:=jw hv;have Wl:0<s.size:=by omega
 have hnc:∀ c o:Nat,bx (.ptr c o)=some (.ptr c o):=fun _ _=>rfl;refine F.vm ?_;rw [F.wJ];have g0:(h.alloc (.cells [.ptr N 0])).get h.next=some (.cells [.ptr N 0]):=aB _ _
 have e1:bC h (h.alloc (.cells [.ptr N 0])):=bC.alloc _ _;have n1':(h.alloc (.cells [.ptr N 0])).next=h.next+1:=Heap.aM _ _
 simp only [pF (show (AV.ptr N 0).one=true from rfl),aq];generalize (h.alloc (.cells [.ptr N 0]))=H1 at g0 e1 n1' ⊢;have x1:=x.ext e1;have lk:ah none (.ptr h.next 0) H1=some (.ptr N 0):=by rw [ak g0];rfl
 simp only [lk,aq];refine ai (AB x1 Wl ?_);simp only [aS,reduceAdd,reduceEqDiff,reduceIte,Bool.not_true,lk,hnc,x1.base];rcases pJ (iP nm (t.l.length:Int)) s.aF.l with ⟨w1,w2⟩|⟨j,r,w1,w2,w3⟩
 ·refine ai (Hg me hv w1 ?_);simp only [aS,reduceAdd,reduceEqDiff,reduceIte,cP,show decide ((4:Int)=0)=false from rfl,Bool.not_false];exact h4 w2 _ e1
 ·have UP:iP nm (t.l.length:Int) r=true:=find?_some w3
  have QY:r.arity=(t.l.length:Int):=by
   simp only [iP,and_eq_true,decide_eq_true_eq] at UP;exact UP.2
  refine ai (FR me hv w1 w2 QY hbig ?_);simp only [aS,reduceAdd,reduceEqDiff,reduceIte,cP,decide_true,Bool.not_true];refine ai (qD hbig (g:=48) (a:=[]) (b:=[.ptr h.next 0]) (p:=Dl s.size) (fun v K' hK'=>Lh x1 g0 v K' hK') ?_);have Oe:=PY s.size t.l
  cases hin:jy s.size t.l with
  |false=>
   have ha:t.l.any (Dl s.size)=true:=by rw [hin] at Oe;cases hh:t.l.any (Dl s.size) with|true=>rfl|false=>rw [hh] at Oe;cases Oe
   rw [ha];simp only [aS,reduceAdd,reduceEqDiff,reduceIte];exact h2 r w3 hin _ e1
  |true=>
   have ha:t.l.any (Dl s.size)=false:=by rw [hin] at Oe;cases hh:t.l.any (Dl s.size) with|false=>rfl|true=>rw [hh] at Oe;cases Oe
   rw [ha];simp only [aS,reduceAdd,reduceEqDiff,reduceIte,lk,hnc,x1.done];refine ai (EO Dt ?_);have od1:lp N H1 dn dl:=od.but (e1.but N);obtain ⟨d',H2,c1,o2,nx2,f2⟩:=od1.push (by have:=x1.lt;omega) hdl ⟨nm,t,decide (t.l ∈ r.aO.l.map Sl.l),is⟩
   have hdn:∀ b,cz dn=some b->b<h.next/\b≠N:=fun b hb=>by
    cases od with
    |nil=>cases hb
    |row c l cs q1 q2 _ _ _=>cases hb;exact ⟨q2,q1⟩
   have aeu:∀ b,cz d'=some b->h.next<=b:=fun b hb=>by
    cases od1 with
    |nil=>
     have hm:cJ=140737488355328:=rfl
     have:cz d'=some H1.next\/h.next<=b:=by
      right
      have hf:iu 4 1 (.slice H1.next 0 1 4) (H1.alloc (.cells (gE ⟨nm,t,decide (t.l ∈ r.aO.l.map Sl.l),is⟩)))=some (gE ⟨nm,t,decide (t.l ∈ r.aO.l.map Sl.l),is⟩):=by
       simp only [iu,aB];rfl
      simp only [cj,lH,hf,uR,Bool.and_true] at c1;rw [if_neg (by omega),if_pos (by rw [hm];decide)] at c1;cases c1;have:(H1.alloc (.cells (gE ⟨nm,t,decide (t.l ∈ r.aO.l.map Sl.l),is⟩))).next=b:=by cases hb;rfl
      rw [Heap.aM] at this;omega
     rcases this with h|h
     ·rw [h] at hb;cases hb;omega
     ·exact h
    |row c l cs q1 q2 q3 q4 q5=>
     have hm:cJ=140737488355328:=rfl
     have hf:iu 4 1 (.slice H1.next 0 1 4) (H1.alloc (.cells (gE ⟨nm,t,decide (t.l ∈ r.aO.l.map Sl.l),is⟩)))=some (gE ⟨nm,t,decide (t.l ∈ r.aO.l.map Sl.l),is⟩):=by
      simp only [iu,aB];rfl
     have g2:(H1.alloc (.cells (gE ⟨nm,t,decide (t.l ∈ r.aO.l.map Sl.l),is⟩))).get c=some (.cells cs):=(by rw [Heap.aW,if_neg (by omega)];exact q3);simp only [cj,lH,hf,g2,uR,Bool.and_true] at c1;rw [if_pos True.intro,if_neg (by omega),if_pos (by rw [hm];simp only [and_eq_true,decide_eq_true_eq];omega)] at c1;cases c1;have:(H1.alloc (.cells (gE ⟨nm,t,decide (t.l ∈ r.aO.l.map Sl.l),is⟩))).next=b:=by cases hb;rfl
     rw [Heap.aM] at this;omega
   have x2:eB rs N H2 s all dn:=x1.agree (f2 N x1.lt (fun hb=>(hdn N hb).2 rfl)) nx2;have g2:H2.get h.next=some (.cells [.ptr N 0]):=by rw [f2 h.next (by omega) (fun hb=>by have:=(hdn _ hb).1;omega)];exact g0
   have lk2:ah none (.ptr h.next 0) H2=some (.ptr N 0):=by rw [ak g2];rfl
   obtain ⟨k1,k2⟩:=o2.k9;obtain ⟨st,x3⟩:=x2.TO k1 k2;have hNn:h.next≠N:=by have:=x.lt;omega
   have lk3:ah none (.ptr h.next 0) (H2.set N (.cells (lG rs s all d')))=some (.ptr N 0):=by rw [ak (cs:=[.ptr N 0]) (by rw [Heap.aN,if_neg hNn];exact g2)];rfl
   have o3:lp N (H2.set N (.cells (lG rs s all d'))) d' (dl++[⟨nm,t,decide (t.l ∈ r.aO.l.map Sl.l),is⟩]):=o2.but ((bC.refl H2).but N |>.set _);simp only [aS,reduceAdd,reduceEqDiff,reduceIte,lk,hnc,x1.done,AV.beq_refl,Bool.and_self,if_true,Wt,Wu,c1,lk2,st,lk3];refine ai (Qu x3 kD iY ho hp w1 w2 QY hin fun s' tY h' f g p1 p2 p3 p4 p5 p6 p7=>?_);simp only [aS,reduceAdd,reduceEqDiff,reduceIte];refine h0 j r w1 w2 w3 QY hin s' tY h' d' f g p1 p2 p3 p4 (o3.but p5) ⟨?_,fun b hb hbN hbd=>?_⟩ aeu p6 p7
   ·have:=p5.next;rw [Heap.br] at this;omega
   ·rw [p5.get b (by rw [Heap.br];omega) hbN,Heap.aN,if_neg hbN,f2 b (by omega) hbd,e1.get b hb]
theorem JA{α:Type}{enc:α->List AV}(h1:∀ a,bw (enc a)=true):∀ l:List α,bw (l.flatMap enc)=true
 |[]=>rfl
 |a :: l=>by
  rw [flatMap_cons];have ha:=h1 a;have hl:=JA h1 l;generalize enc a=x at ha
  induction x with
  |nil=>exact hl
  |cons v x ih=>
   simp only [bw,and_eq_true,cons_append] at ha ⊢;exact ⟨ha.1,ih ha.2⟩
theorem N9{enc:α->List AV}{bytes:Nat}(he:∀ a,(enc a).length=1)(h1:∀ a,bw (enc a)=true){src:AV}{l:List α}(r:Row enc 1 (h.alloc (.cells [])) src l)(hl:l.length*bytes<=cJ) :
  ∃ b h',cj 1 bytes (.slice h.next 0 0 1) src (h.alloc (.cells []))=some (.slice b 0 l.length 1,h')/\h'.get b=some (.cells (l.flatMap enc))/\bC h h':=by
 have g:(h.alloc (.cells [])).get h.next=some (.cells []):=aB _ _
 have rc:=r.cells;by_cases hz:l.length=0
 ·have:l = []:=eq_nil_of_length_eq_zero hz;subst this;refine ⟨h.next,h.alloc (.cells []),?_,g,bC.alloc _ _⟩;simp only [length_nil] at rc;simp [cj,r.len,rc]
 ·refine ⟨h.next+1,((h.alloc (.cells [])).set h.next .dead).alloc (.cells (l.flatMap enc)),?_,?_,?_⟩
  ·simp only [cj,r.len,rc,if_true,if_neg hz,g];rw [if_pos (by simp [JA h1];omega)];simp [Heap.br,Heap.aM]
  ·have:=aB ((h.alloc (.cells [])).set h.next .dead) (.cells (l.flatMap enc))
   rwa [Heap.br,Heap.aM] at this
  ·exact ((bC.alloc h (.cells [])).set (dN _) _).trans (bC.alloc _ _)
theorem TQ{enc:α->List AV}{sz:Nat}(hp:∀ a,AV.cO (enc a)=true){l:List α}{b:Nat}(hb:h.get b=some (.cells (l.flatMap enc))):Fz true h (.slice b 0 l.length sz) (an enc sz (some l)):=by
 have sE:AV.cO (l.flatMap enc)=true:=by
  have:=cp (sz:=sz) hp (some l);simpa [an,AV.pure] using this
 have:lI true h (l.flatMap enc) (l.flatMap enc):=.dR sE;exact .slice b 0 l.length sz _ _ hb this.len this.rel
theorem vV{t:Sl cc}(ht:t.l.length<=1000000)(hK:K (.ret (an encS 1 t)) h=true):Sem TP 117 [an encS 1 t] h K:=by
 have hm:cJ=140737488355328:=rfl
 have main:Sem TP 117 [an encS 1 t] Heap.empty (fun o h'=>yes (∃ v,o = .ret v/\Fz true h' v (an encS 1 t))):=by
  refine F.lX ?_;rw [F.mq];simp only [G3,aS,reduceAdd,reduceEqDiff,reduceIte]
  cases t with
  |none=>simp only [aL];exact cw.2 ⟨_,rfl,.dR rfl⟩
  |some l=>
   obtain ⟨b,h',a1,a2,_⟩:=N9 (bytes:=16) (fun _=>rfl) (fun _=>rfl) (uG (enc:=encS) (fun _=>rfl) (some l) (Heap.empty.alloc (.cells []))) (by have h2:l.length<=1000000:=ht;show l.length*16<=cJ;omega);simp only [aK,uK,aq,a1,ja];exact cw.2 ⟨_,rfl,TQ j8 a2⟩
 refine main.frozen (by simp [AV.cO,cp j8]) fun o h' ho=>?_;obtain ⟨v,rfl,hf⟩:=cw.1 ho;exact ⟨v,_,rfl,hf,hK⟩
def nb(b:Sl eP):Sl eP:=if b.l = [] then none else some b.l
theorem aev(b:Sl eP):(nb b).l=b.l:=by
 unfold nb;split
 ·rename_i h;rw [h];rfl
 ·rfl
def gr(r:aP):aP:=⟨r.name,r.args,nb r.body⟩
abbrev RuV:=cc×Sl cc×Nx
def mg(r:RuV):List AV:=[.str r.1,an encS 1 r.2.1,r.2.2.1]
theorem DI(r:RuV):(mg r).length=3:=rfl
theorem DJ(r:RuV):bw (mg r)=true:=by
 have:=r.2.2.2.1;unfold mg;simp only [bw,fT,Bool.and_true,Bool.true_and] at this ⊢;rw [this];rfl
theorem TR(r:RuV):fZ [.str [],.ay,.ay] [(0,3)] [.agg (mg r)]=some (mg r):=by
 have ho:=DJ r
 have hf:og [.str [],.ay,.ay] [(0,3)] [.agg (mg r)]=some (mg r):=by
  have hc:AV.dB (.agg (mg r))=mg r:=rfl;have hp:eo [.str [],.ay,.ay] 0 (mg r)=mg r:=rfl;simp only [og,hc,hp,ho,DI];rfl
 unfold fZ;rw [hf];simp only [ho,if_true]
theorem Wv(c:eP):fZ [.int .i64 0,.bool false,.str [],.ay] [(0,4)] [.agg (bM c)]=some (bM c):=by
 obtain ⟨k,n,nm,xs⟩:=c;cases xs<;>rfl
theorem Ww(nm:cc)(xs:Sl cc):iA [.str [],.ay] [(0,1),(1,1)] [.str nm,an encS 1 xs]=some (.agg (iF nm xs)):=by cases xs<;>rfl
theorem Wx(nm:cc)(xs:Sl cc):iA [.str [],.ay,.ay] [(0,2)] [.agg (iF nm xs)]=some (.agg [.str nm,an encS 1 xs,.ay]):=by cases xs<;>rfl
theorem abw{xs:Sl cc}{v:Nx}{x:Sl eP}(hf:Fz true h v.1 (an bM 4 x)):lI true h (mg (nm,xs,v)) (aQ ⟨nm,xs,x⟩):=
 .cons (.scalar _ rfl) (.cons (.dR (cp j8 xs)) (.cons hf .nil))
set_option maxHeartbeats 2000000 in
theorem cU{rules:Sl aP}(se:rules.l.length<=60)(hsz:∀ r ∈ rules.l,r.args.l.length<=1000000/\r.body.l.length<=1000000/\∀ c ∈ r.body.l,c.args.l.length<=1000000){h:Heap}{K:Out->Heap->Bool}
  (hK:∀ x:Sl aP,x.l=rules.l.map gr->K (.ret (an aQ 3 x)) h=true):Sem TP 73 [an aQ 3 rules] h K:=by
 have hm:cJ=140737488355328:=rfl;have hbig:rules.l.length<=cM:=by unfold cM;omega
 have main:Sem TP 73 [an aQ 3 rules] Heap.empty (fun o h'=>yes (∃ v,∃ x:Sl aP,o = .ret v/\x.l=rules.l.map gr/\Fz true h' v (an aQ 3 x))):=by
  refine F.A8 ?_;rw [F.CW];simp only [aS,reduceAdd,reduceEqDiff,reduceIte]
  refine aE 0 rules.l.length (zero_le _) (fun i e h'=>∃ a l,jB (fun _=>False) mg aQ 3 0 h' a l/\(l.map (·.2))=(rules.l.take i).map gr/\e 3=a/\e 9=an aQ 3 rules/\e 10 = .int .i64 (rules.l.length:Int)/\e 11 = .int .i64 (i:Int))
   ⟨_,[],.nil,rfl,rfl,rfl,rfl,rfl⟩ ?_ ?_
  ·rintro i e h' _ hi ⟨a,l,o,hl,e3,e9,jF,oX⟩ K' hn gm hr hp;have hv:rules.l[i]?=some rules.l[i]:=ew hi;generalize rules.l[i]=r at hv;have nR:=iq hv;obtain ⟨z1,z2,z3⟩:=hsz r nR;have An:r.body.l.length<=cM:=by unfold cM;omega
   have VU:l.length=i:=by have:=congrArg List.length hl;rw [length_map,length_map,length_take,Nat.min_eq_left (by omega)] at this;exact this
   obtain ⟨H3,LL,p3,Qd,Tr⟩:=cF (h:=h') (zs:=[.str [],.ay,.ay]) (cs:=aQ r) (n:=3) rfl rfl (kf r);have l0:ah none (.ptr h'.next 0) H3=some (.str r.name):=by rw [ak p3];rfl
   have l1:ah none (.ptr h'.next 1) H3=some (an encS 1 r.args):=by rw [ak p3];rfl
   have Wi:ah none (.ptr h'.next 0) (H3.alloc (.cells [.str [],.ay,.ay]))=some (.str r.name):=by rw [ak (cs:=aQ r) (by rw [Heap.aW,if_neg (by omega)];exact p3)];rfl
   obtain ⟨H4,QU,p4,Ny,W8⟩:=cF (h:=H3) (zs:=[.str [],.ay,.ay]) (cs:=[.str r.name,an encS 1 r.args,.ay]) (n:=3) rfl rfl (by simp only [bw,fT,Bool.and_true];rfl);have x4:bC h' H4:=⟨by omega,fun b hb=>by rw [Ny b (by omega),Qd b (by omega)]⟩
   have l2:ah none (.ptr h'.next 2) H4=some (an bM 4 r.body):=by rw [ak (show H4.get h'.next=some (.cells (aQ r)) by rw [Ny _ (by omega)];exact p3)];rfl
   rw [F.cU.aU];simp only [e9,jF,oX,aS,reduceAdd,reduceEqDiff,reduceIte,bp hi,aV rules hi,dx gz hv,LL];simp only [aS,reduceAdd,reduceEqDiff,reduceIte,l0,l1];refine ai (vV z1 ?_);simp only [aS,reduceAdd,reduceEqDiff,reduceIte,Wi,AV.beq_refl,Bool.and_self,if_true,Ww,Wx,QU,l2];rw [Tr] at p4 QU Ny W8 ⊢
   refine aE 0 r.body.l.length (zero_le _) (fun j e h2=>∃ bv bs,h2.get (h'.next+1)=some (.cells [.str r.name,an encS 1 r.args,bv])/\Own bM 4 (h'.next+2) h2 bv bs/\(bs = []->bv = .ay)/\bs=r.body.l.take j/\bC h' h2/\h'.next+2<=h2.next /\
    e 3=a/\e 9=an aQ 3 rules/\e 10 = .int .i64 (rules.l.length:Int)/\e 11 = .int .i64 (i:Int)/\e 6 = .ptr (h'.next+1) 0/\e 25=an bM 4 r.body/\e 26 = .int .i64 (r.body.l.length:Int)/\e 27 = .int .i64 (j:Int))
    ⟨_,[],p4,.nil,fun _=>rfl,rfl,x4,by omega,e3,e9,jF,oX,rfl,rfl,rfl,rfl⟩ ?_ ?_
   ·rintro j e h2 _ hj ⟨bv,bs,q6,ob,MD,hbs,x2,Qe,e3,e9,jF,oX,e6,KQ,BB,BC⟩ K2 uJ fY qi DT;have hvc:r.body.l[j]?=some r.body.l[j]:=ew hj;generalize r.body.l[j]=c at hvc;have VY:bs.length=j:=by rw [hbs,length_take,Nat.min_eq_left (by omega)]
    obtain ⟨H5,hs5,p5,po5,pn5⟩:=cF (h:=h2) (zs:=[.int .i64 0,.bool false,.str [],.ay]) (cs:=bM c) (n:=4) rfl rfl (iz c);have l5:ah none (.ptr h2.next 3) H5=some (an encS 1 c.args):=by rw [ak p5];rfl
    have TA:(an encS 1 c.args).dB = [an encS 1 c.args]:=(by cases c.args<;>rfl);have UD:bw [an encS 1 c.args]=true:=by simp only [bw,fT,Bool.and_true]
    have st5:aZ 1 (.ptr h2.next 3) (an encS 1 c.args) H5=some (H5.set h2.next (.cells (bM c))):=by
     rw [cB (n:=1) p5 (by rw [TA];rfl) (by rw [TA];exact UD) (by simp [bM]),TA];rfl
    have n6:(H5.set h2.next (.cells (bM c))).next=h2.next+1:=by rw [Heap.br];exact pn5
    have g6:(H5.set h2.next (.cells (bM c))).get h2.next=some (.cells (bM c)):=by rw [Heap.aN,if_pos rfl]
    have f6:∀ b,b<h2.next->(H5.set h2.next (.cells (bM c))).get b=h2.get b:=fun b hb=>by rw [Heap.aN,if_neg (by omega),po5 b (by omega)]
    have x6:bC h2 (H5.set h2.next (.cells (bM c))):=⟨by omega,f6⟩
    rw [F.cU.dm];simp only [KQ,BB,BC,aS,reduceAdd,reduceEqDiff,reduceIte,bp hj,aV r.body hj,dx iy hvc,hs5,l5];refine ai (vV (z3 c (iq hvc)) ?_);simp only [aS,reduceAdd,reduceEqDiff,reduceIte,st5,e6];generalize (H5.set h2.next (.cells (bM c)))=H6 at n6 g6 f6 x6 ⊢;have q6':H6.get (h'.next+1)=some (.cells [.str r.name,an encS 1 r.args,bv]):=by rw [f6 _ (by omega)];exact q6
    have lb:ah none (.ptr (h'.next+1) 2) H6=some bv:=(by rw [ak q6'];rfl);have lc:ah (some 4) (.ptr h2.next 0) H6=some (.agg (bM c)):=by rw [ak g6,cV (cs:=bM c) (n:=4) rfl]
    obtain ⟨a5,h5,c5,o5,f5,n5,w5,b5⟩:=(ob.ext x6).push iy iz (by omega) (bytes:=56) (by rw [hm];omega) c;have hne:cz bv≠some (h'.next+1):=fun hb=>by have:=ob.ge hb;omega
    have s6:h5.get (h'.next+1)=some (.cells [.str r.name,an encS 1 r.args,bv]):=(by rw [f5 _ (by omega) hne];exact q6');have c6:=o5.k9
    have st:aZ 1 (.ptr (h'.next+1) 2) a5 h5=some (h5.set (h'.next+1) (.cells [.str r.name,an encS 1 r.args,a5])):=by
     rw [cB (n:=1) s6 c6.2.1 c6.1 (by simp),c6.2.2];rfl
    simp only [aS,reduceAdd,reduceEqDiff,reduceIte,lb,lc,Wv,c5,e6,BC,st,aJ hj An];refine uJ _ _ ⟨a5,bs++[c],by rw [Heap.aN,if_pos rfl],o5.kF (by omega) _,fun h=>absurd (congrArg List.length h) (by simp),by rw [hbs,take_add_one,hvc];rfl,(w5 h' (x2.trans x6) (by omega)).set (by omega) _,by rw [Heap.br];omega,e3,e9,jF,oX,e6,KQ,BB,rfl⟩
   ·rintro e h2 ⟨bv,bs,q6,ob,MD,hbs,x2,Qe,e3,e9,jF,oX,e6,KQ,BB,BC⟩ K2 fY;rw [jW (dN _)] at hbs;subst hbs;have o2:=o.ext x2;obtain ⟨BD,JL⟩:=mT ob;have lq:ah (some 3) (.ptr (h'.next+1) 0) h2=some (.agg (mg (r.name,r.args,⟨bv,BD,JL⟩))):=by rw [ak q6];rfl
    obtain ⟨x,jI,KK⟩:=(jB.zG ob wM).data;have IS:x.l=r.body.l:=by rw [jI,List.map_map];simp [Function.comp_def]
    obtain ⟨y,hy⟩:∃ y:Sl eP,y=nb r.body:=⟨_,rfl⟩
    have hfy:∀ g:Heap,(∀ b,h'.next+2<=b->b<h2.next->g.get b=h2.get b)->Fz true g bv (an bM 4 y):=fun g hg=>by
     by_cases hz:r.body.l = []
     ·rw [MD hz,hy];have:nb r.body=none:=by unfold nb;rw [if_pos hz]
      rw [this];exact .dR rfl
     ·have hyx:y=x:=by
       rw [hy];unfold nb;rw [if_neg hz]
       cases x with
       |none=>exact absurd IS.symm hz
       |some m=>rw [<- IS];rfl
      rw [hyx];exact KK g fun b b1 b2 _=>hg b b1 b2
    obtain ⟨a5,h5,c5,o5,f5,n5,w5,b5⟩:=o2.push DI DJ (zero_le _) (bytes:=64) (by rw [hm];omega) (r.name,r.args,⟨bv,BD,JL⟩) ⟨r.name,r.args,y⟩ (fun _ h=>h.elim)
     (fun g hg=>abw (hfy g fun b b1 b2=>hg b (zero_le _) b2 (fun h=>h) (fun hb=>by have:=o.own.lt hb;omega)))
    rw [F.cU.dm];simp only [BB,BC,aS,reduceAdd,reduceEqDiff,reduceIte,aX];rw [fY,F.cU.cx];simp only [aS,reduceAdd,reduceEqDiff,reduceIte,e3,e6,oX,lq,TR,c5,aJ hi hbig];refine hn _ _ ⟨a5,_,o5,?_,rfl,e9,jF,rfl⟩;rw [map_append,hl,take_add_one,hv,map_append,hy];rfl
  ·rintro e h' ⟨a,l,o,hl,e3,e9,jF,oX⟩ K' gm;rw [F.cU.aU];simp only [jF,oX,aS,reduceAdd,reduceEqDiff,reduceIte,aX];rw [gm,F.cU.aG];simp only [bP,reduceEqDiff,reduceIte,e3];rw [jW (dN _)] at hl;obtain ⟨x,x1,x2⟩:=o.fz;exact cw.2 ⟨a,x,rfl,by rw [x1,hl],x2⟩
 refine main.frozen (by simp [AV.cO,cp fN]) fun o h' ho=>?_;obtain ⟨v,x,rfl,h1,h2⟩:=cw.1 ho;exact ⟨_,_,rfl,h2,hK x h1⟩
theorem uS(r:aP):(gr r).name=r.name:=rfl
theorem nX(r:aP):(gr r).args=r.args:=rfl
theorem mP(r:aP):(gr r).body.l=r.body.l:=aev r.body
theorem zO(r:aP):varsOf (gr r)=varsOf r:=by unfold varsOf;rw [nX,mP]
theorem Mz{r:aP}(h:r.ok):(gr r).ok:=by
 unfold aP.ok at h ⊢;rw [uS,nX,mP];exact h
theorem JB{r:aP}(h:r.mj):(gr r).mj:=by
 unfold aP.mj at h ⊢;rw [nX,mP];exact h
theorem Hh:∀ (rs:List aP) (m:eE),dW (rs.map gr) m=dW rs m
 |[],m=>rfl
 |r :: rs,m=>by
  rw [map_cons];unfold dW;rw [uS,nX,mP,zO];have ih:=Hh rs;simp only [ih]
theorem DK(rs:List aP):bF (rs.map gr)=bF rs:=by unfold bF;rw [List.map_map];rfl
theorem DL{β:Type}{f g:α->List β}(h:∀ a,f a=g a)(l:List α):l.flatMap f=l.flatMap g:=by rw [funext h]
theorem Li(hs:List cc)(rs:List aP):jl hs (rs.map gr)=jl hs rs:=by
 unfold jl;rw [flatMap_map];refine DL (fun r=>?_) _;rw [mP];rfl
theorem m7(rs:List aP):bL (rs.map gr)=bL rs:=by unfold bL;rw [DK,Li]
theorem Lj(rs:List aP):cD (rs.map gr)=cD rs:=by
 unfold cD;rw [flatMap_map];refine DL (fun r=>?_) _;unfold tL;rw [uS,nX,mP]
theorem FX(rs:List aP):eF (rs.map gr)=eF rs:=by unfold eF;rw [foldl_map];rfl
theorem Qy(rs:List aP)(nm:cc):pY (rs.map gr) nm=pY rs nm:=by
 unfold pY;rw [find?_map];have:((fun r:aP=>r.name==nm)∘gr)=fun r=>r.name==nm:=rfl;rw [this];cases rs.find? (fun r=>r.name==nm)<;>rfl
theorem FY:kN (rs.map gr)↔kN rs:=by
 constructor
 ·rintro ⟨a,b,c⟩;rw [Hh] at b;rw [m7] at c;exact ⟨by simpa using a,b,c⟩
 ·rintro ⟨a,b,c⟩;exact ⟨by simpa using a,by rw [Hh];exact b,by rw [m7];exact c⟩
theorem JC:JM (rs.map gr) s↔JM rs s:=by unfold JM;rw [Lj,DK]
theorem JD:Mr (rs.map gr) s↔Mr rs s:=by
 unfold Mr;rw [FX]
 have e:∀ p:aP->Prop,(∀ r,p (gr r)↔p r)->((∃ r ∈ rs.map gr,p r)↔∃ r ∈ rs,p r):=fun p hp=>by
  constructor
  ·rintro ⟨r,hr,h⟩;obtain ⟨q,hq,rfl⟩:=mem_map.1 hr;exact ⟨q,hq,(hp q).1 h⟩
  ·rintro ⟨r,hr,h⟩;exact ⟨gr r,List.mem_map_of_mem hr,(hp r).2 h⟩
 rw [e (fun r=>4096<s.size.toNat ^ r.args.l.length) (fun r=>Iff.rfl),e (fun r=>65536<s.size.toNat ^ (varsOf r).length) (fun r=>by rw [zO])]
theorem Oa:fo (rs.map gr) s↔fo rs s:=
 ⟨fun h=>⟨FY.1 h.gh,h.valid,fun x=>h.names (JC.2 x),fun x=>h.Ax (JD.2 x)⟩,
  fun h=>⟨FY.2 h.gh,h.valid,fun x=>h.names (JC.1 x),fun x=>h.Ax (JD.1 x)⟩⟩
theorem Ll(lv:eA.Lv)(rs:List aP)(l:Nat):gC lv (rs.map gr) l=(gC lv rs l).map gr:=by
 unfold gC;rw [List.filter_map];rfl
theorem pK:mc n (rs.map gr) L↔mc n rs L:=by
 unfold mc Ho Je FI eN;simp only [mem_map,forall_exists_index,and_imp,forall_apply_eq_imp_iff₂,zO,mP,uS,nX]
theorem uT{C:Lk}:Over (rs.map gr) L C↔Over rs L C:=by
 constructor
 ·rintro ⟨a,b⟩;exact ⟨a,fun nm hn=>b nm fun r hr=>by obtain ⟨q,hq,rfl⟩:=mem_map.1 hr;exact hn q hq⟩
 ·rintro ⟨a,b⟩;exact ⟨a,fun nm hn=>b nm fun r hr=>hn (gr r) (List.mem_map_of_mem hr)⟩
theorem Lm{C:Lk}:nI n (rs.map gr) L C↔nI n rs L C:=
 ⟨fun h=>⟨uT.1 h.over,pK.1 h.closed,fun C o c=>h.least C (uT.2 o) (pK.2 c)⟩,
  fun h=>⟨uT.2 h.over,pK.2 h.closed,fun C o c=>h.least C (uT.1 o) (pK.1 c)⟩⟩
theorem DM{n:Nat}{rs:List aP}{lv:eA.Lv}{L0:Lk}:∀ {l:Nat} {A:Lk},mA n rs lv L0 l A->mA n (rs.map gr) lv L0 l A
 |0,A,h=>by cases h;exact .zero
 |l+1,A,h=>by
  cases h with
  |succ l L L' h1 h2=>exact .succ l L A (DM h1) (by rw [Ll];exact Lm.2 h2)
theorem Ln{F:Lk}(h:mO rs n s F):mO (rs.map gr) n s F:=by
 obtain ⟨k,t,h1,h2,h3⟩:=h;refine ⟨k,t,by rw [m7];exact h1,fun r hr=>?_,by rw [m7];exact DM h3⟩;obtain ⟨q,hq,rfl⟩:=mem_map.1 hr;rw [m7];exact h2 q hq
theorem Qz(h:m6 rs s out):m6 (rs.map gr) s out:=by
 obtain ⟨hz,F,f1,f2⟩:=h;refine ⟨hz,F,Ln f1,?_⟩;rw [f2,FX];unfold wZ;simp only [Qy]
theorem m6.DN{t:cN}(h:m6 rs s out)(hz:t.size=s.size)(hd:t.aF.l.map bY=s.aF.l.map bY):m6 rs t out:=by
 obtain ⟨z,F,f1,f2⟩:=h;refine ⟨by rw [z,hz],F,?_,by rw [hz,hd];exact f2⟩;rw [hz];unfold mO at f1 ⊢
 rwa [DF hd]
theorem fo.DN{t:cN}(h:fo rs s)(hz:t.size=s.size)(hd:t.aF.l.map bY=s.aF.l.map bY):fo rs t:=by
 refine DG h ?_ hz (by rw [hd]);rw [fR,hz,hd];exact fR.1 h.valid
theorem QA(x:Sl aP)(s all:cN):iA [.ay,.int .i64 0,.ay,.int .i64 0,.ay,.ay] [(0,1),(1,2),(3,2),(5,1)] [an aQ 3 x,.agg (au s),.agg (au all),.ay]=some (.agg (lG x s all .ay)):=by
 obtain ⟨z,r⟩:=s;obtain ⟨z2,r2⟩:=all;cases x<;>cases r<;>cases r2<;>rfl
theorem QB(x:Sl aP)(s all:cN):bw (lG x s all .ay)=true:=by unfold lG;simp only [bw,fT,Bool.and_true];rfl
set_option maxHeartbeats 1000000 in
theorem QC{rules:Sl aP}(kD:∀ r ∈ rules.l,r.ok)(iY:∀ r ∈ rules.l,r.mj)(me:s.ok)
  (K8:∀ e,DA rules.l s e->∀ h',bC h h'->K (.ret (.tuple [.ey,.int .i64 e])) h'=true)
  (zA:fo rules.l s->∀ (x:Sl aP) (s' all:cN) N h',x.l=rules.l.map gr->s'.size=s.size->s'.aF.l.map bY=s.aF.l.map bY->fo x.l s'->m6 x.l s' all->eB x N h' s' all .ay->bC h h'->h.next<=N->K (.ret (.tuple [.ptr N 0,.int .i64 0])) h'=true) :
  Sem TP 26 [an aQ 3 rules,.agg (au s)] h K:=by
 refine F.GJ ?_;rw [F.It];simp only [c8 (cA s),aq];have g0:(h.alloc (.cells (au s))).get h.next=some (.cells (au s)):=aB _ _
 have e0:bC h (h.alloc (.cells (au s))):=bC.alloc _ _;have n0:(h.alloc (.cells (au s))).next=h.next+1:=Heap.aM _ _
 generalize (h.alloc (.cells (au s)))=H at g0 e0 n0 ⊢;have l0:ah (some 2) (.ptr h.next 0) H=some (.agg (au s)):=by rw [ak g0,cV (cs:=au s) (n:=2) rfl]
 simp only [l0,aq];refine ai (dG kD iY me (fun hv=>(gi hv).1) (fun e he=>?_) fun ho out hz hx=>?_)
 ·obtain ⟨H1,GQ,p1,po1,pn1⟩:=cF (h:=H) (zs:=[.int .i64 0,.ay]) (cs:=au ⟨0,none⟩) (n:=2) rfl rfl rfl;simp only [aS,reduceAdd,reduceEqDiff,reduceIte,GQ,cP,eV (yH he).1,Bool.not_false];exact K8 e he _ (e0.trans ⟨by omega,fun b hb=>po1 b (by omega)⟩)
 ·have hrun:m6 rules.l s out:=⟨hz,hx⟩
  obtain ⟨H1,GQ,p1,po1,pn1⟩:=cF (h:=H) (zs:=[.int .i64 0,.ay]) (cs:=au out) (n:=2) rfl rfl (cA out);have e1:bC H H1:=⟨by omega,fun b hb=>po1 b (by omega)⟩
  have l1:ah (some 2) (.ptr h.next 0) H1=some (.agg (au s)):=by rw [ak (cs:=au s) (by rw [po1 _ (by omega)];exact g0),cV (cs:=au s) (n:=2) rfl]
  have l2:ah (some 2) (.ptr H.next 0) H1=some (.agg (au out)):=by rw [ak p1,cV (cs:=au out) (n:=2) rfl]
  simp only [aS,reduceAdd,reduceEqDiff,reduceIte,GQ,cP,decide_true,Bool.not_true,l1,l2];refine ai (cU ho.gh.mj (fun r hr=>?_) fun x fY=>?_)
  ·obtain ⟨f1,f2,f3⟩:=iY r hr;exact ⟨by omega,by omega,fun c hc=>by have:=f3 c hc;omega⟩
  simp only [aS,reduceAdd,reduceEqDiff,reduceIte,l1,l2,AV.beq_refl,Bool.and_self,if_true];refine ai (AA (gi ho.valid).1 fun s' z1 z2=>?_);have hxo:fo x.l s':=by rw [fY];exact (Oa.2 ho).DN z1 z2
  have hxr:m6 x.l s' out:=by rw [fY];exact (Qz hrun).DN z1 z2
  simp only [aS,reduceAdd,reduceEqDiff,reduceIte,l2,AV.beq_refl,Bool.and_self,if_true,QA,c8 (QB x s' out)];exact zA ho x s' out H1.next _ fY z1 z2 hxo hxr ⟨by rw [Heap.aM];omega,aB _ _⟩ ((e0.trans e1).trans (bC.alloc _ _)) (by omega)
theorem xg{rules:Sl aP}(kD:∀ r ∈ rules.l,r.ok)(iY:∀ r ∈ rules.l,r.mj)(me:s.ok)
  (K8:¬ fo rules.l s->∀ h',bC h h'->K (.ret .ey) h'=true)
  (zA:fo rules.l s->∀ (x:Sl aP) (s' all:cN) N h',x.l=rules.l.map gr->s'.size=s.size->s'.aF.l.map bY=s.aF.l.map bY->fo x.l s'->m6 x.l s' all->eB x N h' s' all .ay->bC h h'->h.next<=N->K (.ret (.ptr N 0)) h'=true) :
  Sem TP 13 [an aQ 3 rules,.agg (au s)] h K:=by
 refine F.CV ?_;rw [F.EA];simp only [c8 (cA s),aq];have g0:(h.alloc (.cells (au s))).get h.next=some (.cells (au s)):=aB _ _
 have e0:bC h (h.alloc (.cells (au s))):=bC.alloc _ _;have n0:(h.alloc (.cells (au s))).next=h.next+1:=Heap.aM _ _
 generalize (h.alloc (.cells (au s)))=H at g0 e0 n0 ⊢;have l0:ah (some 2) (.ptr h.next 0) H=some (.agg (au s)):=by rw [ak g0,cV (cs:=au s) (n:=2) rfl]
 simp only [l0,aq];refine ai (bH kD iY me (fun e he=>?_) fun ho=>?_)
 ·simp only [aS,reduceAdd,reduceEqDiff,reduceIte,cP,eV (yH he).1,Bool.not_false];exact K8 (yH he).2 _ e0
 ·simp only [aS,reduceAdd,reduceEqDiff,reduceIte,cP,decide_true,Bool.not_true,l0];refine ai (QC kD iY me (fun e he=>absurd ho (yH he).2) fun _ x s' all N h' a1 a2 a3 a4 a5 a6 a7 a8=>?_);simp only [aS,reduceAdd,reduceEqDiff,reduceIte];exact zA ho x s' all N h' a1 a2 a3 a4 a5 a6 (e0.trans a7) (by omega)
theorem Ob{a b:List Int}{l m:List (List Int)}(h1:iX (a :: l))(h2:iX (b :: m))(h:∀ u,u ∈ a :: l↔u ∈ b :: m):a=b:=by
 have p1:=pairwise_cons.1 h1;have p2:=pairwise_cons.1 h2;rcases mem_cons.1 ((h a).1 mem_cons_self) with e|e
 ·exact e
 ·rcases mem_cons.1 ((h b).2 mem_cons_self) with f|f
  ·exact f.symm
  ·have:=jV (p2.1 a e) (p1.1 b f);rw [ig] at this;cases this
theorem AD:∀ {l m:List (List Int)},iX l->iX m->(∀ u,u ∈ l↔u ∈ m)->l=m
 |[],[],_,_,_=>rfl
 |a :: l,[],_,_,h=>absurd ((h a).1 mem_cons_self) (by simp)
 |[],b :: m,_,_,h=>absurd ((h b).2 mem_cons_self) (by simp)
 |a :: l,b :: m,h1,h2,h=>by
  obtain rfl:=Ob h1 h2 h;have p1:=pairwise_cons.1 h1;have p2:=pairwise_cons.1 h2
  have:l=m:=AD p1.2 p2.2 fun u=>by
   constructor
   ·intro hu;rcases mem_cons.1 ((h u).1 (mem_cons_of_mem _ hu)) with e|e
    ·subst e;have:=p1.1 u hu;rw [ig] at this;cases this
    ·exact e
   ·intro hu;rcases mem_cons.1 ((h u).2 (mem_cons_of_mem _ hu)) with e|e
    ·subst e;have:=p2.1 u hu;rw [ig] at this;cases this
    ·exact e
  rw [this]
structure abx (L:List (List Int)) (t:List Int) (is:Bool) (L':List (List Int)):Prop where
 sort:iX L'
 mem:∀ u,u ∈ L'↔(u ∈ L/\u≠t)\/(is=true/\u=t)
theorem vu.list{t:List Int}(hp:vu s j r t is s'):∃ L,abx (r.aO.l.map Sl.l) t is L/\s'.aF.l.map bY=(s.aF.l.map bY).set j (r.name,r.arity,L):=by
 obtain ⟨ts,h1,h2,h3⟩:=hp.aF;exact ⟨ts,⟨h1,h2⟩,h3⟩
theorem vu.at{s s':cN}{j:Nat}{r r':Rel}{t:List Int}{is:Bool}(hp:vu s j r t is s')(hr:s.aF.l[j]?=some r)(uW:s'.aF.l[j]?=some r'):r'.name=r.name/\r'.arity=r.arity/\abx (r.aO.l.map Sl.l) t is (r'.aO.l.map Sl.l):=by
 obtain ⟨L,h1,h2⟩:=hp.list;have hl:j<s.aF.l.length:=(ki.1 hr).1;have e:(s'.aF.l.map bY)[j]?=some (r.name,r.arity,L):=by rw [h2,getElem?_set_self (by simpa using hl)]
 rw [getElem?_map,uW,map_some,Option.some.injEq] at e;have e1:r'.name=r.name:=congrArg (·.1) e;have e2:r'.arity=r.arity:=congrArg (·.2.1) e;have e3:r'.aO.l.map Sl.l=L:=congrArg (·.2.2) e;exact ⟨e1,e2,by rw [e3];exact h1⟩
def EP(s:cN)(nm:cc)(t:List Int):Prop:=∃ (i:Nat) (r:Rel),s.aF.l[i]?=some r/\r.name=nm/\t ∈ r.aO.l.map Sl.l
theorem Hi(hv:de s=true){q:Rel}(hq:s.aF.l[i]?=some q)(hr:s.aF.l[j]?=some r)(hn:q.name=r.name):i=j:=by
 have PN:=pairwise_iff_getElem.1 (rH hv);obtain ⟨y1,y2⟩:=ki.1 hq;obtain ⟨y3,y4⟩:=ki.1 hr;rcases Nat.lt_trichotomy i j with h|h|h
 ·exact absurd (by rw [getElem_map,getElem_map,y2,y4];exact hn) (PN i j (by simpa using y1) (by simpa using y3) h)
 ·exact h
 ·exact absurd (by rw [getElem_map,getElem_map,y2,y4];exact hn.symm) (PN j i (by simpa using y3) (by simpa using y1) h)
theorem TS(hv:de s=true){t0:List Int}(hr:s.aF.l[j]?=some r)(hp:vu s j r t0 is s')(nm:cc)(t:List Int) :
  EP s' nm t↔(EP s nm t/\¬ (r.name=nm/\t0=t))\/(is=true/\r.name=nm/\t0=t):=by
 obtain ⟨L,h1,h2⟩:=hp.list;have hl:j<s.aF.l.length:=(ki.1 hr).1;have hlen:s'.aF.l.length=s.aF.l.length:=by have:=congrArg List.length h2;simpa using this
 obtain ⟨r',uW⟩:∃ r',s'.aF.l[j]?=some r':=⟨s'.aF.l[j]'(by omega),ew (by omega)⟩
 obtain ⟨e1,e2,e3⟩:=hp.at hr uW
 have off:∀ i,i≠j->(s'.aF.l[i]?).map bY=(s.aF.l[i]?).map bY:=fun i hi=>by
  rw [<- getElem?_map,h2,getElem?_set_ne (Ne.symm hi),getElem?_map]
 constructor
 ·rintro ⟨i,q,hq,hn,ht⟩;by_cases hi:i=j
  ·subst hi;rw [uW] at hq;cases hq;rcases (e3.mem t).1 ht with ⟨a,b⟩|⟨a,b⟩
   ·exact .inl ⟨⟨i,r,hr,by rw [<- e1];exact hn,a⟩,fun h=>b h.2.symm⟩
   ·exact .inr ⟨a,by rw [<- e1];exact hn,b.symm⟩
  ·have ho:=off i hi;rw [hq] at ho
   cases hs:s.aF.l[i]? with
   |none=>rw [hs] at ho;cases ho
   |some p=>
    rw [hs] at ho;simp only [map_some,Option.some.injEq] at ho;have f1:q.name=p.name:=congrArg (·.1) ho;have f3:q.aO.l.map Sl.l=p.aO.l.map Sl.l:=congrArg (·.2.2) ho;refine .inl ⟨⟨i,p,hs,by rw [<- f1];exact hn,by rw [<- f3];exact ht⟩,fun h=>hi (Hi hv hs hr (by rw [<- f1,hn,h.1]))⟩
 ·rintro (⟨⟨i,p,hs,hn,ht⟩,hne⟩|⟨a,b,c⟩)
  ·by_cases hi:i=j
   ·subst hi;rw [hr] at hs;cases hs;exact ⟨i,r',uW,by rw [e1];exact hn,(e3.mem t).2 (.inl ⟨ht,fun h=>hne ⟨hn,h.symm⟩⟩)⟩
   ·have ho:=off i hi;rw [hs] at ho
    cases hq:s'.aF.l[i]? with
    |none=>rw [hq] at ho;cases ho
    |some q=>
     rw [hq] at ho;simp only [map_some,Option.some.injEq] at ho;have f1:q.name=p.name:=congrArg (·.1) ho;have f3:q.aO.l.map Sl.l=p.aO.l.map Sl.l:=congrArg (·.2.2) ho;exact ⟨i,q,hq,by rw [f1];exact hn,by rw [f3];exact ht⟩
  ·exact ⟨j,r',uW,by rw [e1];exact b,(e3.mem t).2 (.inr ⟨a,c.symm⟩)⟩
theorem Wy{a b:cN}(ha:de a=true)(hb:de b=true)(Ju:(a.aF.l.map bY).map m4=(b.aF.l.map bY).map m4)(h:∀ nm t,EP a nm t↔EP b nm t):a.aF.l.map bY=b.aF.l.map bY:=by
 have hlen:a.aF.l.length=b.aF.l.length:=by have:=congrArg List.length Ju;simpa using this
 refine ext_getElem? fun i=>?_;rw [getElem?_map,getElem?_map];by_cases hi:i<a.aF.l.length
 ·have h1:a.aF.l[i]?=some a.aF.l[i]:=ew hi;have h2:b.aF.l[i]?=some (b.aF.l[i]'(by omega)):=ew (by omega);generalize a.aF.l[i]=q at h1;generalize b.aF.l[i]'(by omega)=u at h2
  have e:m4 (bY q)=m4 (bY u):=by
   have:=congrArg (·[i]?) Ju;simp only [getElem?_map,h1,h2,map_some,Option.some.injEq] at this;exact this
  have e1:q.name=u.name:=congrArg (·.1) e;have e2:q.arity=u.arity:=congrArg (·.2) e;obtain ⟨_,k,_,_,_,kt⟩:=(fR.1 ha).rel _ (List.mem_map_of_mem (iq h1));obtain ⟨_,m,_,_,_,mt⟩:=(fR.1 hb).rel _ (List.mem_map_of_mem (iq h2))
  have e3:q.aO.l.map Sl.l=u.aO.l.map Sl.l:=AD kt.2 mt.2 fun t=>by
   constructor
   ·intro ht;obtain ⟨i',p,hp,hn,htp⟩:=(h q.name t).1 ⟨i,q,h1,rfl,ht⟩;obtain rfl:=Hi hb hp h2 (by rw [hn,e1]);rw [h2] at hp;cases hp;exact htp
   ·intro ht;obtain ⟨i',p,hp,hn,htp⟩:=(h u.name t).2 ⟨i,u,h2,rfl,ht⟩;obtain rfl:=Hi ha hp h1 (by rw [hn,e1]);rw [h1] at hp;cases hp;exact htp
  rw [h1,h2];simp [bY,e1,e2,e3]
 ·rw [getElem?_eq_none (by omega),getElem?_eq_none (by omega)]
def yI(s:cN)(a:nJ):Prop:=(s.aF.l.find? (iP a.name (a.t.l.length:Int))).isSome=true/\jy s.size a.t.l=true
def Lo(s:cN)(d:List nJ)(nm:cc)(t:List Int):Prop:=∃ a ∈ d,yI s a/\a.name=nm/\a.t.l=t
structure kS (s0 s:cN) (d:List nJ):Prop where
 size:s.size=s0.size
 valid:de s=true
 sig:(s.aF.l.map bY).map m4=(s0.aF.l.map bY).map m4
 mem:∀ nm t,EP s nm t↔(∃ a ∈ d,yI s0 a/\a.name=nm/\a.t.l=t/\a.to=true)\/(EP s0 nm t/\¬ Lo s0 d nm t)
theorem kS.nil(hv:de s=true):kS s s []:=⟨rfl,hv,rfl,fun nm t=>by simp [Lo]⟩
theorem kS.gh(x:kS s0 s d)(a:nJ):yI s a↔yI s0 a:=by
 unfold yI;rw [x.size]
 have:(s.aF.l.find? (iP a.name (a.t.l.length:Int))).isSome=(s0.aF.l.find? (iP a.name (a.t.l.length:Int))).isSome:=by
  rw [Bool.eq_iff_iff,find?_isSome,find?_isSome];constructor
  ·rintro ⟨r,hr,h⟩;obtain ⟨y,hy,e1,e2⟩:=BI x.sig hr;exact ⟨y,hy,by unfold iP at h ⊢;rw [e1,e2];exact h⟩
  ·rintro ⟨r,hr,h⟩;obtain ⟨y,hy,e1,e2⟩:=BI x.sig.symm hr;exact ⟨y,hy,by unfold iP at h ⊢;rw [e1,e2];exact h⟩
 rw [this]
theorem kS.bad(x:kS s0 s d){a:nJ}(hb:¬ yI s a):kS s0 s (d++[a]):=by
 rw [x.gh] at hb;refine ⟨x.size,x.valid,x.sig,fun nm t=>?_⟩;rw [x.mem];unfold Lo;simp only [mem_append,mem_singleton,or_and_right,exists_or,exists_eq_left,hb,_root_.false_and,_root_.or_false]
theorem kS.put(x:kS s0 s d){a:nJ}(hr:s.aF.l[j]?=some r)(hn:r.name=a.name)(hk:r.arity=(a.t.l.length:Int))(hg:yI s a)(hfr:∀ b ∈ d,¬ (b.name=a.name/\b.t.l=a.t.l))(hp:vu s j r a.t.l a.to s'):kS s0 s' (d++[a]):=by
 have hg0:=(x.gh a).1 hg;have hin:=hg.2;obtain ⟨n,hz,_⟩:=jw x.valid;refine ⟨by rw [hp.size,x.size],FQ x.valid hr hk rfl (by rw [hz] at hin ⊢;simpa using hin) hp,by rw [yE hr hp];exact x.sig,fun nm t=>?_⟩;rw [TS x.valid hr hp,x.mem,hn];unfold Lo;simp only [mem_append,mem_singleton,or_and_right,exists_or,exists_eq_left,hg0,_root_.true_and];by_cases hc:a.name=nm/\a.t.l=t
 ·obtain ⟨c1,c2⟩:=hc;have Bc:¬ ∃ b ∈ d,yI s0 b/\b.name=nm/\b.t.l=t/\b.to=true:=fun ⟨b,hb,_,h1,h2,_⟩=>hfr b hb ⟨by rw [h1,c1],by rw [h2,c2]⟩;simp only [c1,c2,_root_.and_self,_root_.not_true,_root_.and_false,_root_.false_or,_root_.true_and,_root_.or_true,_root_.or_false,_root_.and_true,iff_def,Bc]
 ·simp only [hc,not_false_iff,_root_.and_true,_root_.or_false,_root_.and_false];have WL:¬ (a.name=nm/\a.t.l=t/\a.to=true):=fun h=>hc ⟨h.1,h.2.1⟩;simp only [WL,_root_.or_false]
theorem kS.eq{a b:cN}{e:List nJ}(x:kS s0 a d)(y:kS s0 b e)(h:∀ c,c ∈ d↔c ∈ e):a.size=b.size/\a.aF.l.map bY=b.aF.l.map bY:=by
 refine ⟨by rw [x.size,y.size],Wy x.valid y.valid (by rw [x.sig,y.sig]) fun nm t=>?_⟩;rw [x.mem,y.mem];unfold Lo;simp only [h]
structure mh (rs:Sl aP) (N:Nat) (h:Heap) (s0:cN) (d:List nJ) (s all:cN) (dn:AV):Prop where
 at_:eB rs N h s all dn
 done:∃ dl,lp N h dn dl/\dl.length<=d.length
 ok:fo rs.l s
 run:m6 rs.l s all
 aft:kS s0 s d
theorem mh.but{rs:Sl aP}{all:cN}(x:mh rs N h s0 d s all dn)(hn:h.next<=h'.next)(hg:∀ b,b<h.next->b=N\/cz dn=some b->h'.get b=h.get b):mh rs N h' s0 d s all dn:=by
 obtain ⟨dl,o,hl⟩:=x.done;refine ⟨x.at_.agree (hg N x.at_.lt (.inl rfl)) hn,⟨dl,?_,hl⟩,x.ok,x.run,x.aft⟩
 cases o with
 |nil=>exact .nil
 |row b _ cs h1 h2 h3 h4 h5=>exact .row b _ cs h1 (Nat.lt_of_lt_of_le h2 hn) (by rw [hg b h2 (.inr rfl)];exact h3) h4 h5
theorem mh.put{rs:Sl aP}{N:Nat}{h:Heap}{s0:cN}{d:List nJ}{s all:cN}{dn:AV}(x:mh rs N h s0 d s all dn)(kD:∀ r ∈ rs.l,r.ok)(iY:∀ r ∈ rs.l,r.mj)(hd:d.length<=1000){a:nJ}(GZ:a.t.l.length<=60)(hfr:∀ b ∈ d,¬ (b.name=a.name/\b.t.l=a.t.l))
  {K:Out->Heap->Bool} (hK:∀ (s' tY:cN) Hj h' v,mh rs N h' s0 (d++[a]) s' tY Hj->Qx N dn h h'->(∀ b,cz Hj=some b->cz dn=some b\/h.next<=b)->K (.ret (.tuple v)) h'=true):Sem TP 15 [.ptr N 0,.str a.name,an encI 1 a.t,.bool a.to] h K:=by
 obtain ⟨dl,o,hl⟩:=x.done
 have bad:¬ yI s a->∀ h' v,bC h h'->K (.ret (.tuple v)) h'=true:=fun hb h' v hx=>by
  have y:=x.but (h':=h') hx.next (fun b hb _=>hx.get b hb)
  exact hK s all dn h' v ⟨y.at_,by obtain ⟨dl,o,hl⟩:=y.done;exact ⟨dl,o,by simp;omega⟩,y.ok,y.run,y.aft.bad hb⟩ ⟨hx.next,fun b hb _ _=>hx.get b hb⟩ (fun b hb=>.inl hb)
 refine N8 x.at_ o (by omega) kD iY x.ok x.run (by omega) (fun hn h' hx=>bad (fun hg=>by have:=hg.1;rw [hn] at this;cases this) h' _ hx) (fun r _ hi h' hx=>bad (fun hg=>by have:=hg.2;rw [hi] at this;cases this) h' _ hx) ?_;intro j r w1 w2 w3 w4 w5 s' tY h' Hj f g p1 p2 p3 p4 p5 p6 p7 _ _;have UP:=find?_some w3
 have hn:r.name=a.name:=by
  simp only [iP,and_eq_true,beq_iff_eq] at UP;exact UP.1
 exact hK s' tY Hj h' _ ⟨p4,⟨_,p5,by simp;omega⟩,p2,p3,x.aft.put w2 hn w4 ⟨by rw [w3];rfl,w5⟩ hfr p1⟩ p6 (fun b hb=>.inr (p7 b hb))
structure tZ (N1:Nat) (d1:AV) (N2:Nat) (d2:AV):Prop where
 ne:N1≠N2
 a:cz d1≠some N2
 b:cz d2≠some N1
 c:∀ x,cz d1=some x->cz d2≠some x
theorem tZ.symm{N1 N2:Nat}{d1 d2:AV}(x:tZ N1 d1 N2 d2):tZ N2 d2 N1 d1:=⟨Ne.symm x.ne,x.b,x.a,fun b h1 h2=>x.c b h2 h1⟩
theorem mh.Co{rs:Sl aP}{all:cN}(x:mh rs N h s0 d s all dn){b:Nat}(hb:cz dn=some b):b<h.next:=by
 obtain ⟨dl,o,_⟩:=x.done
 cases o with
 |nil=>cases hb
 |row c _ cs h1 h2 h3 h4 h5=>cases hb;exact h2
theorem tZ.gd{N1 N2:Nat}{d1 d1' d2:AV}(x:tZ N1 d1 N2 d2){rs:Sl aP}{all:cN}(y:mh rs N2 h s0 d s all d2)(hk:Qx N1 d1 h h')(hd:∀ b,cz d1'=some b->cz d1=some b\/h.next<=b) :
  mh rs N2 h' s0 d s all d2/\tZ N1 d1' N2 d2:=by
 refine ⟨y.but hk.next fun b hb ho=>?_,x.ne,fun e=>?_,x.b,fun b h1 h2=>?_⟩
 ·rcases ho with rfl|ho
  ·exact hk.get _ hb (Ne.symm x.ne) x.a
  ·exact hk.get b hb (fun e=>x.b (by rw [ho,e])) (fun e=>x.c b e ho)
 ·rcases hd _ e with h|h
  ·exact x.a h
  ·have:=y.at_.lt;omega
 ·rcases hd b h1 with h|h
  ·exact x.c b h h2
  ·have:=y.Co h2;omega
theorem BJ{t:cN}(h:s.aF.l.map bY=t.aF.l.map bY)(nm:cc)(u:List Int)(hm:EP s nm u):EP t nm u:=by
 obtain ⟨i,r,hr,hn,hu⟩:=hm;have:=congrArg (·[i]?) h;simp only [getElem?_map,hr,map_some] at this
 cases hq:t.aF.l[i]? with
 |none=>rw [hq] at this;cases this
 |some q=>
  rw [hq] at this;simp only [map_some,Option.some.injEq] at this;have f1:r.name=q.name:=congrArg (·.1) this;have f3:r.aO.l.map Sl.l=q.aO.l.map Sl.l:=congrArg (·.2.2) this;exact ⟨i,q,hq,by rw [<- f1];exact hn,by rw [<- f3];exact hu⟩
theorem kS.DN{t0:cN}(x:kS s0 s d)(hz:t0.size=s0.size)(hd:t0.aF.l.map bY=s0.aF.l.map bY)(hv:de t0=true):kS t0 s d:=by
 have y:kS s0 t0 []:=⟨hz,hv,by rw [hd],fun nm t=>by
  simp only [not_mem_nil,_root_.false_and,exists_false,_root_.false_or,Lo,not_false_iff,_root_.and_true]
  exact ⟨BJ hd nm t,BJ hd.symm nm t⟩⟩
 refine ⟨by rw [x.size,hz],x.valid,by rw [x.sig,hd],fun nm t=>?_⟩;rw [x.mem];have hm:EP t0 nm t↔EP s0 nm t:=⟨BJ hd nm t,BJ hd.symm nm t⟩
 unfold Lo;simp only [y.gh,hm]
theorem TT(N:Nat):jC (.pointer 78) (.ptr N 0) .ey=some (.bool false):=rfl
theorem QD:jC (.pointer 78) .ey .ey=some (.bool true):=rfl
set_option maxHeartbeats 2000000 in
theorem ER{rules:Sl aP}{gW:Sl nJ}(kD:∀ r ∈ rules.l,r.ok)(me:s.ok)(TU:gW.l.length<=cM/\∀ a ∈ gW.l,a.ok):Sem TP 4 [an aQ 3 rules,.agg (au s),an fL 4 gW] Heap.empty Ig:=by
 have al:∀ h,aC TP 12 [] h (bK (fun v h'=>Ig (.ret v) h') (fun v h'=>Ig (.panic v) h'))=true:=fun h=>ai (nO (by simp only [aS,reduceAdd,reduceEqDiff,reduceIte];rfl));refine F.vj ?_;rw [F.wH];simp only [c8 (cA s),aq,bU];have g0:(Heap.empty.alloc (.cells (au s))).get 0=some (.cells (au s)):=aB _ _;have gn:(Heap.empty.alloc (.cells (au s))).next=1:=rfl
 generalize (Heap.empty.alloc (.cells (au s)))=H at g0 gn ⊢;have l0:ah (some 2) (.ptr 0 0) H=some (.agg (au s)):=by rw [ak g0,cV (cs:=au s) (n:=2) rfl]
 simp only [l0,aq];refine ai (cT kD me fun b hb=>?_);simp only [aS,reduceAdd,reduceEqDiff,reduceIte]
 cases b with
 |false=>
  simp only [Bool.not_false,aL];refine ai (nO ?_);simp only [aS,reduceAdd,reduceEqDiff,reduceIte];rfl
 |true=>
 have iY:=hb rfl;simp only [Bool.not_true,aK];refine ai (fJ TU.1 fun b2 hb2=>?_)
 cases b2 with
 |false=>
  simp only [aS,reduceAdd,reduceEqDiff,reduceIte,Bool.not_false];refine ai (nO ?_);simp only [aS,reduceAdd,reduceEqDiff,reduceIte];rfl
 |true=>
 obtain ⟨fw1,fw2⟩:=hb2 rfl;simp only [aS,reduceAdd,reduceEqDiff,reduceIte,Bool.not_true,l0];have hl1:∀ h',bC H h'->ah (some 2) (.ptr 0 0) h'=some (.agg (au s)):=fun h' hx=>by rw [ak (cs:=au s) (by rw [hx.get 0 (by omega)];exact g0),cV (cs:=au s) (n:=2) rfl]
 refine ai (xg kD iY me (fun hn h1 x1=>?_) fun ho xa s1 aey N1 h1 a1 a2 a3 a4 a5 a6 a7 a8=>?_)
 ·simp only [aS,reduceAdd,reduceEqDiff,reduceIte,hl1 h1 x1,AV.beq_refl,Bool.and_self,if_true];refine ai (xg kD iY me (fun _ h2 x2=>?_) fun ho=>absurd ho hn);simp only [aS,reduceAdd,reduceEqDiff,reduceIte,QD];refine ai (nO ?_);simp only [aS,reduceAdd,reduceEqDiff,reduceIte];rfl
 ·simp only [aS,reduceAdd,reduceEqDiff,reduceIte,hl1 h1 a7,AV.beq_refl,Bool.and_self,if_true];refine ai (xg kD iY me (fun hn=>absurd ho hn) fun _ xb s2 aez N2 h2 b1 b2 b3 b4 b5 b6 b7 b8=>?_);simp only [aS,reduceAdd,reduceEqDiff,reduceIte,TT];have hN1:=a6.lt;have k1:mh xa N1 h2 s1 [] s1 aey .ay:=⟨a6.ext b7,⟨[],.nil,dN _⟩,a4,a5,kS.nil a4.valid⟩
  have k2:mh xb N2 h2 s2 [] s2 aez .ay:=⟨b6,⟨[],.nil,dN _⟩,b4,b5,kS.nil b4.valid⟩
  have ap:tZ N1 .ay N2 .ay:=⟨by omega,(fun e=>by cases e),(fun e=>by cases e),(fun b e=>by cases e)⟩
  have abz:(∀ r ∈ xa.l,r.ok)/\∀ r ∈ xa.l,r.mj:=by
   rw [a1];exact ⟨fun r hr=>by obtain ⟨q,hq,rfl⟩:=mem_map.1 hr;exact Mz (kD q hq),fun r hr=>by obtain ⟨q,hq,rfl⟩:=mem_map.1 hr;exact JB (iY q hq)⟩
  have abA:(∀ r ∈ xb.l,r.ok)/\∀ r ∈ xb.l,r.mj:=by
   rw [b1];exact ⟨fun r hr=>by obtain ⟨q,hq,rfl⟩:=mem_map.1 hr;exact Mz (kD q hq),fun r hr=>by obtain ⟨q,hq,rfl⟩:=mem_map.1 hr;exact JB (iY q hq)⟩
  have ld:∀ {i:Nat} {a:nJ},gW.l[i]?=some a->∀ j,j<4->∀ h,ah none (.dQ (gW.l.flatMap fL) (i*4+j)) h=(fL a)[j]?:=fun hv j hj h=>fH nW hv hj;refine aE 0 gW.l.length (zero_le _) (fun i e h'=>h'=h2/\e 2=an fL 4 gW/\e 7 = .ptr N1 0/\e 8 = .ptr N2 0/\e 9 = .int .i64 (i:Int)/\∀ (p q:Nat) (a b:nJ),q<i->p<q->gW.l[p]?=some a->gW.l[q]?=some b->¬ (a.name=b.name/\a.t.l=b.t.l)) ⟨rfl,rfl,rfl,rfl,rfl,fun p q a b h=>absurd h (by omega)⟩ ?_ ?_
  ·rintro i e h' _ hi ⟨rfl,e2,e7,e8,e9,Of⟩ K' hn hx hr hp;have hv:gW.l[i]?=some gW.l[i]:=ew hi;generalize gW.l[i]=a at hv;rw [F.bf.aU];simp only [e2,e9,aS,reduceAdd,reduceEqDiff,reduceIte,bp hi];refine aE 0 i (zero_le _) (fun k e l9=>l9=h'/\e 2=an fL 4 gW/\e 7 = .ptr N1 0/\e 8 = .ptr N2 0/\e 9 = .int .i64 (i:Int)/\e 10 = .int .i64 (k:Int)/\∀ (p:Nat) (b:nJ),p<k->gW.l[p]?=some b->¬ (b.name=a.name/\b.t.l=a.t.l)) ⟨rfl,e2,e7,e8,e9,rfl,fun p b h=>absurd h (by omega)⟩ ?_ ?_
   ·rintro k e l9 _ hk ⟨rfl,e2,e7,e8,e9,jF,WY⟩ K2 oW fY qi DT;have hkl:k<gW.l.length:=by omega
    have hw:gW.l[k]?=some gW.l[k]:=ew hkl;generalize gW.l[k]=b at hw;have V3:=(fw2 b (iq hw)).2;rw [F.bf.dm];simp only [e2,e9,jF,aS,reduceAdd,reduceEqDiff,reduceIte,bp hk,aV gW hkl,aV gW hi,ld hw 1 (by omega),ld hv 1 (by omega),fL]
    cases vr:(b.name==a.name) with
    |true=>
     simp only [aS,reduceAdd,reduceEqDiff,reduceIte,e2,e9,jF,aV gW hkl,aV gW hi,ld hw 2 (by omega),ld hv 2 (by omega),fL];refine ai (ec (by unfold cM;omega) ?_)
     cases ht:(b.t.l==a.t.l) with
     |true=>
      simp only [aS,reduceAdd,reduceEqDiff,reduceIte];refine ai (nO ?_);simp only [aS,reduceAdd,reduceEqDiff,reduceIte];rw [qi,F.bf.iR,hr,F.bf.bz];simp only [aS,reduceAdd,reduceEqDiff,reduceIte];rfl
     |false=>
      simp only [aS,reduceAdd,reduceEqDiff,reduceIte,jF,aJ hk (by unfold cM;omega)];refine oW _ _ ⟨rfl,e2,e7,e8,e9,rfl,fun p c hp hc=>?_⟩;by_cases hpe:p=k
      ·subst hpe;rw [hw] at hc;cases hc;intro h;rw [h.2] at ht;simp at ht
      ·exact WY p c (by omega) hc
    |false=>
     simp only [aS,reduceAdd,reduceEqDiff,reduceIte,jF,aJ hk (by unfold cM;omega)];refine oW _ _ ⟨rfl,e2,e7,e8,e9,rfl,fun p c hp hc=>?_⟩;by_cases hpe:p=k
     ·subst hpe;rw [hw] at hc;cases hc;intro h;rw [h.1] at vr;simp at vr
     ·exact WY p c (by omega) hc
   ·rintro e l9 ⟨rfl,e2,e7,e8,e9,jF,WY⟩ K2 fY;rw [F.bf.dm];simp only [e9,jF,aS,reduceAdd,reduceEqDiff,reduceIte,aX];rw [fY,F.bf.cx];simp only [aS,reduceAdd,reduceEqDiff,reduceIte,e9,aJ hi TU.1];refine hn _ _ ⟨rfl,e2,e7,e8,rfl,fun p q c d hq WN hc hd=>?_⟩;by_cases Oj:q=i
    ·subst Oj;rw [hv] at hd;cases hd;exact WY p c WN hc
    ·exact Of p q c d (by omega) WN hc hd
  ·rintro e h' ⟨rfl,e2,e7,e8,e9,Of⟩ K' hx;rw [F.bf.aU];simp only [e2,e9,aS,reduceAdd,reduceEqDiff,reduceIte,aX];rw [hx,F.bf.aG];refine aE 0 gW.l.length (zero_le _) (fun i e l9=>∃ sa aa da sb ab db,mh xa N1 l9 s1 (gW.l.take i) sa aa da/\mh xb N2 l9 s2 (gW.l.reverse.take i) sb ab db/\tZ N1 da N2 db/\e 2=an fL 4 gW/\e 7 = .ptr N1 0/\e 8 = .ptr N2 0/\e 11 = .int .i64 (i:Int)) ⟨_,_,_,_,_,_,k1,k2,ap,e2,e7,e8,rfl⟩ ?_ ?_
   ·rintro i e l9 _ hi ⟨sa,aa,da,sb,ab,db,k1,k2,ap,e2,e7,e8,oX⟩ K2 oW fY qi DT;have hv:gW.l[i]?=some gW.l[i]:=ew hi;generalize gW.l[i]=a at hv;have hq:gW.l.length-1-i<gW.l.length:=by omega
    have hw:gW.l[gW.l.length-1-i]?=some gW.l[gW.l.length-1-i]:=ew hq;generalize gW.l[gW.l.length-1-i]=b at hw;have hwr:gW.l.reverse[i]?=some b:=by rw [getElem?_reverse hi];exact hw
    have s1':aI .sub (.int .i64 (gW.l.length:Int)) (.int .i64 1)=some (.int .i64 ((gW.l.length-1:Nat):Int)):=Pk (by omega) TU.1
    have s2':aI .sub (.int .i64 ((gW.l.length-1:Nat):Int)) (.int .i64 (i:Int))=some (.int .i64 ((gW.l.length-1-i:Nat):Int)):=by
     rw [uu (by omega) (by omega)];congr 2;omega
    have z0:((l9.alloc (.cells [.int .i64 0,.str [],.ay,.bool false])).alloc (.cells [.int .i64 0,.str [],.ay,.bool false])).get l9.next=some (.cells [.int .i64 0,.str [],.ay,.bool false]):=by
     rw [Heap.aW,Heap.aM,if_neg (by omega)];exact aB _ _
    have z1:((l9.alloc (.cells [.int .i64 0,.str [],.ay,.bool false])).alloc (.cells [.int .i64 0,.str [],.ay,.bool false])).get (l9.next+1)=some (.cells [.int .i64 0,.str [],.ay,.bool false]):=aB _ _;have zx:bC l9 ((l9.alloc (.cells [.int .i64 0,.str [],.ay,.bool false])).alloc (.cells [.int .i64 0,.str [],.ay,.bool false])):=(bC.alloc _ _).trans (bC.alloc _ _);have zn:((l9.alloc (.cells [.int .i64 0,.str [],.ay,.bool false])).alloc (.cells [.int .i64 0,.str [],.ay,.bool false])).next=l9.next+2:=rfl
    rw [F.bf.kM];simp only [e2,e7,e8,oX,aS,reduceAdd,reduceEqDiff,reduceIte,bp hi,aV gW hi,dx nW hv,s1',s2',aV gW hq,dx nW hw,Heap.aM];generalize ((l9.alloc (.cells [.int .i64 0,.str [],.ay,.bool false])).alloc (.cells [.int .i64 0,.str [],.ay,.bool false]))=Z at z0 z1 zx zn ⊢;have abB:∀ c:nJ,bw (fL c)=true:=fun c=>by unfold fL;simp only [bw,fT,Bool.and_true];rfl
    have Tc:aZ 4 (.ptr l9.next 0) (.agg (fL a)) Z=some (Z.set l9.next (.cells (fL a))):=by
     rw [cB (n:=4) (v:=.agg (fL a)) z0 rfl (abB a) (by simp)];rfl
    have y1:(Z.set l9.next (.cells (fL a))).get (l9.next+1)=some (.cells [.int .i64 0,.str [],.ay,.bool false]):=by rw [Heap.aN,if_neg (by omega)];exact z1
    have PI:aZ 4 (.ptr (l9.next+1) 0) (.agg (fL b)) (Z.set l9.next (.cells (fL a)))=some ((Z.set l9.next (.cells (fL a))).set (l9.next+1) (.cells (fL b))):=by
     rw [cB (n:=4) (v:=.agg (fL b)) y1 rfl (abB b) (by simp)];rfl
    have u0:((Z.set l9.next (.cells (fL a))).set (l9.next+1) (.cells (fL b))).get l9.next=some (.cells (fL a)):=by rw [Heap.aN,if_neg (by omega),Heap.aN,if_pos rfl]
    have u1:((Z.set l9.next (.cells (fL a))).set (l9.next+1) (.cells (fL b))).get (l9.next+1)=some (.cells (fL b)):=(by rw [Heap.aN,if_pos rfl]);have ux:bC l9 ((Z.set l9.next (.cells (fL a))).set (l9.next+1) (.cells (fL b))):=(zx.set (dN _) _).set (by omega) _;have un:((Z.set l9.next (.cells (fL a))).set (l9.next+1) (.cells (fL b))).next=l9.next+2:=by rw [Heap.br,Heap.br];exact zn
    simp only [aS,reduceAdd,reduceEqDiff,reduceIte,Tc,dx nW hw,AV.beq_refl,Bool.and_self,if_true,PI];generalize ((Z.set l9.next (.cells (fL a))).set (l9.next+1) (.cells (fL b)))=U at u0 u1 ux un ⊢;have f1:ah none (.ptr l9.next 1) U=some (.str a.name):=by rw [ak u0];rfl
    have f2:ah none (.ptr l9.next 2) U=some (an encI 1 a.t):=(by rw [ak u0];rfl);have f3:ah none (.ptr l9.next 3) U=some (.bool a.to):=by rw [ak u0];rfl
    simp only [aS,reduceAdd,reduceEqDiff,reduceIte,f1,f2,f3];have j1:=k1.but (h':=U) ux.next (fun b hb _=>ux.get b hb)
    have j2:=k2.but (h':=U) ux.next (fun b hb _=>ux.get b hb)
    have hN1:=k1.at_.lt;refine ai (j1.put abz.1 abz.2 (by rw [length_take];omega) (fw2 a (iq hv)).2 (fun c hc=>?_) fun s' tY Hj h3 v ks hk hd=>?_)
    ·obtain ⟨k,hk⟩:=getElem?_of_mem hc;have hki:k<i:=by have:=(ki.1 hk).1;rw [length_take] at this;omega
     rw [getElem?_take,if_pos hki] at hk;exact Of k i c a hi hki hk hv
    ·obtain ⟨j2',ap'⟩:=ap.gd j2 hk hd;have w1:h3.get (l9.next+1)=some (.cells (fL b)):=by rw [hk.get _ (by omega) (by omega) (fun hb=>by have:=k1.Co hb;omega)];exact u1
     have f4:ah none (.ptr (l9.next+1) 1) h3=some (.str b.name):=(by rw [ak w1];rfl);have f5:ah none (.ptr (l9.next+1) 2) h3=some (an encI 1 b.t):=by rw [ak w1];rfl
     have f6:ah none (.ptr (l9.next+1) 3) h3=some (.bool b.to):=(by rw [ak w1];rfl);simp only [aS,reduceAdd,reduceEqDiff,reduceIte,f4,f5,f6];refine ai (j2'.put abA.1 abA.2 (by rw [length_take,length_reverse];omega) (fw2 b (iq hw)).2 (fun c hc=>?_) fun s'' abC aeB h4 v' ks' XK qI=>?_)
     ·obtain ⟨k,hk⟩:=getElem?_of_mem hc;have hki:k<i:=by have:=(ki.1 hk).1;rw [length_take] at this;omega
      rw [getElem?_take,if_pos hki,getElem?_reverse (by omega)] at hk;exact fun h=>Of (gW.l.length-1-i) (gW.l.length-1-k) b c (by omega) (by omega) hw hk ⟨h.1.symm,h.2.symm⟩
     ·obtain ⟨ks2,ap2⟩:=ap'.symm.gd ks XK qI;simp only [aS,reduceAdd,reduceEqDiff,reduceIte,oX,aJ hi TU.1];refine oW _ _ ⟨s',tY,Hj,s'',abC,aeB,?_,?_,ap2.symm,e2,e7,e8,rfl⟩
      ·rw [take_add_one,hv];exact ks2
      ·rw [take_add_one,hwr];exact ks'
   ·rintro e l9 ⟨sa,aa,da,sb,ab,db,k1,k2,ap,e2,e7,e8,oX⟩ K2 fY;rw [jW (dN _)] at k1;rw [jW (by simp)] at k2;rw [F.bf.kM];simp only [e2,oX,aS,reduceAdd,reduceEqDiff,reduceIte,aX];rw [fY,F.bf.ic];have hpa:0<sa.size:=by obtain ⟨n,hn,n1,_⟩:=jw k1.ok.valid;omega
    have Uz:0<sb.size:=by obtain ⟨n,hn,n1,_⟩:=jw k2.ok.valid;omega
    have aeC:kS s1 sb gW.l.reverse:=by
     have:=k2.aft.DN (t0:=s1) (by rw [a2,b2]) (by rw [a3,b3]) a4.valid
     rwa [show gW.l.reverse=gW.l.reverse from rfl] at this
    have heq:=k1.aft.eq aeC (fun c=>List.mem_reverse.symm);have hrun:m6 xa.l sb ab:=by have:=k2.run;rw [b1] at this;rw [a1];exact this
    obtain ⟨q1,q2⟩:=k1.run.det hrun heq.1 heq.2;simp only [bP,reduceEqDiff,reduceIte,e7,e8];refine ai (FW k1.at_ hpa (k1.run.small k1.ok) fun a' h3 x3 c1 c2=>?_);simp only [aS,reduceAdd,reduceEqDiff,reduceIte];refine ai (FW (k2.at_.ext x3) Uz (k2.run.small k2.ok) fun b' h4 x4 c3 c4=>?_);simp only [aS,reduceAdd,reduceEqDiff,reduceIte];have Qn:=k1.run.small k1.ok;refine ai (Hf (by rw [c1,c3,q1]) (by rw [c2,c4,q2]) (gi (by rw [fR,c1,c2];exact fR.1 (k1.run.valid k1.ok))).1 fun h5=>?_);simp only [aS,reduceAdd,reduceEqDiff,reduceIte];refine ai (nO ?_);simp only [aS,reduceAdd,reduceEqDiff,reduceIte];rfl
end
end Go.AM