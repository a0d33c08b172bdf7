/- Parts of the proof. Conditions: none. -/
import Derived.Test.YtfdanacohcffmaaGreatKf14
import Derived.Test.YtfdanacohcffmaaGreatKf24
import Derived.Test.YtfdanacohcffmaaGreatKf25
import Derived.Test.YtfdanacohcffmaaGreatKf26
import Derived.Test.YtfdanacohcffmaaGreatKf27
import Derived.Test.YtfdanacohcffmaaGreatKf28
set_option linter.unusedSimpArgs false
set_option linter.unusedVariables false
namespace Go.AM
open List Nat Bool Option
open Go Go.Proofs
noncomputable section
variable {K:Out->Heap->Bool} {s a b s0 s1 s' out:cM} {rs:List aP} {h h':Heap} {N j n i k:Nat} {dn d:AV} {is:Bool} {r q:Rel} {nm:b6} {t:List Int} {α:Type} {L:Lk}
theorem M6{a b:Nat}(hb:0<b)(ha:a<=cN):aG .quo (.int .i64 (a:Int)) (.int .i64 (b:Int))=some (.int .i64 ((a/b:Nat):Int)):=by
 have h:¬ (b:Int)=0:=by omega
 simp only [aG,if_true,if_neg h];have e:((a:Int).tdiv (b:Int))=((a/b:Nat):Int):=by rw [Int.tdiv_eq_ediv_of_nonneg (by omega)];rfl
 have:a/b<=a:=div_le_self _ _;unfold cN at ha;rw [e];generalize a/b=q at this;rw [IntWalk.i64_in _ (by omega)]
theorem J1{enc:α->List AV}{sz:Nat}(he:∀ a,(enc a).length=sz){l:List α}{a:α}(ha:l[i]?=some a)(hk:k+n<=sz) :
  ag (some n) (.dN (l.flatMap enc) (i*sz+k)) h=some (.agg (((enc a).drop k).take n)):=by
 have hi:i<l.length:=(jJ.1 ha).1
 have hle:i*sz+sz<=(l.flatMap enc).length:=by
  rw [fX he];have:(i+1)*sz<=l.length*sz:=mul_le_mul_right _ hi;rw [Nat.add_mul] at this;omega
 show jl (some n) _ _=_;simp only [jl];rw [if_pos (by omega),<- nL he l i a ha,drop_take,take_take,drop_drop,Nat.min_eq_left (by omega)]
theorem fQ{nm:b6}{xs:Sl b6}(h1:nm.length<=cN)(h2:xs.l.length<=cN)(h3:∀ s ∈ xs.l,s.length<=cN){h:Heap}{K:Out->Heap->Bool}
  (hK:∀ n:Int,(xs.l.length:Int)<=n->n<=5000000000000000000->K (.ret (.int .i64 n)) h=true):Sem TP 85 [.agg [.str nm,an encS 1 xs]] h K:=by
 have AO:cN=4611686018427387904:=rfl
 have gen:∀ R:Out->Heap->Bool,(∀ (n:Int) h',(xs.l.length:Int)<=n->n<=5000000000000000000->R (.ret (.int .i64 n)) h'=true)->Sem TP 85 [.agg [.str nm,an encS 1 xs]] Heap.empty R:=by
  intro R fin;refine F.CU ?_;rw [F.EJ];have g0:(Heap.alloc Heap.empty (.cells (iI nm xs))).get 0=some (.cells (iI nm xs)):=aA _ _;have hb:eZ (.agg [.str nm,an encS 1 xs])=some (iI nm xs):=cT (zN nm xs);simp only [hb,aq,bU];generalize (Heap.alloc Heap.empty (.cells (iI nm xs)))=H at g0 ⊢;have hq:=M6 (a:=nm.length) (b:=20) (by omega) h1;have nU:aG .quo (.int .i64 (nm.length:Int)) (.int .i64 20)=some (.int .i64 ((nm.length/20:Nat):Int)):=hq;have hdl:nm.length/20<=240000000000000000:=by omega
  have Dr:=iF (a:=(xs.l.length:Int)) (b:=((nm.length/20:Nat):Int)) (by omega) (by omega);simp only [aR,reduceAdd,reduceEqDiff,reduceIte,aj g0,iI,nU,Dr];generalize XI:(xs.l.length:Int)+((nm.length/20:Nat):Int)=s0;refine aE 0 xs.l.length (zero_le _) (fun i e h'=>h'=H/\e 1 = .ptr 0 0/\e 4 = .int .i64 (i:Int)/\∃ n:Int,e 3 = .int .i64 n/\(xs.l.length:Int)<=n/\n<=5000000000000000000) ⟨rfl,rfl,rfl,s0,rfl,by omega,by omega⟩ ?_ ?_
  ·rintro i e h' _ hi ⟨rfl,e1,e4,n,e3,n1,n2⟩ K' hn hx hr hp;have hv:xs.l[i]?=some xs.l[i]:=ep hi;generalize xs.l[i]=t at hv;have ht:=h3 t (ig hv);have hqt:aG .quo (.int .i64 (t.length:Int)) (.int .i64 20)=some (.int .i64 ((t.length/20:Nat):Int)):=M6 (a:=t.length) (b:=20) (by omega) ht;have hdt:t.length/20<=240000000000000000:=by omega
   rw [F.fQ.aT];simp only [e1,e3,e4,aR,reduceAdd,reduceEqDiff,reduceIte,aj g0,iI,bh hi];by_cases RO:n<10000
   ·have acw:=iF (a:=n) (b:=((t.length/20:Nat):Int)) (by omega) (by omega);simp only [fE RO,aL,e1,e4,aR,reduceAdd,reduceEqDiff,reduceIte,aj g0,iI,aW xs hi,jw hv,hqt,acw,aI hi h2];exact hn _ _ ⟨rfl,e1,rfl,_,rfl,by omega,by omega⟩
   ·simp only [eT RO,aJ];rw [hx,F.fQ.aF];simp only [bO,reduceEqDiff,reduceIte,e3];exact fin n _ n1 n2
  ·rintro e h' ⟨rfl,e1,e4,n,e3,n1,n2⟩ K' hx;rw [F.fQ.aT];simp only [e1,e4,aR,reduceAdd,reduceEqDiff,reduceIte,aj g0,iI,aX];rw [hx,F.fQ.aF];simp only [bO,reduceEqDiff,reduceIte,e3];exact fin n _ n1 n2
 have main:=gen (fun o h'=>yes (∃ n:Int,o = .ret (.int .i64 n)/\(xs.l.length:Int)<=n/\n<=5000000000000000000)) (fun n h' q1 q2=>cw.2 ⟨n,rfl,q1,q2⟩);refine main.frozen (by simp [AV.cL,AV.pure,cj kg]) fun o h' ho=>?_;obtain ⟨n,rfl,q1,q2⟩:=cw.1 ho;exact ⟨_,_,rfl,.scalar _ rfl,hK n q1 q2⟩
set_option maxHeartbeats 1000000 in
theorem LR{N:Int}(hN:N<=1500){rules:Sl aP}(lu:∀ r ∈ rules.l,r.ok)(hK:∀ b:Bool,(b=true->∀ r ∈ rules.l,r.mC)->K (.ret (.bool b)) h=true):Sem TP 41 [an aO 3 rules,.int .i64 N] h K:=by
 have gen:∀ R:Out->Heap->Bool,(∀ (b:Bool) h',(b=true->∀ r ∈ rules.l,r.mC)->R (.ret (.bool b)) h'=true)->Sem TP 41 [an aO 3 rules,.int .i64 N] Heap.empty R:=by
  intro R fin;refine F.EI ?_;rw [F.G9];simp only [aR,reduceAdd,reduceEqDiff,reduceIte];by_cases XW:70<rules.l.length
  ·simp only [fE (by omega:(70:Int)<(rules.l.length:Int)),aL];exact fin false _ (fun h=>by cases h)
  have hbig:rules.l.length<=cN:=by unfold cN;omega
  simp only [eT (by omega:¬ (70:Int)<(rules.l.length:Int)),aJ];refine aE 0 rules.l.length (zero_le _) (fun i e h'=>e 0=an aO 3 rules/\e 1 = .int .i64 N/\e 6 = .int .i64 (i:Int)/\∃ s:Int,e 5 = .int .i64 s/\0<=s/\s<=6000000000000000000/\(s<=N->∀ r ∈ rules.l.take i,r.mC)) ⟨rfl,rfl,rfl,0,rfl,by omega,by omega,fun _ r hr=>by simp at hr⟩ ?_ ?_
  ·rintro i e h' _ hi ⟨e0,e1,e6,s,e5,s0,s1,hs⟩ K' hn hx hr hp;have hv:rules.l[i]?=some rules.l[i]:=ep hi;generalize rules.l[i]=r at hv;have JK:=lu r (ig hv);have AO:=JK.2.2.2.1;have ld:∀ j,j<3->∀ h,ag none (.dN (rules.l.flatMap aO) (i*3+j)) h=(aO r)[j]?:=fun j hj h=>fL gE hv hj;have lh:∀ h,ag (some 2) (.dN (rules.l.flatMap aO) (i*3)) h=some (.agg [.str r.name,an encS 1 r.args]):=fun h=>J1 (k:=0) (n:=2) gE hv (by omega);rw [F.dJ.aT];simp only [e0,e1,e5,e6,aR,reduceAdd,reduceEqDiff,reduceIte,bh hi];by_cases hle:s<=N
   ·have Xl:=iF (a:=s) (b:=1) (by omega) (by omega);simp only [fE hle,aL,Xl,e0,e6,aR,reduceAdd,reduceEqDiff,reduceIte,aW rules hi,lh];refine ah (fQ JK.1 JK.2.1 JK.2.2.1 fun n n1 n2=>?_);have Xm:=iF (a:=s+1) (b:=n) (by omega) (by omega);simp only [aR,reduceAdd,reduceEqDiff,reduceIte,Xm]
    refine aE 0 r.body.l.length (zero_le _) (fun j e h'=>e 0=an aO 3 rules/\e 1 = .int .i64 N/\e 6 = .int .i64 (i:Int)/\e 7 = .int .i64 (j:Int)/\∃ s:Int,e 5 = .int .i64 s/\0<=s/\s<=6000000000000000000 /\
     (s<=N->(∀ r ∈ rules.l.take i,r.mC)/\r.args.l.length<=1500/\(j:Int)<=s/\∀ c ∈ r.body.l.take j,c.args.l.length<=1500)) ⟨e0,e1,e6,rfl,s+1+n,rfl,by omega,by omega,fun h=>⟨hs hle,by omega,by omega,fun c hc=>by simp at hc⟩⟩ ?_ ?_
    ·rintro j e h' _ hj ⟨e0,e1,e6,e7,s,e5,s0,s1,hs⟩ K2 pH gm rY F5;have hc:r.body.l[j]?=some r.body.l[j]:=ep hj;generalize r.body.l[j]=c at hc;have Js:=JK.2.2.2.2 c (ig hc);have lc:∀ h,ag (some 2) (.dN (r.body.l.flatMap bL) (j*4+2)) h=some (.agg [.str c.name,an encS 1 c.args]):=fun h=>J1 (k:=2) (n:=2) iB hc (by omega);rw [F.dJ.dr];simp only [e0,e1,e5,e6,e7,aR,reduceAdd,reduceEqDiff,reduceIte,aW rules hi,ld 2 (by omega),aO,bh hj];by_cases hle:s<=N
     ·have Xl:=iF (a:=s) (b:=1) (by omega) (by omega);simp only [fE hle,aL,Xl,e0,e6,e7,aR,reduceAdd,reduceEqDiff,reduceIte,aW rules hi,ld 2 (by omega),aO,aW r.body hj,lc];refine ah (fQ Js.1 Js.2.1 Js.2.2 fun n n1 n2=>?_);have Xm:=iF (a:=s+1) (b:=n) (by omega) (by omega);simp only [aR,reduceAdd,reduceEqDiff,reduceIte,Xm,aI hj AO];refine pH _ _ ⟨e0,e1,e6,rfl,s+1+n,rfl,by omega,by omega,fun h=>?_⟩;obtain ⟨q1,q2,q3,q4⟩:=hs hle;refine ⟨q1,q2,by omega,fun d hd=>?_⟩;rw [take_add_one,hc] at hd;rcases mem_append.1 hd with hd|hd
      ·exact q4 d hd
      ·simp only [toList_some,mem_singleton] at hd;subst hd;omega
     ·simp only [eT hle,aJ];rw [gm,F.dJ.cz];simp only [aR,reduceAdd,reduceEqDiff,reduceIte,e6,aI hi hbig];exact hn _ _ ⟨e0,e1,rfl,s,e5,s0,s1,fun h=>absurd h hle⟩
    ·rintro e h' ⟨e0,e1,e6,e7,s,e5,s0,s1,hs⟩ K2 gm;rw [F.dJ.dr];simp only [e0,e6,e7,aR,reduceAdd,reduceEqDiff,reduceIte,aW rules hi,ld 2 (by omega),aO,aX];rw [gm,F.dJ.cz];simp only [aR,reduceAdd,reduceEqDiff,reduceIte,e6,aI hi hbig];refine hn _ _ ⟨e0,e1,rfl,s,e5,s0,s1,fun h=>?_⟩;obtain ⟨q1,q2,q3,q4⟩:=hs h;rw [kC (dL _)] at q4;intro q hq;rw [take_add_one,hv] at hq;rcases mem_append.1 hq with hq|hq
     ·exact q1 q hq
     ·simp only [toList_some,mem_singleton] at hq;subst hq;exact ⟨q2,by omega,q4⟩
   ·simp only [eT hle,aJ];rw [hx,F.dJ.aF];simp only [aR,reduceAdd,reduceEqDiff,reduceIte,e1,e5];exact fin _ _ (fun h=>absurd (of_decide_eq_true h) hle)
  ·rintro e h' ⟨e0,e1,e6,s,e5,s0,s1,hs⟩ K' hx;rw [kC (dL _)] at hs;rw [F.dJ.aT];simp only [e0,e6,aR,reduceAdd,reduceEqDiff,reduceIte,aX];rw [hx,F.dJ.aF];simp only [aR,reduceAdd,reduceEqDiff,reduceIte,e1,e5];exact fin _ _ (fun h=>hs (of_decide_eq_true h))
 have main:=gen (fun o h'=>yes (∃ b:Bool,o = .ret (.bool b)/\(b=true->∀ r ∈ rules.l,r.mC))) (fun b h' hb=>cw.2 ⟨b,rfl,hb⟩);refine main.frozen (by simp [AV.cL,AV.pure,cj fR]) fun o h' ho=>?_;obtain ⟨b,rfl,hb⟩:=cw.1 ho;exact ⟨_,_,rfl,.scalar _ rfl,hK b hb⟩
theorem xE{x y:Sl (Sl Int)}(Vh:x.l.map Sl.l=y.l.map Sl.l)(hx:x.l.length<=cN)(ht:∀ t ∈ x.l,t.l.length<=cN)(hK:K (.ret (.bool true)) h=true):Sem TP 51 [an cX 1 x,an cX 1 y] h K:=by
 have hl:x.l.length=y.l.length:=by have:=congrArg List.length Vh;simpa using this
 refine F.tL ?_;rw [F.vJ];simp only [aR,reduceAdd,reduceEqDiff,reduceIte,hl,cA,decide_true,Bool.not_true,aJ];refine aE 0 x.l.length (zero_le _) (fun i e h'=>h'=h/\e 0=an cX 1 x/\e 1=an cX 1 y/\e 5 = .int .i64 (i:Int)) ⟨rfl,rfl,rfl,rfl⟩ ?_ ?_
 ·rintro i e h' _ hi ⟨rfl,e0,e1,e5⟩ K' hn fK hr hp;have hv:x.l[i]?=some x.l[i]:=ep hi;generalize x.l[i]=t at hv;have BR:i<y.l.length:=by omega
  have hw:y.l[i]?=some y.l[i]:=ep BR;generalize y.l[i]=u at hw
  have htu:t.l=u.l:=by
   have h1:(x.l.map Sl.l)[i]?=some t.l:=by rw [getElem?_map,hv];rfl
   rw [Vh,getElem?_map,hw] at h1;exact (Option.some.inj h1).symm
  rw [F.dU.aT];simp only [e0,e1,e5,aR,reduceAdd,reduceEqDiff,reduceIte,bh hi,aW x hi,aW y BR,ir hv,ir hw];refine ah (eD (ht t (ig hv)) ?_);rw [show (t.l==u.l)=true by rw [htu];simp];simp only [aR,reduceAdd,reduceEqDiff,reduceIte,Bool.not_true,aJ,e5,aI hi hx];exact hn _ _ ⟨rfl,e0,e1,rfl⟩
 ·rintro e h' ⟨rfl,e0,e1,e5⟩ K' fK;rw [F.dU.aT];simp only [e0,e5,aR,reduceAdd,reduceEqDiff,reduceIte,aX];rw [fK,F.dU.aF];exact hK
theorem HO(hz:a.size=b.size)(hd:a.aC.l.map bH=b.aC.l.map bH)(hs:a.small)(hK:∀ h',K (.ret (.bool true)) h'=true):Sem TP 16 [.agg (ak a),.agg (ak b)] h K:=by
 have hl:a.aC.l.length=b.aC.l.length:=by have:=congrArg List.length hd;simpa using this
 have pG:=hs.ok';refine F.De ?_;rw [F.EW];simp only [cT (bS a),cT (bS b),aq,Heap.aM];have g0:(Heap.alloc (Heap.alloc h (.cells (ak a))) (.cells (ak b))).get h.next=some (.cells (ak a)):=by rw [Heap.aV,Heap.aM,if_neg (by omega)];exact aA _ _
 have g1:(Heap.alloc (Heap.alloc h (.cells (ak a))) (.cells (ak b))).get (h.next+1)=some (.cells (ak b)):=aA _ _;have gn:(Heap.alloc (Heap.alloc h (.cells (ak a))) (.cells (ak b))).next=h.next+2:=rfl
 generalize (Heap.alloc (Heap.alloc h (.cells (ak a))) (.cells (ak b)))=H at g0 g1 gn ⊢;have lz:ag none (.ptr h.next 0) H=some (.int .i64 a.size):=by rw [aj g0];rfl
 have lz1:ag none (.ptr (h.next+1) 0) H=some (.int .i64 b.size):=by rw [aj g1];rfl
 have lr:ag none (.ptr h.next 1) H=some (an aQ 3 a.aC):=by rw [aj g0];rfl
 have lr1:ag none (.ptr (h.next+1) 1) H=some (an aQ 3 b.aC):=by rw [aj g1];rfl
 simp only [aR,reduceAdd,reduceEqDiff,reduceIte,lz,lz1,lr,lr1,hz,hl,cA,decide_true,Bool.not_true,aJ];refine aE 0 a.aC.l.length (zero_le _) (fun i e h'=>h'.get h.next=some (.cells (ak a))/\h'.get (h.next+1)=some (.cells (ak b))/\h.next+2<=h'.next/\e 2 = .ptr h.next 0/\e 3 = .ptr (h.next+1) 0/\e 5 = .int .i64 (i:Int)) ⟨g0,g1,by omega,rfl,rfl,rfl⟩ ?_ ?_
 ·rintro i e h' _ hi ⟨q0,q1,qn,e2,e3,e5⟩ K' hn fK hr hp;have hv:a.aC.l[i]?=some a.aC.l[i]:=ep hi;generalize a.aC.l[i]=r at hv;have BR:i<b.aC.l.length:=by omega
  have hw:b.aC.l[i]?=some b.aC.l[i]:=ep BR;generalize b.aC.l[i]=u at hw;have og:=ig hv
  have hru:bH r=bH u:=by
   have h1:(a.aC.l.map bH)[i]?=some (bH r):=by rw [getElem?_map,hv];rfl
   rw [hd,getElem?_map,hw] at h1;exact (Option.some.inj h1).symm
  unfold bH at hru;simp only [Prod.mk.injEq] at hru;have lr:ag none (.ptr h.next 1) h'=some (an aQ 3 a.aC):=by rw [aj q0];rfl
  have lr1:ag none (.ptr (h.next+1) 1) h'=some (an aQ 3 b.aC):=by rw [aj q1];rfl
  have la:∀ hh,ag (some 3) (.dN (a.aC.l.flatMap aQ) (i*3)) hh=some (.agg (aQ r)):=fun hh=>dm dQ hv;have lb:∀ hh,ag (some 3) (.dN (b.aC.l.flatMap aQ) (i*3)) hh=some (.agg (aQ u)):=fun hh=>dm dQ hw;have y0:((h'.alloc (.cells [.str [],.int .i64 0,.ax])).alloc (.cells [.str [],.int .i64 0,.ax])).get h'.next=some (.cells [.str [],.int .i64 0,.ax]):=by rw [Heap.aV,Heap.aM,if_neg (by omega)];exact aA _ _
  have y1:((h'.alloc (.cells [.str [],.int .i64 0,.ax])).alloc (.cells [.str [],.int .i64 0,.ax])).get (h'.next+1)=some (.cells [.str [],.int .i64 0,.ax]):=aA _ _;have yx:bu h' ((h'.alloc (.cells [.str [],.int .i64 0,.ax])).alloc (.cells [.str [],.int .i64 0,.ax])):=(bu.alloc _ _).trans (bu.alloc _ _);have yn:((h'.alloc (.cells [.str [],.int .i64 0,.ax])).alloc (.cells [.str [],.int .i64 0,.ax])).next=h'.next+2:=rfl
  rw [F.iO.aT];simp only [e2,e3,e5,aR,reduceAdd,reduceEqDiff,reduceIte,lr,lr1,bh hi,aW a.aC hi,aW b.aC BR,la,lb,Heap.aM];generalize ((h'.alloc (.cells [.str [],.int .i64 0,.ax])).alloc (.cells [.str [],.int .i64 0,.ax]))=Y at y0 y1 yx yn ⊢;have acz:∀ (v:Rel),ee [.str [],.int .i64 0,.ax] 0 (aQ v)=aQ v:=fun v=>by obtain ⟨nm,k,t⟩:=v;rfl
  have WI:aS 3 (.ptr h'.next 0) (.agg (aQ r)) Y=some (Y.set h'.next (.cells (aQ r))):=by
   rw [cq (n:=3) (v:=.agg (aQ r)) y0 (dQ r) (fT r) (by simp)];show some (Y.set h'.next (.cells (ee [.str [],.int .i64 0,.ax] 0 (aQ r))))=_;rw [acz]
  have z1:(Y.set h'.next (.cells (aQ r))).get (h'.next+1)=some (.cells [.str [],.int .i64 0,.ax]):=by rw [Heap.aK,if_neg (by omega)];exact y1
  have zq1:(Y.set h'.next (.cells (aQ r))).get (h.next+1)=some (.cells (ak b)):=by rw [Heap.aK,if_neg (by omega),yx.get _ (by omega)];exact q1
  have afx:ag none (.ptr (h.next+1) 1) (Y.set h'.next (.cells (aQ r)))=some (an aQ 3 b.aC):=by rw [aj zq1];rfl
  have TR:aS 3 (.ptr (h'.next+1) 0) (.agg (aQ u)) (Y.set h'.next (.cells (aQ r)))=some ((Y.set h'.next (.cells (aQ r))).set (h'.next+1) (.cells (aQ u))):=by
   rw [cq (n:=3) (v:=.agg (aQ u)) z1 (dQ u) (fT u) (by simp)];show some ((Y.set h'.next (.cells (aQ r))).set (h'.next+1) (.cells (ee [.str [],.int .i64 0,.ax] 0 (aQ u))))=_;rw [acz]
  simp only [WI,aq,afx,AV.beq_refl,Bool.and_self,if_true,TR];have w0:((Y.set h'.next (.cells (aQ r))).set (h'.next+1) (.cells (aQ u))).get h'.next=some (.cells (aQ r)):=by rw [Heap.aK,if_neg (by omega),Heap.aK,if_pos rfl]
  have w1:((Y.set h'.next (.cells (aQ r))).set (h'.next+1) (.cells (aQ u))).get (h'.next+1)=some (.cells (aQ u)):=by rw [Heap.aK,if_pos rfl]
  have wx:∀ b,b<h'.next->((Y.set h'.next (.cells (aQ r))).set (h'.next+1) (.cells (aQ u))).get b=h'.get b:=fun b hb=>by rw [Heap.aK,if_neg (by omega),Heap.aK,if_neg (by omega)];exact yx.get b hb
  have wn:((Y.set h'.next (.cells (aQ r))).set (h'.next+1) (.cells (aQ u))).next=h'.next+2:=by rw [Heap.bl,Heap.bl];exact yn
  generalize ((Y.set h'.next (.cells (aQ r))).set (h'.next+1) (.cells (aQ u)))=W at w0 w1 wx wn ⊢;have k0:ag none (.ptr h'.next 0) W=some (.str r.name):=by rw [aj w0];rfl
  have k1:ag none (.ptr h'.next 1) W=some (.int .i64 r.arity):=by rw [aj w0];rfl
  have k2:ag none (.ptr h'.next 2) W=some (an cX 1 r.aN):=by rw [aj w0];rfl
  have j0:ag none (.ptr (h'.next+1) 0) W=some (.str u.name):=by rw [aj w1];rfl
  have j1:ag none (.ptr (h'.next+1) 1) W=some (.int .i64 u.arity):=by rw [aj w1];rfl
  have j2:ag none (.ptr (h'.next+1) 2) W=some (an cX 1 u.aN):=by rw [aj w1];rfl
  simp only [aR,reduceAdd,reduceEqDiff,reduceIte,k0,k1,k2,j0,j1,j2,hru.1,hru.2.1,beq_self_eq_true,Bool.not_true,aJ];refine ah (xE hru.2.2 (by have:=hs.Fj r og;unfold cN;omega) (fun t ht=>by have:=hs.X5 r og t ht;unfold cN;omega) ?_);simp only [aR,reduceAdd,reduceEqDiff,reduceIte,Bool.not_true,aJ,e5,aI hi pG];exact hn _ _ ⟨by rw [wx _ (by omega)];exact q0,by rw [wx _ (by omega)];exact q1,by omega,e2,e3,rfl⟩
 ·rintro e h' ⟨q0,q1,qn,e2,e3,e5⟩ K' fK;have lr:ag none (.ptr h.next 1) h'=some (an aQ 3 a.aC):=by rw [aj q0];rfl
  rw [F.iO.aT];simp only [e2,e5,aR,reduceAdd,reduceEqDiff,reduceIte,lr,aX];rw [fK,F.iO.aF];exact hK h'
theorem Rb(s:cM):gd [.int .i64 0,.ax] [(0,2)] [.agg (ak s)]=some (ak s):=by
 obtain ⟨z,r⟩:=s;cases r<;>rfl
theorem cR{rules:Sl aP}{s:cM}{N:Int}(lu:∀ r ∈ rules.l,r.ok)(lU:s.ok){h:Heap}{K:Out->Heap->Bool}(hK:∀ b:Bool,(b=true->∀ r ∈ rules.l,r.mC)->K (.ret (.bool b)) h=true) :
  Sem TP 10 [an aO 3 rules,.agg (ak s),.int .i64 N] h K:=by
 have gen:∀ R:Out->Heap->Bool,(∀ (b:Bool) h',(b=true->∀ r ∈ rules.l,r.mC)->R (.ret (.bool b)) h'=true)->Sem TP 10 [an aO 3 rules,.agg (ak s),.int .i64 N] Heap.empty R:=by
  intro R fin;refine F.Bv ?_;rw [F.Df];simp only [cT (bS s),aq,bU];have g0:(Heap.empty.alloc (.cells (ak s))).get 0=some (.cells (ak s)):=aA _ _;have gn:(Heap.empty.alloc (.cells (ak s))).next=1:=rfl
  generalize (Heap.empty.alloc (.cells (ak s)))=H at g0 gn ⊢;refine ah (LR (by omega) lu fun b hb=>?_);simp only [aR,reduceAdd,reduceEqDiff,reduceIte]
  cases b with
  |false=>
   simp only [Bool.not_false,aL];exact fin false _ (fun h=>by cases h)
  |true=>
  have jN:=hb rfl;have l0:ag (some 2) (.ptr 0 0) H=some (.agg (ak s)):=by rw [aj g0,bV (cs:=ak s) (n:=2) rfl]
  have g1:(H.alloc (.cells (ak s))).get H.next=some (.cells (ak s)):=aA _ _
  have TN:(H.alloc (.cells (ak s))).get 0=some (.cells (ak s)):=by rw [Heap.aV,if_neg (by omega)];exact g0
  simp only [Bool.not_true,aJ,l0,aq,Rb];generalize (H.alloc (.cells (ak s)))=H2 at g1 TN ⊢;refine ah (bZ lU g1 fun b=>?_);simp only [aR,reduceAdd,reduceEqDiff,reduceIte]
  cases b with
  |false=>
   simp only [Bool.not_false,aL];exact fin false _ (fun h=>by cases h)
  |true=>
  have Xd:ag (some 2) (.ptr 0 0) H2=some (.agg (ak s)):=by rw [aj TN,bV (cs:=ak s) (n:=2) rfl]
  simp only [Bool.not_true,aJ,Xd,aq];refine ah (bG lu jN lU (fun e he=>?_) fun ho=>?_)
  ·have hne:e≠0:=by
    rcases he with ⟨_,rfl⟩|⟨_,_,⟨_,rfl⟩|⟨_,_,rfl⟩⟩<;>omega
   simp only [aR,reduceAdd,reduceEqDiff,reduceIte,cA,eT hne,Bool.not_false,aL];exact fin true _ (fun _=>jN)
  ·obtain ⟨n,hn,n1,xG,h8⟩:=jA ho.valid;have u6:s.size.toNat=n:=by omega
   have QE:rules.l.length<=cN:=by have:=ho.fP.mC;unfold cN;omega
   have VY:∀ r ∈ rules.l,n ^ (varsOf r).length<=65536:=fun r hr=>Nat.le_of_not_lt fun h=>ho.AZ (.inr (.inr ⟨r,hr,by rw [u6];exact h⟩));simp only [aR,reduceAdd,reduceEqDiff,reduceIte,cA,decide_true,Bool.not_true,aJ];refine aE 0 rules.l.length (zero_le _) (fun i e h'=>h'=H2/\∃ q:Nat,q<=i*65536/\e 0=an aO 3 rules/\e 2 = .int .i64 N/\e 4 = .ptr 0 0/\e 7 = .int .i64 (q:Int)/\e 8 = .int .i64 (i:Int)) ⟨rfl,0,by omega,rfl,rfl,rfl,rfl,rfl⟩ ?_ ?_
   ·rintro i e h' _ hi ⟨rfl,q,hq,e0,e2,e4,e7,e8⟩ K' A4 hx hr hp;have hv:rules.l[i]?=some rules.l[i]:=ep hi;generalize rules.l[i]=r at hv;have og:=ig hv;have akM:=VY r og;have sJ:=ho.fP.mC;obtain ⟨m,jL⟩:=ho.fP.go;have abY:=(ji jL r og).2.2;have Vu:(varsOf r).length<=cN:=by unfold cN;omega
    have lz:ag none (.ptr 0 0) h'=some (.int .i64 (n:Int)):=(by rw [aj TN,<- hn];rfl);rw [F.cR.aT];simp only [e0,e8,aR,reduceAdd,reduceEqDiff,reduceIte,bh hi];refine aE 0 (varsOf r).length (zero_le _) (fun j e h2=>h2=h'/\e 0=an aO 3 rules/\e 2 = .int .i64 N/\e 4 = .ptr 0 0/\e 7 = .int .i64 (q:Int)/\e 8 = .int .i64 (i:Int)/\e 9 = .int .i64 ((n ^ j:Nat):Int)/\e 10 = .int .i64 (j:Int)) ⟨rfl,e0,e2,e4,e7,e8,rfl,rfl⟩ ?_ ?_
    ·rintro j e h2 _ hj ⟨rfl,e0,e2,e4,e7,e8,e9,kM⟩ K2 Un gm rY F5;have wI:n ^ (j+1)=n ^ j*n:=Nat.pow_succ n j;have hle:=xz n1 (show j+1<=(varsOf r).length by omega);have hm:((n ^ j:Nat):Int)*(n:Int)=((n ^ (j+1):Nat):Int):=by rw [wI,Int.natCast_mul]
     have hmm:aG .mul (.int .i64 ((n ^ j:Nat):Int)) (.int .i64 (n:Int))=some (.int .i64 ((n ^ (j+1):Nat):Int)):=(by rw [uL (by rw [hm];omega) (by rw [hm];omega),hm]);rw [F.cR.dr];simp only [e0,e8,aR,reduceAdd,reduceEqDiff,reduceIte,aW rules hi,dm gE hv];simp only [aO];refine ah (bM (jN r og) fun x jO=>?_);simp only [aR,reduceAdd,reduceEqDiff,reduceIte,jO,e4,e9,kM,bh hj,aL,lz,hmm,aI hj Vu];exact Un _ _ ⟨rfl,e0,e2,e4,e7,e8,rfl,rfl⟩
    ·rintro e h2 ⟨rfl,e0,e2,e4,e7,e8,e9,kM⟩ K2 gm
     have Dr:aG .add (.int .i64 (q:Int)) (.int .i64 ((n ^ (varsOf r).length:Nat):Int))=some (.int .i64 ((q+n ^ (varsOf r).length:Nat):Int)):=by
      rw [iF (by omega) (by omega)];rfl
     rw [F.cR.dr];simp only [e0,e8,aR,reduceAdd,reduceEqDiff,reduceIte,aW rules hi,dm gE hv];simp only [aO];refine ah (bM (jN r og) fun x jO=>?_);simp only [aR,reduceAdd,reduceEqDiff,reduceIte,jO,kM,aX,aJ];rw [gm,F.cR.cz];simp only [aR,reduceAdd,reduceEqDiff,reduceIte,e7,e8,e9,Dr,aI hi QE];exact A4 _ _ ⟨rfl,q+n ^ (varsOf r).length,by rw [succ_mul];omega,e0,e2,e4,rfl,rfl⟩
   ·rintro e h' ⟨rfl,q,hq,e0,e2,e4,e7,e8⟩ K' hx;rw [F.cR.aT];simp only [e0,e8,aR,reduceAdd,reduceEqDiff,reduceIte,aX];rw [hx,F.cR.aF];simp only [aR,reduceAdd,reduceEqDiff,reduceIte,e2,e7];exact fin _ _ (fun _=>jN)
 have main:=gen (fun o h'=>yes (∃ b:Bool,o = .ret (.bool b)/\(b=true->∀ r ∈ rules.l,r.mC))) (fun b h' hb=>cw.2 ⟨b,rfl,hb⟩);refine main.frozen (by simp [AV.cL,AV.pure,cj fR,eu]) fun o h' ho=>?_;obtain ⟨b,rfl,hb⟩:=cw.1 ho;exact ⟨_,_,rfl,.scalar _ rfl,hK b hb⟩
theorem vj{e:Int}(h:DU rs s e):e≠0/\¬ eX rs s:=by
 rcases h with ⟨a,rfl⟩|⟨g,v,⟨a,rfl⟩|⟨a,b,rfl⟩⟩
 ·exact ⟨by omega,fun h=>a.elim (fun h'=>h' h.fP) fun h'=>by rw [h.valid] at h';cases h'⟩
 ·exact ⟨by omega,fun h=>h.names a⟩
 ·exact ⟨by omega,fun h=>h.AZ b⟩
theorem OA{Fk:Lk}(ho:eX rs s)(hd:out.aC.l.map bH=s.aC.l.map bH++xA rs s.size.toNat Fk (eG rs)):out.small:=by
 have hs:=(eo ho.valid).1;obtain ⟨m,jL⟩:=ho.fP.go;have sJ:=ho.fP.mC;have hdl:=oY rs
 have key:∀ r ∈ out.aC.l,(∃ p ∈ s.aC.l,p.aN.l.map Sl.l=r.aN.l.map Sl.l)\/∃ nm ∈ eG rs,r.aN.l.map Sl.l=yV s.size.toNat Fk nm (qp rs nm) (s.size.toNat ^ qp rs nm):=fun r hr=>by
  have h1:bH r ∈ s.aC.l.map bH++xA rs s.size.toNat Fk (eG rs):=by rw [<- hd];exact List.mem_map_of_mem hr
  rcases mem_append.1 h1 with h1|h1
  ·obtain ⟨p,hp,e⟩:=mem_map.1 h1;unfold bH at e;simp only [Prod.mk.injEq] at e;exact .inl ⟨p,hp,e.2.2⟩
  ·obtain ⟨nm,xI,e⟩:=mem_map.1 h1;unfold bH at e;simp only [Prod.mk.injEq] at e;exact .inr ⟨nm,xI,e.2.2.symm⟩
 have Uk:∀ nm ∈ eG rs,qp rs nm<=12/\s.size.toNat ^ qp rs nm<=4096:=fun nm xI=>by
  obtain ⟨_,r,hr,_,ha⟩:=B2 jL ((fS rs).1 xI);rw [ha];exact ⟨ox (ji jL r hr).1,Nat.le_of_not_lt fun h=>ho.AZ (.inr (.inl ⟨r,hr,h⟩))⟩
 refine ⟨?_,fun r hr=>?_,fun r hr t ht=>?_⟩
 ·have h1:=congrArg List.length hd;rw [length_map,length_append,length_map] at h1;unfold xA at h1;rw [length_map] at h1;have h2:¬ 8<s.aC.l.length+(eG rs).length:=fun h=>ho.AZ (.inl h);omega
 ·rcases key r hr with ⟨p,hp,e⟩|⟨nm,xI,e⟩
  ·have h1:=congrArg List.length e;simp only [length_map] at h1;have:=hs.Fj p hp;omega
  ·have h1:=congrArg List.length e;rw [length_map] at h1;have h2:=JR s.size.toNat Fk nm (qp rs nm) (s.size.toNat ^ qp rs nm);have:=(Uk nm xI).2;omega
 ·rcases key r hr with ⟨p,hp,e⟩|⟨nm,xI,e⟩
  ·have h1:t.l ∈ p.aN.l.map Sl.l:=by rw [e];exact List.mem_map_of_mem ht
   obtain ⟨u,hu,WW⟩:=mem_map.1 h1;rw [<- WW];exact hs.X5 p hp u hu
  ·have h1:t.l ∈ yV s.size.toNat Fk nm (qp rs nm) (s.size.toNat ^ qp rs nm):=by rw [<- e];exact List.mem_map_of_mem ht
   unfold yV at h1;obtain ⟨i,_,hi⟩:=mem_map.1 h1;rw [<- hi,uo];have:=(Uk nm xI).1;omega
theorem Rc{u:List Int}:u ∈ yV n L nm k N↔∃ i,i<N/\L nm i=true/\u=nP n k i:=by
 unfold yV;rw [mem_map];constructor
 ·rintro ⟨i,hi,rfl⟩;rw [mem_filter,mem_range] at hi;exact ⟨i,hi.1,hi.2,rfl⟩
 ·rintro ⟨i,h1,h2,rfl⟩;exact ⟨i,mem_filter.2 ⟨mem_range.2 h1,h2⟩,rfl⟩
theorem OB(n1:1<=n)(hj:j<n ^ k)(hij:i<j):dg (nP n k i) (nP n k j)=true:=by
 obtain ⟨a1,a2⟩:=HG n1 (show i<n ^ k by omega);obtain ⟨b1,b2⟩:=HG n1 hj
 cases h:dg (nP n k i) (nP n k j) with
 |true=>rfl
 |false=>
  have hl:(nP n k i).length=(nP n k j).length:=by rw [uo,uo]
  have hne:nP n k i≠nP n k j:=fun e=>by rw [e,b2] at a2;omega
  have:=Gj hl.symm b1 a1 (Ab hl h hne);omega
theorem Re(n1:1<=n)(L:Lk)(nm:b6)(k:Nat):Uq n k (yV n L nm k (n ^ k)):=by
 refine ⟨fun u hu=>?_,?_⟩
 ·obtain ⟨i,hi,_,rfl⟩:=Rc.1 hu;exact ⟨uo _ _ _,(HG n1 hi).1⟩
 ·unfold iR yV;rw [pairwise_map];refine (List.Pairwise.filter _ ?_);refine List.Pairwise.imp_of_mem ?_ (pairwise_lt_range (n:=n ^ k));intro a b _ hb pG;exact OB n1 (mem_range.1 hb) pG
section
variable {rs:List aP} {s out:cM} {n:Nat} {m:eF} {L:Lk}
theorem Uu(hd:out.aC.l.map bH=s.aC.l.map bH++xA rs n L (eG rs)):(out.aC.l.map bH).map ku=(s.aC.l.map bH++lD rs (eG rs)).map ku:=by
 rw [hd,map_append,map_append];unfold xA lD;congr 1;rw [List.map_map,List.map_map];rfl
theorem OC(ho:eX rs s)(jL:dS rs []=some m)(hn:s.size=(n:Int))(hz:out.size=s.size)(hd:out.aC.l.map bH=s.aC.l.map bH++xA rs n L (eG rs)):cG out=true:=by
 have hE:=Xe (rs':=s.aC.l++pq rs (eG rs)) ho jL (by rw [map_append,xD]);rw [map_append,xD] at hE;have DY:=Uu hd;have n1:1<=n:=by have:=hE.lo;omega
 have u6:s.size.toNat=n:=by omega
 rw [eS,hz];have xI:∀ l:List NU,l.map (·.1)=(l.map ku).map (·.1):=fun l=>by rw [List.map_map];rfl
 refine ⟨hE.lo,hE.hi,?_,fun d Ra=>?_,?_⟩
 ·have:=congrArg List.length DY;simp only [length_map] at this;have h8:=hE.mC;rw [length_map];omega
 ·rw [hd] at Ra;rcases mem_append.1 Ra with Ra|Ra
  ·exact hE.rel d (mem_append_left _ Ra)
  ·obtain ⟨nm,xI,rfl⟩:=mem_map.1 Ra;obtain ⟨q0,k,q1,q2,q3,_⟩:=hE.rel (nm,(qp rs nm:Int),[]) (mem_append_right _ (mem_map.2 ⟨nm,xI,rfl⟩));have q1':(qp rs nm:Int)=(k:Int):=q1;obtain rfl:qp rs nm=k:=by omega
   rw [u6] at q3 ⊢;exact ⟨q0,_,rfl,q2,q3,Re n1 L nm _⟩
 ·rw [xI,DY,<- xI];exact hE.names
set_option maxHeartbeats 1000000 in
end
structure mA (rs:List aP) (s out:cM):Prop where
 size:out.size=s.size
 fin:∃ Fk,mX rs s.size.toNat s Fk/\out.aC.l.map bH=s.aC.l.map bH++xA rs s.size.toNat Fk (eG rs)
theorem Gx{n:Nat}:∀ {x y:List (Sl Int)} (d:List Bool),x.map Sl.l=y.map Sl.l->oV n x d=oV n y d
 |[],[],d,_=>rfl
 |t :: x,u :: y,d,h=>by
  simp only [map_cons,List.cons.injEq] at h;simp only [oV,h.1];exact Gx _ h.2
 |[],_ :: _,_,h=>by simp at h
 |_ :: _,[],_,h=>by simp at h
theorem OD{x y:List (Sl Int)}(h:x.map Sl.l=y.map Sl.l):bitsOf n k x=bitsOf n k y:=by
 unfold bitsOf;exact Gx _ h
theorem J2{nm:b6}:∀ {l m:List Rel},l.map bH=m.map bH->(l.find? (fU nm)).map bH=(m.find? (fU nm)).map bH
 |[],[],_=>rfl
 |q :: l,u :: m,h=>by
  simp only [map_cons,List.cons.injEq] at h
  have hn:fU nm q=fU nm u:=by
   have:q.name=u.name:=congrArg (·.1) h.1;simp only [fU,this]
  rw [find?_cons,find?_cons,hn]
  cases fU nm u with
  |true=>simp [h.1]
  |false=>exact J2 h.2
 |[],_ :: _,h=>by simp at h
 |_ :: _,[],h=>by simp at h
theorem DZ{t:cM}(h:s.aC.l.map bH=t.aC.l.map bH):z7 n s=z7 n t:=by
 funext nm k;have:=J2 (nm:=nm) h;unfold z7
 cases h1:s.aC.l.find? (fU nm) with
 |none=>
  cases h2:t.aC.l.find? (fU nm) with
  |none=>rfl
  |some u=>rw [h1,h2] at this;simp at this
 |some q=>
  cases h2:t.aC.l.find? (fU nm) with
  |none=>rw [h1,h2] at this;simp at this
  |some u=>
   rw [h1,h2] at this;simp only [map_some,Option.some.injEq] at this;have e1:q.arity=u.arity:=congrArg (·.2.1) this;have e2:q.aN.l.map Sl.l=u.aN.l.map Sl.l:=congrArg (·.2.2) this;show (bitsOf n q.arity.toNat q.aN.l).getD k false=(bitsOf n u.arity.toNat u.aN.l).getD k false;rw [e1,OD e2]
theorem mA.det{t:cM}(ha:mA rs s a)(hb:mA rs t b)(hz:s.size=t.size)(hd:s.aC.l.map bH=t.aC.l.map bH):a.size=b.size/\a.aC.l.map bH=b.aC.l.map bH:=by
 obtain ⟨z1,F,f1,f2⟩:=ha;obtain ⟨z2,G,g1,g2⟩:=hb;refine ⟨by rw [z1,z2,hz],?_⟩;rw [<- hz] at g1 g2
 have g1':mX rs s.size.toNat s G:=by
  unfold mX at g1 ⊢
  rwa [DZ hd]
 obtain rfl:=f1.unique g1';rw [f2,g2,hd]
theorem yY{t:cM}(h:(t.aC.l.map bH).map ku=(s.aC.l.map bH).map ku){x:Rel}(hx:x ∈ t.aC.l):∃ y ∈ s.aC.l,y.name=x.name/\y.arity=x.arity:=by
 have h1:ku (bH x) ∈ (t.aC.l.map bH).map ku:=List.mem_map_of_mem (List.mem_map_of_mem hx);rw [h] at h1;obtain ⟨d,hd,e⟩:=mem_map.1 h1;obtain ⟨y,hy,rfl⟩:=mem_map.1 hd;exact ⟨y,hy,congrArg (·.1) e,congrArg (·.2) e⟩
theorem D2{t:cM}(ho:eX rs s)(hv:cG t=true)(hz:t.size=s.size)(h:(t.aC.l.map bH).map ku=(s.aC.l.map bH).map ku):eX rs t:=by
 refine ⟨ho.fP,hv,fun h4=>ho.names ?_,fun h5=>ho.AZ ?_⟩
 ·rcases h4 with ⟨p,hp,hn,hf⟩|⟨r,hr,hn⟩
  ·refine .inl ⟨p,hp,hn,?_⟩;rw [find?_eq_none] at hf ⊢;intro y hy hs;obtain ⟨x,hx,e1,e2⟩:=yY h.symm hy;refine hf x hx ?_;simp only [gv] at hs ⊢;rw [e1,e2];exact hs
  ·obtain ⟨y,hy,e1,_⟩:=yY h hr;exact .inr ⟨y,hy,by rw [e1];exact hn⟩
 ·have hl:t.aC.l.length=s.aC.l.length:=by have:=congrArg List.length h;simpa using this
  unfold M0 at h5 ⊢;rw [hl,hz] at h5;exact h5
theorem LS(ho:eX rs s)(hr:s.aC.l[j]?=some r)(hk:r.arity=(t.length:Int))(hb:jC s.size t=true)(hp:pK s j r t is s'):eX rs s':=by
 obtain ⟨n,hn,n1,_⟩:=jA ho.valid;refine D2 ho (Gv ho.valid hr hk rfl ?_ hp) hp.size (vi hr hp);have:((s.size.toNat:Nat):Int)=s.size:=by rw [hn];simp
 rw [this];exact hb
theorem mA.valid{rs:List aP}{s out:cM}(ho:eX rs s)(h:mA rs s out):cG out=true:=by
 obtain ⟨n,hn,n1,_⟩:=jA ho.valid;obtain ⟨m,jL⟩:=ho.fP.go;obtain ⟨hz,F,_,hd⟩:=h;have e:s.size.toNat=n:=by rw [hn];simp
 rw [e] at hd;exact OC ho jL hn hz hd
theorem mA.small{rs:List aP}{s out:cM}(ho:eX rs s)(h:mA rs s out):out.small:=by
 obtain ⟨hz,F,_,hd⟩:=h;exact OA ho hd
theorem mA.sig{t:cM}(ha:mA rs s a)(hb:mA rs t b)(h:(t.aC.l.map bH).map ku=(s.aC.l.map bH).map ku):(b.aC.l.map bH).map ku=(a.aC.l.map bH).map ku:=by
 obtain ⟨_,F,_,f2⟩:=ha;obtain ⟨_,G,_,g2⟩:=hb;rw [f2,g2,map_append,map_append,h];congr 1;unfold xA;rw [List.map_map,List.map_map];rfl
theorem M7(ha:cG a=true)(hb:cG b=true)(h:(b.aC.l.map bH).map ku=(a.aC.l.map bH).map ku) :
  a.aC.l.length<=b.aC.l.length/\∀ (i:Nat) (q u:Rel),a.aC.l[i]?=some q->b.aC.l[i]?=some u->(∀ t ∈ q.aN.l,∀ w ∈ u.aN.l,w.l.length=t.l.length)/\iR (u.aN.l.map Sl.l):=by
 have hl:b.aC.l.length=a.aC.l.length:=by have:=congrArg List.length h;simpa using this
 refine ⟨by omega,fun i q u hq hu=>?_⟩
 have e:ku (bH u)=ku (bH q):=by
  have:=congrArg (·[i]?) h;simp only [getElem?_map,hq,hu,map_some,Option.some.injEq] at this;exact this
 have ea:u.arity=q.arity:=congrArg (·.2) e;obtain ⟨_,k,k1,_,_,kt⟩:=(eS.1 ha).rel _ (List.mem_map_of_mem (ig hq));obtain ⟨_,m,m1,_,_,mt⟩:=(eS.1 hb).rel _ (List.mem_map_of_mem (ig hu));have k1:q.arity=(k:Int):=k1;have m1:u.arity=(m:Int):=m1;refine ⟨fun t ht w hw=>?_,mt.2⟩;rw [(kt.1 _ (List.mem_map_of_mem ht)).1,(mt.1 _ (List.mem_map_of_mem hw)).1];omega
def lN(rs:Sl aP)(s all:cM)(dn:AV):List AV:=[an aO 3 rs,.int .i64 s.size,an aQ 3 s.aC,.int .i64 all.size,an aQ 3 all.aC,dn]
structure eA (rs:Sl aP) (N:Nat) (h:Heap) (s all:cM) (dn:AV):Prop where
 lt:N<h.next
 get:h.get N=some (.cells (lN rs s all dn))
theorem eA.agree{rs:Sl aP}{all:cM}(x:eA rs N h s all dn)(hg:h'.get N=h.get N)(hn:h.next<=h'.next):eA rs N h' s all dn:=⟨Nat.lt_of_lt_of_le x.lt hn,by rw [hg];exact x.get⟩
theorem eA.ext{rs:Sl aP}{all:cM}(x:eA rs N h s all dn)(e:bu h h'):eA rs N h' s all dn:=x.agree (e.get N x.lt) e.next
theorem eA.base{rs:Sl aP}{all:cM}(x:eA rs N h s all dn):ag (some 2) (.ptr N 1) h=some (.agg (ak s)):=by rw [aj x.get];rfl
theorem eA.all{rs:Sl aP}{N:Nat}{h:Heap}{s all:cM}{dn:AV}(x:eA rs N h s all dn):ag (some 2) (.ptr N 3) h=some (.agg (ak all)):=by rw [aj x.get];rfl
theorem eA.rules{rs:Sl aP}{all:cM}(x:eA rs N h s all dn):ag none (.ptr N 0) h=some (an aO 3 rs):=by rw [aj x.get];rfl
theorem eA.size{rs:Sl aP}{N:Nat}{h:Heap}{s all:cM}{dn:AV}(x:eA rs N h s all dn):ag none (.ptr N 1) h=some (.int .i64 s.size):=by rw [aj x.get];rfl
theorem eA.done{rs:Sl aP}{all:cM}(x:eA rs N h s all dn):ag none (.ptr N 5) h=some dn:=by rw [aj x.get];rfl
theorem eA.Uv{rs:Sl aP}{all:cM}(x:eA rs N h s all dn)(s':cM):aS 2 (.ptr N 1) (.agg (ak s')) h=some (h.set N (.cells (lN rs s' all dn)))/\eA rs N (h.set N (.cells (lN rs s' all dn))) s' all dn:=
 ⟨by rw [cq (n:=2) (v:=.agg (ak s')) x.get rfl (bS s') (by simp [lN])];rfl,by rw [Heap.bl];exact x.lt,by rw [Heap.aK,if_pos rfl]⟩
theorem eA.Xn{rs:Sl aP}{all:cM}(x:eA rs N h s all dn)(a':cM):aS 2 (.ptr N 3) (.agg (ak a')) h=some (h.set N (.cells (lN rs s a' dn)))/\eA rs N (h.set N (.cells (lN rs s a' dn))) s a' dn:=
 ⟨by rw [cq (n:=2) (v:=.agg (ak a')) x.get rfl (bS a') (by simp [lN])];rfl,by rw [Heap.bl];exact x.lt,by rw [Heap.aK,if_pos rfl]⟩
theorem eA.Uw{rs:Sl aP}{all:cM}(x:eA rs N h s all dn)(h1:d.dz = [d])(h2:bw [d]=true):aS 1 (.ptr N 5) d h=some (h.set N (.cells (lN rs s all d)))/\eA rs N (h.set N (.cells (lN rs s all d))) s all d:=
 ⟨by rw [cq (n:=1) (v:=d) x.get (by rw [h1];rfl) (by rw [h1];exact h2) (by simp [lN]),h1];rfl,by rw [Heap.bl];exact x.lt,by rw [Heap.aK,if_pos rfl]⟩
structure D3 (N:Nat) (h h':Heap):Prop where
 next:h.next<=h'.next
 get:∀ b,b<h.next->b≠N->h'.get b=h.get b
theorem D3.set{N:Nat}{h h':Heap}(x:D3 N h h')(o:j5):D3 N h (h'.set N o):=⟨by rw [Heap.bl];exact x.next,fun b hb hn=>by rw [Heap.aK,if_neg hn];exact x.get b hb hn⟩
theorem bu.but(x:bu h h')(N:Nat):D3 N h h':=⟨x.next,fun b hb _=>x.get b hb⟩
theorem D3.trans{a b c:Heap}(x:D3 N a b)(y:D3 N b c):D3 N a c:=⟨Nat.le_trans x.next y.next,fun i hi hn=>by rw [y.get i (Nat.lt_of_lt_of_le hi x.next) hn,x.get i hi hn]⟩
set_option maxHeartbeats 1000000 in
theorem Rf{rs:Sl aP}{all:cM}(x:eA rs N h s all dn)(lu:∀ r ∈ rs.l,r.ok)(jN:∀ r ∈ rs.l,r.mC)(ho:eX rs.l s)(hp:mA rs.l s all)
  {t:Sl Int} (hj:jb (gv nm (t.l.length:Int)) s.aC.l=(j:Int)) (hr:s.aC.l[j]?=some r) (OT:r.arity=(t.l.length:Int)) (hin:jC s.size t.l=true)
  (hK:∀ (s' D5:cM) h' (f g:Sl mY),pK s j r t.l is s'->eX rs.l s'->mA rs.l s' D5->eA rs N h' s' D5 dn->D3 N h h' ->
   f.l.map qq=jI (D5.aC.l.map bH) (all.aC.l.map bH)->g.l.map qq=jI (all.aC.l.map bH) (D5.aC.l.map bH)->K (.ret (.tuple [an iS 2 f,an iS 2 g])) h'=true) :
  Sem TP 50 [.ptr N 0,.str nm,an encI 1 t,.bool is] h K:=by
 have hv:=ho.valid;have hnc:∀ c o:Nat,bx (.ptr c o)=some (.ptr c o):=fun _ _=>rfl;refine F.vN ?_;rw [F.xe];simp only [aR,reduceAdd,reduceEqDiff,reduceIte,hnc,x.base];refine ah (Ae (eo hv).2 hv hj hr OT hin fun s' Ev=>?_);have oD:=LS ho hr OT hin Ev;have FB:=oD.valid;obtain ⟨WI,x1⟩:=x.Uv s';have b1:D3 N h (h.set N (.cells (lN rs s' all dn))):=(bu.refl h).but N |>.set _;simp only [aR,reduceAdd,reduceEqDiff,reduceIte,WI,hnc,x1.all];have n1:(h.set N (.cells (lN rs s' all dn))).next=h.next:=Heap.bl _ _ _
 generalize (h.set N (.cells (lN rs s' all dn)))=h1 at x1 b1 n1 ⊢;obtain ⟨H2,qX,p2,po2,pn2⟩:=cr (h:=h1) (zs:=[.int .i64 0,.ax]) (cs:=ak all) (n:=2) rfl rfl (bS all);have e2:bu h1 H2:=⟨by omega,fun b hb=>po2 b (by omega)⟩
 have x2:=x1.ext e2;have b2:=b1.trans (e2.but N);simp only [aR,reduceAdd,reduceEqDiff,reduceIte,qX,hnc,x2.rules,x2.base];refine ah (dw lu jN (eo FB).2 (fun _=>(eo FB).1) (fun e he=>absurd oD (vj he).2) fun _ out hz hx=>?_);have hrun:mA rs.l s' out:=⟨hz,hx⟩
 obtain ⟨st3,x3⟩:=x2.Xn out;have b3:=b2.set (.cells (lN rs s' out dn));have hNn:N≠h1.next:=by have:=x.lt;omega
 have l4:ag (some 2) (.ptr h1.next 0) (H2.set N (.cells (lN rs s' out dn)))=some (.agg (ak all)):=by
  rw [aj (cs:=ak all) (by rw [Heap.aK,if_neg (Ne.symm hNn)];exact p2),bV (cs:=ak all) (n:=2) rfl]
 simp only [aR,reduceAdd,reduceEqDiff,reduceIte,st3,hnc,x3.all,l4];have Fc:=hrun.sig hp (vi hr Ev).symm;have afz:=hp.sig hrun (vi hr Ev);have X3:=hp.valid ho;have hvo:=hrun.valid oD;obtain ⟨q1,q2⟩:=M7 hvo X3 Fc;obtain ⟨q3,q4⟩:=M7 X3 hvo afz;refine ah (dD (hrun.small oD) (hp.small ho) q1 q2 fun f hf=>?_);simp only [aR,reduceAdd,reduceEqDiff,reduceIte,x3.all,l4,AV.beq_refl,Bool.and_self,if_true];refine ah (dD (hp.small ho) (hrun.small oD) q3 q4 fun g hg=>?_);simp only [aR,reduceAdd,reduceEqDiff,reduceIte];exact hK s' out _ f g Ev oD hrun x3 b3 hf hg
theorem Fq{t:Sl Int}(ht:t.l.length<=1000000)(hK:K (.ret (an encI 1 t)) h=true):Sem TP 49 [an encI 1 t] h K:=by
 have main:Sem TP 49 [an encI 1 t] Heap.empty (fun o h'=>yes (∃ v,o = .ret v/\Fz true h' v (an encI 1 t))):=by
  refine F.jX ?_;rw [F.kE];simp only [HH,aR,reduceAdd,reduceEqDiff,reduceIte]
  cases t with
  |none=>simp only [aL];exact cw.2 ⟨_,rfl,.dO rfl⟩
  |some l=>
   obtain ⟨b,h',a1,a2,_,_,_⟩:=zV (uY nk (some l) (Heap.empty.alloc (.cells []))) ht;simp only [aJ,u7,aq,a1,je];exact cw.2 ⟨_,rfl,yJ a2⟩
 refine main.frozen (by simp [AV.cL,cj kf]) fun o h' ho=>?_;obtain ⟨v,rfl,hf⟩:=cw.1 ho;exact ⟨v,_,rfl,hf,hK⟩
theorem A2(hs:s.small)(hK:∀ s':cM,s'.size=s.size->s'.aC.l.map bH=s.aC.l.map bH->K (.ret (.agg (ak s'))) h=true):Sem TP 46 [.agg (ak s)] h K:=by
 have main:Sem TP 46 [.agg (ak s)] Heap.empty (fun o h'=>yes (∃ v,∃ s':cM,o = .ret v/\s'.size=s.size/\s'.aC.l.map bH=s.aC.l.map bH/\Fz true h' v (.agg (ak s')))):=by
  refine A1 hs fun a h' l hx hd hl=>?_;obtain ⟨z,z1,z2⟩:=M5 hd.own hd.row;have:=lQ.cons (.scalar (.int .i64 s.size) rfl) (lQ.cons z2 lQ.nil);exact cw.2 ⟨_,⟨s.size,z⟩,rfl,rfl,by rw [<- hl];exact z1,.agg _ _ this.len this.rel⟩
 refine main.frozen (by simp [AV.cL,AV.pure,eu]) fun o h' ho=>?_;obtain ⟨v,s',rfl,h1,h2,hf⟩:=cw.1 ho;exact ⟨v,_,rfl,hf,hK s' h1 h2⟩
theorem HP(hs:s.ok)(hv:cG s=true){t:Sl Int}(hj:jb (gv nm (t.l.length:Int)) s.aC.l = -1)
  (hK:K (.ret (.tuple [.bool false,.int .i64 4])) h=true):Sem TP 21 [.agg (ak s),.str nm,an encI 1 t] h K:=by
 refine Sem.data (r:=.tuple [.bool false,.int .i64 4]) ?_ (by simp [AV.cL,AV.pure,eu,cj kf]) hK;clear hK;refine F.wg ?_;rw [F.yA];simp only [cT (bS s),aq,bU];have g0:(Heap.empty.alloc (.cells (ak s))).get 0=some (.cells (ak s)):=aA _ _;generalize (Heap.empty.alloc (.cells (ak s)))=H at g0 ⊢;have l0:ag (some 2) (.ptr 0 0) H=some (.agg (ak s)):=by rw [aj g0,bV (cs:=ak s) (n:=2) rfl]
 simp only [l0,aq];refine ah (dG hs ?_);rw [hv];simp only [aR,reduceAdd,reduceEqDiff,reduceIte,Bool.not_true,aJ,l0];refine ah (rS hs ?_);rw [hj];simp only [aR,reduceAdd,reduceEqDiff,reduceIte,fE (show (-1:Int)<0 by omega)];exact gh rfl
theorem A3{rs:Sl aP}{all:cM}(x:eA rs N h s all dn)(h1:0<s.size)(hK:K (.ret (.bool true)) h=true):Sem TP 45 [.ptr N 0] h K:=by
 refine F.sH ?_;rw [F.tM];simp only [show oA (.pointer 78) (.ptr N 0) .ez=some (.bool true) from rfl,show bx (.ptr N 0)=some (.ptr N 0) from rfl,aR,reduceAdd,reduceEqDiff,reduceIte,x.size,fE h1];exact hK
theorem Rg(s:St):dh TP s Tryz.f14.results.toList=(match ag (some 2) (s.env 2) s.h,(some []:Option (List AV)) with|some v,some vs=>some (v :: vs)|_,_=>none):=by kernel_rfl
theorem vk{rs:Sl aP}{all:cM}(x:eA rs N h s all dn)(h1:0<s.size)(hs:all.small)
  (hK:∀ (a':cM) h',bu h h'->a'.size=all.size->a'.aC.l.map bH=all.aC.l.map bH->K (.ret (.agg (ak a'))) h'=true):Sem TP 14 [.ptr N 0] h K:=by
 refine F.vL ?_;rw [F.xb];have x1:=x.ext (bu.alloc h (.cells [.int .i64 0,.ax]));have g:(h.alloc (.cells [.int .i64 0,.ax])).get h.next=some (.cells [.int .i64 0,.ax]):=aA _ _
 refine ah (A3 x1 h1 ?_);simp only [aR,reduceAdd,reduceEqDiff,reduceIte,Bool.not_true,show bx (.ptr N 0)=some (.ptr N 0) from rfl,x1.all];refine ah (A2 hs fun a' z1 z2=>?_)
 have st:aS 2 (.ptr h.next 0) (.agg (ak a')) (h.alloc (.cells [.int .i64 0,.ax]))=some ((h.alloc (.cells [.int .i64 0,.ax])).set h.next (.cells (ak a'))):=by
  rw [cq (n:=2) (v:=.agg (ak a')) g rfl (bS a') (by simp)];rfl
 have l1:ag (some 2) (.ptr h.next 0) ((h.alloc (.cells [.int .i64 0,.ax])).set h.next (.cells (ak a')))=some (.agg (ak a')):=by
  rw [aj (cs:=ak a') (by rw [Heap.aK,if_pos rfl]),bV (cs:=ak a') (n:=2) rfl]
 simp only [aR,reduceAdd,reduceEqDiff,reduceIte,st,Rg,l1];exact hK a' _ ((bu.alloc _ _).set (dL _) _) z1 z2
structure OE where
 name:b6
 tuple:Sl Int
 was:Bool
 to:Bool
def gH(c:OE):List AV:=[.str c.name,an encI 1 c.tuple,.bool c.was,.bool c.to]
theorem OF(c:OE):(gH c).length=4:=rfl
theorem vm(c:OE):bw (gH c)=true:=by unfold gH;simp only [bw,gi,Bool.and_true];rfl
inductive jc (N:Nat) (h:Heap):AV->List OE->Prop
 |nil:jc N h .ax []
 |row (b:Nat) (l:List OE) (cs:List AV):b≠N->b<h.next->h.get b=some (.cells cs)->l.length*4<=cs.length->cs.take (l.length*4)=l.flatMap gH->jc N h (.slice b 0 l.length 4) l
theorem jc.but{l:List OE}(o:jc N h d l)(x:D3 N h h'):jc N h' d l:=by
 cases o with
 |nil=>exact .nil
 |row b l cs h1 h2 h3 h4 h5=>exact .row b l cs h1 (Nat.lt_of_lt_of_le h2 x.next) (by rw [x.get b h2 h1];exact h3) h4 h5
theorem jc.lC{l:List OE}(o:jc N h d l):d.dz = [d]/\bw [d]=true:=by cases o<;>exact ⟨rfl,rfl⟩
theorem jc.push{l:List OE}(o:jc N h d l)(hN:N<h.next)(hroom:l.length<=1000000)(c:OE) :
  ∃ d' h',b7 4 48 d (.slice h.next 0 1 4) (h.alloc (.cells (gH c)))=some (d',h')/\jc N h' d' (l++[c])/\h.next<=h'.next/\(∀ b,b<h.next->cD d≠some b->h'.get b=h.get b):=by
 have hm:cI=140737488355328:=rfl;have g:=aA h (.cells (gH c));have hn:(h.alloc (.cells (gH c))).next=h.next+1:=Heap.aM h _
 have hf:iz 4 1 (.slice h.next 0 1 4) (h.alloc (.cells (gH c)))=some (gH c):=by
  simp only [iz,g];rfl
 cases o with
 |nil=>
  refine ⟨.slice (h.alloc (.cells (gH c))).next 0 1 4,(h.alloc (.cells (gH c))).alloc (.cells (gH c)),?_,?_,by rw [Heap.aM,hn];omega,fun b hb _=>by rw [Heap.aV,if_neg (by omega),Heap.aV,if_neg (by omega)]⟩
  ·simp only [b7,lP,hf,vm,Bool.and_true];rw [if_neg (by omega),if_pos (by rw [hm];decide)]
  ·exact .row _ [c] (gH c) (by rw [hn];omega) (by simp only [Heap.aM];omega) (aA _ _) (by simp [gH]) (by simp [gH])
 |row b l cs h1 h2 h3 h4 h5=>
  have g2:(h.alloc (.cells (gH c))).get b=some (.cells cs):=by rw [Heap.aV,if_neg (by omega)];exact h3
  have pF:((h.alloc (.cells (gH c))).set b .dead).next=h.next+1:=by rw [Heap.bl,hn]
  refine ⟨.slice (h.alloc (.cells (gH c))).next 0 (l.length+1) 4,((h.alloc (.cells (gH c))).set b .dead).alloc (.cells ((cs.drop 0).take (l.length*4)++gH c)),?_,?_,by rw [Heap.aM,pF];omega,fun b' hb hne=>?_⟩
  ·simp only [b7,lP,hf,g2,vm,Bool.and_true];rw [if_pos True.intro,if_neg (by omega),if_pos (by rw [hm];simp only [and_eq_true,decide_eq_true_eq];omega)]
  ·have hcs:(cs.drop 0).take (l.length*4)++gH c=(l++[c]).flatMap gH:=by
    rw [drop_zero,h5,flatMap_append];simp
   have WJ:l.length+1=(l++[c]).length:=by simp
   rw [hcs,WJ];have hlf:((l++[c]).flatMap gH).length=(l++[c]).length*4:=fX OF _;refine .row _ (l++[c]) ((l++[c]).flatMap gH) (by rw [hn];omega) (by simp only [Heap.aM,Heap.bl];omega) ?_ (Nat.le_of_eq hlf.symm) (kC (Nat.le_of_eq hlf));rw [hn,<- pF];exact aA _ _
  ·rw [Heap.aV,if_neg (by omega),Heap.aK,if_neg (fun e=>hne (by rw [e];rfl)),Heap.aV,if_neg (by omega)]
theorem LU{B:Nat}{rs:Sl aP}{all:cM}(x:eA rs N h s all dn)(hb:h.get B=some (.cells [.ptr N 0]))(v:Int)(K:Out->Heap->Bool)(hK:K (.ret (.bool (DI s.size v))) h=true):Sem TP 48 ([]++([.int .i64 v]++[.ptr B 0])) h K:=by
 refine F.sI ?_;rw [F.tN];simp only [show bx (.ptr N 0)=some (.ptr N 0) from rfl,aj hb,aR,reduceAdd,reduceEqDiff,reduceIte,x.size];unfold DI at hK;by_cases h1:v<0<;>by_cases h2:s.size<=v<;>simpa [h1,h2] using hK
theorem Xo(nm:b6)(y:Sl Int)(a b:Bool):iw [.str [],.ax,.bool false,.bool false] [(0,1),(1,1),(2,1),(3,1)] [.str nm,an encI 1 y,.bool a,.bool b]=some (.agg (gH ⟨nm,y,a,b⟩)):=by cases y<;>rfl
theorem Xp(c:OE):gd [.str [],.ax,.bool false,.bool false] [(0,4)] [.agg (gH c)]=some (gH c):=by
 obtain ⟨nm,y,a,b⟩:=c;cases y<;>rfl
structure acB (N:Nat) (dn:AV) (h h':Heap):Prop where
 next:h.next<=h'.next
 get:∀ b,b<h.next->b≠N->cD dn≠some b->h'.get b=h.get b
set_option maxHeartbeats 1000000 in
theorem OG{rs:Sl aP}{all:cM}{dl:List OE}(x:eA rs N h s all dn)(od:jc N h dn dl)(hdl:dl.length<=1000000)(lu:∀ r ∈ rs.l,r.ok)(jN:∀ r ∈ rs.l,r.mC)(ho:eX rs.l s)(hp:mA rs.l s all)
  {t:Sl Int} (DN:t.l.length<=1000000)
  (h4:s.aC.l.find? (gv nm (t.l.length:Int))=none->∀ h',bu h h'->K (.ret (.tuple [.ax,.ax,.int .i64 4])) h'=true)
  (h2:∀ r,s.aC.l.find? (gv nm (t.l.length:Int))=some r->jC s.size t.l=false->∀ h',bu h h'->K (.ret (.tuple [.ax,.ax,.int .i64 2])) h'=true)
  (h0:∀ (j:Nat) (r:Rel),jb (gv nm (t.l.length:Int)) s.aC.l=(j:Int)->s.aC.l[j]?=some r->s.aC.l.find? (gv nm (t.l.length:Int))=some r->r.arity=(t.l.length:Int)->jC s.size t.l=true->∀ (s' D5:cM) h' Pw (f g:Sl mY),pK s j r t.l is s'->eX rs.l s'->mA rs.l s' D5 ->
   eA rs N h' s' D5 Pw->jc N h' Pw (dl++[⟨nm,t,decide (t.l ∈ r.aN.l.map Sl.l),is⟩])->acB N dn h h'->(∀ b,cD Pw=some b->h.next<=b) ->
   f.l.map qq=jI (D5.aC.l.map bH) (all.aC.l.map bH)->g.l.map qq=jI (all.aC.l.map bH) (D5.aC.l.map bH)->K (.ret (.tuple [an iS 2 f,an iS 2 g,.int .i64 0])) h'=true) :
  Sem TP 15 [.ptr N 0,.str nm,an encI 1 t,.bool is] h K:=by
 have hv:=ho.valid;have lU:=(eo hv).2;have hbig:t.l.length<=cN:=by unfold cN;omega
 obtain ⟨n,hn,n1,_⟩:=jA hv;have Xg:0<s.size:=by omega
 have hnc:∀ c o:Nat,bx (.ptr c o)=some (.ptr c o):=fun _ _=>rfl;refine F.vM ?_;rw [F.xd];have g0:(h.alloc (.cells [.ptr N 0])).get h.next=some (.cells [.ptr N 0]):=aA _ _
 have e1:bu h (h.alloc (.cells [.ptr N 0])):=bu.alloc _ _;have n1':(h.alloc (.cells [.ptr N 0])).next=h.next+1:=Heap.aM _ _
 simp only [pR (show (AV.ptr N 0).one=true from rfl),aq];generalize (h.alloc (.cells [.ptr N 0]))=H1 at g0 e1 n1' ⊢;have x1:=x.ext e1;have lk:ag none (.ptr h.next 0) H1=some (.ptr N 0):=by rw [aj g0];rfl
 simp only [lk,aq];refine ah (A3 x1 Xg ?_);simp only [aR,reduceAdd,reduceEqDiff,reduceIte,Bool.not_true,lk,hnc,x1.base];rcases lK (gv nm (t.l.length:Int)) s.aC.l with ⟨w1,w2⟩|⟨j,r,w1,w2,w3⟩
 ·refine ah (HP lU hv w1 ?_);simp only [aR,reduceAdd,reduceEqDiff,reduceIte,cA,show decide ((4:Int)=0)=false from rfl,Bool.not_false];exact h4 w2 _ e1
 ·have Xc:gv nm (t.l.length:Int) r=true:=find?_some w3
  have OT:r.arity=(t.l.length:Int):=by
   simp only [gv,and_eq_true,decide_eq_true_eq] at Xc;exact Xc.2
  refine ah (Ac lU hv w1 w2 OT hbig ?_);simp only [aR,reduceAdd,reduceEqDiff,reduceIte,cA,decide_true,Bool.not_true];refine ah (qN hbig (g:=48) (a:=[]) (b:=[.ptr h.next 0]) (p:=DI s.size) (fun v K' hK'=>LU x1 g0 v K' hK') ?_);have OO:=QB s.size t.l
  cases hin:jC s.size t.l with
  |false=>
   have ha:t.l.any (DI s.size)=true:=by rw [hin] at OO;cases hh:t.l.any (DI s.size) with|true=>rfl|false=>rw [hh] at OO;cases OO
   rw [ha];simp only [aR,reduceAdd,reduceEqDiff,reduceIte];exact h2 r w3 hin _ e1
  |true=>
   have ha:t.l.any (DI s.size)=false:=by rw [hin] at OO;cases hh:t.l.any (DI s.size) with|false=>rfl|true=>rw [hh] at OO;cases OO
   rw [ha];simp only [aR,reduceAdd,reduceEqDiff,reduceIte,lk,hnc,x1.done];refine ah (Fq DN ?_);have od1:jc N H1 dn dl:=od.but (e1.but N);obtain ⟨d',H2,c1,o2,nx2,f2⟩:=od1.push (by have:=x1.lt;omega) hdl ⟨nm,t,decide (t.l ∈ r.aN.l.map Sl.l),is⟩
   have YK:∀ b,cD dn=some b->b<h.next/\b≠N:=fun b hb=>by
    cases od with
    |nil=>cases hb
    |row c l cs q1 q2 _ _ _=>cases hb;exact ⟨q2,q1⟩
   have afA:∀ b,cD d'=some b->h.next<=b:=fun b hb=>by
    cases od1 with
    |nil=>
     have hm:cI=140737488355328:=rfl
     have:cD d'=some H1.next\/h.next<=b:=by
      right
      have hf:iz 4 1 (.slice H1.next 0 1 4) (H1.alloc (.cells (gH ⟨nm,t,decide (t.l ∈ r.aN.l.map Sl.l),is⟩)))=some (gH ⟨nm,t,decide (t.l ∈ r.aN.l.map Sl.l),is⟩):=by
       simp only [iz,aA];rfl
      simp only [b7,lP,hf,vm,Bool.and_true] at c1;rw [if_neg (by omega),if_pos (by rw [hm];decide)] at c1;cases c1;have:(H1.alloc (.cells (gH ⟨nm,t,decide (t.l ∈ r.aN.l.map Sl.l),is⟩))).next=b:=by cases hb;rfl
      rw [Heap.aM] at this;omega
     rcases this with h|h
     ·rw [h] at hb;cases hb;omega
     ·exact h
    |row c l cs q1 q2 q3 q4 q5=>
     have hm:cI=140737488355328:=rfl
     have hf:iz 4 1 (.slice H1.next 0 1 4) (H1.alloc (.cells (gH ⟨nm,t,decide (t.l ∈ r.aN.l.map Sl.l),is⟩)))=some (gH ⟨nm,t,decide (t.l ∈ r.aN.l.map Sl.l),is⟩):=by
      simp only [iz,aA];rfl
     have g2:(H1.alloc (.cells (gH ⟨nm,t,decide (t.l ∈ r.aN.l.map Sl.l),is⟩))).get c=some (.cells cs):=(by rw [Heap.aV,if_neg (by omega)];exact q3);simp only [b7,lP,hf,g2,vm,Bool.and_true] at c1;rw [if_pos True.intro,if_neg (by omega),if_pos (by rw [hm];simp only [and_eq_true,decide_eq_true_eq];omega)] at c1;cases c1;have:(H1.alloc (.cells (gH ⟨nm,t,decide (t.l ∈ r.aN.l.map Sl.l),is⟩))).next=b:=by cases hb;rfl
     rw [Heap.aM] at this;omega
   have x2:eA rs N H2 s all dn:=x1.agree (f2 N x1.lt (fun hb=>(YK N hb).2 rfl)) nx2;have g2:H2.get h.next=some (.cells [.ptr N 0]):=by rw [f2 h.next (by omega) (fun hb=>by have:=(YK _ hb).1;omega)];exact g0
   have lk2:ag none (.ptr h.next 0) H2=some (.ptr N 0):=by rw [aj g2];rfl
   obtain ⟨k1,k2⟩:=o2.lC;obtain ⟨st,x3⟩:=x2.Uw k1 k2;have hNn:h.next≠N:=by have:=x.lt;omega
   have lk3:ag none (.ptr h.next 0) (H2.set N (.cells (lN rs s all d')))=some (.ptr N 0):=by rw [aj (cs:=[.ptr N 0]) (by rw [Heap.aK,if_neg hNn];exact g2)];rfl
   have o3:jc N (H2.set N (.cells (lN rs s all d'))) d' (dl++[⟨nm,t,decide (t.l ∈ r.aN.l.map Sl.l),is⟩]):=o2.but ((bu.refl H2).but N |>.set _);simp only [aR,reduceAdd,reduceEqDiff,reduceIte,lk,hnc,x1.done,AV.beq_refl,Bool.and_self,if_true,Xo,Xp,c1,lk2,st,lk3];refine ah (Rf x3 lu jN ho hp w1 w2 OT hin fun s' D5 h' f g p1 p2 p3 p4 p5 p6 p7=>?_);simp only [aR,reduceAdd,reduceEqDiff,reduceIte];refine h0 j r w1 w2 w3 OT hin s' D5 h' d' f g p1 p2 p3 p4 (o3.but p5) ⟨?_,fun b hb hbN hbd=>?_⟩ afA p6 p7
   ·have:=p5.next;rw [Heap.bl] at this;omega
   ·rw [p5.get b (by rw [Heap.bl];omega) hbN,Heap.aK,if_neg hbN,f2 b (by omega) hbd,e1.get b hb]
theorem J3{α:Type}{enc:α->List AV}(h1:∀ a,bw (enc a)=true):∀ l:List α,bw (l.flatMap enc)=true
 |[]=>rfl
 |a :: l=>by
  rw [flatMap_cons];have ha:=h1 a;have hl:=J3 h1 l;generalize enc a=x at ha
  induction x with
  |nil=>exact hl
  |cons v x ih=>
   simp only [bw,and_eq_true,cons_append] at ha ⊢;exact ⟨ha.1,ih ha.2⟩
theorem OH{enc:α->List AV}{bytes:Nat}(he:∀ a,(enc a).length=1)(h1:∀ a,bw (enc a)=true){src:AV}{l:List α}(r:Row enc 1 (h.alloc (.cells [])) src l)(hl:l.length*bytes<=cI) :
  ∃ b h',b7 1 bytes (.slice h.next 0 0 1) src (h.alloc (.cells []))=some (.slice b 0 l.length 1,h')/\h'.get b=some (.cells (l.flatMap enc))/\bu h h':=by
 have g:(h.alloc (.cells [])).get h.next=some (.cells []):=aA _ _
 have rc:=r.cells;by_cases hz:l.length=0
 ·have:l = []:=eq_nil_of_length_eq_zero hz;subst this;refine ⟨h.next,h.alloc (.cells []),?_,g,bu.alloc _ _⟩;simp only [length_nil] at rc;simp [b7,r.len,rc]
 ·refine ⟨h.next+1,((h.alloc (.cells [])).set h.next .dead).alloc (.cells (l.flatMap enc)),?_,?_,?_⟩
  ·simp only [b7,r.len,rc,if_true,if_neg hz,g];rw [if_pos (by simp [J3 h1];omega)];simp [Heap.bl,Heap.aM]
  ·have:=aA ((h.alloc (.cells [])).set h.next .dead) (.cells (l.flatMap enc))
   rwa [Heap.bl,Heap.aM] at this
  ·exact ((bu.alloc h (.cells [])).set (dL _) _).trans (bu.alloc _ _)
theorem Ux{enc:α->List AV}{sz:Nat}(hp:∀ a,AV.cL (enc a)=true){l:List α}{b:Nat}(hb:h.get b=some (.cells (l.flatMap enc))):Fz true h (.slice b 0 l.length sz) (an enc sz (some l)):=by
 have sX:AV.cL (l.flatMap enc)=true:=by
  have:=cj (sz:=sz) hp (some l);simpa [an,AV.pure] using this
 have:lQ true h (l.flatMap enc) (l.flatMap enc):=.dO sX;exact .slice b 0 l.length sz _ _ hb this.len this.rel
theorem wA{t:Sl b6}(ht:t.l.length<=1000000)(hK:K (.ret (an encS 1 t)) h=true):Sem TP 117 [an encS 1 t] h K:=by
 have hm:cI=140737488355328:=rfl
 have main:Sem TP 117 [an encS 1 t] Heap.empty (fun o h'=>yes (∃ v,o = .ret v/\Fz true h' v (an encS 1 t))):=by
  refine F.mj ?_;rw [F.mE];simp only [HH,aR,reduceAdd,reduceEqDiff,reduceIte]
  cases t with
  |none=>simp only [aL];exact cw.2 ⟨_,rfl,.dO rfl⟩
  |some l=>
   obtain ⟨b,h',a1,a2,_⟩:=OH (bytes:=16) (fun _=>rfl) (fun _=>rfl) (uY (enc:=encS) (fun _=>rfl) (some l) (Heap.empty.alloc (.cells []))) (by have h2:l.length<=1000000:=ht;show l.length*16<=cI;omega);simp only [aJ,u7,aq,a1,je];exact cw.2 ⟨_,rfl,Ux kg a2⟩
 refine main.frozen (by simp [AV.cL,cj kg]) fun o h' ho=>?_;obtain ⟨v,rfl,hf⟩:=cw.1 ho;exact ⟨v,_,rfl,hf,hK⟩
def nb(b:Sl eP):Sl eP:=if b.l = [] then none else some b.l
theorem afB(b:Sl eP):(nb b).l=b.l:=by
 unfold nb;split
 ·rename_i h;rw [h];rfl
 ·rfl
def gw(r:aP):aP:=⟨r.name,r.args,nb r.body⟩
abbrev RuV:=b6×Sl b6×Ob
def mB(r:RuV):List AV:=[.str r.1,an encS 1 r.2.1,r.2.2.1]
theorem D6(r:RuV):(mB r).length=3:=rfl
theorem D8(r:RuV):bw (mB r)=true:=by
 have:=r.2.2.2.1;unfold mB;simp only [bw,gi,Bool.and_true,Bool.true_and] at this ⊢;rw [this];rfl
theorem Uy(r:RuV):gd [.str [],.ax,.ax] [(0,3)] [.agg (mB r)]=some (mB r):=by
 have ho:=D8 r
 have hf:oC [.str [],.ax,.ax] [(0,3)] [.agg (mB r)]=some (mB r):=by
  have hc:AV.dz (.agg (mB r))=mB r:=rfl;have hp:ee [.str [],.ax,.ax] 0 (mB r)=mB r:=rfl;simp only [oC,hc,hp,ho,D6];rfl
 unfold gd;rw [hf];simp only [ho,if_true]
theorem Xq(c:eP):gd [.int .i64 0,.bool false,.str [],.ax] [(0,4)] [.agg (bL c)]=some (bL c):=by
 obtain ⟨k,n,nm,xs⟩:=c;cases xs<;>rfl
theorem Xr(nm:b6)(xs:Sl b6):iw [.str [],.ax] [(0,1),(1,1)] [.str nm,an encS 1 xs]=some (.agg (iI nm xs)):=by cases xs<;>rfl
theorem Xs(nm:b6)(xs:Sl b6):iw [.str [],.ax,.ax] [(0,2)] [.agg (iI nm xs)]=some (.agg [.str nm,an encS 1 xs,.ax]):=by cases xs<;>rfl
theorem acC{xs:Sl b6}{v:Ob}{x:Sl eP}(hf:Fz true h v.1 (an bL 4 x)):lQ true h (mB (nm,xs,v)) (aO ⟨nm,xs,x⟩):=
 .cons (.scalar _ rfl) (.cons (.dO (cj kg xs)) (.cons hf .nil))
set_option maxHeartbeats 2000000 in
theorem cS{rules:Sl aP}(sJ:rules.l.length<=60)(hsz:∀ r ∈ rules.l,r.args.l.length<=1000000/\r.body.l.length<=1000000/\∀ c ∈ r.body.l,c.args.l.length<=1000000){h:Heap}{K:Out->Heap->Bool}
  (hK:∀ x:Sl aP,x.l=rules.l.map gw->K (.ret (an aO 3 x)) h=true):Sem TP 73 [an aO 3 rules] h K:=by
 have hm:cI=140737488355328:=rfl;have hbig:rules.l.length<=cN:=by unfold cN;omega
 have main:Sem TP 73 [an aO 3 rules] Heap.empty (fun o h'=>yes (∃ v,∃ x:Sl aP,o = .ret v/\x.l=rules.l.map gw/\Fz true h' v (an aO 3 x))):=by
  refine F.By ?_;rw [F.Dj];simp only [aR,reduceAdd,reduceEqDiff,reduceIte]
  refine aE 0 rules.l.length (zero_le _) (fun i e h'=>∃ a l,jE (fun _=>False) mB aO 3 0 h' a l/\(l.map (·.2))=(rules.l.take i).map gw/\e 3=a/\e 9=an aO 3 rules/\e 10 = .int .i64 (rules.l.length:Int)/\e 11 = .int .i64 (i:Int))
   ⟨_,[],.nil,rfl,rfl,rfl,rfl,rfl⟩ ?_ ?_
  ·rintro i e h' _ hi ⟨a,l,o,hl,e3,e9,kM,qY⟩ K' hn fK hr hp;have hv:rules.l[i]?=some rules.l[i]:=ep hi;generalize rules.l[i]=r at hv;have og:=ig hv;obtain ⟨z1,z2,z3⟩:=hsz r og;have AO:r.body.l.length<=cN:=by unfold cN;omega
   have WJ:l.length=i:=by have:=congrArg List.length hl;rw [length_map,length_map,length_take,Nat.min_eq_left (by omega)] at this;exact this
   obtain ⟨H3,Mr,p3,QL,T8⟩:=cr (h:=h') (zs:=[.str [],.ax,.ax]) (cs:=aO r) (n:=3) rfl rfl (kr r);have l0:ag none (.ptr h'.next 0) H3=some (.str r.name):=by rw [aj p3];rfl
   have l1:ag none (.ptr h'.next 1) H3=some (an encS 1 r.args):=by rw [aj p3];rfl
   have Xd:ag none (.ptr h'.next 0) (H3.alloc (.cells [.str [],.ax,.ax]))=some (.str r.name):=by rw [aj (cs:=aO r) (by rw [Heap.aV,if_neg (by omega)];exact p3)];rfl
   obtain ⟨H4,OS,p4,Lt,WT⟩:=cr (h:=H3) (zs:=[.str [],.ax,.ax]) (cs:=[.str r.name,an encS 1 r.args,.ax]) (n:=3) rfl rfl (by simp only [bw,gi,Bool.and_true];rfl);have x4:bu h' H4:=⟨by omega,fun b hb=>by rw [Lt b (by omega),QL b (by omega)]⟩
   have l2:ag none (.ptr h'.next 2) H4=some (an bL 4 r.body):=by rw [aj (show H4.get h'.next=some (.cells (aO r)) by rw [Lt _ (by omega)];exact p3)];rfl
   rw [F.cS.aT];simp only [e9,kM,qY,aR,reduceAdd,reduceEqDiff,reduceIte,bh hi,aW rules hi,dm gE hv,Mr];simp only [aR,reduceAdd,reduceEqDiff,reduceIte,l0,l1];refine ah (wA z1 ?_);simp only [aR,reduceAdd,reduceEqDiff,reduceIte,Xd,AV.beq_refl,Bool.and_self,if_true,Xr,Xs,OS,l2];rw [T8] at p4 OS Lt WT ⊢
   refine aE 0 r.body.l.length (zero_le _) (fun j e h2=>∃ bv bs,h2.get (h'.next+1)=some (.cells [.str r.name,an encS 1 r.args,bv])/\Own bL 4 (h'.next+2) h2 bv bs/\(bs = []->bv = .ax)/\bs=r.body.l.take j/\bu h' h2/\h'.next+2<=h2.next /\
    e 3=a/\e 9=an aO 3 rules/\e 10 = .int .i64 (rules.l.length:Int)/\e 11 = .int .i64 (i:Int)/\e 6 = .ptr (h'.next+1) 0/\e 25=an bL 4 r.body/\e 26 = .int .i64 (r.body.l.length:Int)/\e 27 = .int .i64 (j:Int))
    ⟨_,[],p4,.nil,fun _=>rfl,rfl,x4,by omega,e3,e9,kM,qY,rfl,rfl,rfl,rfl⟩ ?_ ?_
   ·rintro j e h2 _ hj ⟨bv,bs,q6,ob,Nd,hbs,x2,QM,e3,e9,kM,qY,e6,Lu,BX,BY⟩ K2 u6 gm rY F5;have hvc:r.body.l[j]?=some r.body.l[j]:=ep hj;generalize r.body.l[j]=c at hvc;have WO:bs.length=j:=by rw [hbs,length_take,Nat.min_eq_left (by omega)]
    obtain ⟨H5,hs5,p5,po5,pn5⟩:=cr (h:=h2) (zs:=[.int .i64 0,.bool false,.str [],.ax]) (cs:=bL c) (n:=4) rfl rfl (iC c);have l5:ag none (.ptr h2.next 3) H5=some (an encS 1 c.args):=by rw [aj p5];rfl
    have Uh:(an encS 1 c.args).dz = [an encS 1 c.args]:=(by cases c.args<;>rfl);have Vn:bw [an encS 1 c.args]=true:=by simp only [bw,gi,Bool.and_true]
    have st5:aS 1 (.ptr h2.next 3) (an encS 1 c.args) H5=some (H5.set h2.next (.cells (bL c))):=by
     rw [cq (n:=1) p5 (by rw [Uh];rfl) (by rw [Uh];exact Vn) (by simp [bL]),Uh];rfl
    have n6:(H5.set h2.next (.cells (bL c))).next=h2.next+1:=by rw [Heap.bl];exact pn5
    have g6:(H5.set h2.next (.cells (bL c))).get h2.next=some (.cells (bL c)):=by rw [Heap.aK,if_pos rfl]
    have f6:∀ b,b<h2.next->(H5.set h2.next (.cells (bL c))).get b=h2.get b:=fun b hb=>by rw [Heap.aK,if_neg (by omega),po5 b (by omega)]
    have x6:bu h2 (H5.set h2.next (.cells (bL c))):=⟨by omega,f6⟩
    rw [F.cS.dr];simp only [Lu,BX,BY,aR,reduceAdd,reduceEqDiff,reduceIte,bh hj,aW r.body hj,dm iB hvc,hs5,l5];refine ah (wA (z3 c (ig hvc)) ?_);simp only [aR,reduceAdd,reduceEqDiff,reduceIte,st5,e6];generalize (H5.set h2.next (.cells (bL c)))=H6 at n6 g6 f6 x6 ⊢;have q6':H6.get (h'.next+1)=some (.cells [.str r.name,an encS 1 r.args,bv]):=by rw [f6 _ (by omega)];exact q6
    have lb:ag none (.ptr (h'.next+1) 2) H6=some bv:=(by rw [aj q6'];rfl);have lc:ag (some 4) (.ptr h2.next 0) H6=some (.agg (bL c)):=by rw [aj g6,bV (cs:=bL c) (n:=4) rfl]
    obtain ⟨a5,h5,c5,o5,f5,n5,w5,b5⟩:=(ob.ext x6).push iB iC (by omega) (bytes:=56) (by rw [hm];omega) c;have hne:cD bv≠some (h'.next+1):=fun hb=>by have:=ob.ge hb;omega
    have s6:h5.get (h'.next+1)=some (.cells [.str r.name,an encS 1 r.args,bv]):=(by rw [f5 _ (by omega) hne];exact q6');have c6:=o5.lC
    have st:aS 1 (.ptr (h'.next+1) 2) a5 h5=some (h5.set (h'.next+1) (.cells [.str r.name,an encS 1 r.args,a5])):=by
     rw [cq (n:=1) s6 c6.2.1 c6.1 (by simp),c6.2.2];rfl
    simp only [aR,reduceAdd,reduceEqDiff,reduceIte,lb,lc,Xq,c5,e6,BY,st,aI hj AO];refine u6 _ _ ⟨a5,bs++[c],by rw [Heap.aK,if_pos rfl],o5.kL (by omega) _,fun h=>absurd (congrArg List.length h) (by simp),by rw [hbs,take_add_one,hvc];rfl,(w5 h' (x2.trans x6) (by omega)).set (by omega) _,by rw [Heap.bl];omega,e3,e9,kM,qY,e6,Lu,BX,rfl⟩
   ·rintro e h2 ⟨bv,bs,q6,ob,Nd,hbs,x2,QM,e3,e9,kM,qY,e6,Lu,BX,BY⟩ K2 gm;rw [kC (dL _)] at hbs;subst hbs;have o2:=o.ext x2;obtain ⟨BZ,Kh⟩:=nc ob;have lq:ag (some 3) (.ptr (h'.next+1) 0) h2=some (.agg (mB (r.name,r.args,⟨bv,BZ,Kh⟩))):=by rw [aj q6];rfl
    obtain ⟨x,jO,Lm⟩:=(jE.zX ob xh).data;have Jn:x.l=r.body.l:=by rw [jO,List.map_map];simp [Function.comp_def]
    obtain ⟨y,hy⟩:∃ y:Sl eP,y=nb r.body:=⟨_,rfl⟩
    have hfy:∀ g:Heap,(∀ b,h'.next+2<=b->b<h2.next->g.get b=h2.get b)->Fz true g bv (an bL 4 y):=fun g hg=>by
     by_cases hz:r.body.l = []
     ·rw [Nd hz,hy];have:nb r.body=none:=by unfold nb;rw [if_pos hz]
      rw [this];exact .dO rfl
     ·have hyx:y=x:=by
       rw [hy];unfold nb;rw [if_neg hz]
       cases x with
       |none=>exact absurd Jn.symm hz
       |some m=>rw [<- Jn];rfl
      rw [hyx];exact Lm g fun b b1 b2 _=>hg b b1 b2
    obtain ⟨a5,h5,c5,o5,f5,n5,w5,b5⟩:=o2.push D6 D8 (zero_le _) (bytes:=64) (by rw [hm];omega) (r.name,r.args,⟨bv,BZ,Kh⟩) ⟨r.name,r.args,y⟩ (fun _ h=>h.elim)
     (fun g hg=>acC (hfy g fun b b1 b2=>hg b (zero_le _) b2 (fun h=>h) (fun hb=>by have:=o.own.lt hb;omega)))
    rw [F.cS.dr];simp only [BX,BY,aR,reduceAdd,reduceEqDiff,reduceIte,aX];rw [gm,F.cS.cz];simp only [aR,reduceAdd,reduceEqDiff,reduceIte,e3,e6,qY,lq,Uy,c5,aI hi hbig];refine hn _ _ ⟨a5,_,o5,?_,rfl,e9,kM,rfl⟩;rw [map_append,hl,take_add_one,hv,map_append,hy];rfl
  ·rintro e h' ⟨a,l,o,hl,e3,e9,kM,qY⟩ K' fK;rw [F.cS.aT];simp only [kM,qY,aR,reduceAdd,reduceEqDiff,reduceIte,aX];rw [fK,F.cS.aF];simp only [bO,reduceEqDiff,reduceIte,e3];rw [kC (dL _)] at hl;obtain ⟨x,x1,x2⟩:=o.fz;exact cw.2 ⟨a,x,rfl,by rw [x1,hl],x2⟩
 refine main.frozen (by simp [AV.cL,cj fR]) fun o h' ho=>?_;obtain ⟨v,x,rfl,h1,h2⟩:=cw.1 ho;exact ⟨_,_,rfl,h2,hK x h1⟩
theorem vo(r:aP):(gw r).name=r.name:=rfl
theorem oy(r:aP):(gw r).args=r.args:=rfl
theorem mZ(r:aP):(gw r).body.l=r.body.l:=afB r.body
theorem Ah(r:aP):varsOf (gw r)=varsOf r:=by unfold varsOf;rw [oy,mZ]
theorem Uz{r:aP}(h:r.ok):(gw r).ok:=by
 unfold aP.ok at h ⊢;rw [vo,oy,mZ];exact h
theorem Rh{r:aP}(h:r.mC):(gw r).mC:=by
 unfold aP.mC at h ⊢;rw [oy,mZ];exact h
theorem HQ:∀ (rs:List aP) (m:eF),dS (rs.map gw) m=dS rs m
 |[],m=>rfl
 |r :: rs,m=>by
  rw [map_cons];unfold dS;rw [vo,oy,mZ,Ah];have ih:=HQ rs;simp only [ih]
theorem D9(rs:List aP):bE (rs.map gw)=bE rs:=by unfold bE;rw [List.map_map];rfl
theorem Ea{β:Type}{f g:α->List β}(h:∀ a,f a=g a)(l:List α):l.flatMap f=l.flatMap g:=by rw [funext h]
theorem LV(hs:List b6)(rs:List aP):jq hs (rs.map gw)=jq hs rs:=by
 unfold jq;rw [flatMap_map];refine Ea (fun r=>?_) _;rw [mZ];rfl
theorem nt(rs:List aP):bK (rs.map gw)=bK rs:=by unfold bK;rw [D9,LV]
theorem LW(rs:List aP):cB (rs.map gw)=cB rs:=by
 unfold cB;rw [flatMap_map];refine Ea (fun r=>?_) _;unfold ud;rw [vo,oy,mZ]
theorem Gy(rs:List aP):eG (rs.map gw)=eG rs:=by unfold eG;rw [foldl_map];rfl
theorem Ri(rs:List aP)(nm:b6):qp (rs.map gw) nm=qp rs nm:=by
 unfold qp;rw [find?_map];have:((fun r:aP=>r.name==nm)∘gw)=fun r=>r.name==nm:=rfl;rw [this];cases rs.find? (fun r=>r.name==nm)<;>rfl
theorem Gz:kW (rs.map gw)↔kW rs:=by
 constructor
 ·rintro ⟨a,b,c⟩;rw [HQ] at b;rw [nt] at c;exact ⟨by simpa using a,b,c⟩
 ·rintro ⟨a,b,c⟩;exact ⟨by simpa using a,by rw [HQ];exact b,by rw [nt];exact c⟩
theorem J4:Ki (rs.map gw) s↔Ki rs s:=by unfold Ki;rw [LW,D9]
theorem J5:M0 (rs.map gw) s↔M0 rs s:=by
 unfold M0;rw [Gy]
 have e:∀ p:aP->Prop,(∀ r,p (gw r)↔p r)->((∃ r ∈ rs.map gw,p r)↔∃ r ∈ rs,p r):=fun p hp=>by
  constructor
  ·rintro ⟨r,hr,h⟩;obtain ⟨q,hq,rfl⟩:=mem_map.1 hr;exact ⟨q,hq,(hp q).1 h⟩
  ·rintro ⟨r,hr,h⟩;exact ⟨gw r,List.mem_map_of_mem hr,(hp r).2 h⟩
 rw [e (fun r=>4096<s.size.toNat ^ r.args.l.length) (fun r=>Iff.rfl),e (fun r=>65536<s.size.toNat ^ (varsOf r).length) (fun r=>by rw [Ah])]
theorem GA:eX (rs.map gw) s↔eX rs s:=
 ⟨fun h=>⟨Gz.1 h.fP,h.valid,fun x=>h.names (J4.2 x),fun x=>h.AZ (J5.2 x)⟩,
  fun h=>⟨Gz.2 h.fP,h.valid,fun x=>h.names (J4.1 x),fun x=>h.AZ (J5.1 x)⟩⟩
theorem LX(lv:ey.Lv)(rs:List aP)(l:Nat):gG lv (rs.map gw) l=(gG lv rs l).map gw:=by
 unfold gG;rw [List.filter_map];rfl
theorem pW:mz n (rs.map gw) L↔mz n rs L:=by
 unfold mz HU JH Gm eO;simp only [mem_map,forall_exists_index,and_imp,forall_apply_eq_imp_iff₂,Ah,mZ,vo,oy]
theorem vp{C:Lk}:Over (rs.map gw) L C↔Over rs L C:=by
 constructor
 ·rintro ⟨a,b⟩;exact ⟨a,fun nm hn=>b nm fun r hr=>by obtain ⟨q,hq,rfl⟩:=mem_map.1 hr;exact hn q hq⟩
 ·rintro ⟨a,b⟩;exact ⟨a,fun nm hn=>b nm fun r hr=>hn (gw r) (List.mem_map_of_mem hr)⟩
theorem LY{C:Lk}:nR n (rs.map gw) L C↔nR n rs L C:=
 ⟨fun h=>⟨vp.1 h.over,pW.1 h.closed,fun C o c=>h.least C (vp.2 o) (pW.2 c)⟩,
  fun h=>⟨vp.2 h.over,pW.2 h.closed,fun C o c=>h.least C (vp.1 o) (pW.1 c)⟩⟩
theorem Eb{n:Nat}{rs:List aP}{lv:ey.Lv}{L0:Lk}:∀ {l:Nat} {A:Lk},mJ n rs lv L0 l A->mJ n (rs.map gw) lv L0 l A
 |0,A,h=>by cases h;exact .zero
 |l+1,A,h=>by
  cases h with
  |succ l L L' h1 h2=>exact .succ l L A (Eb h1) (by rw [LX];exact LY.2 h2)
theorem LZ{F:Lk}(h:mX rs n s F):mX (rs.map gw) n s F:=by
 obtain ⟨k,t,h1,h2,h3⟩:=h;refine ⟨k,t,by rw [nt];exact h1,fun r hr=>?_,by rw [nt];exact Eb h3⟩;obtain ⟨q,hq,rfl⟩:=mem_map.1 hr;rw [nt];exact h2 q hq
theorem J6(h:mA rs s out):mA (rs.map gw) s out:=by
 obtain ⟨hz,F,f1,f2⟩:=h;refine ⟨hz,F,LZ f1,?_⟩;rw [f2,Gy];unfold xA;simp only [Ri]
theorem mA.HR{t:cM}(h:mA rs s out)(hz:t.size=s.size)(hd:t.aC.l.map bH=s.aC.l.map bH):mA rs t out:=by
 obtain ⟨z,F,f1,f2⟩:=h;refine ⟨by rw [z,hz],F,?_,by rw [hz,hd];exact f2⟩;rw [hz];unfold mX at f1 ⊢
 rwa [DZ hd]
theorem eX.HR{t:cM}(h:eX rs s)(hz:t.size=s.size)(hd:t.aC.l.map bH=s.aC.l.map bH):eX rs t:=by
 refine D2 h ?_ hz (by rw [hd]);rw [eS,hz,hd];exact eS.1 h.valid
theorem Rj(x:Sl aP)(s all:cM):iw [.ax,.int .i64 0,.ax,.int .i64 0,.ax,.ax] [(0,1),(1,2),(3,2),(5,1)] [an aO 3 x,.agg (ak s),.agg (ak all),.ax]=some (.agg (lN x s all .ax)):=by
 obtain ⟨z,r⟩:=s;obtain ⟨z2,r2⟩:=all;cases x<;>cases r<;>cases r2<;>rfl
theorem Rk(x:Sl aP)(s all:cM):bw (lN x s all .ax)=true:=by unfold lN;simp only [bw,gi,Bool.and_true];rfl
set_option maxHeartbeats 1000000 in
theorem Rl{rules:Sl aP}(lu:∀ r ∈ rules.l,r.ok)(jN:∀ r ∈ rules.l,r.mC)(lU:s.ok)
  (LM:∀ e,DU rules.l s e->∀ h',bu h h'->K (.ret (.tuple [.ez,.int .i64 e])) h'=true)
  (zR:eX rules.l s->∀ (x:Sl aP) (s' all:cM) N h',x.l=rules.l.map gw->s'.size=s.size->s'.aC.l.map bH=s.aC.l.map bH->eX x.l s'->mA x.l s' all->eA x N h' s' all .ax->bu h h'->h.next<=N->K (.ret (.tuple [.ptr N 0,.int .i64 0])) h'=true) :
  Sem TP 26 [an aO 3 rules,.agg (ak s)] h K:=by
 refine F.Hp ?_;rw [F.I1];simp only [cT (bS s),aq];have g0:(h.alloc (.cells (ak s))).get h.next=some (.cells (ak s)):=aA _ _
 have e0:bu h (h.alloc (.cells (ak s))):=bu.alloc _ _;have n0:(h.alloc (.cells (ak s))).next=h.next+1:=Heap.aM _ _
 generalize (h.alloc (.cells (ak s)))=H at g0 e0 n0 ⊢;have l0:ag (some 2) (.ptr h.next 0) H=some (.agg (ak s)):=by rw [aj g0,bV (cs:=ak s) (n:=2) rfl]
 simp only [l0,aq];refine ah (dw lu jN lU (fun hv=>(eo hv).1) (fun e he=>?_) fun ho out hz hx=>?_)
 ·obtain ⟨H1,Fc,p1,po1,pn1⟩:=cr (h:=H) (zs:=[.int .i64 0,.ax]) (cs:=ak ⟨0,none⟩) (n:=2) rfl rfl rfl;simp only [aR,reduceAdd,reduceEqDiff,reduceIte,Fc,cA,eT (vj he).1,Bool.not_false];exact LM e he _ (e0.trans ⟨by omega,fun b hb=>po1 b (by omega)⟩)
 ·have hrun:mA rules.l s out:=⟨hz,hx⟩
  obtain ⟨H1,Fc,p1,po1,pn1⟩:=cr (h:=H) (zs:=[.int .i64 0,.ax]) (cs:=ak out) (n:=2) rfl rfl (bS out);have e1:bu H H1:=⟨by omega,fun b hb=>po1 b (by omega)⟩
  have l1:ag (some 2) (.ptr h.next 0) H1=some (.agg (ak s)):=by rw [aj (cs:=ak s) (by rw [po1 _ (by omega)];exact g0),bV (cs:=ak s) (n:=2) rfl]
  have l2:ag (some 2) (.ptr H.next 0) H1=some (.agg (ak out)):=by rw [aj p1,bV (cs:=ak out) (n:=2) rfl]
  simp only [aR,reduceAdd,reduceEqDiff,reduceIte,Fc,cA,decide_true,Bool.not_true,l1,l2];refine ah (cS ho.fP.mC (fun r hr=>?_) fun x gm=>?_)
  ·obtain ⟨f1,f2,f3⟩:=jN r hr;exact ⟨by omega,by omega,fun c hc=>by have:=f3 c hc;omega⟩
  simp only [aR,reduceAdd,reduceEqDiff,reduceIte,l1,l2,AV.beq_refl,Bool.and_self,if_true];refine ah (A2 (eo ho.valid).1 fun s' z1 z2=>?_);have hxo:eX x.l s':=by rw [gm];exact (GA.2 ho).HR z1 z2
  have hxr:mA x.l s' out:=by rw [gm];exact (J6 hrun).HR z1 z2
  simp only [aR,reduceAdd,reduceEqDiff,reduceIte,l2,AV.beq_refl,Bool.and_self,if_true,Rj,cT (Rk x s' out)];exact zR ho x s' out H1.next _ gm z1 z2 hxo hxr ⟨by rw [Heap.aM];omega,aA _ _⟩ ((e0.trans e1).trans (bu.alloc _ _)) (by omega)
theorem L7{rules:Sl aP}(lu:∀ r ∈ rules.l,r.ok)(jN:∀ r ∈ rules.l,r.mC)(lU:s.ok)
  (LM:¬ eX rules.l s->∀ h',bu h h'->K (.ret .ez) h'=true)
  (zR:eX rules.l s->∀ (x:Sl aP) (s' all:cM) N h',x.l=rules.l.map gw->s'.size=s.size->s'.aC.l.map bH=s.aC.l.map bH->eX x.l s'->mA x.l s' all->eA x N h' s' all .ax->bu h h'->h.next<=N->K (.ret (.ptr N 0)) h'=true) :
  Sem TP 13 [an aO 3 rules,.agg (ak s)] h K:=by
 refine F.Dh ?_;rw [F.EY];simp only [cT (bS s),aq];have g0:(h.alloc (.cells (ak s))).get h.next=some (.cells (ak s)):=aA _ _
 have e0:bu h (h.alloc (.cells (ak s))):=bu.alloc _ _;have n0:(h.alloc (.cells (ak s))).next=h.next+1:=Heap.aM _ _
 generalize (h.alloc (.cells (ak s)))=H at g0 e0 n0 ⊢;have l0:ag (some 2) (.ptr h.next 0) H=some (.agg (ak s)):=by rw [aj g0,bV (cs:=ak s) (n:=2) rfl]
 simp only [l0,aq];refine ah (bG lu jN lU (fun e he=>?_) fun ho=>?_)
 ·simp only [aR,reduceAdd,reduceEqDiff,reduceIte,cA,eT (vj he).1,Bool.not_false];exact LM (vj he).2 _ e0
 ·simp only [aR,reduceAdd,reduceEqDiff,reduceIte,cA,decide_true,Bool.not_true,l0];refine ah (Rl lu jN lU (fun e he=>absurd ho (vj he).2) fun _ x s' all N h' a1 a2 a3 a4 a5 a6 a7 a8=>?_);simp only [aR,reduceAdd,reduceEqDiff,reduceIte];exact zR ho x s' all N h' a1 a2 a3 a4 a5 a6 (e0.trans a7) (by omega)
theorem OI{a b:List Int}{l m:List (List Int)}(h1:iR (a :: l))(h2:iR (b :: m))(h:∀ u,u ∈ a :: l↔u ∈ b :: m):a=b:=by
 have p1:=pairwise_cons.1 h1;have p2:=pairwise_cons.1 h2;rcases mem_cons.1 ((h a).1 mem_cons_self) with e|e
 ·exact e
 ·rcases mem_cons.1 ((h b).2 mem_cons_self) with f|f
  ·exact f.symm
  ·have:=j4 (p2.1 a e) (p1.1 b f);rw [gL] at this;cases this
theorem uu:∀ {l m:List (List Int)},iR l->iR m->(∀ u,u ∈ l↔u ∈ m)->l=m
 |[],[],_,_,_=>rfl
 |a :: l,[],_,_,h=>absurd ((h a).1 mem_cons_self) (by simp)
 |[],b :: m,_,_,h=>absurd ((h b).2 mem_cons_self) (by simp)
 |a :: l,b :: m,h1,h2,h=>by
  obtain rfl:=OI h1 h2 h;have p1:=pairwise_cons.1 h1;have p2:=pairwise_cons.1 h2
  have:l=m:=uu p1.2 p2.2 fun u=>by
   constructor
   ·intro hu;rcases mem_cons.1 ((h u).1 (mem_cons_of_mem _ hu)) with e|e
    ·subst e;have:=p1.1 u hu;rw [gL] at this;cases this
    ·exact e
   ·intro hu;rcases mem_cons.1 ((h u).2 (mem_cons_of_mem _ hu)) with e|e
    ·subst e;have:=p2.1 u hu;rw [gL] at this;cases this
    ·exact e
  rw [this]
structure Rm (L:List (List Int)) (t:List Int) (is:Bool) (L':List (List Int)):Prop where
 sort:iR L'
 mem:∀ u,u ∈ L'↔(u ∈ L/\u≠t)\/(is=true/\u=t)
theorem Rm.det{L A B:List (List Int)}(a:Rm L t is A)(b:Rm L t is B):A=B:=
 uu a.sort b.sort fun u=>by rw [a.mem,b.mem]
theorem pK.list(hp:pK s j r t is s'):∃ L,Rm (r.aN.l.map Sl.l) t is L/\s'.aC.l.map bH=(s.aC.l.map bH).set j (r.name,r.arity,L):=by
 obtain ⟨ts,h1,h2,h3⟩:=hp.aC;exact ⟨ts,⟨h1,h2⟩,h3⟩
theorem pK.at{s s':cM}{j:Nat}{r r':Rel}{t:List Int}{is:Bool}(hp:pK s j r t is s')(hr:s.aC.l[j]?=some r)(sr:s'.aC.l[j]?=some r'):r'.name=r.name/\r'.arity=r.arity/\Rm (r.aN.l.map Sl.l) t is (r'.aN.l.map Sl.l):=by
 obtain ⟨L,h1,h2⟩:=hp.list;have hl:j<s.aC.l.length:=(jJ.1 hr).1;have e:(s'.aC.l.map bH)[j]?=some (r.name,r.arity,L):=by rw [h2,getElem?_set_self (by simpa using hl)]
 rw [getElem?_map,sr,map_some,Option.some.injEq] at e;have e1:r'.name=r.name:=congrArg (·.1) e;have e2:r'.arity=r.arity:=congrArg (·.2.1) e;have e3:r'.aN.l.map Sl.l=L:=congrArg (·.2.2) e;exact ⟨e1,e2,by rw [e3];exact h1⟩
theorem pK.det{s s' a b:cM}{j:Nat}{r r':Rel}{t:List Int}{is:Bool}(hz:s.size=s'.size)(hd:s.aC.l.map bH=s'.aC.l.map bH)(hr:s.aC.l[j]?=some r)(sr:s'.aC.l[j]?=some r')(ha:pK s j r t is a)(hb:pK s' j r' t is b) :
  a.size=b.size/\a.aC.l.map bH=b.aC.l.map bH:=by
 have e:bH r=bH r':=by
  have:=congrArg (·[j]?) hd;simp only [getElem?_map,hr,sr,map_some,Option.some.injEq] at this;exact this
 have e1:r.name=r'.name:=congrArg (·.1) e;have e2:r.arity=r'.arity:=congrArg (·.2.1) e;have e3:r.aN.l.map Sl.l=r'.aN.l.map Sl.l:=congrArg (·.2.2) e;obtain ⟨A,a1,a2⟩:=ha.list;obtain ⟨B,b1,b2⟩:=hb.list;rw [e3] at a1;obtain rfl:=a1.det b1;exact ⟨by rw [ha.size,hb.size,hz],by rw [a2,b2,hd,e1,e2]⟩
def qW(s:cM)(nm:b6)(t:List Int):Prop:=∃ (i:Nat) (r:Rel),s.aC.l[i]?=some r/\r.name=nm/\t ∈ r.aN.l.map Sl.l
theorem vq(hv:cG s=true)(hq:s.aC.l[i]?=some q)(hr:s.aC.l[j]?=some r)(hn:q.name=r.name):i=j:=by
 have Qs:=pairwise_iff_getElem.1 (rT hv);obtain ⟨y1,y2⟩:=jJ.1 hq;obtain ⟨y3,y4⟩:=jJ.1 hr;rcases Nat.lt_trichotomy i j with h|h|h
 ·exact absurd (by rw [getElem_map,getElem_map,y2,y4];exact hn) (Qs i j (by simpa using y1) (by simpa using y3) h)
 ·exact h
 ·exact absurd (by rw [getElem_map,getElem_map,y2,y4];exact hn.symm) (Qs j i (by simpa using y3) (by simpa using y1) h)
theorem UA(hv:cG s=true){t0:List Int}(hr:s.aC.l[j]?=some r)(hp:pK s j r t0 is s')(nm:b6)(t:List Int) :
  qW s' nm t↔(qW s nm t/\¬ (r.name=nm/\t0=t))\/(is=true/\r.name=nm/\t0=t):=by
 obtain ⟨L,h1,h2⟩:=hp.list;have hl:j<s.aC.l.length:=(jJ.1 hr).1;have hlen:s'.aC.l.length=s.aC.l.length:=by have:=congrArg List.length h2;simpa using this
 obtain ⟨r',sr⟩:∃ r',s'.aC.l[j]?=some r':=⟨s'.aC.l[j]'(by omega),ep (by omega)⟩
 obtain ⟨e1,e2,e3⟩:=hp.at hr sr
 have off:∀ i,i≠j->(s'.aC.l[i]?).map bH=(s.aC.l[i]?).map bH:=fun i hi=>by
  rw [<- getElem?_map,h2,getElem?_set_ne (Ne.symm hi),getElem?_map]
 constructor
 ·rintro ⟨i,q,hq,hn,ht⟩;by_cases hi:i=j
  ·subst hi;rw [sr] at hq;cases hq;rcases (e3.mem t).1 ht with ⟨a,b⟩|⟨a,b⟩
   ·exact .inl ⟨⟨i,r,hr,by rw [<- e1];exact hn,a⟩,fun h=>b h.2.symm⟩
   ·exact .inr ⟨a,by rw [<- e1];exact hn,b.symm⟩
  ·have ho:=off i hi;rw [hq] at ho
   cases hs:s.aC.l[i]? with
   |none=>rw [hs] at ho;cases ho
   |some p=>
    rw [hs] at ho;simp only [map_some,Option.some.injEq] at ho;have f1:q.name=p.name:=congrArg (·.1) ho;have f3:q.aN.l.map Sl.l=p.aN.l.map Sl.l:=congrArg (·.2.2) ho;refine .inl ⟨⟨i,p,hs,by rw [<- f1];exact hn,by rw [<- f3];exact ht⟩,fun h=>hi (vq hv hs hr (by rw [<- f1,hn,h.1]))⟩
 ·rintro (⟨⟨i,p,hs,hn,ht⟩,hne⟩|⟨a,b,c⟩)
  ·by_cases hi:i=j
   ·subst hi;rw [hr] at hs;cases hs;exact ⟨i,r',sr,by rw [e1];exact hn,(e3.mem t).2 (.inl ⟨ht,fun h=>hne ⟨hn,h.symm⟩⟩)⟩
   ·have ho:=off i hi;rw [hs] at ho
    cases hq:s'.aC.l[i]? with
    |none=>rw [hq] at ho;cases ho
    |some q=>
     rw [hq] at ho;simp only [map_some,Option.some.injEq] at ho;have f1:q.name=p.name:=congrArg (·.1) ho;have f3:q.aN.l.map Sl.l=p.aN.l.map Sl.l:=congrArg (·.2.2) ho;exact ⟨i,q,hq,by rw [f1];exact hn,by rw [f3];exact ht⟩
  ·exact ⟨j,r',sr,by rw [e1];exact b,(e3.mem t).2 (.inr ⟨a,c.symm⟩)⟩
theorem Xt(ha:cG a=true)(hb:cG b=true)(DY:(a.aC.l.map bH).map ku=(b.aC.l.map bH).map ku)(h:∀ nm t,qW a nm t↔qW b nm t):a.aC.l.map bH=b.aC.l.map bH:=by
 have hlen:a.aC.l.length=b.aC.l.length:=by have:=congrArg List.length DY;simpa using this
 refine ext_getElem? fun i=>?_;rw [getElem?_map,getElem?_map];by_cases hi:i<a.aC.l.length
 ·have h1:a.aC.l[i]?=some a.aC.l[i]:=ep hi;have h2:b.aC.l[i]?=some (b.aC.l[i]'(by omega)):=ep (by omega);generalize a.aC.l[i]=q at h1;generalize b.aC.l[i]'(by omega)=u at h2
  have e:ku (bH q)=ku (bH u):=by
   have:=congrArg (·[i]?) DY;simp only [getElem?_map,h1,h2,map_some,Option.some.injEq] at this;exact this
  have e1:q.name=u.name:=congrArg (·.1) e;have e2:q.arity=u.arity:=congrArg (·.2) e;obtain ⟨_,k,_,_,_,kt⟩:=(eS.1 ha).rel _ (List.mem_map_of_mem (ig h1));obtain ⟨_,m,_,_,_,mt⟩:=(eS.1 hb).rel _ (List.mem_map_of_mem (ig h2))
  have e3:q.aN.l.map Sl.l=u.aN.l.map Sl.l:=uu kt.2 mt.2 fun t=>by
   constructor
   ·intro ht;obtain ⟨i',p,hp,hn,htp⟩:=(h q.name t).1 ⟨i,q,h1,rfl,ht⟩;obtain rfl:=vq hb hp h2 (by rw [hn,e1]);rw [h2] at hp;cases hp;exact htp
   ·intro ht;obtain ⟨i',p,hp,hn,htp⟩:=(h u.name t).2 ⟨i,u,h2,rfl,ht⟩;obtain rfl:=vq ha hp h1 (by rw [hn,e1]);rw [h1] at hp;cases hp;exact htp
  rw [h1,h2];simp [bH,e1,e2,e3]
 ·rw [getElem?_eq_none (by omega),getElem?_eq_none (by omega)]
def pX(s:cM)(a:lE):Prop:=(s.aC.l.find? (gv a.name (a.t.l.length:Int))).isSome=true/\jC s.size a.t.l=true
def Rn(s:cM)(d:List lE)(nm:b6)(t:List Int):Prop:=∃ a ∈ d,pX s a/\a.name=nm/\a.t.l=t
structure uv (s0 s:cM) (d:List lE):Prop where
 size:s.size=s0.size
 valid:cG s=true
 sig:(s.aC.l.map bH).map ku=(s0.aC.l.map bH).map ku
 mem:∀ nm t,qW s nm t↔(∃ a ∈ d,pX s0 a/\a.name=nm/\a.t.l=t/\a.to=true)\/(qW s0 nm t/\¬ Rn s0 d nm t)
theorem uv.nil(hv:cG s=true):uv s s []:=⟨rfl,hv,rfl,fun nm t=>by simp [Rn]⟩
theorem uv.fP{d:List lE}(x:uv s0 s d)(a:lE):pX s a↔pX s0 a:=by
 unfold pX;rw [x.size]
 have:(s.aC.l.find? (gv a.name (a.t.l.length:Int))).isSome=(s0.aC.l.find? (gv a.name (a.t.l.length:Int))).isSome:=by
  rw [Bool.eq_iff_iff,find?_isSome,find?_isSome];constructor
  ·rintro ⟨r,hr,h⟩;obtain ⟨y,hy,e1,e2⟩:=yY x.sig hr;exact ⟨y,hy,by unfold gv at h ⊢;rw [e1,e2];exact h⟩
  ·rintro ⟨r,hr,h⟩;obtain ⟨y,hy,e1,e2⟩:=yY x.sig.symm hr;exact ⟨y,hy,by unfold gv at h ⊢;rw [e1,e2];exact h⟩
 rw [this]
theorem uv.put{d:List lE}(x:uv s0 s d){a:lE}(hr:s.aC.l[j]?=some r)(hn:r.name=a.name)(hk:r.arity=(a.t.l.length:Int))(hg:pX s a)(hfr:∀ b ∈ d,¬ (b.name=a.name/\b.t.l=a.t.l))(hp:pK s j r a.t.l a.to s'):uv s0 s' (d++[a]):=by
 have hg0:=(x.fP a).1 hg;have hin:=hg.2;obtain ⟨n,hz,_⟩:=jA x.valid;refine ⟨by rw [hp.size,x.size],Gv x.valid hr hk rfl (by rw [hz] at hin ⊢;simpa using hin) hp,by rw [vi hr hp];exact x.sig,fun nm t=>?_⟩;rw [UA x.valid hr hp,x.mem,hn];unfold Rn;simp only [mem_append,mem_singleton,or_and_right,exists_or,exists_eq_left,hg0,_root_.true_and];by_cases hc:a.name=nm/\a.t.l=t
 ·obtain ⟨c1,c2⟩:=hc;have y9:¬ ∃ b ∈ d,pX s0 b/\b.name=nm/\b.t.l=t/\b.to=true:=fun ⟨b,hb,_,h1,h2,_⟩=>hfr b hb ⟨by rw [h1,c1],by rw [h2,c2]⟩;simp only [c1,c2,_root_.and_self,_root_.not_true,_root_.and_false,_root_.false_or,_root_.true_and,_root_.or_true,_root_.or_false,_root_.and_true,iff_def,y9]
 ·simp only [hc,not_false_iff,_root_.and_true,_root_.or_false,_root_.and_false];have XM:¬ (a.name=nm/\a.t.l=t/\a.to=true):=fun h=>hc ⟨h.1,h.2.1⟩;simp only [XM,_root_.or_false]
theorem UB(N:Nat):jK (.pointer 78) (.ptr N 0) .ez=some (.bool false):=rfl
theorem Ro:jK (.pointer 78) .ez .ez=some (.bool true):=rfl
structure lX (a b:cM):Prop where
 size:a.size=b.size
 OU:a.aC.l.map bH=b.aC.l.map bH
theorem lX.symm{a b:cM}(h:lX a b):lX b a:=⟨h.size.symm,h.OU.symm⟩
theorem lX.trans{a b c:cM}(h:lX a b)(k:lX b c):lX a c:=⟨h.size.trans k.size,h.OU.trans k.OU⟩
theorem lX.valid(h:lX a b)(hv:cG b=true):cG a=true:=by rw [eS,h.size,h.OU];exact eS.1 hv
theorem lX.get(h:lX a b)(hr:b.aC.l[j]?=some r):∃ q,a.aC.l[j]?=some q/\bH q=bH r:=by
 have:=congrArg (·[j]?) h.OU;simp only [getElem?_map,hr,map_some] at this
 cases hq:a.aC.l[j]? with
 |none=>rw [hq] at this;cases this
 |some q=>rw [hq] at this;exact ⟨q,rfl,by simpa using this⟩
theorem mA.afD{t:cM}(ha:mA rs s a)(hb:mA rs t b)(h:lX s t):lX a b:=by
 obtain ⟨x,y⟩:=ha.det hb h.size h.OU;exact ⟨x,y⟩
theorem Rp(hv:cG s=true){k:Int}(hq:s.aC.l[j]?=some q)(hs:gv nm k q=true):jb (gv nm k) s.aC.l=(j:Int):=by
 rcases lK (gv nm k) s.aC.l with ⟨_,h⟩|⟨i,v,h1,h2,h3⟩
 ·rw [find?_eq_none] at h;exact absurd hs (h q (ig hq))
 ·have FB:=find?_some h3;simp only [gv,and_eq_true,beq_iff_eq] at hs FB;rw [h1,vq hv h2 hq (by rw [FB.1,hs.1])]
theorem UC(h:ku (bH q)=ku (bH r))(nm:b6)(k:Int):gv nm k q=gv nm k r:=by
 have e1:q.name=r.name:=congrArg (·.1) h;have e2:q.arity=r.arity:=congrArg (·.2) h;unfold gv;rw [e1,e2]
theorem Rq{r':Rel}(h:lX s s')(hr:s.aC.l[j]?=some r)(sr:s'.aC.l[j]?=some r')(ha:pK s j r t is a)(hb:pK s' j r' t is b):lX a b:=by
 obtain ⟨x,y⟩:=pK.det h.size h.OU hr sr ha hb;exact ⟨x,y⟩
theorem nS(h:lX a b)(hs:a.small){H:Heap}(hK:K (.ret (.bool true)) H=true):Sem TP 16 [.agg (ak a),.agg (ak b)] H K:=by
 refine Sem.data (r:=.bool true) ?_ (by simp [AV.cL,AV.pure,eu]) hK;exact HO h.size h.OU hs fun _=>gh rfl
theorem jc.lt{l:List OE}(o:jc N h d l){b:Nat}(hb:cD d=some b):b≠N/\b<h.next:=by
 cases o with
 |nil=>cases hb
 |row c _ cs h1 h2 _ _ _=>cases hb;exact ⟨h1,h2⟩
theorem lX.small{a b:cM}(h:lX a b)(hv:cG b=true):a.small:=(eo (h.valid hv)).1
theorem L8{l:List (List Int)}(h:iR l):l.Nodup:=by
 refine List.Pairwise.imp ?_ h;intro a b pG e;rw [e,gL] at pG;cases pG
structure Fs (a b:cM):Prop where
 va:cG a=true
 vb:cG b=true
 sig:(a.aC.l.map bH).map ku=(b.aC.l.map bH).map ku
theorem Fs.symm{a b:cM}(x:Fs a b):Fs b a:=⟨x.vb,x.va,x.sig.symm⟩
theorem Fs.len(x:Fs a b):a.aC.l.length=b.aC.l.length:=by have:=congrArg List.length x.sig;simpa using this
theorem Fs.at{a b:cM}(x:Fs a b){i:Nat}{p q:Rel}(hp:a.aC.l[i]?=some p)(hq:b.aC.l[i]?=some q):p.name=q.name/\p.arity=q.arity:=by
 have:=congrArg (·[i]?) x.sig;simp only [getElem?_map,hp,hq,map_some,Option.some.injEq] at this;exact ⟨congrArg (·.1) this,congrArg (·.2) this⟩
theorem uw{α β:Type}:∀ (l:List α) (m:List β) (i:Nat) (x:α×β),(l.zip m)[i]?=some x↔l[i]?=some x.1/\m[i]?=some x.2
 |[],m,i,x=>by simp
 |a :: l,[],i,x=>by simp
 |a :: l,b :: m,0,x=>by
  simp only [zip_cons_cons,getElem?_cons_zero,Option.some.injEq];constructor
  ·rintro rfl;exact ⟨rfl,rfl⟩
  ·rintro ⟨h1,h2⟩;exact Prod.ext h1 h2
 |a :: l,b :: m,i+1,x=>by simpa using uw l m i x
theorem yZ(x:Fs a b)(nm:b6)(t:List Int):(nm,t) ∈ jI (a.aC.l.map bH) (b.aC.l.map bH)↔qW a nm t/\¬ qW b nm t:=by
 unfold jI;rw [mem_flatMap];constructor
 ·rintro ⟨⟨d,d'⟩,hd,hm⟩;obtain ⟨i,hi⟩:=getElem?_of_mem hd;rw [uw] at hi;obtain ⟨h1,h2⟩:=hi;rw [getElem?_map] at h1 h2
  cases hp:a.aC.l[i]? with
  |none=>rw [hp] at h1;cases h1
  |some p=>
   cases hq:b.aC.l[i]? with
   |none=>rw [hq] at h2;cases h2
   |some q=>
    rw [hp] at h1;rw [hq] at h2;simp only [map_some,Option.some.injEq] at h1 h2;subst h1;subst h2;unfold qT at hm;obtain ⟨t',ht,e⟩:=mem_map.1 hm;obtain ⟨t1,t2⟩:=mem_filter.1 ht;cases e;refine ⟨⟨i,p,hp,rfl,t1⟩,?_⟩;rintro ⟨i',q',nU,hn,ht'⟩;have hi:i'=i:=vq x.vb nU hq (by rw [hn];exact (x.at hp hq).1);subst hi;rw [hq] at nU;cases nU;have:decide (t ∈ (bH q).2.2)=true:=fE ht';rw [this] at t2;cases t2
 ·rintro ⟨⟨i,p,hp,hn,ht⟩,y9⟩;have hi:i<b.aC.l.length:=by have:=(jJ.1 hp).1;have:=x.len;omega
  have hq:b.aC.l[i]?=some b.aC.l[i]:=ep hi;generalize b.aC.l[i]=q at hq;refine ⟨(bH p,bH q),ig (i:=i) ((uw _ _ _ _).2 ⟨by rw [getElem?_map,hp];rfl,by rw [getElem?_map,hq];rfl⟩),?_⟩;unfold qT;refine mem_map.2 ⟨t,mem_filter.2 ⟨ht,?_⟩,by rw [<- hn];rfl⟩;have:decide (t ∈ (bH q).2.2)=false:=eT fun hin=>y9 ⟨i,q,hq,by rw [<- (x.at hp hq).1];exact hn,hin⟩;rw [this];rfl
theorem wB:∀ {la lb:List (b6×Int×List (List Int))},(la.map (·.1)).Nodup->(∀ d ∈ la,d.2.2.Nodup)->(jI la lb).Nodup
 |[],lb,_,_=>by simp [jI]
 |p :: la,[],_,_=>by simp [jI]
 |p :: la,q :: lb,hn,ht=>by
  rw [map_cons,nodup_cons] at hn;have ih:=wB (la:=la) (lb:=lb) hn.2 fun d hd=>ht d (mem_cons_of_mem _ hd);unfold jI at ih ⊢;rw [zip_cons_cons,flatMap_cons,nodup_append];refine ⟨?_,ih,?_⟩
  ·unfold qT;have:=List.Pairwise.filter (fun t=>!decide (t ∈ q.2.2)) (ht p mem_cons_self);exact List.Pairwise.map _ (fun a b pG e=>pG (congrArg Prod.snd e)) this
  ·intro u hu v hv e;subst e;unfold qT at hu;obtain ⟨t,_,rfl⟩:=mem_map.1 hu;obtain ⟨⟨d,d'⟩,hd,hm⟩:=mem_flatMap.1 hv;unfold qT at hm;obtain ⟨t',_,e⟩:=mem_map.1 hm;have hd1:d ∈ la:=(of_mem_zip hd).1;exact hn.1 (by rw [<- congrArg Prod.fst e];exact List.mem_map_of_mem hd1)
theorem Ec(va:cG a=true):(jI (a.aC.l.map bH) (b.aC.l.map bH)).Nodup:=by
 have hS:=eS.1 va;refine wB hS.names fun d hd=>?_;obtain ⟨_,k,_,_,_,kt⟩:=hS.rel d hd;exact L8 kt.2
theorem GB(x:Fs a b)(hz:s.size=a.size)(DY:(s.aC.l.map bH).map ku=(a.aC.l.map bH).map ku){c:lE}(hm:qW a c.name c.t.l\/(b.size=a.size/\qW b c.name c.t.l)):pX s c:=by
 have key:∀ u:cM,cG u=true->u.size=s.size->(s.aC.l.map bH).map ku=(u.aC.l.map bH).map ku->qW u c.name c.t.l->pX s c:=by
  rintro u vu hu hs ⟨i,r,hr,hn,ht⟩;have hS:=eS.1 vu;obtain ⟨_,k,k1,_,_,kt⟩:=hS.rel _ (List.mem_map_of_mem (ig hr));obtain ⟨t1,t2⟩:=kt.1 _ ht;have k1:r.arity=(k:Int):=k1;obtain ⟨y,hy,e1,e2⟩:=yY hs.symm (ig hr);refine ⟨?_,?_⟩
  ·rw [find?_isSome];refine ⟨y,hy,?_⟩;unfold gv;rw [e1,e2,k1,t1,hn];simp
  ·obtain ⟨n,A4,_⟩:=jA vu;rw [<- hu,A4];rw [A4] at t2;simpa using t2
 rcases hm with h|⟨hb,h⟩
 ·exact key a x.va hz.symm DY h
 ·exact key b x.vb (by rw [hb,hz]) (by rw [DY,x.sig]) h
def jx(ew fe:List mY):List lE:=ew.map (fun f=>⟨0,f.name,f.tuple,true⟩)++fe.map (fun f=>⟨0,f.name,f.tuple,false⟩)
structure iu (s0 s1:cM) (ew fe:List mY):Prop where
 sig:Fs s0 s1
 size:s1.size=s0.size
 ew:ew.map qq=jI (s1.aC.l.map bH) (s0.aC.l.map bH)
 fe:fe.map qq=jI (s0.aC.l.map bH) (s1.aC.l.map bH)
theorem iu.Ed{ew fe:List mY}(x:iu s0 s1 ew fe){f:mY}(hf:f ∈ ew):qW s1 f.name f.tuple.l/\¬ qW s0 f.name f.tuple.l:=
 (yZ x.sig.symm _ _).1 (by rw [<- x.ew];exact List.mem_map_of_mem (f:=qq) hf)
theorem iu.Ee{ew fe:List mY}(x:iu s0 s1 ew fe){f:mY}(hf:f ∈ fe):qW s0 f.name f.tuple.l/\¬ qW s1 f.name f.tuple.l:=
 (yZ x.sig _ _).1 (by rw [<- x.fe];exact List.mem_map_of_mem (f:=qq) hf)
theorem iu.apart{ew fe:List mY}(x:iu s0 s1 ew fe):(jx ew fe).Pairwise fun a b=>¬ (a.name=b.name/\a.t.l=b.t.l):=by
 have nd:∀ {l:List mY},(l.map qq).Nodup->∀ to,(l.map fun f=>(⟨0,f.name,f.tuple,to⟩:lE)).Pairwise fun a b=>¬ (a.name=b.name/\a.t.l=b.t.l):=by
  intro l h to;rw [pairwise_map];have h:l.Pairwise fun a b=>qq a≠qq b:=pairwise_map.1 h;exact h.imp fun {a b} pG e=>pG (Prod.ext e.1 e.2)
 unfold jx;rw [pairwise_append];refine ⟨nd (by rw [x.ew];exact Ec x.sig.vb) _,nd (by rw [x.fe];exact Ec x.sig.va) _,fun a ha b hb e=>?_⟩;obtain ⟨f,hf,rfl⟩:=mem_map.1 ha;obtain ⟨g,hg,rfl⟩:=mem_map.1 hb;have h1:=(x.Ed hf).2;have h2:=(x.Ee hg).1
 exact h1 (by
  show qW s0 f.name f.tuple.l;have e1:f.name=g.name:=e.1;have e2:f.tuple.l=g.tuple.l:=e.2
  rw [e1,e2];exact h2)
theorem iu.fP{ew fe:List mY}(x:iu s0 s1 ew fe){a:lE}(ha:a ∈ jx ew fe):pX s0 a:=by
 rcases mem_append.1 ha with h|h
 ·obtain ⟨f,hf,rfl⟩:=mem_map.1 h;exact GB x.sig rfl rfl (.inr ⟨x.size,(x.Ed hf).1⟩)
 ·obtain ⟨f,hf,rfl⟩:=mem_map.1 h;exact GB x.sig rfl rfl (.inl (x.Ee hf).1)
theorem iu.has{ew fe:List mY}(x:iu s0 s1 ew fe){a:lE}(ha:(jx ew fe)[i]?=some a)(y:uv s0 s ((jx ew fe).take i)):qW s a.name a.t.l↔a.to=false:=by
 have hfr:∀ b ∈ (jx ew fe).take i,¬ (b.name=a.name/\b.t.l=a.t.l):=fun b hb=>by
  obtain ⟨k,hk⟩:=getElem?_of_mem hb;have hki:k<i:=by have:=(jJ.1 hk).1;rw [length_take] at this;omega
  rw [getElem?_take,if_pos hki] at hk;obtain ⟨q1,q2⟩:=jJ.1 hk;obtain ⟨q3,q4⟩:=jJ.1 ha;have:=pairwise_iff_getElem.1 x.apart k i q1 q3 hki
  rwa [q2,q4] at this
 rw [y.mem];have h1:¬ ∃ b ∈ (jx ew fe).take i,pX s0 b/\b.name=a.name/\b.t.l=a.t.l/\b.to=true:=fun ⟨b,hb,_,e1,e2,_⟩=>hfr b hb ⟨e1,e2⟩;have h2:¬ Rn s0 ((jx ew fe).take i) a.name a.t.l:=fun ⟨b,hb,_,e1,e2⟩=>hfr b hb ⟨e1,e2⟩;simp only [h1,h2,_root_.false_or,not_false_iff,_root_.and_true];rcases mem_append.1 (ig ha) with h|h
 ·obtain ⟨f,hf,rfl⟩:=mem_map.1 h;have:=(x.Ed hf).2;simp [this]
 ·obtain ⟨f,hf,rfl⟩:=mem_map.1 h;have:=(x.Ee hf).1;simp [this]
theorem iu.fresh{ew fe:List mY}(x:iu s0 s1 ew fe){a:lE}(ha:(jx ew fe)[i]?=some a):∀ b ∈ (jx ew fe).take i,¬ (b.name=a.name/\b.t.l=a.t.l):=fun b hb=>by
 obtain ⟨k,hk⟩:=getElem?_of_mem hb;have hki:k<i:=by have:=(jJ.1 hk).1;rw [length_take] at this;omega
 rw [getElem?_take,if_pos hki] at hk;obtain ⟨q1,q2⟩:=jJ.1 hk;obtain ⟨q3,q4⟩:=jJ.1 ha;have:=pairwise_iff_getElem.1 x.apart k i q1 q3 hki
 rwa [q2,q4] at this
theorem iu.all{ew fe:List mY}(x:iu s0 s1 ew fe)(y:uv s0 s (jx ew fe)):lX s s1:=by
 refine ⟨by rw [y.size,x.size],Xt y.valid x.sig.vb (by rw [y.sig,x.sig.sig]) fun nm t=>?_⟩;rw [y.mem];have c1:=yZ x.sig.symm nm t;have c2:=yZ x.sig nm t;rw [<- x.ew] at c1;rw [<- x.fe] at c2
 have inC:(nm,t) ∈ ew.map qq↔∃ f ∈ ew,f.name=nm/\f.tuple.l=t:=by
  rw [mem_map];constructor
  ·rintro ⟨f,hf,e⟩;exact ⟨f,hf,congrArg (·.1) e,congrArg (·.2) e⟩
  ·rintro ⟨f,hf,e1,e2⟩;exact ⟨f,hf,Prod.ext e1 e2⟩
 have inW:(nm,t) ∈ fe.map qq↔∃ f ∈ fe,f.name=nm/\f.tuple.l=t:=by
  rw [mem_map];constructor
  ·rintro ⟨f,hf,e⟩;exact ⟨f,hf,congrArg (·.1) e,congrArg (·.2) e⟩
  ·rintro ⟨f,hf,e1,e2⟩;exact ⟨f,hf,Prod.ext e1 e2⟩
 have p1:(∃ a ∈ jx ew fe,pX s0 a/\a.name=nm/\a.t.l=t/\a.to=true)↔(nm,t) ∈ ew.map qq:=by
  rw [inC];constructor
  ·rintro ⟨a,ha,_,e1,e2,e3⟩;rcases mem_append.1 ha with h|h
   ·obtain ⟨f,hf,rfl⟩:=mem_map.1 h;exact ⟨f,hf,e1,e2⟩
   ·obtain ⟨f,hf,rfl⟩:=mem_map.1 h;cases e3
  ·rintro ⟨f,hf,e1,e2⟩;have ha:(⟨0,f.name,f.tuple,true⟩:lE) ∈ jx ew fe:=mem_append.2 (.inl (List.mem_map_of_mem (f:=fun f:mY=>(⟨0,f.name,f.tuple,true⟩:lE)) hf));exact ⟨_,ha,x.fP ha,e1,e2,rfl⟩
 have p2:Rn s0 (jx ew fe) nm t↔(nm,t) ∈ ew.map qq\/(nm,t) ∈ fe.map qq:=by
  rw [inC,inW];constructor
  ·rintro ⟨a,ha,_,e1,e2⟩;rcases mem_append.1 ha with h|h
   ·obtain ⟨f,hf,rfl⟩:=mem_map.1 h;exact .inl ⟨f,hf,e1,e2⟩
   ·obtain ⟨f,hf,rfl⟩:=mem_map.1 h;exact .inr ⟨f,hf,e1,e2⟩
  ·rintro (⟨f,hf,e1,e2⟩|⟨f,hf,e1,e2⟩)
   ·have ha:(⟨0,f.name,f.tuple,true⟩:lE) ∈ jx ew fe:=mem_append.2 (.inl (List.mem_map_of_mem (f:=fun f:mY=>(⟨0,f.name,f.tuple,true⟩:lE)) hf));exact ⟨_,ha,x.fP ha,e1,e2⟩
   ·have ha:(⟨0,f.name,f.tuple,false⟩:lE) ∈ jx ew fe:=mem_append.2 (.inr (List.mem_map_of_mem (f:=fun f:mY=>(⟨0,f.name,f.tuple,false⟩:lE)) hf));exact ⟨_,ha,x.fP ha,e1,e2⟩
 rw [p1,p2,c1,c2];by_cases h0:qW s0 nm t<;>by_cases h1:qW s1 nm t<;>simp [h0,h1]
theorem OJ(s:St):dh TP s Tryz.f17.results.toList=(match ag (some 2) (s.env 6) s.h,(some [s.env 7]:Option (List AV)) with|some v,some vs=>some (v :: vs)|_,_=>none):=by kernel_rfl
theorem GC:∀ {la lb:List (b6×Int×List (List Int))} {M:Nat},(∀ d ∈ la,d.2.2.length<=M)->(jI la lb).length<=la.length*M
 |[],lb,M,_=>by simp [jI]
 |p :: la,[],M,_=>by simp [jI]
 |p :: la,q :: lb,M,h=>by
  have ih:=GC (la:=la) (lb:=lb) (M:=M) fun d hd=>h d (mem_cons_of_mem _ hd);unfold jI at ih ⊢;rw [zip_cons_cons,flatMap_cons,length_append,length_cons,Nat.add_mul,Nat.one_mul]
  have h1:(qT p q).length<=M:=by
   unfold qT;rw [length_map];exact Nat.le_trans (length_filter_le _ _) (h p mem_cons_self)
  dsimp only;omega
theorem iu.mC{ew fe:List mY}(x:iu s0 s1 ew fe):ew.length<=10000000/\fe.length<=10000000:=by
 have bd:∀ {a b:cM},cG a=true->(jI (a.aC.l.map bH) (b.aC.l.map bH)).length<=10000000:=fun {a b} va=>by
  have hs:=(eo va).1
  have h1:=GC (la:=a.aC.l.map bH) (lb:=b.aC.l.map bH) (M:=10000) fun d hd=>by
   obtain ⟨r,hr,rfl⟩:=mem_map.1 hd;have:=hs.Fj r hr;simpa [bH] using this
  rw [length_map] at h1;have h2:=hs.aC;have h3:a.aC.l.length*10000<=1000*10000:=mul_le_mul_right _ h2;omega
 have h1:=bd (b:=s0) x.sig.vb;have h2:=bd (b:=s1) x.sig.va;rw [<- x.ew,length_map] at h1;rw [<- x.fe,length_map] at h2;exact ⟨h1,h2⟩
theorem M8(hv:cG s=true){a:lE}(hg:pX s a):∃ (j:Nat) (r:Rel),jb (gv a.name (a.t.l.length:Int)) s.aC.l=(j:Int)/\s.aC.l[j]?=some r/\r.name=a.name/\r.arity=(a.t.l.length:Int)/\(qW s a.name a.t.l↔a.t.l ∈ r.aN.l.map Sl.l):=by
 rcases lK (gv a.name (a.t.l.length:Int)) s.aC.l with ⟨_,w⟩|⟨j,r,w1,w2,w3⟩
 ·have:=hg.1;rw [w] at this;cases this
 ·have hs:=find?_some w3;simp only [gv,and_eq_true,beq_iff_eq,decide_eq_true_eq] at hs;refine ⟨j,r,w1,w2,hs.1,hs.2,?_,fun h=>⟨j,r,w2,hs.1,h⟩⟩;rintro ⟨i,q,hq,hn,ht⟩;have hi:i=j:=vq hv hq w2 (by rw [hn,hs.1]);subst hi;rw [w2] at hq;cases hq;exact ht
theorem Rr(hv:cG s=true){a:lE}(hg:pX s a):a.t.l.length<=12:=by
 obtain ⟨j,r,_,h2,_,h4,_⟩:=M8 hv hg;obtain ⟨_,k,k1,k2,_⟩:=(eS.1 hv).rel _ (List.mem_map_of_mem (ig h2));have k1:r.arity=(k:Int):=k1;have k2:k<=12:=k2;omega
set_option maxHeartbeats 2000000 in
theorem dy{s0 s1:cM}{ew fe:Sl mY}(x:iu s0 s1 ew.l fe.l){h:Heap}{K:Out->Heap->Bool}
  (hK:∀ (s':cM) h',bu h h'->lX s' s1->K (.ret (.tuple [.agg (ak s'),.bool true])) h'=true):Sem TP 17 [.agg (ak s0),an iS 2 ew,an iS 2 fe] h K:=by
 obtain ⟨fc,fw⟩:=x.mC;have hD:(jx ew.l fe.l).length=ew.l.length+fe.l.length:=by unfold jx;simp
 refine F.Bx ?_;rw [F.Di];simp only [cT (bS s0),aq,Heap.aM];have g0:((h.alloc (.cells (ak s0))).alloc (.cells [.int .i64 0,.ax])).get h.next=some (.cells (ak s0)):=by rw [Heap.aV,Heap.aM,if_neg (by omega)];exact aA _ _
 have g1:((h.alloc (.cells (ak s0))).alloc (.cells [.int .i64 0,.ax])).get (h.next+1)=some (.cells (ak ⟨0,none⟩)):=aA _ _;have x0:bu h ((h.alloc (.cells (ak s0))).alloc (.cells [.int .i64 0,.ax])):=(bu.alloc _ _).trans (bu.alloc _ _);have n0:((h.alloc (.cells (ak s0))).alloc (.cells [.int .i64 0,.ax])).next=h.next+2:=rfl
 generalize ((h.alloc (.cells (ak s0))).alloc (.cells [.int .i64 0,.ax]))=H at g0 g1 x0 n0 ⊢
 refine aE 0 (ew.l.length+fe.l.length) (zero_le _) (fun i e h'=>∃ s,uv s0 s ((jx ew.l fe.l).take i)/\h'.get h.next=some (.cells (ak s))/\h'.get (h.next+1)=some (.cells (ak ⟨0,none⟩))/\bu h h'/\h.next+2<=h'.next/\e 1=an iS 2 ew/\e 2=an iS 2 fe/\e 3 = .ptr h.next 0/\e 6 = .ptr (h.next+1) 0/\e 8 = .int .i64 (i:Int))
  ⟨s0,by rw [take_zero];exact uv.nil x.sig.va,g0,g1,x0,by omega,rfl,rfl,rfl,rfl,rfl⟩ ?_ ?_
 ·rintro i e h' _ hi ⟨s,y,p0,p1,hx,pF,e1,e2,e3,e6,e8⟩ K' hn fK hr hp;have hiD:i<(jx ew.l fe.l).length:=by omega
  have ha:(jx ew.l fe.l)[i]?=some (jx ew.l fe.l)[i]:=ep hiD;generalize haa:(jx ew.l fe.l)[i]=a at ha;clear haa
  have J0:∀ (E:Env) (H:Heap) (q:Nat),E 1=an iS 2 ew->E 2=an iS 2 fe->E 3 = .ptr h.next 0->E 6 = .ptr (h.next+1) 0->E 8 = .int .i64 (i:Int)->E 9 = .ptr q 0->E 10 = .bool a.to->H.get q=some (.cells [.str a.name,an encI 1 a.t]) ->
    H.get h.next=some (.cells (ak s))->H.get (h.next+1)=some (.cells (ak ⟨0,none⟩))->bu h H->h.next+2<=H.next->F.dy.J0 K' ⟨E,74,[],H⟩=true:=by
   intro E H q E1 E2 E3 E6 E8 E9 E10 gq gs g6 hxH hnH;have hg:=(y.fP a).2 (x.fP (ig ha));obtain ⟨j,r,w1,w2,w3,w4,w5⟩:=M8 y.valid hg;have hl:=Rr y.valid hg;have lU:=(eo y.valid).2
   have afG:decide (a.t.l ∈ r.aN.l.map Sl.l) = !a.to:=by
    have:=x.has ha y;rw [w5] at this
    cases X2:a.to with
    |true=>rw [X2] at this;simp only [Bool.not_true,decide_eq_false_iff_not];intro hh;exact absurd (this.1 hh) (by simp)
    |false=>rw [X2] at this;simp only [Bool.not_false,decide_eq_true_eq];exact this.2 rfl
   have ls:ag (some 2) (.ptr h.next 0) H=some (.agg (ak s)):=by rw [aj gs,bV (cs:=ak s) (n:=2) rfl]
   have l0:ag none (.ptr q 0) H=some (.str a.name):=by rw [aj gq];rfl
   have l1:ag none (.ptr q 1) H=some (an encI 1 a.t):=by rw [aj gq];rfl
   rw [F.dy.yu];simp only [aR,reduceAdd,reduceEqDiff,reduceIte,E3,E9,E10,ls,l0,l1];refine ah (Ac lU y.valid w1 w2 w4 (by unfold cN;omega) ?_);simp only [aR,reduceAdd,reduceEqDiff,reduceIte,afG,E3,E9,E10,ls,l0,l1];refine ah (Ae lU y.valid w1 w2 w4 hg.2 fun s' Ev=>?_);obtain ⟨H1,Fc,q1,qo1,qn1⟩:=cr (h:=H) (zs:=[.int .i64 0,.ax]) (cs:=ak s') (n:=2) rfl rfl (bS s');have e1':bu H H1:=⟨by omega,fun c hc=>qo1 c (by omega)⟩
   have lz:ag (some 2) (.ptr H.next 0) H1=some (.agg (ak s')):=by rw [aj q1,bV (cs:=ak s') (n:=2) rfl]
   have gs1:H1.get h.next=some (.cells (ak s)):=by rw [e1'.get _ (by omega)];exact gs
   have st:aS 2 (.ptr h.next 0) (.agg (ak s')) H1=some (H1.set h.next (.cells (ak s'))):=by
    rw [cq (n:=2) (v:=.agg (ak s')) gs1 rfl (bS s') (by simp [ak])];rfl
   have hne:((!a.to)==a.to)=false:=by cases a.to<;>rfl
   simp only [aR,reduceAdd,reduceEqDiff,reduceIte,Fc,cA,decide_true,Bool.not_true,E3,E8,E10,hne,lz,st,aI hi (by unfold cN;omega)];refine hn _ _ ⟨s',?_,by rw [Heap.aK,if_pos rfl],by rw [Heap.aK,if_neg (by omega),e1'.get _ (by omega)];exact g6,(hxH.trans e1').set (dL _) _,by rw [Heap.bl];omega,E1,E2,E3,E6,rfl⟩;rw [take_add_one,ha];exact y.put w2 w3 w4 hg (x.fresh ha) Ev
  have TW:aG .add (.int .i64 (ew.l.length:Int)) (.int .i64 (fe.l.length:Int))=some (.int .i64 ((ew.l.length+fe.l.length:Nat):Int)):=by
   rw [iF (by omega) (by omega)];simp
  obtain ⟨H8,hs8,q8,Yc,qn8⟩:=cr (h:=h') (zs:=[.str [],.ax]) (cs:=[.str [],.ax]) (n:=2) rfl rfl rfl;rw [F.dy.aT];simp only [aR,reduceAdd,reduceEqDiff,reduceIte,e1,e2,e8,TW,bh hi,show iw [.str [],.ax] [] []=some (.agg [.str [],.ax]) from rfl,hs8];by_cases hic:i<ew.l.length
  ·have hv:ew.l[i]?=some ew.l[i]:=ep hic;generalize ew.l[i]=f at hv
   have haf:a=⟨0,f.name,f.tuple,true⟩:=by
    unfold jx at ha;rw [getElem?_append_left (by simpa using hic),getElem?_map,hv] at ha;simpa using ha.symm
   subst haf
   have st:aS 2 (.ptr h'.next 0) (.agg (iS f)) H8=some (H8.set h'.next (.cells (iS f))):=by
    rw [cq (n:=2) (v:=.agg (iS f)) q8 rfl (Ag f) (by simp)];rfl
   simp only [bh hic,aR,reduceAdd,reduceEqDiff,reduceIte,aW ew hic,dm Af hv,st];exact J0 _ _ h'.next e1 e2 e3 e6 e8 rfl rfl (by rw [Heap.aK,if_pos rfl];rfl) (by rw [Heap.aK,if_neg (by omega),Yc _ (by omega)];exact p0) (by rw [Heap.aK,if_neg (by omega),Yc _ (by omega)];exact p1) ((hx.trans ⟨by omega,fun c hc=>Yc c (by omega)⟩).set (by have:=hx.next;omega) _) (by rw [Heap.bl];omega)
  ·have hiw:i-ew.l.length<fe.l.length:=by omega
   have hv:fe.l[i-ew.l.length]?=some fe.l[i-ew.l.length]:=ep hiw;generalize fe.l[i-ew.l.length]=f at hv
   have haf:a=⟨0,f.name,f.tuple,false⟩:=by
    unfold jx at ha;rw [getElem?_append_right (by simp;omega),getElem?_map,length_map,hv] at ha;simpa using ha.symm
   subst haf
   have Fh:aG .sub (.int .i64 (i:Int)) (.int .i64 (ew.l.length:Int))=some (.int .i64 ((i-ew.l.length:Nat):Int)):=by
    rw [yh (by omega) (by omega)];congr 2;omega
   have st:aS 2 (.ptr h'.next 0) (.agg (iS f)) H8=some (H8.set h'.next (.cells (iS f))):=by
    rw [cq (n:=2) (v:=.agg (iS f)) q8 rfl (Ag f) (by simp)];rfl
   simp only [show decide ((i:Int)<(ew.l.length:Int))=false from eT (by omega),aR,reduceAdd,reduceEqDiff,reduceIte,Fh,aW fe hiw,dm Af hv,st];exact J0 _ _ h'.next e1 e2 e3 e6 e8 rfl rfl (by rw [Heap.aK,if_pos rfl];rfl) (by rw [Heap.aK,if_neg (by omega),Yc _ (by omega)];exact p0) (by rw [Heap.aK,if_neg (by omega),Yc _ (by omega)];exact p1) ((hx.trans ⟨by omega,fun c hc=>Yc c (by omega)⟩).set (by have:=hx.next;omega) _) (by rw [Heap.bl];omega)
 ·rintro e h' ⟨s,y,p0,p1,hx,pF,e1,e2,e3,e6,e8⟩ K' fK
  have TW:aG .add (.int .i64 (ew.l.length:Int)) (.int .i64 (fe.l.length:Int))=some (.int .i64 ((ew.l.length+fe.l.length:Nat):Int)):=by
   rw [iF (by omega) (by omega)];simp
  rw [F.dy.aT];simp only [aR,reduceAdd,reduceEqDiff,reduceIte,e1,e2,e8,TW,aX];rw [fK,F.dy.aF];have ls:ag (some 2) (.ptr h.next 0) h'=some (.agg (ak s)):=by rw [aj p0,bV (cs:=ak s) (n:=2) rfl]
  have st:aS 2 (.ptr (h.next+1) 0) (.agg (ak s)) h'=some (h'.set (h.next+1) (.cells (ak s))):=by
   rw [cq (n:=2) (v:=.agg (ak s)) p1 rfl (bS s) (by simp [ak])];rfl
  have lr:ag (some 2) (.ptr (h.next+1) 0) (h'.set (h.next+1) (.cells (ak s)))=some (.agg (ak s)):=by
   rw [aj (cs:=ak s) (by rw [Heap.aK,if_pos rfl]),bV (cs:=ak s) (n:=2) rfl]
  simp only [bO,reduceEqDiff,reduceIte,e3,e6,ls,aq,st,OJ,lr];rw [kC (by omega)] at y;exact hK s _ (hx.set (by omega) _) (x.all y)
theorem jc.agree{l:List OE}(o:jc N h d l)(hg:∀ b,cD d=some b->h'.get b=h.get b)(hn:h.next<=h'.next):jc N h' d l:=by
 cases o with
 |nil=>exact .nil
 |row b l cs h1 h2 h3 h4 h5=>exact .row b l cs h1 (Nat.lt_of_lt_of_le h2 hn) (by rw [hg b rfl];exact h3) h4 h5
set_option maxHeartbeats 2000000 in
theorem Ft{rules:Sl aP}{Ai:Sl lE}(lu:∀ r ∈ rules.l,r.ok)(lU:s.ok)(UD:Ai.l.length<=cN/\∀ a ∈ Ai.l,a.ok):Sem TP 3 [an aO 3 rules,.agg (ak s),an pz 4 Ai] Heap.empty PJ:=by
 refine F.vK ?_;rw [F.w8];simp only [cT (bS s),aq,bU];have g0:(Heap.empty.alloc (.cells (ak s))).get 0=some (.cells (ak s)):=aA _ _;have gn:(Heap.empty.alloc (.cells (ak s))).next=1:=rfl
 generalize (Heap.empty.alloc (.cells (ak s)))=H at g0 gn ⊢;have l0:ag (some 2) (.ptr 0 0) H=some (.agg (ak s)):=by rw [aj g0,bV (cs:=ak s) (n:=2) rfl]
 simp only [l0,aq];refine ah (cR lu lU fun b hb=>?_);simp only [aR,reduceAdd,reduceEqDiff,reduceIte]
 cases b with
 |false=>
  simp only [Bool.not_false,aL];refine ah (uU ?_);simp only [aR,reduceAdd,reduceEqDiff,reduceIte];rfl
 |true=>
 have jN:=hb rfl;simp only [Bool.not_true,aJ];refine ah (fN UD.1 fun b2 hb2=>?_)
 cases b2 with
 |false=>
  simp only [aR,reduceAdd,reduceEqDiff,reduceIte,Bool.not_false];refine ah (uU ?_);simp only [aR,reduceAdd,reduceEqDiff,reduceIte];rfl
 |true=>
 obtain ⟨fw1,fw2⟩:=hb2 rfl;simp only [aR,reduceAdd,reduceEqDiff,reduceIte,Bool.not_true,l0];refine ah (L7 lu jN lU (fun hn h1 x1=>?_) fun ho xa s1 UE N h1 a1 a2 a3 a4 a5 a6 a7 a8=>?_)
 ·simp only [aR,reduceAdd,reduceEqDiff,reduceIte,Ro];refine ah (uU ?_);simp only [aR,reduceAdd,reduceEqDiff,reduceIte];rfl
 simp only [aR,reduceAdd,reduceEqDiff,reduceIte,UB]
 have acD:(∀ r ∈ xa.l,r.ok)/\∀ r ∈ xa.l,r.mC:=by
  rw [a1];exact ⟨fun r hr=>by obtain ⟨q,hq,rfl⟩:=mem_map.1 hr;exact Uz (lu q hq),fun r hr=>by obtain ⟨q,hq,rfl⟩:=mem_map.1 hr;exact Rh (jN q hq)⟩
 have ld:∀ {i:Nat} {a:lE},Ai.l[i]?=some a->∀ j,j<4->∀ h,ag none (.dN (Ai.l.flatMap pz) (i*4+j)) h=(pz a)[j]?:=fun hv j hj h=>fL Ad hv hj;have gs1:h1.get 0=some (.cells (ak s)):=by rw [a7.get _ (by omega)];exact g0
 refine aE 0 Ai.l.length (zero_le _) (fun i e h=>∃ s all dn dl sc,eA xa N h s all dn/\jc N h dn dl/\dl.length<=i/\eX xa.l s/\mA xa.l s all/\h.get 0=some (.cells (ak sc))/\lX sc s/\N≠0/\cD dn≠some 0/\e 0=an aO 3 rules/\e 2=an pz 4 Ai/\e 4 = .ptr 0 0/\e 7 = .ptr N 0/\e 8 = .int .i64 (i:Int))
  ⟨s1,UE,.ax,[],s,a6,.nil,dL _,a4,a5,gs1,⟨a2.symm,a3.symm⟩,by omega,(fun e=>by cases e),rfl,rfl,rfl,rfl,rfl⟩ ?_ ?_
 ·rintro i e h _ hi ⟨s,all,dn,dl,sc,Xu,M9,hdl,Rs,HS,gsc,OK,RI,Xv,e0,e2,e4,e7,e8⟩ K' hn hx hr hp;have hv:Ai.l[i]?=some Ai.l[i]:=ep hi;generalize Ai.l[i]=a at hv;have HE:=(fw2 a (ig hv)).2;have UF:0<s.size:=by obtain ⟨n,hn,n1,_⟩:=jA Rs.valid;omega
  have afL:=HS.valid Rs;have ak8:=Xu.lt;rw [F.eE.aT];simp only [e2,e7,e8,aR,reduceAdd,reduceEqDiff,reduceIte,bh hi];refine ah (vk Xu UF (HS.small Rs) fun pE h3 x3 c1 c2=>?_);have L9:lX pE all:=⟨c1,c2⟩
  have Xw:=L9.valid afL;obtain ⟨H4,OS,p4,Lt,WT⟩:=cr (h:=h3) (zs:=[.int .i64 0,.ax]) (cs:=ak pE) (n:=2) rfl rfl (bS pE);have WN:bu h3 H4:=⟨by omega,fun c hc=>Lt c (by omega)⟩
  have Yd:bu h H4:=x3.trans WN;have m3:=x3.next
  simp only [aR,reduceAdd,reduceEqDiff,reduceIte,OS,e2,e7,e8,aW Ai hi,ld hv 1 (by omega),ld hv 2 (by omega),ld hv 3 (by omega),pz]
  have bad:∀ (h':Heap) (cc:Int),cc≠0->bu H4 h'->(∀ E:Env,E 0=an aO 3 rules->E 2=an pz 4 Ai->E 4 = .ptr 0 0->E 7 = .ptr N 0->E 8 = .int .i64 ((i+1:Nat):Int)->∀ Kg,bu H4 Kg->K' .normal ⟨E,120,[],Kg⟩=true):=by
   intro h' cc _ _ E E0 E2 E4 E7 E8 Kg afM;have xx:=Yd.trans afM;exact hn _ _ ⟨s,all,dn,dl,sc,Xu.ext xx,M9.but (xx.but N),by omega,Rs,HS,by rw [xx.get _ (by omega)];exact gsc,OK,RI,Xv,E0,E2,E4,E7,E8⟩
  refine ah (OG (Xu.ext Yd) (M9.but (Yd.but N)) (by omega) acD.1 acD.2 Rs HS (by omega) (fun y9 h' fK=>?_) (fun r _ hin h' fK=>?_) ?_)
  ·have lb:ag (some 2) (.ptr h3.next 0) h'=some (.agg (ak pE)):=by rw [aj (cs:=ak pE) (by rw [fK.get _ (by omega)];exact p4),bV (cs:=ak pE) (n:=2) rfl]
   simp only [aR,reduceAdd,reduceEqDiff,reduceIte,cA,show decide ((4:Int)=0)=false from rfl,Bool.not_false,lb,e7];refine ah (vk (Xu.ext (Yd.trans fK)) UF (HS.small Rs) fun n2 h5 x5 c3 c4=>?_);have lb5:ag (some 2) (.ptr h3.next 0) h5=some (.agg (ak pE)):=by rw [aj (cs:=ak pE) (by rw [x5.get _ (by have:=fK.next;omega),fK.get _ (by omega)];exact p4),bV (cs:=ak pE) (n:=2) rfl]
   have pH:lX n2 pE:=lX.trans ⟨c3,c4⟩ L9.symm;simp only [aR,reduceAdd,reduceEqDiff,reduceIte,lb5,AV.beq_refl,Bool.and_self,if_true];refine ah (nS pH (pH.small Xw) ?_);simp only [aR,reduceAdd,reduceEqDiff,reduceIte,Bool.not_true,e8,aI hi UD.1];refine bad h' 4 (by omega) fK _ ?_ ?_ ?_ ?_ ?_ h5 (fK.trans x5)
   ·exact e0
   ·exact e2
   ·exact e4
   ·exact e7
   ·rfl
  ·have lb:ag (some 2) (.ptr h3.next 0) h'=some (.agg (ak pE)):=by rw [aj (cs:=ak pE) (by rw [fK.get _ (by omega)];exact p4),bV (cs:=ak pE) (n:=2) rfl]
   simp only [aR,reduceAdd,reduceEqDiff,reduceIte,cA,show decide ((2:Int)=0)=false from rfl,Bool.not_false,lb,e7];refine ah (vk (Xu.ext (Yd.trans fK)) UF (HS.small Rs) fun n2 h5 x5 c3 c4=>?_);have lb5:ag (some 2) (.ptr h3.next 0) h5=some (.agg (ak pE)):=by rw [aj (cs:=ak pE) (by rw [x5.get _ (by have:=fK.next;omega),fK.get _ (by omega)];exact p4),bV (cs:=ak pE) (n:=2) rfl]
   have pH:lX n2 pE:=lX.trans ⟨c3,c4⟩ L9.symm;simp only [aR,reduceAdd,reduceEqDiff,reduceIte,lb5,AV.beq_refl,Bool.and_self,if_true];refine ah (nS pH (pH.small Xw) ?_);simp only [aR,reduceAdd,reduceEqDiff,reduceIte,Bool.not_true,e8,aI hi UD.1];refine bad h' 2 (by omega) fK _ ?_ ?_ ?_ ?_ ?_ h5 (fK.trans x5)
   ·exact e0
   ·exact e2
   ·exact e4
   ·exact e7
   ·rfl
  ·intro j r w1 w2 w3 w4 w5 s1 UE h5 dn1 f1 g1 p1' Xx OL at1 acE Rt acF hf1 hg1;have Xc:=find?_some w3;have afO:0<s1.size:=by rw [p1'.size];exact UF
   have v1:=OL.valid Xx;have m5:=Rt.next
   have YK:∀ c,cD dn=some c->c<h.next:=fun c hc=>(M9.lt hc).2
   have p5:h5.get h3.next=some (.cells (ak pE)):=by rw [Rt.get _ (by omega) (by omega) (fun hb=>by have:=YK _ hb;omega)];exact p4
   have lb:ag (some 2) (.ptr h3.next 0) h5=some (.agg (ak pE)):=by rw [aj p5,bV (cs:=ak pE) (n:=2) rfl]
   have afP:h5.get 0=some (.cells (ak sc)):=by rw [Rt.get 0 (by omega) (Ne.symm RI) Xv,Yd.get 0 (by omega)];exact gsc
   have Xy:iu pE UE f1.l g1.l:=by
    refine ⟨⟨Xw,v1,?_⟩,?_,?_,?_⟩
    ·rw [L9.OU,HS.sig OL (vi w2 p1')]
    ·rw [L9.size,OL.size,HS.size,p1'.size]
    ·rw [L9.OU];exact hf1
    ·rw [L9.OU];exact hg1
   simp only [aR,reduceAdd,reduceEqDiff,reduceIte,cA,decide_true,Bool.not_true,lb];refine ah (dy Xy fun OV h6 x6 Xz=>?_);obtain ⟨H7,hs7,p7,po7,pn7⟩:=cr (h:=h6) (zs:=[.int .i64 0,.ax]) (cs:=ak OV) (n:=2) rfl rfl (bS OV);have e67:bu h6 H7:=⟨by omega,fun c hc=>po7 c (by omega)⟩
   have W9:bu h5 H7:=x6.trans e67;have m6:=x6.next
   have l7:ag (some 2) (.ptr h6.next 0) H7=some (.agg (ak OV)):=by rw [aj p7,bV (cs:=ak OV) (n:=2) rfl]
   simp only [aR,reduceAdd,reduceEqDiff,reduceIte,hs7,Bool.not_true,l7,e7];refine ah (vk (at1.ext W9) afO (OL.small Xx) fun n3 h8 x8 c5 c6=>?_);have m8:=x8.next
   have l8:ag (some 2) (.ptr h6.next 0) h8=some (.agg (ak OV)):=by rw [aj (cs:=ak OV) (by rw [x8.get _ (by omega)];exact p7),bV (cs:=ak OV) (n:=2) rfl]
   have Vq:lX n3 OV:=lX.trans ⟨c5,c6⟩ Xz.symm;have acG:=Xz.valid v1;simp only [aR,reduceAdd,reduceEqDiff,reduceIte,l8,AV.beq_refl,Bool.and_self,if_true];refine ah (nS Vq (Vq.small acG) ?_);have Um:bu h5 h8:=W9.trans x8;have acH:h8.get 0=some (.cells (ak sc)):=by rw [Um.get 0 (by omega)];exact afP
   have lsc:ag (some 2) (.ptr 0 0) h8=some (.agg (ak sc)):=by rw [aj acH,bV (cs:=ak sc) (n:=2) rfl]
   have vsc:=OK.valid Rs.valid;obtain ⟨q,q1,q2⟩:=OK.get w2;have afR:gv a.name (a.t.l.length:Int) q=true:=by rw [UC (r:=r) (by rw [q2])];exact Xc
   have OT:q.arity=(a.t.l.length:Int):=by rw [<- w4];exact congrArg (·.2.1) q2
   simp only [aR,reduceAdd,reduceEqDiff,reduceIte,Bool.not_true,e2,e4,e8,lsc,aW Ai hi,ld hv 1 (by omega),ld hv 2 (by omega),ld hv 3 (by omega),pz];refine ah (Ae (eo vsc).2 vsc (Rp vsc q1 afR) q1 OT (by rw [OK.size];exact w5) fun J7 Ev=>?_);have Ru:lX J7 s1:=Rq OK q1 w2 Ev p1'
   have st:aS 2 (.ptr 0 0) (.agg (ak J7)) h8=some (h8.set 0 (.cells (ak J7))):=by
    rw [cq (n:=2) (v:=.agg (ak J7)) acH rfl (bS J7) (by simp [ak])];rfl
   have ls9:ag (some 2) (.ptr 0 0) (h8.set 0 (.cells (ak J7)))=some (.agg (ak J7)):=by
    rw [aj (cs:=ak J7) (by rw [Heap.aK,if_pos rfl]),bV (cs:=ak J7) (n:=2) rfl]
   have acI:=Ru.valid Xx.valid;have okR:eX rules.l J7:=(GA.1 (by rw [<- a1];exact Xx)).HR Ru.size Ru.OU;simp only [aR,reduceAdd,reduceEqDiff,reduceIte,st,e0,ls9];refine ah (dw lu jN (eo acI).2 (fun _=>(eo acI).1) (fun e he=>absurd okR (vj he).2) fun _ out hz hxx=>?_);have afS:mA xa.l J7 out:=by rw [a1];exact J6 ⟨hz,hxx⟩
   have acJ:lX out OV:=(afS.afD OL Ru).trans Xz.symm;have n9:(h8.set 0 (.cells (ak J7))).next=h8.next:=Heap.bl _ _ _
   have g9:∀ c,c≠0->(h8.set 0 (.cells (ak J7))).get c=h8.get c:=fun c hc=>by rw [Heap.aK,if_neg hc]
   have z9:(h8.set 0 (.cells (ak J7))).get 0=some (.cells (ak J7)):=by rw [Heap.aK,if_pos rfl]
   generalize (h8.set 0 (.cells (ak J7)))=h9 at n9 g9 z9 ⊢;obtain ⟨H10,afU,p10,XA,ali⟩:=cr (h:=h9) (zs:=[.int .i64 0,.ax]) (cs:=ak out) (n:=2) rfl rfl (bS out);have lo:ag (some 2) (.ptr h9.next 0) H10=some (.agg (ak out)):=by rw [aj p10,bV (cs:=ak out) (n:=2) rfl]
   have la:ag (some 2) (.ptr h6.next 0) H10=some (.agg (ak OV)):=by rw [aj (cs:=ak OV) (by rw [XA _ (by omega),g9 _ (by omega),x8.get _ (by omega)];exact p7),bV (cs:=ak OV) (n:=2) rfl]
   simp only [aR,reduceAdd,reduceEqDiff,reduceIte,afU,cA,decide_true,Bool.not_true,lo,la];refine ah (nS acJ (acJ.small acG) ?_);simp only [aR,reduceAdd,reduceEqDiff,reduceIte,Bool.not_true,e8,aI hi UD.1];have VD:∀ c,c<h8.next->c≠0->H10.get c=h8.get c:=fun c hc h0=>by rw [XA _ (by omega),g9 _ h0]
   have at8:=at1.ext Um;have VE:=acE.but (Um.but N);exact hn _ _ ⟨s1,UE,dn1,_,J7,at8.agree (VD N at8.lt RI) (by omega),VE.agree (fun b hb=>VD b (VE.lt hb).2 (by have:=acF b hb;omega)) (by omega),by simp;omega,Xx,OL,by rw [XA 0 (by omega)];exact z9,Ru,RI,fun hb=>by have:=acF 0 hb;omega,e0,e2,e4,e7,rfl⟩
 ·rintro e h ⟨s,all,dn,dl,sc,Xu,M9,hdl,Rs,HS,gsc,OK,RI,Xv,e0,e2,e4,e7,e8⟩ K' hx;rw [F.eE.aT];simp only [e2,e8,aR,reduceAdd,reduceEqDiff,reduceIte,aX];rw [hx,F.eE.aF];refine ah (uU ?_);simp only [aR,reduceAdd,reduceEqDiff,reduceIte];rfl
end
end Go.AM