/- Parts of the proof. Conditions: none. -/
import Derived.Test.YtfdanacohcffmaaGreatKu14
import Derived.Test.YtfdanacohcffmaaGreatKu24
import Derived.Test.YtfdanacohcffmaaGreatKu25
import Derived.Test.YtfdanacohcffmaaGreatKu26
import Derived.Test.YtfdanacohcffmaaGreatKu27
import Derived.Test.YtfdanacohcffmaaGreatKu28
set_option linter.unusedSimpArgs false
set_option linter.unusedVariables false
namespace Go.AM
open List Nat Bool Option
open Go Go.Proofs
noncomputable section
variable {K:Out->Heap->Bool} {rs:List aO} {s a b out s':cD} {h h':Heap} {N j n k i:Nat} {dn d:AV} {W:List cD} {t:List Int} {r q:Rel} {is:Bool} {nm:b7} {α:Type} {L:Lk}
theorem MH{a b:Nat}(hb:0<b)(ha:a<=cM):aF .quo (.int .i64 (a:Int)) (.int .i64 (b:Int))=some (.int .i64 ((a/b:Nat):Int)):=by
 have h:¬ (b:Int)=0:=by omega
 simp only [aF,if_true,if_neg h];have e:((a:Int).tdiv (b:Int))=((a/b:Nat):Int):=by rw [Int.tdiv_eq_ediv_of_nonneg (by omega)];rfl
 have:a/b<=a:=div_le_self _ _;unfold cM at ha;rw [e];generalize a/b=q at this;rw [IntWalk.i64_in _ (by omega)]
theorem JF{enc:α->List AV}{sz:Nat}(he:∀ a,(enc a).length=sz){l:List α}{a:α}(ha:l[i]?=some a)(hk:k+n<=sz) :
  ag (some n) (.dO (l.flatMap enc) (i*sz+k)) h=some (.agg (((enc a).drop k).take n)):=by
 have hi:i<l.length:=(kg.1 ha).1
 have hle:i*sz+sz<=(l.flatMap enc).length:=by
  rw [fH he];have:(i+1)*sz<=l.length*sz:=mul_le_mul_right _ hi;rw [Nat.add_mul] at this;omega
 show iX (some n) _ _=_;simp only [iX];rw [if_pos (by omega),<- nE he l i a ha,drop_take,take_take,drop_drop,Nat.min_eq_left (by omega)]
theorem fM{nm:b7}{xs:Sl b7}(h1:nm.length<=cM)(h2:xs.l.length<=cM)(h3:∀ s ∈ xs.l,s.length<=cM){h:Heap}{K:Out->Heap->Bool}
  (hK:∀ n:Int,(xs.l.length:Int)<=n->n<=5000000000000000000->K (.ret (.int .i64 n)) h=true):Sem TP 85 [.agg [.str nm,ak encS 1 xs]] h K:=by
 have Au:cM=4611686018427387904:=rfl
 have gen:∀ R:Out->Heap->Bool,(∀ (n:Int) h',(xs.l.length:Int)<=n->n<=5000000000000000000->R (.ret (.int .i64 n)) h'=true)->Sem TP 85 [.agg [.str nm,ak encS 1 xs]] Heap.empty R:=by
  intro R fin;refine F.CG ?_;rw [F.Eu];have g0:(Heap.alloc Heap.empty (.cells (iD nm xs))).get 0=some (.cells (iD nm xs)):=aB _ _;have hb:eX (.agg [.str nm,ak encS 1 xs])=some (iD nm xs):=cY (zx nm xs);simp only [hb,aq,bT];generalize (Heap.alloc Heap.empty (.cells (iD nm xs)))=H at g0 ⊢;have hq:=MH (a:=nm.length) (b:=20) (by omega) h1;have pe:aF .quo (.int .i64 (nm.length:Int)) (.int .i64 20)=some (.int .i64 ((nm.length/20:Nat):Int)):=hq;have hdl:nm.length/20<=240000000000000000:=by omega
  have Db:=jd (a:=(xs.l.length:Int)) (b:=((nm.length/20:Nat):Int)) (by omega) (by omega);simp only [aR,reduceAdd,reduceEqDiff,reduceIte,aj g0,iD,pe,Db];generalize Xh:(xs.l.length:Int)+((nm.length/20:Nat):Int)=s0;refine aD 0 xs.l.length (zero_le _) (fun i e h'=>h'=H/\e 1 = .ptr 0 0/\e 4 = .int .i64 (i:Int)/\∃ n:Int,e 3 = .int .i64 n/\(xs.l.length:Int)<=n/\n<=5000000000000000000) ⟨rfl,rfl,rfl,s0,rfl,by omega,by omega⟩ ?_ ?_
  ·rintro i e h' _ hi ⟨rfl,e1,e4,n,e3,n1,n2⟩ K' hn hx hr hp;have hv:xs.l[i]?=some xs.l[i]:=eA hi;generalize xs.l[i]=t at hv;have ht:=h3 t (ig hv);have hqt:aF .quo (.int .i64 (t.length:Int)) (.int .i64 20)=some (.int .i64 ((t.length/20:Nat):Int)):=MH (a:=t.length) (b:=20) (by omega) ht;have hdt:t.length/20<=240000000000000000:=by omega
   rw [F.fM.aT];simp only [e1,e3,e4,aR,reduceAdd,reduceEqDiff,reduceIte,aj g0,iD,bh hi];by_cases Ro:n<10000
   ·have ab8:=jd (a:=n) (b:=((t.length/20:Nat):Int)) (by omega) (by omega);simp only [fy Ro,aK,e1,e4,aR,reduceAdd,reduceEqDiff,reduceIte,aj g0,iD,aV xs hi,jq hv,hqt,ab8,aI hi h2];exact hn _ _ ⟨rfl,e1,rfl,_,rfl,by omega,by omega⟩
   ·simp only [eR Ro,aJ];rw [hx,F.fM.aG];simp only [bK,reduceEqDiff,reduceIte,e3];exact fin n _ n1 n2
  ·rintro e h' ⟨rfl,e1,e4,n,e3,n1,n2⟩ K' hx;rw [F.fM.aT];simp only [e1,e4,aR,reduceAdd,reduceEqDiff,reduceIte,aj g0,iD,aW];rw [hx,F.fM.aG];simp only [bK,reduceEqDiff,reduceIte,e3];exact fin n _ n1 n2
 have main:=gen (fun o h'=>yes (∃ n:Int,o = .ret (.int .i64 n)/\(xs.l.length:Int)<=n/\n<=5000000000000000000)) (fun n h' q1 q2=>ct.2 ⟨n,rfl,q1,q2⟩);refine main.frozen (by simp [AV.cN,AV.pure,cc j5]) fun o h' ho=>?_;obtain ⟨n,rfl,q1,q2⟩:=ct.1 ho;exact ⟨_,_,rfl,.scalar _ rfl,hK n q1 q2⟩
set_option maxHeartbeats 1000000 in
theorem Lo{N:Int}(hN:N<=1500){rules:Sl aO}(kV:∀ r ∈ rules.l,r.ok)(hK:∀ b:Bool,(b=true->∀ r ∈ rules.l,r.mc)->K (.ret (.bool b)) h=true):Sem TP 41 [ak aP 3 rules,.int .i64 N] h K:=by
 have gen:∀ R:Out->Heap->Bool,(∀ (b:Bool) h',(b=true->∀ r ∈ rules.l,r.mc)->R (.ret (.bool b)) h'=true)->Sem TP 41 [ak aP 3 rules,.int .i64 N] Heap.empty R:=by
  intro R fin;refine F.Et ?_;rw [F.GN];simp only [aR,reduceAdd,reduceEqDiff,reduceIte];by_cases h71:70<rules.l.length
  ·simp only [fy (by omega:(70:Int)<(rules.l.length:Int)),aK];exact fin false _ (fun h=>by cases h)
  have hbig:rules.l.length<=cM:=by unfold cM;omega
  simp only [eR (by omega:¬ (70:Int)<(rules.l.length:Int)),aJ];refine aD 0 rules.l.length (zero_le _) (fun i e h'=>e 0=ak aP 3 rules/\e 1 = .int .i64 N/\e 6 = .int .i64 (i:Int)/\∃ s:Int,e 5 = .int .i64 s/\0<=s/\s<=6000000000000000000/\(s<=N->∀ r ∈ rules.l.take i,r.mc)) ⟨rfl,rfl,rfl,0,rfl,by omega,by omega,fun _ r hr=>by simp at hr⟩ ?_ ?_
  ·rintro i e h' _ hi ⟨e0,e1,e6,s,e5,s0,s1,hs⟩ K' hn hx hr hp;have hv:rules.l[i]?=some rules.l[i]:=eA hi;generalize rules.l[i]=r at hv;have Jp:=kV r (ig hv);have Au:=Jp.2.2.2.1;have ld:∀ j,j<3->∀ h,ag none (.dO (rules.l.flatMap aP) (i*3+j)) h=(aP r)[j]?:=fun j hj h=>fI gv hv hj;have lh:∀ h,ag (some 2) (.dO (rules.l.flatMap aP) (i*3)) h=some (.agg [.str r.name,ak encS 1 r.args]):=fun h=>JF (k:=0) (n:=2) gv hv (by omega);rw [F.dK.aT];simp only [e0,e1,e5,e6,aR,reduceAdd,reduceEqDiff,reduceIte,bh hi];by_cases hle:s<=N
   ·have WR:=jd (a:=s) (b:=1) (by omega) (by omega);simp only [fy hle,aK,WR,e0,e6,aR,reduceAdd,reduceEqDiff,reduceIte,aV rules hi,lh];refine ah (fM Jp.1 Jp.2.1 Jp.2.2.1 fun n n1 n2=>?_);have WS:=jd (a:=s+1) (b:=n) (by omega) (by omega);simp only [aR,reduceAdd,reduceEqDiff,reduceIte,WS]
    refine aD 0 r.body.l.length (zero_le _) (fun j e h'=>e 0=ak aP 3 rules/\e 1 = .int .i64 N/\e 6 = .int .i64 (i:Int)/\e 7 = .int .i64 (j:Int)/\∃ s:Int,e 5 = .int .i64 s/\0<=s/\s<=6000000000000000000 /\
     (s<=N->(∀ r ∈ rules.l.take i,r.mc)/\r.args.l.length<=1500/\(j:Int)<=s/\∀ c ∈ r.body.l.take j,c.args.l.length<=1500)) ⟨e0,e1,e6,rfl,s+1+n,rfl,by omega,by omega,fun h=>⟨hs hle,by omega,by omega,fun c hc=>by simp at hc⟩⟩ ?_ ?_
    ·rintro j e h' _ hj ⟨e0,e1,e6,e7,s,e5,s0,s1,hs⟩ K2 pV gi rN FD;have hc:r.body.l[j]?=some r.body.l[j]:=eA hj;generalize r.body.l[j]=c at hc;have I7:=Jp.2.2.2.2 c (ig hc);have lc:∀ h,ag (some 2) (.dO (r.body.l.flatMap bM) (j*4+2)) h=some (.agg [.str c.name,ak encS 1 c.args]):=fun h=>JF (k:=2) (n:=2) iu hc (by omega);rw [F.dK.dh];simp only [e0,e1,e5,e6,e7,aR,reduceAdd,reduceEqDiff,reduceIte,aV rules hi,ld 2 (by omega),aP,bh hj];by_cases hle:s<=N
     ·have WR:=jd (a:=s) (b:=1) (by omega) (by omega);simp only [fy hle,aK,WR,e0,e6,e7,aR,reduceAdd,reduceEqDiff,reduceIte,aV rules hi,ld 2 (by omega),aP,aV r.body hj,lc];refine ah (fM I7.1 I7.2.1 I7.2.2 fun n n1 n2=>?_);have WS:=jd (a:=s+1) (b:=n) (by omega) (by omega);simp only [aR,reduceAdd,reduceEqDiff,reduceIte,WS,aI hj Au];refine pV _ _ ⟨e0,e1,e6,rfl,s+1+n,rfl,by omega,by omega,fun h=>?_⟩;obtain ⟨q1,q2,q3,q4⟩:=hs hle;refine ⟨q1,q2,by omega,fun d hd=>?_⟩;rw [take_add_one,hc] at hd;rcases mem_append.1 hd with hd|hd
      ·exact q4 d hd
      ·simp only [toList_some,mem_singleton] at hd;subst hd;omega
     ·simp only [eR hle,aJ];rw [gi,F.dK.cx];simp only [aR,reduceAdd,reduceEqDiff,reduceIte,e6,aI hi hbig];exact hn _ _ ⟨e0,e1,rfl,s,e5,s0,s1,fun h=>absurd h hle⟩
    ·rintro e h' ⟨e0,e1,e6,e7,s,e5,s0,s1,hs⟩ K2 gi;rw [F.dK.dh];simp only [e0,e6,e7,aR,reduceAdd,reduceEqDiff,reduceIte,aV rules hi,ld 2 (by omega),aP,aW];rw [gi,F.dK.cx];simp only [aR,reduceAdd,reduceEqDiff,reduceIte,e6,aI hi hbig];refine hn _ _ ⟨e0,e1,rfl,s,e5,s0,s1,fun h=>?_⟩;obtain ⟨q1,q2,q3,q4⟩:=hs h;rw [kf (dM _)] at q4;intro q hq;rw [take_add_one,hv] at hq;rcases mem_append.1 hq with hq|hq
     ·exact q1 q hq
     ·simp only [toList_some,mem_singleton] at hq;subst hq;exact ⟨q2,by omega,q4⟩
   ·simp only [eR hle,aJ];rw [hx,F.dK.aG];simp only [aR,reduceAdd,reduceEqDiff,reduceIte,e1,e5];exact fin _ _ (fun h=>absurd (of_decide_eq_true h) hle)
  ·rintro e h' ⟨e0,e1,e6,s,e5,s0,s1,hs⟩ K' hx;rw [kf (dM _)] at hs;rw [F.dK.aT];simp only [e0,e6,aR,reduceAdd,reduceEqDiff,reduceIte,aW];rw [hx,F.dK.aG];simp only [aR,reduceAdd,reduceEqDiff,reduceIte,e1,e5];exact fin _ _ (fun h=>hs (of_decide_eq_true h))
 have main:=gen (fun o h'=>yes (∃ b:Bool,o = .ret (.bool b)/\(b=true->∀ r ∈ rules.l,r.mc))) (fun b h' hb=>ct.2 ⟨b,rfl,hb⟩);refine main.frozen (by simp [AV.cN,AV.pure,cc fN]) fun o h' ho=>?_;obtain ⟨b,rfl,hb⟩:=ct.1 ho;exact ⟨_,_,rfl,.scalar _ rfl,hK b hb⟩
theorem xd{x y:Sl (Sl Int)}(UO:x.l.map Sl.l=y.l.map Sl.l)(hx:x.l.length<=cM)(ht:∀ t ∈ x.l,t.l.length<=cM)(hK:K (.ret (.bool true)) h=true):Sem TP 51 [ak cU 1 x,ak cU 1 y] h K:=by
 have hl:x.l.length=y.l.length:=by have:=congrArg List.length UO;simpa using this
 refine F.tq ?_;rw [F.vj];simp only [aR,reduceAdd,reduceEqDiff,reduceIte,hl,cw,decide_true,Bool.not_true,aJ];refine aD 0 x.l.length (zero_le _) (fun i e h'=>h'=h/\e 0=ak cU 1 x/\e 1=ak cU 1 y/\e 5 = .int .i64 (i:Int)) ⟨rfl,rfl,rfl,rfl⟩ ?_ ?_
 ·rintro i e h' _ hi ⟨rfl,e0,e1,e5⟩ K' hn fW hr hp;have hv:x.l[i]?=some x.l[i]:=eA hi;generalize x.l[i]=t at hv;have Bz:i<y.l.length:=by omega
  have hw:y.l[i]?=some y.l[i]:=eA Bz;generalize y.l[i]=u at hw
  have htu:t.l=u.l:=by
   have h1:(x.l.map Sl.l)[i]?=some t.l:=by rw [getElem?_map,hv];rfl
   rw [UO,getElem?_map,hw] at h1;exact (Option.some.inj h1).symm
  rw [F.dW.aT];simp only [e0,e1,e5,aR,reduceAdd,reduceEqDiff,reduceIte,bh hi,aV x hi,aV y Bz,ic hv,ic hw];refine ah (eD (ht t (ig hv)) ?_);rw [show (t.l==u.l)=true by rw [htu];simp];simp only [aR,reduceAdd,reduceEqDiff,reduceIte,Bool.not_true,aJ,e5,aI hi hx];exact hn _ _ ⟨rfl,e0,e1,rfl⟩
 ·rintro e h' ⟨rfl,e0,e1,e5⟩ K' fW;rw [F.dW.aT];simp only [e0,e5,aR,reduceAdd,reduceEqDiff,reduceIte,aW];rw [fW,F.dW.aG];exact hK
theorem Ht(hz:a.size=b.size)(hd:a.aE.l.map bX=b.aE.l.map bX)(hs:a.small)(hK:∀ h',K (.ret (.bool true)) h'=true):Sem TP 16 [.agg (an a),.agg (an b)] h K:=by
 have hl:a.aE.l.length=b.aE.l.length:=by have:=congrArg List.length hd;simpa using this
 have rj:=hs.Ws;refine F.CW ?_;rw [F.EG];simp only [cY (cp a),cY (cp b),aq,Heap.aL];have g0:(Heap.alloc (Heap.alloc h (.cells (an a))) (.cells (an b))).get h.next=some (.cells (an a)):=by rw [Heap.aU,Heap.aL,if_neg (by omega)];exact aB _ _
 have g1:(Heap.alloc (Heap.alloc h (.cells (an a))) (.cells (an b))).get (h.next+1)=some (.cells (an b)):=aB _ _;have gn:(Heap.alloc (Heap.alloc h (.cells (an a))) (.cells (an b))).next=h.next+2:=rfl
 generalize (Heap.alloc (Heap.alloc h (.cells (an a))) (.cells (an b)))=H at g0 g1 gn ⊢;have lz:ag none (.ptr h.next 0) H=some (.int .i64 a.size):=by rw [aj g0];rfl
 have lz1:ag none (.ptr (h.next+1) 0) H=some (.int .i64 b.size):=by rw [aj g1];rfl
 have lr:ag none (.ptr h.next 1) H=some (ak aQ 3 a.aE):=by rw [aj g0];rfl
 have lr1:ag none (.ptr (h.next+1) 1) H=some (ak aQ 3 b.aE):=by rw [aj g1];rfl
 simp only [aR,reduceAdd,reduceEqDiff,reduceIte,lz,lz1,lr,lr1,hz,hl,cw,decide_true,Bool.not_true,aJ];refine aD 0 a.aE.l.length (zero_le _) (fun i e h'=>h'.get h.next=some (.cells (an a))/\h'.get (h.next+1)=some (.cells (an b))/\h.next+2<=h'.next/\e 2 = .ptr h.next 0/\e 3 = .ptr (h.next+1) 0/\e 5 = .int .i64 (i:Int)) ⟨g0,g1,by omega,rfl,rfl,rfl⟩ ?_ ?_
 ·rintro i e h' _ hi ⟨q0,q1,qn,e2,e3,e5⟩ K' hn fW hr hp;have hv:a.aE.l[i]?=some a.aE.l[i]:=eA hi;generalize a.aE.l[i]=r at hv;have Bz:i<b.aE.l.length:=by omega
  have hw:b.aE.l[i]?=some b.aE.l[i]:=eA Bz;generalize b.aE.l[i]=u at hw;have nR:=ig hv
  have hru:bX r=bX u:=by
   have h1:(a.aE.l.map bX)[i]?=some (bX r):=by rw [getElem?_map,hv];rfl
   rw [hd,getElem?_map,hw] at h1;exact (Option.some.inj h1).symm
  unfold bX at hru;simp only [Prod.mk.injEq] at hru;have lr:ag none (.ptr h.next 1) h'=some (ak aQ 3 a.aE):=by rw [aj q0];rfl
  have lr1:ag none (.ptr (h.next+1) 1) h'=some (ak aQ 3 b.aE):=by rw [aj q1];rfl
  have la:∀ hh,ag (some 3) (.dO (a.aE.l.flatMap aQ) (i*3)) hh=some (.agg (aQ r)):=fun hh=>dF dR hv;have lb:∀ hh,ag (some 3) (.dO (b.aE.l.flatMap aQ) (i*3)) hh=some (.agg (aQ u)):=fun hh=>dF dR hw;have y0:((h'.alloc (.cells [.str [],.int .i64 0,.ax])).alloc (.cells [.str [],.int .i64 0,.ax])).get h'.next=some (.cells [.str [],.int .i64 0,.ax]):=by rw [Heap.aU,Heap.aL,if_neg (by omega)];exact aB _ _
  have y1:((h'.alloc (.cells [.str [],.int .i64 0,.ax])).alloc (.cells [.str [],.int .i64 0,.ax])).get (h'.next+1)=some (.cells [.str [],.int .i64 0,.ax]):=aB _ _;have yx:bA h' ((h'.alloc (.cells [.str [],.int .i64 0,.ax])).alloc (.cells [.str [],.int .i64 0,.ax])):=(bA.alloc _ _).trans (bA.alloc _ _);have yn:((h'.alloc (.cells [.str [],.int .i64 0,.ax])).alloc (.cells [.str [],.int .i64 0,.ax])).next=h'.next+2:=rfl
  rw [F.iL.aT];simp only [e2,e3,e5,aR,reduceAdd,reduceEqDiff,reduceIte,lr,lr1,bh hi,aV a.aE hi,aV b.aE Bz,la,lb,Heap.aL];generalize ((h'.alloc (.cells [.str [],.int .i64 0,.ax])).alloc (.cells [.str [],.int .i64 0,.ax]))=Y at y0 y1 yx yn ⊢;have acd:∀ (v:Rel),ei [.str [],.int .i64 0,.ax] 0 (aQ v)=aQ v:=fun v=>by obtain ⟨nm,k,t⟩:=v;rfl
  have Wk:aY 3 (.ptr h'.next 0) (.agg (aQ r)) Y=some (Y.set h'.next (.cells (aQ r))):=by
   rw [cF (n:=3) (v:=.agg (aQ r)) y0 (dR r) (fP r) (by simp)];show some (Y.set h'.next (.cells (ei [.str [],.int .i64 0,.ax] 0 (aQ r))))=_;rw [acd]
  have z1:(Y.set h'.next (.cells (aQ r))).get (h'.next+1)=some (.cells [.str [],.int .i64 0,.ax]):=by rw [Heap.aN,if_neg (by omega)];exact y1
  have zq1:(Y.set h'.next (.cells (aQ r))).get (h.next+1)=some (.cells (an b)):=by rw [Heap.aN,if_neg (by omega),yx.get _ (by omega)];exact q1
  have afo:ag none (.ptr (h.next+1) 1) (Y.set h'.next (.cells (aQ r)))=some (ak aQ 3 b.aE):=by rw [aj zq1];rfl
  have Ts:aY 3 (.ptr (h'.next+1) 0) (.agg (aQ u)) (Y.set h'.next (.cells (aQ r)))=some ((Y.set h'.next (.cells (aQ r))).set (h'.next+1) (.cells (aQ u))):=by
   rw [cF (n:=3) (v:=.agg (aQ u)) z1 (dR u) (fP u) (by simp)];show some ((Y.set h'.next (.cells (aQ r))).set (h'.next+1) (.cells (ei [.str [],.int .i64 0,.ax] 0 (aQ u))))=_;rw [acd]
  simp only [Wk,aq,afo,AV.beq_refl,Bool.and_self,if_true,Ts];have w0:((Y.set h'.next (.cells (aQ r))).set (h'.next+1) (.cells (aQ u))).get h'.next=some (.cells (aQ r)):=by rw [Heap.aN,if_neg (by omega),Heap.aN,if_pos rfl]
  have w1:((Y.set h'.next (.cells (aQ r))).set (h'.next+1) (.cells (aQ u))).get (h'.next+1)=some (.cells (aQ u)):=by rw [Heap.aN,if_pos rfl]
  have wx:∀ b,b<h'.next->((Y.set h'.next (.cells (aQ r))).set (h'.next+1) (.cells (aQ u))).get b=h'.get b:=fun b hb=>by rw [Heap.aN,if_neg (by omega),Heap.aN,if_neg (by omega)];exact yx.get b hb
  have wn:((Y.set h'.next (.cells (aQ r))).set (h'.next+1) (.cells (aQ u))).next=h'.next+2:=by rw [Heap.bt,Heap.bt];exact yn
  generalize ((Y.set h'.next (.cells (aQ r))).set (h'.next+1) (.cells (aQ u)))=W at w0 w1 wx wn ⊢;have k0:ag none (.ptr h'.next 0) W=some (.str r.name):=by rw [aj w0];rfl
  have k1:ag none (.ptr h'.next 1) W=some (.int .i64 r.arity):=by rw [aj w0];rfl
  have k2:ag none (.ptr h'.next 2) W=some (ak cU 1 r.aM):=by rw [aj w0];rfl
  have j0:ag none (.ptr (h'.next+1) 0) W=some (.str u.name):=by rw [aj w1];rfl
  have j1:ag none (.ptr (h'.next+1) 1) W=some (.int .i64 u.arity):=by rw [aj w1];rfl
  have j2:ag none (.ptr (h'.next+1) 2) W=some (ak cU 1 u.aM):=by rw [aj w1];rfl
  simp only [aR,reduceAdd,reduceEqDiff,reduceIte,k0,k1,k2,j0,j1,j2,hru.1,hru.2.1,beq_self_eq_true,Bool.not_true,aJ];refine ah (xd hru.2.2 (by have:=hs.Hg r nR;unfold cM;omega) (fun t ht=>by have:=hs.XD r nR t ht;unfold cM;omega) ?_);simp only [aR,reduceAdd,reduceEqDiff,reduceIte,Bool.not_true,aJ,e5,aI hi rj];exact hn _ _ ⟨by rw [wx _ (by omega)];exact q0,by rw [wx _ (by omega)];exact q1,by omega,e2,e3,rfl⟩
 ·rintro e h' ⟨q0,q1,qn,e2,e3,e5⟩ K' fW;have lr:ag none (.ptr h.next 1) h'=some (ak aQ 3 a.aE):=by rw [aj q0];rfl
  rw [F.iL.aT];simp only [e2,e5,aR,reduceAdd,reduceEqDiff,reduceIte,lr,aW];rw [fW,F.iL.aG];exact hK h'
theorem DM(s:cD):fS [.int .i64 0,.ax] [(0,2)] [.agg (an s)]=some (an s):=by
 obtain ⟨z,r⟩:=s;cases r<;>rfl
theorem cR{rules:Sl aO}{s:cD}{N:Int}(kV:∀ r ∈ rules.l,r.ok)(mI:s.ok){h:Heap}{K:Out->Heap->Bool}(hK:∀ b:Bool,(b=true->∀ r ∈ rules.l,r.mc)->K (.ret (.bool b)) h=true) :
  Sem TP 10 [ak aP 3 rules,.agg (an s),.int .i64 N] h K:=by
 have gen:∀ R:Out->Heap->Bool,(∀ (b:Bool) h',(b=true->∀ r ∈ rules.l,r.mc)->R (.ret (.bool b)) h'=true)->Sem TP 10 [ak aP 3 rules,.agg (an s),.int .i64 N] Heap.empty R:=by
  intro R fin;refine F.Bb ?_;rw [F.CX];simp only [cY (cp s),aq,bT];have g0:(Heap.empty.alloc (.cells (an s))).get 0=some (.cells (an s)):=aB _ _;have gn:(Heap.empty.alloc (.cells (an s))).next=1:=rfl
  generalize (Heap.empty.alloc (.cells (an s)))=H at g0 gn ⊢;refine ah (Lo (by omega) kV fun b hb=>?_);simp only [aR,reduceAdd,reduceEqDiff,reduceIte]
  cases b with
  |false=>
   simp only [Bool.not_false,aK];exact fin false _ (fun h=>by cases h)
  |true=>
  have jz:=hb rfl;have l0:ag (some 2) (.ptr 0 0) H=some (.agg (an s)):=by rw [aj g0,cE (cs:=an s) (n:=2) rfl]
  have g1:(H.alloc (.cells (an s))).get H.next=some (.cells (an s)):=aB _ _
  have Tp:(H.alloc (.cells (an s))).get 0=some (.cells (an s)):=by rw [Heap.aU,if_neg (by omega)];exact g0
  simp only [Bool.not_true,aJ,l0,aq,DM];generalize (H.alloc (.cells (an s)))=H2 at g1 Tp ⊢;refine ah (bY mI g1 fun b=>?_);simp only [aR,reduceAdd,reduceEqDiff,reduceIte]
  cases b with
  |false=>
   simp only [Bool.not_false,aK];exact fin false _ (fun h=>by cases h)
  |true=>
  have WJ:ag (some 2) (.ptr 0 0) H2=some (.agg (an s)):=by rw [aj Tp,cE (cs:=an s) (n:=2) rfl]
  simp only [Bool.not_true,aJ,WJ,aq];refine ah (bH kV jz mI (fun e he=>?_) fun ho=>?_)
  ·have hne:e≠0:=by
    rcases he with ⟨_,rfl⟩|⟨_,_,⟨_,rfl⟩|⟨_,_,rfl⟩⟩<;>omega
   simp only [aR,reduceAdd,reduceEqDiff,reduceIte,cw,eR hne,Bool.not_false,aK];exact fin true _ (fun _=>jz)
  ·obtain ⟨n,hn,n1,xh,h8⟩:=iW ho.valid;have uO:s.size.toNat=n:=by omega
   have Qh:rules.l.length<=cM:=by have:=ho.gC.mc;unfold cM;omega
   have VA:∀ r ∈ rules.l,n ^ (varsOf r).length<=65536:=fun r hr=>Nat.le_of_not_lt fun h=>ho.AE (.inr (.inr ⟨r,hr,by rw [uO];exact h⟩));simp only [aR,reduceAdd,reduceEqDiff,reduceIte,cw,decide_true,Bool.not_true,aJ];refine aD 0 rules.l.length (zero_le _) (fun i e h'=>h'=H2/\∃ q:Nat,q<=i*65536/\e 0=ak aP 3 rules/\e 2 = .int .i64 N/\e 4 = .ptr 0 0/\e 7 = .int .i64 (q:Int)/\e 8 = .int .i64 (i:Int)) ⟨rfl,0,by omega,rfl,rfl,rfl,rfl,rfl⟩ ?_ ?_
   ·rintro i e h' _ hi ⟨rfl,q,hq,e0,e2,e4,e7,e8⟩ K' DZ hx hr hp;have hv:rules.l[i]?=some rules.l[i]:=eA hi;generalize rules.l[i]=r at hv;have nR:=ig hv;have akm:=VA r nR;have sq:=ho.gC.mc;obtain ⟨m,jE⟩:=ho.gC.go;have abE:=(je jE r nR).2.2;have U2:(varsOf r).length<=cM:=by unfold cM;omega
    have lz:ag none (.ptr 0 0) h'=some (.int .i64 (n:Int)):=(by rw [aj Tp,<- hn];rfl);rw [F.cR.aT];simp only [e0,e8,aR,reduceAdd,reduceEqDiff,reduceIte,bh hi];refine aD 0 (varsOf r).length (zero_le _) (fun j e h2=>h2=h'/\e 0=ak aP 3 rules/\e 2 = .int .i64 N/\e 4 = .ptr 0 0/\e 7 = .int .i64 (q:Int)/\e 8 = .int .i64 (i:Int)/\e 9 = .int .i64 ((n ^ j:Nat):Int)/\e 10 = .int .i64 (j:Int)) ⟨rfl,e0,e2,e4,e7,e8,rfl,rfl⟩ ?_ ?_
    ·rintro j e h2 _ hj ⟨rfl,e0,e2,e4,e7,e8,e9,kF⟩ K2 TW gi rN FD;have wh:n ^ (j+1)=n ^ j*n:=Nat.pow_succ n j;have hle:=wY n1 (show j+1<=(varsOf r).length by omega);have hm:((n ^ j:Nat):Int)*(n:Int)=((n ^ (j+1):Nat):Int):=by rw [wh,Int.natCast_mul]
     have hmm:aF .mul (.int .i64 ((n ^ j:Nat):Int)) (.int .i64 (n:Int))=some (.int .i64 ((n ^ (j+1):Nat):Int)):=(by rw [uA (by rw [hm];omega) (by rw [hm];omega),hm]);rw [F.cR.dh];simp only [e0,e8,aR,reduceAdd,reduceEqDiff,reduceIte,aV rules hi,dF gv hv];simp only [aP];refine ah (bN (jz r nR) fun x jG=>?_);simp only [aR,reduceAdd,reduceEqDiff,reduceIte,jG,e4,e9,kF,bh hj,aK,lz,hmm,aI hj U2];exact TW _ _ ⟨rfl,e0,e2,e4,e7,e8,rfl,rfl⟩
    ·rintro e h2 ⟨rfl,e0,e2,e4,e7,e8,e9,kF⟩ K2 gi
     have Db:aF .add (.int .i64 (q:Int)) (.int .i64 ((n ^ (varsOf r).length:Nat):Int))=some (.int .i64 ((q+n ^ (varsOf r).length:Nat):Int)):=by
      rw [jd (by omega) (by omega)];rfl
     rw [F.cR.dh];simp only [e0,e8,aR,reduceAdd,reduceEqDiff,reduceIte,aV rules hi,dF gv hv];simp only [aP];refine ah (bN (jz r nR) fun x jG=>?_);simp only [aR,reduceAdd,reduceEqDiff,reduceIte,jG,kF,aW,aJ];rw [gi,F.cR.cx];simp only [aR,reduceAdd,reduceEqDiff,reduceIte,e7,e8,e9,Db,aI hi Qh];exact DZ _ _ ⟨rfl,q+n ^ (varsOf r).length,by rw [succ_mul];omega,e0,e2,e4,rfl,rfl⟩
   ·rintro e h' ⟨rfl,q,hq,e0,e2,e4,e7,e8⟩ K' hx;rw [F.cR.aT];simp only [e0,e8,aR,reduceAdd,reduceEqDiff,reduceIte,aW];rw [hx,F.cR.aG];simp only [aR,reduceAdd,reduceEqDiff,reduceIte,e2,e7];exact fin _ _ (fun _=>jz)
 have main:=gen (fun o h'=>yes (∃ b:Bool,o = .ret (.bool b)/\(b=true->∀ r ∈ rules.l,r.mc))) (fun b h' hb=>ct.2 ⟨b,rfl,hb⟩);refine main.frozen (by simp [AV.cN,AV.pure,cc fN,eu]) fun o h' ho=>?_;obtain ⟨b,rfl,hb⟩:=ct.1 ho;exact ⟨_,_,rfl,.scalar _ rfl,hK b hb⟩
theorem yG{e:Int}(h:DI rs s e):e≠0/\¬ ez rs s:=by
 rcases h with ⟨a,rfl⟩|⟨g,v,⟨a,rfl⟩|⟨a,b,rfl⟩⟩
 ·exact ⟨by omega,fun h=>a.elim (fun h'=>h' h.gC) fun h'=>by rw [h.valid] at h';cases h'⟩
 ·exact ⟨by omega,fun h=>h.names a⟩
 ·exact ⟨by omega,fun h=>h.AE b⟩
theorem Of{Fk:Lk}(ho:ez rs s)(hd:out.aE.l.map bX=s.aE.l.map bX++wZ rs s.size.toNat Fk (eF rs)):out.small:=by
 have hs:=(fC ho.valid).1;obtain ⟨m,jE⟩:=ho.gC.go;have sq:=ho.gC.mc;have hdl:=oP rs
 have key:∀ r ∈ out.aE.l,(∃ p ∈ s.aE.l,p.aM.l.map Sl.l=r.aM.l.map Sl.l)\/∃ nm ∈ eF rs,r.aM.l.map Sl.l=yD s.size.toNat Fk nm (pU rs nm) (s.size.toNat ^ pU rs nm):=fun r hr=>by
  have h1:bX r ∈ s.aE.l.map bX++wZ rs s.size.toNat Fk (eF rs):=by rw [<- hd];exact List.mem_map_of_mem hr
  rcases mem_append.1 h1 with h1|h1
  ·obtain ⟨p,hp,e⟩:=mem_map.1 h1;unfold bX at e;simp only [Prod.mk.injEq] at e;exact .inl ⟨p,hp,e.2.2⟩
  ·obtain ⟨nm,xj,e⟩:=mem_map.1 h1;unfold bX at e;simp only [Prod.mk.injEq] at e;exact .inr ⟨nm,xj,e.2.2.symm⟩
 have TU:∀ nm ∈ eF rs,pU rs nm<=12/\s.size.toNat ^ pU rs nm<=4096:=fun nm xj=>by
  obtain ⟨_,r,hr,_,ha⟩:=BK jE ((fO rs).1 xj);rw [ha];exact ⟨nV (je jE r hr).1,Nat.le_of_not_lt fun h=>ho.AE (.inr (.inl ⟨r,hr,h⟩))⟩
 refine ⟨?_,fun r hr=>?_,fun r hr t ht=>?_⟩
 ·have h1:=congrArg List.length hd;rw [length_map,length_append,length_map] at h1;unfold wZ at h1;rw [length_map] at h1;have h2:¬ 8<s.aE.l.length+(eF rs).length:=fun h=>ho.AE (.inl h);omega
 ·rcases key r hr with ⟨p,hp,e⟩|⟨nm,xj,e⟩
  ·have h1:=congrArg List.length e;simp only [length_map] at h1;have:=hs.Hg p hp;omega
  ·have h1:=congrArg List.length e;rw [length_map] at h1;have h2:=Jw s.size.toNat Fk nm (pU rs nm) (s.size.toNat ^ pU rs nm);have:=(TU nm xj).2;omega
 ·rcases key r hr with ⟨p,hp,e⟩|⟨nm,xj,e⟩
  ·have h1:t.l ∈ p.aM.l.map Sl.l:=by rw [e];exact List.mem_map_of_mem ht
   obtain ⟨u,hu,Ww⟩:=mem_map.1 h1;rw [<- Ww];exact hs.XD p hp u hu
  ·have h1:t.l ∈ yD s.size.toNat Fk nm (pU rs nm) (s.size.toNat ^ pU rs nm):=by rw [<- e];exact List.mem_map_of_mem ht
   unfold yD at h1;obtain ⟨i,_,hi⟩:=mem_map.1 h1;rw [<- hi,uc];have:=(TU nm xj).1;omega
theorem QD{u:List Int}:u ∈ yD n L nm k N↔∃ i,i<N/\L nm i=true/\u=nI n k i:=by
 unfold yD;rw [mem_map];constructor
 ·rintro ⟨i,hi,rfl⟩;rw [mem_filter,mem_range] at hi;exact ⟨i,hi.1,hi.2,rfl⟩
 ·rintro ⟨i,h1,h2,rfl⟩;exact ⟨i,mem_filter.2 ⟨mem_range.2 h1,h2⟩,rfl⟩
theorem Og(n1:1<=n)(hj:j<n ^ k)(hij:i<j):dm (nI n k i) (nI n k j)=true:=by
 obtain ⟨a1,a2⟩:=Hh n1 (show i<n ^ k by omega);obtain ⟨b1,b2⟩:=Hh n1 hj
 cases h:dm (nI n k i) (nI n k j) with
 |true=>rfl
 |false=>
  have hl:(nI n k i).length=(nI n k j).length:=by rw [uc,uc]
  have hne:nI n k i≠nI n k j:=fun e=>by rw [e,b2] at a2;omega
  have:=FT hl.symm b1 a1 (zQ hl h hne);omega
theorem QE(n1:1<=n)(L:Lk)(nm:b7)(k:Nat):TZ n k (yD n L nm k (n ^ k)):=by
 refine ⟨fun u hu=>?_,?_⟩
 ·obtain ⟨i,hi,_,rfl⟩:=QD.1 hu;exact ⟨uc _ _ _,(Hh n1 hi).1⟩
 ·unfold iF yD;rw [pairwise_map];refine (List.Pairwise.filter _ ?_);refine List.Pairwise.imp_of_mem ?_ (pairwise_lt_range (n:=n ^ k));intro a b _ hb rj;exact Og n1 (mem_range.1 hb) rj
section
variable {rs:List aO} {s out:cD} {n:Nat} {m:eE} {L:Lk}
theorem T3(hd:out.aE.l.map bX=s.aE.l.map bX++wZ rs n L (eF rs)):(out.aE.l.map bX).map nk=(s.aE.l.map bX++k9 rs (eF rs)).map nk:=by
 rw [hd,map_append,map_append];unfold wZ k9;congr 1;rw [List.map_map,List.map_map];rfl
theorem Oh(ho:ez rs s)(jE:dV rs []=some m)(hn:s.size=(n:Int))(hz:out.size=s.size)(hd:out.aE.l.map bX=s.aE.l.map bX++wZ rs n L (eF rs)):cV out=true:=by
 have hE:=WK (rs':=s.aE.l++oT rs (eF rs)) ho jE (by rw [map_append,xb]);rw [map_append,xb] at hE;have QB:=T3 hd;have n1:1<=n:=by have:=hE.lo;omega
 have uO:s.size.toNat=n:=by omega
 rw [fX,hz];have xj:∀ l:List Nz,l.map (·.1)=(l.map nk).map (·.1):=fun l=>by rw [List.map_map];rfl
 refine ⟨hE.lo,hE.hi,?_,fun d QA=>?_,?_⟩
 ·have:=congrArg List.length QB;simp only [length_map] at this;have h8:=hE.mc;rw [length_map];omega
 ·rw [hd] at QA;rcases mem_append.1 QA with QA|QA
  ·exact hE.rel d (mem_append_left _ QA)
  ·obtain ⟨nm,xj,rfl⟩:=mem_map.1 QA;obtain ⟨q0,k,q1,q2,q3,_⟩:=hE.rel (nm,(pU rs nm:Int),[]) (mem_append_right _ (mem_map.2 ⟨nm,xj,rfl⟩));have q1':(pU rs nm:Int)=(k:Int):=q1;obtain rfl:pU rs nm=k:=by omega
   rw [uO] at q3 ⊢;exact ⟨q0,_,rfl,q2,q3,QE n1 L nm _⟩
 ·rw [xj,QB,<- xj];exact hE.names
set_option maxHeartbeats 1000000 in
end
structure jT (rs:List aO) (s out:cD):Prop where
 size:out.size=s.size
 fin:∃ Fk,mJ rs s.size.toNat s Fk/\out.aE.l.map bX=s.aE.l.map bX++wZ rs s.size.toNat Fk (eF rs)
theorem Gc{n:Nat}:∀ {x y:List (Sl Int)} (d:List Bool),x.map Sl.l=y.map Sl.l->oM n x d=oM n y d
 |[],[],d,_=>rfl
 |t :: x,u :: y,d,h=>by
  simp only [map_cons,List.cons.injEq] at h;simp only [oM,h.1];exact Gc _ h.2
 |[],_ :: _,_,h=>by simp at h
 |_ :: _,[],_,h=>by simp at h
theorem Oi{x y:List (Sl Int)}(h:x.map Sl.l=y.map Sl.l):bitsOf n k x=bitsOf n k y:=by
 unfold bitsOf;exact Gc _ h
theorem JG{nm:b7}:∀ {l m:List Rel},l.map bX=m.map bX->(l.find? (fQ nm)).map bX=(m.find? (fQ nm)).map bX
 |[],[],_=>rfl
 |q :: l,u :: m,h=>by
  simp only [map_cons,List.cons.injEq] at h
  have hn:fQ nm q=fQ nm u:=by
   have:q.name=u.name:=congrArg (·.1) h.1;simp only [fQ,this]
  rw [find?_cons,find?_cons,hn]
  cases fQ nm u with
  |true=>simp [h.1]
  |false=>exact JG h.2
 |[],_ :: _,h=>by simp at h
 |_ :: _,[],h=>by simp at h
theorem DN{t:cD}(h:s.aE.l.map bX=t.aE.l.map bX):zN n s=zN n t:=by
 funext nm k;have:=JG (nm:=nm) h;unfold zN
 cases h1:s.aE.l.find? (fQ nm) with
 |none=>
  cases h2:t.aE.l.find? (fQ nm) with
  |none=>rfl
  |some u=>rw [h1,h2] at this;simp at this
 |some q=>
  cases h2:t.aE.l.find? (fQ nm) with
  |none=>rw [h1,h2] at this;simp at this
  |some u=>
   rw [h1,h2] at this;simp only [map_some,Option.some.injEq] at this;have e1:q.arity=u.arity:=congrArg (·.2.1) this;have e2:q.aM.l.map Sl.l=u.aM.l.map Sl.l:=congrArg (·.2.2) this;show (bitsOf n q.arity.toNat q.aM.l).getD k false=(bitsOf n u.arity.toNat u.aM.l).getD k false;rw [e1,Oi e2]
theorem jT.det{t:cD}(ha:jT rs s a)(hb:jT rs t b)(hz:s.size=t.size)(hd:s.aE.l.map bX=t.aE.l.map bX):a.size=b.size/\a.aE.l.map bX=b.aE.l.map bX:=by
 obtain ⟨z1,F,f1,f2⟩:=ha;obtain ⟨z2,G,g1,g2⟩:=hb;refine ⟨by rw [z1,z2,hz],?_⟩;rw [<- hz] at g1 g2
 have g1':mJ rs s.size.toNat s G:=by
  unfold mJ at g1 ⊢
  rwa [DN hd]
 obtain rfl:=f1.unique g1';rw [f2,g2,hd]
theorem MI{t:cD}(h:(t.aE.l.map bX).map nk=(s.aE.l.map bX).map nk){x:Rel}(hx:x ∈ t.aE.l):∃ y ∈ s.aE.l,y.name=x.name/\y.arity=x.arity:=by
 have h1:nk (bX x) ∈ (t.aE.l.map bX).map nk:=List.mem_map_of_mem (List.mem_map_of_mem hx);rw [h] at h1;obtain ⟨d,hd,e⟩:=mem_map.1 h1;obtain ⟨y,hy,rfl⟩:=mem_map.1 hd;exact ⟨y,hy,congrArg (·.1) e,congrArg (·.2) e⟩
theorem DO{t:cD}(ho:ez rs s)(hv:cV t=true)(hz:t.size=s.size)(h:(t.aE.l.map bX).map nk=(s.aE.l.map bX).map nk):ez rs t:=by
 refine ⟨ho.gC,hv,fun h4=>ho.names ?_,fun h5=>ho.AE ?_⟩
 ·rcases h4 with ⟨p,hp,hn,hf⟩|⟨r,hr,hn⟩
  ·refine .inl ⟨p,hp,hn,?_⟩;rw [find?_eq_none] at hf ⊢;intro y hy hs;obtain ⟨x,hx,e1,e2⟩:=MI h.symm hy;refine hf x hx ?_;simp only [gm] at hs ⊢;rw [e1,e2];exact hs
  ·obtain ⟨y,hy,e1,_⟩:=MI h hr;exact .inr ⟨y,hy,by rw [e1];exact hn⟩
 ·have hl:t.aE.l.length=s.aE.l.length:=by have:=congrArg List.length h;simpa using this
  unfold MA at h5 ⊢;rw [hl,hz] at h5;exact h5
theorem Lq(ho:ez rs s)(hr:s.aE.l[j]?=some r)(hk:r.arity=(t.length:Int))(hb:jo s.size t=true)(hp:mW s j r t is s'):ez rs s':=by
 obtain ⟨n,hn,n1,_⟩:=iW ho.valid;refine DO ho (F9 ho.valid hr hk rfl ?_ hp) hp.size (BL hr hp);have:((s.size.toNat:Nat):Int)=s.size:=by rw [hn];simp
 rw [this];exact hb
theorem jT.valid{rs:List aO}{s out:cD}(ho:ez rs s)(h:jT rs s out):cV out=true:=by
 obtain ⟨n,hn,n1,_⟩:=iW ho.valid;obtain ⟨m,jE⟩:=ho.gC.go;obtain ⟨hz,F,_,hd⟩:=h;have e:s.size.toNat=n:=by rw [hn];simp
 rw [e] at hd;exact Oh ho jE hn hz hd
theorem jT.small{rs:List aO}{s out:cD}(ho:ez rs s)(h:jT rs s out):out.small:=by
 obtain ⟨hz,F,_,hd⟩:=h;exact Of ho hd
theorem jT.sig{t:cD}(ha:jT rs s a)(hb:jT rs t b)(h:(t.aE.l.map bX).map nk=(s.aE.l.map bX).map nk):(b.aE.l.map bX).map nk=(a.aE.l.map bX).map nk:=by
 obtain ⟨_,F,_,f2⟩:=ha;obtain ⟨_,G,_,g2⟩:=hb;rw [f2,g2,map_append,map_append,h];congr 1;unfold wZ;rw [List.map_map,List.map_map];rfl
theorem MJ(ha:cV a=true)(hb:cV b=true)(h:(b.aE.l.map bX).map nk=(a.aE.l.map bX).map nk) :
  a.aE.l.length<=b.aE.l.length/\∀ (i:Nat) (q u:Rel),a.aE.l[i]?=some q->b.aE.l[i]?=some u->(∀ t ∈ q.aM.l,∀ w ∈ u.aM.l,w.l.length=t.l.length)/\iF (u.aM.l.map Sl.l):=by
 have hl:b.aE.l.length=a.aE.l.length:=by have:=congrArg List.length h;simpa using this
 refine ⟨by omega,fun i q u hq hu=>?_⟩
 have e:nk (bX u)=nk (bX q):=by
  have:=congrArg (·[i]?) h;simp only [getElem?_map,hq,hu,map_some,Option.some.injEq] at this;exact this
 have ea:u.arity=q.arity:=congrArg (·.2) e;obtain ⟨_,k,k1,_,_,kt⟩:=(fX.1 ha).rel _ (List.mem_map_of_mem (ig hq));obtain ⟨_,m,m1,_,_,mt⟩:=(fX.1 hb).rel _ (List.mem_map_of_mem (ig hu));have k1:q.arity=(k:Int):=k1;have m1:u.arity=(m:Int):=m1;refine ⟨fun t ht w hw=>?_,mt.2⟩;rw [(kt.1 _ (List.mem_map_of_mem ht)).1,(mt.1 _ (List.mem_map_of_mem hw)).1];omega
def jr(rs:Sl aO)(s all:cD)(dn:AV):List AV:=[ak aP 3 rs,.int .i64 s.size,ak aQ 3 s.aE,.int .i64 all.size,ak aQ 3 all.aE,dn]
structure dS (rs:Sl aO) (N:Nat) (h:Heap) (s all:cD) (dn:AV):Prop where
 lt:N<h.next
 get:h.get N=some (.cells (jr rs s all dn))
theorem dS.agree{rs:Sl aO}{all:cD}(x:dS rs N h s all dn)(hg:h'.get N=h.get N)(hn:h.next<=h'.next):dS rs N h' s all dn:=⟨Nat.lt_of_lt_of_le x.lt hn,by rw [hg];exact x.get⟩
theorem dS.ext{rs:Sl aO}{all:cD}(x:dS rs N h s all dn)(e:bA h h'):dS rs N h' s all dn:=x.agree (e.get N x.lt) e.next
theorem dS.base{rs:Sl aO}{all:cD}(x:dS rs N h s all dn):ag (some 2) (.ptr N 1) h=some (.agg (an s)):=by rw [aj x.get];rfl
theorem dS.all{rs:Sl aO}{N:Nat}{h:Heap}{s all:cD}{dn:AV}(x:dS rs N h s all dn):ag (some 2) (.ptr N 3) h=some (.agg (an all)):=by rw [aj x.get];rfl
theorem dS.rules{rs:Sl aO}{all:cD}(x:dS rs N h s all dn):ag none (.ptr N 0) h=some (ak aP 3 rs):=by rw [aj x.get];rfl
theorem dS.size{rs:Sl aO}{N:Nat}{h:Heap}{s all:cD}{dn:AV}(x:dS rs N h s all dn):ag none (.ptr N 1) h=some (.int .i64 s.size):=by rw [aj x.get];rfl
theorem dS.done{rs:Sl aO}{all:cD}(x:dS rs N h s all dn):ag none (.ptr N 5) h=some dn:=by rw [aj x.get];rfl
theorem dS.T4{rs:Sl aO}{all:cD}(x:dS rs N h s all dn)(s':cD):aY 2 (.ptr N 1) (.agg (an s')) h=some (h.set N (.cells (jr rs s' all dn)))/\dS rs N (h.set N (.cells (jr rs s' all dn))) s' all dn:=
 ⟨by rw [cF (n:=2) (v:=.agg (an s')) x.get rfl (cp s') (by simp [jr])];rfl,by rw [Heap.bt];exact x.lt,by rw [Heap.aN,if_pos rfl]⟩
theorem dS.WT{rs:Sl aO}{all:cD}(x:dS rs N h s all dn)(a':cD):aY 2 (.ptr N 3) (.agg (an a')) h=some (h.set N (.cells (jr rs s a' dn)))/\dS rs N (h.set N (.cells (jr rs s a' dn))) s a' dn:=
 ⟨by rw [cF (n:=2) (v:=.agg (an a')) x.get rfl (cp a') (by simp [jr])];rfl,by rw [Heap.bt];exact x.lt,by rw [Heap.aN,if_pos rfl]⟩
theorem dS.MK{rs:Sl aO}{all:cD}(x:dS rs N h s all dn)(h1:d.dy = [d])(h2:bw [d]=true):aY 1 (.ptr N 5) d h=some (h.set N (.cells (jr rs s all d)))/\dS rs N (h.set N (.cells (jr rs s all d))) s all d:=
 ⟨by rw [cF (n:=1) (v:=d) x.get (by rw [h1];rfl) (by rw [h1];exact h2) (by simp [jr]),h1];rfl,by rw [Heap.bt];exact x.lt,by rw [Heap.aN,if_pos rfl]⟩
structure zT (N:Nat) (h h':Heap):Prop where
 next:h.next<=h'.next
 get:∀ b,b<h.next->b≠N->h'.get b=h.get b
theorem zT.set{N:Nat}{h h':Heap}(x:zT N h h')(o:jV):zT N h (h'.set N o):=⟨by rw [Heap.bt];exact x.next,fun b hb hn=>by rw [Heap.aN,if_neg hn];exact x.get b hb hn⟩
theorem bA.but(x:bA h h')(N:Nat):zT N h h':=⟨x.next,fun b hb _=>x.get b hb⟩
theorem zT.trans{a b c:Heap}(x:zT N a b)(y:zT N b c):zT N a c:=⟨Nat.le_trans x.next y.next,fun i hi hn=>by rw [y.get i (Nat.lt_of_lt_of_le hi x.next) hn,x.get i hi hn]⟩
set_option maxHeartbeats 1000000 in
theorem JH{rs:Sl aO}{all:cD}(x:dS rs N h s all dn)(kV:∀ r ∈ rs.l,r.ok)(jz:∀ r ∈ rs.l,r.mc)(ho:ez rs.l s)(hp:jT rs.l s all)
  {t:Sl Int} (hj:iM (gm nm (t.l.length:Int)) s.aE.l=(j:Int)) (hr:s.aE.l[j]?=some r) (MC:r.arity=(t.l.length:Int)) (hin:jo s.size t.l=true)
  (hK:∀ (s' sj:cD) h' (f g:Sl EY),mW s j r t.l is s'->ez rs.l s'->jT rs.l s' sj->dS rs N h' s' sj dn->zT N h h' ->
   f.l.map Hs=vW (sj.aE.l.map bX) (all.aE.l.map bX)->g.l.map Hs=vW (all.aE.l.map bX) (sj.aE.l.map bX)->K (.ret (.tuple [ak ny 2 f,ak ny 2 g])) h'=true) :
  Sem TP 50 [.ptr N 0,.str nm,ak encI 1 t,.bool is] h K:=by
 have hv:=ho.valid;have hnc:∀ c o:Nat,bq (.ptr c o)=some (.ptr c o):=fun _ _=>rfl;refine F.vq ?_;rw [F.wK];simp only [aR,reduceAdd,reduceEqDiff,reduceIte,hnc,x.base];refine ah (Oc (fC hv).2 hv hj hr MC hin fun s' Nd=>?_);have oh:=Lq ho hr MC hin Nd;have E9:=oh.valid;obtain ⟨Wk,x1⟩:=x.T4 s';have b1:zT N h (h.set N (.cells (jr rs s' all dn))):=(bA.refl h).but N |>.set _;simp only [aR,reduceAdd,reduceEqDiff,reduceIte,Wk,hnc,x1.all];have n1:(h.set N (.cells (jr rs s' all dn))).next=h.next:=Heap.bt _ _ _
 generalize (h.set N (.cells (jr rs s' all dn)))=h1 at x1 b1 n1 ⊢;obtain ⟨H2,qH,p2,po2,pn2⟩:=cu (h:=h1) (zs:=[.int .i64 0,.ax]) (cs:=an all) (n:=2) rfl rfl (cp all);have e2:bA h1 H2:=⟨by omega,fun b hb=>po2 b (by omega)⟩
 have x2:=x1.ext e2;have b2:=b1.trans (e2.but N);simp only [aR,reduceAdd,reduceEqDiff,reduceIte,qH,hnc,x2.rules,x2.base];refine ah (dB kV jz (fC E9).2 (fun _=>(fC E9).1) (fun e he=>absurd oh (yG he).2) fun _ out hz hx=>?_);have hrun:jT rs.l s' out:=⟨hz,hx⟩
 obtain ⟨st3,x3⟩:=x2.WT out;have b3:=b2.set (.cells (jr rs s' out dn));have hNn:N≠h1.next:=by have:=x.lt;omega
 have l4:ag (some 2) (.ptr h1.next 0) (H2.set N (.cells (jr rs s' out dn)))=some (.agg (an all)):=by
  rw [aj (cs:=an all) (by rw [Heap.aN,if_neg (Ne.symm hNn)];exact p2),cE (cs:=an all) (n:=2) rfl]
 simp only [aR,reduceAdd,reduceEqDiff,reduceIte,st3,hnc,x3.all,l4];have Da:=hrun.sig hp (BL hr Nd).symm;have afp:=hp.sig hrun (BL hr Nd);have XB:=hp.valid ho;have hvo:=hrun.valid oh;obtain ⟨q1,q2⟩:=MJ hvo XB Da;obtain ⟨q3,q4⟩:=MJ XB hvo afp;refine ah (dD (hrun.small oh) (hp.small ho) q1 q2 fun f hf=>?_);simp only [aR,reduceAdd,reduceEqDiff,reduceIte,x3.all,l4,AV.beq_refl,Bool.and_self,if_true];refine ah (dD (hp.small ho) (hrun.small oh) q3 q4 fun g hg=>?_);simp only [aR,reduceAdd,reduceEqDiff,reduceIte];exact hK s' out _ f g Nd oh hrun x3 b3 hf hg
theorem EZ{t:Sl Int}(ht:t.l.length<=1000000)(hK:K (.ret (ak encI 1 t)) h=true):Sem TP 49 [ak encI 1 t] h K:=by
 have main:Sem TP 49 [ak encI 1 t] Heap.empty (fun o h'=>yes (∃ v,o = .ret v/\Fz true h' v (ak encI 1 t))):=by
  refine F.jP ?_;rw [F.kj];simp only [Hi,aR,reduceAdd,reduceEqDiff,reduceIte]
  cases t with
  |none=>simp only [aK];exact ct.2 ⟨_,rfl,.dP rfl⟩
  |some l=>
   obtain ⟨b,h',a1,a2,_,_,_⟩:=zH (uK mT (some l) (Heap.empty.alloc (.cells []))) ht;simp only [aJ,uQ,aq,a1,iZ];exact ct.2 ⟨_,rfl,ym a2⟩
 refine main.frozen (by simp [AV.cN,cc j4]) fun o h' ho=>?_;obtain ⟨v,rfl,hf⟩:=ct.1 ho;exact ⟨v,_,rfl,hf,hK⟩
theorem AH(hs:s.small)(hK:∀ s':cD,s'.size=s.size->s'.aE.l.map bX=s.aE.l.map bX->K (.ret (.agg (an s'))) h=true):Sem TP 46 [.agg (an s)] h K:=by
 have main:Sem TP 46 [.agg (an s)] Heap.empty (fun o h'=>yes (∃ v,∃ s':cD,o = .ret v/\s'.size=s.size/\s'.aE.l.map bX=s.aE.l.map bX/\Fz true h' v (.agg (an s')))):=by
  refine AG hs fun a h' l hx hd hl=>?_;obtain ⟨z,z1,z2⟩:=MG hd.own hd.row;have:=lF.cons (.scalar (.int .i64 s.size) rfl) (lF.cons z2 lF.nil);exact ct.2 ⟨_,⟨s.size,z⟩,rfl,rfl,by rw [<- hl];exact z1,.agg _ _ this.len this.rel⟩
 refine main.frozen (by simp [AV.cN,AV.pure,eu]) fun o h' ho=>?_;obtain ⟨v,s',rfl,h1,h2,hf⟩:=ct.1 ho;exact ⟨v,_,rfl,hf,hK s' h1 h2⟩
theorem yI(hs:s.ok)(hv:cV s=true){t:Sl Int}(hj:iM (gm nm (t.l.length:Int)) s.aE.l = -1)
  (hK:K (.ret (.tuple [.bool false,.int .i64 4])) h=true):Sem TP 21 [.agg (an s),.str nm,ak encI 1 t] h K:=by
 refine Sem.data (r:=.tuple [.bool false,.int .i64 4]) ?_ (by simp [AV.cN,AV.pure,eu,cc j4]) hK;clear hK;refine F.vM ?_;rw [F.yb];simp only [cY (cp s),aq,bT];have g0:(Heap.empty.alloc (.cells (an s))).get 0=some (.cells (an s)):=aB _ _;generalize (Heap.empty.alloc (.cells (an s)))=H at g0 ⊢;have l0:ag (some 2) (.ptr 0 0) H=some (.agg (an s)):=by rw [aj g0,cE (cs:=an s) (n:=2) rfl]
 simp only [l0,aq];refine ah (dI hs ?_);rw [hv];simp only [aR,reduceAdd,reduceEqDiff,reduceIte,Bool.not_true,aJ,l0];refine ah (rG hs ?_);rw [hj];simp only [aR,reduceAdd,reduceEqDiff,reduceIte,fy (show (-1:Int)<0 by omega)];exact fY rfl
theorem uf{rs:Sl aO}{all:cD}(x:dS rs N h s all dn)(h1:0<s.size)(hK:K (.ret (.bool true)) h=true):Sem TP 45 [.ptr N 0] h K:=by
 refine F.sg ?_;rw [F.tC];simp only [show nA (.pointer 78) (.ptr N 0) .ey=some (.bool true) from rfl,show bq (.ptr N 0)=some (.ptr N 0) from rfl,aR,reduceAdd,reduceEqDiff,reduceIte,x.size,fy h1];exact hK
theorem QF(s:St):dw TP s Tryz.f14.results.toList=(match ag (some 2) (s.env 2) s.h,(some []:Option (List AV)) with|some v,some vs=>some (v :: vs)|_,_=>none):=by kernel_rfl
theorem qF{rs:Sl aO}{all:cD}(x:dS rs N h s all dn)(h1:0<s.size)(hs:all.small)
  (hK:∀ (a':cD) h',bA h h'->a'.size=all.size->a'.aE.l.map bX=all.aE.l.map bX->K (.ret (.agg (an a'))) h'=true):Sem TP 14 [.ptr N 0] h K:=by
 refine F.vm ?_;rw [F.wI];have x1:=x.ext (bA.alloc h (.cells [.int .i64 0,.ax]));have g:(h.alloc (.cells [.int .i64 0,.ax])).get h.next=some (.cells [.int .i64 0,.ax]):=aB _ _
 refine ah (uf x1 h1 ?_);simp only [aR,reduceAdd,reduceEqDiff,reduceIte,Bool.not_true,show bq (.ptr N 0)=some (.ptr N 0) from rfl,x1.all];refine ah (AH hs fun a' z1 z2=>?_)
 have st:aY 2 (.ptr h.next 0) (.agg (an a')) (h.alloc (.cells [.int .i64 0,.ax]))=some ((h.alloc (.cells [.int .i64 0,.ax])).set h.next (.cells (an a'))):=by
  rw [cF (n:=2) (v:=.agg (an a')) g rfl (cp a') (by simp)];rfl
 have l1:ag (some 2) (.ptr h.next 0) ((h.alloc (.cells [.int .i64 0,.ax])).set h.next (.cells (an a')))=some (.agg (an a')):=by
  rw [aj (cs:=an a') (by rw [Heap.aN,if_pos rfl]),cE (cs:=an a') (n:=2) rfl]
 simp only [aR,reduceAdd,reduceEqDiff,reduceIte,st,QF,l1];exact hK a' _ ((bA.alloc _ _).set (dM _) _) z1 z2
structure vz where
 name:b7
 tuple:Sl Int
 JI:Bool
 to:Bool
def fm(c:vz):List AV:=[.str c.name,ak encI 1 c.tuple,.bool c.JI,.bool c.to]
theorem Gd(c:vz):(fm c).length=4:=rfl
theorem qG(c:vz):bw (fm c)=true:=by unfold fm;simp only [bw,fZ,Bool.and_true];rfl
inductive gH (N:Nat) (h:Heap):AV->List vz->Prop
 |nil:gH N h .ax []
 |row (b:Nat) (l:List vz) (cs:List AV):b≠N->b<h.next->h.get b=some (.cells cs)->l.length*4<=cs.length->cs.take (l.length*4)=l.flatMap fm->gH N h (.slice b 0 l.length 4) l
theorem gH.but{l:List vz}(o:gH N h d l)(x:zT N h h'):gH N h' d l:=by
 cases o with
 |nil=>exact .nil
 |row b l cs h1 h2 h3 h4 h5=>exact .row b l cs h1 (Nat.lt_of_lt_of_le h2 x.next) (by rw [x.get b h2 h1];exact h3) h4 h5
theorem gH.kH{l:List vz}(o:gH N h d l):d.dy = [d]/\bw [d]=true:=by cases o<;>exact ⟨rfl,rfl⟩
theorem gH.len{l:List vz}(o:gH N h d l)(h':Heap):bU .slice d h'=some (.int .i64 (l.length:Int)):=by cases o<;>rfl
theorem gH.push{l:List vz}(o:gH N h d l)(hN:N<h.next)(hroom:l.length<=1000000)(c:vz) :
  ∃ d' h',b6 4 48 d (.slice h.next 0 1 4) (h.alloc (.cells (fm c)))=some (d',h')/\gH N h' d' (l++[c])/\h.next<=h'.next/\(∀ b,b<h.next->cz d≠some b->h'.get b=h.get b):=by
 have hm:cG=140737488355328:=rfl;have g:=aB h (.cells (fm c));have hn:(h.alloc (.cells (fm c))).next=h.next+1:=Heap.aL h _
 have hf:iq 4 1 (.slice h.next 0 1 4) (h.alloc (.cells (fm c)))=some (fm c):=by
  simp only [iq,g];rfl
 cases o with
 |nil=>
  refine ⟨.slice (h.alloc (.cells (fm c))).next 0 1 4,(h.alloc (.cells (fm c))).alloc (.cells (fm c)),?_,?_,by rw [Heap.aL,hn];omega,fun b hb _=>by rw [Heap.aU,if_neg (by omega),Heap.aU,if_neg (by omega)]⟩
  ·simp only [b6,kX,hf,qG,Bool.and_true];rw [if_neg (by omega),if_pos (by rw [hm];decide)]
  ·exact .row _ [c] (fm c) (by rw [hn];omega) (by simp only [Heap.aL];omega) (aB _ _) (by simp [fm]) (by simp [fm])
 |row b l cs h1 h2 h3 h4 h5=>
  have g2:(h.alloc (.cells (fm c))).get b=some (.cells cs):=by rw [Heap.aU,if_neg (by omega)];exact h3
  have oZ:((h.alloc (.cells (fm c))).set b .dead).next=h.next+1:=by rw [Heap.bt,hn]
  refine ⟨.slice (h.alloc (.cells (fm c))).next 0 (l.length+1) 4,((h.alloc (.cells (fm c))).set b .dead).alloc (.cells ((cs.drop 0).take (l.length*4)++fm c)),?_,?_,by rw [Heap.aL,oZ];omega,fun b' hb hne=>?_⟩
  ·simp only [b6,kX,hf,g2,qG,Bool.and_true];rw [if_pos True.intro,if_neg (by omega),if_pos (by rw [hm];simp only [and_eq_true,decide_eq_true_eq];omega)]
  ·have hcs:(cs.drop 0).take (l.length*4)++fm c=(l++[c]).flatMap fm:=by
    rw [drop_zero,h5,flatMap_append];simp
   have PW:l.length+1=(l++[c]).length:=by simp
   rw [hcs,PW];have hlf:((l++[c]).flatMap fm).length=(l++[c]).length*4:=fH Gd _;refine .row _ (l++[c]) ((l++[c]).flatMap fm) (by rw [hn];omega) (by simp only [Heap.aL,Heap.bt];omega) ?_ (Nat.le_of_eq hlf.symm) (kf (Nat.le_of_eq hlf));rw [hn,<- oZ];exact aB _ _
  ·rw [Heap.aU,if_neg (by omega),Heap.aN,if_neg (fun e=>hne (by rw [e];rfl)),Heap.aU,if_neg (by omega)]
theorem Lr{B:Nat}{rs:Sl aO}{all:cD}(x:dS rs N h s all dn)(hb:h.get B=some (.cells [.ptr N 0]))(v:Int)(K:Out->Heap->Bool)(hK:K (.ret (.bool (Du s.size v))) h=true):Sem TP 48 ([]++([.int .i64 v]++[.ptr B 0])) h K:=by
 refine F.si ?_;rw [F.tD];simp only [show bq (.ptr N 0)=some (.ptr N 0) from rfl,aj hb,aR,reduceAdd,reduceEqDiff,reduceIte,x.size];unfold Du at hK;by_cases h1:v<0<;>by_cases h2:s.size<=v<;>simpa [h1,h2] using hK
theorem WU(nm:b7)(y:Sl Int)(a b:Bool):iy [.str [],.ax,.bool false,.bool false] [(0,1),(1,1),(2,1),(3,1)] [.str nm,ak encI 1 y,.bool a,.bool b]=some (.agg (fm ⟨nm,y,a,b⟩)):=by cases y<;>rfl
theorem WV(c:vz):fS [.str [],.ax,.bool false,.bool false] [(0,4)] [.agg (fm c)]=some (fm c):=by
 obtain ⟨nm,y,a,b⟩:=c;cases y<;>rfl
structure acg (N:Nat) (dn:AV) (h h':Heap):Prop where
 next:h.next<=h'.next
 get:∀ b,b<h.next->b≠N->cz dn≠some b->h'.get b=h.get b
set_option maxHeartbeats 1000000 in
theorem Ge{rs:Sl aO}{all:cD}{dl:List vz}(x:dS rs N h s all dn)(od:gH N h dn dl)(hdl:dl.length<=1000000)(kV:∀ r ∈ rs.l,r.ok)(jz:∀ r ∈ rs.l,r.mc)(ho:ez rs.l s)(hp:jT rs.l s all)
  {t:Sl Int} (Dz:t.l.length<=1000000)
  (h4:s.aE.l.find? (gm nm (t.l.length:Int))=none->∀ h',bA h h'->K (.ret (.tuple [.ax,.ax,.int .i64 4])) h'=true)
  (h2:∀ r,s.aE.l.find? (gm nm (t.l.length:Int))=some r->jo s.size t.l=false->∀ h',bA h h'->K (.ret (.tuple [.ax,.ax,.int .i64 2])) h'=true)
  (h0:∀ (j:Nat) (r:Rel),iM (gm nm (t.l.length:Int)) s.aE.l=(j:Int)->s.aE.l[j]?=some r->s.aE.l.find? (gm nm (t.l.length:Int))=some r->r.arity=(t.l.length:Int)->jo s.size t.l=true->∀ (s' sj:cD) h' HZ (f g:Sl EY),mW s j r t.l is s'->ez rs.l s'->jT rs.l s' sj ->
   dS rs N h' s' sj HZ->gH N h' HZ (dl++[⟨nm,t,decide (t.l ∈ r.aM.l.map Sl.l),is⟩])->acg N dn h h'->(∀ b,cz HZ=some b->h.next<=b) ->
   f.l.map Hs=vW (sj.aE.l.map bX) (all.aE.l.map bX)->g.l.map Hs=vW (all.aE.l.map bX) (sj.aE.l.map bX)->K (.ret (.tuple [ak ny 2 f,ak ny 2 g,.int .i64 0])) h'=true) :
  Sem TP 15 [.ptr N 0,.str nm,ak encI 1 t,.bool is] h K:=by
 have hv:=ho.valid;have mI:=(fC hv).2;have hbig:t.l.length<=cM:=by unfold cM;omega
 obtain ⟨n,hn,n1,_⟩:=iW hv;have QC:0<s.size:=by omega
 have hnc:∀ c o:Nat,bq (.ptr c o)=some (.ptr c o):=fun _ _=>rfl;refine F.vo ?_;rw [F.wJ];have g0:(h.alloc (.cells [.ptr N 0])).get h.next=some (.cells [.ptr N 0]):=aB _ _
 have e1:bA h (h.alloc (.cells [.ptr N 0])):=bA.alloc _ _;have n1':(h.alloc (.cells [.ptr N 0])).next=h.next+1:=Heap.aL _ _
 simp only [pE (show (AV.ptr N 0).one=true from rfl),aq];generalize (h.alloc (.cells [.ptr N 0]))=H1 at g0 e1 n1' ⊢;have x1:=x.ext e1;have lk:ag none (.ptr h.next 0) H1=some (.ptr N 0):=by rw [aj g0];rfl
 simp only [lk,aq];refine ah (uf x1 QC ?_);simp only [aR,reduceAdd,reduceEqDiff,reduceIte,Bool.not_true,lk,hnc,x1.base];rcases lD (gm nm (t.l.length:Int)) s.aE.l with ⟨w1,w2⟩|⟨j,r,w1,w2,w3⟩
 ·refine ah (yI mI hv w1 ?_);simp only [aR,reduceAdd,reduceEqDiff,reduceIte,cw,show decide ((4:Int)=0)=false from rfl,Bool.not_false];exact h4 w2 _ e1
 ·have MD:gm nm (t.l.length:Int) r=true:=find?_some w3
  have MC:r.arity=(t.l.length:Int):=by
   simp only [gm,and_eq_true,decide_eq_true_eq] at MD;exact MD.2
  refine ah (zR mI hv w1 w2 MC hbig ?_);simp only [aR,reduceAdd,reduceEqDiff,reduceIte,cw,decide_true,Bool.not_true];refine ah (qz hbig (g:=48) (a:=[]) (b:=[.ptr h.next 0]) (p:=Du s.size) (fun v K' hK'=>Lr x1 g0 v K' hK') ?_);have Ot:=Qe s.size t.l
  cases hin:jo s.size t.l with
  |false=>
   have ha:t.l.any (Du s.size)=true:=by rw [hin] at Ot;cases hh:t.l.any (Du s.size) with|true=>rfl|false=>rw [hh] at Ot;cases Ot
   rw [ha];simp only [aR,reduceAdd,reduceEqDiff,reduceIte];exact h2 r w3 hin _ e1
  |true=>
   have ha:t.l.any (Du s.size)=false:=by rw [hin] at Ot;cases hh:t.l.any (Du s.size) with|false=>rfl|true=>rw [hh] at Ot;cases Ot
   rw [ha];simp only [aR,reduceAdd,reduceEqDiff,reduceIte,lk,hnc,x1.done];refine ah (EZ Dz ?_);have od1:gH N H1 dn dl:=od.but (e1.but N);obtain ⟨d',H2,c1,o2,nx2,f2⟩:=od1.push (by have:=x1.lt;omega) hdl ⟨nm,t,decide (t.l ∈ r.aM.l.map Sl.l),is⟩
   have Yh:∀ b,cz dn=some b->b<h.next/\b≠N:=fun b hb=>by
    cases od with
    |nil=>cases hb
    |row c l cs q1 q2 _ _ _=>cases hb;exact ⟨q2,q1⟩
   have afq:∀ b,cz d'=some b->h.next<=b:=fun b hb=>by
    cases od1 with
    |nil=>
     have hm:cG=140737488355328:=rfl
     have:cz d'=some H1.next\/h.next<=b:=by
      right
      have hf:iq 4 1 (.slice H1.next 0 1 4) (H1.alloc (.cells (fm ⟨nm,t,decide (t.l ∈ r.aM.l.map Sl.l),is⟩)))=some (fm ⟨nm,t,decide (t.l ∈ r.aM.l.map Sl.l),is⟩):=by
       simp only [iq,aB];rfl
      simp only [b6,kX,hf,qG,Bool.and_true] at c1;rw [if_neg (by omega),if_pos (by rw [hm];decide)] at c1;cases c1;have:(H1.alloc (.cells (fm ⟨nm,t,decide (t.l ∈ r.aM.l.map Sl.l),is⟩))).next=b:=by cases hb;rfl
      rw [Heap.aL] at this;omega
     rcases this with h|h
     ·rw [h] at hb;cases hb;omega
     ·exact h
    |row c l cs q1 q2 q3 q4 q5=>
     have hm:cG=140737488355328:=rfl
     have hf:iq 4 1 (.slice H1.next 0 1 4) (H1.alloc (.cells (fm ⟨nm,t,decide (t.l ∈ r.aM.l.map Sl.l),is⟩)))=some (fm ⟨nm,t,decide (t.l ∈ r.aM.l.map Sl.l),is⟩):=by
      simp only [iq,aB];rfl
     have g2:(H1.alloc (.cells (fm ⟨nm,t,decide (t.l ∈ r.aM.l.map Sl.l),is⟩))).get c=some (.cells cs):=(by rw [Heap.aU,if_neg (by omega)];exact q3);simp only [b6,kX,hf,g2,qG,Bool.and_true] at c1;rw [if_pos True.intro,if_neg (by omega),if_pos (by rw [hm];simp only [and_eq_true,decide_eq_true_eq];omega)] at c1;cases c1;have:(H1.alloc (.cells (fm ⟨nm,t,decide (t.l ∈ r.aM.l.map Sl.l),is⟩))).next=b:=by cases hb;rfl
     rw [Heap.aL] at this;omega
   have x2:dS rs N H2 s all dn:=x1.agree (f2 N x1.lt (fun hb=>(Yh N hb).2 rfl)) nx2;have g2:H2.get h.next=some (.cells [.ptr N 0]):=by rw [f2 h.next (by omega) (fun hb=>by have:=(Yh _ hb).1;omega)];exact g0
   have lk2:ag none (.ptr h.next 0) H2=some (.ptr N 0):=by rw [aj g2];rfl
   obtain ⟨k1,k2⟩:=o2.kH;obtain ⟨st,x3⟩:=x2.MK k1 k2;have hNn:h.next≠N:=by have:=x.lt;omega
   have lk3:ag none (.ptr h.next 0) (H2.set N (.cells (jr rs s all d')))=some (.ptr N 0):=by rw [aj (cs:=[.ptr N 0]) (by rw [Heap.aN,if_neg hNn];exact g2)];rfl
   have o3:gH N (H2.set N (.cells (jr rs s all d'))) d' (dl++[⟨nm,t,decide (t.l ∈ r.aM.l.map Sl.l),is⟩]):=o2.but ((bA.refl H2).but N |>.set _);simp only [aR,reduceAdd,reduceEqDiff,reduceIte,lk,hnc,x1.done,AV.beq_refl,Bool.and_self,if_true,WU,WV,c1,lk2,st,lk3];refine ah (JH x3 kV jz ho hp w1 w2 MC hin fun s' sj h' f g p1 p2 p3 p4 p5 p6 p7=>?_);simp only [aR,reduceAdd,reduceEqDiff,reduceIte];refine h0 j r w1 w2 w3 MC hin s' sj h' d' f g p1 p2 p3 p4 (o3.but p5) ⟨?_,fun b hb hbN hbd=>?_⟩ afq p6 p7
   ·have:=p5.next;rw [Heap.bt] at this;omega
   ·rw [p5.get b (by rw [Heap.bt];omega) hbN,Heap.aN,if_neg hbN,f2 b (by omega) hbd,e1.get b hb]
theorem gH.last{l:List vz}{c:vz}(o:gH N h d (l++[c])):∃ b,d = .slice b 0 (l.length+1) 4/\dG 4 d (.int .i64 ((l.length:Nat):Int))=some (.ptr b (l.length*4))/\ag (some 4) (.ptr b (l.length*4)) h=some (.agg (fm c)) /\
  gZ (some 4) d none (some (.int .i64 ((l.length:Nat):Int)))=some (.slice b 0 l.length 4)/\gH N h (.slice b 0 l.length 4) l:=by
 generalize hm:l++[c]=m at o;have U9:m.length=l.length+1:=by rw [<- hm];simp
 cases o with
 |nil=>simp at U9
 |row b m cs h1 h2 h3 h4 h5=>
  have hlf:(l.flatMap fm).length=l.length*4:=fH Gd l;have e5:cs.take ((l.length+1)*4)=l.flatMap fm++fm c:=by rw [<- U9,h5,<- hm,flatMap_append];simp
  have hlen:(l.length+1)*4<=cs.length:=by rw [<- U9];exact h4
  refine ⟨b,by rw [U9],?_,?_,?_,?_⟩
  ·simp [dG,asNat,U9]
  ·rw [aj h3];simp only [iX];rw [if_pos (by omega)]
   have:(cs.drop (l.length*4)).take 4=fm c:=by
    have e6:(cs.take ((l.length+1)*4)).drop (l.length*4)=fm c:=(by rw [e5,<- hlf,drop_left]);rw [drop_take] at e6
    rwa [show (l.length+1)*4-l.length*4=4 by omega] at e6
   rw [this]
  ·simp [gZ,kX,nY,asNat,U9]
  ·refine .row b l cs h1 h2 h3 (by omega) ?_;have:(cs.take ((l.length+1)*4)).take (l.length*4)=l.flatMap fm:=by rw [e5,<- hlf,take_left]
   rwa [take_take,Nat.min_eq_left (by omega)] at this
set_option maxHeartbeats 1000000 in
theorem xe{rs:Sl aO}{all:cD}{dl:List vz}(x:dS rs N h s all dn)(od:gH N h dn dl)(hdl:dl.length<=1000000)(kV:∀ r ∈ rs.l,r.ok)(jz:∀ r ∈ rs.l,r.mc)(ho:ez rs.l s)(hp:jT rs.l s all)
  (h6:dl = []->K (.ret (.int .i64 6)) h=true)
  (h0:∀ (l:List vz) (c:vz),dl=l++[c]->∃ (j:Nat) (r:Rel),iM (gm c.name (c.tuple.l.length:Int)) s.aE.l=(j:Int)/\s.aE.l[j]?=some r/\r.arity=(c.tuple.l.length:Int)/\jo s.size c.tuple.l=true /\
   ∀ (s' sj:cD) h' HZ,mW s j r c.tuple.l c.JI s'->ez rs.l s'->jT rs.l s' sj->dS rs N h' s' sj HZ->gH N h' HZ l->zT N h h'->(∀ b,cz HZ=some b->cz dn=some b)->K (.ret (.int .i64 0)) h'=true) :
  Sem TP 22 [.ptr N 0] h K:=by
 have hv:=ho.valid;obtain ⟨n,hn,n1,_⟩:=iW hv;have QC:0<s.size:=by omega
 have hnc:∀ c o:Nat,bq (.ptr c o)=some (.ptr c o):=fun _ _=>rfl;refine F.tu ?_;rw [F.vp];refine ah (uf x QC ?_);simp only [aR,reduceAdd,reduceEqDiff,reduceIte,Bool.not_true,hnc,x.done,od.len];rcases eq_nil_or_concat dl with rfl|⟨l,c,rfl⟩
 ·simp only [length_nil,Int.ofNat_zero,Int.natCast_zero,beq_self_eq_true,aR,reduceAdd,reduceEqDiff,reduceIte];exact h6 rfl
 ·rw [concat_eq_append] at od hdl h0 ⊢;obtain ⟨b,rfl,i1,i2,i3,i4⟩:=od.last;have PW:(l++[c]).length=l.length+1:=by simp
  have hne:((((l++[c]).length:Nat):Int)==0)=false:=by rw [PW];simp;omega
  have hpr:aF .sub (.int .i64 (((l++[c]).length:Nat):Int)) (.int .i64 1)=some (.int .i64 ((l.length:Nat):Int)):=by
   rw [PW,IF (by omega) (by rw [PW] at hdl;unfold cM;omega)];rfl
  simp only [hne,aR,reduceAdd,reduceEqDiff,reduceIte,hpr,i1,i2];obtain ⟨H1,Da,p1,Vc,pn1⟩:=cu (h:=h) (zs:=[.str [],.ax,.bool false,.bool false]) (cs:=fm c) (n:=4) rfl rfl (qG c);have e1:bA h H1:=⟨by omega,fun b hb=>Vc b (by omega)⟩
  have x1:=x.ext e1;have od1:=od.but (e1.but N);have i4':=i4.but (e1.but N);obtain ⟨k1,k2⟩:=i4'.kH;obtain ⟨st,x2⟩:=x1.MK k1 k2;have hNn:h.next≠N:=by have:=x.lt;omega
  have g2:(H1.set N (.cells (jr rs s all (.slice b 0 l.length 4)))).get h.next=some (.cells (fm c)):=by rw [Heap.aN,if_neg hNn];exact p1
  have f0:ag none (.ptr h.next 0) (H1.set N (.cells (jr rs s all (.slice b 0 l.length 4))))=some (.str c.name):=by rw [aj g2];rfl
  have f1:ag none (.ptr h.next 1) (H1.set N (.cells (jr rs s all (.slice b 0 l.length 4))))=some (ak encI 1 c.tuple):=by rw [aj g2];rfl
  have f2:ag none (.ptr h.next 2) (H1.set N (.cells (jr rs s all (.slice b 0 l.length 4))))=some (.bool c.JI):=by rw [aj g2];rfl
  simp only [aR,reduceAdd,reduceEqDiff,reduceIte,Da,hnc,x1.done,od1.len,hpr,i3,st,f0,f1,f2];obtain ⟨j,r,w1,w2,w3,w4,fin⟩:=h0 l c rfl;refine ah (JH x2 kV jz ho hp w1 w2 w3 w4 fun s' sj h' f g q1 q2 q3 q4 q5 _ _=>?_);simp only [aR,reduceAdd,reduceEqDiff,reduceIte];have b2:zT N h (H1.set N (.cells (jr rs s all (.slice b 0 l.length 4)))):=(e1.but N).set _;have b3:=b2.trans q5;exact fin s' sj h' _ q1 q2 q3 q4 (i4.but b3) b3 (fun _ hb=>hb)
theorem JJ{α:Type}{enc:α->List AV}(h1:∀ a,bw (enc a)=true):∀ l:List α,bw (l.flatMap enc)=true
 |[]=>rfl
 |a :: l=>by
  rw [flatMap_cons];have ha:=h1 a;have hl:=JJ h1 l;generalize enc a=x at ha
  induction x with
  |nil=>exact hl
  |cons v x ih=>
   simp only [bw,and_eq_true,cons_append] at ha ⊢;exact ⟨ha.1,ih ha.2⟩
theorem Oj{enc:α->List AV}{bytes:Nat}(he:∀ a,(enc a).length=1)(h1:∀ a,bw (enc a)=true){src:AV}{l:List α}(r:Row enc 1 (h.alloc (.cells [])) src l)(hl:l.length*bytes<=cG) :
  ∃ b h',b6 1 bytes (.slice h.next 0 0 1) src (h.alloc (.cells []))=some (.slice b 0 l.length 1,h')/\h'.get b=some (.cells (l.flatMap enc))/\bA h h':=by
 have g:(h.alloc (.cells [])).get h.next=some (.cells []):=aB _ _
 have rc:=r.cells;by_cases hz:l.length=0
 ·have:l = []:=eq_nil_of_length_eq_zero hz;subst this;refine ⟨h.next,h.alloc (.cells []),?_,g,bA.alloc _ _⟩;simp only [length_nil] at rc;simp [b6,r.len,rc]
 ·refine ⟨h.next+1,((h.alloc (.cells [])).set h.next .dead).alloc (.cells (l.flatMap enc)),?_,?_,?_⟩
  ·simp only [b6,r.len,rc,if_true,if_neg hz,g];rw [if_pos (by simp [JJ h1];omega)];simp [Heap.bt,Heap.aL]
  ·have:=aB ((h.alloc (.cells [])).set h.next .dead) (.cells (l.flatMap enc))
   rwa [Heap.bt,Heap.aL] at this
  ·exact ((bA.alloc h (.cells [])).set (dM _) _).trans (bA.alloc _ _)
theorem T6{enc:α->List AV}{sz:Nat}(hp:∀ a,AV.cN (enc a)=true){l:List α}{b:Nat}(hb:h.get b=some (.cells (l.flatMap enc))):Fz true h (.slice b 0 l.length sz) (ak enc sz (some l)):=by
 have sI:AV.cN (l.flatMap enc)=true:=by
  have:=cc (sz:=sz) hp (some l);simpa [ak,AV.pure] using this
 have:lF true h (l.flatMap enc) (l.flatMap enc):=.dP sI;exact .slice b 0 l.length sz _ _ hb this.len this.rel
theorem vX{t:Sl b7}(ht:t.l.length<=1000000)(hK:K (.ret (ak encS 1 t)) h=true):Sem TP 117 [ak encS 1 t] h K:=by
 have hm:cG=140737488355328:=rfl
 have main:Sem TP 117 [ak encS 1 t] Heap.empty (fun o h'=>yes (∃ v,o = .ret v/\Fz true h' v (ak encS 1 t))):=by
  refine F.lR ?_;rw [F.l9];simp only [Hi,aR,reduceAdd,reduceEqDiff,reduceIte]
  cases t with
  |none=>simp only [aK];exact ct.2 ⟨_,rfl,.dP rfl⟩
  |some l=>
   obtain ⟨b,h',a1,a2,_⟩:=Oj (bytes:=16) (fun _=>rfl) (fun _=>rfl) (uK (enc:=encS) (fun _=>rfl) (some l) (Heap.empty.alloc (.cells []))) (by have h2:l.length<=1000000:=ht;show l.length*16<=cG;omega);simp only [aJ,uQ,aq,a1,iZ];exact ct.2 ⟨_,rfl,T6 j5 a2⟩
 refine main.frozen (by simp [AV.cN,cc j5]) fun o h' ho=>?_;obtain ⟨v,rfl,hf⟩:=ct.1 ho;exact ⟨v,_,rfl,hf,hK⟩
def nb(b:Sl eO):Sl eO:=if b.l = [] then none else some b.l
theorem afs(b:Sl eO):(nb b).l=b.l:=by
 unfold nb;split
 ·rename_i h;rw [h];rfl
 ·rfl
def gq(r:aO):aO:=⟨r.name,r.args,nb r.body⟩
abbrev RuV:=b7×Sl b7×NL
def l7(r:RuV):List AV:=[.str r.1,ak encS 1 r.2.1,r.2.2.1]
theorem DP(r:RuV):(l7 r).length=3:=rfl
theorem DQ(r:RuV):bw (l7 r)=true:=by
 have:=r.2.2.2.1;unfold l7;simp only [bw,fZ,Bool.and_true,Bool.true_and] at this ⊢;rw [this];rfl
theorem T7(r:RuV):fS [.str [],.ax,.ax] [(0,3)] [.agg (l7 r)]=some (l7 r):=by
 have ho:=DQ r
 have hf:og [.str [],.ax,.ax] [(0,3)] [.agg (l7 r)]=some (l7 r):=by
  have hc:AV.dy (.agg (l7 r))=l7 r:=rfl;have hp:ei [.str [],.ax,.ax] 0 (l7 r)=l7 r:=rfl;simp only [og,hc,hp,ho,DP];rfl
 unfold fS;rw [hf];simp only [ho,if_true]
theorem WW(c:eO):fS [.int .i64 0,.bool false,.str [],.ax] [(0,4)] [.agg (bM c)]=some (bM c):=by
 obtain ⟨k,n,nm,xs⟩:=c;cases xs<;>rfl
theorem WX(nm:b7)(xs:Sl b7):iy [.str [],.ax] [(0,1),(1,1)] [.str nm,ak encS 1 xs]=some (.agg (iD nm xs)):=by cases xs<;>rfl
theorem WY(nm:b7)(xs:Sl b7):iy [.str [],.ax,.ax] [(0,2)] [.agg (iD nm xs)]=some (.agg [.str nm,ak encS 1 xs,.ax]):=by cases xs<;>rfl
theorem ach{xs:Sl b7}{v:NL}{x:Sl eO}(hf:Fz true h v.1 (ak bM 4 x)):lF true h (l7 (nm,xs,v)) (aP ⟨nm,xs,x⟩):=
 .cons (.scalar _ rfl) (.cons (.dP (cc j5 xs)) (.cons hf .nil))
set_option maxHeartbeats 2000000 in
theorem cS{rules:Sl aO}(sq:rules.l.length<=60)(hsz:∀ r ∈ rules.l,r.args.l.length<=1000000/\r.body.l.length<=1000000/\∀ c ∈ r.body.l,c.args.l.length<=1000000){h:Heap}{K:Out->Heap->Bool}
  (hK:∀ x:Sl aO,x.l=rules.l.map gq->K (.ret (ak aP 3 x)) h=true):Sem TP 73 [ak aP 3 rules] h K:=by
 have hm:cG=140737488355328:=rfl;have hbig:rules.l.length<=cM:=by unfold cM;omega
 have main:Sem TP 73 [ak aP 3 rules] Heap.empty (fun o h'=>yes (∃ v,∃ x:Sl aO,o = .ret v/\x.l=rules.l.map gq/\Fz true h' v (ak aP 3 x))):=by
  refine F.Bd ?_;rw [F.C0];simp only [aR,reduceAdd,reduceEqDiff,reduceIte]
  refine aD 0 rules.l.length (zero_le _) (fun i e h'=>∃ a l,jy (fun _=>False) l7 aP 3 0 h' a l/\(l.map (·.2))=(rules.l.take i).map gq/\e 3=a/\e 9=ak aP 3 rules/\e 10 = .int .i64 (rules.l.length:Int)/\e 11 = .int .i64 (i:Int))
   ⟨_,[],.nil,rfl,rfl,rfl,rfl,rfl⟩ ?_ ?_
  ·rintro i e h' _ hi ⟨a,l,o,hl,e3,e9,kF,qI⟩ K' hn fW hr hp;have hv:rules.l[i]?=some rules.l[i]:=eA hi;generalize rules.l[i]=r at hv;have nR:=ig hv;obtain ⟨z1,z2,z3⟩:=hsz r nR;have Au:r.body.l.length<=cM:=by unfold cM;omega
   have PW:l.length=i:=by have:=congrArg List.length hl;rw [length_map,length_map,length_take,Nat.min_eq_left (by omega)] at this;exact this
   obtain ⟨H3,LV,p3,Qo,TH⟩:=cu (h:=h') (zs:=[.str [],.ax,.ax]) (cs:=aP r) (n:=3) rfl rfl (j9 r);have l0:ag none (.ptr h'.next 0) H3=some (.str r.name):=by rw [aj p3];rfl
   have l1:ag none (.ptr h'.next 1) H3=some (ak encS 1 r.args):=by rw [aj p3];rfl
   have WJ:ag none (.ptr h'.next 0) (H3.alloc (.cells [.str [],.ax,.ax]))=some (.str r.name):=by rw [aj (cs:=aP r) (by rw [Heap.aU,if_neg (by omega)];exact p3)];rfl
   obtain ⟨H4,Oy,p4,KX,Wt⟩:=cu (h:=H3) (zs:=[.str [],.ax,.ax]) (cs:=[.str r.name,ak encS 1 r.args,.ax]) (n:=3) rfl rfl (by simp only [bw,fZ,Bool.and_true];rfl);have x4:bA h' H4:=⟨by omega,fun b hb=>by rw [KX b (by omega),Qo b (by omega)]⟩
   have l2:ag none (.ptr h'.next 2) H4=some (ak bM 4 r.body):=by rw [aj (show H4.get h'.next=some (.cells (aP r)) by rw [KX _ (by omega)];exact p3)];rfl
   rw [F.cS.aT];simp only [e9,kF,qI,aR,reduceAdd,reduceEqDiff,reduceIte,bh hi,aV rules hi,dF gv hv,LV];simp only [aR,reduceAdd,reduceEqDiff,reduceIte,l0,l1];refine ah (vX z1 ?_);simp only [aR,reduceAdd,reduceEqDiff,reduceIte,WJ,AV.beq_refl,Bool.and_self,if_true,WX,WY,Oy,l2];rw [TH] at p4 Oy KX Wt ⊢
   refine aD 0 r.body.l.length (zero_le _) (fun j e h2=>∃ bv bs,h2.get (h'.next+1)=some (.cells [.str r.name,ak encS 1 r.args,bv])/\Own bM 4 (h'.next+2) h2 bv bs/\(bs = []->bv = .ax)/\bs=r.body.l.take j/\bA h' h2/\h'.next+2<=h2.next /\
    e 3=a/\e 9=ak aP 3 rules/\e 10 = .int .i64 (rules.l.length:Int)/\e 11 = .int .i64 (i:Int)/\e 6 = .ptr (h'.next+1) 0/\e 25=ak bM 4 r.body/\e 26 = .int .i64 (r.body.l.length:Int)/\e 27 = .int .i64 (j:Int))
    ⟨_,[],p4,.nil,fun _=>rfl,rfl,x4,by omega,e3,e9,kF,qI,rfl,rfl,rfl,rfl⟩ ?_ ?_
   ·rintro j e h2 _ hj ⟨bv,bs,q6,ob,MP,hbs,x2,Qp,e3,e9,kF,qI,e6,KY,BF,BG⟩ K2 uO gi rN FD;have hvc:r.body.l[j]?=some r.body.l[j]:=eA hj;generalize r.body.l[j]=c at hvc;have Wo:bs.length=j:=by rw [hbs,length_take,Nat.min_eq_left (by omega)]
    obtain ⟨H5,hs5,p5,po5,pn5⟩:=cu (h:=h2) (zs:=[.int .i64 0,.bool false,.str [],.ax]) (cs:=bM c) (n:=4) rfl rfl (iw c);have l5:ag none (.ptr h2.next 3) H5=some (ak encS 1 c.args):=by rw [aj p5];rfl
    have TR:(ak encS 1 c.args).dy = [ak encS 1 c.args]:=(by cases c.args<;>rfl);have UU:bw [ak encS 1 c.args]=true:=by simp only [bw,fZ,Bool.and_true]
    have st5:aY 1 (.ptr h2.next 3) (ak encS 1 c.args) H5=some (H5.set h2.next (.cells (bM c))):=by
     rw [cF (n:=1) p5 (by rw [TR];rfl) (by rw [TR];exact UU) (by simp [bM]),TR];rfl
    have n6:(H5.set h2.next (.cells (bM c))).next=h2.next+1:=by rw [Heap.bt];exact pn5
    have g6:(H5.set h2.next (.cells (bM c))).get h2.next=some (.cells (bM c)):=by rw [Heap.aN,if_pos rfl]
    have f6:∀ b,b<h2.next->(H5.set h2.next (.cells (bM c))).get b=h2.get b:=fun b hb=>by rw [Heap.aN,if_neg (by omega),po5 b (by omega)]
    have x6:bA h2 (H5.set h2.next (.cells (bM c))):=⟨by omega,f6⟩
    rw [F.cS.dh];simp only [KY,BF,BG,aR,reduceAdd,reduceEqDiff,reduceIte,bh hj,aV r.body hj,dF iu hvc,hs5,l5];refine ah (vX (z3 c (ig hvc)) ?_);simp only [aR,reduceAdd,reduceEqDiff,reduceIte,st5,e6];generalize (H5.set h2.next (.cells (bM c)))=H6 at n6 g6 f6 x6 ⊢;have q6':H6.get (h'.next+1)=some (.cells [.str r.name,ak encS 1 r.args,bv]):=by rw [f6 _ (by omega)];exact q6
    have lb:ag none (.ptr (h'.next+1) 2) H6=some bv:=(by rw [aj q6'];rfl);have lc:ag (some 4) (.ptr h2.next 0) H6=some (.agg (bM c)):=by rw [aj g6,cE (cs:=bM c) (n:=4) rfl]
    obtain ⟨a5,h5,c5,o5,f5,n5,w5,b5⟩:=(ob.ext x6).push iu iw (by omega) (bytes:=56) (by rw [hm];omega) c;have hne:cz bv≠some (h'.next+1):=fun hb=>by have:=ob.ge hb;omega
    have s6:h5.get (h'.next+1)=some (.cells [.str r.name,ak encS 1 r.args,bv]):=(by rw [f5 _ (by omega) hne];exact q6');have c6:=o5.kH
    have st:aY 1 (.ptr (h'.next+1) 2) a5 h5=some (h5.set (h'.next+1) (.cells [.str r.name,ak encS 1 r.args,a5])):=by
     rw [cF (n:=1) s6 c6.2.1 c6.1 (by simp),c6.2.2];rfl
    simp only [aR,reduceAdd,reduceEqDiff,reduceIte,lb,lc,WW,c5,e6,BG,st,aI hj Au];refine uO _ _ ⟨a5,bs++[c],by rw [Heap.aN,if_pos rfl],o5.kE (by omega) _,fun h=>absurd (congrArg List.length h) (by simp),by rw [hbs,take_add_one,hvc];rfl,(w5 h' (x2.trans x6) (by omega)).set (by omega) _,by rw [Heap.bt];omega,e3,e9,kF,qI,e6,KY,BF,rfl⟩
   ·rintro e h2 ⟨bv,bs,q6,ob,MP,hbs,x2,Qp,e3,e9,kF,qI,e6,KY,BF,BG⟩ K2 gi;rw [kf (dM _)] at hbs;subst hbs;have o2:=o.ext x2;obtain ⟨BH,JT⟩:=mP ob;have lq:ag (some 3) (.ptr (h'.next+1) 0) h2=some (.agg (l7 (r.name,r.args,⟨bv,BH,JT⟩))):=by rw [aj q6];rfl
    obtain ⟨x,jG,KR⟩:=(jy.zJ ob wM).data;have I2:x.l=r.body.l:=by rw [jG,List.map_map];simp [Function.comp_def]
    obtain ⟨y,hy⟩:∃ y:Sl eO,y=nb r.body:=⟨_,rfl⟩
    have hfy:∀ g:Heap,(∀ b,h'.next+2<=b->b<h2.next->g.get b=h2.get b)->Fz true g bv (ak bM 4 y):=fun g hg=>by
     by_cases hz:r.body.l = []
     ·rw [MP hz,hy];have:nb r.body=none:=by unfold nb;rw [if_pos hz]
      rw [this];exact .dP rfl
     ·have hyx:y=x:=by
       rw [hy];unfold nb;rw [if_neg hz]
       cases x with
       |none=>exact absurd I2.symm hz
       |some m=>rw [<- I2];rfl
      rw [hyx];exact KR g fun b b1 b2 _=>hg b b1 b2
    obtain ⟨a5,h5,c5,o5,f5,n5,w5,b5⟩:=o2.push DP DQ (zero_le _) (bytes:=64) (by rw [hm];omega) (r.name,r.args,⟨bv,BH,JT⟩) ⟨r.name,r.args,y⟩ (fun _ h=>h.elim)
     (fun g hg=>ach (hfy g fun b b1 b2=>hg b (zero_le _) b2 (fun h=>h) (fun hb=>by have:=o.own.lt hb;omega)))
    rw [F.cS.dh];simp only [BF,BG,aR,reduceAdd,reduceEqDiff,reduceIte,aW];rw [gi,F.cS.cx];simp only [aR,reduceAdd,reduceEqDiff,reduceIte,e3,e6,qI,lq,T7,c5,aI hi hbig];refine hn _ _ ⟨a5,_,o5,?_,rfl,e9,kF,rfl⟩;rw [map_append,hl,take_add_one,hv,map_append,hy];rfl
  ·rintro e h' ⟨a,l,o,hl,e3,e9,kF,qI⟩ K' fW;rw [F.cS.aT];simp only [kF,qI,aR,reduceAdd,reduceEqDiff,reduceIte,aW];rw [fW,F.cS.aG];simp only [bK,reduceEqDiff,reduceIte,e3];rw [kf (dM _)] at hl;obtain ⟨x,x1,x2⟩:=o.fz;exact ct.2 ⟨a,x,rfl,by rw [x1,hl],x2⟩
 refine main.frozen (by simp [AV.cN,cc fN]) fun o h' ho=>?_;obtain ⟨v,x,rfl,h1,h2⟩:=ct.1 ho;exact ⟨_,_,rfl,h2,hK x h1⟩
theorem uV(r:aO):(gq r).name=r.name:=rfl
theorem nW(r:aO):(gq r).args=r.args:=rfl
theorem mK(r:aO):(gq r).body.l=r.body.l:=afs r.body
theorem zU(r:aO):varsOf (gq r)=varsOf r:=by unfold varsOf;rw [nW,mK]
theorem T8{r:aO}(h:r.ok):(gq r).ok:=by
 unfold aO.ok at h ⊢;rw [uV,nW,mK];exact h
theorem QG{r:aO}(h:r.mc):(gq r).mc:=by
 unfold aO.mc at h ⊢;rw [nW,mK];exact h
theorem Hu:∀ (rs:List aO) (m:eE),dV (rs.map gq) m=dV rs m
 |[],m=>rfl
 |r :: rs,m=>by
  rw [map_cons];unfold dV;rw [uV,nW,mK,zU];have ih:=Hu rs;simp only [ih]
theorem DR(rs:List aO):bF (rs.map gq)=bF rs:=by unfold bF;rw [List.map_map];rfl
theorem DS{β:Type}{f g:α->List β}(h:∀ a,f a=g a)(l:List α):l.flatMap f=l.flatMap g:=by rw [funext h]
theorem Ls(hs:List b7)(rs:List aO):jj hs (rs.map gq)=jj hs rs:=by
 unfold jj;rw [flatMap_map];refine DS (fun r=>?_) _;rw [mK];rfl
theorem mX(rs:List aO):bL (rs.map gq)=bL rs:=by unfold bL;rw [DR,Ls]
theorem Lt(rs:List aO):cB (rs.map gq)=cB rs:=by
 unfold cB;rw [flatMap_map];refine DS (fun r=>?_) _;unfold tT;rw [uV,nW,mK]
theorem Gf(rs:List aO):eF (rs.map gq)=eF rs:=by unfold eF;rw [foldl_map];rfl
theorem QH(rs:List aO)(nm:b7):pU (rs.map gq) nm=pU rs nm:=by
 unfold pU;rw [find?_map];have:((fun r:aO=>r.name==nm)∘gq)=fun r=>r.name==nm:=rfl;rw [this];cases rs.find? (fun r=>r.name==nm)<;>rfl
theorem Gg:kN (rs.map gq)↔kN rs:=by
 constructor
 ·rintro ⟨a,b,c⟩;rw [Hu] at b;rw [mX] at c;exact ⟨by simpa using a,b,c⟩
 ·rintro ⟨a,b,c⟩;exact ⟨by simpa using a,by rw [Hu];exact b,by rw [mX];exact c⟩
theorem JK:JU (rs.map gq) s↔JU rs s:=by unfold JU;rw [Lt,DR]
theorem JL:MA (rs.map gq) s↔MA rs s:=by
 unfold MA;rw [Gf]
 have e:∀ p:aO->Prop,(∀ r,p (gq r)↔p r)->((∃ r ∈ rs.map gq,p r)↔∃ r ∈ rs,p r):=fun p hp=>by
  constructor
  ·rintro ⟨r,hr,h⟩;obtain ⟨q,hq,rfl⟩:=mem_map.1 hr;exact ⟨q,hq,(hp q).1 h⟩
  ·rintro ⟨r,hr,h⟩;exact ⟨gq r,List.mem_map_of_mem hr,(hp r).2 h⟩
 rw [e (fun r=>4096<s.size.toNat ^ r.args.l.length) (fun r=>Iff.rfl),e (fun r=>65536<s.size.toNat ^ (varsOf r).length) (fun r=>by rw [zU])]
theorem Ol:ez (rs.map gq) s↔ez rs s:=
 ⟨fun h=>⟨Gg.1 h.gC,h.valid,fun x=>h.names (JK.2 x),fun x=>h.AE (JL.2 x)⟩,
  fun h=>⟨Gg.2 h.gC,h.valid,fun x=>h.names (JK.1 x),fun x=>h.AE (JL.1 x)⟩⟩
theorem Lu(lv:ew.Lv)(rs:List aO)(l:Nat):gw lv (rs.map gq) l=(gw lv rs l).map gq:=by
 unfold gw;rw [List.filter_map];rfl
theorem pI:lZ n (rs.map gq) L↔lZ n rs L:=by
 unfold lZ Hw Jm FW eN;simp only [mem_map,forall_exists_index,and_imp,forall_apply_eq_imp_iff₂,zU,mK,uV,nW]
theorem uW{C:Lk}:Over (rs.map gq) L C↔Over rs L C:=by
 constructor
 ·rintro ⟨a,b⟩;exact ⟨a,fun nm hn=>b nm fun r hr=>by obtain ⟨q,hq,rfl⟩:=mem_map.1 hr;exact hn q hq⟩
 ·rintro ⟨a,b⟩;exact ⟨a,fun nm hn=>b nm fun r hr=>hn (gq r) (List.mem_map_of_mem hr)⟩
theorem Lw{C:Lk}:nK n (rs.map gq) L C↔nK n rs L C:=
 ⟨fun h=>⟨uW.1 h.over,pI.1 h.closed,fun C o c=>h.least C (uW.2 o) (pI.2 c)⟩,
  fun h=>⟨uW.2 h.over,pI.2 h.closed,fun C o c=>h.least C (uW.1 o) (pI.1 c)⟩⟩
theorem DT{n:Nat}{rs:List aO}{lv:ew.Lv}{L0:Lk}:∀ {l:Nat} {A:Lk},mo n rs lv L0 l A->mo n (rs.map gq) lv L0 l A
 |0,A,h=>by cases h;exact .zero
 |l+1,A,h=>by
  cases h with
  |succ l L L' h1 h2=>exact .succ l L A (DT h1) (by rw [Lu];exact Lw.2 h2)
theorem Lx{F:Lk}(h:mJ rs n s F):mJ (rs.map gq) n s F:=by
 obtain ⟨k,t,h1,h2,h3⟩:=h;refine ⟨k,t,by rw [mX];exact h1,fun r hr=>?_,by rw [mX];exact DT h3⟩;obtain ⟨q,hq,rfl⟩:=mem_map.1 hr;rw [mX];exact h2 q hq
theorem QI(h:jT rs s out):jT (rs.map gq) s out:=by
 obtain ⟨hz,F,f1,f2⟩:=h;refine ⟨hz,F,Lx f1,?_⟩;rw [f2,Gf];unfold wZ;simp only [QH]
theorem jT.DU{t:cD}(h:jT rs s out)(hz:t.size=s.size)(hd:t.aE.l.map bX=s.aE.l.map bX):jT rs t out:=by
 obtain ⟨z,F,f1,f2⟩:=h;refine ⟨by rw [z,hz],F,?_,by rw [hz,hd];exact f2⟩;rw [hz];unfold mJ at f1 ⊢
 rwa [DN hd]
theorem ez.DU{t:cD}(h:ez rs s)(hz:t.size=s.size)(hd:t.aE.l.map bX=s.aE.l.map bX):ez rs t:=by
 refine DO h ?_ hz (by rw [hd]);rw [fX,hz,hd];exact fX.1 h.valid
theorem QJ(x:Sl aO)(s all:cD):iy [.ax,.int .i64 0,.ax,.int .i64 0,.ax,.ax] [(0,1),(1,2),(3,2),(5,1)] [ak aP 3 x,.agg (an s),.agg (an all),.ax]=some (.agg (jr x s all .ax)):=by
 obtain ⟨z,r⟩:=s;obtain ⟨z2,r2⟩:=all;cases x<;>cases r<;>cases r2<;>rfl
theorem QK(x:Sl aO)(s all:cD):bw (jr x s all .ax)=true:=by unfold jr;simp only [bw,fZ,Bool.and_true];rfl
set_option maxHeartbeats 1000000 in
theorem QL{rules:Sl aO}(kV:∀ r ∈ rules.l,r.ok)(jz:∀ r ∈ rules.l,r.mc)(mI:s.ok)
  (Li:∀ e,DI rules.l s e->∀ h',bA h h'->K (.ret (.tuple [.ey,.int .i64 e])) h'=true)
  (zD:ez rules.l s->∀ (x:Sl aO) (s' all:cD) N h',x.l=rules.l.map gq->s'.size=s.size->s'.aE.l.map bX=s.aE.l.map bX->ez x.l s'->jT x.l s' all->dS x N h' s' all .ax->bA h h'->h.next<=N->K (.ret (.tuple [.ptr N 0,.int .i64 0])) h'=true) :
  Sem TP 26 [ak aP 3 rules,.agg (an s)] h K:=by
 refine F.GX ?_;rw [F.IB];simp only [cY (cp s),aq];have g0:(h.alloc (.cells (an s))).get h.next=some (.cells (an s)):=aB _ _
 have e0:bA h (h.alloc (.cells (an s))):=bA.alloc _ _;have n0:(h.alloc (.cells (an s))).next=h.next+1:=Heap.aL _ _
 generalize (h.alloc (.cells (an s)))=H at g0 e0 n0 ⊢;have l0:ag (some 2) (.ptr h.next 0) H=some (.agg (an s)):=by rw [aj g0,cE (cs:=an s) (n:=2) rfl]
 simp only [l0,aq];refine ah (dB kV jz mI (fun hv=>(fC hv).1) (fun e he=>?_) fun ho out hz hx=>?_)
 ·obtain ⟨H1,Da,p1,Vc,pn1⟩:=cu (h:=H) (zs:=[.int .i64 0,.ax]) (cs:=an ⟨0,none⟩) (n:=2) rfl rfl rfl;simp only [aR,reduceAdd,reduceEqDiff,reduceIte,Da,cw,eR (yG he).1,Bool.not_false];exact Li e he _ (e0.trans ⟨by omega,fun b hb=>Vc b (by omega)⟩)
 ·have hrun:jT rules.l s out:=⟨hz,hx⟩
  obtain ⟨H1,Da,p1,Vc,pn1⟩:=cu (h:=H) (zs:=[.int .i64 0,.ax]) (cs:=an out) (n:=2) rfl rfl (cp out);have e1:bA H H1:=⟨by omega,fun b hb=>Vc b (by omega)⟩
  have l1:ag (some 2) (.ptr h.next 0) H1=some (.agg (an s)):=by rw [aj (cs:=an s) (by rw [Vc _ (by omega)];exact g0),cE (cs:=an s) (n:=2) rfl]
  have l2:ag (some 2) (.ptr H.next 0) H1=some (.agg (an out)):=by rw [aj p1,cE (cs:=an out) (n:=2) rfl]
  simp only [aR,reduceAdd,reduceEqDiff,reduceIte,Da,cw,decide_true,Bool.not_true,l1,l2];refine ah (cS ho.gC.mc (fun r hr=>?_) fun x gi=>?_)
  ·obtain ⟨f1,f2,f3⟩:=jz r hr;exact ⟨by omega,by omega,fun c hc=>by have:=f3 c hc;omega⟩
  simp only [aR,reduceAdd,reduceEqDiff,reduceIte,l1,l2,AV.beq_refl,Bool.and_self,if_true];refine ah (AH (fC ho.valid).1 fun s' z1 z2=>?_);have hxo:ez x.l s':=by rw [gi];exact (Ol.2 ho).DU z1 z2
  have hxr:jT x.l s' out:=by rw [gi];exact (QI hrun).DU z1 z2
  simp only [aR,reduceAdd,reduceEqDiff,reduceIte,l2,AV.beq_refl,Bool.and_self,if_true,QJ,cY (QK x s' out)];exact zD ho x s' out H1.next _ gi z1 z2 hxo hxr ⟨by rw [Heap.aL];omega,aB _ _⟩ ((e0.trans e1).trans (bA.alloc _ _)) (by omega)
theorem LA{rules:Sl aO}(kV:∀ r ∈ rules.l,r.ok)(jz:∀ r ∈ rules.l,r.mc)(mI:s.ok)
  (Li:¬ ez rules.l s->∀ h',bA h h'->K (.ret .ey) h'=true)
  (zD:ez rules.l s->∀ (x:Sl aO) (s' all:cD) N h',x.l=rules.l.map gq->s'.size=s.size->s'.aE.l.map bX=s.aE.l.map bX->ez x.l s'->jT x.l s' all->dS x N h' s' all .ax->bA h h'->h.next<=N->K (.ret (.ptr N 0)) h'=true) :
  Sem TP 13 [ak aP 3 rules,.agg (an s)] h K:=by
 refine F.CZ ?_;rw [F.EI];simp only [cY (cp s),aq];have g0:(h.alloc (.cells (an s))).get h.next=some (.cells (an s)):=aB _ _
 have e0:bA h (h.alloc (.cells (an s))):=bA.alloc _ _;have n0:(h.alloc (.cells (an s))).next=h.next+1:=Heap.aL _ _
 generalize (h.alloc (.cells (an s)))=H at g0 e0 n0 ⊢;have l0:ag (some 2) (.ptr h.next 0) H=some (.agg (an s)):=by rw [aj g0,cE (cs:=an s) (n:=2) rfl]
 simp only [l0,aq];refine ah (bH kV jz mI (fun e he=>?_) fun ho=>?_)
 ·simp only [aR,reduceAdd,reduceEqDiff,reduceIte,cw,eR (yG he).1,Bool.not_false];exact Li (yG he).2 _ e0
 ·simp only [aR,reduceAdd,reduceEqDiff,reduceIte,cw,decide_true,Bool.not_true,l0];refine ah (QL kV jz mI (fun e he=>absurd ho (yG he).2) fun _ x s' all N h' a1 a2 a3 a4 a5 a6 a7 a8=>?_);simp only [aR,reduceAdd,reduceEqDiff,reduceIte];exact zD ho x s' all N h' a1 a2 a3 a4 a5 a6 (e0.trans a7) (by omega)
theorem Om{a b:List Int}{l m:List (List Int)}(h1:iF (a :: l))(h2:iF (b :: m))(h:∀ u,u ∈ a :: l↔u ∈ b :: m):a=b:=by
 have p1:=pairwise_cons.1 h1;have p2:=pairwise_cons.1 h2;rcases mem_cons.1 ((h a).1 mem_cons_self) with e|e
 ·exact e
 ·rcases mem_cons.1 ((h b).2 mem_cons_self) with f|f
  ·exact f.symm
  ·have:=jS (p2.1 a e) (p1.1 b f);rw [g9] at this;cases this
theorem AI:∀ {l m:List (List Int)},iF l->iF m->(∀ u,u ∈ l↔u ∈ m)->l=m
 |[],[],_,_,_=>rfl
 |a :: l,[],_,_,h=>absurd ((h a).1 mem_cons_self) (by simp)
 |[],b :: m,_,_,h=>absurd ((h b).2 mem_cons_self) (by simp)
 |a :: l,b :: m,h1,h2,h=>by
  obtain rfl:=Om h1 h2 h;have p1:=pairwise_cons.1 h1;have p2:=pairwise_cons.1 h2
  have:l=m:=AI p1.2 p2.2 fun u=>by
   constructor
   ·intro hu;rcases mem_cons.1 ((h u).1 (mem_cons_of_mem _ hu)) with e|e
    ·subst e;have:=p1.1 u hu;rw [g9] at this;cases this
    ·exact e
   ·intro hu;rcases mem_cons.1 ((h u).2 (mem_cons_of_mem _ hu)) with e|e
    ·subst e;have:=p2.1 u hu;rw [g9] at this;cases this
    ·exact e
  rw [this]
structure LB (L:List (List Int)) (t:List Int) (is:Bool) (L':List (List Int)):Prop where
 sort:iF L'
 mem:∀ u,u ∈ L'↔(u ∈ L/\u≠t)\/(is=true/\u=t)
theorem LB.QM{L A B:List (List Int)}{JI:Bool}(hs:iF L)(hw:JI=true↔t ∈ L)(a:LB L t is A)(b:LB A t JI B):B=L:=
 AI b.sort hs fun u=>by
  rw [b.mem,a.mem,hw];constructor
  ·rintro (⟨(⟨h,_⟩|⟨_,h⟩),hn⟩|⟨h,rfl⟩)
   ·exact h
   ·exact absurd h hn
   ·exact h
  ·intro h;by_cases e:u=t
   ·exact .inr ⟨by rw [<- e];exact h,e⟩
   ·exact .inl ⟨.inl ⟨h,e⟩,e⟩
theorem mW.list(hp:mW s j r t is s'):∃ L,LB (r.aM.l.map Sl.l) t is L/\s'.aE.l.map bX=(s.aE.l.map bX).set j (r.name,r.arity,L):=by
 obtain ⟨ts,h1,h2,h3⟩:=hp.aE;exact ⟨ts,⟨h1,h2⟩,h3⟩
theorem mW.at{s s':cD}{j:Nat}{r r':Rel}{t:List Int}{is:Bool}(hp:mW s j r t is s')(hr:s.aE.l[j]?=some r)(vF:s'.aE.l[j]?=some r'):r'.name=r.name/\r'.arity=r.arity/\LB (r.aM.l.map Sl.l) t is (r'.aM.l.map Sl.l):=by
 obtain ⟨L,h1,h2⟩:=hp.list;have hl:j<s.aE.l.length:=(kg.1 hr).1;have e:(s'.aE.l.map bX)[j]?=some (r.name,r.arity,L):=by rw [h2,getElem?_set_self (by simpa using hl)]
 rw [getElem?_map,vF,map_some,Option.some.injEq] at e;have e1:r'.name=r.name:=congrArg (·.1) e;have e2:r'.arity=r.arity:=congrArg (·.2.1) e;have e3:r'.aM.l.map Sl.l=L:=congrArg (·.2.2) e;exact ⟨e1,e2,by rw [e3];exact h1⟩
theorem mW.QM{s a b:cD}{j:Nat}{r r':Rel}{t:List Int}{is JI:Bool}(hv:cV s=true)(hr:s.aE.l[j]?=some r)(vF:a.aE.l[j]?=some r')(hw:JI=decide (t ∈ r.aM.l.map Sl.l))(ha:mW s j r t is a)(hb:mW a j r' t JI b) :
  b.size=s.size/\b.aE.l.map bX=s.aE.l.map bX:=by
 obtain ⟨e1,e2,a1⟩:=ha.at hr vF;obtain ⟨A,_,a2⟩:=ha.list;obtain ⟨B,b1,b2⟩:=hb.list
 have Vx:iF (r.aM.l.map Sl.l):=by
  obtain ⟨_,k,_,_,_,kt⟩:=(fX.1 hv).rel _ (List.mem_map_of_mem (ig hr));exact kt.2
 obtain rfl:=LB.QM Vx (by rw [hw,decide_eq_true_eq]) a1 b1;refine ⟨by rw [hb.size,ha.size],?_⟩;rw [b2,a2,set_set,e1,e2];refine ext_getElem? fun i=>?_;by_cases hi:i=j
 ·subst hi;have hl:i<s.aE.l.length:=(kg.1 hr).1;rw [getElem?_set_self (by simpa using hl),getElem?_map,hr];rfl
 ·rw [getElem?_set_ne (Ne.symm hi)]
theorem T9(hv:cV s=true)(hq:s.aE.l[i]?=some q)(hr:s.aE.l[j]?=some r)(hn:q.name=r.name):i=j:=by
 have P0:=pairwise_iff_getElem.1 (rH hv);obtain ⟨y1,y2⟩:=kg.1 hq;obtain ⟨y3,y4⟩:=kg.1 hr;rcases Nat.lt_trichotomy i j with h|h|h
 ·exact absurd (by rw [getElem_map,getElem_map,y2,y4];exact hn) (P0 i j (by simpa using y1) (by simpa using y3) h)
 ·exact h
 ·exact absurd (by rw [getElem_map,getElem_map,y2,y4];exact hn.symm) (P0 j i (by simpa using y3) (by simpa using y1) h)
theorem Ua(N:Nat):jA (.pointer 78) (.ptr N 0) .ey=some (.bool false):=rfl
theorem QN:jA (.pointer 78) .ey .ey=some (.bool true):=rfl
structure iP (a b:cD):Prop where
 size:a.size=b.size
 QO:a.aE.l.map bX=b.aE.l.map bX
theorem iP.refl(a:cD):iP a a:=⟨rfl,rfl⟩
theorem iP.symm{a b:cD}(h:iP a b):iP b a:=⟨h.size.symm,h.QO.symm⟩
theorem iP.trans{a b c:cD}(h:iP a b)(k:iP b c):iP a c:=⟨h.size.trans k.size,h.QO.trans k.QO⟩
theorem iP.valid(h:iP a b)(hv:cV b=true):cV a=true:=by rw [fX,h.size,h.QO];exact fX.1 hv
theorem iP.get(h:iP a b)(hr:b.aE.l[j]?=some r):∃ q,a.aE.l[j]?=some q/\bX q=bX r:=by
 have:=congrArg (·[j]?) h.QO;simp only [getElem?_map,hr,map_some] at this
 cases hq:a.aE.l[j]? with
 |none=>rw [hq] at this;cases this
 |some q=>rw [hq] at this;exact ⟨q,rfl,by simpa using this⟩
theorem jT.On{t:cD}(ha:jT rs s a)(hb:jT rs t b)(h:iP s t):iP a b:=by
 obtain ⟨x,y⟩:=ha.det hb h.size h.QO;exact ⟨x,y⟩
theorem yJ(hv:cV s=true){k:Int}(hq:s.aE.l[j]?=some q)(hs:gm nm k q=true):iM (gm nm k) s.aE.l=(j:Int):=by
 rcases lD (gm nm k) s.aE.l with ⟨_,h⟩|⟨i,v,h1,h2,h3⟩
 ·rw [find?_eq_none] at h;exact absurd hs (h q (ig hq))
 ·have E9:=find?_some h3;simp only [gm,and_eq_true,beq_iff_eq] at hs E9;rw [h1,T9 hv h2 hq (by rw [E9.1,hs.1])]
theorem yK(h:nk (bX q)=nk (bX r))(nm:b7)(k:Int):gm nm k q=gm nm k r:=by
 have e1:q.name=r.name:=congrArg (·.1) h;have e2:q.arity=r.arity:=congrArg (·.2) h;unfold gm;rw [e1,e2]
theorem jT.rel{all w:cD}(h:jT rs s all)(hw:iP w all)(hr:s.aE.l[j]?=some r):∃ q,w.aE.l[j]?=some q/\bX q=bX r:=by
 obtain ⟨_,F,_,hd⟩:=h;have hl:j<s.aE.l.length:=(kg.1 hr).1
 have e:(w.aE.l.map bX)[j]?=some (bX r):=by
  rw [hw.QO,hd,getElem?_append_left (by simpa using hl),getElem?_map,hr];rfl
 rw [getElem?_map] at e
 cases hq:w.aE.l[j]? with
 |none=>rw [hq] at e;cases e
 |some q=>rw [hq] at e;exact ⟨q,rfl,by simpa using e⟩
theorem BN(hr:s.aE.l[j]?=some r)(hp:mW s j r t is s'):∃ r',s'.aE.l[j]?=some r'/\r'.name=r.name/\r'.arity=r.arity/\LB (r.aM.l.map Sl.l) t is (r'.aM.l.map Sl.l):=by
 have hl:j<s.aE.l.length:=(kg.1 hr).1;obtain ⟨L,_,h2⟩:=hp.list;have hlen:s'.aE.l.length=s.aE.l.length:=by have:=congrArg List.length h2;simpa using this
 have h3:s'.aE.l[j]?=some (s'.aE.l[j]'(by omega)):=eA (by omega);exact ⟨_,h3,hp.at hr h3⟩
structure aci (s:cD) (c:vz) (j:Nat) (r:Rel):Prop where
 get:s.aE.l[j]?=some r
 sym:gm c.name (c.tuple.l.length:Int) r=true
 arity:r.arity=(c.tuple.l.length:Int)
 inb:jo s.size c.tuple.l=true
 JI:c.JI=decide (c.tuple.l ∈ r.aM.l.map Sl.l)
inductive ug (rs:List aO):cD->List vz->List cD->Prop
 |base {s all w:cD}:jT rs s all->iP w all->ug rs s [] [w]
 |step {s s1 s' all w:cD} {dl:List vz} {W:List cD} {j:Nat} {r:Rel} {c:vz}:ug rs s dl W->ez rs s->aci s c j r->mW s j r c.tuple.l c.to s1->iP s' s1->jT rs s' all->iP w all->ug rs s' (dl++[c]) (W++[w])
theorem ug.On{t:cD}{dl:List vz}(h:ug rs s dl W)(ht:iP t s):ug rs t dl W:=by
 cases h with
 |base hr hs=>exact .base (hr.DU ht.size ht.QO) hs
 |step h1 h2 h3 h4 h5 h6 h7=>exact .step h1 h2 h3 h4 (ht.trans h5) (h6.DU ht.size ht.QO) h7
theorem ug.last{dl:List vz}(h:ug rs s dl W):∃ V w all,W=V++[w]/\V.length=dl.length/\jT rs s all/\iP w all:=by
 induction h with
 |base hr hs=>exact ⟨[],_,_,rfl,rfl,hr,hs⟩
 |@step s s1 s' all w dl W j r c h1 h2 h3 h4 h5 h6 h7 ih=>
  obtain ⟨V,w0,akB,e1,e2,_⟩:=ih;exact ⟨W,w,all,rfl,by rw [e1];simp [e2],h6,h7⟩
theorem ug.QM{dl:List vz}{c:vz}(h:ug rs s (dl++[c]) W):∃ s0 s1 V w j r,W=V++[w]/\ug rs s0 dl V/\ez rs s0/\aci s0 c j r/\mW s0 j r c.tuple.l c.to s1/\iP s s1:=by
 generalize hd:dl++[c]=d at h
 cases h with
 |base _ _=>simp at hd
 |@step s0 s1 _ all w dl' V j r c' h1 h2 h3 h4 h5 h6 h7=>
  obtain ⟨rfl,e⟩:=append_inj' hd rfl;cases e;exact ⟨s0,s1,V,w,j,r,rfl,h1,h2,h3,h4,h5⟩
theorem DV{r':Rel}{JI:Bool}(hv:cV s=true)(hr:s.aE.l[j]?=some r)(vF:a.aE.l[j]?=some r')(hw:JI=decide (t ∈ r.aM.l.map Sl.l))(ha:mW s j r t is a)(hb:mW a j r' t JI b):iP b s:=by
 obtain ⟨x,y⟩:=mW.QM hv hr vF hw ha hb;exact ⟨x,y⟩
theorem ug.back{t:cD}{dl:List vz}{c:vz}(h:ug rs s (dl++[c]) W)(ht:iP t s):∃ (s0:cD) (V:List cD) (w:cD) (j:Nat) (r:Rel),W=V++[w]/\ug rs s0 dl V/\iM (gm c.name (c.tuple.l.length:Int)) t.aE.l=(j:Int)/\t.aE.l[j]?=some r/\r.arity=(c.tuple.l.length:Int)/\jo t.size c.tuple.l=true /\
  ∀ t',mW t j r c.tuple.l c.JI t'->iP t' s0:=by
 obtain ⟨s0,s1,V,w,j,r,e,h1,h2,h3,h4,h5⟩:=h.QM;obtain ⟨r1,g1,g2,g3,g4⟩:=BN h3.get h4;have DC:=ht.trans h5;obtain ⟨q,q1,q2⟩:=DC.get g1
 have Fo:cV s1=true:=by
  obtain ⟨n,hz,_⟩:=iW h2.valid;have hin:=h3.inb;exact F9 h2.valid h3.get h3.arity rfl (by rw [hz] at hin ⊢;simpa using hin) h4
 have MD:gm c.name (c.tuple.l.length:Int) q=true:=by
  rw [yK (r:=r) ?_,h3.sym];rw [q2];simp [nk,bX,g2,g3]
 have MC:q.arity=(c.tuple.l.length:Int):=by
  have:q.arity=r1.arity:=congrArg (·.2.1) q2;rw [this,g3,h3.arity]
 refine ⟨s0,V,w,j,q,e,h1,yJ (DC.valid Fo) q1 MD,q1,MC,by rw [DC.size,h4.size];exact h3.inb,fun t' hp=>?_⟩;obtain ⟨r2,k1,_⟩:=BN q1 hp;have e1:q.aM.l.map Sl.l=r1.aM.l.map Sl.l:=congrArg (·.2.2) q2;have e2:q.name=r1.name:=congrArg (·.1) q2;have e3:q.arity=r1.arity:=congrArg (·.2.1) q2
 have Rj:mW s1 j r1 c.tuple.l c.JI t':=by
  obtain ⟨ts,p1,p2,p3⟩:=hp.aE;exact ⟨by rw [hp.size,DC.size],ts,p1,by rw [<- e1];exact p2,by rw [p3,DC.QO,e2,e3]⟩
 exact DV h2.valid h3.get g1 h3.JI h4 Rj
theorem ug.len{dl:List vz}(h:ug rs s dl W):W.length=dl.length+1:=by
 obtain ⟨V,w,_,e,hl,_⟩:=h.last;rw [e];simp [hl]
theorem rK(h:iP a b)(hs:a.small){H:Heap}(hK:K (.ret (.bool true)) H=true):Sem TP 16 [.agg (an a),.agg (an b)] H K:=by
 refine Sem.data (r:=.bool true) ?_ (by simp [AV.cN,AV.pure,eu]) hK;exact Ht h.size h.QO hs fun _=>fY rfl
structure Ub (rs:Sl aO) (N:Nat) (h:Heap) (s all:cD) (dn:AV) (dl:List vz) (W:List cD):Prop where
 at_:dS rs N h s all dn
 done:gH N h dn dl
 ok:ez rs.l s
 run:jT rs.l s all
 JM:ug rs.l s dl W
theorem Ub.ext{rs:Sl aO}{N:Nat}{h h':Heap}{s all:cD}{dn:AV}{dl:List vz}{W:List cD}(x:Ub rs N h s all dn dl W)(e:bA h h'):Ub rs N h' s all dn dl W:=⟨x.at_.ext e,x.done.but (e.but N),x.ok,x.run,x.JM⟩
theorem Ub.pos{rs:Sl aO}{all:cD}{dl:List vz}(x:Ub rs N h s all dn dl W):0<s.size:=by
 obtain ⟨n,hn,n1,_⟩:=iW x.ok.valid;omega
theorem gH.lt{l:List vz}(o:gH N h d l){b:Nat}(hb:cz d=some b):b≠N/\b<h.next:=by
 cases o with
 |nil=>cases hb
 |row c _ cs h1 h2 _ _ _=>cases hb;exact ⟨h1,h2⟩
theorem iP.small{a b:cD}(h:iP a b)(hv:cV b=true):a.small:=(fC (h.valid hv)).1
set_option maxHeartbeats 2000000 in
theorem DW{rules:Sl aO}{yL:Sl EX}(kV:∀ r ∈ rules.l,r.ok)(mI:s.ok)(Uc:yL.l.length<=cM/\∀ a ∈ yL.l,a.ok):Sem TP 5 [ak aP 3 rules,.agg (an s),ak nw 4 yL] Heap.empty Ip:=by
 have al:∀ h,aA TP 12 [] h (bJ (fun v h'=>Ip (.ret v) h') (fun v h'=>Ip (.panic v) h'))=true:=fun h=>ah (qq (by simp only [aR,reduceAdd,reduceEqDiff,reduceIte];rfl));refine F.tr ?_;rw [F.vk];simp only [cY (cp s),aq,bT];have g0:(Heap.empty.alloc (.cells (an s))).get 0=some (.cells (an s)):=aB _ _;have gn:(Heap.empty.alloc (.cells (an s))).next=1:=rfl
 generalize (Heap.empty.alloc (.cells (an s)))=H at g0 gn ⊢;have l0:ag (some 2) (.ptr 0 0) H=some (.agg (an s)):=by rw [aj g0,cE (cs:=an s) (n:=2) rfl]
 simp only [l0,aq];refine ah (cR kV mI fun b hb=>?_);simp only [aR,reduceAdd,reduceEqDiff,reduceIte]
 cases b with
 |false=>
  simp only [Bool.not_false,aK];refine ah (qq ?_);simp only [aR,reduceAdd,reduceEqDiff,reduceIte];rfl
 |true=>
 have jz:=hb rfl;simp only [Bool.not_true,aJ];refine ah (fK Uc.1 fun b2 hb2=>?_)
 cases b2 with
 |false=>
  simp only [aR,reduceAdd,reduceEqDiff,reduceIte,Bool.not_false];refine ah (qq ?_);simp only [aR,reduceAdd,reduceEqDiff,reduceIte];rfl
 |true=>
 obtain ⟨fw1,fw2⟩:=hb2 rfl;simp only [aR,reduceAdd,reduceEqDiff,reduceIte,Bool.not_true,l0];refine ah (LA kV jz mI (fun hn h1 x1=>?_) fun ho xa s1 Ud N h1 a1 a2 a3 a4 a5 a6 a7 a8=>?_)
 ·simp only [aR,reduceAdd,reduceEqDiff,reduceIte,QN];refine ah (qq ?_);simp only [aR,reduceAdd,reduceEqDiff,reduceIte];rfl
 simp only [aR,reduceAdd,reduceEqDiff,reduceIte,Ua]
 have E0:(∀ r ∈ xa.l,r.ok)/\∀ r ∈ xa.l,r.mc:=by
  rw [a1];exact ⟨fun r hr=>by obtain ⟨q,hq,rfl⟩:=mem_map.1 hr;exact T8 (kV q hq),fun r hr=>by obtain ⟨q,hq,rfl⟩:=mem_map.1 hr;exact QG (jz q hq)⟩
 have ld:∀ {i:Nat} {a:EX},yL.l[i]?=some a->∀ j,j<4->∀ h,ag none (.dO (yL.l.flatMap nw) (i*4+j)) h=(nw a)[j]?:=fun hv j hj h=>fI zS hv hj;have Rj:0<s1.size:=by obtain ⟨n,hn,n1,_⟩:=iW a4.valid;omega
 refine ah (qF a6 Rj (a5.small a4) fun w0 h2 x2 c1 c2=>?_);simp only [aR,reduceAdd,reduceEqDiff,reduceIte,DM];have y1:Ub xa N (h2.alloc (.cells (an w0))) s1 Ud .ax [] [w0]:=Ub.ext (⟨a6.ext x2,.nil,a4,a5,.base a5 ⟨c1,c2⟩⟩) (bA.alloc _ _);have o1:Own an 2 0 (h2.alloc (.cells (an w0))) (.slice h2.next 0 1 2) [w0]:=.row h2.next [w0] (zero_le _) (by rw [Heap.aL];omega) (by rw [aB];simp)
 have hN2:N<h2.next:=Nat.lt_of_lt_of_le a6.lt x2.next
 have hb1:∀ c,cz (AV.slice h2.next 0 1 2)=some c->c≠N:=fun c hc=>by
  have h:h2.next=c:=Option.some.inj hc
  omega
 refine aD 0 yL.l.length (zero_le _) (fun i e h=>∃ s all dn dl W,Ub xa N h s all dn dl W/\dl.length<=i/\Own an 2 0 h (e 8) W/\(∀ c,cz (e 8)=some c->c≠N/\cz dn≠some c)/\e 2=ak nw 4 yL/\e 7 = .ptr N 0/\e 9 = .int .i64 (i:Int))
  ⟨s1,Ud,.ax,[],[w0],y1,dM _,o1,fun c hc=>⟨hb1 c hc,fun e=>by cases e⟩,rfl,rfl,rfl⟩ ?_ ?_
 ·rintro i e h _ hi ⟨s,all,dn,dl,W,y,hdl,ow,apart,e2,e7,e9⟩ K' hn hx hr hp;have hv:yL.l[i]?=some yL.l[i]:=eA hi;generalize yL.l[i]=a at hv;have He:=(fw2 a (ig hv)).2;obtain ⟨V,w,al0,hW,hVl,XA,hw0⟩:=y.JM.last;have Cm:iP w all:=hw0.trans (XA.On y.run (iP.refl _));have ack:=y.run.valid y.ok;have Vd:=Cm.valid ack;have hWl:=y.JM.len;have hWw:W[dl.length]?=some w:=by rw [hW,<- hVl];simp
  obtain ⟨b,_,blt,bi,bl,_⟩:=ow.get (fun x=>rfl) hWw;have pr:aF .sub (.int .i64 ((W.length:Nat):Int)) (.int .i64 1)=some (.int .i64 ((dl.length:Nat):Int)):=by rw [IF (by omega) (by unfold cM;omega),hWl];rfl
  obtain ⟨H1,Da,p1,Vc,pn1⟩:=cu (h:=h) (zs:=[.int .i64 0,.ax]) (cs:=an w) (n:=2) rfl rfl (cp w);have e1:bA h H1:=⟨by omega,fun c hc=>Vc c (by omega)⟩
  have lw:ag (some 2) (.ptr h.next 0) H1=some (.agg (an w)):=by rw [aj p1,cE (cs:=an w) (n:=2) rfl]
  rw [F.bZ.aT];simp only [e2,e9,aR,reduceAdd,reduceEqDiff,reduceIte,bh hi,ow.len,pr,bi,bl,Da,lw,aV yL hi,ld hv 1 (by omega),ld hv 2 (by omega),nw]
  have WZ:∃ (bb:Bool) (f:Int),(∀ h K,K (.ret (.tuple [.bool bb,.int .i64 f])) h=true->Sem TP 21 [.agg (an w),.str a.name,ak encI 1 a.t] h K)/\∀ (j:Nat) (r:Rel),s.aE.l[j]?=some r->gm a.name (a.t.l.length:Int) r=true->f=0/\bb=decide (a.t.l ∈ r.aM.l.map Sl.l):=by
   rcases lD (gm a.name (a.t.l.length:Int)) w.aE.l with ⟨w1,w2⟩|⟨j,q,w1,w2,w3⟩
   ·refine ⟨false,4,fun h K hK=>yI (fC Vd).2 Vd w1 hK,fun j r hr hs=>?_⟩;obtain ⟨q,q1,q2⟩:=y.run.rel Cm hr;rw [find?_eq_none] at w2;exact absurd (by rw [yK (r:=r) (by rw [q2])];exact hs) (w2 q (ig q1))
   ·have MD:=find?_some w3
    have MC:q.arity=(a.t.l.length:Int):=by
     simp only [gm,and_eq_true,decide_eq_true_eq] at MD;exact MD.2
    refine ⟨_,0,fun h K hK=>zR (fC Vd).2 Vd w1 w2 MC (by unfold cM;omega) hK,fun j' r hr hs=>⟨rfl,?_⟩⟩;obtain ⟨q',q1,q2⟩:=y.run.rel Cm hr;have:=yJ Vd q1 (show gm a.name (a.t.l.length:Int) q'=true by rw [yK (r:=r) (by rw [q2])];exact hs);have hj:j=j':=by omega
    subst hj;rw [w2] at q1;cases q1;have:q.aM.l.map Sl.l=r.aM.l.map Sl.l:=congrArg (·.2.2) q2;rw [this]
  obtain ⟨bb,f,WZ,hb⟩:=WZ;refine ah (WZ _ _ ?_);have yH:=y.ext e1;have oH:=ow.ext e1;have owb:∀ c,cz (e 8)=some c->c<h.next:=fun c hc=>ow.lt hc
  have skip:∀ h':Heap,bA H1 h'->∀ E:Env,E 8=e 8->E 2=ak nw 4 yL->E 7 = .ptr N 0->E 9 = .int .i64 ((i+1:Nat):Int)->K' .normal ⟨E,159,[],h'⟩=true:=fun h' x E q1 q2 q3 q4=>
   hn _ _ ⟨s,all,dn,dl,W,yH.ext x,by omega,by rw [q1];exact oH.ext x,by rw [q1];exact apart,q2,q3,q4⟩
  simp only [aR,reduceAdd,reduceEqDiff,reduceIte,e2,e7,e9,aV yL hi,ld hv 1 (by omega),ld hv 2 (by omega),ld hv 3 (by omega),nw];refine ah (Ge yH.at_ yH.done (by omega) E0.1 E0.2 yH.ok yH.run (by omega) (fun hn h' fW=>?_) (fun r _ hin h' fW=>?_) ?_)
  ·simp only [aR,reduceAdd,reduceEqDiff,reduceIte,cw,show decide ((4:Int)=0)=false from rfl,Bool.not_false,e9,aI hi Uc.1];exact skip h' fW _ rfl (by simp [bK,e2]) (by simp [bK,e7]) rfl
  ·simp only [aR,reduceAdd,reduceEqDiff,reduceIte,cw,show decide ((2:Int)=0)=false from rfl,Bool.not_false,e9,aI hi Uc.1];exact skip h' fW _ rfl (by simp [bK,e2]) (by simp [bK,e7]) rfl
  ·intro j r w1 w2 w3 w4 w5 s1 Ud h2 dn1 f1 g1 p1' W3 Ue at1 Ve QS afu _ _;have MD:=find?_some w3;obtain ⟨rfl,rfl⟩:=hb j r w2 MD;have hsz:=p1'.size;have acm:0<s1.size:=by rw [hsz];exact y.pos
   obtain ⟨r1,XL,r1n,r1a,r1p⟩:=BN w2 p1';have W4:gm a.name (a.t.l.length:Int) r1=true:=by rw [yK (r:=r) (by simp [nk,bX,r1n,r1a])];exact MD
   have hw1:=yJ W3.valid XL W4;simp only [aR,reduceAdd,reduceEqDiff,reduceIte,cw,decide_true,Bool.not_true];refine ah (qF at1 acm (Ue.small W3) fun n1 h3 x3 c3 c4=>?_);have FL:iP n1 Ud:=⟨c3,c4⟩
   obtain ⟨H4,Oy,p4,KX,Wt⟩:=cu (h:=h3) (zs:=[.int .i64 0,.ax]) (cs:=an n1) (n:=2) rfl rfl (cp n1);have e4:bA h3 H4:=⟨by omega,fun c hc=>KX c (by omega)⟩
   have e24:bA h2 H4:=x3.trans e4;simp only [aR,reduceAdd,reduceEqDiff,reduceIte,e2,e7,e9,Oy,aV yL hi,ld hv 1 (by omega),ld hv 2 (by omega),nw];refine ah (Ge (at1.ext e24) (Ve.but (e24.but N)) (by simp;omega) E0.1 E0.2 W3 Ue (by omega) (fun hn h' fW=>?_) (fun r _ hin h' fW=>?_) ?_)
   ·rw [find?_eq_none] at hn;exact absurd W4 (hn r1 (ig XL))
   ·rw [hsz,w5] at hin;cases hin
   intro j2 r2 v1 v2 v3 v4 v5 s2 afv h5 dn2 f2 g2 p2' ok2 W5 at2 aco ML afx _ _;have hj:j2=j:=by rw [hw1] at v1;omega
   subst hj;rw [XL] at v2;cases v2;have QT:iP s2 s:=DV y.ok.valid w2 XL rfl p1' p2';have hnN:h.next≠N:=by have:=y.at_.lt;omega
   have Yh:cz dn≠some h.next:=fun hb=>by have:=(y.done.lt hb).2;omega
   have m2:=QS.next
   have m3:=x3.next
   have m5:=ML.next
   have k2:h2.get h.next=some (.cells (an w)):=by rw [QS.get _ (by omega) hnN Yh];exact p1
   have k4:H4.get h.next=some (.cells (an w)):=by rw [e24.get _ (by omega)];exact k2
   have QU:∀ c,cz dn1=some c->c<h2.next/\H1.next<=c:=fun c hc=>⟨(Ve.lt hc).2,afu c hc⟩
   have k5:h5.get h.next=some (.cells (an w)):=by rw [ML.get _ (by omega) hnN (fun hb=>by have:=(QU _ hb).2;omega)];exact k4
   have q5:h5.get h3.next=some (.cells (an n1)):=by rw [ML.get _ (by omega) (by have:=at1.lt;omega) (fun hb=>by have:=(QU _ hb).1;omega)];exact p4
   have lw5:ag (some 2) (.ptr h.next 0) h5=some (.agg (an w)):=by rw [aj k5,cE (cs:=an w) (n:=2) rfl]
   simp only [aR,reduceAdd,reduceEqDiff,reduceIte,cw,decide_true,Bool.not_true,lw5,e7];have afy:0<s2.size:=by rw [QT.size];exact y.pos
   refine ah (qF at2 afy (W5.small ok2) fun n2 h6 x6 c5 c6=>?_);have lw6:ag (some 2) (.ptr h.next 0) h6=some (.agg (an w)):=by rw [aj (cs:=an w) (by rw [x6.get _ (by omega)];exact k5),cE (cs:=an w) (n:=2) rfl]
   have pV:iP n2 afv:=⟨c5,c6⟩
   have acp:iP n2 w:=pV.trans ((W5.On y.run QT).trans Cm.symm);simp only [aR,reduceAdd,reduceEqDiff,reduceIte,lw6,AV.beq_refl,Bool.and_self,if_true];refine ah (rK acp (acp.small Vd) ?_);simp only [aR,reduceAdd,reduceEqDiff,reduceIte,Bool.not_true,e7];refine ah (xe (at2.ext x6) (aco.but (x6.but N)) (by simp;omega) E0.1 E0.2 ok2 W5 (fun h0=>by simp at h0) fun l c hlc=>?_);obtain ⟨hl1,Nb⟩:=append_inj' hlc rfl;subst hl1;simp only [List.cons.injEq,_root_.and_true] at Nb;subst Nb;obtain ⟨r3,r3g,r3n,r3a,r3p⟩:=BN XL p2';have afB:gm a.name (a.t.l.length:Int) r3=true:=by rw [yK (r:=r1) (by simp [nk,bX,r3n,r3a])];exact W4
   refine ⟨j2,r3,yJ ok2.valid r3g afB,r3g,by rw [r3a,r1a];exact w4,by rw [QT.size];exact w5,fun s3 W6 h8 dn3 p3' ok3 Uf at3 Vf W7 afC=>?_⟩;have QV:iP s3 s1:=DV W3.valid XL r3g rfl p2' p3';have m6:=x6.next
   have m8:=W7.next
   have hN3:h3.next≠N:=by have:=at1.lt;omega
   have q8:h8.get h3.next=some (.cells (an n1)):=by rw [W7.get _ (by omega) hN3,x6.get _ (by omega)];exact q5
   have ln8:ag (some 2) (.ptr h3.next 0) h8=some (.agg (an n1)):=by rw [aj q8,cE (cs:=an n1) (n:=2) rfl]
   simp only [aR,reduceAdd,reduceEqDiff,reduceIte,cw,decide_true,Bool.not_true,ln8,e7];have afD:0<s3.size:=by rw [QV.size];exact acm
   refine ah (qF at3 afD (Uf.small ok3) fun n3 h9 x9 c7 c8=>?_);have ln9:ag (some 2) (.ptr h3.next 0) h9=some (.agg (an n1)):=by rw [aj (cs:=an n1) (by rw [x9.get _ (by omega)];exact q8),cE (cs:=an n1) (n:=2) rfl]
   have UY:iP n3 W6:=⟨c7,c8⟩
   have W8:iP n3 n1:=UY.trans ((Uf.On Ue QV).trans FL.symm);have Fo:=Ue.valid W3;simp only [aR,reduceAdd,reduceEqDiff,reduceIte,ln9,AV.beq_refl,Bool.and_self,if_true];refine ah (rK W8 (W8.small (FL.valid Fo)) ?_);have m9:=x9.next
   have ow9:Own an 2 0 h9 (e 8) W:=by
    refine oH.agree (fun c hc=>?_) (by omega);have h1:=owb c hc;obtain ⟨h2',Xv⟩:=apart c hc;rw [x9.get c (by omega),W7.get c (by omega) h2',x6.get c (by omega),ML.get c (by omega) h2' (fun hb=>by have:=(QU _ hb).2;omega),e24.get c (by omega),QS.get c (by omega) h2' Xv]
   have hm:cG=140737488355328:=rfl;obtain ⟨w',OU,ap,afF,fr,nx,_,nb⟩:=ow9.push (fun x=>rfl) cp (zero_le _) (bytes:=32) (by rw [hm];omega) n1;simp only [aR,reduceAdd,reduceEqDiff,reduceIte,Bool.not_true,ln9,DM,ap,e9,aI hi Uc.1];have at9:=at3.ext x9;have Vg:=Vf.but (x9.but N);have acr:∀ c,cz dn3=some c->H4.next<=c:=fun c hc=>afx c (afC c hc)
   have afG:dS xa N OU s3 W6 dn3:=at9.agree (fr N at9.lt (fun hb=>(apart N hb).1 rfl)) nx
   have W9:gH N OU dn3 (dl++[⟨a.name,a.t,decide (a.t.l ∈ r.aM.l.map Sl.l),a.to⟩]):=by
    generalize dl++[(⟨a.name,a.t,decide (a.t.l ∈ r.aM.l.map Sl.l),a.to⟩:vz)]=dl' at Vg ⊢
    cases Vg with
    |nil=>exact .nil
    |row c _ cs t1 t2 t3 t4 t5=>exact .row c _ cs t1 (by omega) (by rw [fr c t2 (fun hb=>by have:=owb c hb;have:=acr c rfl;omega)];exact t3) t4 t5
   refine hn _ _ ⟨s3,W6,dn3,dl++[⟨a.name,a.t,decide (a.t.l ∈ r.aM.l.map Sl.l),a.to⟩],W++[n1],⟨afG,W9,ok3,Uf,?_⟩,by simp;omega,afF,fun c hc=>?_,e2,e7,rfl⟩
   ·exact .step y.JM y.ok ⟨w2,MD,w4,w5,rfl⟩ p1' QV Uf (W8.symm.trans UY)
   ·have:=nb c hc;refine ⟨fun hN=>by subst hN;have:=y.at_.lt;omega,fun hb=>?_⟩;have:=(Vf.lt hb).2;omega
 ·rintro e h ⟨s,all,dn,dl,W,y,hdl,ow,apart,e2,e7,e9⟩ K' hx;rw [F.bZ.aT];simp only [e2,e9,aR,reduceAdd,reduceEqDiff,reduceIte,aW];rw [hx,F.bZ.aG];have hWl:=y.JM.len
  have pr:aF .sub (.int .i64 ((W.length:Nat):Int)) (.int .i64 1)=some (.int .i64 ((W.length:Int)-1-((0:Nat):Int))):=by
   rw [pz (by omega) (by omega)];simp
  simp only [aR,reduceAdd,reduceEqDiff,reduceIte,bK,reduceEqDiff,reduceIte,ow.len,pr]
  refine aD 0 W.length (zero_le _) (fun k e h=>e 20 = .int .i64 ((W.length:Int)-1-(k:Int))/\e 7 = .ptr N 0/\Own an 2 0 h (e 8) W/\(∀ c,cz (e 8)=some c->c≠N)/\(k<W.length->∃ s all dn dl,Ub xa N h s all dn dl (W.take (W.length-k))/\dl.length<=100))
   ⟨rfl,e7,ow,fun c hc=>(apart c hc).1,fun _=>⟨s,all,dn,dl,by rw [Nat.sub_zero,kf (dM _)];exact y,by omega⟩⟩ ?_ ?_
  ·rintro k e h _ hk ⟨zA,e7,ow,apart,iG⟩ K' hn hx hr hp;obtain ⟨s,all,dn,dl,y,hdl⟩:=iG hk;have em:(W.length:Int)-1-(k:Int)=((W.length-1-k:Nat):Int):=by omega
   rw [em] at zA;obtain ⟨V,w,al0,hW,hVl,XA,hw0⟩:=y.JM.last;have Cm:iP w all:=hw0.trans (XA.On y.run (iP.refl _));have Vd:=Cm.valid (y.run.valid y.ok);have Nb:=y.JM.len;rw [length_take] at Nb;have hVm:V.length=W.length-1-k:=by omega
   have hWw:W[W.length-1-k]?=some w:=by
    have:(W.take (W.length-k))[W.length-1-k]?=some w:=by rw [hW,<- hVm];simp
    rwa [getElem?_take,if_pos (by omega)] at this
   obtain ⟨b,_,blt,bi,bl,_⟩:=ow.get (fun x=>rfl) hWw;rw [F.bZ.dh];simp only [zA,e7,aR,reduceAdd,reduceEqDiff,reduceIte,fy (show (0:Int)<=((W.length-1-k:Nat):Int) by omega),bi,bl];refine ah (qF y.at_ y.pos (y.run.small y.ok) fun n1 h1 x1 c1 c2=>?_);have FL:iP n1 w:=iP.trans ⟨c1,c2⟩ Cm.symm;have ow1:=ow.ext x1;have y1:=y.ext x1
   have bl1:ag (some 2) (.ptr b ((W.length-1-k)*2)) h1=some (.agg (an w)):=by
    obtain ⟨b',_,_,bi',bl',_⟩:=ow1.get (fun x=>rfl) hWw;have h3:=(bi .i64).symm.trans (bi' .i64);simp only [Option.some.injEq,AV.ptr.injEq] at h3;obtain ⟨rfl,_⟩:=h3;exact bl'
   simp only [aR,reduceAdd,reduceEqDiff,reduceIte,bl1,AV.beq_refl,Bool.and_self,if_true];refine ah (rK FL (FL.small Vd) ?_);simp only [aR,reduceAdd,reduceEqDiff,reduceIte,Bool.not_true,zA,e7,cw];rcases eq_nil_or_concat dl with rfl|⟨l,c,rfl⟩
   ·have hm0:W.length-1-k=0:=(by rw [length_nil] at hVl;omega);rw [hm0];simp only [aR,reduceAdd,reduceEqDiff,reduceIte,decide_true,Int.natCast_zero,Int.ofNat_zero];refine ah (xe y1.at_ y1.done (by simp) E0.1 E0.2 y1.ok y1.run (fun _=>?_) fun l c hlc=>by simp at hlc)
    have mm:aF .sub (.int .i64 0) (.int .i64 1)=some (.int .i64 ((W.length:Int)-1-((k+1:Nat):Int))):=by
     rw [pz (by omega) (by omega)];congr 2;omega
    simp only [aR,reduceAdd,reduceEqDiff,reduceIte,cw,decide_true,Bool.not_true,mm];exact hn _ _ ⟨rfl,e7,ow1,apart,fun h=>by omega⟩
   ·rw [concat_eq_append] at y1 hdl hVl
    have hmp:decide (((W.length-1-k:Nat):Int)=0)=false:=by
     rw [length_append,length_singleton] at hVl;exact eR (by omega)
    simp only [aR,reduceAdd,reduceEqDiff,reduceIte,hmp];refine ah (xe y1.at_ y1.done (by omega) E0.1 E0.2 y1.ok y1.run (fun h=>by simp at h) fun l' c' hlc=>?_);obtain ⟨hl1,acs⟩:=append_inj' hlc rfl;subst hl1;simp only [List.cons.injEq,_root_.and_true] at acs;subst acs;obtain ⟨s0,V',w',j,r,Xu,hh,k1,k2,k3,k4,k5⟩:=y1.JM.back (iP.refl _);refine ⟨j,r,k1,k2,k3,k4,fun s' sj h2 HZ p' Ws run' at' acu acv _=>?_⟩
    have mm:aF .sub (.int .i64 ((W.length-1-k:Nat):Int)) (.int .i64 1)=some (.int .i64 ((W.length:Int)-1-((k+1:Nat):Int))):=by
     rw [pz (by omega) (by omega)];congr 2;omega
    simp only [aR,reduceAdd,reduceEqDiff,reduceIte,cw,decide_true,Bool.not_true,zA,mm]
    have hVV:V'=W.take (W.length-(k+1)):=by
     have h5:=congrArg (List.take (W.length-(k+1))) Xu;rw [take_take,Nat.min_eq_left (by omega)] at h5;have XI:V'.length=W.length-(k+1):=by have:=congrArg List.length Xu;simp at this;omega
     rw [h5,<- XI,take_left]
    refine hn _ _ ⟨rfl,e7,ow1.agree (fun c hc=>acv.get c (ow1.lt hc) (apart c hc)) acv.next,apart,fun _=>⟨s',sj,HZ,l,⟨at',acu,Ws,run',?_⟩,by rw [length_append,length_singleton] at hdl;omega⟩⟩;rw [<- hVV];exact hh.On (k5 s' p')
  ·rintro e h ⟨zA,e7,ow,apart,_⟩ K' hx;have em:(W.length:Int)-1-(W.length:Int) = -1:=by omega
   rw [em] at zA;rw [F.bZ.dh];simp only [zA,aR,reduceAdd,reduceEqDiff,reduceIte,show decide ((0:Int)<=-1)=false from rfl];rw [hx,F.bZ.cx];refine ah (qq ?_);simp only [aR,reduceAdd,reduceEqDiff,reduceIte];rfl
end
end Go.AM