/- Parts of the proof. Conditions: none. -/
import Derived.Test.YtfdanacohcffmaaGreatKp24
import Derived.Test.YtfdanacohcffmaaGreatKp28
set_option linter.unusedSimpArgs false
set_option linter.unusedVariables false
set_option maxHeartbeats 2000000
namespace Go.AM
open List Nat Bool Option
open Go Go.Proofs
noncomputable section
variable {K:Out->Heap->Bool} {h h':Heap} {rs:List aI} {s a b out s':ct} {N n M j i bytes sz k:Nat} {dn d wv:AV} {t:List Int} {nm:cc} {W:List ct} {is:Bool} {r:aI} {xa:Sl aI} {B:Nat->Prop} {α:Type} {L:Lk} {q:Rel}
theorem TV{a b:Nat}(hb:0<b)(ha:a<=cw):aF .quo (I6 (a:Int)) (I6 (b:Int))=some (I6 ((a/b:Nat):Int)):=by
 have h:¬ (b:Int)=0:=by omega
 simp only [aF,if_true,if_neg h];have e:((a:Int).tdiv (b:Int))=((a/b:Nat):Int):=by rw [Int.tdiv_eq_ediv_of_nonneg (by omega)];rfl
 have:a/b<=a:=div_le_self _ _;unfold cw at ha;rw [e];generalize a/b=q at this;rw [IntWalk.i64_in _ (by omega)]
theorem PO{enc:α->List AV}(he:∀ a,(enc a).length=sz){l:List α}{a:α}(ha:l[i]?=some a)(hk:k+n<=sz) :
  au (some n) (.dL (l.flatMap enc) (i*sz+k)) h=some (.agg (((enc a).drop k).take n)):=by
 have hi:i<l.length:=(lR.1 ha).1
 have hle:i*sz+sz<=(l.flatMap enc).length:=by
  rw [eS he];have:(i+1)*sz<=l.length*sz:=mul_le_mul_right _ hi;rw [Nat.add_mul] at this;omega
 show kQ (some n) _ _=_;simp only [kQ];rw [if_pos (by omega),<- sg he l i a ha,drop_take,take_take,drop_drop,Nat.min_eq_left (by omega)]
theorem iQ{nm:cc}{xs:Sl cc}(h1:nm.length<=cw)(h2:xs.l.length<=cw)(h3:∀ s ∈ xs.l,s.length<=cw){h:Heap}{K:Out->Heap->Bool}
  (hK:∀ n:Int,(xs.l.length:Int)<=n->n<=5000000000000000000->K (.ret (I6 n)) h=true):Sem TP 85 [.agg [.str nm,iz xs]] h K:=by
 have A3:cw=4611686018427387904:=rfl
 have gen:∀ R:Out->Heap->Bool,(∀ (n:Int) h',(xs.l.length:Int)<=n->n<=5000000000000000000->R (.ret (I6 n)) h'=true)->Sem TP 85 [.agg [.str nm,iz xs]] Heap.empty R:=by
  intro R fin;refine F.HK ?_;rw [F.JJ];have g0:(Heap.alloc Heap.empty (.cells (lF nm xs))).get 0=sC (lF nm xs):=ak _ _;have hb:eG (.agg [.str nm,iz xs])=some (lF nm xs):=cD (DV nm xs);simp only [hb,dr,aZ];generalize (Heap.alloc Heap.empty (.cells (lF nm xs)))=H at g0 ⊢;have hq:=TV (a:=nm.length) (b:=20) (by omega) h1;have rV:aF .quo (I6 (nm.length:Int)) (I6 20)=some (I6 ((nm.length/20:Nat):Int)):=hq;have hdl:nm.length/20<=240000000000000000:=by omega
  have yP:=j9 (a:=(xs.l.length:Int)) (b:=((nm.length/20:Nat):Int)) (by omega) (by omega);simp only [aO,aj g0,lF,rV,yP];generalize hs0:(xs.l.length:Int)+((nm.length/20:Nat):Int)=s0;refine aB 0 xs.l.length (zero_le _) (fun i e h'=>h'=H/\e 1 = .ptr 0 0/\e 4=I6 (i:Int)/\∃ n:Int,e 3=I6 n/\(xs.l.length:Int)<=n/\n<=5000000000000000000) ⟨rfl,rfl,rfl,s0,rfl,by omega,by omega⟩ ?_ ?_
  ·rintro i e h' _ hi ⟨rfl,e1,e4,n,e3,n1,n2⟩ K' hn hx hr hp;obtain ⟨t,hv⟩:=dM hi;have ht:=h3 t (ij hv);have hqt:aF .quo (I6 (t.length:Int)) (I6 20)=some (I6 ((t.length/20:Nat):Int)):=TV (a:=t.length) (b:=20) (by omega) ht;have hdt:t.length/20<=240000000000000000:=by omega
   rw [F.iQ.aP];simp only [e1,e3,e4,aO,aj g0,lF,aU hi];by_cases Nu:n<10000
   ·have aj2:=j9 (a:=n) (b:=((t.length/20:Nat):Int)) (by omega) (by omega);simp only [fh Nu,aL,aO,aQ xs hi,jX hv,hqt,aj2,aE hi h2];exact hn _ _ ⟨rfl,e1,rfl,_,rfl,by omega,by omega⟩
   ·simp only [eR Nu,aK];rw [hx,F.iQ.aC];simp only [kC,reduceEqDiff,reduceIte,e3];exact fin n _ n1 n2
  ·rintro e h' ⟨rfl,e1,e4,n,e3,n1,n2⟩ K' hx;rw [F.iQ.aP];simp only [e1,e4,aO,aj g0,lF,aR];rw [hx,F.iQ.aC];simp only [kC,reduceEqDiff,reduceIte,e3];exact fin n _ n1 n2
 have main:=gen (fun o h'=>yes (∃ n:Int,o = .ret (I6 n)/\(xs.l.length:Int)<=n/\n<=5000000000000000000)) (fun n h' q1 q2=>bO.2 ⟨n,rfl,q1,q2⟩);refine main.frozen (by simp [AV.cP,AV.pure,br jc]) fun o h' ho=>?_;obtain ⟨n,rfl,q1,q2⟩:=bO.1 ho;exact ⟨_,_,rfl,.scalar _ rfl,hK n q1 q2⟩
theorem SA{N:Int}(hN:N<=1500){rules:Sl aI}(mP:∀ r ∈ rules.l,r.ok)(hK:∀ b:Bool,(b=true->∀ r ∈ rules.l,r.k8)->K (.ret (.bool b)) h=true):Sem TP 41 [gm rules,I6 N] h K:=by
 have gen:∀ R:Out->Heap->Bool,(∀ (b:Bool) h',(b=true->∀ r ∈ rules.l,r.k8)->R (.ret (.bool b)) h'=true)->Sem TP 41 [gm rules,I6 N] Heap.empty R:=by
  intro R fin;refine F.JI ?_;rw [F.Mo];simp only [aO];by_cases h71:70<rules.l.length
  ·simp only [fh (by omega:(70:Int)<(rules.l.length:Int)),aL];exact fin false _ (fun h=>by cases h)
  have hbig:rules.l.length<=cw:=by unfold cw;omega
  simp only [eR (by omega:¬ (70:Int)<(rules.l.length:Int)),aK];refine aB 0 rules.l.length (zero_le _) (fun i e h'=>e 0=gm rules/\e 1=I6 N/\e 6=I6 (i:Int)/\∃ s:Int,e 5=I6 s/\0<=s/\s<=6000000000000000000/\(s<=N->∀ r ∈ rules.l.take i,r.k8)) ⟨rfl,rfl,rfl,0,rfl,by omega,by omega,fun _ r hr=>by simp at hr⟩ ?_ ?_
  ·rintro i e h' _ hi ⟨e0,e1,e6,s,e5,s0,s1,hs⟩ K' hn hx hr hp;obtain ⟨r,hv⟩:=dM hi;have Pn:=mP r (ij hv);have A3:=Pn.2.2.2.1;have ld:∀ j,j<3->∀ h,au none (.dL (rules.l.flatMap bY) (i*3+j)) h=(bY r)[j]?:=fun j hj h=>dU fo hv hj;have lh:∀ h,au (some 2) (.dL (rules.l.flatMap bY) (i*3)) h=some (.agg [.str r.name,iz r.args]):=fun h=>PO (k:=0) (n:=2) fo hv (by omega);rw [F.eL.aP];simp only [e0,e1,e5,e6,aO,aU hi];by_cases hle:s<=N
   ·have aeI:=j9 (a:=s) (b:=1) (by omega) (by omega);simp only [fh hle,aL,aeI,aO,aQ rules hi,lh];refine af (iQ Pn.1 Pn.2.1 Pn.2.2.1 fun n n1 n2=>?_);have aeJ:=j9 (a:=s+1) (b:=n) (by omega) (by omega);simp only [aO,aeJ]
    refine aB 0 r.body.l.length (zero_le _) (fun j e h'=>e 0=gm rules/\e 1=I6 N/\e 6=I6 (i:Int)/\e 7=I6 (j:Int)/\∃ s:Int,e 5=I6 s/\0<=s/\s<=6000000000000000000 /\
     (s<=N->(∀ r ∈ rules.l.take i,r.k8)/\r.args.l.length<=1500/\(j:Int)<=s/\∀ c ∈ r.body.l.take j,c.args.l.length<=1500)) ⟨e0,e1,e6,rfl,s+1+n,rfl,by omega,by omega,fun h=>⟨hs hle,by omega,by omega,fun c hc=>by simp at hc⟩⟩ ?_ ?_
    ·rintro j e h' _ hj ⟨e0,e1,e6,e7,s,e5,s0,s1,hs⟩ K2 qj fK r7 Ay;obtain ⟨c,hc⟩:=dM hj;have O2:=Pn.2.2.2.2 c (ij hc);have lc:∀ h,au (some 2) (.dL (r.body.l.flatMap dZ) (j*4+2)) h=some (.agg [.str c.name,iz c.args]):=fun h=>PO (k:=2) (n:=2) jO hc (by omega);rw [F.eL.cU];simp only [e0,e1,e5,e6,e7,aO,aQ rules hi,ld 2 (by omega),bY,aU hj];by_cases hle:s<=N
     ·have aeI:=j9 (a:=s) (b:=1) (by omega) (by omega);simp only [fh hle,aL,aeI,aO,aQ r.body hj,lc];refine af (iQ O2.1 O2.2.1 O2.2.2 fun n n1 n2=>?_);have aeJ:=j9 (a:=s+1) (b:=n) (by omega) (by omega);simp only [aO,aeJ,aE hj A3];refine qj _ _ ⟨e0,e1,e6,rfl,s+1+n,rfl,by omega,by omega,fun h=>?_⟩;obtain ⟨q1,q2,q3,q4⟩:=hs hle;refine ⟨q1,q2,by omega,fun d hd=>?_⟩;rw [take_add_one,hc] at hd;rcases mem_append.1 hd with hd|hd
      ·exact q4 d hd
      ·simp only [toList_some,mem_singleton] at hd;subst hd;omega
     ·simp only [eR hle,aK];rw [fK,F.eL.cm];simp only [aO,reduceEqDiff,reduceIte,e6,aE hi hbig];exact hn _ _ ⟨e0,e1,rfl,s,e5,s0,s1,fun h=>absurd h hle⟩
    ·rintro e h' ⟨e0,e1,e6,e7,s,e5,s0,s1,hs⟩ K2 fK;rw [F.eL.cU];simp only [e0,e6,e7,aO,aQ rules hi,ld 2 (by omega),bY,aR];rw [fK,F.eL.cm];simp only [aO,reduceEqDiff,reduceIte,e6,aE hi hbig];refine hn _ _ ⟨e0,e1,rfl,s,e5,s0,s1,fun h=>?_⟩;obtain ⟨q1,q2,q3,q4⟩:=hs h;rw [jD (dK _)] at q4;intro q hq;rw [take_add_one,hv] at hq;rcases mem_append.1 hq with hq|hq
     ·exact q1 q hq
     ·simp only [toList_some,mem_singleton] at hq;subst hq;exact ⟨q2,by omega,q4⟩
   ·simp only [eR hle,aK];rw [hx,F.eL.aC];simp only [aO,reduceEqDiff,reduceIte,e1,e5];exact fin _ _ (fun h=>absurd (of_decide_eq_true h) hle)
  ·rintro e h' ⟨e0,e1,e6,s,e5,s0,s1,hs⟩ K' hx;rw [jD (dK _)] at hs;rw [F.eL.aP];simp only [e0,e6,aO,aR];rw [hx,F.eL.aC];simp only [aO,reduceEqDiff,reduceIte,e1,e5];exact fin _ _ (fun h=>hs (of_decide_eq_true h))
 have main:=gen (fun o h'=>yes (∃ b:Bool,o = .ret (.bool b)/\(b=true->∀ r ∈ rules.l,r.k8))) (fun b h' hb=>bO.2 ⟨b,rfl,hb⟩);refine main.frozen (by simp [AV.cP,AV.pure,br fN]) fun o h' ho=>?_;obtain ⟨b,rfl,hb⟩:=bO.1 ho;exact ⟨_,_,rfl,.scalar _ rfl,hK b hb⟩
theorem BQ{x y:Sl (Sl Int)}(Tn:x.l.map Sl.l=y.l.map Sl.l)(hx:x.l.length<=cw)(ht:∀ t ∈ x.l,t.l.length<=cw)(hK:K (.ret bT) h=true):Sem TP 51 [kM x,kM y] h K:=by
 have hl:x.l.length=y.l.length:=by have:=congrArg List.length Tn;simpa using this
 refine F.yz ?_;rw [F.Ap];simp only [aO,hl,cy,decide_true,Bool.not_true];refine aB 0 x.l.length (zero_le _) (fun i e h'=>h'=h/\e 0=kM x/\e 1=kM y/\e 5=I6 (i:Int)) ⟨rfl,rfl,rfl,rfl⟩ ?_ ?_
 ·rintro i e h' _ hi ⟨rfl,e0,e1,e5⟩ K' hn gl hr hp;obtain ⟨t,hv⟩:=dM hi;have wO:i<y.l.length:=by omega
  obtain ⟨u,hw⟩:=dM wO
  have htu:t.l=u.l:=by
   have h1:(x.l.map Sl.l)[i]?=some t.l:=by rw [getElem?_map,hv];rfl
   rw [Tn,getElem?_map,hw] at h1;exact (Option.some.inj h1).symm
  rw [F.fm.aP];simp only [e0,e1,e5,aO,aU hi,aQ x hi,aQ y wO,eY hv,eY hw];refine af (ew (ht t (ij hv)) ?_);rw [show (t.l==u.l)=true by rw [htu];simp];simp only [aO,Bool.not_true,aE hi hx];exact hn _ _ ⟨rfl,e0,e1,rfl⟩
 ·rintro e h' ⟨rfl,e0,e1,e5⟩ K' gl;rw [F.fm.aP];simp only [e0,e5,aO,aR];rw [gl,F.fm.aC];exact hK
theorem Nd(hz:a.size=b.size)(hd:a.aA.l.map bp=b.aA.l.map bp)(hs:a.small)(hK:∀ h',K (.ret bT) h'=true):Sem TP 16 [.agg (ah a),.agg (ah b)] h K:=by
 have hl:a.aA.l.length=b.aA.l.length:=by have:=congrArg List.length hd;simpa using this
 have rO:=hs.U4;refine F.Ig ?_;rw [F.JZ];simp only [cD (bU a),cD (bU b),dr,Heap.aD];have g0:(Heap.alloc (Heap.alloc h (.cells (ah a))) (.cells (ah b))).get h.next=sC (ah a):=by rw [Heap.aN,Heap.aD,if_neg (by omega)];exact ak _ _
 have g1:(Heap.alloc (Heap.alloc h (.cells (ah a))) (.cells (ah b))).get (h.next+1)=sC (ah b):=ak _ _;have gn:(Heap.alloc (Heap.alloc h (.cells (ah a))) (.cells (ah b))).next=h.next+2:=rfl
 generalize (Heap.alloc (Heap.alloc h (.cells (ah a))) (.cells (ah b)))=H at g0 g1 gn ⊢;have lz:=lA g0 0 rfl;have lz1:=lA g1 0 rfl;have lr:=lA g0 1 rfl;have lr1:=lA g1 1 rfl;simp only [aO,lz,lz1,lr,lr1,hz,hl,cy,decide_true,Bool.not_true];refine aB 0 a.aA.l.length (zero_le _) (fun i e h'=>h'.get h.next=sC (ah a)/\h'.get (h.next+1)=sC (ah b)/\h.next+2<=h'.next/\e 2 = .ptr h.next 0/\e 3 = .ptr (h.next+1) 0/\e 5=I6 (i:Int)) ⟨g0,g1,by omega,rfl,rfl,rfl⟩ ?_ ?_
 ·rintro i e h' _ hi ⟨q0,q1,qn,e2,e3,e5⟩ K' hn gl hr hp;obtain ⟨r,hv⟩:=dM hi;have wO:i<b.aA.l.length:=by omega
  obtain ⟨u,hw⟩:=dM wO;have kW:=ij hv
  have hru:bp r=bp u:=by
   have h1:(a.aA.l.map bp)[i]?=some (bp r):=by rw [getElem?_map,hv];rfl
   rw [hd,getElem?_map,hw] at h1;exact (Option.some.inj h1).symm
  unfold bp at hru;simp only [Prod.mk.injEq] at hru;have lr:=lA q0 1 rfl;have lr1:=lA q1 1 rfl;have la:∀ hh,au (some 3) (.dL (a.aA.l.flatMap aY) (i*3)) hh=some (.agg (aY r)):=fun hh=>dB dY hv;have lb:∀ hh,au (some 3) (.dL (b.aA.l.flatMap aY) (i*3)) hh=some (.agg (aY u)):=fun hh=>dB dY hw;have y0:((h'.alloc (.cells [.str [],I6 0,.ai])).alloc (.cells [.str [],I6 0,.ai])).get h'.next=sC [.str [],I6 0,.ai]:=by rw [Heap.aN,Heap.aD,if_neg (by omega)];exact ak _ _
  have y1:((h'.alloc (.cells [.str [],I6 0,.ai])).alloc (.cells [.str [],I6 0,.ai])).get (h'.next+1)=sC [.str [],I6 0,.ai]:=ak _ _;have yx:aV h' ((h'.alloc (.cells [.str [],I6 0,.ai])).alloc (.cells [.str [],I6 0,.ai])):=(aV.alloc _ _).trans (aV.alloc _ _);have yn:((h'.alloc (.cells [.str [],I6 0,.ai])).alloc (.cells [.str [],I6 0,.ai])).next=h'.next+2:=rfl
  rw [F.kL.aP];simp only [e2,e3,e5,aO,lr,lr1,aU hi,aQ a.aA hi,aQ b.aA wO,la,lb,Heap.aD];generalize ((h'.alloc (.cells [.str [],I6 0,.ai])).alloc (.cells [.str [],I6 0,.ai]))=Y at y0 y1 yx yn ⊢;have aj4:∀ (v:Rel),eW [.str [],I6 0,.ai] 0 (aY v)=aY v:=fun v=>by obtain ⟨nm,k,t⟩:=v;rfl
  have st1:aS 3 (.ptr h'.next 0) (.agg (aY r)) Y=some (Y.set h'.next (.cells (aY r))):=by
   rw [cj (n:=3) (v:=.agg (aY r)) y0 (dY r) (gJ r) (by simp)];show some (Y.set h'.next (.cells (eW [.str [],I6 0,.ai] 0 (aY r))))=_;rw [aj4]
  have z1:(Y.set h'.next (.cells (aY r))).get (h'.next+1)=sC [.str [],I6 0,.ai]:=by rw [Heap.aG,if_neg (by omega)];exact y1
  have zq1:(Y.set h'.next (.cells (aY r))).get (h.next+1)=sC (ah b):=by rw [Heap.aG,if_neg (by omega),yx.get _ (by omega)];exact q1
  have anP:au none (.ptr (h.next+1) 1) (Y.set h'.next (.cells (aY r)))=some (qm b.aA):=by rw [aj zq1];rfl
  have US:aS 3 (.ptr (h'.next+1) 0) (.agg (aY u)) (Y.set h'.next (.cells (aY r)))=some ((Y.set h'.next (.cells (aY r))).set (h'.next+1) (.cells (aY u))):=by
   rw [cj (n:=3) (v:=.agg (aY u)) z1 (dY u) (gJ u) (by simp)];show some ((Y.set h'.next (.cells (aY r))).set (h'.next+1) (.cells (eW [.str [],I6 0,.ai] 0 (aY u))))=_;rw [aj4]
  simp only [st1,dr,anP,AV.beq_refl,Bool.and_self,if_true,US];have w0:((Y.set h'.next (.cells (aY r))).set (h'.next+1) (.cells (aY u))).get h'.next=sC (aY r):=by rw [Heap.aG,if_neg (by omega),Heap.aG,if_pos rfl]
  have w1:((Y.set h'.next (.cells (aY r))).set (h'.next+1) (.cells (aY u))).get (h'.next+1)=sC (aY u):=by rw [Heap.aG,if_pos rfl]
  have wx:∀ b,b<h'.next->((Y.set h'.next (.cells (aY r))).set (h'.next+1) (.cells (aY u))).get b=h'.get b:=fun b hb=>by rw [Heap.aG,if_neg (by omega),Heap.aG,if_neg (by omega)];exact yx.get b hb
  have wn:((Y.set h'.next (.cells (aY r))).set (h'.next+1) (.cells (aY u))).next=h'.next+2:=by rw [Heap.aT,Heap.aT];exact yn
  generalize ((Y.set h'.next (.cells (aY r))).set (h'.next+1) (.cells (aY u)))=W at w0 w1 wx wn ⊢;have k0:=lA w0 0 rfl;have k1:=lA w0 1 rfl;have k2:=lA w0 2 rfl;have j0:=lA w1 0 rfl;have j1:=lA w1 1 rfl;have j2:=lA w1 2 rfl;simp only [aO,k0,k1,k2,j0,j1,j2,hru.1,hru.2.1,beq_self_eq_true,Bool.not_true];refine af (BQ hru.2.2 (by have:=hs.CV r kW;unfold cw;omega) (fun t ht=>by have:=hs.YL r kW t ht;unfold cw;omega) ?_);simp only [aO,Bool.not_true,aE hi rO];exact hn _ _ ⟨by rw [wx _ (by omega)];exact q0,by rw [wx _ (by omega)];exact q1,by omega,e2,e3,rfl⟩
 ·rintro e h' ⟨q0,q1,qn,e2,e3,e5⟩ K' gl;have lr:=lA q0 1 rfl;rw [F.kL.aP];simp only [e2,e5,aO,lr,aR];rw [gl,F.kL.aC];exact hK h'
theorem PR(s:ct):eN [I6 0,.ai] [(0,2)] [.agg (ah s)]=some (ah s):=by
 obtain ⟨z,r⟩:=s;cases r<;>rfl
theorem dD{rules:Sl aI}{s:ct}{N:Int}(mP:∀ r ∈ rules.l,r.ok)(oP:s.ok){h:Heap}{K:Out->Heap->Bool}(hK:∀ b:Bool,(b=true->∀ r ∈ rules.l,r.k8)->K (.ret (.bool b)) h=true) :
  Sem TP 10 [gm rules,.agg (ah s),I6 N] h K:=by
 have gen:∀ R:Out->Heap->Bool,(∀ (b:Bool) h',(b=true->∀ r ∈ rules.l,r.k8)->R (.ret (.bool b)) h'=true)->Sem TP 10 [gm rules,.agg (ah s),I6 N] Heap.empty R:=by
  intro R fin;refine F.FY ?_;rw [F.Ih];simp only [cD (bU s),dr,aZ];have g0:(Heap.empty.alloc (.cells (ah s))).get 0=sC (ah s):=ak _ _;have gn:(Heap.empty.alloc (.cells (ah s))).next=1:=rfl
  generalize (Heap.empty.alloc (.cells (ah s)))=H at g0 gn ⊢;refine af (SA (by omega) mP fun b hb=>?_);simp only [aO]
  cases b with
  |false=>
   simp only [Bool.not_false,aL];exact fin false _ (fun h=>by cases h)
  |true=>
  have iX:=hb rfl;have l0:=eM g0;have g1:(H.alloc (.cells (ah s))).get H.next=sC (ah s):=ak _ _
  have VT:(H.alloc (.cells (ah s))).get 0=sC (ah s):=by rw [Heap.aN,if_neg (by omega)];exact g0
  simp only [Bool.not_true,aK,l0,dr,PR];generalize (H.alloc (.cells (ah s)))=H2 at g1 VT ⊢;refine af (cC oP g1 fun b=>?_);simp only [aO]
  cases b with
  |false=>
   simp only [Bool.not_false,aL];exact fin false _ (fun h=>by cases h)
  |true=>
  have l0':au (some 2) (.ptr 0 0) H2=some (.agg (ah s)):=eM VT;simp only [Bool.not_true,aK,l0',dr];refine af (bS mP iX oP (fun e he=>?_) fun ho=>?_)
  ·have hne:e≠0:=by
    rcases he with ⟨_,rfl⟩|⟨_,_,⟨_,rfl⟩|⟨_,_,rfl⟩⟩<;>omega
   simp only [aO,cy,eR hne,Bool.not_false];exact fin true _ (fun _=>iX)
  ·obtain ⟨n,hn,n1,sK,h8⟩:=iL ho.valid;have uR:s.size.toNat=n:=by omega
   have F9:rules.l.length<=cw:=by have:=ho.iD.k8;unfold cw;omega
   have YC:∀ r ∈ rules.l,n ^ (varsOf r).length<=65536:=fun r hr=>Nat.le_of_not_lt fun h=>ho.wY (.inr (.inr ⟨r,hr,by rw [uR];exact h⟩));simp only [aO,cy,decide_true,Bool.not_true];refine aB 0 rules.l.length (zero_le _) (fun i e h'=>h'=H2/\∃ q:Nat,q<=i*65536/\e 0=gm rules/\e 2=I6 N/\e 4 = .ptr 0 0/\e 7=I6 (q:Int)/\e 8=I6 (i:Int)) ⟨rfl,0,by omega,rfl,rfl,rfl,rfl,rfl⟩ ?_ ?_
   ·rintro i e h' _ hi ⟨rfl,q,hq,e0,e2,e4,e7,e8⟩ K' vE hx hr hp;obtain ⟨r,hv⟩:=dM hi;have kW:=ij hv;have atG:=YC r kW;have uo:=ho.iD.k8;obtain ⟨m,jb⟩:=ho.iD.go;have ajb:=(jY jb r kW).2.2;have hvb:(varsOf r).length<=cw:=by unfold cw;omega
    have lz:au none (.ptr 0 0) h'=some (I6 (n:Int)):=(by rw [aj VT,<- hn];rfl);rw [F.dD.aP];simp only [e0,e8,aO,aU hi];refine aB 0 (varsOf r).length (zero_le _) (fun j e h2=>h2=h'/\e 0=gm rules/\e 2=I6 N/\e 4 = .ptr 0 0/\e 7=I6 (q:Int)/\e 8=I6 (i:Int)/\e 9=I6 ((n ^ j:Nat):Int)/\e 10=I6 (j:Int)) ⟨rfl,e0,e2,e4,e7,e8,rfl,rfl⟩ ?_ ?_
    ·rintro j e h2 _ hj ⟨rfl,e0,e2,e4,e7,e8,e9,iJ⟩ K2 abd fK r7 Ay;have uN:n ^ (j+1)=n ^ j*n:=Nat.pow_succ n j;have hle:=BM n1 (show j+1<=(varsOf r).length by omega);have hm:((n ^ j:Nat):Int)*(n:Int)=((n ^ (j+1):Nat):Int):=by rw [uN,Int.natCast_mul]
     have hmm:aF .mul (I6 ((n ^ j:Nat):Int)) (I6 (n:Int))=some (I6 ((n ^ (j+1):Nat):Int)):=(by rw [zG (by rw [hm];omega) (by rw [hm];omega),hm]);rw [F.dD.cU];simp only [e0,e8,aO,aQ rules hi,dB fo hv];simp only [bY];refine af (bX (iX r kW) fun x jM=>?_);simp only [aO,jM,e4,e9,iJ,aU hj,lz,hmm,aE hj hvb];exact abd _ _ ⟨rfl,e0,e2,e4,e7,e8,rfl,rfl⟩
    ·rintro e h2 ⟨rfl,e0,e2,e4,e7,e8,e9,iJ⟩ K2 fK
     have yP:aF .add (I6 (q:Int)) (I6 ((n ^ (varsOf r).length:Nat):Int))=some (I6 ((q+n ^ (varsOf r).length:Nat):Int)):=by
      rw [j9 (by omega) (by omega)];rfl
     rw [F.dD.cU];simp only [e0,e8,aO,aQ rules hi,dB fo hv];simp only [bY];refine af (bX (iX r kW) fun x jM=>?_);simp only [aO,jM,iJ,aR];rw [fK,F.dD.cm];simp only [aO,reduceEqDiff,reduceIte,e7,e8,e9,yP,aE hi F9];exact vE _ _ ⟨rfl,q+n ^ (varsOf r).length,by rw [succ_mul];omega,e0,e2,e4,rfl,rfl⟩
   ·rintro e h' ⟨rfl,q,hq,e0,e2,e4,e7,e8⟩ K' hx;rw [F.dD.aP];simp only [e0,e8,aO,aR];rw [hx,F.dD.aC];simp only [aO,reduceEqDiff,reduceIte,e2,e7];exact fin _ _ (fun _=>iX)
 have main:=gen (fun o h'=>yes (∃ b:Bool,o = .ret (.bool b)/\(b=true->∀ r ∈ rules.l,r.k8))) (fun b h' hb=>bO.2 ⟨b,rfl,hb⟩);refine main.frozen (by simp [AV.cP,AV.pure,br fN,dI]) fun o h' ho=>?_;obtain ⟨b,rfl,hb⟩:=bO.1 ho;exact ⟨_,_,rfl,.scalar _ rfl,hK b hb⟩
theorem PS{e e':Int}(h:Em rs s e)(h':Em rs s e'):e=e':=by
 rcases h with ⟨a,rfl⟩|⟨g,v,⟨a,rfl⟩|⟨a,b,rfl⟩⟩<;>rcases h' with ⟨a',rfl⟩|⟨g',v',⟨a',rfl⟩|⟨a',b',rfl⟩⟩<;>first|rfl|skip
 ·exact (a.elim (fun h=>h g') fun h=>by rw [v'] at h;cases h).elim
 ·exact (a.elim (fun h=>h g') fun h=>by rw [v'] at h;cases h).elim
 ·exact (a'.elim (fun h=>h g) fun h=>by rw [v] at h;cases h).elim
 ·exact absurd a a'
 ·exact (a'.elim (fun h=>h g) fun h=>by rw [v] at h;cases h).elim
 ·exact absurd a' a
theorem C7{e:Int}(h:Em rs s e):e≠0/\¬ dw rs s:=by
 rcases h with ⟨a,rfl⟩|⟨g,v,⟨a,rfl⟩|⟨a,b,rfl⟩⟩
 ·exact ⟨by omega,fun h=>a.elim (fun h'=>h' h.iD) fun h'=>by rw [h.valid] at h';cases h'⟩
 ·exact ⟨by omega,fun h=>h.names a⟩
 ·exact ⟨by omega,fun h=>h.wY b⟩
theorem Vy{Fk:Lk}(ho:dw rs s)(hd:out.aA.l.map bp=s.aA.l.map bp++qd rs s.size.toNat Fk (cZ rs)):out.small:=by
 have hs:=(fO ho.valid).1;obtain ⟨m,jb⟩:=ho.iD.go;have uo:=ho.iD.k8;have hdl:=pZ rs
 have key:∀ r ∈ out.aA.l,(∃ p ∈ s.aA.l,p.aM.l.map Sl.l=r.aM.l.map Sl.l)\/∃ nm ∈ cZ rs,r.aM.l.map Sl.l=uL s.size.toNat Fk nm (ke rs nm) (s.size.toNat ^ ke rs nm):=fun r hr=>by
  have h1:bp r ∈ s.aA.l.map bp++qd rs s.size.toNat Fk (cZ rs):=by rw [<- hd];exact List.mem_map_of_mem hr
  rcases mem_append.1 h1 with h1|h1
  ·obtain ⟨p,hp,e⟩:=mem_map.1 h1;unfold bp at e;simp only [Prod.mk.injEq] at e;exact .inl ⟨p,hp,e.2.2⟩
  ·obtain ⟨nm,rF,e⟩:=mem_map.1 h1;unfold bp at e;simp only [Prod.mk.injEq] at e;exact .inr ⟨nm,rF,e.2.2.symm⟩
 have Qu:∀ nm ∈ cZ rs,ke rs nm<=12/\s.size.toNat ^ ke rs nm<=4096:=fun nm rF=>by
  obtain ⟨_,r,hr,_,ha⟩:=wH jb ((ej rs).1 rF);rw [ha];exact ⟨pg (jY jb r hr).1,Nat.le_of_not_lt fun h=>ho.wY (.inr (.inl ⟨r,hr,h⟩))⟩
 refine ⟨?_,fun r hr=>?_,fun r hr t ht=>?_⟩
 ·have h1:=congrArg List.length hd;rw [length_map,length_append,length_map] at h1;unfold qd at h1;rw [length_map] at h1;have h2:¬ 8<s.aA.l.length+(cZ rs).length:=fun h=>ho.wY (.inl h);omega
 ·rcases key r hr with ⟨p,hp,e⟩|⟨nm,rF,e⟩
  ·have h1:=congrArg List.length e;simp only [length_map] at h1;have:=hs.CV p hp;omega
  ·have h1:=congrArg List.length e;rw [length_map] at h1;have h2:=I1 s.size.toNat Fk nm (ke rs nm) (s.size.toNat ^ ke rs nm);have:=(Qu nm rF).2;omega
 ·rcases key r hr with ⟨p,hp,e⟩|⟨nm,rF,e⟩
  ·have h1:t.l ∈ p.aM.l.map Sl.l:=by rw [e];exact List.mem_map_of_mem ht
   obtain ⟨u,hu,hue⟩:=mem_map.1 h1;rw [<- hue];exact hs.YL p hp u hu
  ·have h1:t.l ∈ uL s.size.toNat Fk nm (ke rs nm) (s.size.toNat ^ ke rs nm):=by rw [<- e];exact List.mem_map_of_mem ht
   unfold uL at h1;obtain ⟨i,_,hi⟩:=mem_map.1 h1;rw [<- hi,j4];have:=(Qu nm rF).1;omega
theorem Yg{u:List Int}:u ∈ uL n L nm k N↔∃ i,i<N/\L nm i=true/\u=eo n k i:=by
 unfold uL;rw [mem_map];constructor
 ·rintro ⟨i,hi,rfl⟩;rw [mem_filter,mem_range] at hi;exact ⟨i,hi.1,hi.2,rfl⟩
 ·rintro ⟨i,h1,h2,rfl⟩;exact ⟨i,mem_filter.2 ⟨mem_range.2 h1,h2⟩,rfl⟩
theorem Vz(n1:1<=n)(hj:j<n ^ k)(hij:i<j):dA (eo n k i) (eo n k j)=true:=by
 obtain ⟨a1,a2⟩:=su n1 (show i<n ^ k by omega);obtain ⟨b1,b2⟩:=su n1 hj
 cases h:dA (eo n k i) (eo n k j) with
 |true=>rfl
 |false=>
  have hl:(eo n k i).length=(eo n k j).length:=by rw [j4,j4]
  have hne:eo n k i≠eo n k j:=fun e=>by rw [e,b2] at a2;omega
  have:=K9 hl.symm b1 a1 (z7 hl h hne);omega
theorem Yh(n1:1<=n)(L:Lk)(nm:cc)(k:Nat):aa8 n k (uL n L nm k (n ^ k)):=by
 refine ⟨fun u hu=>?_,?_⟩
 ·obtain ⟨i,hi,_,rfl⟩:=Yg.1 hu;exact ⟨j4 _ _ _,(su n1 hi).1⟩
 ·unfold ji uL;rw [pairwise_map];refine (List.Pairwise.filter _ ?_);refine List.Pairwise.imp_of_mem ?_ (pairwise_lt_range (n:=n ^ k));intro a b _ hb rO;exact Vz n1 (mem_range.1 hb) rO
section
variable {rs:List aI} {s out:ct} {n:Nat} {m:gq} {L:Lk}
theorem Nf(hd:out.aA.l.map bp=s.aA.l.map bp++qd rs n L (cZ rs)):(out.aA.l.map bp).map oN=(s.aA.l.map bp++gK rs (cZ rs)).map oN:=by
 rw [hd,map_append,map_append];unfold qd gK;congr 1;rw [List.map_map,List.map_map];rfl
theorem VA(ho:dw rs s)(jb:dQ rs []=some m)(hn:s.size=(n:Int))(hz:out.size=s.size)(hd:out.aA.l.map bp=s.aA.l.map bp++qd rs n L (cZ rs)):cY out=true:=by
 have hE:=M7 (rs':=s.aA.l++nZ rs (cZ rs)) ho jb (by rw [map_append,qW]);rw [map_append,qW] at hE;have Sv:=Nf hd;have n1:1<=n:=by have:=hE.lo;omega
 have uR:s.size.toNat=n:=by omega
 rw [iM,hz];have rF:∀ l:List UP,l.map (·.1)=(l.map oN).map (·.1):=fun l=>by rw [List.map_map];rfl
 refine ⟨hE.lo,hE.hi,?_,fun d Vj=>?_,?_⟩
 ·have:=congrArg List.length Sv;simp only [length_map] at this;have h8:=hE.k8;rw [length_map];omega
 ·rw [hd] at Vj;rcases mem_append.1 Vj with Vj|Vj
  ·exact hE.rel d (mem_append_left _ Vj)
  ·obtain ⟨nm,rF,rfl⟩:=mem_map.1 Vj;obtain ⟨q0,k,q1,q2,q3,_⟩:=hE.rel (nm,(ke rs nm:Int),[]) (mem_append_right _ (mem_map.2 ⟨nm,rF,rfl⟩));have q1':(ke rs nm:Int)=(k:Int):=q1;obtain rfl:ke rs nm=k:=by omega
   rw [uR] at q3 ⊢;exact ⟨q0,_,rfl,q2,q3,Yh n1 L nm _⟩
 ·rw [rF,Sv,<- rF];exact hE.names
theorem PT{Z:ct}(ho:dw rs s)(jb:dQ rs []=some m)(hn:s.size=(n:Int))(hv:cY Z=true)(hsg:(Z.aA.l.map bp).map oN=(s.aA.l.map bp++gK rs (cZ rs)).map oN)(hr:r ∈ rs){c:fT}(hc:c ∈ r.body.l)(k0:c.kind=0) :
  n ^ c.args.l.length<=4096/\∃ q,Z.aA.l.find? (dN c.name)=some q/\q.arity=(c.args.l.length:Int):=by
 have hfit:=M8 (rs':=s.aA.l++nZ rs (cZ rs)) ho jb hn (by rw [map_append,qW]) hr;refine ⟨(hfit.rel c hc k0).1,?_⟩;have wu:=Ei hr hc k0
 have Bi:(c.name,(c.args.l.length:Int)) ∈ (Z.aA.l.map bp).map oN:=by
  rw [hsg,map_append];by_cases hd:c.name ∈ bC rs
  ·obtain ⟨_,q,hq,BZ,Qu⟩:=wH jb hd;have hl:(q.args.l.length:Int)=c.args.l.length:=rI jb (pe hq) (by rw [BZ];exact wu);refine mem_append_right _ (mem_map.2 ⟨(c.name,(ke rs c.name:Int),[]),mem_map.2 ⟨c.name,(ej rs).2 hd,rfl⟩,?_⟩);unfold oN;rw [Qu,hl]
  ·cases hf:s.aA.l.find? (fe c.name (c.args.l.length:Int)) with
   |none=>exact absurd (.inl ⟨_,wu,hd,hf⟩) ho.names
   |some q=>
    obtain ⟨hq,BZ,Sd⟩:=Ek hf;refine mem_append_left _ (mem_map.2 ⟨bp q,List.mem_map_of_mem hq,?_⟩);unfold oN bp;rw [BZ,Sd]
 obtain ⟨d,hd,e⟩:=mem_map.1 Bi;obtain ⟨q,hq,rfl⟩:=mem_map.1 hd;unfold oN bp at e;simp only [Prod.mk.injEq] at e;exact ⟨q,by rw [<- e.1];exact zZ hv hq,e.2⟩
theorem abr{Z:ct}(ho:dw rs s)(jb:dQ rs []=some m)(hn:s.size=(n:Int))(hv:cY Z=true)(hz:Z.size=s.size)(hsg:(Z.aA.l.map bp).map oN=(s.aA.l.map bp++gK rs (cZ rs)).map oN)(hr:r ∈ rs):oE n r (wA Z):=by
 have hfit:=M8 (rs':=s.aA.l++nZ rs (cZ rs)) ho jb hn (by rw [map_append,qW]) hr;refine ⟨?_,hfit.conds,fun c hc k0=>?_⟩
 ·have:=(iM.1 hv).k8;unfold wA;rw [length_map] at this ⊢;unfold cw;omega
 ·obtain ⟨h1,q,h2,h3⟩:=PT ho jb hn hv hsg hr hc k0;refine ⟨h1,fun t ht htn=>?_⟩;obtain ⟨p,hp,rfl⟩:=mem_map.1 ht;have h4:=zZ hv hp;rw [show p.name=c.name from htn,h2] at h4;obtain rfl:=Option.some.inj h4;show (bitsOf Z.size.toNat q.arity.toNat q.aM.l).length=_;rw [nq,h3,hz,hn];rfl
theorem VB(Z:ct)(hz:Z.size=(n:Int)):fI (wA Z)=TO n Z:=by
 funext nm k;unfold fI TO wA;rw [find?_map,show Z.size.toNat=n by omega];have:((fun t:jR=>t.name==nm)∘nR n)=dN nm:=rfl;rw [this];cases Z.aA.l.find? (dN nm)<;>rfl
theorem PU(s:ct):ff n s=TO n s:=by
 funext nm k;unfold ff TO;cases s.aA.l.find? (dN nm)<;>rfl
end
structure kY (rs:List aI) (s out:ct):Prop where
 size:out.size=s.size
 fin:∃ Fk,mM rs s.size.toNat s Fk/\out.aA.l.map bp=s.aA.l.map bp++qd rs s.size.toNat Fk (cZ rs)
theorem LD{n:Nat}:∀ {x y:List (Sl Int)} (d:List Bool),x.map Sl.l=y.map Sl.l->kN n x d=kN n y d
 |[],[],d,_=>rfl
 |t :: x,u :: y,d,h=>by
  simp only [map_cons,List.cons.injEq] at h;simp only [kN,h.1];exact LD _ h.2
 |[],_ :: _,_,h=>by simp at h
 |_ :: _,[],_,h=>by simp at h
theorem VC{x y:List (Sl Int)}(h:x.map Sl.l=y.map Sl.l):bitsOf n k x=bitsOf n k y:=by
 unfold bitsOf;exact LD _ h
theorem PV{nm:cc}:∀ {l m:List Rel},l.map bp=m.map bp->(l.find? (dN nm)).map bp=(m.find? (dN nm)).map bp
 |[],[],_=>rfl
 |q :: l,u :: m,h=>by
  simp only [map_cons,List.cons.injEq] at h
  have hn:dN nm q=dN nm u:=by
   have:q.name=u.name:=congrArg (·.1) h.1;simp only [dN,this]
  rw [find?_cons,find?_cons,hn]
  cases dN nm u with
  |true=>simp [h.1]
  |false=>exact PV h.2
 |[],_ :: _,h=>by simp at h
 |_ :: _,[],h=>by simp at h
theorem BR{t:ct}(h:s.aA.l.map bp=t.aA.l.map bp):ff n s=ff n t:=by
 funext nm k;have:=PV (nm:=nm) h;unfold ff
 cases h1:s.aA.l.find? (dN nm) with
 |none=>
  cases h2:t.aA.l.find? (dN nm) with
  |none=>rfl
  |some u=>rw [h1,h2] at this;simp at this
 |some q=>
  cases h2:t.aA.l.find? (dN nm) with
  |none=>rw [h1,h2] at this;simp at this
  |some u=>
   rw [h1,h2] at this;simp only [map_some,Option.some.injEq] at this;have e1:q.arity=u.arity:=congrArg (·.2.1) this;have e2:q.aM.l.map Sl.l=u.aM.l.map Sl.l:=congrArg (·.2.2) this;show (bitsOf n q.arity.toNat q.aM.l).getD k false=(bitsOf n u.arity.toNat u.aM.l).getD k false;rw [e1,VC e2]
theorem kY.det{t:ct}(ha:kY rs s a)(hb:kY rs t b)(hz:s.size=t.size)(hd:s.aA.l.map bp=t.aA.l.map bp):a.size=b.size/\a.aA.l.map bp=b.aA.l.map bp:=by
 obtain ⟨z1,F,f1,f2⟩:=ha;obtain ⟨z2,G,g1,g2⟩:=hb;refine ⟨by rw [z1,z2,hz],?_⟩;rw [<- hz] at g1 g2
 have g1':mM rs s.size.toNat s G:=by
  unfold mM at g1 ⊢
  rwa [BR hd]
 obtain rfl:=f1.unique g1';rw [f2,g2,hd]
theorem TW{t:ct}(h:(t.aA.l.map bp).map oN=(s.aA.l.map bp).map oN){x:Rel}(hx:x ∈ t.aA.l):∃ y ∈ s.aA.l,y.name=x.name/\y.arity=x.arity:=by
 have h1:oN (bp x) ∈ (t.aA.l.map bp).map oN:=List.mem_map_of_mem (List.mem_map_of_mem hx);rw [h] at h1;obtain ⟨d,hd,e⟩:=mem_map.1 h1;obtain ⟨y,hy,rfl⟩:=mem_map.1 hd;exact ⟨y,hy,congrArg (·.1) e,congrArg (·.2) e⟩
theorem Jb{t:ct}(ho:dw rs s)(hv:cY t=true)(hz:t.size=s.size)(h:(t.aA.l.map bp).map oN=(s.aA.l.map bp).map oN):dw rs t:=by
 refine ⟨ho.iD,hv,fun h4=>ho.names ?_,fun h5=>ho.wY ?_⟩
 ·rcases h4 with ⟨p,hp,hn,hf⟩|⟨r,hr,hn⟩
  ·refine .inl ⟨p,hp,hn,?_⟩;rw [find?_eq_none] at hf ⊢;intro y hy hs;obtain ⟨x,hx,e1,e2⟩:=TW h.symm hy;refine hf x hx ?_;simp only [fe] at hs ⊢;rw [e1,e2];exact hs
  ·obtain ⟨y,hy,e1,_⟩:=TW h hr;exact .inr ⟨y,hy,by rw [e1];exact hn⟩
 ·have hl:t.aA.l.length=s.aA.l.length:=by have:=congrArg List.length h;simpa using this
  unfold TG at h5 ⊢;rw [hl,hz] at h5;exact h5
theorem Jc{r:Rel}(ho:dw rs s)(hr:s.aA.l[j]?=some r)(hk:r.arity=(t.length:Int))(hb:jN s.size t=true)(hp:mN s j r t is s'):dw rs s':=by
 obtain ⟨n,hn,n1,_⟩:=iL ho.valid;refine Jb ho (Lw ho.valid hr hk rfl ?_ hp) hp.size (C0 hr hp);have:((s.size.toNat:Nat):Int)=s.size:=by rw [hn];simp
 rw [this];exact hb
theorem kY.valid{rs:List aI}{s out:ct}(ho:dw rs s)(h:kY rs s out):cY out=true:=by
 obtain ⟨n,hn,n1,_⟩:=iL ho.valid;obtain ⟨m,jb⟩:=ho.iD.go;obtain ⟨hz,F,_,hd⟩:=h;have e:s.size.toNat=n:=by rw [hn];simp
 rw [e] at hd;exact VA ho jb hn hz hd
theorem kY.small{rs:List aI}{s out:ct}(ho:dw rs s)(h:kY rs s out):out.small:=by
 obtain ⟨hz,F,_,hd⟩:=h;exact Vy ho hd
theorem kY.sig{t:ct}(ha:kY rs s a)(hb:kY rs t b)(h:(t.aA.l.map bp).map oN=(s.aA.l.map bp).map oN):(b.aA.l.map bp).map oN=(a.aA.l.map bp).map oN:=by
 obtain ⟨_,F,_,f2⟩:=ha;obtain ⟨_,G,_,g2⟩:=hb;rw [f2,g2,map_append,map_append,h];congr 1;unfold qd;rw [List.map_map,List.map_map];rfl
theorem TX(ha:cY a=true)(hb:cY b=true)(h:(b.aA.l.map bp).map oN=(a.aA.l.map bp).map oN) :
  a.aA.l.length<=b.aA.l.length/\∀ (i:Nat) (q u:Rel),a.aA.l[i]?=some q->b.aA.l[i]?=some u->(∀ t ∈ q.aM.l,∀ w ∈ u.aM.l,w.l.length=t.l.length)/\ji (u.aM.l.map Sl.l):=by
 have hl:b.aA.l.length=a.aA.l.length:=by have:=congrArg List.length h;simpa using this
 refine ⟨by omega,fun i q u hq hu=>?_⟩
 have e:oN (bp u)=oN (bp q):=by
  have:=congrArg (·[i]?) h;simp only [getElem?_map,hq,hu,map_some,Option.some.injEq] at this;exact this
 have ea:u.arity=q.arity:=congrArg (·.2) e;obtain ⟨_,k,k1,_,_,kt⟩:=(iM.1 ha).rel _ (List.mem_map_of_mem (ij hq));obtain ⟨_,m,m1,_,_,mt⟩:=(iM.1 hb).rel _ (List.mem_map_of_mem (ij hu));have k1:q.arity=(k:Int):=k1;have m1:u.arity=(m:Int):=m1;refine ⟨fun t ht w hw=>?_,mt.2⟩;rw [(kt.1 _ (List.mem_map_of_mem ht)).1,(mt.1 _ (List.mem_map_of_mem hw)).1];omega
def kG(rs:Sl aI)(s all:ct)(dn:AV):List AV:=[gm rs,I6 s.size,qm s.aA,I6 all.size,qm all.aA,dn]
structure eA (rs:Sl aI) (N:Nat) (h:Heap) (s all:ct) (dn:AV):Prop where
 lt:N<h.next
 get:h.get N=sC (kG rs s all dn)
theorem eA.agree{rs:Sl aI}{all:ct}(x:eA rs N h s all dn)(hg:h'.get N=h.get N)(hn:h.next<=h'.next):eA rs N h' s all dn:=⟨Nat.lt_of_lt_of_le x.lt hn,by rw [hg];exact x.get⟩
theorem eA.ext{rs:Sl aI}{all:ct}(x:eA rs N h s all dn)(e:aV h h'):eA rs N h' s all dn:=x.agree (e.get N x.lt) e.next
theorem eA.base{rs:Sl aI}{all:ct}(x:eA rs N h s all dn):au (some 2) (.ptr N 1) h=some (.agg (ah s)):=by rw [aj x.get];rfl
theorem eA.all{rs:Sl aI}{N:Nat}{h:Heap}{s all:ct}{dn:AV}(x:eA rs N h s all dn):au (some 2) (.ptr N 3) h=some (.agg (ah all)):=by rw [aj x.get];rfl
theorem eA.rules{rs:Sl aI}{all:ct}(x:eA rs N h s all dn):au none (.ptr N 0) h=some (gm rs):=by rw [aj x.get];rfl
theorem eA.size{rs:Sl aI}{N:Nat}{h:Heap}{s all:ct}{dn:AV}(x:eA rs N h s all dn):au none (.ptr N 1) h=some (I6 s.size):=by rw [aj x.get];rfl
theorem eA.done{rs:Sl aI}{all:ct}(x:eA rs N h s all dn):au none (.ptr N 5) h=some dn:=by rw [aj x.get];rfl
theorem eA.abt{rs:Sl aI}{all:ct}(x:eA rs N h s all dn)(s':ct):aS 2 (.ptr N 1) (.agg (ah s')) h=some (h.set N (.cells (kG rs s' all dn)))/\eA rs N (h.set N (.cells (kG rs s' all dn))) s' all dn:=
 ⟨by rw [cj (n:=2) (v:=.agg (ah s')) x.get rfl (bU s') (by simp [kG])];rfl,by rw [Heap.aT];exact x.lt,by rw [Heap.aG,if_pos rfl]⟩
theorem eA.aeK{rs:Sl aI}{all:ct}(x:eA rs N h s all dn)(a':ct):aS 2 (.ptr N 3) (.agg (ah a')) h=some (h.set N (.cells (kG rs s a' dn)))/\eA rs N (h.set N (.cells (kG rs s a' dn))) s a' dn:=
 ⟨by rw [cj (n:=2) (v:=.agg (ah a')) x.get rfl (bU a') (by simp [kG])];rfl,by rw [Heap.aT];exact x.lt,by rw [Heap.aG,if_pos rfl]⟩
theorem eA.TY{rs:Sl aI}{all:ct}(x:eA rs N h s all dn)(h1:d.dX = [d])(h2:aW [d]=true):aS 1 (.ptr N 5) d h=some (h.set N (.cells (kG rs s all d)))/\eA rs N (h.set N (.cells (kG rs s all d))) s all d:=
 ⟨by rw [cj (n:=1) (v:=d) x.get (by rw [h1];rfl) (by rw [h1];exact h2) (by simp [kG]),h1];rfl,by rw [Heap.aT];exact x.lt,by rw [Heap.aG,if_pos rfl]⟩
structure BS (N:Nat) (h h':Heap):Prop where
 next:h.next<=h'.next
 get:∀ b,b<h.next->b≠N->h'.get b=h.get b
theorem BS.set{N:Nat}{h h':Heap}(x:BS N h h')(o:mI):BS N h (h'.set N o):=⟨by rw [Heap.aT];exact x.next,fun b hb hn=>by rw [Heap.aG,if_neg hn];exact x.get b hb hn⟩
theorem aV.but(x:aV h h')(N:Nat):BS N h h':=⟨x.next,fun b hb _=>x.get b hb⟩
theorem BS.trans{a b c:Heap}(x:BS N a b)(y:BS N b c):BS N a c:=⟨Nat.le_trans x.next y.next,fun i hi hn=>by rw [y.get i (Nat.lt_of_lt_of_le hi x.next) hn,x.get i hi hn]⟩
theorem PW{rs:Sl aI}{all:ct}(x:eA rs N h s all dn)(mP:∀ r ∈ rs.l,r.ok)(iX:∀ r ∈ rs.l,r.k8)(ho:dw rs.l s)(hp:kY rs.l s all)
  {t:Sl Int} {r:Rel} (hj:jh (fe nm (t.l.length:Int)) s.aA.l=(j:Int)) (hr:s.aA.l[j]?=some r) (Sd:r.arity=(t.l.length:Int)) (hin:jN s.size t.l=true)
  (hK:∀ (s' wI:ct) h' (f g:Sl AG),mN s j r t.l is s'->dw rs.l s'->kY rs.l s' wI->eA rs N h' s' wI dn->BS N h h' ->
   f.l.map rL=mC (wI.aA.l.map bp) (all.aA.l.map bp)->g.l.map rL=mC (all.aA.l.map bp) (wI.aA.l.map bp)->K (.ret (.tuple [TU f,TU g])) h'=true) :
  Sem TP 50 [.ptr N 0,.str nm,dH t,.bool is] h K:=by
 have hv:=ho.valid;have hnc:∀ c o:Nat,aJ (.ptr c o)=some (.ptr c o):=fun _ _=>rfl;refine F.Aw ?_;rw [F.By];simp only [aO,hnc,x.base];refine af (Vx (fO hv).2 hv hj hr Sd hin fun s' yg=>?_);have sZ:=Jc ho hr Sd hin yg;have Ku:=sZ.valid;obtain ⟨st1,x1⟩:=x.abt s';have b1:BS N h (h.set N (.cells (kG rs s' all dn))):=(aV.refl h).but N |>.set _;simp only [aO,st1,x1.all];have n1:(h.set N (.cells (kG rs s' all dn))).next=h.next:=Heap.aT _ _ _
 generalize (h.set N (.cells (kG rs s' all dn)))=h1 at x1 b1 n1 ⊢;obtain ⟨H2,se,p2,po2,pn2⟩:=cA (h:=h1) (zs:=[I6 0,.ai]) (cs:=ah all) (n:=2) rfl rfl (bU all);have e2:aV h1 H2:=⟨by omega,fun b hb=>po2 b (by omega)⟩
 have x2:=x1.ext e2;have b2:=b1.trans (e2.but N);simp only [aO,se,x2.rules,x2.base];refine af (eC mP iX (fO Ku).2 (fun _=>(fO Ku).1) (fun e he=>absurd sZ (C7 he).2) fun _ out hz hx=>?_);have hrun:kY rs.l s' out:=⟨hz,hx⟩
 obtain ⟨st3,x3⟩:=x2.aeK out;have b3:=b2.set (.cells (kG rs s' out dn));have hNn:N≠h1.next:=by have:=x.lt;omega
 have l4:au (some 2) (.ptr h1.next 0) (H2.set N (.cells (kG rs s' out dn)))=some (.agg (ah all)):=by
  rw [aj (cs:=ah all) (by rw [Heap.aG,if_neg (Ne.symm hNn)];exact p2),jZ (cs:=ah all) (n:=2) rfl]
 simp only [aO,st3,x3.all,l4];have BB:=hrun.sig hp (C0 hr yg).symm;have anR:=hp.sig hrun (C0 hr yg);have hva:=hp.valid ho;have hvo:=hrun.valid sZ;obtain ⟨q1,q2⟩:=TX hvo hva BB;obtain ⟨q3,q4⟩:=TX hva hvo anR;refine af (eD (hrun.small sZ) (hp.small ho) q1 q2 fun f hf=>?_);simp only [aO,x3.all,l4,AV.beq_refl,Bool.and_self,if_true];refine af (eD (hp.small ho) (hrun.small sZ) q3 q4 fun g hg=>?_);simp only [aO];exact hK s' out _ f g yg sZ hrun x3 b3 hf hg
theorem Kj{t:Sl Int}(ht:t.l.length<=1000000)(hK:K (.ret (dH t)) h=true):Sem TP 49 [dH t] h K:=by
 have main:Sem TP 49 [dH t] Heap.empty (fun o h'=>yes (∃ v,o = .ret v/\Fz true h' v (dH t))):=by
  refine F.m9 ?_;rw [F.nQ];simp only [MT,aO]
  cases t with
  |none=>simp only [aL];exact bO.2 ⟨_,rfl,.de rfl⟩
  |some l=>
   obtain ⟨b,h',a1,a2,_,_,_⟩:=vu (wk pL (some l) (Heap.empty.alloc (.cells []))) ht;simp only [aK,sO,dr,a1,gO];exact bO.2 ⟨_,rfl,pT a2⟩
 refine main.frozen (by simp [AV.cP,br iE]) fun o h' ho=>?_;obtain ⟨v,rfl,hf⟩:=bO.1 ho;exact ⟨v,_,rfl,hf,hK⟩
theorem Fm(hs:s.small)(hK:∀ s':ct,s'.size=s.size->s'.aA.l.map bp=s.aA.l.map bp->K (.ret (.agg (ah s'))) h=true):Sem TP 46 [.agg (ah s)] h K:=by
 have main:Sem TP 46 [.agg (ah s)] Heap.empty (fun o h'=>yes (∃ v,∃ s':ct,o = .ret v/\s'.size=s.size/\s'.aA.l.map bp=s.aA.l.map bp/\Fz true h' v (.agg (ah s')))):=by
  refine Fl hs fun a h' l hx hd hl=>?_;obtain ⟨z,z1,z2⟩:=TT hd.own hd.row;have:=j8.cons (.scalar (I6 s.size) rfl) (j8.cons z2 j8.nil);exact bO.2 ⟨_,⟨s.size,z⟩,rfl,rfl,by rw [<- hl];exact z1,.agg _ _ this.len this.rel⟩
 refine main.frozen (by simp [AV.cP,AV.pure,dI]) fun o h' ho=>?_;obtain ⟨v,s',rfl,h1,h2,hf⟩:=bO.1 ho;exact ⟨v,_,rfl,hf,hK s' h1 h2⟩
theorem Ng(hs:s.ok)(hv:cY s=true){t:Sl Int}(hj:jh (fe nm (t.l.length:Int)) s.aA.l = -1)
  (hK:K (.ret (.tuple [bF,I6 4])) h=true):Sem TP 21 [.agg (ah s),.str nm,dH t] h K:=by
 refine Sem.data (r:=.tuple [bF,I6 4]) ?_ (by simp [AV.cP,AV.pure,dI,br iE]) hK;clear hK;refine F.AU ?_;rw [F.CB];simp only [cD (bU s),dr,aZ];have g0:(Heap.empty.alloc (.cells (ah s))).get 0=sC (ah s):=ak _ _;generalize (Heap.empty.alloc (.cells (ah s)))=H at g0 ⊢;have l0:=eM g0;simp only [l0,dr];refine af (eF hs ?_);rw [hv];simp only [aO,Bool.not_true,l0];refine af (wz hs ?_);rw [hj];simp only [aO,fh (show (-1:Int)<0 by omega)];exact eB rfl
theorem rM{rs:Sl aI}{all:ct}(x:eA rs N h s all dn)(h1:0<s.size)(hK:K (.ret bT) h=true):Sem TP 45 [.ptr N 0] h K:=by
 refine F.xz ?_;rw [F.yE];simp only [show qE (.pointer 78) (.ptr N 0) .eZ=some bT from rfl,show aJ (.ptr N 0)=some (.ptr N 0) from rfl,aO,x.size,fh h1];exact hK
theorem Yi(s:St):dz TP s Tryz.f14.results.toList=(match au (some 2) (s.env 2) s.h,(some []:Option (List AV)) with|some v,some vs=>some (v :: vs)|_,_=>none):=by kernel_rfl
theorem VD{rs:Sl aI}{all:ct}(x:eA rs N h s all dn)(h1:0<s.size)(hs:all.small)
  (hK:∀ (a':ct) h',aV h h'->a'.size=all.size->a'.aA.l.map bp=all.aA.l.map bp->K (.ret (.agg (ah a'))) h'=true):Sem TP 14 [.ptr N 0] h K:=by
 refine F.Ar ?_;rw [F.Bw];have x1:=x.ext (aV.alloc h (.cells [I6 0,.ai]));have g:(h.alloc (.cells [I6 0,.ai])).get h.next=sC [I6 0,.ai]:=ak _ _
 refine af (rM x1 h1 ?_);simp only [aO,Bool.not_true,show aJ (.ptr N 0)=some (.ptr N 0) from rfl,x1.all];refine af (Fm hs fun a' z1 z2=>?_)
 have st:aS 2 (.ptr h.next 0) (.agg (ah a')) (h.alloc (.cells [I6 0,.ai]))=some ((h.alloc (.cells [I6 0,.ai])).set h.next (.cells (ah a'))):=by
  rw [cj (n:=2) (v:=.agg (ah a')) g rfl (bU a') (by simp)];rfl
 have l1:au (some 2) (.ptr h.next 0) ((h.alloc (.cells [I6 0,.ai])).set h.next (.cells (ah a')))=some (.agg (ah a')):=by
  rw [aj (cs:=ah a') (by rw [Heap.aG,if_pos rfl]),jZ (cs:=ah a') (n:=2) rfl]
 simp only [aO,reduceEqDiff,reduceIte,st,Yi,l1];exact hK a' _ ((aV.alloc _ _).set (dK _) _) z1 z2
structure Aa where
 name:cc
 tuple:Sl Int
 C8:Bool
 to:Bool
def fU(c:Aa):List AV:=[.str c.name,dH c.tuple,.bool c.C8,.bool c.to]
theorem Et(c:Aa):(fU c).length=4:=rfl
theorem sU(c:Aa):aW (fU c)=true:=by unfold fU;simp only [aW,fS,Bool.and_true];rfl
inductive gL (N:Nat) (h:Heap):AV->List Aa->Prop
 |nil:gL N h .ai []
 |row (b:Nat) (l:List Aa) (cs:List AV):b≠N->b<h.next->h.get b=sC cs->l.length*4<=cs.length->cs.take (l.length*4)=l.flatMap fU->gL N h (.slice b 0 l.length 4) l
theorem gL.but{l:List Aa}(o:gL N h d l)(x:BS N h h'):gL N h' d l:=by
 cases o with
 |nil=>exact .nil
 |row b l cs h1 h2 h3 h4 h5=>exact .row b l cs h1 (Nat.lt_of_lt_of_le h2 x.next) (by rw [x.get b h2 h1];exact h3) h4 h5
theorem gL.ki{l:List Aa}(o:gL N h d l):d.dX = [d]/\aW [d]=true:=by cases o<;>exact ⟨rfl,rfl⟩
theorem gL.len{l:List Aa}(o:gL N h d l)(h':Heap):bK .slice d h'=some (I6 (l.length:Int)):=by cases o<;>rfl
theorem gL.push{l:List Aa}(o:gL N h d l)(hN:N<h.next)(hroom:l.length<=1000000)(c:Aa) :
  ∃ d' h',bB 4 48 d (.slice h.next 0 1 4) (h.alloc (.cells (fU c)))=some (d',h')/\gL N h' d' (l++[c])/\h.next<=h'.next/\(∀ b,b<h.next->bR d≠some b->h'.get b=h.get b):=by
 have hm:cz=140737488355328:=rfl;have g:=ak h (.cells (fU c));have hn:(h.alloc (.cells (fU c))).next=h.next+1:=Heap.aD h _
 have hf:gW 4 1 (.slice h.next 0 1 4) (h.alloc (.cells (fU c)))=some (fU c):=by
  simp only [gW,g];rfl
 cases o with
 |nil=>
  refine ⟨.slice (h.alloc (.cells (fU c))).next 0 1 4,(h.alloc (.cells (fU c))).alloc (.cells (fU c)),?_,?_,by rw [Heap.aD,hn];omega,fun b hb _=>by rw [Heap.aN,if_neg (by omega),Heap.aN,if_neg (by omega)]⟩
  ·simp only [bB,lJ,hf,sU,Bool.and_true];rw [if_neg (by omega),if_pos (by rw [hm];decide)]
  ·exact .row _ [c] (fU c) (by rw [hn];omega) (by simp only [Heap.aD];omega) (ak _ _) (by simp [fU]) (by simp [fU])
 |row b l cs h1 h2 h3 h4 h5=>
  have g2:(h.alloc (.cells (fU c))).get b=sC cs:=by rw [Heap.aN,if_neg (by omega)];exact h3
  have mS:((h.alloc (.cells (fU c))).set b .dead).next=h.next+1:=by rw [Heap.aT,hn]
  refine ⟨.slice (h.alloc (.cells (fU c))).next 0 (l.length+1) 4,((h.alloc (.cells (fU c))).set b .dead).alloc (.cells ((cs.drop 0).take (l.length*4)++fU c)),?_,?_,by rw [Heap.aD,mS];omega,fun b' hb hne=>?_⟩
  ·simp only [bB,lJ,hf,g2,sU,Bool.and_true];rw [if_pos True.intro,if_neg (by omega),if_pos (by rw [hm];simp only [and_eq_true,decide_eq_true_eq];omega)]
  ·have hcs:(cs.drop 0).take (l.length*4)++fU c=(l++[c]).flatMap fU:=by
    rw [drop_zero,h5,flatMap_append];simp
   have Nq:l.length+1=(l++[c]).length:=by simp
   rw [hcs,Nq];have TZ:((l++[c]).flatMap fU).length=(l++[c]).length*4:=eS Et _;refine .row _ (l++[c]) ((l++[c]).flatMap fU) (by rw [hn];omega) (by simp only [Heap.aD,Heap.aT];omega) ?_ (Nat.le_of_eq TZ.symm) (jD (Nat.le_of_eq TZ));rw [hn,<- mS];exact ak _ _
  ·rw [Heap.aN,if_neg (by omega),Heap.aG,if_neg (fun e=>hne (by rw [e];rfl)),Heap.aN,if_neg (by omega)]
theorem SC{B:Nat}{rs:Sl aI}{all:ct}(x:eA rs N h s all dn)(hb:h.get B=sC [.ptr N 0])(v:Int)(K:Out->Heap->Bool)(hK:K (.ret (.bool (II s.size v))) h=true):Sem TP 48 ([]++([I6 v]++[.ptr B 0])) h K:=by
 refine F.xG ?_;rw [F.yF];simp only [show aJ (.ptr N 0)=some (.ptr N 0) from rfl,aj hb,aO,x.size];unfold II at hK;by_cases h1:v<0<;>by_cases h2:s.size<=v<;>simpa [h1,h2] using hK
theorem aeL(nm:cc)(y:Sl Int)(a b:Bool):iP [.str [],.ai,bF,bF] [(0,1),(1,1),(2,1),(3,1)] [.str nm,dH y,.bool a,.bool b]=some (.agg (fU ⟨nm,y,a,b⟩)):=by cases y<;>rfl
theorem aeM(c:Aa):eN [.str [],.ai,bF,bF] [(0,4)] [.agg (fU c)]=some (fU c):=by
 obtain ⟨nm,y,a,b⟩:=c;cases y<;>rfl
structure ac3 (N:Nat) (dn:AV) (h h':Heap):Prop where
 next:h.next<=h'.next
 get:∀ b,b<h.next->b≠N->bR dn≠some b->h'.get b=h.get b
theorem VE{rs:Sl aI}{all:ct}{dl:List Aa}(x:eA rs N h s all dn)(od:gL N h dn dl)(hdl:dl.length<=1000000)(mP:∀ r ∈ rs.l,r.ok)(iX:∀ r ∈ rs.l,r.k8)(ho:dw rs.l s)(hp:kY rs.l s all)
  {t:Sl Int} (qv:t.l.length<=1000000)
  (h4:s.aA.l.find? (fe nm (t.l.length:Int))=none->∀ h',aV h h'->K (.ret (.tuple [.ai,.ai,I6 4])) h'=true)
  (h2:∀ r,s.aA.l.find? (fe nm (t.l.length:Int))=some r->jN s.size t.l=false->∀ h',aV h h'->K (.ret (.tuple [.ai,.ai,I6 2])) h'=true)
  (h0:∀ (j:Nat) (r:Rel),jh (fe nm (t.l.length:Int)) s.aA.l=(j:Int)->s.aA.l[j]?=some r->s.aA.l.find? (fe nm (t.l.length:Int))=some r->r.arity=(t.l.length:Int)->jN s.size t.l=true->∀ (s' wI:ct) h' EM (f g:Sl AG),mN s j r t.l is s'->dw rs.l s'->kY rs.l s' wI ->
   eA rs N h' s' wI EM->gL N h' EM (dl++[⟨nm,t,decide (t.l ∈ r.aM.l.map Sl.l),is⟩])->ac3 N dn h h'->(∀ b,bR EM=some b->h.next<=b) ->
   f.l.map rL=mC (wI.aA.l.map bp) (all.aA.l.map bp)->g.l.map rL=mC (all.aA.l.map bp) (wI.aA.l.map bp)->K (.ret (.tuple [TU f,TU g,I6 0])) h'=true) :
  Sem TP 15 [.ptr N 0,.str nm,dH t,.bool is] h K:=by
 have hv:=ho.valid;have oP:=(fO hv).2;have hbig:t.l.length<=cw:=by unfold cw;omega
 obtain ⟨n,hn,n1,_⟩:=iL hv;have AE:0<s.size:=by omega
 have hnc:∀ c o:Nat,aJ (.ptr c o)=some (.ptr c o):=fun _ _=>rfl;refine F.As ?_;rw [F.Bx];have g0:(h.alloc (.cells [.ptr N 0])).get h.next=sC [.ptr N 0]:=ak _ _
 have e1:aV h (h.alloc (.cells [.ptr N 0])):=aV.alloc _ _;have n1':(h.alloc (.cells [.ptr N 0])).next=h.next+1:=Heap.aD _ _
 simp only [pM (show (AV.ptr N 0).one=true from rfl),dr];generalize (h.alloc (.cells [.ptr N 0]))=H1 at g0 e1 n1' ⊢;have x1:=x.ext e1;have lk:=lA g0 0 rfl;simp only [lk,dr];refine af (rM x1 AE ?_);simp only [aO,Bool.not_true,lk,hnc,x1.base];rcases lP (fe nm (t.l.length:Int)) s.aA.l with ⟨w1,w2⟩|⟨j,r,w1,w2,w3⟩
 ·refine af (Ng oP hv w1 ?_);simp only [aO,cy,show decide ((4:Int)=0)=false from rfl,Bool.not_false];exact h4 w2 _ e1
 ·have VZ:fe nm (t.l.length:Int) r=true:=find?_some w3
  have Sd:r.arity=(t.l.length:Int):=by
   simp only [fe,and_eq_true,decide_eq_true_eq] at VZ;exact VZ.2
  refine af (Lx oP hv w1 w2 Sd hbig ?_);simp only [aO,cy,decide_true,Bool.not_true];refine af (vq hbig (g:=48) (a:=[]) (b:=[.ptr h.next 0]) (p:=II s.size) (fun v K' hK'=>SC x1 g0 v K' hK') ?_);have VQ:=Xz s.size t.l
  cases hin:jN s.size t.l with
  |false=>
   have ha:t.l.any (II s.size)=true:=by rw [hin] at VQ;cases hh:t.l.any (II s.size) with|true=>rfl|false=>rw [hh] at VQ;cases VQ
   rw [ha];simp only [aO];exact h2 r w3 hin _ e1
  |true=>
   have ha:t.l.any (II s.size)=false:=by rw [hin] at VQ;cases hh:t.l.any (II s.size) with|false=>rfl|true=>rw [hh] at VQ;cases VQ
   rw [ha];simp only [aO,lk,hnc,x1.done];refine af (Kj qv ?_);have od1:gL N H1 dn dl:=od.but (e1.but N);obtain ⟨d',H2,c1,o2,nx2,f2⟩:=od1.push (by have:=x1.lt;omega) hdl ⟨nm,t,decide (t.l ∈ r.aM.l.map Sl.l),is⟩
   have hdn:∀ b,bR dn=some b->b<h.next/\b≠N:=fun b hb=>by
    cases od with
    |nil=>cases hb
    |row c l cs q1 q2 _ _ _=>cases hb;exact ⟨q2,q1⟩
   have anS:∀ b,bR d'=some b->h.next<=b:=fun b hb=>by
    cases od1 with
    |nil=>
     have hm:cz=140737488355328:=rfl
     have:bR d'=some H1.next\/h.next<=b:=by
      right
      have hf:gW 4 1 (.slice H1.next 0 1 4) (H1.alloc (.cells (fU ⟨nm,t,decide (t.l ∈ r.aM.l.map Sl.l),is⟩)))=some (fU ⟨nm,t,decide (t.l ∈ r.aM.l.map Sl.l),is⟩):=by
       simp only [gW,ak];rfl
      simp only [bB,lJ,hf,sU,Bool.and_true] at c1;rw [if_neg (by omega),if_pos (by rw [hm];decide)] at c1;cases c1;have:(H1.alloc (.cells (fU ⟨nm,t,decide (t.l ∈ r.aM.l.map Sl.l),is⟩))).next=b:=by cases hb;rfl
      rw [Heap.aD] at this;omega
     rcases this with h|h
     ·rw [h] at hb;cases hb;omega
     ·exact h
    |row c l cs q1 q2 q3 q4 q5=>
     have hm:cz=140737488355328:=rfl
     have hf:gW 4 1 (.slice H1.next 0 1 4) (H1.alloc (.cells (fU ⟨nm,t,decide (t.l ∈ r.aM.l.map Sl.l),is⟩)))=some (fU ⟨nm,t,decide (t.l ∈ r.aM.l.map Sl.l),is⟩):=by
      simp only [gW,ak];rfl
     have g2:(H1.alloc (.cells (fU ⟨nm,t,decide (t.l ∈ r.aM.l.map Sl.l),is⟩))).get c=sC cs:=(by rw [Heap.aN,if_neg (by omega)];exact q3);simp only [bB,lJ,hf,g2,sU,Bool.and_true] at c1;rw [if_pos True.intro,if_neg (by omega),if_pos (by rw [hm];simp only [and_eq_true,decide_eq_true_eq];omega)] at c1;cases c1;have:(H1.alloc (.cells (fU ⟨nm,t,decide (t.l ∈ r.aM.l.map Sl.l),is⟩))).next=b:=by cases hb;rfl
     rw [Heap.aD] at this;omega
   have x2:eA rs N H2 s all dn:=x1.agree (f2 N x1.lt (fun hb=>(hdn N hb).2 rfl)) nx2;have g2:H2.get h.next=sC [.ptr N 0]:=by rw [f2 h.next (by omega) (fun hb=>by have:=(hdn _ hb).1;omega)];exact g0
   have lk2:=lA g2 0 rfl;obtain ⟨k1,k2⟩:=o2.ki;obtain ⟨st,x3⟩:=x2.TY k1 k2;have hNn:h.next≠N:=by have:=x.lt;omega
   have lk3:au none (.ptr h.next 0) (H2.set N (.cells (kG rs s all d')))=some (.ptr N 0):=by rw [aj (cs:=[.ptr N 0]) (by rw [Heap.aG,if_neg hNn];exact g2)];rfl
   have o3:gL N (H2.set N (.cells (kG rs s all d'))) d' (dl++[⟨nm,t,decide (t.l ∈ r.aM.l.map Sl.l),is⟩]):=o2.but ((aV.refl H2).but N |>.set _);simp only [aO,lk,x1.done,AV.beq_refl,Bool.and_self,if_true,aeL,aeM,c1,lk2,st,lk3];refine af (PW x3 mP iX ho hp w1 w2 Sd hin fun s' wI h' f g p1 p2 p3 p4 p5 p6 p7=>?_);simp only [aO];refine h0 j r w1 w2 w3 Sd hin s' wI h' d' f g p1 p2 p3 p4 (o3.but p5) ⟨?_,fun b hb hbN hbd=>?_⟩ anS p6 p7
   ·have:=p5.next;rw [Heap.aT] at this;omega
   ·rw [p5.get b (by rw [Heap.aT];omega) hbN,Heap.aG,if_neg hbN,f2 b (by omega) hbd,e1.get b hb]
theorem gL.last{l:List Aa}{c:Aa}(o:gL N h d (l++[c])):∃ b,d = .slice b 0 (l.length+1) 4/\jw 4 d (I6 ((l.length:Nat):Int))=some (.ptr b (l.length*4))/\au (some 4) (.ptr b (l.length*4)) h=some (.agg (fU c)) /\
  fR (some 4) d none (some (I6 ((l.length:Nat):Int)))=some (.slice b 0 l.length 4)/\gL N h (.slice b 0 l.length 4) l:=by
 generalize hm:l++[c]=m at o;have Vw:m.length=l.length+1:=by rw [<- hm];simp
 cases o with
 |nil=>simp at Vw
 |row b m cs h1 h2 h3 h4 h5=>
  have TZ:(l.flatMap fU).length=l.length*4:=eS Et l;have e5:cs.take ((l.length+1)*4)=l.flatMap fU++fU c:=by rw [<- Vw,h5,<- hm,flatMap_append];simp
  have hlen:(l.length+1)*4<=cs.length:=by rw [<- Vw];exact h4
  refine ⟨b,by rw [Vw],?_,?_,?_,?_⟩
  ·simp [jw,asNat,Vw]
  ·rw [aj h3];simp only [kQ];rw [if_pos (by omega)]
   have:(cs.drop (l.length*4)).take 4=fU c:=by
    have e6:(cs.take ((l.length+1)*4)).drop (l.length*4)=fU c:=(by rw [e5,<- TZ,drop_left]);rw [drop_take] at e6
    rwa [show (l.length+1)*4-l.length*4=4 by omega] at e6
   rw [this]
  ·simp [fR,lJ,pH,asNat,Vw]
  ·refine .row b l cs h1 h2 h3 (by omega) ?_;have:(cs.take ((l.length+1)*4)).take (l.length*4)=l.flatMap fU:=by rw [e5,<- TZ,take_left]
   rwa [take_take,Nat.min_eq_left (by omega)] at this
theorem Jd{rs:Sl aI}{all:ct}{dl:List Aa}(x:eA rs N h s all dn)(od:gL N h dn dl)(hdl:dl.length<=1000000)(mP:∀ r ∈ rs.l,r.ok)(iX:∀ r ∈ rs.l,r.k8)(ho:dw rs.l s)(hp:kY rs.l s all)
  (h6:dl = []->K (.ret (I6 6)) h=true)
  (h0:∀ (l:List Aa) (c:Aa),dl=l++[c]->∃ (j:Nat) (r:Rel),jh (fe c.name (c.tuple.l.length:Int)) s.aA.l=(j:Int)/\s.aA.l[j]?=some r/\r.arity=(c.tuple.l.length:Int)/\jN s.size c.tuple.l=true /\
   ∀ (s' wI:ct) h' EM,mN s j r c.tuple.l c.C8 s'->dw rs.l s'->kY rs.l s' wI->eA rs N h' s' wI EM->gL N h' EM l->BS N h h'->(∀ b,bR EM=some b->bR dn=some b)->K (.ret (I6 0)) h'=true) :
  Sem TP 22 [.ptr N 0] h K:=by
 have hv:=ho.valid;obtain ⟨n,hn,n1,_⟩:=iL hv;have AE:0<s.size:=by omega
 have hnc:∀ c o:Nat,aJ (.ptr c o)=some (.ptr c o):=fun _ _=>rfl;refine F.yA ?_;rw [F.Au];refine af (rM x AE ?_);simp only [aO,Bool.not_true,hnc,x.done,od.len];rcases eq_nil_or_concat dl with rfl|⟨l,c,rfl⟩
 ·simp only [length_nil,Int.ofNat_zero,beq_self_eq_true,aO];exact h6 rfl
 ·rw [concat_eq_append] at od hdl h0 ⊢;obtain ⟨b,rfl,i1,i2,i3,i4⟩:=od.last;have Nq:(l++[c]).length=l.length+1:=by simp
  have hne:((((l++[c]).length:Nat):Int)==0)=false:=by rw [Nq];simp;omega
  have hpr:aF .sub (I6 (((l++[c]).length:Nat):Int)) (I6 1)=some (I6 ((l.length:Nat):Int)):=by
   rw [Nq,OG (by omega) (by rw [Nq] at hdl;unfold cw;omega)];rfl
  simp only [hne,aO,hpr,i1,i2];obtain ⟨H1,BB,p1,po1,pn1⟩:=cA (h:=h) (zs:=[.str [],.ai,bF,bF]) (cs:=fU c) (n:=4) rfl rfl (sU c);have e1:aV h H1:=⟨by omega,fun b hb=>po1 b (by omega)⟩
  have x1:=x.ext e1;have od1:=od.but (e1.but N);have i4':=i4.but (e1.but N);obtain ⟨k1,k2⟩:=i4'.ki;obtain ⟨st,x2⟩:=x1.TY k1 k2;have hNn:h.next≠N:=by have:=x.lt;omega
  have g2:(H1.set N (.cells (kG rs s all (.slice b 0 l.length 4)))).get h.next=sC (fU c):=by rw [Heap.aG,if_neg hNn];exact p1
  have f0:au none (.ptr h.next 0) (H1.set N (.cells (kG rs s all (.slice b 0 l.length 4))))=some (.str c.name):=by rw [aj g2];rfl
  have f1:au none (.ptr h.next 1) (H1.set N (.cells (kG rs s all (.slice b 0 l.length 4))))=some (dH c.tuple):=by rw [aj g2];rfl
  have f2:au none (.ptr h.next 2) (H1.set N (.cells (kG rs s all (.slice b 0 l.length 4))))=some (.bool c.C8):=by rw [aj g2];rfl
  simp only [aO,BB,x1.done,od1.len,hpr,i3,st,f0,f1,f2];obtain ⟨j,r,w1,w2,w3,w4,fin⟩:=h0 l c rfl;refine af (PW x2 mP iX ho hp w1 w2 w3 w4 fun s' wI h' f g q1 q2 q3 q4 q5 _ _=>?_);simp only [aO];have b2:BS N h (H1.set N (.cells (kG rs s all (.slice b 0 l.length 4)))):=(e1.but N).set _;have b3:=b2.trans q5;exact fin s' wI h' _ q1 q2 q3 q4 (i4.but b3) b3 (fun _ hb=>hb)
theorem Je{α:Type}{enc:α->List AV}(h1:∀ a,aW (enc a)=true):∀ l:List α,aW (l.flatMap enc)=true
 |[]=>rfl
 |a :: l=>by
  rw [flatMap_cons];have ha:=h1 a;have hl:=Je h1 l;generalize enc a=x at ha
  induction x with
  |nil=>exact hl
  |cons v x ih=>
   simp only [aW,and_eq_true,cons_append] at ha ⊢;exact ⟨ha.1,ih ha.2⟩
theorem VF{enc:α->List AV}(he:∀ a,(enc a).length=1)(h1:∀ a,aW (enc a)=true){src:AV}{l:List α}(r:Row enc 1 (h.alloc (.cells [])) src l)(hl:l.length*bytes<=cz) :
  ∃ b h',bB 1 bytes (.slice h.next 0 0 1) src (h.alloc (.cells []))=some (.slice b 0 l.length 1,h')/\h'.get b=sC (l.flatMap enc)/\aV h h':=by
 have g:(h.alloc (.cells [])).get h.next=sC []:=ak _ _
 have rc:=r.cells;by_cases hz:l.length=0
 ·have:l = []:=eq_nil_of_length_eq_zero hz;subst this;refine ⟨h.next,h.alloc (.cells []),?_,g,aV.alloc _ _⟩;simp only [length_nil] at rc;simp [bB,r.len,rc]
 ·refine ⟨h.next+1,((h.alloc (.cells [])).set h.next .dead).alloc (.cells (l.flatMap enc)),?_,?_,?_⟩
  ·simp only [bB,r.len,rc,if_true,if_neg hz,g];rw [if_pos (by simp [Je h1];omega)];simp [Heap.aD]
  ·have:=ak ((h.alloc (.cells [])).set h.next .dead) (.cells (l.flatMap enc))
   rwa [Heap.aT,Heap.aD] at this
  ·exact ((aV.alloc h (.cells [])).set (dK _) _).trans (aV.alloc _ _)
theorem abu{enc:α->List AV}(hp:∀ a,AV.cP (enc a)=true){l:List α}{b:Nat}(hb:h.get b=sC (l.flatMap enc)):Fz true h (.slice b 0 l.length sz) (dR enc sz (some l)):=by
 have sF:AV.cP (l.flatMap enc)=true:=by
  have:=br (sz:=sz) hp (some l);simpa [dR,AV.pure] using this
 have:j8 true h (l.flatMap enc) (l.flatMap enc):=.de sF;exact .slice b 0 l.length sz _ _ hb this.len this.rel
theorem A7{t:Sl cc}(ht:t.l.length<=1000000)(hK:K (.ret (iz t)) h=true):Sem TP 117 [iz t] h K:=by
 have hm:cz=140737488355328:=rfl
 have main:Sem TP 117 [iz t] Heap.empty (fun o h'=>yes (∃ v,o = .ret v/\Fz true h' v (iz t))):=by
  refine F.pQ ?_;rw [F.qq];simp only [MT,aO]
  cases t with
  |none=>simp only [aL];exact bO.2 ⟨_,rfl,.de rfl⟩
  |some l=>
   obtain ⟨b,h',a1,a2,_⟩:=VF (bytes:=16) (fun _=>rfl) (fun _=>rfl) (wk (enc:=encS) (fun _=>rfl) (some l) (Heap.empty.alloc (.cells []))) (by have h2:l.length<=1000000:=ht;show l.length*16<=cz;omega);simp only [aK,sO,dr,a1,gO];exact bO.2 ⟨_,rfl,abu jc a2⟩
 refine main.frozen (by simp [AV.cP,br jc]) fun o h' ho=>?_;obtain ⟨v,rfl,hf⟩:=bO.1 ho;exact ⟨v,_,rfl,hf,hK⟩
def nb(b:Sl fT):Sl fT:=if b.l = [] then none else some b.l
theorem anT(b:Sl fT):(nb b).l=b.l:=by
 unfold nb;split
 ·rename_i h;rw [h];rfl
 ·rfl
def iN(r:aI):aI:=⟨r.name,r.args,nb r.body⟩
abbrev RuV:=cc×Sl cc×Ph
def qi(r:RuV):List AV:=[.str r.1,iz r.2.1,r.2.2.1]
theorem Jf(r:RuV):(qi r).length=3:=rfl
theorem Jg(r:RuV):aW (qi r)=true:=by
 have:=r.2.2.2.1;unfold qi;simp only [aW,fS,Bool.and_true,Bool.true_and] at this ⊢;rw [this];rfl
theorem abv(r:RuV):eN [.str [],.ai,.ai] [(0,3)] [.agg (qi r)]=some (qi r):=by
 have ho:=Jg r
 have hf:sY [.str [],.ai,.ai] [(0,3)] [.agg (qi r)]=some (qi r):=by
  have hc:AV.dX (.agg (qi r))=qi r:=rfl;have hp:eW [.str [],.ai,.ai] 0 (qi r)=qi r:=rfl;simp only [sY,hc,hp,ho,Jf];rfl
 unfold eN;rw [hf];simp only [ho,if_true]
theorem aeN(c:fT):eN [I6 0,bF,.str [],.ai] [(0,4)] [.agg (dZ c)]=some (dZ c):=by
 obtain ⟨k,n,nm,xs⟩:=c;cases xs<;>rfl
theorem aeO(nm:cc)(xs:Sl cc):iP [.str [],.ai] [(0,1),(1,1)] [.str nm,iz xs]=some (.agg (lF nm xs)):=by cases xs<;>rfl
theorem aeP(nm:cc)(xs:Sl cc):iP [.str [],.ai,.ai] [(0,2)] [.agg (lF nm xs)]=some (.agg [.str nm,iz xs,.ai]):=by cases xs<;>rfl
theorem aj7{xs:Sl cc}{v:Ph}{x:Sl fT}(hf:Fz true h v.1 (uE x)):j8 true h (qi (nm,xs,v)) (bY ⟨nm,xs,x⟩):=
 .cons (.scalar _ rfl) (.cons (.de (br jc xs)) (.cons hf .nil))
theorem dF{rules:Sl aI}(uo:rules.l.length<=60)(hsz:∀ r ∈ rules.l,r.args.l.length<=1000000/\r.body.l.length<=1000000/\∀ c ∈ r.body.l,c.args.l.length<=1000000){h:Heap}{K:Out->Heap->Bool}
  (hK:∀ x:Sl aI,x.l=rules.l.map iN->K (.ret (gm x)) h=true):Sem TP 73 [gm rules] h K:=by
 have hm:cz=140737488355328:=rfl;have hbig:rules.l.length<=cw:=by unfold cw;omega
 have main:Sem TP 73 [gm rules] Heap.empty (fun o h'=>yes (∃ v,∃ x:Sl aI,o = .ret v/\x.l=rules.l.map iN/\Fz true h' v (gm x))):=by
  refine F.F5 ?_;rw [F.Ik];simp only [aO]
  refine aB 0 rules.l.length (zero_le _) (fun i e h'=>∃ a l,kX (fun _=>False) qi bY 3 0 h' a l/\(l.map (·.2))=(rules.l.take i).map iN/\e 3=a/\e 9=gm rules/\e 10=I6 (rules.l.length:Int)/\e 11=I6 (i:Int))
   ⟨_,[],.nil,rfl,rfl,rfl,rfl,rfl⟩ ?_ ?_
  ·rintro i e h' _ hi ⟨a,l,o,hl,e3,e9,iJ,l9⟩ K' hn gl hr hp;obtain ⟨r,hv⟩:=dM hi;have kW:=ij hv;obtain ⟨z1,z2,z3⟩:=hsz r kW;have A3:r.body.l.length<=cw:=by unfold cw;omega
   have Nq:l.length=i:=by have:=congrArg List.length hl;rw [length_map,length_map,length_take,Nat.min_eq_left (by omega)] at this;exact this
   obtain ⟨H3,S5,p3,XF,pn3⟩:=cA (h:=h') (zs:=[.str [],.ai,.ai]) (cs:=bY r) (n:=3) rfl rfl (kr r);have l0:=lA p3 0 rfl;have l1:=lA p3 1 rfl;have l0':au none (.ptr h'.next 0) (H3.alloc (.cells [.str [],.ai,.ai]))=some (.str r.name):=by rw [aj (cs:=bY r) (by rw [Heap.aN,if_neg (by omega)];exact p3)];rfl
   obtain ⟨H4,VY,p4,RV,pn4⟩:=cA (h:=H3) (zs:=[.str [],.ai,.ai]) (cs:=[.str r.name,iz r.args,.ai]) (n:=3) rfl rfl (by simp only [aW,fS,Bool.and_true];rfl);have x4:aV h' H4:=⟨by omega,fun b hb=>by rw [RV b (by omega),XF b (by omega)]⟩
   have l2:au none (.ptr h'.next 2) H4=some (uE r.body):=by rw [aj (show H4.get h'.next=sC (bY r) by rw [RV _ (by omega)];exact p3)];rfl
   rw [F.dF.aP];simp only [e9,iJ,l9,aO,aU hi,aQ rules hi,dB fo hv,S5];simp only [aO,l0,l1];refine af (A7 z1 ?_);simp only [aO,l0',AV.beq_refl,Bool.and_self,if_true,aeO,aeP,VY,l2];rw [pn3] at p4 VY RV pn4 ⊢
   refine aB 0 r.body.l.length (zero_le _) (fun j e h2=>∃ bv bs,h2.get (h'.next+1)=sC [.str r.name,iz r.args,bv]/\Own dZ 4 (h'.next+2) h2 bv bs/\(bs = []->bv = .ai)/\bs=r.body.l.take j/\aV h' h2/\h'.next+2<=h2.next /\
    e 3=a/\e 9=gm rules/\e 10=I6 (rules.l.length:Int)/\e 11=I6 (i:Int)/\e 6 = .ptr (h'.next+1) 0/\e 25=uE r.body/\e 26=I6 (r.body.l.length:Int)/\e 27=I6 (j:Int))
    ⟨_,[],p4,.nil,fun _=>rfl,rfl,x4,by omega,e3,e9,iJ,l9,rfl,rfl,rfl,rfl⟩ ?_ ?_
   ·rintro j e h2 _ hj ⟨bv,bs,q6,ob,QO,hbs,x2,XG,e3,e9,iJ,l9,e6,RX,A4,BX⟩ K2 uR fK r7 Ay;obtain ⟨c,hvc⟩:=dM hj;have YK:bs.length=j:=by rw [hbs,length_take,Nat.min_eq_left (by omega)]
    obtain ⟨H5,hs5,p5,po5,pn5⟩:=cA (h:=h2) (zs:=[I6 0,bF,.str [],.ai]) (cs:=dZ c) (n:=4) rfl rfl (jP c);have l5:=lA p5 3 rfl;have hca:(iz c.args).dX = [iz c.args]:=by cases c.args<;>rfl
    have hco:aW [iz c.args]=true:=by simp only [aW,fS,Bool.and_true]
    have st5:aS 1 (.ptr h2.next 3) (iz c.args) H5=some (H5.set h2.next (.cells (dZ c))):=by
     rw [cj (n:=1) p5 (by rw [hca];rfl) (by rw [hca];exact hco) (by simp [dZ]),hca];rfl
    have n6:(H5.set h2.next (.cells (dZ c))).next=h2.next+1:=by rw [Heap.aT];exact pn5
    have g6:(H5.set h2.next (.cells (dZ c))).get h2.next=sC (dZ c):=by rw [Heap.aG,if_pos rfl]
    have f6:∀ b,b<h2.next->(H5.set h2.next (.cells (dZ c))).get b=h2.get b:=fun b hb=>by rw [Heap.aG,if_neg (by omega),po5 b (by omega)]
    have x6:aV h2 (H5.set h2.next (.cells (dZ c))):=⟨by omega,f6⟩
    rw [F.dF.cU];simp only [RX,A4,BX,aO,reduceAdd,aU hj,aQ r.body hj,dB jO hvc,hs5,l5];refine af (A7 (z3 c (ij hvc)) ?_);simp only [aO,st5,e6];generalize (H5.set h2.next (.cells (dZ c)))=H6 at n6 g6 f6 x6 ⊢;have q6':H6.get (h'.next+1)=sC [.str r.name,iz r.args,bv]:=by rw [f6 _ (by omega)];exact q6
    have lb:au none (.ptr (h'.next+1) 2) H6=some bv:=(by rw [aj q6'];rfl);have lc:au (some 4) (.ptr h2.next 0) H6=some (.agg (dZ c)):=by rw [aj g6,jZ (cs:=dZ c) (n:=4) rfl]
    obtain ⟨a5,h5,c5,o5,f5,n5,w5,b5⟩:=(ob.ext x6).push jO jP (by omega) (bytes:=56) (by rw [hm];omega) c;have hne:bR bv≠some (h'.next+1):=fun hb=>by have:=ob.ge hb;omega
    have s6:h5.get (h'.next+1)=sC [.str r.name,iz r.args,bv]:=(by rw [f5 _ (by omega) hne];exact q6');have c6:=o5.ki
    have st:aS 1 (.ptr (h'.next+1) 2) a5 h5=some (h5.set (h'.next+1) (.cells [.str r.name,iz r.args,a5])):=by
     rw [cj (n:=1) s6 c6.2.1 c6.1 (by simp),c6.2.2];rfl
    simp only [aO,lb,lc,aeN,c5,st,aE hj A3];refine uR _ _ ⟨a5,bs++[c],by rw [Heap.aG,if_pos rfl],o5.mK (by omega) _,fun h=>absurd (congrArg List.length h) (by simp),by rw [hbs,take_add_one,hvc];rfl,(w5 h' (x2.trans x6) (by omega)).set (by omega) _,by rw [Heap.aT];omega,e3,e9,iJ,l9,e6,RX,A4,rfl⟩
   ·rintro e h2 ⟨bv,bs,q6,ob,QO,hbs,x2,XG,e3,e9,iJ,l9,e6,RX,A4,BX⟩ K2 fK;rw [jD (dK _)] at hbs;subst hbs;have o2:=o.ext x2;obtain ⟨AB,MU⟩:=mR ob;have lq:au (some 3) (.ptr (h'.next+1) 0) h2=some (.agg (qi (r.name,r.args,⟨bv,AB,MU⟩))):=by rw [aj q6];rfl
    obtain ⟨x,jM,BY⟩:=(kX.y9 ob BA).data;have BV:x.l=r.body.l:=by rw [jM,List.map_map];simp [Function.comp_def]
    obtain ⟨y,hy⟩:∃ y:Sl fT,y=nb r.body:=⟨_,rfl⟩
    have hfy:∀ g:Heap,(∀ b,h'.next+2<=b->b<h2.next->g.get b=h2.get b)->Fz true g bv (uE y):=fun g hg=>by
     by_cases hz:r.body.l = []
     ·rw [QO hz,hy];have:nb r.body=none:=by unfold nb;rw [if_pos hz]
      rw [this];exact .de rfl
     ·have hyx:y=x:=by
       rw [hy];unfold nb;rw [if_neg hz]
       cases x with
       |none=>exact absurd BV.symm hz
       |some m=>rw [<- BV];rfl
      rw [hyx];exact BY g fun b b1 b2 _=>hg b b1 b2
    obtain ⟨a5,h5,c5,o5,f5,n5,w5,b5⟩:=o2.push Jf Jg (zero_le _) (bytes:=64) (by rw [hm];omega) (r.name,r.args,⟨bv,AB,MU⟩) ⟨r.name,r.args,y⟩ (fun _ h=>h.elim)
     (fun g hg=>aj7 (hfy g fun b b1 b2=>hg b (zero_le _) b2 (fun h=>h) (fun hb=>by have:=o.own.lt hb;omega)))
    rw [F.dF.cU];simp only [A4,BX,aO,reduceAdd,aR];rw [fK,F.dF.cm];simp only [aO,reduceEqDiff,reduceIte,e3,e6,l9,lq,abv,c5,aE hi hbig];refine hn _ _ ⟨a5,_,o5,?_,rfl,e9,iJ,rfl⟩;rw [map_append,hl,take_add_one,hv,map_append,hy];rfl
  ·rintro e h' ⟨a,l,o,hl,e3,e9,iJ,l9⟩ K' gl;rw [F.dF.aP];simp only [iJ,l9,aO,aR];rw [gl,F.dF.aC];simp only [kC,reduceEqDiff,reduceIte,e3];rw [jD (dK _)] at hl;obtain ⟨x,x1,x2⟩:=o.fz;exact bO.2 ⟨a,x,rfl,by rw [x1,hl],x2⟩
 refine main.frozen (by simp [AV.cP,br fN]) fun o h' ho=>?_;obtain ⟨v,x,rfl,h1,h2⟩:=bO.1 ho;exact ⟨_,_,rfl,h2,hK x h1⟩
theorem vC(r:aI):(iN r).name=r.name:=rfl
theorem qY(r:aI):(iN r).args=r.args:=rfl
theorem pq(r:aI):(iN r).body.l=r.body.l:=anT r.body
theorem sV(r:aI):varsOf (iN r)=varsOf r:=by unfold varsOf;rw [qY,pq]
theorem abw(h:r.ok):(iN r).ok:=by
 unfold aI.ok at h ⊢;rw [vC,qY,pq];exact h
theorem Yj(h:r.k8):(iN r).k8:=by
 unfold aI.k8 at h ⊢;rw [qY,pq];exact h
theorem Nh:∀ (rs:List aI) (m:gq),dQ (rs.map iN) m=dQ rs m
 |[],m=>rfl
 |r :: rs,m=>by
  rw [map_cons];unfold dQ;rw [vC,qY,pq,sV];have ih:=Nh rs;simp only [ih]
theorem BT(rs:List aI):bC (rs.map iN)=bC rs:=by unfold bC;rw [List.map_map];rfl
theorem Jh{β:Type}{f g:α->List β}(h:∀ a,f a=g a)(l:List α):l.flatMap f=l.flatMap g:=by rw [funext h]
theorem SD(hs:List cc)(rs:List aI):mq hs (rs.map iN)=mq hs rs:=by
 unfold mq;rw [flatMap_map];refine Jh (fun r=>?_) _;rw [pq];rfl
theorem rN(rs:List aI):b6 (rs.map iN)=b6 rs:=by unfold b6;rw [BT,SD]
theorem SE(rs:List aI):cT (rs.map iN)=cT rs:=by
 unfold cT;rw [flatMap_map];refine Jh (fun r=>?_) _;unfold yU;rw [vC,qY,pq]
theorem LF(rs:List aI):cZ (rs.map iN)=cZ rs:=by unfold cZ;rw [foldl_map];rfl
theorem PX(rs:List aI)(nm:cc):ke (rs.map iN) nm=ke rs nm:=by
 unfold ke;rw [find?_map];have:((fun r:aI=>r.name==nm)∘iN)=fun r=>r.name==nm:=rfl;rw [this];cases rs.find? (fun r=>r.name==nm)<;>rfl
theorem LG:nk (rs.map iN)↔nk rs:=by
 constructor
 ·rintro ⟨a,b,c⟩;rw [Nh] at b;rw [rN] at c;exact ⟨by simpa using a,b,c⟩
 ·rintro ⟨a,b,c⟩;exact ⟨by simpa using a,by rw [Nh];exact b,by rw [rN];exact c⟩
theorem PY:Qs (rs.map iN) s↔Qs rs s:=by unfold Qs;rw [SE,BT]
theorem PZ:TG (rs.map iN) s↔TG rs s:=by
 unfold TG;rw [LF]
 have e:∀ p:aI->Prop,(∀ r,p (iN r)↔p r)->((∃ r ∈ rs.map iN,p r)↔∃ r ∈ rs,p r):=fun p hp=>by
  constructor
  ·rintro ⟨r,hr,h⟩;obtain ⟨q,hq,rfl⟩:=mem_map.1 hr;exact ⟨q,hq,(hp q).1 h⟩
  ·rintro ⟨r,hr,h⟩;exact ⟨iN r,List.mem_map_of_mem hr,(hp r).2 h⟩
 rw [e (fun r=>4096<s.size.toNat ^ r.args.l.length) (fun r=>Iff.rfl),e (fun r=>65536<s.size.toNat ^ (varsOf r).length) (fun r=>by rw [sV])]
theorem LH:dw (rs.map iN) s↔dw rs s:=
 ⟨fun h=>⟨LG.1 h.iD,h.valid,fun x=>h.names (PY.2 x),fun x=>h.wY (PZ.2 x)⟩,
  fun h=>⟨LG.2 h.iD,h.valid,fun x=>h.names (PY.1 x),fun x=>h.wY (PZ.1 x)⟩⟩
theorem SF(lv:fJ.Lv)(rs:List aI)(l:Nat):fW lv (rs.map iN) l=(fW lv rs l).map iN:=by
 unfold fW;rw [List.filter_map];rfl
theorem ux:lf n (rs.map iN) L↔lf n rs L:=by
 unfold lf AD lK jK bH;simp only [mem_map,forall_exists_index,and_imp,forall_apply_eq_imp_iff₂,sV,pq,vC,qY]
theorem Ab{C:Lk}:Over (rs.map iN) L C↔Over rs L C:=by
 constructor
 ·rintro ⟨a,b⟩;exact ⟨a,fun nm hn=>b nm fun r hr=>by obtain ⟨q,hq,rfl⟩:=mem_map.1 hr;exact hn q hq⟩
 ·rintro ⟨a,b⟩;exact ⟨a,fun nm hn=>b nm fun r hr=>hn (iN r) (List.mem_map_of_mem hr)⟩
theorem SG{C:Lk}:rq n (rs.map iN) L C↔rq n rs L C:=
 ⟨fun h=>⟨Ab.1 h.over,ux.1 h.closed,fun C o c=>h.least C (Ab.2 o) (ux.2 c)⟩,
  fun h=>⟨Ab.2 h.over,ux.2 h.closed,fun C o c=>h.least C (Ab.1 o) (ux.1 c)⟩⟩
theorem Ji{n:Nat}{rs:List aI}{lv:fJ.Lv}{L0:Lk}:∀ {l:Nat} {A:Lk},p9 n rs lv L0 l A->p9 n (rs.map iN) lv L0 l A
 |0,A,h=>by cases h;exact .zero
 |l+1,A,h=>by
  cases h with
  |succ l L L' h1 h2=>exact .succ l L A (Ji h1) (by rw [SF];exact SG.2 h2)
theorem SH{F:Lk}(h:mM rs n s F):mM (rs.map iN) n s F:=by
 obtain ⟨k,t,h1,h2,h3⟩:=h;refine ⟨k,t,by rw [rN];exact h1,fun r hr=>?_,by rw [rN];exact Ji h3⟩;obtain ⟨q,hq,rfl⟩:=mem_map.1 hr;rw [rN];exact h2 q hq
theorem P0(h:kY rs s out):kY (rs.map iN) s out:=by
 obtain ⟨hz,F,f1,f2⟩:=h;refine ⟨hz,F,SH f1,?_⟩;rw [f2,LF];unfold qd;simp only [PX]
theorem kY.Ni{t:ct}(h:kY rs s out)(hz:t.size=s.size)(hd:t.aA.l.map bp=s.aA.l.map bp):kY rs t out:=by
 obtain ⟨z,F,f1,f2⟩:=h;refine ⟨by rw [z,hz],F,?_,by rw [hz,hd];exact f2⟩;rw [hz];unfold mM at f1 ⊢
 rwa [BR hd]
theorem dw.Ni{t:ct}(h:dw rs s)(hz:t.size=s.size)(hd:t.aA.l.map bp=s.aA.l.map bp):dw rs t:=by
 refine Jb h ?_ hz (by rw [hd]);rw [iM,hz,hd];exact iM.1 h.valid
theorem Yk(x:Sl aI)(s all:ct):iP [.ai,I6 0,.ai,I6 0,.ai,.ai] [(0,1),(1,2),(3,2),(5,1)] [gm x,.agg (ah s),.agg (ah all),.ai]=some (.agg (kG x s all .ai)):=by
 obtain ⟨z,r⟩:=s;obtain ⟨z2,r2⟩:=all;cases x<;>cases r<;>cases r2<;>rfl
theorem Yl(x:Sl aI)(s all:ct):aW (kG x s all .ai)=true:=by unfold kG;simp only [aW,fS,Bool.and_true];rfl
theorem Ym{rules:Sl aI}(mP:∀ r ∈ rules.l,r.ok)(iX:∀ r ∈ rules.l,r.k8)(oP:s.ok)
  (X0:∀ e,Em rules.l s e->∀ h',aV h h'->K (.ret (.tuple [.eZ,I6 e])) h'=true)
  (DY:dw rules.l s->∀ (x:Sl aI) (s' all:ct) N h',x.l=rules.l.map iN->s'.size=s.size->s'.aA.l.map bp=s.aA.l.map bp->dw x.l s'->kY x.l s' all->eA x N h' s' all .ai->aV h h'->h.next<=N->K (.ret (.tuple [.ptr N 0,I6 0])) h'=true) :
  Sem TP 26 [gm rules,.agg (ah s)] h K:=by
 refine F.MB ?_;rw [F.OA];simp only [cD (bU s),dr];have g0:(h.alloc (.cells (ah s))).get h.next=sC (ah s):=ak _ _
 have e0:aV h (h.alloc (.cells (ah s))):=aV.alloc _ _;have n0:(h.alloc (.cells (ah s))).next=h.next+1:=Heap.aD _ _
 generalize (h.alloc (.cells (ah s)))=H at g0 e0 n0 ⊢;have l0:=eM g0;simp only [l0,dr];refine af (eC mP iX oP (fun hv=>(fO hv).1) (fun e he=>?_) fun ho out hz hx=>?_)
 ·obtain ⟨H1,BB,p1,po1,pn1⟩:=cA (h:=H) (zs:=[I6 0,.ai]) (cs:=ah ⟨0,none⟩) (n:=2) rfl rfl rfl;simp only [aO,BB,cy,eR (C7 he).1,Bool.not_false];exact X0 e he _ (e0.trans ⟨by omega,fun b hb=>po1 b (by omega)⟩)
 ·have hrun:kY rules.l s out:=⟨hz,hx⟩
  obtain ⟨H1,BB,p1,po1,pn1⟩:=cA (h:=H) (zs:=[I6 0,.ai]) (cs:=ah out) (n:=2) rfl rfl (bU out);have e1:aV H H1:=⟨by omega,fun b hb=>po1 b (by omega)⟩
  have l1:au (some 2) (.ptr h.next 0) H1=some (.agg (ah s)):=eM (by rw [po1 _ (by omega)];exact g0);have l2:=eM p1;simp only [aO,BB,cy,decide_true,Bool.not_true,l1,l2];refine af (dF ho.iD.k8 (fun r hr=>?_) fun x fK=>?_)
  ·obtain ⟨f1,f2,f3⟩:=iX r hr;exact ⟨by omega,by omega,fun c hc=>by have:=f3 c hc;omega⟩
  simp only [aO,l1,l2,AV.beq_refl,Bool.and_self,if_true];refine af (Fm (fO ho.valid).1 fun s' z1 z2=>?_);have hxo:dw x.l s':=by rw [fK];exact (LH.2 ho).Ni z1 z2
  have hxr:kY x.l s' out:=by rw [fK];exact (P0 hrun).Ni z1 z2
  simp only [aO,l2,AV.beq_refl,Bool.and_self,if_true,Yk,cD (Yl x s' out)];exact DY ho x s' out H1.next _ fK z1 z2 hxo hxr ⟨by rw [Heap.aD];omega,ak _ _⟩ ((e0.trans e1).trans (aV.alloc _ _)) (by omega)
theorem VG{a b:List Int}{l m:List (List Int)}(h1:ji (a :: l))(h2:ji (b :: m))(h:∀ u,u ∈ a :: l↔u ∈ b :: m):a=b:=by
 have p1:=pairwise_cons.1 h1;have p2:=pairwise_cons.1 h2;rcases mem_cons.1 ((h a).1 mem_cons_self) with e|e
 ·exact e
 ·rcases mem_cons.1 ((h b).2 mem_cons_self) with f|f
  ·exact f.symm
  ·have:=lQ (p2.1 a e) (p1.1 b f);rw [j5] at this;cases this
theorem zk:∀ {l m:List (List Int)},ji l->ji m->(∀ u,u ∈ l↔u ∈ m)->l=m
 |[],[],_,_,_=>rfl
 |a :: l,[],_,_,h=>absurd ((h a).1 mem_cons_self) (by simp)
 |[],b :: m,_,_,h=>absurd ((h b).2 mem_cons_self) (by simp)
 |a :: l,b :: m,h1,h2,h=>by
  obtain rfl:=VG h1 h2 h;have p1:=pairwise_cons.1 h1;have p2:=pairwise_cons.1 h2
  have:l=m:=zk p1.2 p2.2 fun u=>by
   constructor
   ·intro hu;rcases mem_cons.1 ((h u).1 (mem_cons_of_mem _ hu)) with e|e
    ·subst e;have:=p1.1 u hu;rw [j5] at this;cases this
    ·exact e
   ·intro hu;rcases mem_cons.1 ((h u).2 (mem_cons_of_mem _ hu)) with e|e
    ·subst e;have:=p2.1 u hu;rw [j5] at this;cases this
    ·exact e
  rw [this]
structure Kk (L:List (List Int)) (t:List Int) (is:Bool) (L':List (List Int)):Prop where
 sort:ji L'
 mem:∀ u,u ∈ L'↔(u ∈ L/\u≠t)\/(is=true/\u=t)
theorem Kk.det{L A B:List (List Int)}(a:Kk L t is A)(b:Kk L t is B):A=B:=
 zk a.sort b.sort fun u=>by rw [a.mem,b.mem]
theorem Kk.Yn{L A B:List (List Int)}{C8:Bool}(hs:ji L)(hw:C8=true↔t ∈ L)(a:Kk L t is A)(b:Kk A t C8 B):B=L:=
 zk b.sort hs fun u=>by
  rw [b.mem,a.mem,hw];constructor
  ·rintro (⟨(⟨h,_⟩|⟨_,h⟩),hn⟩|⟨h,rfl⟩)
   ·exact h
   ·exact absurd h hn
   ·exact h
  ·intro h;by_cases e:u=t
   ·exact .inr ⟨by rw [<- e];exact h,e⟩
   ·exact .inl ⟨.inl ⟨h,e⟩,e⟩
theorem mN.list{r:Rel}(hp:mN s j r t is s'):∃ L,Kk (r.aM.l.map Sl.l) t is L/\s'.aA.l.map bp=(s.aA.l.map bp).set j (r.name,r.arity,L):=by
 obtain ⟨ts,h1,h2,h3⟩:=hp.aA;exact ⟨ts,⟨h1,h2⟩,h3⟩
theorem mN.at{s s':ct}{j:Nat}{r r':Rel}{t:List Int}{is:Bool}(hp:mN s j r t is s')(hr:s.aA.l[j]?=some r)(xM:s'.aA.l[j]?=some r'):r'.name=r.name/\r'.arity=r.arity/\Kk (r.aM.l.map Sl.l) t is (r'.aM.l.map Sl.l):=by
 obtain ⟨L,h1,h2⟩:=hp.list;have hl:j<s.aA.l.length:=(lR.1 hr).1;have e:(s'.aA.l.map bp)[j]?=some (r.name,r.arity,L):=by rw [h2,getElem?_set_self (by simpa using hl)]
 rw [getElem?_map,xM,map_some,Option.some.injEq] at e;have e1:r'.name=r.name:=congrArg (·.1) e;have e2:r'.arity=r.arity:=congrArg (·.2.1) e;have e3:r'.aM.l.map Sl.l=L:=congrArg (·.2.2) e;exact ⟨e1,e2,by rw [e3];exact h1⟩
theorem mN.det{s s' a b:ct}{j:Nat}{r r':Rel}{t:List Int}{is:Bool}(hz:s.size=s'.size)(hd:s.aA.l.map bp=s'.aA.l.map bp)(hr:s.aA.l[j]?=some r)(xM:s'.aA.l[j]?=some r')(ha:mN s j r t is a)(hb:mN s' j r' t is b) :
  a.size=b.size/\a.aA.l.map bp=b.aA.l.map bp:=by
 have e:bp r=bp r':=by
  have:=congrArg (·[j]?) hd;simp only [getElem?_map,hr,xM,map_some,Option.some.injEq] at this;exact this
 have e1:r.name=r'.name:=congrArg (·.1) e;have e2:r.arity=r'.arity:=congrArg (·.2.1) e;have e3:r.aM.l.map Sl.l=r'.aM.l.map Sl.l:=congrArg (·.2.2) e;obtain ⟨A,a1,a2⟩:=ha.list;obtain ⟨B,b1,b2⟩:=hb.list;rw [e3] at a1;obtain rfl:=a1.det b1;exact ⟨by rw [ha.size,hb.size,hz],by rw [a2,b2,hd,e1,e2]⟩
theorem mN.Yn{s a b:ct}{j:Nat}{r r':Rel}{t:List Int}{is C8:Bool}(hv:cY s=true)(hr:s.aA.l[j]?=some r)(xM:a.aA.l[j]?=some r')(hw:C8=decide (t ∈ r.aM.l.map Sl.l))(ha:mN s j r t is a)(hb:mN a j r' t C8 b) :
  b.size=s.size/\b.aA.l.map bp=s.aA.l.map bp:=by
 obtain ⟨e1,e2,a1⟩:=ha.at hr xM;obtain ⟨A,_,a2⟩:=ha.list;obtain ⟨B,b1,b2⟩:=hb.list
 have Uk:ji (r.aM.l.map Sl.l):=by
  obtain ⟨_,k,_,_,_,kt⟩:=(iM.1 hv).rel _ (List.mem_map_of_mem (ij hr));exact kt.2
 obtain rfl:=Kk.Yn Uk (by rw [hw,decide_eq_true_eq]) a1 b1;refine ⟨by rw [hb.size,ha.size],?_⟩;rw [b2,a2,set_set,e1,e2];refine ext_getElem? fun i=>?_;by_cases hi:i=j
 ·subst hi;have hl:i<s.aA.l.length:=(lR.1 hr).1;rw [getElem?_set_self (by simpa using hl),getElem?_map,hr];rfl
 ·rw [getElem?_set_ne (Ne.symm hi)]
theorem Nj(hv:cY s=true){r:Rel}(hq:s.aA.l[i]?=some q)(hr:s.aA.l[j]?=some r)(hn:q.name=r.name):i=j:=by
 have UW:=pairwise_iff_getElem.1 (qR hv);obtain ⟨y1,y2⟩:=lR.1 hq;obtain ⟨y3,y4⟩:=lR.1 hr;rcases Nat.lt_trichotomy i j with h|h|h
 ·exact absurd (by rw [getElem_map,getElem_map,y2,y4];exact hn) (UW i j (by simpa using y1) (by simpa using y3) h)
 ·exact h
 ·exact absurd (by rw [getElem_map,getElem_map,y2,y4];exact hn.symm) (UW j i (by simpa using y3) (by simpa using y1) h)
theorem abx(N:Nat):jC (.pointer 78) (.ptr N 0) .eZ=some bF:=rfl
theorem Yo:jC (.pointer 78) .eZ .eZ=some bT:=rfl
structure mD (a b:ct):Prop where
 size:a.size=b.size
 Qy:a.aA.l.map bp=b.aA.l.map bp
theorem mD.refl(a:ct):mD a a:=⟨rfl,rfl⟩
theorem mD.symm{a b:ct}(h:mD a b):mD b a:=⟨h.size.symm,h.Qy.symm⟩
theorem mD.trans{a b c:ct}(h:mD a b)(k:mD b c):mD a c:=⟨h.size.trans k.size,h.Qy.trans k.Qy⟩
theorem mD.valid(h:mD a b)(hv:cY b=true):cY a=true:=by rw [iM,h.size,h.Qy];exact iM.1 hv
theorem mD.get(h:mD a b){r:Rel}(hr:b.aA.l[j]?=some r):∃ q,a.aA.l[j]?=some q/\bp q=bp r:=by
 have:=congrArg (·[j]?) h.Qy;simp only [getElem?_map,hr,map_some] at this
 cases hq:a.aA.l[j]? with
 |none=>rw [hq] at this;cases this
 |some q=>rw [hq] at this;exact ⟨q,rfl,by simpa using this⟩
theorem kY.VH{t:ct}(ha:kY rs s a)(hb:kY rs t b)(h:mD s t):mD a b:=by
 obtain ⟨x,y⟩:=ha.det hb h.size h.Qy;exact ⟨x,y⟩
theorem Jj(hv:cY s=true){k:Int}(hq:s.aA.l[j]?=some q)(hs:fe nm k q=true):jh (fe nm k) s.aA.l=(j:Int):=by
 rcases lP (fe nm k) s.aA.l with ⟨_,h⟩|⟨i,v,h1,h2,h3⟩
 ·rw [find?_eq_none] at h;exact absurd hs (h q (ij hq))
 ·have Ku:=find?_some h3;simp only [fe,and_eq_true,beq_iff_eq] at hs Ku;rw [h1,Nj hv h2 hq (by rw [Ku.1,hs.1])]
theorem T1{r:Rel}(h:oN (bp q)=oN (bp r))(nm:cc)(k:Int):fe nm k q=fe nm k r:=by
 have e1:q.name=r.name:=congrArg (·.1) h;have e2:q.arity=r.arity:=congrArg (·.2) h;unfold fe;rw [e1,e2]
theorem Yp{r r':Rel}(h:mD s s')(hr:s.aA.l[j]?=some r)(xM:s'.aA.l[j]?=some r')(ha:mN s j r t is a)(hb:mN s' j r' t is b):mD a b:=by
 obtain ⟨x,y⟩:=mN.det h.size h.Qy hr xM ha hb;exact ⟨x,y⟩
theorem aby{r:Rel}(hr:s.aA.l[j]?=some r)(hp:mN s j r t is s'):∃ r',s'.aA.l[j]?=some r'/\r'.name=r.name/\r'.arity=r.arity/\Kk (r.aM.l.map Sl.l) t is (r'.aM.l.map Sl.l):=by
 have hl:j<s.aA.l.length:=(lR.1 hr).1;obtain ⟨L,_,h2⟩:=hp.list;have hlen:s'.aA.l.length=s.aA.l.length:=by have:=congrArg List.length h2;simpa using this
 have h3:s'.aA.l[j]?=some (s'.aA.l[j]'(by omega)):=jQ (by omega);exact ⟨_,h3,hp.at hr h3⟩
structure aeQ (s:ct) (c:Aa) (j:Nat) (r:Rel):Prop where
 get:s.aA.l[j]?=some r
 sym:fe c.name (c.tuple.l.length:Int) r=true
 arity:r.arity=(c.tuple.l.length:Int)
 inb:jN s.size c.tuple.l=true
 C8:c.C8=decide (c.tuple.l ∈ r.aM.l.map Sl.l)
theorem Yq{r r':Rel}{C8:Bool}(hv:cY s=true)(hr:s.aA.l[j]?=some r)(xM:a.aA.l[j]?=some r')(hw:C8=decide (t ∈ r.aM.l.map Sl.l))(ha:mN s j r t is a)(hb:mN a j r' t C8 b):mD b s:=by
 obtain ⟨x,y⟩:=mN.Yn hv hr xM hw ha hb;exact ⟨x,y⟩
theorem C9(h:mD a b)(hs:a.small){H:Heap}(hK:K (.ret bT) H=true):Sem TP 16 [.agg (ah a),.agg (ah b)] H K:=by
 refine Sem.data (r:=bT) ?_ (by simp [AV.cP,AV.pure,dI]) hK;exact Nd h.size h.Qy hs fun _=>eB rfl
theorem gL.lt{l:List Aa}(o:gL N h d l){b:Nat}(hb:bR d=some b):b≠N/\b<h.next:=by
 cases o with
 |nil=>cases hb
 |row c _ cs h1 h2 _ _ _=>cases hb;exact ⟨h1,h2⟩
theorem mD.small{a b:ct}(h:mD a b)(hv:cY b=true):a.small:=(fO (h.valid hv)).1
theorem LI:∀ {la lb:List (cc×Int×List (List Int))} {M:Nat},(∀ d ∈ la,d.2.2.length<=M)->(mC la lb).length<=la.length*M
 |[],lb,M,_=>by simp [mC]
 |p :: la,[],M,_=>by simp [mC]
 |p :: la,q :: lb,M,h=>by
  have ih:=LI (la:=la) (lb:=lb) (M:=M) fun d hd=>h d (mem_cons_of_mem _ hd);unfold mC at ih ⊢;rw [zip_cons_cons,flatMap_cons,length_append,length_cons,Nat.add_mul,Nat.one_mul]
  have h1:(uw p q).length<=M:=by
   unfold uw;rw [length_map];exact Nat.le_trans (length_filter_le _ _) (h p mem_cons_self)
  dsimp only;omega
theorem cO{r:aI}(hf:r.k8){all:Sl cc}(jS:all.l=varsOf r)(hal:all.l.length<=cw){vs t:Sl Int}(Gv:vs.l.length=(varsOf r).length)(hlen:r.args.l.length=t.l.length)(qv:t.l.length<=cw){h:Heap}{K:Out->Heap->Bool}
  (hK:K (.ret (.bool (vB r t.l vs.l))) h=true):Sem TP 123 [iz r.args,iz all,dH vs,dH t] h K:=by
 unfold vB at hK;refine F.F7 ?_;rw [F.Im]
 have xd:∀ (i:Nat) (s:cc),r.args.l[i]?=some s->(bL vs.l (placesOf (varsOf r) r.args.l))[i]?=some (vs.l.getD ((varsOf r).idxOf s) 0):=fun i s hs=>by
  unfold bL placesOf;rw [List.map_map,getElem?_map,hs];rfl
 have sF:(bL vs.l (placesOf (varsOf r) r.args.l)).length=r.args.l.length:=by rw [mc];unfold placesOf;simp
 refine aB 0 r.args.l.length (zero_le _) (fun i e h'=>h'=h/\(bL vs.l (placesOf (varsOf r) r.args.l)).take i=t.l.take i/\e 0=iz r.args/\e 1=iz all/\e 2=dH vs/\e 3=dH t/\e 9=I6 (i:Int)) ⟨rfl,rfl,rfl,rfl,rfl,rfl,rfl⟩ ?_ ?_
 ·rintro i e h' _ hi ⟨rfl,ht,e0,e1,e2,e3,e9⟩ K' hn hx hr hp;obtain ⟨s,hv⟩:=dM hi;have hit:i<t.l.length:=by omega
  obtain ⟨u,hu⟩:=dM hit;have Nu:s ∈ varsOf r:=nH s (ij hv);have hil:=idxOf_lt_length_iff.2 Nu;have hw:vs.l[(varsOf r).idxOf s]?=some (vs.l.getD ((varsOf r).idxOf s) 0):=by rw [getD_eq_getElem?_getD,jQ (by omega)];rfl
  rw [F.cO.aP];simp only [e0,e9,aO,aU hi];refine aB 0 all.l.length (zero_le _) (fun k e Ga=>Ga=h'/\((varsOf r).idxOf s<k->vs.l.getD ((varsOf r).idxOf s) 0=u)/\e 0=iz r.args/\e 1=iz all/\e 2=dH vs/\e 3=dH t/\e 9=I6 (i:Int)/\e 10=I6 (k:Int)) ⟨rfl,fun h=>absurd h (by omega),e0,e1,e2,e3,e9,rfl⟩ ?_ ?_
  ·rintro k e Ga _ hk ⟨rfl,hq,e0,e1,e2,e3,e9,iJ⟩ K2 qj fK r7 Ay;obtain ⟨c,hvk⟩:=dM hk;rw [F.cO.cU];simp only [e0,e1,e2,e3,e9,iJ,aO,aU hk,aQ all hk,jX hvk,aQ r.args hi,jX hv];have YE:(varsOf r)[k]?=some c:=by rw [<- jS];exact hvk
   cases hc:(c==s) with
   |true=>
    obtain rfl:=eq_of_beq hc
    have hki:(varsOf r).idxOf c=k:=by
     obtain ⟨q1,q2⟩:=lR.1 YE;rw [<- q2];exact (BN r).idxOf_getElem k q1
    rw [hki] at hw;simp only [aL,aO,aQ vs (show k<vs.l.length by rw [Gv,<- jS];exact hk),gh hw,aQ t hit,gh hu,cy];by_cases he:vs.l.getD k 0=u
    ·simp only [fh he,Bool.not_true,aK,aE hk hal,dr];exact qj _ _ ⟨rfl,fun _=>by rw [hki];exact he,e0,e1,e2,e3,e9,rfl⟩
    ·simp only [eR he,Bool.not_false,aL];rw [r7,F.cO.k7,hr,F.cO.bg];simp only [kC,reduceEqDiff,reduceIte];rw [eR (fun h5=>he ?_)] at hK
     ·exact hK
     ·have:=xd i c hv;rw [h5,hu,hki] at this;exact (Option.some.inj this).symm
   |false=>
    simp only [aK,aE hk hal,dr];refine qj _ _ ⟨rfl,fun h6=>?_,e0,e1,e2,e3,e9,rfl⟩;by_cases h7:(varsOf r).idxOf s<k
    ·exact hq h7
    ·have h8:(varsOf r).idxOf s=k:=(by omega);have h9:(varsOf r)[k]?=some s:=by rw [<- h8,jQ hil,getElem_idxOf hil]
     rw [YE] at h9;cases h9;simp at hc
  ·rintro e Ga ⟨rfl,hq,e0,e1,e2,e3,e9,iJ⟩ K2 fK;rw [F.cO.cU];simp only [e1,iJ,aO,aR];rw [fK,F.cO.cm];simp only [kC,reduceEqDiff,reduceIte,e9,aE hi (show r.args.l.length<=cw by omega),dr];refine hn _ _ ⟨rfl,?_,e0,e1,e2,e3,rfl⟩;rw [take_add_one,take_add_one,ht,xd i s hv,hu,hq (by rw [jS];exact hil)]
 ·rintro e h' ⟨rfl,ht,e0,e1,e2,e3,e9⟩ K' hx;rw [F.cO.aP];simp only [e0,e9,aO,aR];rw [hx,F.cO.aC];rw [jD (by omega),jD (by omega)] at ht;rw [fh ht] at hK;exact hK
theorem gd{x y:Sl AG}(Tn:x.l.map rL=y.l.map rL)(hx:x.l.length<=cw)(ht:∀ f ∈ x.l,f.tuple.l.length<=cw){h:Heap}{K:Out->Heap->Bool}(hK:K (.ret bT) h=true):Sem TP 29 [TU x,TU y] h K:=by
 have hl:x.l.length=y.l.length:=by have:=congrArg List.length Tn;simpa using this
 refine F.Ij ?_;rw [F.J3];simp only [aO,hl,cy,decide_true,Bool.not_true];refine aB 0 x.l.length (zero_le _) (fun i e h'=>h'=h/\e 0=TU x/\e 1=TU y/\e 5=I6 (i:Int)) ⟨rfl,rfl,rfl,rfl⟩ ?_ ?_
 ·rintro i e h' _ hi ⟨rfl,e0,e1,e5⟩ K' hn gl hr hp;obtain ⟨f,hv⟩:=dM hi;have wO:i<y.l.length:=by omega
  obtain ⟨g,hw⟩:=dM wO
  have hd:rL f=rL g:=by
   have:=congrArg (·[i]?) Tn;simp only [getElem?_map,hv,hw,map_some,Option.some.injEq] at this;exact this
  have d1:f.name=g.name:=congrArg (·.1) hd;have d2:f.tuple.l=g.tuple.l:=congrArg (·.2) hd
  have a0:au none (.dL (x.l.flatMap rJ) (i*2)) h'=some (.str f.name):=by
   have:=dU (h:=h') sR hv (k:=0) (by omega);rw [Nat.add_zero] at this;rw [this];rfl
  have a1:au none (.dL (x.l.flatMap rJ) (i*2+1)) h'=some (dH f.tuple):=dU sR hv (by omega)
  have b0:au none (.dL (y.l.flatMap rJ) (i*2)) h'=some (.str g.name):=by
   have:=dU (h:=h') sR hw (k:=0) (by omega);rw [Nat.add_zero] at this;rw [this];rfl
  have b1:au none (.dL (y.l.flatMap rJ) (i*2+1)) h'=some (dH g.tuple):=dU sR hw (by omega);rw [F.gd.aP];simp only [e0,e1,e5,aO,aU hi,aQ x hi,aQ y wO,a0,b0,d1,beq_self_eq_true,Bool.not_true,a1,b1];refine af (ew (ht f (ij hv)) ?_);simp only [aO,d2,beq_self_eq_true,Bool.not_true,aE hi hx];exact hn _ _ ⟨rfl,e0,e1,rfl⟩
 ·rintro e h' ⟨rfl,e0,e1,e5⟩ K' gl;rw [F.gd.aP];simp only [e0,e5,aO,aR];rw [gl,F.gd.aC];exact hK
theorem dP{a b:ct}(ha:a.small)(hb:b.small)(hlen:a.aA.l.length<=b.aA.l.length)
  {h:Heap} {K:Out->Heap->Bool} (hK:∀ x:Sl AG,x.l.map rL=mC (a.aA.l.map bp) (b.aA.l.map bp)->K (.ret (TU x)) h=true):Sem TP 127 [.agg (ah a),.agg (ah b)] h K:=by
 have hm:cz=140737488355328:=rfl;have rO:=ha.U4;have ha8:=ha.aA
 have main:Sem TP 127 [.agg (ah a),.agg (ah b)] Heap.empty (fun o h'=>yes (∃ v,∃ x:Sl AG,o = .ret v/\x.l.map rL=mC (a.aA.l.map bp) (b.aA.l.map bp)/\Fz true h' v (TU x))):=by
  refine F.Io ?_;rw [F.J6];simp only [cD (bU a),cD (bU b),dr,Heap.aD,aZ];have g0:(Heap.alloc (Heap.alloc Heap.empty (.cells (ah a))) (.cells (ah b))).get 0=sC (ah a):=by simp [Heap.aN,aZ]
  have g1:(Heap.alloc (Heap.alloc Heap.empty (.cells (ah a))) (.cells (ah b))).get 1=sC (ah b):=by simp [Heap.aN,aZ]
  have gn:(Heap.alloc (Heap.alloc Heap.empty (.cells (ah a))) (.cells (ah b))).next=2:=rfl
  generalize (Heap.alloc (Heap.alloc Heap.empty (.cells (ah a))) (.cells (ah b)))=H at g0 g1 gn ⊢
  refine aB 0 a.aA.l.length (zero_le _) (fun i e h'=>∃ av l,Own rJ 2 2 h' av l/\l.map rL=mC ((a.aA.l.map bp).take i) (b.aA.l.map bp)/\l.length<=i*100000/\aV H h'/\e 2 = .ptr 0 0/\e 3 = .ptr 1 0/\e 5=av/\e 6=I6 (i:Int))
   ⟨_,[],.nil,by simp [mC],by simp,aV.refl _,rfl,rfl,rfl,rfl⟩ ?_ ?_
  ·rintro i e h' _ hi ⟨av,l,o,hl,hcn,hx,e2,e3,e5,e6⟩ K' hn gl hr hp;obtain ⟨r,hv⟩:=dM hi;have wO:i<b.aA.l.length:=by omega
   obtain ⟨u,hw⟩:=dM wO;have kW:=ij hv;have hrt:=ha.CV r kW;have Qx:=ij hw;have hut:=hb.CV u Qx;have lra:∀ h2,aV H h2->au none (.ptr 0 1) h2=some (qm a.aA):=fun h2 x=>by rw [aj (cs:=ah a) (x.at g0 (by omega))];rfl
   have lrb:∀ h2,aV H h2->au none (.ptr 1 1) h2=some (qm b.aA):=fun h2 x=>by rw [aj (cs:=ah b) (x.at g1 (by omega))];rfl
   rw [F.dP.aP];simp only [e2,e6,aO,lra _ hx,aU hi];have hbt:r.aM.l.length<=cw:=by unfold cw;omega
   refine aB 0 r.aM.l.length (zero_le _) (fun j e h2=>∃ av l,Own rJ 2 2 h2 av l/\l.map rL=mC ((a.aA.l.map bp).take i) (b.aA.l.map bp)++uw (r.name,r.arity,(r.aM.l.map Sl.l).take j) (bp u)/\l.length<=i*100000+j/\aV H h2 /\
    e 2 = .ptr 0 0/\e 3 = .ptr 1 0/\e 5=av/\e 6=I6 (i:Int)/\e 7=I6 (j:Int))
    ⟨av,l,o,by simpa [uw] using hl,by simpa using hcn,hx,e2,e3,e5,e6,rfl⟩ ?_ ?_
   ·rintro j e h2 _ hj ⟨av,l,o,hl,hcn,hx,e2,e3,e5,e6,e7⟩ K2 qj fK r7 Ay;obtain ⟨t,D9⟩:=dM hj;have htm:=ij D9;have qv:=ha.YL r kW t htm
    have PN:uw (r.name,r.arity,(r.aM.l.map Sl.l).take (j+1)) (bp u)=uw (r.name,r.arity,(r.aM.l.map Sl.l).take j) (bp u)++if t.l ∈ u.aM.l.map Sl.l then [] else [(r.name,t.l)]:=by
     have hg:(r.aM.l.map Sl.l)[j]?=some t.l:=(by rw [getElem?_map,D9];rfl);simp only [uw,bp];rw [take_add_one,hg,filter_append,map_append];congr 1;by_cases hin:t.l ∈ u.aM.l.map Sl.l
     ·rw [if_pos hin,toList_some,filter_cons,if_neg (by simp only [not_eq_true'];intro hh;exact absurd hin (of_decide_eq_false hh))];rfl
     ·rw [if_neg hin,toList_some,filter_cons,if_pos (by simp only [not_eq_true'];exact eR hin)];rfl
    have XT:((u.aM.l.map Sl.l).any fun w=>w==t.l)=decide (t.l ∈ u.aM.l.map Sl.l):=by
     rw [Bool.eq_iff_iff,List.any_eq_true,decide_eq_true_eq];constructor
     ·rintro ⟨w,hw,e⟩;have:w=t.l:=by simpa using e
      rw [<- this];exact hw
     ·exact fun h=>⟨_,h,by simp⟩
    have ln:au none (.dL (a.aA.l.flatMap aY) (i*3)) h2=some (.str r.name):=by
     have:=dU (h:=h2) dY hv (k:=0) (by omega);rw [Nat.add_zero] at this;rw [this];rfl
    rw [F.dP.cU];simp only [e2,e3,e6,e7,aO,lra _ hx,lrb _ hx,aQ a.aA hi,kF hv,aU hj,aQ b.aA wO,kF hw,aQ r.aM hj,eY D9];refine af (fZ (by unfold cw;omega) (fun w hw2=>by have:=hb.YL u Qx w hw2;unfold cw;omega) ?_);rw [XT];by_cases hin:t.l ∈ u.aM.l.map Sl.l
    ·simp only [aO,fh hin,Bool.not_true,aE hj hbt];refine qj _ _ ⟨av,l,o,by rw [hl,PN,if_pos hin,append_nil],by omega,hx,e2,e3,e5,e6,rfl⟩
    ·have hroom:(l.length+1)*40<=cz:=by
      rw [hm];have:i*100000<=a.aA.l.length*100000:=mul_le_mul_right _ (by omega);omega
     obtain ⟨a5,h5,c5,o5,f5,n5,x5,b5⟩:=o.push sR LC (by have:=hx.next;omega) (bytes:=40) hroom ⟨r.name,t⟩;simp only [aO,eR hin,Bool.not_false,e5,lra _ hx,aQ a.aA hi,ln,kF hv,aQ r.aM hj,eY D9,Ye,Yf,c5,aE hj hbt];refine qj _ _ ⟨a5,_,o5,?_,by rw [length_append,length_singleton];omega,x5 H hx (by omega),e2,e3,rfl,e6,rfl⟩;rw [map_append,hl,PN,if_neg hin,append_assoc];simp [rL]
   ·rintro e h2 ⟨av,l,o,hl,hcn,hx,e2,e3,e5,e6,e7⟩ K2 fK;rw [F.dP.cU];simp only [e2,e6,e7,aO,lra _ hx,aQ a.aA hi,kF hv,aR];rw [fK,F.dP.cm];simp only [aO,reduceEqDiff,reduceIte,e6,aE hi rO];refine hn _ _ ⟨av,l,o,?_,by have:=Nat.add_mul i 1 100000;omega,hx,e2,e3,e5,rfl⟩;have htk:(r.aM.l.map Sl.l).take r.aM.l.length=r.aM.l.map Sl.l:=jD (by simp);rw [hl,htk];have h1:(a.aA.l.map bp)[i]?=some (bp r):=by rw [getElem?_map,hv];rfl
    have h2:(b.aA.l.map bp)[i]?=some (bp u):=(by rw [getElem?_map,hw];rfl);unfold mC;rw [Ja h1 h2,flatMap_append];simp only [flatMap_cons,flatMap_nil,append_nil];rfl
  ·rintro e h' ⟨av,l,o,hl,hcn,hx,e2,e3,e5,e6⟩ K' gl;have lra:au none (.ptr 0 1) h'=some (qm a.aA):=by rw [aj (cs:=ah a) (by rw [hx.get 0 (by omega)];exact g0)];rfl
   rw [F.dP.aP];simp only [e2,e6,aO,lra,aR];rw [gl,F.dP.aC];simp only [kC,reduceEqDiff,reduceIte,e5];rw [jD (by simp)] at hl;obtain ⟨x,x1,x2⟩:=(kX.y9 o I9).fz;exact bO.2 ⟨av,x,rfl,by rw [<- hl,x1,List.map_map];simp [Function.comp_def],x2⟩
 refine main.frozen (by simp [AV.cP,AV.pure,dI]) fun o h' ho=>?_;obtain ⟨v,x,rfl,h1,h2⟩:=bO.1 ho;exact ⟨_,_,rfl,h2,hK x h1⟩
theorem kY.aeR{all:ct}(hp:kY rs s all)(hq:all.aA.l[i]?=some q)(hi:s.aA.l.length<=i):q.name ∈ cZ rs/\q.arity=(ke rs q.name:Int)/\∀ F,mM rs s.size.toNat s F->q.aM.l.map Sl.l=uL s.size.toNat F q.name (ke rs q.name) (s.size.toNat ^ ke rs q.name):=by
 obtain ⟨_,F,hF,hd⟩:=hp;have e:(all.aA.l.map bp)[i]?=some (bp q):=by rw [getElem?_map,hq];rfl
 rw [hd,getElem?_append_right (by simpa using hi),length_map] at e;unfold qd at e;rw [getElem?_map] at e
 cases hx:(cZ rs)[i-s.aA.l.length]? with
 |none=>rw [hx] at e;cases e
 |some nm=>
  rw [hx] at e;simp only [map_some,Option.some.injEq] at e;have e1:nm=q.name:=congrArg (·.1) e;have e2:(ke rs nm:Int)=q.arity:=congrArg (·.2.1) e;have e3:uL s.size.toNat F nm (ke rs nm) (s.size.toNat ^ ke rs nm)=q.aM.l.map Sl.l:=congrArg (·.2.2) e;subst e1;exact ⟨ij hx,e2.symm,fun G hG=>by rw [hG.unique hF];exact e3.symm⟩
theorem abz{b0 b1:Nat}{t:Sl Int}(g0:h.get b0=sC [.str nm])(g1:h.get b1=sC [dH t])(Y2:b0<h.next)(hb1:b1<h.next)(v:Rel)(h':Heap)(hx:aV h h')(K:Out->Heap->Bool)(hK:∀ Ga,aV h' Ga->K (.ret (.bool (fe nm (t.l.length:Int) v))) Ga=true) :
  Sem TP 77 ([]++([.agg (aY v)]++[.ptr b0 0,.ptr b1 0])) h' K:=by
 refine F.vj ?_;rw [F.we];have hn:=hx.next
 have fK:aV h' (Heap.alloc h' (.cells (aY v))):=aV.alloc _ _;have p:(Heap.alloc h' (.cells (aY v))).get h'.next=sC (aY v):=ak _ _
 have q0:(Heap.alloc h' (.cells (aY v))).get b0=sC [.str nm]:=by rw [fK.get _ (by omega),hx.get _ Y2];exact g0
 have q1:(Heap.alloc h' (.cells (aY v))).get b1=sC [dH t]:=by rw [fK.get _ (by omega),hx.get _ hb1];exact g1
 simp only [cD (gJ v),dr];generalize (Heap.alloc h' (.cells (aY v)))=H at fK p q0 q1 ⊢;have lv0:=lA p 0 rfl;have lv1:=lA p 1 rfl;have l0:=lA q0 0 rfl;have l1:=lA q1 0 rfl;unfold fe at hK;simp only [aO,lv0,lv1,l0,l1]
 cases rF:(v.name==nm) with
 |true=>
  rw [rF,Bool.true_and] at hK;simp only [aL,cy];exact hK H fK
 |false=>
  rw [rF,Bool.false_and] at hK;simp only [aK];exact hK H fK
theorem VI{all:ct}(ho:dw rs s)(hp:kY rs s all)(hn:s.size=(n:Int))(D:DB)(mZ:∀ q ∈ all.aA.l,∃ b,D q.name=some (b,bitsOf n q.arity.toNat q.aM.l))(hr:r ∈ rs):CQ n D r:=by
 obtain ⟨m,jb⟩:=ho.iD.go;have hv:=hp.valid ho;obtain ⟨hz,F,hF,hd⟩:=hp;refine ⟨fun c hc k0=>?_,fun c hc=>(tP (qT ho.iD hr hc)).two,fun c hc=>(tP (qT ho.iD hr hc)).kinds,fun c hc=>(tP (qT ho.iD hr hc)).arity⟩;obtain ⟨h1,q,h2,h3⟩:=PT ho jb hn hv (Nf hd) hr hc k0;refine ⟨h1,?_⟩;have h4:=mem_of_find?_eq_some h2;have h5:=find?_some h2;simp only [dN,beq_iff_eq] at h5;obtain ⟨b,hb⟩:=mZ q h4;rw [h5] at hb;exact ⟨_,hb,by rw [nq,h3];rfl⟩
theorem T2(ho:dw rs s)(hr:r ∈ rs):(varsOf r).length<=12:=by
 have:=Ej ho.iD hr;unfold lI at this;simp only [and_eq_true,decide_eq_true_eq] at this;exact this.2.2.2.2
theorem P4{rs:Sl aI}{all:ct}(x:eA rs N h s all dn)(iX:∀ r ∈ rs.l,r.k8)(ho:dw rs.l s)(hp:kY rs.l s all)(hn:s.size=(n:Int)){t:Sl Int}(qv:t.l.length<=cw)
  (h4:jh (fe nm (t.l.length:Int)) all.aA.l<(s.aA.l.length:Int)->∀ h',aV h h'->K (.ret (.tuple [I6 0,I6 4])) h'=true)
  (h0:(s.aA.l.length:Int)<=jh (fe nm (t.l.length:Int)) all.aA.l->∀ h',aV h h'->K (.ret (.tuple [I6 ((iY n (ff n all) nm t.l rs.l:Nat):Int),I6 0])) h'=true) :
  Sem TP 33 [.ptr N 0,.str nm,dH t] h K:=by
 obtain ⟨n',vE,n1,sK,_⟩:=iL ho.valid;have AE:0<s.size:=by omega
 have hnc:∀ c o:Nat,aJ (.ptr c o)=some (.ptr c o):=fun _ _=>rfl;have hva:=hp.valid ho;have aj8:=(fO hva).2;refine F.xu ?_;rw [F.yB];simp only [pM (x:=.str nm) rfl,pM (fS t),dr,Heap.aD];have g0:((h.alloc (.cells [.str nm])).alloc (.cells [dH t])).get h.next=sC [.str nm]:=by rw [Heap.aN,Heap.aD,if_neg (by omega)];exact ak _ _
 have g1:((h.alloc (.cells [.str nm])).alloc (.cells [dH t])).get (h.next+1)=sC [dH t]:=ak _ _;have xe:aV h ((h.alloc (.cells [.str nm])).alloc (.cells [dH t])):=(aV.alloc _ _).trans (aV.alloc _ _);have gn:((h.alloc (.cells [.str nm])).alloc (.cells [dH t])).next=h.next+2:=rfl
 generalize ((h.alloc (.cells [.str nm])).alloc (.cells [dH t]))=H at g0 g1 xe gn ⊢;have x1:=x.ext xe;refine af (rM x1 AE ?_);have la:∀ h',eA rs N h' s all dn->au none (.ptr N 4) h'=some (qm all.aA):=fun h' y=>by rw [aj y.get];rfl
 have lb:∀ h',eA rs N h' s all dn->au none (.ptr N 2) h'=some (qm s.aA):=fun h' y=>by rw [aj y.get];rfl
 simp only [aO,reduceAdd,Bool.not_true,hnc,la _ x1];refine af (uK (O9 dY all.aA) aj8.1 (p:=fe nm (t.l.length:Int)) (fun v h2 fK K2 YD=>abz g0 g1 (by omega) (by omega) v h2 fK K2 YD) fun h2 fK=>?_);have x2:=x1.ext fK;simp only [aO,lb _ x2];by_cases hw:jh (fe nm (t.l.length:Int)) all.aA.l<(s.aA.l.length:Int)
 ·simp only [fh hw,aL];exact h4 hw h2 (xe.trans fK)
 ·have l0:au none (.ptr h.next 0) h2=some (.str nm):=by rw [aj (cs:=[.str nm]) (by rw [fK.get _ (by omega)];exact g0)];rfl
  have l1:au none (.ptr (h.next+1) 0) h2=some (dH t):=by rw [aj (cs:=[dH t]) (by rw [fK.get _ (by omega)];exact g1)];rfl
  simp only [eR hw,aK,aO,x2.rules,x2.all,l0,l1];refine af (cp (n:=n) iX (fun r hr=>T2 ho hr) (fun r hr=>by have:=(iX r hr).1;omega) aj8 hva (by rw [hp.size,hn]) ho.iD.k8 (fun r hr=>?_) qv (fun D mZ r hr=>VI ho hp hn D mZ hr) ?_)
  ·have:s.size.toNat=n:=by omega
   rw [<- this];exact Nat.le_of_not_lt fun hlt=>ho.wY (.inr (.inr ⟨r,hr,hlt⟩))
  ·simp only [aO];exact h0 (by omega) h2 (xe.trans fK)
def Kl(n:Nat):Nat->Nat->List Int->List (List Int)
 |0,_,vs=>[vs]
 |m+1,v,vs=>(List.range n).flatMap fun (x:Nat)=>Kl n m (v+1) (vs.set v (x:Int))
theorem P7{n:Nat}{L:Lk}{r:aI}{t:List Int}:∀ (m v:Nat) (vs:List Int),qw n L r t m v vs=((Kl n m v vs).filter fun us=>lK n L r us&&vB r t us).length
 |0,v,vs=>by
  unfold qw Kl;rw [filter_cons];split<;>rfl
 |m+1,v,vs=>by
  unfold qw Kl;rw [filter_flatMap,length_flatMap];congr 1;exact map_congr_left fun x _=>P7 m (v+1) _
theorem zl{n:Nat}:∀ (m v:Nat) (vs:List Int),vs.length=v+m->jN n vs=true->∀ us,us ∈ Kl n m v vs↔us.length=vs.length/\jN n us=true/\∀ i,i<v->us.getD i 0=vs.getD i 0
 |0,v,vs,hl,hin,us=>by
  unfold Kl;rw [mem_singleton];constructor
  ·rintro rfl;exact ⟨rfl,hin,fun _ _=>rfl⟩
  ·rintro ⟨h1,_,h3⟩;exact PK h1 fun i hi=>h3 i (by omega)
 |m+1,v,vs,hl,hin,us=>by
  unfold Kl;rw [mem_flatMap];constructor
  ·rintro ⟨x,hx,h⟩;have YI:=mem_range.1 hx;obtain ⟨h1,h2,h3⟩:=(zl m (v+1) _ (by rw [length_set];omega) (nJ hin v YI) us).1 h;exact ⟨by rw [h1,length_set],h2,fun i hi=>by rw [h3 i (by omega),getD_set_ne (by omega)]⟩
  ·rintro ⟨h1,h2,h3⟩;have hul:v<us.length:=by omega
   have vp:=h2;unfold jN at vp;rw [List.all_eq_true] at vp;have h0:=vp us[v] (getElem_mem hul);simp only [and_eq_true,not_eq_true',decide_eq_false_iff_not] at h0;have hg:us.getD v 0=us[v]:=by rw [getD_eq_getElem?_getD,jQ hul];rfl
   have hx:us[v].toNat<n:=by omega
   refine ⟨us[v].toNat,mem_range.2 hx,(zl m (v+1) _ (by rw [length_set];omega) (nJ hin v hx) us).2 ⟨by rw [length_set,h1],h2,fun i hi=>?_⟩⟩;by_cases e:i=v
   ·subst e;rw [nt (by omega),hg];omega
   ·rw [getD_set_ne e];exact h3 i (by omega)
theorem Jk{n:Nat}:∀ (m v:Nat) (vs:List Int),vs.length=v+m->jN n vs=true->(Kl n m v vs).Nodup
 |0,v,vs,_,_=>by unfold Kl;simp
 |m+1,v,vs,hl,hin=>by
  unfold Kl List.Nodup;rw [pairwise_flatMap];refine ⟨fun x hx=>Jk m (v+1) _ (by rw [length_set];omega) (nJ hin v (mem_range.1 hx)),?_⟩;refine List.Pairwise.imp_of_mem ?_ (pairwise_lt_range (n:=n));intro x y hx hy Tn a ha b hb e;subst e;have h1:=((zl m (v+1) _ (by rw [length_set];omega) (nJ hin v (mem_range.1 hx)) a).1 ha).2.2 v (by omega);have h2:=((zl m (v+1) _ (by rw [length_set];omega) (nJ hin v (mem_range.1 hy)) a).1 hb).2.2 v (by omega);rw [nt (by omega)] at h1 h2;omega
theorem LJ(n1:1<=n)(k:Nat):nS n k=(List.range (n ^ k)).map (eo n k):=by
 refine ext_getElem? fun i=>?_;rw [getElem?_map];by_cases hi:i<n ^ k
 ·rw [zU n1 k i hi,getElem?_range hi];rfl
 ·rw [getElem?_eq_none (by rw [qS];omega),getElem?_eq_none (by rw [length_range];omega)];rfl
theorem LL(n1:1<=n){us:List Int}:us ∈ nS n k↔us.length=k/\jN n us=true:=by
 rw [LJ n1,mem_map];constructor
 ·rintro ⟨i,hi,rfl⟩;exact ⟨j4 _ _ _,(su n1 (mem_range.1 hi)).1⟩
 ·rintro ⟨h1,h2⟩;have hlt:mg n us<n ^ k:=by have:=pW h2;rwa [h1] at this
  obtain ⟨b1,b2⟩:=su n1 hlt;exact ⟨mg n us,mem_range.2 hlt,Tz (by rw [j4,h1]) b1 h2 b2⟩
theorem P8(n1:1<=n)(k:Nat):(nS n k).Nodup:=by
 rw [LJ n1];unfold List.Nodup;rw [pairwise_map];refine List.Pairwise.imp_of_mem ?_ (pairwise_lt_range (n:=n ^ k));intro a b ha hb rO e;have h1:=(su n1 (mem_range.1 ha)).2;have h2:=(su n1 (mem_range.1 hb)).2;rw [e,h2] at h1;omega
theorem VJ(n1:1<=n):Gg n L r t=((nS n (varsOf r).length).filter fun us=>lK n L r us&&vB r t us).length:=by
 unfold Gg;rw [P7];refine List.Perm.length_eq (List.Perm.filter _ ?_);rw [perm_ext_iff_of_nodup (Jk _ _ _ (by simp) (wo n1 _)) (P8 n1 _)];intro us;rw [zl _ _ _ (by simp) (wo n1 _),LL n1,length_replicate];exact ⟨fun h=>⟨h.1,h.2.1⟩,fun h=>⟨h.1,h.2,fun i hi=>by omega⟩⟩
theorem Fo(n:Nat)(L:Lk)(nm:cc)(t:List Int)(q:aI):∀ rs:List aI,iY n L nm t (rs++[q])=iY n L nm t rs+if q.name=nm then Gg n L q t else 0
 |[]=>by simp [iY]
 |r :: rs=>by
  rw [cons_append];unfold iY;rw [Fo n L nm t q rs];omega
structure j6 (rules:Sl aI) (M:Nat) (h:Heap) (s:ct) (wv:AV):Prop where
 lt:M<h.next
 get:h.get M=sC [gm rules,I6 s.size,qm s.aA,wv]
theorem j6.agree{rules:Sl aI}(x:j6 rules M h s wv)(hg:h'.get M=h.get M)(hn:h.next<=h'.next):j6 rules M h' s wv:=⟨Nat.lt_of_lt_of_le x.lt hn,by rw [hg];exact x.get⟩
theorem j6.ext{rules:Sl aI}(x:j6 rules M h s wv)(e:aV h h'):j6 rules M h' s wv:=x.agree (e.get M x.lt) e.next
theorem j6.rules{rules:Sl aI}{M:Nat}{h:Heap}{s:ct}{wv:AV}(x:j6 rules M h s wv):au none (.ptr M 0) h=some (gm rules):=by rw [aj x.get];rfl
theorem j6.base{rules:Sl aI}(x:j6 rules M h s wv):au (some 2) (.ptr M 1) h=some (.agg (ah s)):=by rw [aj x.get];rfl
theorem j6.size{rules:Sl aI}{M:Nat}{h:Heap}{s:ct}{wv:AV}(x:j6 rules M h s wv):au none (.ptr M 1) h=some (I6 s.size):=by rw [aj x.get];rfl
theorem j6.C8{rules:Sl aI}(x:j6 rules M h s wv):au none (.ptr M 3) h=some wv:=by rw [aj x.get];rfl
theorem j6.aA{rules:Sl aI}{M:Nat}{h:Heap}{s:ct}{wv:AV}(x:j6 rules M h s wv):au none (.ptr M 2) h=some (qm s.aA):=by rw [aj x.get];rfl
theorem P9(s:St):dz TP s Tryz.f40.results.toList=(match au (some 2) (s.env 2) s.h,(some []:Option (List AV)) with|some v,some vs=>some (v :: vs)|_,_=>none):=by kernel_rfl
theorem Ac{rules:Sl aI}(x:j6 rules M h s wv)(iX:∀ r ∈ rules.l,r.k8)(ho:dw rules.l s)
  (hK:∀ (out:ct) h',aV h h'->kY rules.l s out->K (.ret (.agg (ah out))) h'=true):Sem TP 40 [.ptr M 0] h K:=by
 have hnc:∀ c o:Nat,aJ (.ptr c o)=some (.ptr c o):=fun _ _=>rfl;refine F.yD ?_;rw [F.Av];have x1:=x.ext (aV.alloc h (.cells [I6 0,.ai]));have g:(h.alloc (.cells [I6 0,.ai])).get h.next=sC [I6 0,.ai]:=ak _ _
 simp only [aO,hnc,x1.rules,x1.base];refine af (bI iX ho fun out hz hF=>?_)
 have st:aS 2 (.ptr h.next 0) (.agg (ah out)) (h.alloc (.cells [I6 0,.ai]))=some ((h.alloc (.cells [I6 0,.ai])).set h.next (.cells (ah out))):=by
  rw [cj (n:=2) (v:=.agg (ah out)) g rfl (bU out) (by simp)];rfl
 have l1:au (some 2) (.ptr h.next 0) ((h.alloc (.cells [I6 0,.ai])).set h.next (.cells (ah out)))=some (.agg (ah out)):=by
  rw [aj (cs:=ah out) (by rw [Heap.aG,if_pos rfl]),jZ (cs:=ah out) (n:=2) rfl]
 simp only [aO,reduceEqDiff,reduceIte,st,P9,l1];exact hK out _ ((aV.alloc _ _).set (dK _) _) ⟨hz,hF⟩
def SI(rs:List aI)(nm:cc)(k:Nat):Prop:=nm ∈ bC rs/\ke rs nm=k
theorem abA(hg:nk rs)(hr:r ∈ rs):r.body.l.length<=20:=by
 have:=Ej hg hr;unfold lI at this;simp only [and_eq_true,decide_eq_true_eq] at this;exact this.2.2.1
theorem Fp{rules:Sl aI}(x:j6 rules M h s wv)(iX:∀ r ∈ rules.l,r.k8)(ho:dw rules.l s)(hn:s.size=(n:Int)){t:Sl Int}(qv:t.l.length<=cw)
  (h4:¬ SI rules.l nm t.l.length->∀ h',aV h h'->K (.ret (.tuple [I6 0,I6 4])) h'=true)
  (h0:SI rules.l nm t.l.length->∀ (out:ct) h',aV h h'->kY rules.l s out->K (.ret (.tuple [I6 ((iY n (ff n out) nm t.l rules.l:Nat):Int),I6 0])) h'=true) :
  Sem TP 81 [.ptr M 0,.str nm,dH t] h K:=by
 have hnc:∀ c o:Nat,aJ (.ptr c o)=some (.ptr c o):=fun _ _=>rfl;obtain ⟨n',vE,n1,sK,_⟩:=iL ho.valid;obtain rfl:n'=n:=by omega
 obtain ⟨m,jb⟩:=ho.iD.go;have uo:=ho.iD.k8;have hbig:rules.l.length<=cw:=by unfold cw;omega
 refine F.wg ?_;rw [F.xI];simp only [aO,hnc,x.rules];refine af (dS uo fun d hd=>?_)
 have hdl:d.l.length<=cw:=by
  rw [hd];have:=rU rules.l [];have h2:(cZ rules.l).length<=0+rules.l.length:=this;unfold cw;omega
 simp only [aO];refine af (A6 hdl ?_)
 have XT:(d.l.any fun y=>y==nm)=decide (nm ∈ bC rules.l):=by
  rw [Bool.eq_iff_iff,List.any_eq_true,decide_eq_true_eq,<- ej,<- hd];constructor
  ·rintro ⟨y,hy,e⟩;have:y=nm:=by simpa using e
   rw [<- this];exact hy
  ·exact fun h=>⟨_,h,by simp⟩
 rw [XT];by_cases hin:nm ∈ bC rules.l
 ·simp only [fh hin,aO,Bool.not_true,x.rules];refine af (eV uo (fun r hr=>abA ho.iD hr) ?_);rw [Pz jb hin];simp only [aO,cy];by_cases hk:ke rules.l nm=t.l.length
  ·simp only [fh (show ((ke rules.l nm:Nat):Int)=((t.l.length:Nat):Int) by omega),Bool.not_true,aK];refine af (Ac x iX ho fun out h2 x2 hrun=>?_);have aeS:=hrun.valid ho;have anU:=fO aeS;simp only [aO];refine af (Na anU.2 aeS fun w hw=>?_);have xr:=x.ext x2;have Yd:fI w.l=ff n' out:=by rw [hw,VB out (by rw [hrun.size,hn]),PU]
   obtain ⟨hrz,Fk,hF,aj9⟩:=hrun;have ac4:kY rules.l s out:=⟨hrz,Fk,hF,aj9⟩
   have h64:∀ r ∈ rules.l,n' ^ (varsOf r).length<=65536:=fun r hr=>by
    have:s.size.toNat=n':=(by omega);rw [<- this];exact Nat.le_of_not_lt fun hlt=>ho.wY (.inr (.inr ⟨r,hr,hlt⟩))
   have hfit:∀ r ∈ rules.l,oE n' r w.l:=fun r hr=>by
    rw [hw];exact abr ho jb hn aeS ac4.size (Nf aj9) hr
   simp only [aO];refine aB 0 rules.l.length (zero_le _) (fun i e h'=>h'=h2/\e 0 = .ptr M 0/\e 1 = .str nm/\e 2=dH t/\e 8=dR kT 3 w/\e 9=I6 ((iY n' (ff n' out) nm t.l (rules.l.take i):Nat):Int)/\e 10=I6 (i:Int)) ⟨rfl,rfl,rfl,rfl,rfl,rfl,rfl⟩ ?_ ?_
   ·rintro i e h' _ hi ⟨rfl,e0,e1,e2,e8,e9,iJ⟩ K' vE hx hr hp;obtain ⟨r,hv⟩:=dM hi;have kW:=ij hv
    have ln:au none (.dL (rules.l.flatMap bY) (i*3)) h'=some (.str r.name):=by
     have:=dU (h:=h') fo hv (k:=0) (by omega);rw [Nat.add_zero] at this;rw [this];rfl
    have la:au none (.dL (rules.l.flatMap bY) (i*3+1)) h'=some (iz r.args):=dU fo hv (by omega)
    have gw:iY n' (ff n' out) nm t.l (rules.l.take (i+1))=iY n' (ff n' out) nm t.l (rules.l.take i)+if r.name=nm then Gg n' (ff n' out) r t.l else 0:=by
     rw [take_add_one,hv];exact Fo _ _ _ _ _ _
    rw [F.b7.aP];simp only [e0,e1,iJ,aO,hnc,xr.rules,aU hi,aQ rules hi,ln]
    cases rF:(r.name==nm) with
    |false=>
     have hne:r.name≠nm:=fun e=>by rw [e] at rF;simp at rF
     replace gw:iY n' (ff n' out) nm t.l (rules.l.take (i+1))=iY n' (ff n' out) nm t.l (rules.l.take i):=(by rw [gw,if_neg hne];rfl);simp only [Bool.not_false,aL,aE hi hbig,dr];rw [<- gw] at e9;exact vE _ _ ⟨rfl,e0,e1,e2,e8,e9,rfl⟩
    |true=>
     have uO:r.name=nm:=(by simpa using rF);rw [if_pos uO,VJ n1] at gw;have AO:r.args.l.length=t.l.length:=by rw [<- hk,<- uO,IX jb kW]
     simp only [Bool.not_true,aK,aO,dB fo hv];refine af (bX (iX r kW) fun al hal=>?_);have aka:=T2 ho kW;have jS:al.l.length<=cw:=by rw [hal];unfold cw;omega
     simp only [aO,xr.size,hn,hal];refine af (A5 n1 aka (h64 r kW) fun y hy=>?_);have hyl:y.l.length=n' ^ (varsOf r).length:=by have:=congrArg List.length hy;rw [length_map,qS] at this;exact this
     have hyb:y.l.length<=cw:=by have:=h64 r kW;rw [hyl];unfold cw;omega
     have Ql:iY n' (ff n' out) nm t.l (rules.l.take i)<=60*65536:=by
      have:=Es (n:=n') (L:=ff n' out) (nm:=nm) (t:=t.l) (rs:=rules.l.take i) (B:=65536) fun q hq=>h64 q (mem_of_mem_take hq);have h3:(rules.l.take i).length<=60:=by rw [length_take];omega
      exact Nat.le_trans this (mul_le_mul_right _ h3)
     generalize iY n' (ff n' out) nm t.l (rules.l.take i)=C at gw Ql e9;simp only [aO]
     refine aB 0 y.l.length (zero_le _) (fun j e Ga=>Ga=h'/\e 0 = .ptr M 0/\e 1 = .str nm/\e 2=dH t/\e 8=dR kT 3 w/\e 9=I6 ((C+(((nS n' (varsOf r).length).take j).filter fun us=>lK n' (ff n' out) r us&&vB r t.l us).length:Nat):Int)/\e 10=I6 (i:Int)/\e 11=iz al/\e 12=kM y/\e 13=I6 (j:Int))
      ⟨rfl,e0,e1,e2,e8,e9,iJ,rfl,rfl,rfl⟩ ?_ ?_
     ·rintro j e Ga _ hj ⟨rfl,e0,e1,e2,e8,e9,iJ,l9,uq,qC⟩ K2 qj fK r7 Ay;obtain ⟨u,hvy⟩:=dM hj;have hui:(nS n' (varsOf r).length)[j]?=some u.l:=by rw [<- hy,getElem?_map,hvy];rfl
      have hau:AD n' r u.l:=LL n1 |>.1 (ij hui)
      have htk:((nS n' (varsOf r).length).take (j+1)).filter (fun us=>lK n' (ff n' out) r us&&vB r t.l us)=((nS n' (varsOf r).length).take j).filter (fun us=>lK n' (ff n' out) r us&&vB r t.l us)++if (lK n' (ff n' out) r u.l&&vB r t.l u.l)=true then [u.l] else []:=by
       rw [take_add_one,hui,filter_append,toList_some,filter_cons];rfl
      have hcl:(((nS n' (varsOf r).length).take j).filter fun us=>lK n' (ff n' out) r us&&vB r t.l us).length<=y.l.length:=by
       refine Nat.le_trans (length_filter_le _ _) ?_;rw [length_take];omega
      have h65:=h64 r kW;generalize (((nS n' (varsOf r).length).take j).filter fun us=>lK n' (ff n' out) r us&&vB r t.l us)=flt at htk hcl e9
      have cont:∀ E:Env,E 0 = .ptr M 0->E 1 = .str nm->E 2=dH t->E 8=dR kT 3 w->E 9=I6 ((C+(flt++if (lK n' (ff n' out) r u.l&&vB r t.l u.l)=true then [u.l] else []).length:Nat):Int)->E 10=I6 (i:Int)->E 11=iz al->E 12=kM y->E 13=I6 ((j+1:Nat):Int)->K2 .normal (sM E 118 Ga)=true:=by
       intro E E0 E1 E2 E8 E9 E10 E11 E12 E13;exact qj E Ga ⟨rfl,E0,E1,E2,E8,by rw [htk];exact E9,E10,E11,E12,E13⟩
      rw [F.b7.cU];simp only [e0,e2,iJ,l9,uq,qC,aO,hnc,xr.rules,aU hj,aQ rules hi,la,aQ y hj,eY hvy];refine af (cO (iX r kW) hal jS (by exact hau.1) AO qv ?_)
      cases hh:vB r t.l u.l with
      |false=>
       rw [hh,Bool.and_false] at cont;simp only [aO,aE hj hyb];refine cont _ ?_ ?_ ?_ ?_ ?_ ?_ ?_ ?_ rfl
       ·exact e0
       ·exact e1
       ·exact e2
       ·exact e8
       ·refine Eq.trans (b:=e 9) rfl ?_;rw [e9];simp
       ·exact iJ
       ·exact l9
       ·exact uq
      |true=>
       rw [hh,Bool.and_true] at cont;simp only [aO,e8,xr.rules,xr.size,hn,aQ rules hi,dB fo hv];refine af (dJ n1 (iX r kW) aka hal hau (hfit r kW) ?_);rw [Yd]
       cases ha:lK n' (ff n' out) r u.l with
       |false=>
        rw [ha] at cont;simp only [aO,aE hj hyb];refine cont _ ?_ ?_ ?_ ?_ ?_ ?_ ?_ ?_ rfl
        ·exact e0
        ·exact e1
        ·exact e2
        ·exact e8
        ·refine Eq.trans (b:=e 9) rfl ?_;rw [e9];simp
        ·exact iJ
        ·exact l9
        ·exact uq
       |true=>
        rw [ha] at cont
        have yP:aF .add (I6 ((C+flt.length:Nat):Int)) (I6 1)=some (I6 ((C+flt.length+1:Nat):Int)):=by
         rw [j9 (by omega) (by omega)];rfl
        simp only [aO,e9,yP,aE hj hyb];refine cont _ ?_ ?_ ?_ ?_ ?_ ?_ ?_ ?_ rfl
        ·exact e0
        ·exact e1
        ·exact e2
        ·exact e8
        ·refine Eq.trans (b:=I6 ((C+flt.length+1:Nat):Int)) rfl ?_;simp [Nat.add_assoc]
        ·exact iJ
        ·exact l9
        ·exact uq
     ·rintro e Ga ⟨rfl,e0,e1,e2,e8,e9,iJ,l9,uq,qC⟩ K2 fK;rw [F.b7.cU];simp only [uq,qC,aO,aR];rw [fK,F.b7.cm];simp only [aO,reduceEqDiff,reduceIte,iJ,aE hi hbig];rw [jD (by rw [qS,hyl];omega),<- gw] at e9;exact vE _ _ ⟨rfl,e0,e1,e2,e8,e9,rfl⟩
   ·rintro e h' ⟨rfl,e0,e1,e2,e8,e9,iJ⟩ K' hx;rw [F.b7.aP];simp only [e0,iJ,aO,hnc,xr.rules,aR];rw [hx,F.b7.aC];rw [jD (dK _)] at e9;simp only [kC,reduceEqDiff,reduceIte,e9];exact h0 ⟨hin,hk⟩ out h' x2 ac4
  ·simp only [eR (show ¬ ((ke rules.l nm:Nat):Int)=((t.l.length:Nat):Int) by omega),Bool.not_false,aL];exact h4 (fun h=>hk h.2) h (aV.refl h)
 ·simp only [eR hin,aO,Bool.not_false];exact h4 (fun h=>hin h.1) h (aV.refl h)
theorem gL.agree{l:List Aa}(o:gL N h d l)(hg:∀ b,bR d=some b->h'.get b=h.get b)(hn:h.next<=h'.next):gL N h' d l:=by
 cases o with
 |nil=>exact .nil
 |row b l cs h1 h2 h3 h4 h5=>exact .row b l cs h1 (Nat.lt_of_lt_of_le h2 hn) (by rw [hg b rfl];exact h3) h4 h5
inductive gC {α:Type} (enc:α->List AV) (sz:Nat) (h:Heap):AV->List α->Prop
 |nil:gC enc sz h .ai []
 |row (b:Nat) (l:List α) (cs:List AV):b<h.next->h.get b=sC cs->l.length*sz<=cs.length->cs.take (l.length*sz)=l.flatMap enc->gC enc sz h (.slice b 0 l.length sz) l
section
variable {α:Type} {enc:α->List AV} {sz:Nat} {h h':Heap} {d:AV} {l:List α}
theorem gC.agree(o:gC enc sz h d l)(hg:∀ b,bR d=some b->h'.get b=h.get b)(hn:h.next<=h'.next):gC enc sz h' d l:=by
 cases o with
 |nil=>exact .nil
 |row b l cs h2 h3 h4 h5=>exact .row b l cs (Nat.lt_of_lt_of_le h2 hn) (by rw [hg b rfl];exact h3) h4 h5
theorem gC.lt(o:gC enc sz h d l){b:Nat}(hb:bR d=some b):b<h.next:=by
 cases o with
 |nil=>cases hb
 |row c _ cs h2 _ _ _=>cases hb;exact h2
theorem gC.akb(o:gC enc sz h d l):Row enc sz h d l:=by
 cases o with
 |nil=>exact ⟨rfl,rfl⟩
 |row b l cs h2 h3 h4 h5=>
  refine ⟨rfl,?_⟩;simp only [gW,h3,if_true,Nat.zero_add,drop_zero];rw [if_pos h4,h5]
theorem gC.len(o:gC enc sz h d l)(h':Heap):bK .slice d h'=some (I6 (l.length:Int)):=by cases o<;>rfl
theorem gC.ki(o:gC enc sz h d l):d.dX = [d]/\aW [d]=true:=by cases o<;>exact ⟨rfl,rfl⟩
theorem gC.push(o:gC enc sz h d l)(he:∀ a,(enc a).length=sz)(h1:∀ a,aW (enc a)=true)(hroom:(l.length+1)*bytes<=cz)(c:α) :
  ∃ d' h',bB sz bytes d (.slice h.next 0 1 sz) (h.alloc (.cells (enc c)))=some (d',h')/\gC enc sz h' d' (l++[c])/\h.next<=h'.next/\(∀ b,b<h.next->bR d≠some b->h'.get b=h.get b)/\∀ b,bR d'=some b->h.next<=b:=by
 have g:=ak h (.cells (enc c));have hn:(h.alloc (.cells (enc c))).next=h.next+1:=Heap.aD h _
 have hf:gW sz 1 (.slice h.next 0 1 sz) (h.alloc (.cells (enc c)))=some (enc c):=by
  simp only [gW,g,if_true,Nat.zero_add,Nat.one_mul,drop_zero];rw [if_pos (by rw [he];exact dK _),jD (by rw [he];exact dK _)]
 cases o with
 |nil=>
  rw [length_nil,Nat.zero_add] at hroom;refine ⟨.slice (h.alloc (.cells (enc c))).next 0 1 sz,(h.alloc (.cells (enc c))).alloc (.cells (enc c)),?_,?_,by rw [Heap.aD,hn];omega,fun b hb _=>by rw [Heap.aN,if_neg (by omega),Heap.aN,if_neg (by omega)],fun b hb=>?_⟩
  ·simp only [bB,lJ,hf,h1,Bool.and_true];rw [if_neg (by omega),if_pos (fh hroom)]
  ·refine .row _ [c] (enc c) (by simp only [Heap.aD];omega) (ak _ _) (by simp [he]) ?_;rw [jD (by simp [he])];simp
  ·have:(h.alloc (.cells (enc c))).next=b:=Option.some.inj hb
   omega
 |row b l cs h2 h3 h4 h5=>
  have g2:(h.alloc (.cells (enc c))).get b=sC cs:=by rw [Heap.aN,if_neg (by omega)];exact h3
  have mS:((h.alloc (.cells (enc c))).set b .dead).next=h.next+1:=by rw [Heap.aT,hn]
  refine ⟨.slice (h.alloc (.cells (enc c))).next 0 (l.length+1) sz,((h.alloc (.cells (enc c))).set b .dead).alloc (.cells ((cs.drop 0).take (l.length*sz)++enc c)),?_,?_,by rw [Heap.aD,mS];omega,fun b' hb hne=>?_,fun b' hb=>?_⟩
  ·simp only [bB,lJ,hf,g2,h1,Bool.and_true,if_true];rw [if_neg (by omega),if_pos (by simp only [and_eq_true,decide_eq_true_eq];omega)]
  ·have hcs:(cs.drop 0).take (l.length*sz)++enc c=(l++[c]).flatMap enc:=by
    rw [drop_zero,h5,flatMap_append];simp
   have Nq:l.length+1=(l++[c]).length:=by simp
   rw [hcs,Nq];have TZ:((l++[c]).flatMap enc).length=(l++[c]).length*sz:=eS he _;refine .row _ (l++[c]) ((l++[c]).flatMap enc) (by simp only [Heap.aD,Heap.aT];omega) ?_ (Nat.le_of_eq TZ.symm) (jD (Nat.le_of_eq TZ));rw [hn,<- mS];exact ak _ _
  ·rw [Heap.aN,if_neg (by omega),Heap.aG,if_neg (fun e=>hne (by rw [e];rfl)),Heap.aN,if_neg (by omega)]
  ·have:(h.alloc (.cells (enc c))).next=b':=Option.some.inj hb
   omega
theorem gC.last{c:α}(o:gC enc sz h d (l++[c]))(he:∀ a,(enc a).length=sz):∃ b,bR d=some b/\jw sz d (I6 ((l.length:Nat):Int))=some (.ptr b (l.length*sz))/\au (some sz) (.ptr b (l.length*sz)) h=some (.agg (enc c)) /\
  fR (some sz) d none (some (I6 ((l.length:Nat):Int)))=some (.slice b 0 l.length sz)/\gC enc sz h (.slice b 0 l.length sz) l:=by
 generalize hm:l++[c]=m at o;have Vw:m.length=l.length+1:=by rw [<- hm];simp
 cases o with
 |nil=>simp at Vw
 |row b m cs h2 h3 h4 h5=>
  have TZ:(l.flatMap enc).length=l.length*sz:=eS he l;have hms:m.length*sz=l.length*sz+sz:=by rw [Vw,Nat.add_mul,Nat.one_mul]
  have e5:cs.take (l.length*sz+sz)=l.flatMap enc++enc c:=by rw [<- hms,h5,<- hm,flatMap_append];simp
  refine ⟨b,rfl,?_,?_,?_,?_⟩
  ·simp [jw,asNat,Vw]
  ·rw [aj h3];simp only [kQ];rw [if_pos (by omega)]
   have:(cs.drop (l.length*sz)).take sz=enc c:=by
    have e6:(cs.take (l.length*sz+sz)).drop (l.length*sz)=enc c:=(by rw [e5,<- TZ,drop_left]);rw [drop_take] at e6
    rwa [show l.length*sz+sz-l.length*sz=sz by omega] at e6
   rw [this]
  ·simp [fR,lJ,pH,asNat,Vw]
  ·refine .row b l cs h2 h3 (by omega) ?_;have:(cs.take (l.length*sz+sz)).take (l.length*sz)=l.flatMap enc:=by rw [e5,<- TZ,take_left]
   rwa [take_take,Nat.min_eq_left (by omega)] at this
theorem gC.clone(o:gC enc sz h d l)(he:∀ a,(enc a).length=sz)(h1:∀ a,aW (enc a)=true)(hl:l.length*bytes<=cz) :
  ∃ b h',bB sz bytes (.slice h.next 0 0 sz) d (h.alloc (.cells []))=some (.slice b 0 l.length sz,h')/\gC enc sz h' (.slice b 0 l.length sz) l/\aV h h'/\h.next<=b:=by
 have g:(h.alloc (.cells [])).get h.next=sC []:=ak _ _
 have o':gC enc sz (h.alloc (.cells [])) d l:=o.agree (fun b hb=>(aV.alloc _ _).get b (o.lt hb)) (aV.alloc _ _).next
 have r:=o'.akb;have rc:=r.cells;by_cases hz:l.length=0
 ·have:l = []:=eq_nil_of_length_eq_zero hz;subst this;refine ⟨h.next,h.alloc (.cells []),?_,.row h.next [] [] (by rw [Heap.aD];omega) g (by simp) (by simp),aV.alloc _ _,dK _⟩;simp only [length_nil] at rc;simp [bB,r.len,rc]
 ·have TZ:(l.flatMap enc).length=l.length*sz:=eS he _;refine ⟨h.next+1,((h.alloc (.cells [])).set h.next .dead).alloc (.cells (l.flatMap enc)),?_,?_,?_,by omega⟩
  ·simp only [bB,r.len,rc,if_true,if_neg hz,g];rw [if_pos (by simp [Je h1];omega)];simp [Heap.aD]
  ·refine .row _ l (l.flatMap enc) (by simp only [Heap.aD,Heap.aT];omega) ?_ (Nat.le_of_eq TZ.symm) (jD (Nat.le_of_eq TZ));have:=ak ((h.alloc (.cells [])).set h.next .dead) (.cells (l.flatMap enc))
   rwa [Heap.aT,Heap.aD] at this
  ·exact ((aV.alloc h (.cells [])).set (dK _) _).trans (aV.alloc _ _)
end
theorem gL.akc{l:List Aa}(o:gL N h d l):gC fU 4 h d l:=by
 cases o with
 |nil=>exact .nil
 |row b l cs h1 h2 h3 h4 h5=>exact .row b l cs h2 h3 h4 h5
theorem gC.aeT{l:List Aa}(o:gC fU 4 h d l)(hN:bR d≠some N):gL N h d l:=by
 cases o with
 |nil=>exact .nil
 |row b l cs h2 h3 h4 h5=>exact .row b l cs (fun e=>hN (by rw [<- e];rfl)) h2 h3 h4 h5
theorem Km{l:List Aa}(o:gC fU 4 h d l)(hl:l.length<=1000000)
  (hK:∀ d' h',aV h h'->gC fU 4 h' d' l->(∀ b,bR d'=some b->h.next<=b)->K (.ret d') h'=true):Sem TP 80 [d] h K:=by
 have hm:cz=140737488355328:=rfl;refine F.l7 ?_;rw [F.mB]
 cases o with
 |nil=>
  simp only [show jC (.slice 97) .ai .ai=some bT from rfl,aO];exact hK _ h (aV.refl h) .nil (fun b hb=>by cases hb)
 |row b l cs h2 h3 h4 h5=>
  obtain ⟨b',h',ap,o',x,hb⟩:=(gC.row b l cs h2 h3 h4 h5:gC fU 4 h _ l).clone Et sU (bytes:=48) (by rw [hm];omega);simp only [show jC (.slice 97) (.slice b 0 l.length 4) .ai=some bF from rfl,aO,show eN [] [] []=some [] from rfl,ap];exact hK _ h' x o' (fun c hc=>by have:b'=c:=Option.some.inj hc;omega)
theorem gC.form{enc:α->List AV}{l:List α}(o:gC enc sz h d l):d = .ai\/∃ b n,d = .slice b 0 n sz:=by
 cases o with
 |nil=>exact .inl rfl
 |row b l cs _ _ _ _=>exact .inr ⟨b,_,rfl⟩
theorem VK(x:Sl aI)(s all:ct)(hd:d = .ai\/∃ b n,d = .slice b 0 n 4):iP [.ai,I6 0,.ai,I6 0,.ai,.ai] [(0,1),(1,2),(3,2),(5,1)] [gm x,.agg (ah s),.agg (ah all),d]=some (.agg (kG x s all d)):=by
 obtain ⟨z,r⟩:=s;obtain ⟨z2,r2⟩:=all;rcases hd with rfl|⟨b,n,rfl⟩<;>cases x<;>cases r<;>cases r2<;>rfl
theorem VL(x:Sl aI)(s all:ct)(hd:aW [d]=true):aW (kG x s all d)=true:=by
 unfold kG;simp only [aW,fS,Bool.and_true] at hd ⊢;rw [hd];rfl
theorem Qa{rs:Sl aI}{all:ct}{dl:List Aa}(x:eA rs N h s all dn)(o:gL N h dn dl)(hl:dl.length<=1000000)(hp:0<s.size)
  (hK:∀ (N':Nat) h' EM,aV h h'->h.next<=N'->eA rs N' h' s all EM->gL N' h' EM dl->(∀ b,bR EM=some b->h.next<=b)->K (.ret (.ptr N' 0)) h'=true):Sem TP 37 [.ptr N 0] h K:=by
 have hnc:∀ c o:Nat,aJ (.ptr c o)=some (.ptr c o):=fun _ _=>rfl;refine F.xw ?_;rw [F.yC];refine af (rM x hp ?_);simp only [aO,Bool.not_true,hnc,x.rules,x.base,x.all,x.done];refine af (Km o.akc hl fun d' h' xe o' hb=>?_);have x':=x.ext xe;have hc:=o'.ki;simp only [aO,x'.rules,x'.base,x'.all,AV.beq_refl,Bool.and_self,if_true,VK rs s all o'.form,cD (VL rs s all hc.2)];have hlt:∀ b,bR d'=some b->b<h'.next:=fun b hb=>o'.lt hb
 have xa:=aV.alloc h' (.cells (kG rs s all d'));refine hK h'.next _ d' (xe.trans xa) xe.next ⟨by rw [Heap.aD];omega,ak _ _⟩ ?_ hb
 exact (o'.agree (fun b hb=>xa.get b (hlt b hb)) xa.next).aeT fun e=>by have:=hlt _ e;omega
theorem abB(x:Sl aI)(s:ct):iP [.ai,I6 0,.ai,.ai] [(0,1),(1,2)] [gm x,.agg (ah s)]=some (.agg [gm x,I6 s.size,qm s.aA,.ai]):=by
 obtain ⟨z,r⟩:=s;cases x<;>cases r<;>rfl
theorem Yr(x:Sl aI)(s:ct)(b n:Nat):iP [.ai,I6 0,.ai,.ai] [(0,1),(1,2),(3,1)] [gm x,.agg (ah s),.slice b 0 n 2]=some (.agg [gm x,I6 s.size,qm s.aA,.slice b 0 n 2]):=by
 obtain ⟨z,r⟩:=s;cases x<;>cases r<;>rfl
theorem T3(x:Sl aI)(s:ct)(hd:aW [d]=true):aW [gm x,I6 s.size,qm s.aA,d]=true:=by
 simp only [aW,fS,Bool.and_true] at hd ⊢;rw [hd];rfl
theorem VM{rules:Sl aI}(hK:∀ M h',aV h h'->h.next<=M->j6 rules M h' s .ai->K (.ret (.ptr M 0)) h'=true):Sem TP 36 [gm rules,.agg (ah s)] h K:=by
 refine F.J4 ?_;rw [F.MC];have g:(h.alloc (.cells (ah s))).get h.next=sC (ah s):=ak _ _
 have n:(h.alloc (.cells (ah s))).next=h.next+1:=Heap.aD _ _
 simp only [cD (bU s),dr,aj g,jZ (cs:=ah s) (n:=2) rfl,abB,cD (T3 rules s (d:=.ai) rfl)];exact hK (h.alloc (.cells (ah s))).next _ ((aV.alloc _ _).trans (aV.alloc _ _)) (by omega) ⟨by simp only [Heap.aD];omega,ak _ _⟩
theorem Qb{rules:Sl aI}(x:j6 rules M h s wv)(o:gC ah 2 h wv W)(hl:W.length<=1000000)
  (hK:∀ (M':Nat) h' SJ,aV h h'->h.next<=M'->j6 rules M' h' s SJ->gC ah 2 h' SJ W->(∀ b,bR SJ=some b->h.next<=b/\b<M')->K (.ret (.ptr M' 0)) h'=true):Sem TP 38 [.ptr M 0] h K:=by
 have hnc:∀ c o:Nat,aJ (.ptr c o)=some (.ptr c o):=fun _ _=>rfl;have hm:cz=140737488355328:=rfl;refine F.v8 ?_;rw [F.xy];obtain ⟨b',h',ap,o',xe,hb⟩:=o.clone (fun _=>rfl) bU (bytes:=32) (by rw [hm];omega);have x1:=x.ext (aV.alloc h (.cells []));have x':=x.ext xe;simp only [aO,hnc,x.rules,x.base,show eN [] [] []=some [] from rfl,x1.C8,ap,x'.rules,x'.base,AV.beq_refl,Bool.and_self,if_true,Yr,cD (T3 rules s (d:=.slice b' 0 W.length 2) rfl)];have xa:=aV.alloc h' (.cells [gm rules,I6 s.size,qm s.aA,.slice b' 0 W.length 2]);refine hK h'.next _ _ (xe.trans xa) xe.next ⟨by rw [Heap.aD];omega,ak _ _⟩ (o'.agree (fun b hb=>xa.get b (o'.lt hb)) xa.next) (fun b hb2=>?_)
 have h2:=o'.lt hb2;have:b'=b:=Option.some.inj hb2;omega
theorem Jl{rules:Sl aI}(x:j6 rules M h s wv)(o:gC ah 2 h wv W)(hM:bR wv≠some M)(hl:W.length<=1000000)
  (h6:W = []->K (.ret (I6 6)) h=true)
  (h0:∀ (V:List ct) (w:ct),W=V++[w]->∀ h' SJ,j6 rules M h' w SJ->gC ah 2 h' SJ V->BS M h h'->(∀ b,bR SJ=some b->bR wv=some b)->K (.ret (I6 0)) h'=true):Sem TP 82 [.ptr M 0] h K:=by
 have hnc:∀ c o:Nat,aJ (.ptr c o)=some (.ptr c o):=fun _ _=>rfl;refine F.xJ ?_;rw [F.yG];simp only [aO,hnc,x.C8,o.len,cy];rcases eq_nil_or_concat W with rfl|⟨V,w,rfl⟩
 ·simp only [length_nil,Int.ofNat_zero,decide_true,aO];exact h6 rfl
 ·rw [concat_eq_append] at o hl h0 ⊢;obtain ⟨b,hb,i1,i2,i3,i4⟩:=o.last (fun _=>rfl);have Nq:(V++[w]).length=V.length+1:=by simp
  have hne:decide ((((V++[w]).length:Nat):Int)=0)=false:=eR (by rw [Nq];omega)
  have hpr:aF .sub (I6 (((V++[w]).length:Nat):Int)) (I6 1)=some (I6 ((V.length:Nat):Int)):=by
   rw [Nq,OG (by omega) (by rw [Nq] at hl;unfold cw;omega)];rfl
  have st1:aS 2 (.ptr M 1) (.agg (ah w)) h=some (h.set M (.cells [gm rules,I6 w.size,qm w.aA,wv])):=by
   rw [cj (n:=2) (v:=.agg (ah w)) x.get rfl (bU w) (by simp)];rfl
  have g1:(h.set M (.cells [gm rules,I6 w.size,qm w.aA,wv])).get M=sC [gm rules,I6 w.size,qm w.aA,wv]:=by rw [Heap.aG,if_pos rfl]
  have US:aS 1 (.ptr M 3) (.slice b 0 V.length 2) (h.set M (.cells [gm rules,I6 w.size,qm w.aA,wv]))=some ((h.set M (.cells [gm rules,I6 w.size,qm w.aA,wv])).set M (.cells [gm rules,I6 w.size,qm w.aA,.slice b 0 V.length 2])):=by
   rw [cj (n:=1) (v:=.slice b 0 V.length 2) g1 rfl rfl (by simp)];rfl
  simp only [aO,hne,hpr,i1,i2,i3,st1,US];have aeU:BS M h ((h.set M (.cells [gm rules,I6 w.size,qm w.aA,wv])).set M (.cells [gm rules,I6 w.size,qm w.aA,.slice b 0 V.length 2])):=((aV.refl h).but M |>.set _).set _;refine h0 V w rfl _ _ ⟨by rw [Heap.aT,Heap.aT];exact x.lt,by rw [Heap.aG,if_pos rfl]⟩ (i4.agree (fun c hc=>aeU.get c (i4.lt hc) fun e=>hM ?_) aeU.next) aeU (fun c hc=>?_)
  ·have:b=c:=Option.some.inj hc;rw [hb,this,e]
  ·have:b=c:=Option.some.inj hc;rw [hb,this]
theorem Eu{rules:Sl aI}(x:j6 rules M h s wv)(o:gC ah 2 h wv W)(hM:bR wv≠some M)(hl:W.length<=1000000)(iX:∀ r ∈ rules.l,r.k8)(ho:dw rules.l s)
  {t:Sl Int} (qv:t.l.length<=1000)
  (h4:s.aA.l.find? (fe nm (t.l.length:Int))=none->∀ h',aV h h'->K (.ret (.tuple [.ai,.ai,I6 4])) h'=true)
  (h2:∀ r,s.aA.l.find? (fe nm (t.l.length:Int))=some r->jN s.size t.l=false->∀ h',aV h h'->K (.ret (.tuple [.ai,.ai,I6 2])) h'=true)
  (h0:∀ (j:Nat) (r:Rel),s.aA.l[j]?=some r->s.aA.l.find? (fe nm (t.l.length:Int))=some r->r.arity=(t.l.length:Int)->jN s.size t.l=true->∀ (s' before after:ct) h' SJ (f g:Sl AG),mN s j r t.l is s'->dw rules.l s'->kY rules.l s before->kY rules.l s' after ->
   j6 rules M h' s' SJ->gC ah 2 h' SJ (W++[s])->ac3 M wv h h'->(∀ b,bR SJ=some b->h.next<=b) ->
   f.l.map rL=mC (after.aA.l.map bp) (before.aA.l.map bp)->g.l.map rL=mC (before.aA.l.map bp) (after.aA.l.map bp)->K (.ret (.tuple [TU f,TU g,I6 0])) h'=true) :
  Sem TP 83 [.ptr M 0,.str nm,dH t,.bool is] h K:=by
 have hnc:∀ c o:Nat,aJ (.ptr c o)=some (.ptr c o):=fun _ _=>rfl;have hm:cz=140737488355328:=rfl;have hv:=ho.valid;have hs:=fO hv;refine F.yH ?_;rw [F.Ax];simp only [aO,reduceAdd,hnc,x.base];refine af (fM hs.2 ?_);rcases lP (dN nm) s.aA.l with ⟨w1,w2⟩|⟨j,r,w1,w2,w3⟩
 ·rw [w1];simp only [aO,show decide ((-1:Int)<0)=true from rfl];refine h4 ?_ h (aV.refl h);rw [find?_eq_none] at w2 ⊢;intro q hq hs;refine w2 q hq ?_;simp only [fe,and_eq_true] at hs;exact hs.1
 ·rw [w1];have BW:=find?_some w3;simp only [dN,beq_iff_eq] at BW;have L9:j<s.aA.l.length:=(lR.1 w2).1;simp only [aO,eR (show ¬ ((j:Nat):Int)<0 by omega),x.aA,aQ s.aA L9,zT w2,cy];by_cases hk:r.arity=(t.l.length:Int)
  ·have VZ:fe nm (t.l.length:Int) r=true:=by unfold fe;rw [BW,hk];simp
   have Lj:s.aA.l.find? (fe nm (t.l.length:Int))=some r:=by
    rcases lP (fe nm (t.l.length:Int)) s.aA.l with ⟨_,q2⟩|⟨i,q,q1,q2,q3⟩
    ·rw [find?_eq_none] at q2;exact absurd VZ (q2 r (ij w2))
    ·have:=Jj hv w2 VZ;have hij:i=j:=by omega
     subst hij;rw [w2] at q2;cases q2;exact q3
   simp only [fh hk,Bool.not_true,aK,aO,x.size];refine af (jq (by unfold cw;omega) ?_)
   cases hin:jN s.size t.l with
   |false=>
    simp only [aO,Bool.not_false];exact h2 r Lj hin h (aV.refl h)
   |true=>
    simp only [aO,Bool.not_true];refine af (Ac x iX ho fun before hA xA abC=>?_);obtain ⟨HB,hsB,pB,poB,pnB⟩:=cA (h:=hA) (zs:=[I6 0,.ai]) (cs:=ah before) (n:=2) rfl rfl (bU before);have eAB:aV hA HB:=⟨by omega,fun c hc=>poB c (by omega)⟩
    have e0B:=xA.trans eAB;have mA:=xA.next
    have xB:=x.ext e0B;have oB:gC ah 2 HB wv W:=o.agree (fun c hc=>e0B.get c (o.lt hc)) e0B.next
    obtain ⟨d',HC,ap,oC,nC,fC,nb⟩:=oB.push (fun _=>rfl) bU (bytes:=32) (by rw [hm];omega) s;have abD:=x.lt;have xC:j6 rules M HC s wv:=xB.agree (fC M xB.lt hM) nC;obtain ⟨k1,k2⟩:=oC.ki
    have st:aS 1 (.ptr M 3) d' HC=some (HC.set M (.cells [gm rules,I6 s.size,qm s.aA,d'])):=by
     rw [cj (n:=1) (v:=d') xC.get (by rw [k1];rfl) (by rw [k1];exact k2) (by simp),k1];rfl
    have xD:j6 rules M (HC.set M (.cells [gm rules,I6 s.size,qm s.aA,d'])) s d':=⟨by rw [Heap.aT];exact xC.lt,by rw [Heap.aG,if_pos rfl]⟩
    have nD:(HC.set M (.cells [gm rules,I6 s.size,qm s.aA,d'])).next=HC.next:=Heap.aT _ _ _
    have fD:∀ c,c≠M->(HC.set M (.cells [gm rules,I6 s.size,qm s.aA,d'])).get c=HC.get c:=fun c hc=>by rw [Heap.aG,if_neg hc]
    simp only [aO,hsB,xB.C8,xB.base,PR,ap,st];generalize (HC.set M (.cells [gm rules,I6 s.size,qm s.aA,d']))=HD at xD nD fD ⊢;have mZ:=(iM.1 hv).rel _ (List.mem_map_of_mem (ij w2));obtain ⟨_,k,kk1,_,_,kt⟩:=mZ;have kk1:r.arity=(k:Int):=kk1;have hlen:∀ u ∈ r.aM.l,u.l.length=t.l.length:=fun u hu=>by rw [(kt.1 _ (List.mem_map_of_mem hu)).1];omega
    simp only [aO,xD.base];refine af (kj hs.2 hs.1 w1 w2 hlen qv fun s' yg=>?_);have U4:=Jc ho w2 hk hin yg
    have US:aS 2 (.ptr M 1) (.agg (ah s')) HD=some (HD.set M (.cells [gm rules,I6 s'.size,qm s'.aA,d'])):=by
     rw [cj (n:=2) (v:=.agg (ah s')) xD.get rfl (bU s') (by simp)];rfl
    have xE:j6 rules M (HD.set M (.cells [gm rules,I6 s'.size,qm s'.aA,d'])) s' d':=⟨by rw [Heap.aT];exact xD.lt,by rw [Heap.aG,if_pos rfl]⟩
    have nE:(HD.set M (.cells [gm rules,I6 s'.size,qm s'.aA,d'])).next=HC.next:=by rw [Heap.aT,nD]
    have fE:∀ c,c≠M->(HD.set M (.cells [gm rules,I6 s'.size,qm s'.aA,d'])).get c=HC.get c:=fun c hc=>by rw [Heap.aG,if_neg hc,fD c hc]
    simp only [aO,US];generalize (HD.set M (.cells [gm rules,I6 s'.size,qm s'.aA,d']))=HE at xE nE fE ⊢;refine af (Ac xE iX U4 fun after hF xF abE=>?_);obtain ⟨HG,hsG,pG,poG,pnG⟩:=cA (h:=hF) (zs:=[I6 0,.ai]) (cs:=ah after) (n:=2) rfl rfl (bU after);have eFG:aV hF HG:=⟨by omega,fun c hc=>poG c (by omega)⟩
    have eEG:=xF.trans eFG;have mF:=xF.next
    have pB':HG.get hA.next=sC (ah before):=by
     rw [eEG.get _ (by omega),fE _ (by omega),fC _ (by omega) (fun hb=>by have:=o.lt hb;omega)];exact pB
    have lB:=eM pB';have lG:=eM pG;have Sv:=abC.sig abE (C0 w2 yg);have Nq:after.aA.l.length=before.aA.l.length:=by have:=congrArg List.length Sv;simpa using this
    simp only [aO,hsG,lB,lG];refine af (dP (abE.small U4) (abC.small ho) (by omega) fun f hf=>?_);simp only [aO,lB,lG,AV.beq_refl,Bool.and_self,if_true];refine af (dP (abC.small ho) (abE.small U4) (by omega) fun g hg=>?_);simp only [aO];have nbb:∀ c,bR d'=some c->h.next<=c:=fun c hc=>by have:=nb c hc;omega
    refine h0 j r w2 Lj hk hin s' before after HG d' f g yg U4 abC abE (xE.ext eEG) (oC.agree (fun c hc=>?_) (by omega)) ⟨by omega,fun c hc hcM hcw=>?_⟩ nbb hf hg
    ·have h5:=oC.lt hc;have h6:=nbb c hc;rw [eEG.get _ (by omega),fE _ (by omega)]
    ·rw [eEG.get _ (by omega),fE _ hcM,fC _ (by omega) hcw,e0B.get _ hc]
  ·simp only [eR hk,Bool.not_false,aL];refine h4 ?_ h (aV.refl h);rw [find?_eq_none];intro q hq hsq;simp only [fe,and_eq_true,beq_iff_eq,decide_eq_true_eq] at hsq;obtain ⟨i,hi⟩:=getElem?_of_mem hq;have hij:=Nj hv hi w2 (by rw [hsq.1,BW]);subst hij;rw [w2] at hi;cases hi;exact hk hsq.2
theorem abF{s0 s1 t:ct}{c:Aa}{r:Rel}(h2:dw rs s0)(h3:aeQ s0 c j r)(h4:mN s0 j r c.tuple.l c.to s1)(tY:mD t s1):∃ q:Rel,jh (fe c.name (c.tuple.l.length:Int)) t.aA.l=(j:Int)/\t.aA.l[j]?=some q/\q.arity=(c.tuple.l.length:Int)/\jN t.size c.tuple.l=true /\
  ∀ t',mN t j q c.tuple.l c.C8 t'->mD t' s0:=by
 obtain ⟨r1,g1,g2,g3,g4⟩:=aby h3.get h4;obtain ⟨q,q1,q2⟩:=tY.get g1
 have KG:cY s1=true:=by
  obtain ⟨n,hz,_⟩:=iL h2.valid;have hin:=h3.inb;exact Lw h2.valid h3.get h3.arity rfl (by rw [hz] at hin ⊢;simpa using hin) h4
 have VZ:fe c.name (c.tuple.l.length:Int) q=true:=by
  rw [T1 (r:=r) ?_,h3.sym];rw [q2];simp [oN,bp,g2,g3]
 have Sd:q.arity=(c.tuple.l.length:Int):=by
  have:q.arity=r1.arity:=congrArg (·.2.1) q2;rw [this,g3,h3.arity]
 refine ⟨q,Jj (tY.valid KG) q1 VZ,q1,Sd,by rw [tY.size,h4.size];exact h3.inb,fun t' hp=>?_⟩;have e1:q.aM.l.map Sl.l=r1.aM.l.map Sl.l:=congrArg (·.2.2) q2;have e2:q.name=r1.name:=congrArg (·.1) q2;have e3:q.arity=r1.arity:=congrArg (·.2.1) q2
 have YJ:mN s1 j r1 c.tuple.l c.C8 t':=by
  obtain ⟨ts,p1,p2,p3⟩:=hp.aA;exact ⟨by rw [hp.size,tY.size],ts,p1,by rw [<- e1];exact p2,by rw [p3,tY.Qy,e2,e3]⟩
 exact Yq h2.valid h3.get g1 h3.C8 h4 YJ
inductive RH (rs:List aI):ct->List Aa->List ct->Prop
 |nil {s:ct}:RH rs s [] []
 |step {s s1 s' w:ct} {dl:List Aa} {W:List ct} {j:Nat} {r:Rel} {c:Aa}:RH rs s dl W->dw rs s->aeQ s c j r->mN s j r c.tuple.l c.to s1->mD s' s1->mD w s->RH rs s' (dl++[c]) (W++[w])
theorem RH.VH{t:ct}{dl:List Aa}(h:RH rs s dl W)(ht:mD t s):RH rs t dl W:=by
 cases h with
 |nil=>exact .nil
 |step h1 h2 h3 h4 h5 h6=>exact .step h1 h2 h3 h4 (ht.trans h5) h6
theorem RH.len{dl:List Aa}(h:RH rs s dl W):W.length=dl.length:=by
 induction h with
 |nil=>rfl
 |step _ _ _ _ _ _ ih=>simp [ih]
theorem RH.Yn{dl:List Aa}{c:Aa}(h:RH rs s (dl++[c]) W):∃ (s0 s1:ct) (V:List ct) (w:ct) (j:Nat) (r:Rel),W=V++[w]/\RH rs s0 dl V/\dw rs s0/\aeQ s0 c j r/\mN s0 j r c.tuple.l c.to s1/\mD s s1/\mD w s0:=by
 generalize hd:dl++[c]=d at h
 cases h with
 |nil=>simp at hd
 |@step s0 s1 _ w dl' V j r c' h1 h2 h3 h4 h5 h6=>
  obtain ⟨rfl,e⟩:=append_inj' hd rfl;cases e;exact ⟨s0,s1,V,w,j,r,rfl,h1,h2,h3,h4,h5,h6⟩
structure Nk (rules xa:Sl aI) (h:Heap) (N M:Nat) (s all:ct) (dn:AV) (dl:List Aa) (sr:ct) (wv:AV) (W:List ct):Prop where
 at_:eA xa N h s all dn
 done:gL N h dn dl
 ok:dw xa.l s
 run:kY xa.l s all
 rat:j6 rules M h sr wv
 C8:gC ah 2 h wv W
 okr:dw rules.l sr
 V1:mD sr s
 Qc:RH xa.l s dl W
 ne:N≠M
 a1:bR wv≠some M
 a2:bR wv≠some N
 a3:bR dn≠some M
 a4:∀ b,bR dn=some b->bR wv≠some b
theorem Nk.gG{rules:Sl aI}{all:ct}{dl:List Aa}{sr:ct}(x:Nk rules xa h N M s all dn dl sr wv W)(hg:∀ b,b<h.next->b=N\/b=M\/bR dn=some b\/bR wv=some b->h'.get b=h.get b)(hn:h.next<=h'.next):Nk rules xa h' N M s all dn dl sr wv W:=
 ⟨x.at_.agree (hg N x.at_.lt (.inl rfl)) hn,x.done.agree (fun b hb=>hg b (x.done.lt hb).2 (.inr (.inr (.inl hb)))) hn,x.ok,x.run,x.rat.agree (hg M x.rat.lt (.inr (.inl rfl))) hn,x.C8.agree (fun b hb=>hg b (x.C8.lt hb) (.inr (.inr (.inr hb)))) hn,x.okr,x.V1,x.Qc,x.ne,x.a1,x.a2,x.a3,x.a4⟩
def pz(rules xa:Sl aI)(B:Nat->Prop)(h:Heap)(N M i:Nat):Prop:=∃ s all dn dl sr wv W,Nk rules xa h N M s all dn dl sr wv W/\dl.length<=i/\B N/\B M/\(∀ b,bR dn=some b->B b)/\∀ b,bR wv=some b->B b
theorem pz.gG{rules xa:Sl aI}{B:Nat->Prop}{h h':Heap}{N M i:Nat}(x:pz rules xa B h N M i)(hg:∀ b,b<h.next->B b->h'.get b=h.get b)(hn:h.next<=h'.next):pz rules xa B h' N M i:=by
 obtain ⟨s,all,dn,dl,sr,wv,W,p,hl,b1,b2,b3,b4⟩:=x;refine ⟨s,all,dn,dl,sr,wv,W,p.gG (fun b hb ho=>hg b hb ?_) hn,hl,b1,b2,b3,b4⟩;rcases ho with rfl|rfl|ho|ho
 ·exact b1
 ·exact b2
 ·exact b3 b ho
 ·exact b4 b ho
theorem pz.mono{rules:Sl aI}(x:pz rules xa B h N M i)(hij:i<=j):pz rules xa B h N M j:=by
 obtain ⟨s,all,dn,dl,sr,wv,W,p,hl,b⟩:=x;exact ⟨s,all,dn,dl,sr,wv,W,p,by omega,b⟩
structure tU (rules xa:Sl aI):Prop where
 copy:xa.l=rules.l.map iN
 ok:∀ r ∈ rules.l,r.ok
 k8:∀ r ∈ rules.l,r.k8
theorem tU.xok{rules:Sl aI}(c:tU rules xa):∀ r ∈ xa.l,r.ok:=by
 rw [c.copy];exact fun r hr=>by obtain ⟨q,hq,rfl⟩:=mem_map.1 hr;exact abw (c.ok q hq)
theorem tU.abH{rules:Sl aI}(c:tU rules xa):∀ r ∈ xa.l,r.k8:=by
 rw [c.copy];exact fun r hr=>by obtain ⟨q,hq,rfl⟩:=mem_map.1 hr;exact Yj (c.k8 q hq)
theorem tU.run{rules:Sl aI}(c:tU rules xa)(h:kY rules.l s out):kY xa.l s out:=by rw [c.copy];exact P0 h
theorem tU.runs{rules:Sl aI}(c:tU rules xa):dw xa.l s↔dw rules.l s:=by rw [c.copy];exact LH
theorem pz.now{rules:Sl aI}(c:tU rules xa)(x:pz rules xa B h N M i)
  (hK:∀ (a b:ct) h1,mD a b->a.small->aV h h1->(Sem TP 40 [.ptr M 0] h1 (fun o h2=>yes (∃ b',o = .ret (.agg (ah b'))/\aV h1 h2/\mD a b')) )->K (.ret (.agg (ah a))) h1=true):Sem TP 14 [.ptr N 0] h K:=by
 obtain ⟨s,all,dn,dl,sr,wv,W,p,_⟩:=x;have AE:0<s.size:=by obtain ⟨n,hn,n1,_⟩:=iL p.ok.valid;omega
 have hv:=p.run.valid p.ok;refine VD p.at_ AE (p.run.small p.ok) fun a h1 x1 c1 c2=>?_;have ha:mD a all:=⟨c1,c2⟩
 refine hK a all h1 ha (ha.small hv) x1 ?_;refine Ac (p.rat.ext x1) c.k8 p.okr fun out h2 x2 hrun=>?_;exact bO.2 ⟨out,rfl,x2,ha.trans ((p.run.VH (c.run hrun) p.V1.symm))⟩
theorem pz.clone{rules:Sl aI}(x:pz rules xa B h N M i)(hi:i<=1000)
  (hK:∀ (N':Nat) h1,aV h h1->Sem TP 38 [.ptr M 0] h1 (fun o h2=>yes (∃ M',o = .ret (.ptr M' 0)/\aV h1 h2/\pz rules xa (fun b=>h.next<=b/\b<h2.next) h2 N' M' i))->K (.ret (.ptr N' 0)) h1=true):Sem TP 37 [.ptr N 0] h K:=by
 obtain ⟨s,all,dn,dl,sr,wv,W,p,hl,_⟩:=x;have AE:0<s.size:=by obtain ⟨n,hn,n1,_⟩:=iL p.ok.valid;omega
 refine Qa p.at_ p.done (by omega) AE fun N' h1 EM x1 l1 at1 Fq abI=>?_;refine hK N' h1 x1 ?_;have hWl:=p.Qc.len;have m1:=x1.next
 refine Qb (p.rat.ext x1) (p.C8.agree (fun b hb=>x1.get b (p.C8.lt hb)) x1.next) (by omega) fun M' h2 SJ x2 l2 abJ Qd abK=>?_;have m2:=x2.next
 have akd:=at1.lt;have abD:=abJ.lt;refine bO.2 ⟨M',rfl,x2,s,all,EM,dl,sr,SJ,W,⟨at1.ext x2,Fq.but (x2.but N'),p.ok,p.run,abJ,Qd,p.okr,p.V1,p.Qc,by omega,fun e=>by have:=abK _ e;omega,fun e=>by have:=abK _ e;omega,fun e=>by have:=(Fq.lt e).2;omega,fun b hb e=>by have:=(Fq.lt hb).2;have:=abK _ e;omega⟩,hl,⟨l1,by omega⟩,⟨by omega,abD⟩,fun b hb=>⟨abI b hb,by have:=(Fq.lt hb).2;omega⟩,fun b hb=>⟨by have:=abK b hb;omega,Qd.lt hb⟩⟩
theorem VN{t:ct}(h:mD s t){k:Int}:(s.aA.l.find? (fe nm k)).map bp=(t.aA.l.find? (fe nm k)).map bp:=by
 have:∀ {l m:List Rel},l.map bp=m.map bp->(l.find? (fe nm k)).map bp=(m.find? (fe nm k)).map bp:=by
  intro l
  induction l with
  |nil=>intro m hm;cases m with
   |nil=>rfl
   |cons u m=>simp at hm
  |cons q l ih=>
   intro m hm
   cases m with
   |nil=>simp at hm
   |cons u m=>
    simp only [map_cons,List.cons.injEq] at hm;have hs:fe nm k q=fe nm k u:=T1 (by rw [hm.1]) nm k;rw [find?_cons,find?_cons,hs]
    cases fe nm k u with
    |true=>simp [hm.1]
    |false=>exact ih hm.2
 exact this h.Qy
theorem Qe{x:Sl AG}(ho:dw rs s)(ha:kY rs s a)(hx:x.l.map rL=mC (a.aA.l.map bp) (b.aA.l.map bp)):x.l.length<=cw/\∀ f ∈ x.l,f.tuple.l.length<=cw:=by
 have hs:=ha.small ho
 have h1:=LI (la:=a.aA.l.map bp) (lb:=b.aA.l.map bp) (M:=10000) fun d hd=>by
  obtain ⟨r,hr,rfl⟩:=mem_map.1 hd;have:=hs.CV r hr;simpa [bp] using this
 rw [length_map,<- hx,length_map] at h1;have h2:=hs.aA;have h3:a.aA.l.length*10000<=1000*10000:=mul_le_mul_right _ h2;refine ⟨by unfold cw;omega,fun f hf=>?_⟩;have hm:rL f ∈ mC (a.aA.l.map bp) (b.aA.l.map bp):=by rw [<- hx];exact List.mem_map_of_mem hf
 unfold mC at hm;obtain ⟨⟨d,d'⟩,hd,hm⟩:=mem_flatMap.1 hm;unfold uw at hm;obtain ⟨t,ht,e⟩:=mem_map.1 hm;have hd1:d ∈ a.aA.l.map bp:=(of_mem_zip hd).1;obtain ⟨r,hr,rfl⟩:=mem_map.1 hd1;obtain ⟨t',ht',rfl⟩:=mem_map.1 (mem_filter.1 ht).1;have e2:t'.l=f.tuple.l:=congrArg (·.2) e;rw [<- e2];have:=hs.YL r hr t' ht';unfold cw;omega
end
end Go.AM