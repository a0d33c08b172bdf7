/- Parts of the proof. Conditions: none. -/
import Derived.Test.YtfdanacohcffmaaGreatKd14
import Derived.Test.YtfdanacohcffmaaGreatKd24
import Derived.Test.YtfdanacohcffmaaGreatKd25
import Derived.Test.YtfdanacohcffmaaGreatKd26
import Derived.Test.YtfdanacohcffmaaGreatKd27
import Derived.Test.YtfdanacohcffmaaGreatKd28
set_option linter.unusedSimpArgs false
set_option linter.unusedVariables false
namespace Go.AM
open List Nat Bool Option
open Go Go.Proofs
noncomputable section
variable {rs:List aN} {K:Out->Heap->Bool} {s out a b:di} {h h':Heap} {N n j k0 k i:Nat} {nm x:b8} {dn d:AV} {r:aN} {t:Sl Int} {L:Lk} {vs:List Int} {α:Type} {is:Bool} {q:Rel}
theorem NY{a b:Nat}(hb:0<b)(ha:a<=cE):aG .quo (.int .i64 (a:Int)) (.int .i64 (b:Int))=some (.int .i64 ((a/b:Nat):Int)):=by
 have h:¬ (b:Int)=0:=by omega
 simp only [aG,if_true,if_neg h];have e:((a:Int).tdiv (b:Int))=((a/b:Nat):Int):=by rw [Int.tdiv_eq_ediv_of_nonneg (by omega)];rfl
 have:a/b<=a:=div_le_self _ _;unfold cE at ha;rw [e];generalize a/b=q at this;rw [IntWalk.i64_in _ (by omega)]
theorem KE{enc:α->List AV}{sz:Nat}(he:∀ a,(enc a).length=sz){l:List α}{a:α}(ha:l[i]?=some a)(hk:k+n<=sz) :
  ag (some n) (.ef (l.flatMap enc) (i*sz+k)) h=some (.agg (((enc a).drop k).take n)):=by
 have hi:i<l.length:=(kT.1 ha).1
 have hle:i*sz+sz<=(l.flatMap enc).length:=by
  rw [gj he];have:(i+1)*sz<=l.length*sz:=mul_le_mul_right _ hi;rw [Nat.add_mul] at this;omega
 show ju (some n) _ _=_;simp only [ju];rw [if_pos (by omega),<- oy he l i a ha,drop_take,take_take,drop_drop,Nat.min_eq_left (by omega)]
theorem fW{nm:b8}{xs:Sl b8}(h1:nm.length<=cE)(h2:xs.l.length<=cE)(h3:∀ s ∈ xs.l,s.length<=cE){h:Heap}{K:Out->Heap->Bool}
  (hK:∀ n:Int,(xs.l.length:Int)<=n->n<=5000000000000000000->K (.ret (.int .i64 n)) h=true):Sem TP 85 [.agg [.str nm,ak encS 1 xs]] h K:=by
 have Bj:cE=4611686018427387904:=rfl
 have gen:∀ R:Out->Heap->Bool,(∀ (n:Int) h',(xs.l.length:Int)<=n->n<=5000000000000000000->R (.ret (.int .i64 n)) h'=true)->Sem TP 85 [.agg [.str nm,ak encS 1 xs]] Heap.empty R:=by
  intro R fin;refine F.Dw ?_;rw [F.Fl];have g0:(Heap.alloc Heap.empty (.cells (iO nm xs))).get 0=some (.cells (iO nm xs)):=aA _ _;have hb:eW (.agg [.str nm,ak encS 1 xs])=some (iO nm xs):=dg (Ap nm xs);simp only [hb,an,bJ];generalize (Heap.alloc Heap.empty (.cells (iO nm xs)))=H at g0 ⊢;have hq:=NY (a:=nm.length) (b:=20) (by omega) h1;have nW:aG .quo (.int .i64 (nm.length:Int)) (.int .i64 20)=some (.int .i64 ((nm.length/20:Nat):Int)):=hq;have hdl:nm.length/20<=240000000000000000:=by omega
  have DZ:=iX (a:=(xs.l.length:Int)) (b:=((nm.length/20:Nat):Int)) (by omega) (by omega);simp only [aR,reduceAdd,reduceEqDiff,reduceIte,aj g0,iO,nW,DZ];generalize YH:(xs.l.length:Int)+((nm.length/20:Nat):Int)=s0;refine aD 0 xs.l.length (zero_le _) (fun i e h'=>h'=H/\e 1 = .ptr 0 0/\e 4 = .int .i64 (i:Int)/\∃ n:Int,e 3 = .int .i64 n/\(xs.l.length:Int)<=n/\n<=5000000000000000000) ⟨rfl,rfl,rfl,s0,rfl,by omega,by omega⟩ ?_ ?_
  ·rintro i e h' _ hi ⟨rfl,e1,e4,n,e3,n1,n2⟩ K' hn hx hr hp;have hv:xs.l[i]?=some xs.l[i]:=ez hi;generalize xs.l[i]=t at hv;have ht:=h3 t (iz hv);have hqt:aG .quo (.int .i64 (t.length:Int)) (.int .i64 20)=some (.int .i64 ((t.length/20:Nat):Int)):=NY (a:=t.length) (b:=20) (by omega) ht;have hdt:t.length/20<=240000000000000000:=by omega
   rw [F.fW.aT];simp only [e1,e3,e4,aR,reduceAdd,reduceEqDiff,reduceIte,aj g0,iO,aZ hi];by_cases SW:n<10000
   ·have adr:=iX (a:=n) (b:=((t.length/20:Nat):Int)) (by omega) (by omega);simp only [fh SW,aL,e1,e4,aR,reduceAdd,reduceEqDiff,reduceIte,aj g0,iO,aV xs hi,jC hv,hqt,adr,aI hi h2];exact hn _ _ ⟨rfl,e1,rfl,_,rfl,by omega,by omega⟩
   ·simp only [eT SW,aK];rw [hx,F.fW.aF];simp only [bL,reduceEqDiff,reduceIte,e3];exact fin n _ n1 n2
  ·rintro e h' ⟨rfl,e1,e4,n,e3,n1,n2⟩ K' hx;rw [F.fW.aT];simp only [e1,e4,aR,reduceAdd,reduceEqDiff,reduceIte,aj g0,iO,aS];rw [hx,F.fW.aF];simp only [bL,reduceEqDiff,reduceIte,e3];exact fin n _ n1 n2
 have main:=gen (fun o h'=>yes (∃ n:Int,o = .ret (.int .i64 n)/\(xs.l.length:Int)<=n/\n<=5000000000000000000)) (fun n h' q1 q2=>cu.2 ⟨n,rfl,q1,q2⟩);refine main.frozen (by simp [AV.cN,AV.pure,b7 kj]) fun o h' ho=>?_;obtain ⟨n,rfl,q1,q2⟩:=cu.1 ho;exact ⟨_,_,rfl,.scalar _ rfl,hK n q1 q2⟩
set_option maxHeartbeats 1000000 in
theorem MH{N:Int}(hN:N<=1500){rules:Sl aN}(l9:∀ r ∈ rules.l,r.ok)(hK:∀ b:Bool,(b=true->∀ r ∈ rules.l,r.lJ)->K (.ret (.bool b)) h=true):Sem TP 41 [ak aO 3 rules,.int .i64 N] h K:=by
 have gen:∀ R:Out->Heap->Bool,(∀ (b:Bool) h',(b=true->∀ r ∈ rules.l,r.lJ)->R (.ret (.bool b)) h'=true)->Sem TP 41 [ak aO 3 rules,.int .i64 N] Heap.empty R:=by
  intro R fin;refine F.Fj ?_;rw [F.HL];simp only [aR,reduceAdd,reduceEqDiff,reduceIte];by_cases h71:70<rules.l.length
  ·simp only [fh (by omega:(70:Int)<(rules.l.length:Int)),aL];exact fin false _ (fun h=>by cases h)
  have hbig:rules.l.length<=cE:=by unfold cE;omega
  simp only [eT (by omega:¬ (70:Int)<(rules.l.length:Int)),aK];refine aD 0 rules.l.length (zero_le _) (fun i e h'=>e 0=ak aO 3 rules/\e 1 = .int .i64 N/\e 6 = .int .i64 (i:Int)/\∃ s:Int,e 5 = .int .i64 s/\0<=s/\s<=6000000000000000000/\(s<=N->∀ r ∈ rules.l.take i,r.lJ)) ⟨rfl,rfl,rfl,0,rfl,by omega,by omega,fun _ r hr=>by simp at hr⟩ ?_ ?_
  ·rintro i e h' _ hi ⟨e0,e1,e6,s,e5,s0,s1,hs⟩ K' hn hx hr hp;have hv:rules.l[i]?=some rules.l[i]:=ez hi;generalize rules.l[i]=r at hv;have Kl:=l9 r (iz hv);have Bj:=Kl.2.2.2.1;have ld:∀ j,j<3->∀ h,ag none (.ef (rules.l.flatMap aO) (i*3+j)) h=(aO r)[j]?:=fun j hj h=>fy gu hv hj;have lh:∀ h,ag (some 2) (.ef (rules.l.flatMap aO) (i*3)) h=some (.agg [.str r.name,ak encS 1 r.args]):=fun h=>KE (k:=0) (n:=2) gu hv (by omega);rw [F.dV.aT];simp only [e0,e1,e5,e6,aR,reduceAdd,reduceEqDiff,reduceIte,aZ hi];by_cases hle:s<=N
   ·have Yk:=iX (a:=s) (b:=1) (by omega) (by omega);simp only [fh hle,aL,Yk,e0,e6,aR,reduceAdd,reduceEqDiff,reduceIte,aV rules hi,lh];refine ai (fW Kl.1 Kl.2.1 Kl.2.2.1 fun n n1 n2=>?_);have Yl:=iX (a:=s+1) (b:=n) (by omega) (by omega);simp only [aR,reduceAdd,reduceEqDiff,reduceIte,Yl]
    refine aD 0 r.body.l.length (zero_le _) (fun j e h'=>e 0=ak aO 3 rules/\e 1 = .int .i64 N/\e 6 = .int .i64 (i:Int)/\e 7 = .int .i64 (j:Int)/\∃ s:Int,e 5 = .int .i64 s/\0<=s/\s<=6000000000000000000 /\
     (s<=N->(∀ r ∈ rules.l.take i,r.lJ)/\r.args.l.length<=1500/\(j:Int)<=s/\∀ c ∈ r.body.l.take j,c.args.l.length<=1500)) ⟨e0,e1,e6,rfl,s+1+n,rfl,by omega,by omega,fun h=>⟨hs hle,by omega,by omega,fun c hc=>by simp at hc⟩⟩ ?_ ?_
    ·rintro j e h' _ hj ⟨e0,e1,e6,e7,s,e5,s0,s1,hs⟩ K2 qj fo qL DY;have hc:r.body.l[j]?=some r.body.l[j]:=ez hj;generalize r.body.l[j]=c at hc;have J3:=Kl.2.2.2.2 c (iz hc);have lc:∀ h,ag (some 2) (.ef (r.body.l.flatMap bP) (j*4+2)) h=some (.agg [.str c.name,ak encS 1 c.args]):=fun h=>KE (k:=2) (n:=2) iH hc (by omega);rw [F.dV.dm];simp only [e0,e1,e5,e6,e7,aR,reduceAdd,reduceEqDiff,reduceIte,aV rules hi,ld 2 (by omega),aO,aZ hj];by_cases hle:s<=N
     ·have Yk:=iX (a:=s) (b:=1) (by omega) (by omega);simp only [fh hle,aL,Yk,e0,e6,e7,aR,reduceAdd,reduceEqDiff,reduceIte,aV rules hi,ld 2 (by omega),aO,aV r.body hj,lc];refine ai (fW J3.1 J3.2.1 J3.2.2 fun n n1 n2=>?_);have Yl:=iX (a:=s+1) (b:=n) (by omega) (by omega);simp only [aR,reduceAdd,reduceEqDiff,reduceIte,Yl,aI hj Bj];refine qj _ _ ⟨e0,e1,e6,rfl,s+1+n,rfl,by omega,by omega,fun h=>?_⟩;obtain ⟨q1,q2,q3,q4⟩:=hs hle;refine ⟨q1,q2,by omega,fun d hd=>?_⟩;rw [take_add_one,hc] at hd;rcases mem_append.1 hd with hd|hd
      ·exact q4 d hd
      ·simp only [toList_some,mem_singleton] at hd;subst hd;omega
     ·simp only [eT hle,aK];rw [fo,F.dV.cq];simp only [aR,reduceAdd,reduceEqDiff,reduceIte,e6,aI hi hbig];exact hn _ _ ⟨e0,e1,rfl,s,e5,s0,s1,fun h=>absurd h hle⟩
    ·rintro e h' ⟨e0,e1,e6,e7,s,e5,s0,s1,hs⟩ K2 fo;rw [F.dV.dm];simp only [e0,e6,e7,aR,reduceAdd,reduceEqDiff,reduceIte,aV rules hi,ld 2 (by omega),aO,aS];rw [fo,F.dV.cq];simp only [aR,reduceAdd,reduceEqDiff,reduceIte,e6,aI hi hbig];refine hn _ _ ⟨e0,e1,rfl,s,e5,s0,s1,fun h=>?_⟩;obtain ⟨q1,q2,q3,q4⟩:=hs h;rw [jD (dK _)] at q4;intro q hq;rw [take_add_one,hv] at hq;rcases mem_append.1 hq with hq|hq
     ·exact q1 q hq
     ·simp only [toList_some,mem_singleton] at hq;subst hq;exact ⟨q2,by omega,q4⟩
   ·simp only [eT hle,aK];rw [hx,F.dV.aF];simp only [aR,reduceAdd,reduceEqDiff,reduceIte,e1,e5];exact fin _ _ (fun h=>absurd (of_decide_eq_true h) hle)
  ·rintro e h' ⟨e0,e1,e6,s,e5,s0,s1,hs⟩ K' hx;rw [jD (dK _)] at hs;rw [F.dV.aT];simp only [e0,e6,aR,reduceAdd,reduceEqDiff,reduceIte,aS];rw [hx,F.dV.aF];simp only [aR,reduceAdd,reduceEqDiff,reduceIte,e1,e5];exact fin _ _ (fun h=>hs (of_decide_eq_true h))
 have main:=gen (fun o h'=>yes (∃ b:Bool,o = .ret (.bool b)/\(b=true->∀ r ∈ rules.l,r.lJ))) (fun b h' hb=>cu.2 ⟨b,rfl,hb⟩);refine main.frozen (by simp [AV.cN,AV.pure,b7 fN]) fun o h' ho=>?_;obtain ⟨b,rfl,hb⟩:=cu.1 ho;exact ⟨_,_,rfl,.scalar _ rfl,hK b hb⟩
theorem Si(s:di):fB [.int .i64 0,.ax] [(0,2)] [.agg (aq s)]=some (aq s):=by
 obtain ⟨z,r⟩:=s;cases r<;>rfl
theorem cZ{rules:Sl aN}{s:di}{N:Int}(l9:∀ r ∈ rules.l,r.ok)(k9:s.ok){h:Heap}{K:Out->Heap->Bool}(hK:∀ b:Bool,(b=true->∀ r ∈ rules.l,r.lJ)->K (.ret (.bool b)) h=true) :
  Sem TP 10 [ak aO 3 rules,.agg (aq s),.int .i64 N] h K:=by
 have gen:∀ R:Out->Heap->Bool,(∀ (b:Bool) h',(b=true->∀ r ∈ rules.l,r.lJ)->R (.ret (.bool b)) h'=true)->Sem TP 10 [ak aO 3 rules,.agg (aq s),.int .i64 N] Heap.empty R:=by
  intro R fin;refine F.BY ?_;rw [F.DO];simp only [dg (cA s),an,bJ];have g0:(Heap.empty.alloc (.cells (aq s))).get 0=some (.cells (aq s)):=aA _ _;have gn:(Heap.empty.alloc (.cells (aq s))).next=1:=rfl
  generalize (Heap.empty.alloc (.cells (aq s)))=H at g0 gn ⊢;refine ai (MH (by omega) l9 fun b hb=>?_);simp only [aR,reduceAdd,reduceEqDiff,reduceIte]
  cases b with
  |false=>
   simp only [Bool.not_false,aL];exact fin false _ (fun h=>by cases h)
  |true=>
  have iV:=hb rfl;have l0:ag (some 2) (.ptr 0 0) H=some (.agg (aq s)):=by rw [aj g0,cV (cs:=aq s) (n:=2) rfl]
  have g1:(H.alloc (.cells (aq s))).get H.next=some (.cells (aq s)):=aA _ _
  have UO:(H.alloc (.cells (aq s))).get 0=some (.cells (aq s)):=by rw [Heap.aQ,if_neg (by omega)];exact g0
  simp only [Bool.not_true,aK,l0,an,Si];generalize (H.alloc (.cells (aq s)))=H2 at g1 UO ⊢;refine ai (cj k9 g1 fun b=>?_);simp only [aR,reduceAdd,reduceEqDiff,reduceIte]
  cases b with
  |false=>
   simp only [Bool.not_false,aL];exact fin false _ (fun h=>by cases h)
  |true=>
  have Ye:ag (some 2) (.ptr 0 0) H2=some (.agg (aq s)):=by rw [aj UO,cV (cs:=aq s) (n:=2) rfl]
  simp only [Bool.not_true,aK,Ye,an];refine ai (bH l9 iV k9 (fun e he=>?_) fun ho=>?_)
  ·have hne:e≠0:=by
    rcases he with ⟨_,rfl⟩|⟨_,_,⟨_,rfl⟩|⟨_,_,rfl⟩⟩<;>omega
   simp only [aR,reduceAdd,reduceEqDiff,reduceIte,cI,eT hne,Bool.not_false,aL];exact fin true _ (fun _=>iV)
  ·obtain ⟨n,hn,n1,sI,h8⟩:=jI ho.valid;have qR:s.size.toNat=n:=by omega
   have Im:rules.l.length<=cE:=by have:=ho.fV.lJ;unfold cE;omega
   have W7:∀ r ∈ rules.l,n ^ (varsOf r).length<=65536:=fun r hr=>Nat.le_of_not_lt fun h=>ho.xw (.inr (.inr ⟨r,hr,by rw [qR];exact h⟩));simp only [aR,reduceAdd,reduceEqDiff,reduceIte,cI,decide_true,Bool.not_true,aK];refine aD 0 rules.l.length (zero_le _) (fun i e h'=>h'=H2/\∃ q:Nat,q<=i*65536/\e 0=ak aO 3 rules/\e 2 = .int .i64 N/\e 4 = .ptr 0 0/\e 7 = .int .i64 (q:Int)/\e 8 = .int .i64 (i:Int)) ⟨rfl,0,by omega,rfl,rfl,rfl,rfl,rfl⟩ ?_ ?_
   ·rintro i e h' _ hi ⟨rfl,q,hq,e0,e2,e4,e7,e8⟩ K' yF hx hr hp;have hv:rules.l[i]?=some rules.l[i]:=ez hi;generalize rules.l[i]=r at hv;have nV:=iz hv;have alu:=W7 r nV;have tP:=ho.fV.lJ;obtain ⟨m,iE⟩:=ho.fV.go;have acR:=(jo iE r nV).2.2;have Wx:(varsOf r).length<=cE:=by unfold cE;omega
    have lz:ag none (.ptr 0 0) h'=some (.int .i64 (n:Int)):=(by rw [aj UO,<- hn];rfl);rw [F.cZ.aT];simp only [e0,e8,aR,reduceAdd,reduceEqDiff,reduceIte,aZ hi];refine aD 0 (varsOf r).length (zero_le _) (fun j e h2=>h2=h'/\e 0=ak aO 3 rules/\e 2 = .int .i64 N/\e 4 = .ptr 0 0/\e 7 = .int .i64 (q:Int)/\e 8 = .int .i64 (i:Int)/\e 9 = .int .i64 ((n ^ j:Nat):Int)/\e 10 = .int .i64 (j:Int)) ⟨rfl,e0,e2,e4,e7,e8,rfl,rfl⟩ ?_ ?_
    ·rintro j e h2 _ hj ⟨rfl,e0,e2,e4,e7,e8,e9,jm⟩ K2 Vm fo qL DY;have tu:n ^ (j+1)=n ^ j*n:=Nat.pow_succ n j;have hle:=yl n1 (show j+1<=(varsOf r).length by omega);have hm:((n ^ j:Nat):Int)*(n:Int)=((n ^ (j+1):Nat):Int):=by rw [tu,Int.natCast_mul]
     have hmm:aG .mul (.int .i64 ((n ^ j:Nat):Int)) (.int .i64 (n:Int))=some (.int .i64 ((n ^ (j+1):Nat):Int)):=(by rw [vB (by rw [hm];omega) (by rw [hm];omega),hm]);rw [F.cZ.dm];simp only [e0,e8,aR,reduceAdd,reduceEqDiff,reduceIte,aV rules hi,dO gu hv];simp only [aO];refine ai (bQ (iV r nV) fun x jO=>?_);simp only [aR,reduceAdd,reduceEqDiff,reduceIte,jO,e4,e9,jm,aZ hj,aL,lz,hmm,aI hj Wx];exact Vm _ _ ⟨rfl,e0,e2,e4,e7,e8,rfl,rfl⟩
    ·rintro e h2 ⟨rfl,e0,e2,e4,e7,e8,e9,jm⟩ K2 fo
     have DZ:aG .add (.int .i64 (q:Int)) (.int .i64 ((n ^ (varsOf r).length:Nat):Int))=some (.int .i64 ((q+n ^ (varsOf r).length:Nat):Int)):=by
      rw [iX (by omega) (by omega)];rfl
     rw [F.cZ.dm];simp only [e0,e8,aR,reduceAdd,reduceEqDiff,reduceIte,aV rules hi,dO gu hv];simp only [aO];refine ai (bQ (iV r nV) fun x jO=>?_);simp only [aR,reduceAdd,reduceEqDiff,reduceIte,jO,jm,aS,aK];rw [fo,F.cZ.cq];simp only [aR,reduceAdd,reduceEqDiff,reduceIte,e7,e8,e9,DZ,aI hi Im];exact yF _ _ ⟨rfl,q+n ^ (varsOf r).length,by rw [succ_mul];omega,e0,e2,e4,rfl,rfl⟩
   ·rintro e h' ⟨rfl,q,hq,e0,e2,e4,e7,e8⟩ K' hx;rw [F.cZ.aT];simp only [e0,e8,aR,reduceAdd,reduceEqDiff,reduceIte,aS];rw [hx,F.cZ.aF];simp only [aR,reduceAdd,reduceEqDiff,reduceIte,e2,e7];exact fin _ _ (fun _=>iV)
 have main:=gen (fun o h'=>yes (∃ b:Bool,o = .ret (.bool b)/\(b=true->∀ r ∈ rules.l,r.lJ))) (fun b h' hb=>cu.2 ⟨b,rfl,hb⟩);refine main.frozen (by simp [AV.cN,AV.pure,b7 fN,eG]) fun o h' ho=>?_;obtain ⟨b,rfl,hb⟩:=cu.1 ho;exact ⟨_,_,rfl,.scalar _ rfl,hK b hb⟩
theorem zF{e:Int}(h:Ew rs s e):e≠0/\¬ dZ rs s:=by
 rcases h with ⟨a,rfl⟩|⟨g,v,⟨a,rfl⟩|⟨a,b,rfl⟩⟩
 ·exact ⟨by omega,fun h=>a.elim (fun h'=>h' h.fV) fun h'=>by rw [h.valid] at h';cases h'⟩
 ·exact ⟨by omega,fun h=>h.names a⟩
 ·exact ⟨by omega,fun h=>h.xw b⟩
theorem Pt{Fk:Lk}(ho:dZ rs s)(hd:out.aC.l.map bZ=s.aC.l.map bZ++rN rs s.size.toNat Fk (dS rs)):out.small:=by
 have hs:=(ff ho.valid).1;obtain ⟨m,iE⟩:=ho.fV.go;have tP:=ho.fV.lJ;have hdl:=pV rs
 have key:∀ r ∈ out.aC.l,(∃ p ∈ s.aC.l,p.aM.l.map Sl.l=r.aM.l.map Sl.l)\/∃ nm ∈ dS rs,r.aM.l.map Sl.l=wN s.size.toNat Fk nm (mW rs nm) (s.size.toNat ^ mW rs nm):=fun r hr=>by
  have h1:bZ r ∈ s.aC.l.map bZ++rN rs s.size.toNat Fk (dS rs):=by rw [<- hd];exact List.mem_map_of_mem hr
  rcases mem_append.1 h1 with h1|h1
  ·obtain ⟨p,hp,e⟩:=mem_map.1 h1;unfold bZ at e;simp only [Prod.mk.injEq] at e;exact .inl ⟨p,hp,e.2.2⟩
  ·obtain ⟨nm,pU,e⟩:=mem_map.1 h1;unfold bZ at e;simp only [Prod.mk.injEq] at e;exact .inr ⟨nm,pU,e.2.2.symm⟩
 have Ph:∀ nm ∈ dS rs,mW rs nm<=12/\s.size.toNat ^ mW rs nm<=4096:=fun nm pU=>by
  obtain ⟨_,r,hr,_,ha⟩:=sO iE ((eF rs).1 pU);rw [ha];exact ⟨oU (jo iE r hr).1,Nat.le_of_not_lt fun h=>ho.xw (.inr (.inl ⟨r,hr,h⟩))⟩
 refine ⟨?_,fun r hr=>?_,fun r hr t ht=>?_⟩
 ·have h1:=congrArg List.length hd;rw [length_map,length_append,length_map] at h1;unfold rN at h1;rw [length_map] at h1;have h2:¬ 8<s.aC.l.length+(dS rs).length:=fun h=>ho.xw (.inl h);omega
 ·rcases key r hr with ⟨p,hp,e⟩|⟨nm,pU,e⟩
  ·have h1:=congrArg List.length e;simp only [length_map] at h1;have:=hs.Io p hp;omega
  ·have h1:=congrArg List.length e;rw [length_map] at h1;have h2:=Ks s.size.toNat Fk nm (mW rs nm) (s.size.toNat ^ mW rs nm);have:=(Ph nm pU).2;omega
 ·rcases key r hr with ⟨p,hp,e⟩|⟨nm,pU,e⟩
  ·have h1:t.l ∈ p.aM.l.map Sl.l:=by rw [e];exact List.mem_map_of_mem ht
   obtain ⟨u,hu,X1⟩:=mem_map.1 h1;rw [<- X1];exact hs.YZ p hp u hu
  ·have h1:t.l ∈ wN s.size.toNat Fk nm (mW rs nm) (s.size.toNat ^ mW rs nm):=by rw [<- e];exact List.mem_map_of_mem ht
   unfold wN at h1;obtain ⟨i,_,hi⟩:=mem_map.1 h1;rw [<- hi,pY];have:=(Ph nm pU).1;omega
def cut(L:Lk)(nm:b8)(k0:Nat):Lk:=fun x k=>L x k&&!(decide (x=nm)&&decide (k=k0))
theorem Ym(h:cut L nm k0 x k=true):L x k=true:=by
 unfold cut at h;simp only [and_eq_true] at h;exact h.1
theorem AN(h:x≠nm):cut L nm k0 x k=L x k:=by unfold cut;rw [eT h];simp
theorem Yn:cut L nm k0 nm k0=false:=by unfold cut;simp
theorem Vw:cut L nm k0 nm k=true↔L nm k=true/\k≠k0:=by unfold cut;simp
theorem EF{q0:Nat}(hc:∀ c ∈ r.body.l,c.kind=0->c.neg=true->c.name≠nm)(h:lQ n (cut L nm q0) r vs=true):lQ n L r vs=true:=by
 unfold lQ at h ⊢;rw [List.all_eq_true] at h ⊢;intro c vR;have h1:=h c vR;unfold eE at h1 ⊢;by_cases k0:c.kind=0
 ·rw [if_pos k0] at h1 ⊢
  cases hn:c.neg with
  |true=>rw [AN (hc c vR k0 hn)] at h1;rw [hn] at h1;exact h1
  |false=>
   rw [hn] at h1;have h2:cut L nm q0 c.name (kS n (de vs (cM r c)))=true:=by simpa using h1
   rw [Ym h2];rfl
 ·rw [if_neg k0] at h1 ⊢;exact h1
theorem gN.fresh{lv:eA.Lv}{L0:Lk}{l:Nat}{A:Lk}(h:gN n rs lv L0 l A)(hn:l<=lv nm)(k:Nat):A nm k=L0 nm k:=by
 induction h with
 |zero=>rfl
 |succ l L L' hg lg ih=>
  rw [<- ih (by omega)];refine lg.over.off nm (fun r hr e=>?_) k;have h2:=(j6.1 hr).2;rw [e] at h2;omega
theorem KF{A B:Lk}(h:∀ c ∈ r.body.l,c.kind=0->A c.name (kS n (de vs (cM r c)))=B c.name (kS n (de vs (cM r c)))):lQ n A r vs=lQ n B r vs:=by
 unfold lQ
 have key:∀ c ∈ r.body.l,eE n A c (de vs (cM r c))=eE n B c (de vs (cM r c)):=fun c hc=>by
  unfold eE;by_cases k0:c.kind=0
  ·rw [if_pos k0,if_pos k0,h c hc k0]
  ·rw [if_neg k0,if_neg k0]
 rw [Bool.eq_iff_iff,List.all_eq_true,List.all_eq_true];exact ⟨fun h1 c hc=>by rw [<- key c hc];exact h1 c hc,fun h1 c hc=>by rw [key c hc];exact h1 c hc⟩
theorem Pu{lv:eA.Lv}{L0:Lk}(FH:Et rs lv){t:Nat}{B:Lk}(g:gN n rs lv L0 t B)(ht:∀ r ∈ rs,lv r.name<t)(pU:∃ r ∈ rs,r.name=nm)(h0:∀ k,L0 nm k=false) :
  (∃ r ∈ rs,r.name=nm/\∃ vs,zy n r vs/\xu n r vs=k0/\lQ n (cut B nm k0) r vs=true)↔B nm k0=true:=by
 have Yo:∀ r ∈ rs,r.name=nm->∀ c ∈ r.body.l,c.kind=0->c.neg=true->c.name≠nm:=fun r hr rG c hc hk hn e=>by
  have:=FH r hr c hc hk ⟨r,hr,by rw [rG,e]⟩;rw [hn,if_pos rfl,e,rG] at this;omega
 constructor
 ·rintro ⟨r,hr,rG,vs,ha,hk,oG⟩;have:=g.closed FH ht r hr vs ha (EF (Yo r hr rG) oG)
  rwa [rG,hk] at this
 ·intro hB;obtain ⟨q,hq,rQ⟩:=pU;have hlt:lv nm+1<=t:=by have:=ht q hq;rw [rQ] at this;omega
  obtain ⟨A,hA⟩:=g.split (lv nm+1) hlt;have hAB:∀ x,((∀ r ∈ rs,r.name≠x)\/lv x<lv nm+1)->∀ k,B x k=A x k:=fun x hx=>hA.rest g hlt hx;have hA0:A nm k0=true:=by rw [<- hAB nm (.inr (by omega))];exact hB
  cases hA with
  |succ _ L _ hg lg=>
   refine Classical.byContradiction fun yp=>?_
   have hle:∀ r ∈ rs,lv r.name=lv nm->∀ c ∈ r.body.l,c.kind=0->(∀ q ∈ rs,q.name≠c.name)\/lv c.name<lv nm+1:=fun r hr hl c hc hk=>by
    by_cases hd:∃ q ∈ rs,q.name=c.name
    ·exact .inr (by have:=FH r hr c hc hk hd;omega)
    ·exact .inl fun q hq e=>hd ⟨q,hq,e⟩
   have hC:cut A nm k0 nm k0=true:=by
    refine lg.least (cut A nm k0) ⟨fun x k hx=>?_,fun x hx k=>?_⟩ ?_ nm k0 hA0
    ·by_cases OT:x=nm
     ·subst OT;rw [hg.fresh (dK _),h0] at hx;cases hx
     ·rw [AN OT];exact lg.over.le x k hx
    ·rw [AN (fun e=>hx q (j6.2 ⟨hq,by rw [rQ]⟩) (by rw [rQ,e]))];exact lg.over.off x hx k
    ·intro r hr vs ha oG;obtain ⟨Lu,qL⟩:=j6.1 hr
     have QB:lQ n A r vs=true:=by
      refine EF (fun c hc hk hn e=>?_) oG;have:=FH r Lu c hc hk ⟨q,hq,by rw [rQ,e]⟩;rw [hn,if_pos rfl,e] at this;omega
     have h1:=lg.closed r hr vs ha QB;by_cases rG:r.name=nm
     ·by_cases hk:xu n r vs=k0
      ·refine absurd ⟨r,Lu,rG,vs,ha,hk,?_⟩ yp;rw [<- oG];refine KF fun c hc hkk=>?_;by_cases WJ:c.name=nm
       ·rw [WJ];unfold cut;rw [hAB nm (.inr (by omega))]
       ·rw [AN WJ,AN WJ];exact hAB _ (hle r Lu qL c hc hkk) _
      ·rw [rG] at h1 ⊢;exact Vw.2 ⟨h1,hk⟩
     ·rw [AN rG];exact h1
   rw [Yn] at hC;cases hC
theorem zG{u:List Int}:u ∈ wN n L nm k N↔∃ i,i<N/\L nm i=true/\u=nM n k i:=by
 unfold wN;rw [mem_map];constructor
 ·rintro ⟨i,hi,rfl⟩;rw [mem_filter,mem_range] at hi;exact ⟨i,hi.1,hi.2,rfl⟩
 ·rintro ⟨i,h1,h2,rfl⟩;exact ⟨i,mem_filter.2 ⟨mem_range.2 h1,h2⟩,rfl⟩
theorem Pv(n1:1<=n)(hj:j<n ^ k)(hij:i<j):dy (nM n k i) (nM n k j)=true:=by
 obtain ⟨a1,a2⟩:=qB n1 (show i<n ^ k by omega);obtain ⟨b1,b2⟩:=qB n1 hj
 cases h:dy (nM n k i) (nM n k j) with
 |true=>rfl
 |false=>
  have hl:(nM n k i).length=(nM n k j).length:=by rw [pY,pY]
  have hne:nM n k i≠nM n k j:=fun e=>by rw [e,b2] at a2;omega
  have:=GH hl.symm b1 a1 (AJ hl h hne);omega
theorem Sj(n1:1<=n)(L:Lk)(nm:b8)(k:Nat):Vp n k (wN n L nm k (n ^ k)):=by
 refine ⟨fun u hu=>?_,?_⟩
 ·obtain ⟨i,hi,_,rfl⟩:=zG.1 hu;exact ⟨pY _ _ _,(qB n1 hi).1⟩
 ·unfold kG wN;rw [pairwise_map];refine (List.Pairwise.filter _ ?_);refine List.Pairwise.imp_of_mem ?_ (pairwise_lt_range (n:=n ^ k));intro a b _ hb qX;exact Pv n1 (mem_range.1 hb) qX
section
variable {rs:List aN} {s out:di} {n:Nat} {m:eP} {L:Lk}
theorem IB(hd:out.aC.l.map bZ=s.aC.l.map bZ++rN rs n L (dS rs)):(out.aC.l.map bZ).map mS=(s.aC.l.map bZ++jt rs (dS rs)).map mS:=by
 rw [hd,map_append,map_append];unfold rN jt;congr 1;rw [List.map_map,List.map_map];rfl
theorem G3(ho:dZ rs s)(iE:dR rs []=some m)(hn:s.size=(n:Int))(hz:out.size=s.size)(hd:out.aC.l.map bZ=s.aC.l.map bZ++rN rs n L (dS rs)):cY out=true:=by
 have hE:=Iw (rs':=s.aC.l++mO rs (dS rs)) ho iE (by rw [map_append,nu]);rw [map_append,nu] at hE;have Sg:=IB hd;have n1:1<=n:=by have:=hE.lo;omega
 have qR:s.size.toNat=n:=by omega
 rw [gE,hz];have pU:∀ l:List L7,l.map (·.1)=(l.map mS).map (·.1):=fun l=>by rw [List.map_map];rfl
 refine ⟨hE.lo,hE.hi,?_,fun d B9=>?_,?_⟩
 ·have:=congrArg List.length Sg;simp only [length_map] at this;have h8:=hE.lJ;rw [length_map];omega
 ·rw [hd] at B9;rcases mem_append.1 B9 with B9|B9
  ·exact hE.rel d (mem_append_left _ B9)
  ·obtain ⟨nm,pU,rfl⟩:=mem_map.1 B9;obtain ⟨q0,k,q1,q2,q3,_⟩:=hE.rel (nm,(mW rs nm:Int),[]) (mem_append_right _ (mem_map.2 ⟨nm,pU,rfl⟩));have q1':(mW rs nm:Int)=(k:Int):=q1;obtain rfl:mW rs nm=k:=by omega
   rw [qR] at q3 ⊢;exact ⟨q0,_,rfl,q2,q3,Sj n1 L nm _⟩
 ·rw [pU,Sg,<- pU];exact hE.names
theorem KG{Z:di}(ho:dZ rs s)(iE:dR rs []=some m)(hn:s.size=(n:Int))(hv:cY Z=true)(hsg:(Z.aC.l.map bZ).map mS=(s.aC.l.map bZ++jt rs (dS rs)).map mS)(hr:r ∈ rs){c:eV}(hc:c ∈ r.body.l)(k0:c.kind=0) :
  n ^ c.args.l.length<=4096/\∃ q,Z.aC.l.find? (dD c.name)=some q/\q.arity=(c.args.l.length:Int):=by
 have hfit:=Vs (rs':=s.aC.l++mO rs (dS rs)) ho iE hn (by rw [map_append,nu]) hr;refine ⟨(hfit.rel c hc k0).1,?_⟩;have B6:=rM hr hc k0
 have Jd:(c.name,(c.args.l.length:Int)) ∈ (Z.aC.l.map bZ).map mS:=by
  rw [hsg,map_append];by_cases hd:c.name ∈ bA rs
  ·obtain ⟨_,q,hq,rQ,Ph⟩:=sO iE hd;have hl:(q.args.l.length:Int)=c.args.l.length:=mj iE (kE hq) (by rw [rQ];exact B6);refine mem_append_right _ (mem_map.2 ⟨(c.name,(mW rs c.name:Int),[]),mem_map.2 ⟨c.name,(eF rs).2 hd,rfl⟩,?_⟩);unfold mS;rw [Ph,hl]
  ·cases hf:s.aC.l.find? (gY c.name (c.args.l.length:Int)) with
   |none=>exact absurd (.inl ⟨_,B6,hd,hf⟩) ho.names
   |some q=>
    obtain ⟨hq,rQ,Pe⟩:=wg hf;refine mem_append_left _ (mem_map.2 ⟨bZ q,List.mem_map_of_mem hq,?_⟩);unfold mS bZ;rw [rQ,Pe]
 obtain ⟨d,hd,e⟩:=mem_map.1 Jd;obtain ⟨q,hq,rfl⟩:=mem_map.1 hd;unfold mS bZ at e;simp only [Prod.mk.injEq] at e;exact ⟨q,by rw [<- e.1];exact wh hv hq,e.2⟩
theorem Pw(ho:dZ rs s)(n1:1<=n)(hd:out.aC.l.map bZ=s.aC.l.map bZ++rN rs n L (dS rs))(hx:x ∈ bA rs){q:Nat}(hq:q<n ^ mW rs x):UQ n (out.aC.l.map bZ) x q↔L x q=true:=by
 rw [hd];constructor
 ·rintro ⟨d,B9,Oz,u,hu,Y8⟩;rcases mem_append.1 B9 with B9|B9
  ·obtain ⟨p,hp,rfl⟩:=mem_map.1 B9;exact absurd (.inr ⟨p,hp,by rw [show p.name=x from Oz];exact hx⟩) ho.names
  ·obtain ⟨nm,pU,rfl⟩:=mem_map.1 B9;obtain rfl:nm=x:=Oz;obtain ⟨i,hi,hL,rfl⟩:=zG.1 hu;rw [(qB n1 hi).2] at Y8;rw [<- Y8];exact hL
 ·intro hL;exact ⟨_,mem_append_right _ (mem_map.2 ⟨x,(eF rs).2 hx,rfl⟩),rfl,nM n (mW rs x) q,zG.2 ⟨q,hq,hL,rfl⟩,(qB n1 hq).2⟩
theorem Px(hd:out.aC.l.map bZ=s.aC.l.map bZ++rN rs n L (dS rs))(hx:x ∉ bA rs){q:Nat}:UQ n (out.aC.l.map bZ) x q↔UQ n (s.aC.l.map bZ) x q:=by
 rw [hd];constructor
 ·rintro ⟨d,B9,Oz,u,hu,Y8⟩;rcases mem_append.1 B9 with B9|B9
  ·exact ⟨d,B9,Oz,u,hu,Y8⟩
  ·obtain ⟨nm,pU,rfl⟩:=mem_map.1 B9;obtain rfl:nm=x:=Oz;exact absurd ((eF rs).1 pU) hx
 ·rintro ⟨d,B9,Oz,u,hu,Y8⟩;exact ⟨d,mem_append_left _ B9,Oz,u,hu,Y8⟩
theorem Bv(s:di):iG n s=NU n s:=by
 funext nm k;unfold iG NU;cases s.aC.l.find? (dD nm)<;>rfl
set_option maxHeartbeats 1000000 in
end
structure nw (rs:List aN) (s out:di):Prop where
 size:out.size=s.size
 fin:∃ Fk,nr rs s.size.toNat s Fk/\out.aC.l.map bZ=s.aC.l.map bZ++rN rs s.size.toNat Fk (dS rs)
theorem G4{n:Nat}:∀ {x y:List (Sl Int)} (d:List Bool),x.map Sl.l=y.map Sl.l->kN n x d=kN n y d
 |[],[],d,_=>rfl
 |t :: x,u :: y,d,h=>by
  simp only [map_cons,List.cons.injEq] at h;simp only [kN,h.1];exact G4 _ h.2
 |[],_ :: _,_,h=>by simp at h
 |_ :: _,[],_,h=>by simp at h
theorem Py{x y:List (Sl Int)}(h:x.map Sl.l=y.map Sl.l):bitsOf n k x=bitsOf n k y:=by
 unfold bitsOf;exact G4 _ h
theorem KH{nm:b8}:∀ {l m:List Rel},l.map bZ=m.map bZ->(l.find? (dD nm)).map bZ=(m.find? (dD nm)).map bZ
 |[],[],_=>rfl
 |q :: l,u :: m,h=>by
  simp only [map_cons,List.cons.injEq] at h
  have hn:dD nm q=dD nm u:=by
   have:q.name=u.name:=congrArg (·.1) h.1;simp only [dD,this]
  rw [find?_cons,find?_cons,hn]
  cases dD nm u with
  |true=>simp [h.1]
  |false=>exact KH h.2
 |[],_ :: _,h=>by simp at h
 |_ :: _,[],h=>by simp at h
theorem MI{t:di}(h:s.aC.l.map bZ=t.aC.l.map bZ):iG n s=iG n t:=by
 funext nm k;have:=KH (nm:=nm) h;unfold iG
 cases h1:s.aC.l.find? (dD nm) with
 |none=>
  cases h2:t.aC.l.find? (dD nm) with
  |none=>rfl
  |some u=>rw [h1,h2] at this;simp at this
 |some q=>
  cases h2:t.aC.l.find? (dD nm) with
  |none=>rw [h1,h2] at this;simp at this
  |some u=>
   rw [h1,h2] at this;simp only [map_some,Option.some.injEq] at this;have e1:q.arity=u.arity:=congrArg (·.2.1) this;have e2:q.aM.l.map Sl.l=u.aM.l.map Sl.l:=congrArg (·.2.2) this;show (bitsOf n q.arity.toNat q.aM.l).getD k false=(bitsOf n u.arity.toNat u.aM.l).getD k false;rw [e1,Py e2]
theorem NZ{t:di}(h:(t.aC.l.map bZ).map mS=(s.aC.l.map bZ).map mS){x:Rel}(hx:x ∈ t.aC.l):∃ y ∈ s.aC.l,y.name=x.name/\y.arity=x.arity:=by
 have h1:mS (bZ x) ∈ (t.aC.l.map bZ).map mS:=List.mem_map_of_mem (List.mem_map_of_mem hx);rw [h] at h1;obtain ⟨d,hd,e⟩:=mem_map.1 h1;obtain ⟨y,hy,rfl⟩:=mem_map.1 hd;exact ⟨y,hy,congrArg (·.1) e,congrArg (·.2) e⟩
theorem EG{t:di}(ho:dZ rs s)(hv:cY t=true)(hz:t.size=s.size)(h:(t.aC.l.map bZ).map mS=(s.aC.l.map bZ).map mS):dZ rs t:=by
 refine ⟨ho.fV,hv,fun h4=>ho.names ?_,fun h5=>ho.xw ?_⟩
 ·rcases h4 with ⟨p,hp,hn,hf⟩|⟨r,hr,hn⟩
  ·refine .inl ⟨p,hp,hn,?_⟩;rw [find?_eq_none] at hf ⊢;intro y hy hs;obtain ⟨x,hx,e1,e2⟩:=NZ h.symm hy;refine hf x hx ?_;simp only [gY] at hs ⊢;rw [e1,e2];exact hs
  ·obtain ⟨y,hy,e1,_⟩:=NZ h hr;exact .inr ⟨y,hy,by rw [e1];exact hn⟩
 ·have hl:t.aC.l.length=s.aC.l.length:=by have:=congrArg List.length h;simpa using this
  unfold NR at h5 ⊢;rw [hl,hz] at h5;exact h5
theorem MJ{s':di}{r:Rel}{t:List Int}(ho:dZ rs s)(hr:s.aC.l[j]?=some r)(hk:r.arity=(t.length:Int))(hb:iY s.size t=true)(hp:FN s j r t is s'):dZ rs s':=by
 obtain ⟨n,hn,n1,_⟩:=jI ho.valid;refine EG ho (Pk ho.valid hr hk rfl ?_ hp) hp.size (zC hr hp);have:((s.size.toNat:Nat):Int)=s.size:=by rw [hn];simp
 rw [this];exact hb
theorem nw.valid{rs:List aN}{s out:di}(ho:dZ rs s)(h:nw rs s out):cY out=true:=by
 obtain ⟨n,hn,n1,_⟩:=jI ho.valid;obtain ⟨m,iE⟩:=ho.fV.go;obtain ⟨hz,F,_,hd⟩:=h;have e:s.size.toNat=n:=by rw [hn];simp
 rw [e] at hd;exact G3 ho iE hn hz hd
theorem nw.small{rs:List aN}{s out:di}(ho:dZ rs s)(h:nw rs s out):out.small:=by
 obtain ⟨hz,F,_,hd⟩:=h;exact Pt ho hd
theorem nw.sig{t:di}(ha:nw rs s a)(hb:nw rs t b)(h:(t.aC.l.map bZ).map mS=(s.aC.l.map bZ).map mS):(b.aC.l.map bZ).map mS=(a.aC.l.map bZ).map mS:=by
 obtain ⟨_,F,_,f2⟩:=ha;obtain ⟨_,G,_,g2⟩:=hb;rw [f2,g2,map_append,map_append,h];congr 1;unfold rN;rw [List.map_map,List.map_map];rfl
theorem N3(ha:cY a=true)(hb:cY b=true)(h:(b.aC.l.map bZ).map mS=(a.aC.l.map bZ).map mS) :
  a.aC.l.length<=b.aC.l.length/\∀ (i:Nat) (q u:Rel),a.aC.l[i]?=some q->b.aC.l[i]?=some u->(∀ t ∈ q.aM.l,∀ w ∈ u.aM.l,w.l.length=t.l.length)/\kG (u.aM.l.map Sl.l):=by
 have hl:b.aC.l.length=a.aC.l.length:=by have:=congrArg List.length h;simpa using this
 refine ⟨by omega,fun i q u hq hu=>?_⟩
 have e:mS (bZ u)=mS (bZ q):=by
  have:=congrArg (·[i]?) h;simp only [getElem?_map,hq,hu,map_some,Option.some.injEq] at this;exact this
 have ea:u.arity=q.arity:=congrArg (·.2) e;obtain ⟨_,k,k1,_,_,kt⟩:=(gE.1 ha).rel _ (List.mem_map_of_mem (iz hq));obtain ⟨_,m,m1,_,_,mt⟩:=(gE.1 hb).rel _ (List.mem_map_of_mem (iz hu));have k1:q.arity=(k:Int):=k1;have m1:u.arity=(m:Int):=m1;refine ⟨fun t ht w hw=>?_,mt.2⟩;rw [(kt.1 _ (List.mem_map_of_mem ht)).1,(mt.1 _ (List.mem_map_of_mem hw)).1];omega
theorem Vx{m:eP}(ho:dZ rs s)(iE:dR rs []=some m)(hn:s.size=(n:Int))(hz:out.size=s.size)(hF:nr rs n s L)(hd:out.aC.l.map bZ=s.aC.l.map bZ++rN rs n L (dS rs))(hr:r ∈ rs)(ha:zy n r vs) :
  lQ n (iG n out) r vs=lQ n L r vs:=by
 have hE:=Iw (rs':=s.aC.l++mO rs (dS rs)) ho iE (by rw [map_append,nu]);have n1:1<=n:=by have:=hE.lo;omega
 have hvo:=G3 ho iE hn hz hd;obtain ⟨kk,T,iJ,hT,g⟩:=hF;refine KF fun c hc ck=>?_;obtain ⟨_,o,hof,hoa⟩:=KG ho iE hn hvo (IB hd) hr hc ck;have qJ:∀ p ∈ cM r c,p<vs.length:=by rw [ha.1];exact mc (vQ hc)
 have hin:=oS ha.2 qJ;have hlen:(de vs (cM r c)).length=c.args.l.length:=by rw [lK];unfold cM placesOf;simp
 have hlt:=qO hin;rw [hlen] at hlt;generalize kS n (de vs (cM r c))=w at hlt;rw [Bv,Bool.eq_iff_iff,GZ hvo (by rw [hz,hn]) hof hoa hlt];by_cases M9:c.name ∈ bA rs
 ·have Jm:w<n ^ mW rs c.name:=by
   obtain ⟨_,r',yo,agr,ags⟩:=sO iE M9;have h5:((r'.args.l.length:Nat):Int)=c.args.l.length:=mj iE (kE yo) (by rw [agr];exact rM hr hc ck);rw [ags,show r'.args.l.length=c.args.l.length by omega];exact hlt
  exact Pw ho n1 hd M9 Jm
 ·rw [Px hd M9];have hL:L c.name w=iG n s c.name w:=gN.rest .zero g (zero_le _) (.inl fun r' yo e=>M9 (by rw [<- e];exact List.mem_map_of_mem yo)) w;rw [hL,Bv]
  cases hf:s.aC.l.find? (gY c.name (c.args.l.length:Int)) with
  |none=>exact absurd (.inl ⟨_,rM hr hc ck,M9,hf⟩) ho.names
  |some p=>
   obtain ⟨h6,h7,h8⟩:=wg hf;have h9:=wh ho.valid h6;rw [h7] at h9;exact (GZ ho.valid hn h9 h8 hlt).symm
theorem nw.Yp{all:di}(hp:nw rs s all)(hq:all.aC.l[i]?=some q)(hi:s.aC.l.length<=i):q.name ∈ dS rs/\q.arity=(mW rs q.name:Int)/\∀ F,nr rs s.size.toNat s F->q.aM.l.map Sl.l=wN s.size.toNat F q.name (mW rs q.name) (s.size.toNat ^ mW rs q.name):=by
 obtain ⟨_,F,hF,hd⟩:=hp;have e:(all.aC.l.map bZ)[i]?=some (bZ q):=by rw [getElem?_map,hq];rfl
 rw [hd,getElem?_append_right (by simpa using hi),length_map] at e;unfold rN at e;rw [getElem?_map] at e
 cases hx:(dS rs)[i-s.aC.l.length]? with
 |none=>rw [hx] at e;cases e
 |some nm=>
  rw [hx] at e;simp only [map_some,Option.some.injEq] at e;have e1:nm=q.name:=congrArg (·.1) e;have e2:(mW rs nm:Int)=q.arity:=congrArg (·.2.1) e;have e3:wN s.size.toNat F nm (mW rs nm) (s.size.toNat ^ mW rs nm)=q.aM.l.map Sl.l:=congrArg (·.2.2) e;subst e1;exact ⟨iz hx,e2.symm,fun G hG=>by rw [hG.unique hF];exact e3.symm⟩
theorem Pz{all:di}(ho:dZ rs s)(hp:nw rs s all)(hn:s.size=(n:Int))(hq:all.aC.l[i]?=some q)(hi:s.aC.l.length<=i){t:List Int}(vZ:q.arity=(t.length:Int))(Nq:iY n t=true) :
  0<kQ n (iG n all) q.name t rs↔t ∈ q.aM.l.map Sl.l:=by
 obtain ⟨q1,q2,q3⟩:=hp.Yp hq hi;obtain ⟨m,iE⟩:=ho.fV.go;obtain ⟨hz,F,hF,hd⟩:=hp;have q4:=q3 F hF;have qR:s.size.toNat=n:=by omega
 rw [qR] at hF hd q4;have rQ:q.name ∈ bA rs:=(eF rs).1 q1;have hE:=Iw (rs':=s.aC.l++mO rs (dS rs)) ho iE (by rw [map_append,nu]);have n1:1<=n:=by have:=hE.lo;omega
 have Yq:t.length=mW rs q.name:=by omega
 have hk0:kS n t<n ^ mW rs q.name:=by rw [<- Yq];exact qO Nq
 have oG:∀ {r:aN},r ∈ rs->∀ {vs:List Int},zy n r vs->lQ n (iG n all) r vs=lQ n F r vs:=fun hr _ ha=>Vx ho iE hn hz hF hd hr ha
 have kX:t ∈ q.aM.l.map Sl.l↔F q.name (kS n t)=true:=by
  rw [q4,zG];constructor
  ·rintro ⟨j,hj,hL,rfl⟩;rw [(qB n1 hj).2];exact hL
  ·intro hL;obtain ⟨b1,b2⟩:=qB n1 hk0;exact ⟨kS n t,hk0,hL,NJ (by rw [pY,Yq]) Nq b1 b2.symm⟩
 obtain ⟨kk,T,iJ,hT,g⟩:=hF;have FH:=GS iJ;rw [kX,EE n1]
 have h0:∀ k,iG n s q.name k=false:=fun k=>by
  unfold iG
  cases hf:s.aC.l.find? (dD q.name) with
  |none=>rfl
  |some p=>
   have h6:=mem_of_find?_eq_some hf;have h7:=find?_some hf;simp only [dD,beq_iff_eq] at h7;exact absurd (.inr ⟨p,h6,by rw [h7];exact rQ⟩) ho.names
 have wW:∀ {r:aN},r ∈ rs->r.name=q.name->∀ us,(de us (placesOf (varsOf r) r.args.l)).length=t.length:=fun {r} hr rG us=>by
  rw [lK,Yq,<- rG,Iu iE hr];unfold placesOf;simp
 constructor
 ·rintro ⟨r,hr,rG,us,hu,h1,h2⟩;rw [oG hr hu] at h1;have h3:=g.closed FH hT r hr us hu h1;unfold xu at h3;rw [of_decide_eq_true h2,rG] at h3;exact h3
 ·intro hB;obtain ⟨r,hr,rG,us,hu,h1,h2⟩:=(Pu FH g hT (by obtain ⟨r,h1,h2⟩:=mem_map.1 rQ;exact ⟨r,h1,h2⟩) h0).2 hB;refine ⟨r,hr,rG,us,hu,?_,?_⟩
  ·rw [oG hr hu];refine EF (fun c hc hk Yo e=>?_) h2;have:=FH r hr c hc hk ⟨r,hr,by rw [rG,e]⟩;rw [Yo,if_pos rfl,e,rG] at this;omega
  ·refine fh ?_;have qJ:∀ p ∈ placesOf (varsOf r) r.args.l,p<us.length:=by rw [hu.1];exact mc oR
   exact NJ (wW hr rG us) (oS hu.2 qJ) Nq h1
def mq(rs:Sl aN)(s all:di)(dn:AV):List AV:=[ak aO 3 rs,.int .i64 s.size,ak aW 3 s.aC,.int .i64 all.size,ak aW 3 all.aC,dn]
structure ej (rs:Sl aN) (N:Nat) (h:Heap) (s all:di) (dn:AV):Prop where
 lt:N<h.next
 get:h.get N=some (.cells (mq rs s all dn))
theorem ej.agree{rs:Sl aN}{all:di}(x:ej rs N h s all dn)(hg:h'.get N=h.get N)(hn:h.next<=h'.next):ej rs N h' s all dn:=⟨Nat.lt_of_lt_of_le x.lt hn,by rw [hg];exact x.get⟩
theorem ej.ext{rs:Sl aN}{all:di}(x:ej rs N h s all dn)(e:bu h h'):ej rs N h' s all dn:=x.agree (e.get N x.lt) e.next
theorem ej.base{rs:Sl aN}{all:di}(x:ej rs N h s all dn):ag (some 2) (.ptr N 1) h=some (.agg (aq s)):=by rw [aj x.get];rfl
theorem ej.all{rs:Sl aN}{N:Nat}{h:Heap}{s all:di}{dn:AV}(x:ej rs N h s all dn):ag (some 2) (.ptr N 3) h=some (.agg (aq all)):=by rw [aj x.get];rfl
theorem ej.rules{rs:Sl aN}{all:di}(x:ej rs N h s all dn):ag none (.ptr N 0) h=some (ak aO 3 rs):=by rw [aj x.get];rfl
theorem ej.size{rs:Sl aN}{N:Nat}{h:Heap}{s all:di}{dn:AV}(x:ej rs N h s all dn):ag none (.ptr N 1) h=some (.int .i64 s.size):=by rw [aj x.get];rfl
theorem ej.done{rs:Sl aN}{all:di}(x:ej rs N h s all dn):ag none (.ptr N 5) h=some dn:=by rw [aj x.get];rfl
theorem ej.Vy{rs:Sl aN}{all:di}(x:ej rs N h s all dn)(s':di):bf 2 (.ptr N 1) (.agg (aq s')) h=some (h.set N (.cells (mq rs s' all dn)))/\ej rs N (h.set N (.cells (mq rs s' all dn))) s' all dn:=
 ⟨by rw [cK (n:=2) (v:=.agg (aq s')) x.get rfl (cA s') (by simp [mq])];rfl,by rw [Heap.bp];exact x.lt,by rw [Heap.aP,if_pos rfl]⟩
theorem ej.Yr{rs:Sl aN}{all:di}(x:ej rs N h s all dn)(a':di):bf 2 (.ptr N 3) (.agg (aq a')) h=some (h.set N (.cells (mq rs s a' dn)))/\ej rs N (h.set N (.cells (mq rs s a' dn))) s a' dn:=
 ⟨by rw [cK (n:=2) (v:=.agg (aq a')) x.get rfl (cA a') (by simp [mq])];rfl,by rw [Heap.bp];exact x.lt,by rw [Heap.aP,if_pos rfl]⟩
theorem ej.Vz{rs:Sl aN}{all:di}(x:ej rs N h s all dn)(h1:d.dI = [d])(h2:bx [d]=true):bf 1 (.ptr N 5) d h=some (h.set N (.cells (mq rs s all d)))/\ej rs N (h.set N (.cells (mq rs s all d))) s all d:=
 ⟨by rw [cK (n:=1) (v:=d) x.get (by rw [h1];rfl) (by rw [h1];exact h2) (by simp [mq]),h1];rfl,by rw [Heap.bp];exact x.lt,by rw [Heap.aP,if_pos rfl]⟩
structure EH (N:Nat) (h h':Heap):Prop where
 next:h.next<=h'.next
 get:∀ b,b<h.next->b≠N->h'.get b=h.get b
theorem EH.set{N:Nat}{h h':Heap}(x:EH N h h')(o:j9):EH N h (h'.set N o):=⟨by rw [Heap.bp];exact x.next,fun b hb hn=>by rw [Heap.aP,if_neg hn];exact x.get b hb hn⟩
theorem bu.but(x:bu h h')(N:Nat):EH N h h':=⟨x.next,fun b hb _=>x.get b hb⟩
theorem EH.trans{a b c:Heap}(x:EH N a b)(y:EH N b c):EH N a c:=⟨Nat.le_trans x.next y.next,fun i hi hn=>by rw [y.get i (Nat.lt_of_lt_of_le hi x.next) hn,x.get i hi hn]⟩
set_option maxHeartbeats 1000000 in
theorem Sk{rs:Sl aN}{all:di}(x:ej rs N h s all dn)(l9:∀ r ∈ rs.l,r.ok)(iV:∀ r ∈ rs.l,r.lJ)(ho:dZ rs.l s)(hp:nw rs.l s all)
  {r:Rel} (hj:iC (gY nm (t.l.length:Int)) s.aC.l=(j:Int)) (hr:s.aC.l[j]?=some r) (Pe:r.arity=(t.l.length:Int)) (hin:iY s.size t.l=true)
  (hK:∀ (s' EI:di) h' (f g:Sl FP),FN s j r t.l is s'->dZ rs.l s'->nw rs.l s' EI->ej rs N h' s' EI dn->EH N h h' ->
   f.l.map IA=xy (EI.aC.l.map bZ) (all.aC.l.map bZ)->g.l.map IA=xy (all.aC.l.map bZ) (EI.aC.l.map bZ)->K (.ret (.tuple [ak oh 2 f,ak oh 2 g])) h'=true) :
  Sem TP 50 [.ptr N 0,.str nm,ak encI 1 t,.bool is] h K:=by
 have hv:=ho.valid;have hnc:∀ c o:Nat,br (.ptr c o)=some (.ptr c o):=fun _ _=>rfl;refine F.wJ ?_;rw [F.xZ];simp only [aR,reduceAdd,reduceEqDiff,reduceIte,hnc,x.base];refine ai (Pp (ff hv).2 hv hj hr Pe hin fun s' Oy=>?_);have oZ:=MJ ho hr Pe hin Oy;have FZ:=oZ.valid;obtain ⟨st1,x1⟩:=x.Vy s';have b1:EH N h (h.set N (.cells (mq rs s' all dn))):=(bu.refl h).but N |>.set _;simp only [aR,reduceAdd,reduceEqDiff,reduceIte,st1,hnc,x1.all];have n1:(h.set N (.cells (mq rs s' all dn))).next=h.next:=Heap.bp _ _ _
 generalize (h.set N (.cells (mq rs s' all dn)))=h1 at x1 b1 n1 ⊢;obtain ⟨H2,qW,p2,po2,pn2⟩:=cx (h:=h1) (zs:=[.int .i64 0,.ax]) (cs:=aq all) (n:=2) rfl rfl (cA all);have e2:bu h1 H2:=⟨by omega,fun b hb=>po2 b (by omega)⟩
 have x2:=x1.ext e2;have b2:=b1.trans (e2.but N);simp only [aR,reduceAdd,reduceEqDiff,reduceIte,qW,hnc,x2.rules,x2.base];refine ai (dL l9 iV (ff FZ).2 (fun _=>(ff FZ).1) (fun e he=>absurd oZ (zF he).2) fun _ out hz hx=>?_);have hrun:nw rs.l s' out:=⟨hz,hx⟩
 obtain ⟨st3,x3⟩:=x2.Yr out;have b3:=b2.set (.cells (mq rs s' out dn));have hNn:N≠h1.next:=by have:=x.lt;omega
 have l4:ag (some 2) (.ptr h1.next 0) (H2.set N (.cells (mq rs s' out dn)))=some (.agg (aq all)):=by
  rw [aj (cs:=aq all) (by rw [Heap.aP,if_neg (Ne.symm hNn)];exact p2),cV (cs:=aq all) (n:=2) rfl]
 simp only [aR,reduceAdd,reduceEqDiff,reduceIte,st3,hnc,x3.all,l4];have DX:=hrun.sig hp (zC hr Oy).symm;have agu:=hp.sig hrun (zC hr Oy);have U2:=hp.valid ho;have hvo:=hrun.valid oZ;obtain ⟨q1,q2⟩:=N3 hvo U2 DX;obtain ⟨q3,q4⟩:=N3 U2 hvo agu;refine ai (dM (hrun.small oZ) (hp.small ho) q1 q2 fun f hf=>?_);simp only [aR,reduceAdd,reduceEqDiff,reduceIte,x3.all,l4,AV.beq_refl,Bool.and_self,if_true];refine ai (dM (hp.small ho) (hrun.small oZ) q3 q4 fun g hg=>?_);simp only [aR,reduceAdd,reduceEqDiff,reduceIte];exact hK s' out _ f g Oy oZ hrun x3 b3 hf hg
theorem FQ(ht:t.l.length<=1000000)(hK:K (.ret (ak encI 1 t)) h=true):Sem TP 49 [ak encI 1 t] h K:=by
 have main:Sem TP 49 [ak encI 1 t] Heap.empty (fun o h'=>yes (∃ v,o = .ret v/\Fz true h' v (ak encI 1 t))):=by
  refine F.jZ ?_;rw [F.kF];simp only [Ip,aR,reduceAdd,reduceEqDiff,reduceIte]
  cases t with
  |none=>simp only [aL];exact cu.2 ⟨_,rfl,.dX rfl⟩
  |some l=>
   obtain ⟨b,h',a1,a2,_,_,_⟩:=vW (vO nH (some l) (Heap.empty.alloc (.cells []))) ht;simp only [aK,vY,an,a1,ji];exact cu.2 ⟨_,rfl,vN a2⟩
 refine main.frozen (by simp [AV.cN,b7 jd]) fun o h' ho=>?_;obtain ⟨v,rfl,hf⟩:=cu.1 ho;exact ⟨v,_,rfl,hf,hK⟩
theorem Bw(hs:s.small)(hK:∀ s':di,s'.size=s.size->s'.aC.l.map bZ=s.aC.l.map bZ->K (.ret (.agg (aq s'))) h=true):Sem TP 46 [.agg (aq s)] h K:=by
 have main:Sem TP 46 [.agg (aq s)] Heap.empty (fun o h'=>yes (∃ v,∃ s':di,o = .ret v/\s'.size=s.size/\s'.aC.l.map bZ=s.aC.l.map bZ/\Fz true h' v (.agg (aq s')))):=by
  refine Bu hs fun a h' l hx hd hl=>?_;obtain ⟨z,z1,z2⟩:=NX hd.own hd.row;have:=mu.cons (.scalar (.int .i64 s.size) rfl) (mu.cons z2 mu.nil);exact cu.2 ⟨_,⟨s.size,z⟩,rfl,rfl,by rw [<- hl];exact z1,.agg _ _ this.len this.rel⟩
 refine main.frozen (by simp [AV.cN,AV.pure,eG]) fun o h' ho=>?_;obtain ⟨v,s',rfl,h1,h2,hf⟩:=cu.1 ho;exact ⟨v,_,rfl,hf,hK s' h1 h2⟩
theorem IC(hs:s.ok)(hv:cY s=true)(hj:iC (gY nm (t.l.length:Int)) s.aC.l = -1)
  (hK:K (.ret (.tuple [.bool false,.int .i64 4])) h=true):Sem TP 21 [.agg (aq s),.str nm,ak encI 1 t] h K:=by
 refine Sem.data (r:=.tuple [.bool false,.int .i64 4]) ?_ (by simp [AV.cN,AV.pure,eG,b7 jd]) hK;clear hK;refine F.xd ?_;rw [F.zb];simp only [dg (cA s),an,bJ];have g0:(Heap.empty.alloc (.cells (aq s))).get 0=some (.cells (aq s)):=aA _ _;generalize (Heap.empty.alloc (.cells (aq s)))=H at g0 ⊢;have l0:ag (some 2) (.ptr 0 0) H=some (.agg (aq s)):=by rw [aj g0,cV (cs:=aq s) (n:=2) rfl]
 simp only [l0,an];refine ai (dQ hs ?_);rw [hv];simp only [aR,reduceAdd,reduceEqDiff,reduceIte,Bool.not_true,aK,l0];refine ai (sK hs ?_);rw [hj];simp only [aR,reduceAdd,reduceEqDiff,reduceIte,fh (show (-1:Int)<0 by omega)];exact gd rfl
theorem vh{rs:Sl aN}{all:di}(x:ej rs N h s all dn)(h1:0<s.size)(hK:K (.ret (.bool true)) h=true):Sem TP 45 [.ptr N 0] h K:=by
 refine F.tL ?_;rw [F.uD];simp only [show qF (.pointer 78) (.ptr N 0) .eH=some (.bool true) from rfl,show br (.ptr N 0)=some (.ptr N 0) from rfl,aR,reduceAdd,reduceEqDiff,reduceIte,x.size,fh h1];exact hK
theorem Sm(s:St):dG TP s Tryz.f14.results.toList=(match ag (some 2) (s.env 2) s.h,(some []:Option (List AV)) with|some v,some vs=>some (v :: vs)|_,_=>none):=by kernel_rfl
theorem PA{rs:Sl aN}{all:di}(x:ej rs N h s all dn)(h1:0<s.size)(hs:all.small)
  (hK:∀ (a':di) h',bu h h'->a'.size=all.size->a'.aC.l.map bZ=all.aC.l.map bZ->K (.ret (.agg (aq a'))) h'=true):Sem TP 14 [.ptr N 0] h K:=by
 refine F.wH ?_;rw [F.xX];have x1:=x.ext (bu.alloc h (.cells [.int .i64 0,.ax]));have g:(h.alloc (.cells [.int .i64 0,.ax])).get h.next=some (.cells [.int .i64 0,.ax]):=aA _ _
 refine ai (vh x1 h1 ?_);simp only [aR,reduceAdd,reduceEqDiff,reduceIte,Bool.not_true,show br (.ptr N 0)=some (.ptr N 0) from rfl,x1.all];refine ai (Bw hs fun a' z1 z2=>?_)
 have st:bf 2 (.ptr h.next 0) (.agg (aq a')) (h.alloc (.cells [.int .i64 0,.ax]))=some ((h.alloc (.cells [.int .i64 0,.ax])).set h.next (.cells (aq a'))):=by
  rw [cK (n:=2) (v:=.agg (aq a')) g rfl (cA a') (by simp)];rfl
 have l1:ag (some 2) (.ptr h.next 0) ((h.alloc (.cells [.int .i64 0,.ax])).set h.next (.cells (aq a')))=some (.agg (aq a')):=by
  rw [aj (cs:=aq a') (by rw [Heap.aP,if_pos rfl]),cV (cs:=aq a') (n:=2) rfl]
 simp only [aR,reduceAdd,reduceEqDiff,reduceIte,st,Sm,l1];exact hK a' _ ((bu.alloc _ _).set (dK _) _) z1 z2
structure Sn where
 name:b8
 tuple:Sl Int
 was:Bool
 to:Bool
def gO(c:Sn):List AV:=[.str c.name,ak encI 1 c.tuple,.bool c.was,.bool c.to]
theorem PC(c:Sn):(gO c).length=4:=rfl
theorem wj(c:Sn):bx (gO c)=true:=by unfold gO;simp only [bx,fR,Bool.and_true];rfl
inductive lR (N:Nat) (h:Heap):AV->List Sn->Prop
 |nil:lR N h .ax []
 |row (b:Nat) (l:List Sn) (cs:List AV):b≠N->b<h.next->h.get b=some (.cells cs)->l.length*4<=cs.length->cs.take (l.length*4)=l.flatMap gO->lR N h (.slice b 0 l.length 4) l
theorem lR.but{l:List Sn}(o:lR N h d l)(x:EH N h h'):lR N h' d l:=by
 cases o with
 |nil=>exact .nil
 |row b l cs h1 h2 h3 h4 h5=>exact .row b l cs h1 (Nat.lt_of_lt_of_le h2 x.next) (by rw [x.get b h2 h1];exact h3) h4 h5
theorem lR.lM{l:List Sn}(o:lR N h d l):d.dI = [d]/\bx [d]=true:=by cases o<;>exact ⟨rfl,rfl⟩
theorem lR.push{l:List Sn}(o:lR N h d l)(hN:N<h.next)(hroom:l.length<=1000000)(c:Sn) :
  ∃ d' h',bY 4 48 d (.slice h.next 0 1 4) (h.alloc (.cells (gO c)))=some (d',h')/\lR N h' d' (l++[c])/\h.next<=h'.next/\(∀ b,b<h.next->cL d≠some b->h'.get b=h.get b):=by
 have hm:cG=140737488355328:=rfl;have g:=aA h (.cells (gO c));have hn:(h.alloc (.cells (gO c))).next=h.next+1:=Heap.aJ h _
 have hf:gQ 4 1 (.slice h.next 0 1 4) (h.alloc (.cells (gO c)))=some (gO c):=by
  simp only [gQ,g];rfl
 cases o with
 |nil=>
  refine ⟨.slice (h.alloc (.cells (gO c))).next 0 1 4,(h.alloc (.cells (gO c))).alloc (.cells (gO c)),?_,?_,by rw [Heap.aJ,hn];omega,fun b hb _=>by rw [Heap.aQ,if_neg (by omega),Heap.aQ,if_neg (by omega)]⟩
  ·simp only [bY,lD,hf,wj,Bool.and_true];rw [if_neg (by omega),if_pos (by rw [hm];decide)]
  ·exact .row _ [c] (gO c) (by rw [hn];omega) (by simp only [Heap.aJ];omega) (aA _ _) (by simp [gO]) (by simp [gO])
 |row b l cs h1 h2 h3 h4 h5=>
  have g2:(h.alloc (.cells (gO c))).get b=some (.cells cs):=by rw [Heap.aQ,if_neg (by omega)];exact h3
  have oK:((h.alloc (.cells (gO c))).set b .dead).next=h.next+1:=by rw [Heap.bp,hn]
  refine ⟨.slice (h.alloc (.cells (gO c))).next 0 (l.length+1) 4,((h.alloc (.cells (gO c))).set b .dead).alloc (.cells ((cs.drop 0).take (l.length*4)++gO c)),?_,?_,by rw [Heap.aJ,oK];omega,fun b' hb hne=>?_⟩
  ·simp only [bY,lD,hf,g2,wj,Bool.and_true];rw [if_pos True.intro,if_neg (by omega),if_pos (by rw [hm];simp only [and_eq_true,decide_eq_true_eq];omega)]
  ·have hcs:(cs.drop 0).take (l.length*4)++gO c=(l++[c]).flatMap gO:=by
    rw [drop_zero,h5,flatMap_append];simp
   have XO:l.length+1=(l++[c]).length:=by simp
   rw [hcs,XO];have hlf:((l++[c]).flatMap gO).length=(l++[c]).length*4:=gj PC _;refine .row _ (l++[c]) ((l++[c]).flatMap gO) (by rw [hn];omega) (by simp only [Heap.aJ,Heap.bp];omega) ?_ (Nat.le_of_eq hlf.symm) (jD (Nat.le_of_eq hlf));rw [hn,<- oK];exact aA _ _
  ·rw [Heap.aQ,if_neg (by omega),Heap.aP,if_neg (fun e=>hne (by rw [e];rfl)),Heap.aQ,if_neg (by omega)]
theorem VA{b0 b1:Nat}(g0:h.get b0=some (.cells [.str nm]))(g1:h.get b1=some (.cells [ak encI 1 t]))(Tb:b0<h.next)(hb1:b1<h.next)(v:Rel)(h':Heap)(hx:bu h h')(K:Out->Heap->Bool)(hK:∀ IG,bu h' IG->K (.ret (.bool (gY nm (t.l.length:Int) v))) IG=true) :
  Sem TP 77 ([]++([.agg (aW v)]++[.ptr b0 0,.ptr b1 0])) h' K:=by
 refine F.rD ?_;rw [F.sx];have hn:=hx.next
 have fo:bu h' (Heap.alloc h' (.cells (aW v))):=bu.alloc _ _;have p:(Heap.alloc h' (.cells (aW v))).get h'.next=some (.cells (aW v)):=aA _ _
 have q0:(Heap.alloc h' (.cells (aW v))).get b0=some (.cells [.str nm]):=by rw [fo.get _ (by omega),hx.get _ Tb];exact g0
 have q1:(Heap.alloc h' (.cells (aW v))).get b1=some (.cells [ak encI 1 t]):=by rw [fo.get _ (by omega),hx.get _ hb1];exact g1
 simp only [dg (fY v),an];generalize (Heap.alloc h' (.cells (aW v)))=H at fo p q0 q1 ⊢;have lv0:ag none (.ptr h'.next 0) H=some (.str v.name):=by rw [aj p];rfl
 have lv1:ag none (.ptr h'.next 1) H=some (.int .i64 v.arity):=by rw [aj p];rfl
 have l0:ag none (.ptr b0 0) H=some (.str nm):=by rw [aj q0];rfl
 have l1:ag none (.ptr b1 0) H=some (ak encI 1 t):=by rw [aj q1];rfl
 unfold gY at hK;simp only [aR,reduceAdd,reduceEqDiff,reduceIte,lv0,lv1,l0,l1]
 cases pU:(v.name==nm) with
 |true=>
  rw [pU,Bool.true_and] at hK;simp only [aL,cI];exact hK H fo
 |false=>
  rw [pU,Bool.false_and] at hK;simp only [aK];exact hK H fo
theorem PD{all:di}(ho:dZ rs s)(hp:nw rs s all)(hn:s.size=(n:Int))(D:DB)(mF:∀ q ∈ all.aC.l,∃ b,D q.name=some (b,bitsOf n q.arity.toNat q.aM.l))(hr:r ∈ rs):zq n D r:=by
 obtain ⟨m,iE⟩:=ho.fV.go;have hv:=hp.valid ho;obtain ⟨hz,F,hF,hd⟩:=hp;refine ⟨fun c hc k0=>?_,fun c hc=>(pZ (nt ho.fV hr hc)).two,fun c hc=>(pZ (nt ho.fV hr hc)).kinds,fun c hc=>(pZ (nt ho.fV hr hc)).arity⟩;obtain ⟨h1,q,h2,h3⟩:=KG ho iE hn hv (IB hd) hr hc k0;refine ⟨h1,?_⟩;have h4:=mem_of_find?_eq_some h2;have h5:=find?_some h2;simp only [dD,beq_iff_eq] at h5;obtain ⟨b,hb⟩:=mF q h4;rw [h5] at hb;exact ⟨_,hb,by rw [sH,h3];rfl⟩
theorem VB(ho:dZ rs s)(hr:r ∈ rs):(varsOf r).length<=12:=by
 have:=GU ho.fV hr;unfold jq at this;simp only [and_eq_true,decide_eq_true_eq] at this;exact this.2.2.2.2
set_option maxHeartbeats 1000000 in
theorem KI{rs:Sl aN}{all:di}(x:ej rs N h s all dn)(iV:∀ r ∈ rs.l,r.lJ)(ho:dZ rs.l s)(hp:nw rs.l s all)(hn:s.size=(n:Int))(vZ:t.l.length<=cE)
  (h4:iC (gY nm (t.l.length:Int)) all.aC.l<(s.aC.l.length:Int)->∀ h',bu h h'->K (.ret (.tuple [.int .i64 0,.int .i64 4])) h'=true)
  (h0:(s.aC.l.length:Int)<=iC (gY nm (t.l.length:Int)) all.aC.l->∀ h',bu h h'->K (.ret (.tuple [.int .i64 ((kQ n (iG n all) nm t.l rs.l:Nat):Int),.int .i64 0])) h'=true) :
  Sem TP 33 [.ptr N 0,.str nm,ak encI 1 t] h K:=by
 obtain ⟨n',yF,n1,sI,_⟩:=jI ho.valid;have Sh:0<s.size:=by omega
 have hnc:∀ c o:Nat,br (.ptr c o)=some (.ptr c o):=fun _ _=>rfl;have U2:=hp.valid ho;have PE:=(ff U2).2;refine F.tK ?_;rw [F.uC];simp only [mE (x:=.str nm) rfl,mE (fR t),an,Heap.aJ];have g0:((h.alloc (.cells [.str nm])).alloc (.cells [ak encI 1 t])).get h.next=some (.cells [.str nm]):=by rw [Heap.aQ,Heap.aJ,if_neg (by omega)];exact aA _ _
 have g1:((h.alloc (.cells [.str nm])).alloc (.cells [ak encI 1 t])).get (h.next+1)=some (.cells [ak encI 1 t]):=aA _ _;have xe:bu h ((h.alloc (.cells [.str nm])).alloc (.cells [ak encI 1 t])):=(bu.alloc _ _).trans (bu.alloc _ _);have gn:((h.alloc (.cells [.str nm])).alloc (.cells [ak encI 1 t])).next=h.next+2:=rfl
 generalize ((h.alloc (.cells [.str nm])).alloc (.cells [ak encI 1 t]))=H at g0 g1 xe gn ⊢;have x1:=x.ext xe;refine ai (vh x1 Sh ?_);have la:∀ h',ej rs N h' s all dn->ag none (.ptr N 4) h'=some (ak aW 3 all.aC):=fun h' y=>by rw [aj y.get];rfl
 have lb:∀ h',ej rs N h' s all dn->ag none (.ptr N 2) h'=some (ak aW 3 s.aC):=fun h' y=>by rw [aj y.get];rfl
 simp only [aR,reduceAdd,reduceEqDiff,reduceIte,Bool.not_true,hnc,la _ x1];refine ai (qT (Kb eC all.aC) PE.1 (p:=gY nm (t.l.length:Int)) (fun v h2 fo K2 SJ=>VA g0 g1 (by omega) (by omega) v h2 fo K2 SJ) fun h2 fo=>?_);have x2:=x1.ext fo;simp only [aR,reduceAdd,reduceEqDiff,reduceIte,hnc,lb _ x2];by_cases hw:iC (gY nm (t.l.length:Int)) all.aC.l<(s.aC.l.length:Int)
 ·simp only [fh hw,aL];exact h4 hw h2 (xe.trans fo)
 ·have l0:ag none (.ptr h.next 0) h2=some (.str nm):=by rw [aj (cs:=[.str nm]) (by rw [fo.get _ (by omega)];exact g0)];rfl
  have l1:ag none (.ptr (h.next+1) 0) h2=some (ak encI 1 t):=by rw [aj (cs:=[ak encI 1 t]) (by rw [fo.get _ (by omega)];exact g1)];rfl
  simp only [eT hw,aK,aR,reduceAdd,reduceEqDiff,reduceIte,hnc,x2.rules,x2.all,l0,l1];refine ai (bS (n:=n) iV (fun r hr=>VB ho hr) (fun r hr=>by have:=(iV r hr).1;omega) PE U2 (by rw [hp.size,hn]) ho.fV.lJ (fun r hr=>?_) vZ (fun D mF r hr=>PD ho hp hn D mF hr) ?_)
  ·have:s.size.toNat=n:=by omega
   rw [<- this];exact Nat.le_of_not_lt fun hlt=>ho.xw (.inr (.inr ⟨r,hr,hlt⟩))
  ·simp only [aR,reduceAdd,reduceEqDiff,reduceIte];exact h0 (by omega) h2 (xe.trans fo)
theorem MK{B:Nat}{rs:Sl aN}{all:di}(x:ej rs N h s all dn)(hb:h.get B=some (.cells [.ptr N 0]))(v:Int)(K:Out->Heap->Bool)(hK:K (.ret (.bool (Ek s.size v))) h=true):Sem TP 48 ([]++([.int .i64 v]++[.ptr B 0])) h K:=by
 refine F.tM ?_;rw [F.uE];simp only [show br (.ptr N 0)=some (.ptr N 0) from rfl,aj hb,aR,reduceAdd,reduceEqDiff,reduceIte,x.size];unfold Ek at hK;by_cases h1:v<0<;>by_cases h2:s.size<=v<;>simpa [h1,h2] using hK
theorem Ys(nm:b8)(y:Sl Int)(a b:Bool):iD [.str [],.ax,.bool false,.bool false] [(0,1),(1,1),(2,1),(3,1)] [.str nm,ak encI 1 y,.bool a,.bool b]=some (.agg (gO ⟨nm,y,a,b⟩)):=by cases y<;>rfl
theorem Yt(c:Sn):fB [.str [],.ax,.bool false,.bool false] [(0,4)] [.agg (gO c)]=some (gO c):=by
 obtain ⟨nm,y,a,b⟩:=c;cases y<;>rfl
structure adt (N:Nat) (dn:AV) (h h':Heap):Prop where
 next:h.next<=h'.next
 get:∀ b,b<h.next->b≠N->cL dn≠some b->h'.get b=h.get b
set_option maxHeartbeats 1000000 in
theorem PF{rs:Sl aN}{all:di}{dl:List Sn}(x:ej rs N h s all dn)(od:lR N h dn dl)(hdl:dl.length<=1000000)(l9:∀ r ∈ rs.l,r.ok)(iV:∀ r ∈ rs.l,r.lJ)(ho:dZ rs.l s)(hp:nw rs.l s all)
  (vZ:t.l.length<=1000000)
  (h4:s.aC.l.find? (gY nm (t.l.length:Int))=none->∀ h',bu h h'->K (.ret (.tuple [.ax,.ax,.int .i64 4])) h'=true)
  (h2:∀ r,s.aC.l.find? (gY nm (t.l.length:Int))=some r->iY s.size t.l=false->∀ h',bu h h'->K (.ret (.tuple [.ax,.ax,.int .i64 2])) h'=true)
  (h0:∀ (j:Nat) (r:Rel),iC (gY nm (t.l.length:Int)) s.aC.l=(j:Int)->s.aC.l[j]?=some r->s.aC.l.find? (gY nm (t.l.length:Int))=some r->r.arity=(t.l.length:Int)->iY s.size t.l=true->∀ (s' EI:di) h' Qu (f g:Sl FP),FN s j r t.l is s'->dZ rs.l s'->nw rs.l s' EI ->
   ej rs N h' s' EI Qu->lR N h' Qu (dl++[⟨nm,t,decide (t.l ∈ r.aM.l.map Sl.l),is⟩])->adt N dn h h'->(∀ b,cL Qu=some b->h.next<=b) ->
   f.l.map IA=xy (EI.aC.l.map bZ) (all.aC.l.map bZ)->g.l.map IA=xy (all.aC.l.map bZ) (EI.aC.l.map bZ)->K (.ret (.tuple [ak oh 2 f,ak oh 2 g,.int .i64 0])) h'=true) :
  Sem TP 15 [.ptr N 0,.str nm,ak encI 1 t,.bool is] h K:=by
 have hv:=ho.valid;have k9:=(ff hv).2;have hbig:t.l.length<=cE:=by unfold cE;omega
 obtain ⟨n,hn,n1,_⟩:=jI hv;have Sh:0<s.size:=by omega
 have hnc:∀ c o:Nat,br (.ptr c o)=some (.ptr c o):=fun _ _=>rfl;refine F.wI ?_;rw [F.xY];have g0:(h.alloc (.cells [.ptr N 0])).get h.next=some (.cells [.ptr N 0]):=aA _ _
 have e1:bu h (h.alloc (.cells [.ptr N 0])):=bu.alloc _ _;have n1':(h.alloc (.cells [.ptr N 0])).next=h.next+1:=Heap.aJ _ _
 simp only [mE (show (AV.ptr N 0).one=true from rfl),an];generalize (h.alloc (.cells [.ptr N 0]))=H1 at g0 e1 n1' ⊢;have x1:=x.ext e1;have lk:ag none (.ptr h.next 0) H1=some (.ptr N 0):=by rw [aj g0];rfl
 simp only [lk,an];refine ai (vh x1 Sh ?_);simp only [aR,reduceAdd,reduceEqDiff,reduceIte,Bool.not_true,lk,hnc,x1.base];rcases nL (gY nm (t.l.length:Int)) s.aC.l with ⟨w1,w2⟩|⟨j,r,w1,w2,w3⟩
 ·refine ai (IC k9 hv w1 ?_);simp only [aR,reduceAdd,reduceEqDiff,reduceIte,cI,show decide ((4:Int)=0)=false from rfl,Bool.not_false];exact h4 w2 _ e1
 ·have hsy:gY nm (t.l.length:Int) r=true:=find?_some w3
  have Pe:r.arity=(t.l.length:Int):=by
   simp only [gY,and_eq_true,decide_eq_true_eq] at hsy;exact hsy.2
  refine ai (G0 k9 hv w1 w2 Pe hbig ?_);simp only [aR,reduceAdd,reduceEqDiff,reduceIte,cI,decide_true,Bool.not_true];refine ai (rJ hbig (g:=48) (a:=[]) (b:=[.ptr h.next 0]) (p:=Ek s.size) (fun v K' hK'=>MK x1 g0 v K' hK') ?_);have PM:=RG s.size t.l
  cases hin:iY s.size t.l with
  |false=>
   have ha:t.l.any (Ek s.size)=true:=by rw [hin] at PM;cases hh:t.l.any (Ek s.size) with|true=>rfl|false=>rw [hh] at PM;cases PM
   rw [ha];simp only [aR,reduceAdd,reduceEqDiff,reduceIte];exact h2 r w3 hin _ e1
  |true=>
   have ha:t.l.any (Ek s.size)=false:=by rw [hin] at PM;cases hh:t.l.any (Ek s.size) with|false=>rfl|true=>rw [hh] at PM;cases PM
   rw [ha];simp only [aR,reduceAdd,reduceEqDiff,reduceIte,lk,hnc,x1.done];refine ai (FQ vZ ?_);have od1:lR N H1 dn dl:=od.but (e1.but N);obtain ⟨d',H2,c1,o2,nx2,f2⟩:=od1.push (by have:=x1.lt;omega) hdl ⟨nm,t,decide (t.l ∈ r.aM.l.map Sl.l),is⟩
   have Oz:∀ b,cL dn=some b->b<h.next/\b≠N:=fun b hb=>by
    cases od with
    |nil=>cases hb
    |row c l cs q1 q2 _ _ _=>cases hb;exact ⟨q2,q1⟩
   have agv:∀ b,cL d'=some b->h.next<=b:=fun b hb=>by
    cases od1 with
    |nil=>
     have hm:cG=140737488355328:=rfl
     have:cL d'=some H1.next\/h.next<=b:=by
      right
      have hf:gQ 4 1 (.slice H1.next 0 1 4) (H1.alloc (.cells (gO ⟨nm,t,decide (t.l ∈ r.aM.l.map Sl.l),is⟩)))=some (gO ⟨nm,t,decide (t.l ∈ r.aM.l.map Sl.l),is⟩):=by
       simp only [gQ,aA];rfl
      simp only [bY,lD,hf,wj,Bool.and_true] at c1;rw [if_neg (by omega),if_pos (by rw [hm];decide)] at c1;cases c1;have:(H1.alloc (.cells (gO ⟨nm,t,decide (t.l ∈ r.aM.l.map Sl.l),is⟩))).next=b:=by cases hb;rfl
      rw [Heap.aJ] at this;omega
     rcases this with h|h
     ·rw [h] at hb;cases hb;omega
     ·exact h
    |row c l cs q1 q2 q3 q4 q5=>
     have hm:cG=140737488355328:=rfl
     have hf:gQ 4 1 (.slice H1.next 0 1 4) (H1.alloc (.cells (gO ⟨nm,t,decide (t.l ∈ r.aM.l.map Sl.l),is⟩)))=some (gO ⟨nm,t,decide (t.l ∈ r.aM.l.map Sl.l),is⟩):=by
      simp only [gQ,aA];rfl
     have g2:(H1.alloc (.cells (gO ⟨nm,t,decide (t.l ∈ r.aM.l.map Sl.l),is⟩))).get c=some (.cells cs):=(by rw [Heap.aQ,if_neg (by omega)];exact q3);simp only [bY,lD,hf,g2,wj,Bool.and_true] at c1;rw [if_pos True.intro,if_neg (by omega),if_pos (by rw [hm];simp only [and_eq_true,decide_eq_true_eq];omega)] at c1;cases c1;have:(H1.alloc (.cells (gO ⟨nm,t,decide (t.l ∈ r.aM.l.map Sl.l),is⟩))).next=b:=by cases hb;rfl
     rw [Heap.aJ] at this;omega
   have x2:ej rs N H2 s all dn:=x1.agree (f2 N x1.lt (fun hb=>(Oz N hb).2 rfl)) nx2;have g2:H2.get h.next=some (.cells [.ptr N 0]):=by rw [f2 h.next (by omega) (fun hb=>by have:=(Oz _ hb).1;omega)];exact g0
   have lk2:ag none (.ptr h.next 0) H2=some (.ptr N 0):=by rw [aj g2];rfl
   obtain ⟨k1,k2⟩:=o2.lM;obtain ⟨st,x3⟩:=x2.Vz k1 k2;have hNn:h.next≠N:=by have:=x.lt;omega
   have lk3:ag none (.ptr h.next 0) (H2.set N (.cells (mq rs s all d')))=some (.ptr N 0):=by rw [aj (cs:=[.ptr N 0]) (by rw [Heap.aP,if_neg hNn];exact g2)];rfl
   have o3:lR N (H2.set N (.cells (mq rs s all d'))) d' (dl++[⟨nm,t,decide (t.l ∈ r.aM.l.map Sl.l),is⟩]):=o2.but ((bu.refl H2).but N |>.set _);simp only [aR,reduceAdd,reduceEqDiff,reduceIte,lk,hnc,x1.done,AV.beq_refl,Bool.and_self,if_true,Ys,Yt,c1,lk2,st,lk3];refine ai (Sk x3 l9 iV ho hp w1 w2 Pe hin fun s' EI h' f g p1 p2 p3 p4 p5 p6 p7=>?_);simp only [aR,reduceAdd,reduceEqDiff,reduceIte];refine h0 j r w1 w2 w3 Pe hin s' EI h' d' f g p1 p2 p3 p4 (o3.but p5) ⟨?_,fun b hb hbN hbd=>?_⟩ agv p6 p7
   ·have:=p5.next;rw [Heap.bp] at this;omega
   ·rw [p5.get b (by rw [Heap.bp];omega) hbN,Heap.aP,if_neg hbN,f2 b (by omega) hbd,e1.get b hb]
theorem KJ{α:Type}{enc:α->List AV}(h1:∀ a,bx (enc a)=true):∀ l:List α,bx (l.flatMap enc)=true
 |[]=>rfl
 |a :: l=>by
  rw [flatMap_cons];have ha:=h1 a;have hl:=KJ h1 l;generalize enc a=x at ha
  induction x with
  |nil=>exact hl
  |cons v x ih=>
   simp only [bx,and_eq_true,cons_append] at ha ⊢;exact ⟨ha.1,ih ha.2⟩
theorem PG{enc:α->List AV}{bytes:Nat}(he:∀ a,(enc a).length=1)(h1:∀ a,bx (enc a)=true){src:AV}{l:List α}(r:Row enc 1 (h.alloc (.cells [])) src l)(hl:l.length*bytes<=cG) :
  ∃ b h',bY 1 bytes (.slice h.next 0 0 1) src (h.alloc (.cells []))=some (.slice b 0 l.length 1,h')/\h'.get b=some (.cells (l.flatMap enc))/\bu h h':=by
 have g:(h.alloc (.cells [])).get h.next=some (.cells []):=aA _ _
 have rc:=r.cells;by_cases hz:l.length=0
 ·have:l = []:=eq_nil_of_length_eq_zero hz;subst this;refine ⟨h.next,h.alloc (.cells []),?_,g,bu.alloc _ _⟩;simp only [length_nil] at rc;simp [bY,r.len,rc]
 ·refine ⟨h.next+1,((h.alloc (.cells [])).set h.next .dead).alloc (.cells (l.flatMap enc)),?_,?_,?_⟩
  ·simp only [bY,r.len,rc,if_true,if_neg hz,g];rw [if_pos (by simp [KJ h1];omega)];simp [Heap.bp,Heap.aJ]
  ·have:=aA ((h.alloc (.cells [])).set h.next .dead) (.cells (l.flatMap enc))
   rwa [Heap.bp,Heap.aJ] at this
  ·exact ((bu.alloc h (.cells [])).set (dK _) _).trans (bu.alloc _ _)
theorem VC{enc:α->List AV}{sz:Nat}(hp:∀ a,AV.cN (enc a)=true){l:List α}{b:Nat}(hb:h.get b=some (.cells (l.flatMap enc))):Fz true h (.slice b 0 l.length sz) (ak enc sz (some l)):=by
 have qJ:AV.cN (l.flatMap enc)=true:=by
  have:=b7 (sz:=sz) hp (some l);simpa [ak,AV.pure] using this
 have:mu true h (l.flatMap enc) (l.flatMap enc):=.dX qJ;exact .slice b 0 l.length sz _ _ hb this.len this.rel
theorem xz{t:Sl b8}(ht:t.l.length<=1000000)(hK:K (.ret (ak encS 1 t)) h=true):Sem TP 117 [ak encS 1 t] h K:=by
 have hm:cG=140737488355328:=rfl
 have main:Sem TP 117 [ak encS 1 t] Heap.empty (fun o h'=>yes (∃ v,o = .ret v/\Fz true h' v (ak encS 1 t))):=by
  refine F.mI ?_;rw [F.mR];simp only [Ip,aR,reduceAdd,reduceEqDiff,reduceIte]
  cases t with
  |none=>simp only [aL];exact cu.2 ⟨_,rfl,.dX rfl⟩
  |some l=>
   obtain ⟨b,h',a1,a2,_⟩:=PG (bytes:=16) (fun _=>rfl) (fun _=>rfl) (vO (enc:=encS) (fun _=>rfl) (some l) (Heap.empty.alloc (.cells []))) (by have h2:l.length<=1000000:=ht;show l.length*16<=cG;omega);simp only [aK,vY,an,a1,ji];exact cu.2 ⟨_,rfl,VC kj a2⟩
 refine main.frozen (by simp [AV.cN,b7 kj]) fun o h' ho=>?_;obtain ⟨v,rfl,hf⟩:=cu.1 ho;exact ⟨v,_,rfl,hf,hK⟩
def nb(b:Sl eV):Sl eV:=if b.l = [] then none else some b.l
theorem agw(b:Sl eV):(nb b).l=b.l:=by
 unfold nb;split
 ·rename_i h;rw [h];rfl
 ·rfl
def gG(r:aN):aN:=⟨r.name,r.args,nb r.body⟩
abbrev RuV:=b8×Sl b8×O2
def mP(r:RuV):List AV:=[.str r.1,ak encS 1 r.2.1,r.2.2.1]
theorem EJ(r:RuV):(mP r).length=3:=rfl
theorem EK(r:RuV):bx (mP r)=true:=by
 have:=r.2.2.2.1;unfold mP;simp only [bx,fR,Bool.and_true,Bool.true_and] at this ⊢;rw [this];rfl
theorem VD(r:RuV):fB [.str [],.ax,.ax] [(0,3)] [.agg (mP r)]=some (mP r):=by
 have ho:=EK r
 have hf:oY [.str [],.ax,.ax] [(0,3)] [.agg (mP r)]=some (mP r):=by
  have hc:AV.dI (.agg (mP r))=mP r:=rfl;have hp:eL [.str [],.ax,.ax] 0 (mP r)=mP r:=rfl;simp only [oY,hc,hp,ho,EJ];rfl
 unfold fB;rw [hf];simp only [ho,if_true]
theorem Yu(c:eV):fB [.int .i64 0,.bool false,.str [],.ax] [(0,4)] [.agg (bP c)]=some (bP c):=by
 obtain ⟨k,n,nm,xs⟩:=c;cases xs<;>rfl
theorem Yv(nm:b8)(xs:Sl b8):iD [.str [],.ax] [(0,1),(1,1)] [.str nm,ak encS 1 xs]=some (.agg (iO nm xs)):=by cases xs<;>rfl
theorem Yw(nm:b8)(xs:Sl b8):iD [.str [],.ax,.ax] [(0,2)] [.agg (iO nm xs)]=some (.agg [.str nm,ak encS 1 xs,.ax]):=by cases xs<;>rfl
theorem adu{xs:Sl b8}{v:O2}{x:Sl eV}(hf:Fz true h v.1 (ak bP 4 x)):mu true h (mP (nm,xs,v)) (aO ⟨nm,xs,x⟩):=
 .cons (.scalar _ rfl) (.cons (.dX (b7 kj xs)) (.cons hf .nil))
set_option maxHeartbeats 2000000 in
theorem c8{rules:Sl aN}(tP:rules.l.length<=60)(hsz:∀ r ∈ rules.l,r.args.l.length<=1000000/\r.body.l.length<=1000000/\∀ c ∈ r.body.l,c.args.l.length<=1000000){h:Heap}{K:Out->Heap->Bool}
  (hK:∀ x:Sl aN,x.l=rules.l.map gG->K (.ret (ak aO 3 x)) h=true):Sem TP 73 [ak aO 3 rules] h K:=by
 have hm:cG=140737488355328:=rfl;have hbig:rules.l.length<=cE:=by unfold cE;omega
 have main:Sem TP 73 [ak aO 3 rules] Heap.empty (fun o h'=>yes (∃ v,∃ x:Sl aN,o = .ret v/\x.l=rules.l.map gG/\Fz true h' v (ak aO 3 x))):=by
  refine F.B0 ?_;rw [F.DR];simp only [aR,reduceAdd,reduceEqDiff,reduceIte]
  refine aD 0 rules.l.length (zero_le _) (fun i e h'=>∃ a l,jM (fun _=>False) mP aO 3 0 h' a l/\(l.map (·.2))=(rules.l.take i).map gG/\e 3=a/\e 9=ak aO 3 rules/\e 10 = .int .i64 (rules.l.length:Int)/\e 11 = .int .i64 (i:Int))
   ⟨_,[],.nil,rfl,rfl,rfl,rfl,rfl⟩ ?_ ?_
  ·rintro i e h' _ hi ⟨a,l,o,hl,e3,e9,jm,nU⟩ K' hn gi hr hp;have hv:rules.l[i]?=some rules.l[i]:=ez hi;generalize rules.l[i]=r at hv;have nV:=iz hv;obtain ⟨z1,z2,z3⟩:=hsz r nV;have Bj:r.body.l.length<=cE:=by unfold cE;omega
   have XO:l.length=i:=by have:=congrArg List.length hl;rw [length_map,length_map,length_take,Nat.min_eq_left (by omega)] at this;exact this
   obtain ⟨H3,Nb,p3,RP,Vb⟩:=cx (h:=h') (zs:=[.str [],.ax,.ax]) (cs:=aO r) (n:=3) rfl rfl (jG r);have l0:ag none (.ptr h'.next 0) H3=some (.str r.name):=by rw [aj p3];rfl
   have l1:ag none (.ptr h'.next 1) H3=some (ak encS 1 r.args):=by rw [aj p3];rfl
   have Ye:ag none (.ptr h'.next 0) (H3.alloc (.cells [.str [],.ax,.ax]))=some (.str r.name):=by rw [aj (cs:=aO r) (by rw [Heap.aQ,if_neg (by omega)];exact p3)];rfl
   obtain ⟨H4,PS,p4,Mj,XY⟩:=cx (h:=H3) (zs:=[.str [],.ax,.ax]) (cs:=[.str r.name,ak encS 1 r.args,.ax]) (n:=3) rfl rfl (by simp only [bx,fR,Bool.and_true];rfl);have x4:bu h' H4:=⟨by omega,fun b hb=>by rw [Mj b (by omega),RP b (by omega)]⟩
   have l2:ag none (.ptr h'.next 2) H4=some (ak bP 4 r.body):=by rw [aj (show H4.get h'.next=some (.cells (aO r)) by rw [Mj _ (by omega)];exact p3)];rfl
   rw [F.c8.aT];simp only [e9,jm,nU,aR,reduceAdd,reduceEqDiff,reduceIte,aZ hi,aV rules hi,dO gu hv,Nb];simp only [aR,reduceAdd,reduceEqDiff,reduceIte,l0,l1];refine ai (xz z1 ?_);simp only [aR,reduceAdd,reduceEqDiff,reduceIte,Ye,AV.beq_refl,Bool.and_self,if_true,Yv,Yw,PS,l2];rw [Vb] at p4 PS Mj XY ⊢
   refine aD 0 r.body.l.length (zero_le _) (fun j e h2=>∃ bv bs,h2.get (h'.next+1)=some (.cells [.str r.name,ak encS 1 r.args,bv])/\Own bP 4 (h'.next+2) h2 bv bs/\(bs = []->bv = .ax)/\bs=r.body.l.take j/\bu h' h2/\h'.next+2<=h2.next /\
    e 3=a/\e 9=ak aO 3 rules/\e 10 = .int .i64 (rules.l.length:Int)/\e 11 = .int .i64 (i:Int)/\e 6 = .ptr (h'.next+1) 0/\e 25=ak bP 4 r.body/\e 26 = .int .i64 (r.body.l.length:Int)/\e 27 = .int .i64 (j:Int))
    ⟨_,[],p4,.nil,fun _=>rfl,rfl,x4,by omega,e3,e9,jm,nU,rfl,rfl,rfl,rfl⟩ ?_ ?_
   ·rintro j e h2 _ hj ⟨bv,bs,q6,ob,Li,hbs,x2,RQ,e3,e9,jm,nU,e6,Mk,xq,wL⟩ K2 qR fo qL DY;have hvc:r.body.l[j]?=some r.body.l[j]:=ez hj;generalize r.body.l[j]=c at hvc;have XT:bs.length=j:=by rw [hbs,length_take,Nat.min_eq_left (by omega)]
    obtain ⟨H5,hs5,p5,po5,pn5⟩:=cx (h:=h2) (zs:=[.int .i64 0,.bool false,.str [],.ax]) (cs:=bP c) (n:=4) rfl rfl (iI c);have l5:ag none (.ptr h2.next 3) H5=some (ak encS 1 c.args):=by rw [aj p5];rfl
    have Vh:(ak encS 1 c.args).dI = [ak encS 1 c.args]:=(by cases c.args<;>rfl);have Ws:bx [ak encS 1 c.args]=true:=by simp only [bx,fR,Bool.and_true]
    have st5:bf 1 (.ptr h2.next 3) (ak encS 1 c.args) H5=some (H5.set h2.next (.cells (bP c))):=by
     rw [cK (n:=1) p5 (by rw [Vh];rfl) (by rw [Vh];exact Ws) (by simp [bP]),Vh];rfl
    have n6:(H5.set h2.next (.cells (bP c))).next=h2.next+1:=by rw [Heap.bp];exact pn5
    have g6:(H5.set h2.next (.cells (bP c))).get h2.next=some (.cells (bP c)):=by rw [Heap.aP,if_pos rfl]
    have f6:∀ b,b<h2.next->(H5.set h2.next (.cells (bP c))).get b=h2.get b:=fun b hb=>by rw [Heap.aP,if_neg (by omega),po5 b (by omega)]
    have x6:bu h2 (H5.set h2.next (.cells (bP c))):=⟨by omega,f6⟩
    rw [F.c8.dm];simp only [Mk,xq,wL,aR,reduceAdd,reduceEqDiff,reduceIte,aZ hj,aV r.body hj,dO iH hvc,hs5,l5];refine ai (xz (z3 c (iz hvc)) ?_);simp only [aR,reduceAdd,reduceEqDiff,reduceIte,st5,e6];generalize (H5.set h2.next (.cells (bP c)))=H6 at n6 g6 f6 x6 ⊢;have q6':H6.get (h'.next+1)=some (.cells [.str r.name,ak encS 1 r.args,bv]):=by rw [f6 _ (by omega)];exact q6
    have lb:ag none (.ptr (h'.next+1) 2) H6=some bv:=(by rw [aj q6'];rfl);have lc:ag (some 4) (.ptr h2.next 0) H6=some (.agg (bP c)):=by rw [aj g6,cV (cs:=bP c) (n:=4) rfl]
    obtain ⟨a5,h5,c5,o5,f5,n5,w5,b5⟩:=(ob.ext x6).push iH iI (by omega) (bytes:=56) (by rw [hm];omega) c;have hne:cL bv≠some (h'.next+1):=fun hb=>by have:=ob.ge hb;omega
    have s6:h5.get (h'.next+1)=some (.cells [.str r.name,ak encS 1 r.args,bv]):=(by rw [f5 _ (by omega) hne];exact q6');have c6:=o5.lM
    have st:bf 1 (.ptr (h'.next+1) 2) a5 h5=some (h5.set (h'.next+1) (.cells [.str r.name,ak encS 1 r.args,a5])):=by
     rw [cK (n:=1) s6 c6.2.1 c6.1 (by simp),c6.2.2];rfl
    simp only [aR,reduceAdd,reduceEqDiff,reduceIte,lb,lc,Yu,c5,e6,wL,st,aI hj Bj];refine qR _ _ ⟨a5,bs++[c],by rw [Heap.aP,if_pos rfl],o5.kM (by omega) _,fun h=>absurd (congrArg List.length h) (by simp),by rw [hbs,take_add_one,hvc];rfl,(w5 h' (x2.trans x6) (by omega)).set (by omega) _,by rw [Heap.bp];omega,e3,e9,jm,nU,e6,Mk,xq,rfl⟩
   ·rintro e h2 ⟨bv,bs,q6,ob,Li,hbs,x2,RQ,e3,e9,jm,nU,e6,Mk,xq,wL⟩ K2 fo;rw [jD (dK _)] at hbs;subst hbs;have o2:=o.ext x2;obtain ⟨Cu,KW⟩:=nD ob;have lq:ag (some 3) (.ptr (h'.next+1) 0) h2=some (.agg (mP (r.name,r.args,⟨bv,Cu,KW⟩))):=by rw [aj q6];rfl
    obtain ⟨x,jO,B5⟩:=(jM.AA ob yb).data;have Gx:x.l=r.body.l:=by rw [jO,List.map_map];simp [Function.comp_def]
    obtain ⟨y,hy⟩:∃ y:Sl eV,y=nb r.body:=⟨_,rfl⟩
    have hfy:∀ g:Heap,(∀ b,h'.next+2<=b->b<h2.next->g.get b=h2.get b)->Fz true g bv (ak bP 4 y):=fun g hg=>by
     by_cases hz:r.body.l = []
     ·rw [Li hz,hy];have:nb r.body=none:=by unfold nb;rw [if_pos hz]
      rw [this];exact .dX rfl
     ·have hyx:y=x:=by
       rw [hy];unfold nb;rw [if_neg hz]
       cases x with
       |none=>exact absurd Gx.symm hz
       |some m=>rw [<- Gx];rfl
      rw [hyx];exact B5 g fun b b1 b2 _=>hg b b1 b2
    obtain ⟨a5,h5,c5,o5,f5,n5,w5,b5⟩:=o2.push EJ EK (zero_le _) (bytes:=64) (by rw [hm];omega) (r.name,r.args,⟨bv,Cu,KW⟩) ⟨r.name,r.args,y⟩ (fun _ h=>h.elim)
     (fun g hg=>adu (hfy g fun b b1 b2=>hg b (zero_le _) b2 (fun h=>h) (fun hb=>by have:=o.own.lt hb;omega)))
    rw [F.c8.dm];simp only [xq,wL,aR,reduceAdd,reduceEqDiff,reduceIte,aS];rw [fo,F.c8.cq];simp only [aR,reduceAdd,reduceEqDiff,reduceIte,e3,e6,nU,lq,VD,c5,aI hi hbig];refine hn _ _ ⟨a5,_,o5,?_,rfl,e9,jm,rfl⟩;rw [map_append,hl,take_add_one,hv,map_append,hy];rfl
  ·rintro e h' ⟨a,l,o,hl,e3,e9,jm,nU⟩ K' gi;rw [F.c8.aT];simp only [jm,nU,aR,reduceAdd,reduceEqDiff,reduceIte,aS];rw [gi,F.c8.aF];simp only [bL,reduceEqDiff,reduceIte,e3];rw [jD (dK _)] at hl;obtain ⟨x,x1,x2⟩:=o.fz;exact cu.2 ⟨a,x,rfl,by rw [x1,hl],x2⟩
 refine main.frozen (by simp [AV.cN,b7 fN]) fun o h' ho=>?_;obtain ⟨v,x,rfl,h1,h2⟩:=cu.1 ho;exact ⟨_,_,rfl,h2,hK x h1⟩
theorem wk(r:aN):(gG r).name=r.name:=rfl
theorem oV(r:aN):(gG r).args=r.args:=rfl
theorem nx(r:aN):(gG r).body.l=r.body.l:=agw r.body
theorem AO(r:aN):varsOf (gG r)=varsOf r:=by unfold varsOf;rw [oV,nx]
theorem VE(h:r.ok):(gG r).ok:=by
 unfold aN.ok at h ⊢;rw [wk,oV,nx];exact h
theorem Sp(h:r.lJ):(gG r).lJ:=by
 unfold aN.lJ at h ⊢;rw [oV,nx];exact h
theorem ID:∀ (rs:List aN) (m:eP),dR (rs.map gG) m=dR rs m
 |[],m=>rfl
 |r :: rs,m=>by
  rw [map_cons];unfold dR;rw [wk,oV,nx,AO];have ih:=ID rs;simp only [ih]
theorem EL(rs:List aN):bA (rs.map gG)=bA rs:=by unfold bA;rw [List.map_map];rfl
theorem EM{β:Type}{f g:α->List β}(h:∀ a,f a=g a)(l:List α):l.flatMap f=l.flatMap g:=by rw [funext h]
theorem ML(hs:List b8)(rs:List aN):jy hs (rs.map gG)=jy hs rs:=by
 unfold jy;rw [flatMap_map];refine EM (fun r=>?_) _;rw [nx];rfl
theorem nN(rs:List aN):bO (rs.map gG)=bO rs:=by unfold bO;rw [EL,ML]
theorem MM(rs:List aN):cD (rs.map gG)=cD rs:=by
 unfold cD;rw [flatMap_map];refine EM (fun r=>?_) _;unfold uU;rw [wk,oV,nx]
theorem AP(rs:List aN):dS (rs.map gG)=dS rs:=by unfold dS;rw [foldl_map];rfl
theorem Sq(rs:List aN)(nm:b8):mW (rs.map gG) nm=mW rs nm:=by
 unfold mW;rw [find?_map];have:((fun r:aN=>r.name==nm)∘gG)=fun r=>r.name==nm:=rfl;rw [this];cases rs.find? (fun r=>r.name==nm)<;>rfl
theorem G5:k8 (rs.map gG)↔k8 rs:=by
 constructor
 ·rintro ⟨a,b,c⟩;rw [ID] at b;rw [nN] at c;exact ⟨by simpa using a,b,c⟩
 ·rintro ⟨a,b,c⟩;exact ⟨by simpa using a,by rw [ID];exact b,by rw [nN];exact c⟩
theorem KK:KX (rs.map gG) s↔KX rs s:=by unfold KX;rw [MM,EL]
theorem KL:NR (rs.map gG) s↔NR rs s:=by
 unfold NR;rw [AP]
 have e:∀ p:aN->Prop,(∀ r,p (gG r)↔p r)->((∃ r ∈ rs.map gG,p r)↔∃ r ∈ rs,p r):=fun p hp=>by
  constructor
  ·rintro ⟨r,hr,h⟩;obtain ⟨q,hq,rfl⟩:=mem_map.1 hr;exact ⟨q,hq,(hp q).1 h⟩
  ·rintro ⟨r,hr,h⟩;exact ⟨gG r,List.mem_map_of_mem hr,(hp r).2 h⟩
 rw [e (fun r=>4096<s.size.toNat ^ r.args.l.length) (fun r=>Iff.rfl),e (fun r=>65536<s.size.toNat ^ (varsOf r).length) (fun r=>by rw [AO])]
theorem PI:dZ (rs.map gG) s↔dZ rs s:=
 ⟨fun h=>⟨G5.1 h.fV,h.valid,fun x=>h.names (KK.2 x),fun x=>h.xw (KL.2 x)⟩,
  fun h=>⟨G5.2 h.fV,h.valid,fun x=>h.names (KK.1 x),fun x=>h.xw (KL.1 x)⟩⟩
theorem MN(lv:eA.Lv)(rs:List aN)(l:Nat):gL lv (rs.map gG) l=(gL lv rs l).map gG:=by
 unfold gL;rw [List.filter_map];rfl
theorem qD:lB n (rs.map gG) L↔lB n rs L:=by
 unfold lB zy lQ xu cM;simp only [mem_map,forall_exists_index,and_imp,forall_apply_eq_imp_iff₂,AO,nx,wk,oV]
theorem wm{C:Lk}:Over (rs.map gG) L C↔Over rs L C:=by
 constructor
 ·rintro ⟨a,b⟩;exact ⟨a,fun nm hn=>b nm fun r hr=>by obtain ⟨q,hq,rfl⟩:=mem_map.1 hr;exact hn q hq⟩
 ·rintro ⟨a,b⟩;exact ⟨a,fun nm hn=>b nm fun r hr=>hn (gG r) (List.mem_map_of_mem hr)⟩
theorem MO{C:Lk}:oD n (rs.map gG) L C↔oD n rs L C:=
 ⟨fun h=>⟨wm.1 h.over,qD.1 h.closed,fun C o c=>h.least C (wm.2 o) (qD.2 c)⟩,
  fun h=>⟨wm.2 h.over,qD.2 h.closed,fun C o c=>h.least C (wm.1 o) (qD.1 c)⟩⟩
theorem EN{n:Nat}{rs:List aN}{lv:eA.Lv}{L0:Lk}:∀ {l:Nat} {A:Lk},gN n rs lv L0 l A->gN n (rs.map gG) lv L0 l A
 |0,A,h=>by cases h;exact .zero
 |l+1,A,h=>by
  cases h with
  |succ l L L' h1 h2=>exact .succ l L A (EN h1) (by rw [MN];exact MO.2 h2)
theorem MP{F:Lk}(h:nr rs n s F):nr (rs.map gG) n s F:=by
 obtain ⟨k,t,h1,h2,h3⟩:=h;refine ⟨k,t,by rw [nN];exact h1,fun r hr=>?_,by rw [nN];exact EN h3⟩;obtain ⟨q,hq,rfl⟩:=mem_map.1 hr;rw [nN];exact h2 q hq
theorem Sr(h:nw rs s out):nw (rs.map gG) s out:=by
 obtain ⟨hz,F,f1,f2⟩:=h;refine ⟨hz,F,MP f1,?_⟩;rw [f2,AP];unfold rN;simp only [Sq]
theorem nw.MQ{t:di}(h:nw rs s out)(hz:t.size=s.size)(hd:t.aC.l.map bZ=s.aC.l.map bZ):nw rs t out:=by
 obtain ⟨z,F,f1,f2⟩:=h;refine ⟨by rw [z,hz],F,?_,by rw [hz,hd];exact f2⟩;rw [hz];unfold nr at f1 ⊢
 rwa [MI hd]
theorem dZ.MQ{t:di}(h:dZ rs s)(hz:t.size=s.size)(hd:t.aC.l.map bZ=s.aC.l.map bZ):dZ rs t:=by
 refine EG h ?_ hz (by rw [hd]);rw [gE,hz,hd];exact gE.1 h.valid
theorem Ss(x:Sl aN)(s all:di):iD [.ax,.int .i64 0,.ax,.int .i64 0,.ax,.ax] [(0,1),(1,2),(3,2),(5,1)] [ak aO 3 x,.agg (aq s),.agg (aq all),.ax]=some (.agg (mq x s all .ax)):=by
 obtain ⟨z,r⟩:=s;obtain ⟨z2,r2⟩:=all;cases x<;>cases r<;>cases r2<;>rfl
theorem Su(x:Sl aN)(s all:di):bx (mq x s all .ax)=true:=by unfold mq;simp only [bx,fR,Bool.and_true];rfl
set_option maxHeartbeats 1000000 in
theorem Sv{rules:Sl aN}(l9:∀ r ∈ rules.l,r.ok)(iV:∀ r ∈ rules.l,r.lJ)(k9:s.ok)
  (Mz:∀ e,Ew rules.l s e->∀ h',bu h h'->K (.ret (.tuple [.eH,.int .i64 e])) h'=true)
  (As:dZ rules.l s->∀ (x:Sl aN) (s' all:di) N h',x.l=rules.l.map gG->s'.size=s.size->s'.aC.l.map bZ=s.aC.l.map bZ->dZ x.l s'->nw x.l s' all->ej x N h' s' all .ax->bu h h'->h.next<=N->K (.ret (.tuple [.ptr N 0,.int .i64 0])) h'=true) :
  Sem TP 26 [ak aO 3 rules,.agg (aq s)] h K:=by
 refine F.HU ?_;rw [F.JE];simp only [dg (cA s),an];have g0:(h.alloc (.cells (aq s))).get h.next=some (.cells (aq s)):=aA _ _
 have e0:bu h (h.alloc (.cells (aq s))):=bu.alloc _ _;have n0:(h.alloc (.cells (aq s))).next=h.next+1:=Heap.aJ _ _
 generalize (h.alloc (.cells (aq s)))=H at g0 e0 n0 ⊢;have l0:ag (some 2) (.ptr h.next 0) H=some (.agg (aq s)):=by rw [aj g0,cV (cs:=aq s) (n:=2) rfl]
 simp only [l0,an];refine ai (dL l9 iV k9 (fun hv=>(ff hv).1) (fun e he=>?_) fun ho out hz hx=>?_)
 ·obtain ⟨H1,DX,p1,Y7,pn1⟩:=cx (h:=H) (zs:=[.int .i64 0,.ax]) (cs:=aq ⟨0,none⟩) (n:=2) rfl rfl rfl;simp only [aR,reduceAdd,reduceEqDiff,reduceIte,DX,cI,eT (zF he).1,Bool.not_false];exact Mz e he _ (e0.trans ⟨by omega,fun b hb=>Y7 b (by omega)⟩)
 ·have hrun:nw rules.l s out:=⟨hz,hx⟩
  obtain ⟨H1,DX,p1,Y7,pn1⟩:=cx (h:=H) (zs:=[.int .i64 0,.ax]) (cs:=aq out) (n:=2) rfl rfl (cA out);have e1:bu H H1:=⟨by omega,fun b hb=>Y7 b (by omega)⟩
  have l1:ag (some 2) (.ptr h.next 0) H1=some (.agg (aq s)):=by rw [aj (cs:=aq s) (by rw [Y7 _ (by omega)];exact g0),cV (cs:=aq s) (n:=2) rfl]
  have l2:ag (some 2) (.ptr H.next 0) H1=some (.agg (aq out)):=by rw [aj p1,cV (cs:=aq out) (n:=2) rfl]
  simp only [aR,reduceAdd,reduceEqDiff,reduceIte,DX,cI,decide_true,Bool.not_true,l1,l2];refine ai (c8 ho.fV.lJ (fun r hr=>?_) fun x fo=>?_)
  ·obtain ⟨f1,f2,f3⟩:=iV r hr;exact ⟨by omega,by omega,fun c hc=>by have:=f3 c hc;omega⟩
  simp only [aR,reduceAdd,reduceEqDiff,reduceIte,l1,l2,AV.beq_refl,Bool.and_self,if_true];refine ai (Bw (ff ho.valid).1 fun s' z1 z2=>?_);have hxo:dZ x.l s':=by rw [fo];exact (PI.2 ho).MQ z1 z2
  have hxr:nw x.l s' out:=by rw [fo];exact (Sr hrun).MQ z1 z2
  simp only [aR,reduceAdd,reduceEqDiff,reduceIte,l2,AV.beq_refl,Bool.and_self,if_true,Ss,dg (Su x s' out)];exact As ho x s' out H1.next _ fo z1 z2 hxo hxr ⟨by rw [Heap.aJ];omega,aA _ _⟩ ((e0.trans e1).trans (bu.alloc _ _)) (by omega)
theorem MR{rules:Sl aN}(l9:∀ r ∈ rules.l,r.ok)(iV:∀ r ∈ rules.l,r.lJ)(k9:s.ok)
  (Mz:¬ dZ rules.l s->∀ h',bu h h'->K (.ret .eH) h'=true)
  (As:dZ rules.l s->∀ (x:Sl aN) (s' all:di) N h',x.l=rules.l.map gG->s'.size=s.size->s'.aC.l.map bZ=s.aC.l.map bZ->dZ x.l s'->nw x.l s' all->ej x N h' s' all .ax->bu h h'->h.next<=N->K (.ret (.ptr N 0)) h'=true) :
  Sem TP 13 [ak aO 3 rules,.agg (aq s)] h K:=by
 refine F.DQ ?_;rw [F.FA];simp only [dg (cA s),an];have g0:(h.alloc (.cells (aq s))).get h.next=some (.cells (aq s)):=aA _ _
 have e0:bu h (h.alloc (.cells (aq s))):=bu.alloc _ _;have n0:(h.alloc (.cells (aq s))).next=h.next+1:=Heap.aJ _ _
 generalize (h.alloc (.cells (aq s)))=H at g0 e0 n0 ⊢;have l0:ag (some 2) (.ptr h.next 0) H=some (.agg (aq s)):=by rw [aj g0,cV (cs:=aq s) (n:=2) rfl]
 simp only [l0,an];refine ai (bH l9 iV k9 (fun e he=>?_) fun ho=>?_)
 ·simp only [aR,reduceAdd,reduceEqDiff,reduceIte,cI,eT (zF he).1,Bool.not_false];exact Mz (zF he).2 _ e0
 ·simp only [aR,reduceAdd,reduceEqDiff,reduceIte,cI,decide_true,Bool.not_true,l0];refine ai (Sv l9 iV k9 (fun e he=>absurd ho (zF he).2) fun _ x s' all N h' a1 a2 a3 a4 a5 a6 a7 a8=>?_);simp only [aR,reduceAdd,reduceEqDiff,reduceIte];exact As ho x s' all N h' a1 a2 a3 a4 a5 a6 (e0.trans a7) (by omega)
theorem VF(hv:cY s=true){r:Rel}(hq:s.aC.l[i]?=some q)(hr:s.aC.l[j]?=some r)(hn:q.name=r.name):i=j:=by
 have Rw:=pairwise_iff_getElem.1 (lP hv);obtain ⟨y1,y2⟩:=kT.1 hq;obtain ⟨y3,y4⟩:=kT.1 hr;rcases Nat.lt_trichotomy i j with h|h|h
 ·exact absurd (by rw [getElem_map,getElem_map,y2,y4];exact hn) (Rw i j (by simpa using y1) (by simpa using y3) h)
 ·exact h
 ·exact absurd (by rw [getElem_map,getElem_map,y2,y4];exact hn.symm) (Rw j i (by simpa using y3) (by simpa using y1) h)
theorem VG(N:Nat):jK (.pointer 78) (.ptr N 0) .eH=some (.bool false):=rfl
theorem Sw:jK (.pointer 78) .eH .eH=some (.bool true):=rfl
structure KM (a b:di):Prop where
 size:a.size=b.size
 dat:a.aC.l.map bZ=b.aC.l.map bZ
theorem KM.symm{a b:di}(h:KM a b):KM b a:=⟨h.size.symm,h.dat.symm⟩
theorem KM.valid(h:KM a b)(hv:cY b=true):cY a=true:=by rw [gE,h.size,h.dat];exact gE.1 hv
theorem KM.get(h:KM a b){r:Rel}(hr:b.aC.l[j]?=some r):∃ q,a.aC.l[j]?=some q/\bZ q=bZ r:=by
 have:=congrArg (·[j]?) h.dat;simp only [getElem?_map,hr,map_some] at this
 cases hq:a.aC.l[j]? with
 |none=>rw [hq] at this;cases this
 |some q=>rw [hq] at this;exact ⟨q,rfl,by simpa using this⟩
theorem Sx(hv:cY s=true){k:Int}(hq:s.aC.l[j]?=some q)(hs:gY nm k q=true):iC (gY nm k) s.aC.l=(j:Int):=by
 rcases nL (gY nm k) s.aC.l with ⟨_,h⟩|⟨i,v,h1,h2,h3⟩
 ·rw [find?_eq_none] at h;exact absurd hs (h q (iz hq))
 ·have FZ:=find?_some h3;simp only [gY,and_eq_true,beq_iff_eq] at hs FZ;rw [h1,VF hv h2 hq (by rw [FZ.1,hs.1])]
theorem VH(h:(a.aC.l.map bZ).map mS=(b.aC.l.map bZ).map mS):a.aC.l.length=b.aC.l.length:=by
 have:=congrArg List.length h;simpa using this
set_option maxHeartbeats 2000000 in
theorem Ca{rules:Sl aN}{EO:Sl FO}(l9:∀ r ∈ rules.l,r.ok)(k9:s.ok)(VI:EO.l.length<=cE/\∀ a ∈ EO.l,a.ok):Sem TP 7 [ak aO 3 rules,.agg (aq s),ak rP 4 EO] Heap.empty QF:=by
 refine F.tJ ?_;rw [F.uB];simp only [dg (cA s),an,bJ];have g0:(Heap.empty.alloc (.cells (aq s))).get 0=some (.cells (aq s)):=aA _ _;have gn:(Heap.empty.alloc (.cells (aq s))).next=1:=rfl
 generalize (Heap.empty.alloc (.cells (aq s)))=H at g0 gn ⊢;have l0:ag (some 2) (.ptr 0 0) H=some (.agg (aq s)):=by rw [aj g0,cV (cs:=aq s) (n:=2) rfl]
 simp only [l0,an];refine ai (cZ l9 k9 fun b hb=>?_);simp only [aR,reduceAdd,reduceEqDiff,reduceIte]
 cases b with
 |false=>
  simp only [Bool.not_false,aL];refine ai (vJ ?_);simp only [aR,reduceAdd,reduceEqDiff,reduceIte];rfl
 |true=>
 have iV:=hb rfl;simp only [Bool.not_true,aK];refine ai (fT VI.1 fun b2 hb2=>?_)
 cases b2 with
 |false=>
  simp only [aR,reduceAdd,reduceEqDiff,reduceIte,Bool.not_false];refine ai (vJ ?_);simp only [aR,reduceAdd,reduceEqDiff,reduceIte];rfl
 |true=>
 obtain ⟨fw1,fw2⟩:=hb2 rfl;simp only [aR,reduceAdd,reduceEqDiff,reduceIte,Bool.not_true,l0];refine ai (MR l9 iV k9 (fun hn h1 x1=>?_) fun ho xa s1 agy N h1 a1 a2 a3 a4 a5 a6 a7 a8=>?_)
 ·simp only [aR,reduceAdd,reduceEqDiff,reduceIte,Sw];refine ai (vJ ?_);simp only [aR,reduceAdd,reduceEqDiff,reduceIte];rfl
 simp only [aR,reduceAdd,reduceEqDiff,reduceIte,VG]
 have PE:(∀ r ∈ xa.l,r.ok)/\∀ r ∈ xa.l,r.lJ:=by
  rw [a1];exact ⟨fun r hr=>by obtain ⟨q,hq,rfl⟩:=mem_map.1 hr;exact VE (l9 q hq),fun r hr=>by obtain ⟨q,hq,rfl⟩:=mem_map.1 hr;exact Sp (iV q hq)⟩
 have ld:∀ {i:Nat} {a:FO},EO.l[i]?=some a->∀ j,j<4->∀ h,ag none (.ef (EO.l.flatMap rP) (i*4+j)) h=(rP a)[j]?:=fun hv j hj h=>fy AL hv hj;have gs1:h1.get 0=some (.cells (aq s)):=by rw [a7.get _ (by omega)];exact g0
 have agz:s1.aC.l.length=s.aC.l.length:=by have:=congrArg List.length a3;simpa using this
 refine aD 0 EO.l.length (zero_le _) (fun i e h=>∃ s' all dn dl,ej xa N h s' all dn/\lR N h dn dl/\dl.length<=i/\dZ xa.l s'/\nw xa.l s' all/\s'.size=s.size/\s'.aC.l.length=s.aC.l.length/\h.get 0=some (.cells (aq s))/\N≠0/\cL dn≠some 0/\e 0=ak aO 3 rules/\e 2=ak rP 4 EO/\e 4 = .ptr 0 0/\e 7 = .ptr N 0/\e 8 = .int .i64 (i:Int))
  ⟨s1,agy,.ax,[],a6,.nil,dK _,a4,a5,a2,agz,gs1,by omega,(fun e=>by cases e),rfl,rfl,rfl,rfl,rfl⟩ ?_ ?_
 ·rintro i e h _ hi ⟨s',all,dn,dl,WL,N7,hdl,Sy,FR,hz,hl,gsc,SO,VJ,e0,e2,e4,e7,e8⟩ K' hn hx hr hp;have hv:EO.l[i]?=some EO.l[i]:=ez hi;generalize EO.l[i]=a at hv;have B6:=(fw2 a (iz hv)).2;have agA:=WL.lt;rw [F.bg.aT];simp only [e2,e7,e8,aR,reduceAdd,reduceEqDiff,reduceIte,aZ hi,aV EO hi,ld hv 1 (by omega),ld hv 2 (by omega),ld hv 3 (by omega),rP];refine ai (PF WL N7 (by omega) PE.1 PE.2 Sy FR (by omega) (fun yp h' gi=>?_) (fun r _ hin h' gi=>?_) ?_)
  ·simp only [aR,reduceAdd,reduceEqDiff,reduceIte,e8,aI hi VI.1];exact hn _ _ ⟨s',all,dn,dl,WL.ext gi,N7.but (gi.but N),by omega,Sy,FR,hz,hl,by rw [gi.get _ (by omega)];exact gsc,SO,VJ,e0,e2,e4,e7,rfl⟩
  ·simp only [aR,reduceAdd,reduceEqDiff,reduceIte,e8,aI hi VI.1];exact hn _ _ ⟨s',all,dn,dl,WL.ext gi,N7.but (gi.but N),by omega,Sy,FR,hz,hl,by rw [gi.get _ (by omega)];exact gsc,SO,VJ,e0,e2,e4,e7,rfl⟩
  ·intro j r w1 w2 w3 w4 w5 s2 agB h5 dn1 f1 g1 p1' ok1 agD at1 adw adx agE _ _;simp only [aR,reduceAdd,reduceEqDiff,reduceIte,e8,aI hi VI.1];exact hn _ _ ⟨s2,agB,dn1,_,at1,adw,by simp;omega,ok1,agD,by rw [p1'.size,hz],by rw [VH (zC w2 p1'),hl],by rw [adx.get 0 (by omega) (Ne.symm SO) VJ];exact gsc,SO,fun hb=>by have:=agE 0 hb;omega,e0,e2,e4,e7,rfl⟩
 ·rintro e h ⟨s',all,dn,dl,WL,N7,hdl,Sy,FR,hz,hl,gsc,SO,VJ,e0,e2,e4,e7,e8⟩ K' hx;rw [F.bg.aT];simp only [e2,e8,aR,reduceAdd,reduceEqDiff,reduceIte,aS];rw [hx,F.bg.aF];obtain ⟨n,UX,n1,sI,_⟩:=jI Sy.valid;have agF:0<s'.size:=by omega
  have ady:=FR.valid Sy;have agA:=WL.lt;simp only [bL,reduceEqDiff,reduceIte,e7];refine ai (PA WL agF (FR.small Sy) fun now h3 x3 c1 c2=>?_);have Yx:KM now all:=⟨c1,c2⟩
  have VK:=Yx.valid ady;obtain ⟨H4,PS,p4,Mj,XY⟩:=cx (h:=h3) (zs:=[.int .i64 0,.ax]) (cs:=aq now) (n:=2) rfl rfl (cA now);have XS:bu h3 H4:=⟨by omega,fun c hc=>Mj c (by omega)⟩
  have e04:=x3.trans XS;have m3:=x3.next
  have gs4:H4.get 0=some (.cells (aq s)):=by rw [e04.get 0 (by omega)];exact gsc
  have ls4:ag none (.ptr 0 1) H4=some (ak aW 3 s.aC):=by rw [aj gs4];rfl
  have W3:now.aC.l.length=s.aC.l.length+(dS rules.l).length:=by
   obtain ⟨_,F,_,hd⟩:=FR;have:=congrArg List.length (c2.trans hd);rw [length_map,length_append,length_map] at this;unfold rN at this;rw [length_map,a1,AP,hl] at this;exact this
  have Y5:now.aC.l.length<=1000:=(ff VK).1.aC;simp only [aR,reduceAdd,reduceEqDiff,reduceIte,PS,e4,ls4];refine aD s.aC.l.length now.aC.l.length (by omega) (fun i e h=>bu H4 h/\e 0=ak aO 3 rules/\e 4 = .ptr 0 0/\e 7 = .ptr N 0/\e 9 = .ptr h3.next 0/\e 10 = .int .i64 (i:Int)) ⟨bu.refl _,e0,e4,e7,rfl,rfl⟩ ?_ ?_
  ·rintro i e h ha hi ⟨xx,e0,e4,e7,e9,jm⟩ K2 qj fo qL DY;have q0:h.get 0=some (.cells (aq s)):=by rw [xx.get 0 (by omega)];exact gs4
   have q3:h.get h3.next=some (.cells (aq now)):=by rw [xx.get _ (by omega)];exact p4
   have lz:ag none (.ptr 0 0) h=some (.int .i64 (n:Int)):=by rw [aj q0,<- UX,hz];rfl
   have Yy:ag none (.ptr h3.next 1) h=some (ak aW 3 now.aC):=by rw [aj q3];rfl
   have hv:now.aC.l[i]?=some now.aC.l[i]:=ez hi;generalize now.aC.l[i]=q at hv;obtain ⟨qa,qa1,qa2⟩:=Yx.symm.get hv;have Im:=rL VK hv;obtain ⟨k,hk,Ih,PT,NQ⟩:=vV Im;have qR:now.size.toNat=n:=by rw [Yx.size,FR.size];omega
   rw [qR] at PT NQ;have lar:ag none (.ef (now.aC.l.flatMap aW) (i*3+1)) h=some (.int .i64 (k:Int)):=by rw [vU hv,hk]
   rw [F.bg.dm];simp only [e4,e9,jm,aR,reduceAdd,reduceEqDiff,reduceIte,lz,Yy,aZ hi,aV now.aC hi,lar];refine ai (bR n1 Ih PT fun x Gx=>?_);have adz:x.l.length=n ^ k:=by have:=congrArg List.length Gx;rw [length_map,vX] at this;exact this
   refine aD 0 (min x.l.length 60) (zero_le _) (fun j e h'=>bu H4 h'/\e 0=ak aO 3 rules/\e 4 = .ptr 0 0/\e 7 = .ptr N 0/\e 9 = .ptr h3.next 0/\e 10 = .int .i64 (i:Int)/\e 11=ak cU 1 x/\e 12 = .int .i64 (j:Int)) ⟨xx,e0,e4,e7,e9,jm,rfl,rfl⟩ ?_ ?_
   ·rintro j e h' _ hj ⟨xx,e0,e4,e7,e9,jm,nU,tO⟩ K3 PR B5 V3 hp3;have Ht:j<x.l.length:=by omega
    have zx:x.l[j]?=some x.l[j]:=ez Ht;generalize x.l[j]=t at zx
    have adA:t.l=nM n k j:=by
     have h5:(x.l.map Sl.l)[j]?=some t.l:=(by rw [getElem?_map,zx];rfl);rw [Gx,Az n1 k j (by omega)] at h5;exact (Option.some.inj h5).symm
    have vZ:t.l.length=k:=(by rw [adA,pY]);have Nq:iY n t.l=true:=by rw [adA];exact (qB n1 (by omega)).1
    have q3:h'.get h3.next=some (.cells (aq now)):=by rw [xx.get _ (by omega)];exact p4
    have Yy:ag none (.ptr h3.next 1) h'=some (ak aW 3 now.aC):=by rw [aj q3];rfl
    have adB:ag none (.ef (now.aC.l.flatMap aW) (i*3)) h'=some (.str q.name):=by
     have:=fy (h:=h') eC hv (k:=0) (by omega);rw [Nat.add_zero] at this;rw [this];rfl
    have e1:qa.name=q.name:=congrArg (·.1) qa2;have e2':qa.arity=q.arity:=congrArg (·.2.1) qa2;have e3':qa.aM.l.map Sl.l=q.aM.l.map Sl.l:=congrArg (·.2.2) qa2;have hwi:iC (gY q.name (t.l.length:Int)) all.aC.l=(i:Int):=Sx ady qa1 (by unfold gY;rw [e1,e2',hk,vZ];simp);have hcp:=Pz Sy FR UX qa1 (by omega) (t:=t.l) (by rw [e2',hk,vZ]) Nq;rw [F.bg.jf];simp only [e7,e9,jm,nU,tO,aR,reduceAdd,reduceEqDiff,reduceIte,aZ Ht,fh (show (j:Int)<60 by omega),Yy,aV now.aC hi,adB,aV x Ht,gK zx];refine ai (KI ((WL.ext e04).ext xx) PE.2 Sy FR UX (by unfold cE;omega) (fun hw=>by rw [hwi] at hw;omega) fun _ IG x''=>?_);have agI:IG.get h3.next=some (.cells (aq now)):=by rw [x''.get _ (by have:=xx.next;omega)];exact q3
    have adC:ag none (.ptr h3.next 1) IG=some (ak aW 3 now.aC):=(by rw [aj agI];rfl);have Wu:q.aM.l.length<=cE:=by have:=(ff VK).1.Io q (iz hv);unfold cE;omega
    rw [<- e1];generalize kQ n (iG n all) qa.name t.l xa.l=cc at hcp;simp only [aR,reduceAdd,reduceEqDiff,reduceIte,cI,decide_true,Bool.not_true,eT (show ¬ ((cc:Nat):Int)<0 by omega),e9,jm,nU,tO,adC,aV now.aC hi,pX hv,aV x Ht,gK zx];refine ai (eS Wu (fun u hu=>by have:=(ff VK).1.YZ q (iz hv) u hu;unfold cE;omega) ?_)
    have F8:decide ((0:Int)<((cc:Nat):Int))=((q.aM.l.map Sl.l).any fun u=>u==t.l):=by
     rw [Bool.eq_iff_iff,decide_eq_true_eq,List.any_eq_true];rw [e3'] at hcp;constructor
     ·intro h;exact ⟨t.l,hcp.1 (by omega),by simp⟩
     ·rintro ⟨u,hu,hut⟩;have:u=t.l:=by simpa using hut
      subst this;have:=hcp.2 hu;omega
    simp only [aR,reduceAdd,reduceEqDiff,reduceIte,F8,beq_self_eq_true,Bool.not_true,tO,aI Ht (show x.l.length<=cE by rw [adz];unfold cE;omega)];refine PR _ _ ⟨xx.trans x'',e0,e4,e7,e9,jm,nU,rfl⟩
   ·rintro e h' ⟨xx,e0,e4,e7,e9,jm,nU,tO⟩ K3 B5;rw [F.bg.jf]
    have fin:∀ E:Env,E 0=ak aO 3 rules->E 4 = .ptr 0 0->E 7 = .ptr N 0->E 9 = .ptr h3.next 0->E 10 = .int .i64 (i:Int)->F.bg.sY K2 (.exit 4) ⟨E,136,[],h'⟩=true:=fun E E0 E4 E7 E9 E10=>by
     rw [F.bg.fX];simp only [E10,aI hi (show now.aC.l.length<=cE by unfold cE;omega),an];refine qj _ _ ⟨xx,?_,?_,?_,?_,rfl⟩
     ·exact E0
     ·exact E4
     ·exact E7
     ·exact E9
    by_cases agJ:x.l.length<=60
    ·have Yz:e 12 = .int .i64 (x.l.length:Int):=(by rw [tO,Nat.min_eq_left agJ]);simp only [nU,Yz,aR,reduceAdd,reduceEqDiff,reduceIte,aS];rw [B5];exact fin _ e0 e4 e7 e9 jm
    ·have Yz:e 12 = .int .i64 60:=(by rw [tO,Nat.min_eq_right (by omega)];rfl);simp only [nU,Yz,aR,reduceAdd,reduceEqDiff,reduceIte,fh (show (60:Int)<(x.l.length:Int) by omega),show decide ((60:Int)<60)=false from rfl];rw [B5];exact fin _ e0 e4 e7 e9 jm
  ·rintro e h ⟨xx,e0,e4,e7,e9,jm⟩ K2 fo;have q0:h.get 0=some (.cells (aq s)):=by rw [xx.get 0 (by omega)];exact gs4
   have q3:h.get h3.next=some (.cells (aq now)):=by rw [xx.get _ (by omega)];exact p4
   have lsr:ag none (.ptr 0 1) h=some (ak aW 3 s.aC):=by rw [aj q0];rfl
   have Yy:ag none (.ptr h3.next 1) h=some (ak aW 3 now.aC):=by rw [aj q3];rfl
   rw [F.bg.dm];simp only [e9,jm,aR,reduceAdd,reduceEqDiff,reduceIte,Yy,aS];rw [fo,F.bg.cq];simp only [bL,reduceEqDiff,reduceIte,e0,e4,e9,aR,reduceAdd,reduceEqDiff,reduceIte,Yy,lsr];refine ai (dF ho.fV.lJ fun d hd=>?_);have hdl:d.l.length=(dS rules.l).length:=by rw [hd]
   have acv:aG .add (.int .i64 (s.aC.l.length:Int)) (.int .i64 (d.l.length:Int))=some (.int .i64 (now.aC.l.length:Int)):=by
    rw [iX (by omega) (by omega),hdl,W3];simp
   simp only [aR,reduceAdd,reduceEqDiff,reduceIte,Yy,lsr,AV.beq_refl,Bool.and_self,Bool.and_true,if_true,acv,cI,decide_true];refine ai (vJ ?_);simp only [aR,reduceAdd,reduceEqDiff,reduceIte];rfl
end
end Go.AM