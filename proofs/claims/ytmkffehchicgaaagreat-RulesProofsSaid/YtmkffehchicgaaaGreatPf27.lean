/- Parts of the proof. Conditions: none. -/
import Derived.Test.YtmkffehchicgaaaGreatPf12
import Derived.Test.YtmkffehchicgaaaGreatPf15
import Derived.Test.YtmkffehchicgaaaGreatPf16
import Derived.Test.YtmkffehchicgaaaGreatPf21
import Derived.Test.YtmkffehchicgaaaGreatPf22
import Derived.Test.YtmkffehchicgaaaGreatPf23
import Derived.Test.YtmkffehchicgaaaGreatPf24
import Derived.Test.YtmkffehchicgaaaGreatPf25
set_option linter.unusedSimpArgs false
set_option linter.unusedVariables false
namespace Go.AM
open List Nat Bool Option
open Go Go.Proofs
noncomputable section
variable {K:Out->ag->Bool} {rs:List aR} {n i Wb k b P M Bb V A lo S B PL BX IX FX R:Nat} {rules:Sl aR} {h:ag} {r:aR} {vs t:List Int} {nm x:bQ} {ks hs:List bQ} {cs:Sl (Sl Int)} {lv:eL.Lv} {X:Nat->Prop} {L:Lk} {hd ls:Sl Int} {D:DB} {c:dD} {i0:Int} {s:eG} {p:mJ}
theorem Rf{a:Nat}(hb:0<b)(ha:a<=cu):aL .quo (.int .i64 (a:Int)) (.int .i64 (b:Int))=some (.int .i64 ((a/b:Nat):Int)):=by
 have h:¬ (b:Int)=0:=by omega
 simp only [aL,if_true,if_neg h];have e:((a:Int).tdiv (b:Int))=((a/b:Nat):Int):=by rw [Int.tdiv_eq_ediv_of_nonneg (by omega)];rfl
 have:a/b<=a:=div_le_self _ _;unfold cu at ha;rw [e];generalize a/b=q at this;rw [IntWalk.i64_in _ (by omega)]
theorem Nx{α:Type}{enc:α->List AV}{sz:Nat}(he:∀ a,(enc a).length=sz){l:List α}{a:α}(ha:l[i]?=some a)(hk:k+n<=sz) :
  ah (some n) (.dI (l.flatMap enc) (i*sz+k)) h=some (.agg (((enc a).drop k).take n)):=by
 have hi:i<l.length:=(oB.1 ha).1
 have hle:i*sz+sz<=(l.flatMap enc).length:=by
  rw [jh he];have:(i+1)*sz<=l.length*sz:=mul_le_mul_right _ hi;rw [Nat.add_mul] at this;omega
 show kC (some n) _ _=_;simp only [kC];rw [if_pos (by omega),<- qH he l i a ha,drop_take,take_take,drop_drop,Nat.min_eq_left (by omega)]
theorem gY{nm:bQ}{xs:Sl bQ}(h1:nm.length<=cu)(h2:xs.l.length<=cu)(h3:∀ s ∈ xs.l,s.length<=cu){h:ag}{K:Out->ag->Bool}
  (hK:∀ n:Int,(xs.l.length:Int)<=n->n<=5000000000000000000->K (.ret (.int .i64 n)) h=true):Sem TP 82 [.agg [.str nm,an encS 1 xs]] h K:=by
 have pH:cu=4611686018427387904:=rfl
 have gen:∀ R:Out->ag->Bool,(∀ (n:Int) h',(xs.l.length:Int)<=n->n<=5000000000000000000->R (.ret (.int .i64 n)) h'=true)->Sem TP 82 [.agg [.str nm,an encS 1 xs]] ag.empty R:=by
  intro R fin;refine F.FP ?_;rw [F.HQ];have g0:(ag.alloc ag.empty (.cells (kr nm xs))).get 0=some (.cells (kr nm xs)):=aD _ _;have hb:eR (.agg [.str nm,an encS 1 xs])=some (kr nm xs):=cG (Cn nm xs);simp only [hb,aq,bA];generalize (ag.alloc ag.empty (.cells (kr nm xs)))=H at g0 ⊢;have hq:=Rf (a:=nm.length) (b:=20) (by omega) h1;have oS:aL .quo (.int .i64 (nm.length:Int)) (.int .i64 20)=some (.int .i64 ((nm.length/20:Nat):Int)):=hq;have Ct:nm.length/20<=240000000000000000:=by omega
  have xk:=je (a:=(xs.l.length:Int)) (b:=((nm.length/20:Nat):Int)) (by omega) (by omega);simp only [aS,reduceAdd,reduceEqDiff,reduceIte,ai g0,kr,oS,xk];generalize hs0:(xs.l.length:Int)+((nm.length/20:Nat):Int)=s0;refine aG 0 xs.l.length (zero_le _) (fun i e h'=>h'=H/\e 1 = .ptr 0 0/\e 4 = .int .i64 (i:Int)/\∃ n:Int,e 3 = .int .i64 n/\(xs.l.length:Int)<=n/\n<=5000000000000000000) ⟨rfl,rfl,rfl,s0,rfl,by omega,by omega⟩ ?_ ?_
  ·rintro i e h' _ hi ⟨rfl,e1,e4,n,e3,n1,n2⟩ K' hn hx hr hp;have hv:xs.l[i]?=some xs.l[i]:=ec hi;generalize xs.l[i]=t at hv;have ht:=h3 t (iA hv);have hqt:aL .quo (.int .i64 (t.length:Int)) (.int .i64 20)=some (.int .i64 ((t.length/20:Nat):Int)):=Rf (a:=t.length) (b:=20) (by omega) ht;have hdt:t.length/20<=240000000000000000:=by omega
   rw [F.gY.aT];simp only [e1,e3,e4,aS,reduceAdd,reduceEqDiff,reduceIte,ai g0,kr,bl hi];by_cases QY:n<10000
   ·have ahc:=je (a:=n) (b:=((t.length/20:Nat):Int)) (by omega) (by omega);simp only [ey QY,aF,e1,e4,aS,reduceAdd,reduceEqDiff,reduceIte,ai g0,kr,aU xs hi,jz hv,hqt,ahc,aK hi h2];exact hn _ _ ⟨rfl,e1,rfl,_,rfl,by omega,by omega⟩
   ·simp only [ep QY,aE];rw [hx,F.gY.aJ];simp only [bg,reduceEqDiff,reduceIte,e3];exact fin n _ n1 n2
  ·rintro e h' ⟨rfl,e1,e4,n,e3,n1,n2⟩ K' hx;rw [F.gY.aT];simp only [e1,e4,aS,reduceAdd,reduceEqDiff,reduceIte,ai g0,kr,aX];rw [hx,F.gY.aJ];simp only [bg,reduceEqDiff,reduceIte,e3];exact fin n _ n1 n2
 have main:=gen (fun o h'=>yes (∃ n:Int,o = .ret (.int .i64 n)/\(xs.l.length:Int)<=n/\n<=5000000000000000000)) (fun n h' q1 q2=>cO.2 ⟨n,rfl,q1,q2⟩);refine main.frozen (by simp [AV.cN,AV.pure,bI jk]) fun o h' ho=>?_;obtain ⟨n,rfl,q1,q2⟩:=cO.1 ho;exact ⟨_,_,rfl,.scalar _ rfl,hK n q1 q2⟩
set_option maxHeartbeats 1000000 in
theorem PG{N:Int}(hN:N<=1500)(lu:∀ r ∈ rules.l,r.ok)(hK:∀ b:Bool,(b=true->∀ r ∈ rules.l,r.kH)->K (.ret (.bool b)) h=true):Sem TP 29 [an aO 3 rules,.int .i64 N] h K:=by
 have gen:∀ R:Out->ag->Bool,(∀ (b:Bool) h',(b=true->∀ r ∈ rules.l,r.kH)->R (.ret (.bool b)) h'=true)->Sem TP 29 [an aO 3 rules,.int .i64 N] ag.empty R:=by
  intro R fin;refine F.HP ?_;rw [F.Kz];simp only [aS,reduceAdd,reduceEqDiff,reduceIte];by_cases h71:70<rules.l.length
  ·simp only [ey (by omega:(70:Int)<(rules.l.length:Int)),aF];exact fin false _ (fun h=>by cases h)
  have j8:rules.l.length<=cu:=by unfold cu;omega
  simp only [ep (by omega:¬ (70:Int)<(rules.l.length:Int)),aE];refine aG 0 rules.l.length (zero_le _) (fun i e h'=>e 0=an aO 3 rules/\e 1 = .int .i64 N/\e 6 = .int .i64 (i:Int)/\∃ s:Int,e 5 = .int .i64 s/\0<=s/\s<=6000000000000000000/\(s<=N->∀ r ∈ rules.l.take i,r.kH)) ⟨rfl,rfl,rfl,0,rfl,by omega,by omega,fun _ r hr=>by simp at hr⟩ ?_ ?_
  ·rintro i e h' _ hi ⟨e0,e1,e6,s,e5,s0,s1,hs⟩ K' hn hx hr hp;have hv:rules.l[i]?=some rules.l[i]:=ec hi;generalize rules.l[i]=r at hv;have Ng:=lu r (iA hv);have pH:=Ng.2.2.2.1;have ld:∀ j,j<3->∀ h,ah none (.dI (rules.l.flatMap aO) (i*3+j)) h=(aO r)[j]?:=fun j hj h=>fE ei hv hj;have lh:∀ h,ah (some 2) (.dI (rules.l.flatMap aO) (i*3)) h=some (.agg [.str r.name,an encS 1 r.args]):=fun h=>Nx (k:=0) (n:=2) ei hv (by omega);rw [F.eD.aT];simp only [e0,e1,e5,e6,aS,reduceAdd,reduceEqDiff,reduceIte,bl hi];by_cases hle:s<=N
   ·have abK:=je (a:=s) (b:=1) (by omega) (by omega);simp only [ey hle,aF,abK,e0,e6,aS,reduceAdd,reduceEqDiff,reduceIte,aU rules hi,lh];refine aj (gY Ng.1 Ng.2.1 Ng.2.2.1 fun n n1 n2=>?_);have abL:=je (a:=s+1) (b:=n) (by omega) (by omega);simp only [aS,reduceAdd,reduceEqDiff,reduceIte,abL]
    refine aG 0 r.body.l.length (zero_le _) (fun j e h'=>e 0=an aO 3 rules/\e 1 = .int .i64 N/\e 6 = .int .i64 (i:Int)/\e 7 = .int .i64 (j:Int)/\∃ s:Int,e 5 = .int .i64 s/\0<=s/\s<=6000000000000000000 /\
     (s<=N->(∀ r ∈ rules.l.take i,r.kH)/\r.args.l.length<=1500/\(j:Int)<=s/\∀ c ∈ r.body.l.take j,c.args.l.length<=1500)) ⟨e0,e1,e6,rfl,s+1+n,rfl,by omega,by omega,fun h=>⟨hs hle,by omega,by omega,fun c hc=>by simp at hc⟩⟩ ?_ ?_
    ·rintro j e h' _ hj ⟨e0,e1,e6,e7,s,e5,s0,s1,hs⟩ K2 qM iu vL Il;have hc:r.body.l[j]?=some r.body.l[j]:=ec hj;generalize r.body.l[j]=c at hc;have MW:=Ng.2.2.2.2 c (iA hc);have lc:∀ h,ah (some 2) (.dI (r.body.l.flatMap bR) (j*4+2)) h=some (.agg [.str c.name,an encS 1 c.args]):=fun h=>Nx (k:=2) (n:=2) gh hc (by omega);rw [F.eD.eC];simp only [e0,e1,e5,e6,e7,aS,reduceAdd,reduceEqDiff,reduceIte,aU rules hi,ld 2 (by omega),aO,bl hj];by_cases hle:s<=N
     ·have abK:=je (a:=s) (b:=1) (by omega) (by omega);simp only [ey hle,aF,abK,e0,e6,e7,aS,reduceAdd,reduceEqDiff,reduceIte,aU rules hi,ld 2 (by omega),aO,aU r.body hj,lc];refine aj (gY MW.1 MW.2.1 MW.2.2 fun n n1 n2=>?_);have abL:=je (a:=s+1) (b:=n) (by omega) (by omega);simp only [aS,reduceAdd,reduceEqDiff,reduceIte,abL,aK hj pH];refine qM _ _ ⟨e0,e1,e6,rfl,s+1+n,rfl,by omega,by omega,fun h=>?_⟩;obtain ⟨q1,q2,q3,q4⟩:=hs hle;refine ⟨q1,q2,by omega,fun d hd=>?_⟩;rw [take_add_one,hc] at hd;rcases mem_append.1 hd with hd|hd
      ·exact q4 d hd
      ·simp only [toList_some,mem_singleton] at hd;subst hd;omega
     ·simp only [ep hle,aE];rw [iu,F.eD.cZ];simp only [aS,reduceAdd,reduceEqDiff,reduceIte,e6,aK hi j8];exact hn _ _ ⟨e0,e1,rfl,s,e5,s0,s1,fun h=>absurd h hle⟩
    ·rintro e h' ⟨e0,e1,e6,e7,s,e5,s0,s1,hs⟩ K2 iu;rw [F.eD.eC];simp only [e0,e6,e7,aS,reduceAdd,reduceEqDiff,reduceIte,aU rules hi,ld 2 (by omega),aO,aX];rw [iu,F.eD.cZ];simp only [aS,reduceAdd,reduceEqDiff,reduceIte,e6,aK hi j8];refine hn _ _ ⟨e0,e1,rfl,s,e5,s0,s1,fun h=>?_⟩;obtain ⟨q1,q2,q3,q4⟩:=hs h;rw [kB (dK _)] at q4;intro q hq;rw [take_add_one,hv] at hq;rcases mem_append.1 hq with hq|hq
     ·exact q1 q hq
     ·simp only [toList_some,mem_singleton] at hq;subst hq;exact ⟨q2,by omega,q4⟩
   ·simp only [ep hle,aE];rw [hx,F.eD.aJ];simp only [aS,reduceAdd,reduceEqDiff,reduceIte,e1,e5];exact fin _ _ (fun h=>absurd (of_decide_eq_true h) hle)
  ·rintro e h' ⟨e0,e1,e6,s,e5,s0,s1,hs⟩ K' hx;rw [kB (dK _)] at hs;rw [F.eD.aT];simp only [e0,e6,aS,reduceAdd,reduceEqDiff,reduceIte,aX];rw [hx,F.eD.aJ];simp only [aS,reduceAdd,reduceEqDiff,reduceIte,e1,e5];exact fin _ _ (fun h=>hs (of_decide_eq_true h))
 have main:=gen (fun o h'=>yes (∃ b:Bool,o = .ret (.bool b)/\(b=true->∀ r ∈ rules.l,r.kH))) (fun b h' hb=>cO.2 ⟨b,rfl,hb⟩);refine main.frozen (by simp [AV.cN,AV.pure,bI dW]) fun o h' ho=>?_;obtain ⟨b,rfl,hb⟩:=cO.1 ho;exact ⟨_,_,rfl,.scalar _ rfl,hK b hb⟩
theorem VG(s:eG):ig [.int .i64 0,.au] [(0,2)] [.agg (aB s)]=some (aB s):=by
 obtain ⟨z,r⟩:=s;cases r<;>rfl
theorem dx{rules:Sl aR}{s:eG}{N:Int}(lu:∀ r ∈ rules.l,r.ok)(qu:s.ok){h:ag}{K:Out->ag->Bool}(hK:∀ b:Bool,(b=true->∀ r ∈ rules.l,r.kH)->K (.ret (.bool b)) h=true) :
  Sem TP 11 [an aO 3 rules,.agg (aB s),.int .i64 N] h K:=by
 have gen:∀ R:Out->ag->Bool,(∀ (b:Bool) h',(b=true->∀ r ∈ rules.l,r.kH)->R (.ret (.bool b)) h'=true)->Sem TP 11 [an aO 3 rules,.agg (aB s),.int .i64 N] ag.empty R:=by
  intro R fin;refine F.Ej ?_;rw [F.Gl];simp only [cG (dH s),aq,bA];have g0:(ag.empty.alloc (.cells (aB s))).get 0=some (.cells (aB s)):=aD _ _;have gn:(ag.empty.alloc (.cells (aB s))).next=1:=rfl
  generalize (ag.empty.alloc (.cells (aB s)))=H at g0 gn ⊢;refine aj (PG (by omega) lu fun b hb=>?_);simp only [aS,reduceAdd,reduceEqDiff,reduceIte]
  cases b with
  |false=>
   simp only [Bool.not_false,aF];exact fin false _ (fun h=>by cases h)
  |true=>
  have iF:=hb rfl;have l0:ah (some 2) (.ptr 0 0) H=some (.agg (aB s)):=by rw [ai g0,cQ (cs:=aB s) (n:=2) rfl]
  have g1:(H.alloc (.cells (aB s))).get H.next=some (.cells (aB s)):=aD _ _
  have Tw:(H.alloc (.cells (aB s))).get 0=some (.cells (aB s)):=by rw [ag.aW,if_neg (by omega)];exact g0
  simp only [Bool.not_true,aE,l0,aq,VG];generalize (H.alloc (.cells (aB s)))=H2 at g1 Tw ⊢;refine aj (cq qu g1 fun b=>?_);simp only [aS,reduceAdd,reduceEqDiff,reduceIte]
  cases b with
  |false=>
   simp only [Bool.not_false,aF];exact fin false _ (fun h=>by cases h)
  |true=>
  have l0':ah (some 2) (.ptr 0 0) H2=some (.agg (aB s)):=by rw [ai Tw,cQ (cs:=aB s) (n:=2) rfl]
  simp only [Bool.not_true,aE,l0',aq];refine aj (bZ lu iF qu (fun e he=>?_) fun ho=>?_)
  ·have lF:e≠0:=by
    rcases he with ⟨_,rfl⟩|⟨_,_,⟨_,rfl⟩|⟨_,_,rfl⟩⟩<;>omega
   simp only [aS,reduceAdd,reduceEqDiff,reduceIte,ct,ep lF,Bool.not_false,aF];exact fin true _ (fun _=>iF)
  ·obtain ⟨n,hn,n1,ov,h8⟩:=uc ho.valid;have sV:s.size.toNat=n:=by omega
   have Hu:rules.l.length<=cu:=by have:=ho.iP.kH;unfold cu;omega
   have Kl:∀ r ∈ rules.l,n ^ (varsOf r).length<=65536:=fun r hr=>Nat.le_of_not_lt fun h=>ho.JF (.inr (.inr ⟨r,hr,by rw [sV];exact h⟩));simp only [aS,reduceAdd,reduceEqDiff,reduceIte,ct,decide_true,Bool.not_true,aE];refine aG 0 rules.l.length (zero_le _) (fun i e h'=>h'=H2/\∃ q:Nat,q<=i*65536/\e 0=an aO 3 rules/\e 2 = .int .i64 N/\e 4 = .ptr 0 0/\e 7 = .int .i64 (q:Int)/\e 8 = .int .i64 (i:Int)) ⟨rfl,0,by omega,rfl,rfl,rfl,rfl,rfl⟩ ?_ ?_
   ·rintro i e h' _ hi ⟨rfl,q,hq,e0,e2,e4,e7,e8⟩ K' wj hx hr hp;have hv:rules.l[i]?=some rules.l[i]:=ec hi;generalize rules.l[i]=r at hv;have lD:=iA hv;have aqQ:=Kl r lD;have qd:=ho.iP.kH;obtain ⟨m,gI⟩:=ho.iP.go;have agA:=(gZ gI r lD).2.2;have hvb:(varsOf r).length<=cu:=by unfold cu;omega
    have lz:ah none (.ptr 0 0) h'=some (.int .i64 (n:Int)):=(by rw [ai Tw,<- hn];rfl);rw [F.dx.aT];simp only [e0,e8,aS,reduceAdd,reduceEqDiff,reduceIte,bl hi];refine aG 0 (varsOf r).length (zero_le _) (fun j e h2=>h2=h'/\e 0=an aO 3 rules/\e 2 = .int .i64 N/\e 4 = .ptr 0 0/\e 7 = .int .i64 (q:Int)/\e 8 = .int .i64 (i:Int)/\e 9 = .int .i64 ((n ^ j:Nat):Int)/\e 10 = .int .i64 (j:Int)) ⟨rfl,e0,e2,e4,e7,e8,rfl,rfl⟩ ?_ ?_
    ·rintro j e h2 _ hj ⟨rfl,e0,e2,e4,e7,e8,e9,jH⟩ K2 akN iu vL Il;have si:n ^ (j+1)=n ^ j*n:=Nat.pow_succ n j;have hle:=Ac n1 (show j+1<=(varsOf r).length by omega);have hm:((n ^ j:Nat):Int)*(n:Int)=((n ^ (j+1):Nat):Int):=by rw [si,Int.natCast_mul]
     have K6:aL .mul (.int .i64 ((n ^ j:Nat):Int)) (.int .i64 (n:Int))=some (.int .i64 ((n ^ (j+1):Nat):Int)):=(by rw [yh (by rw [hm];omega) (by rw [hm];omega),hm]);rw [F.dx.eC];simp only [e0,e8,aS,reduceAdd,reduceEqDiff,reduceIte,aU rules hi,cX ei hv];simp only [aO];refine aj (bU (iF r lD) fun x jG=>?_);simp only [aS,reduceAdd,reduceEqDiff,reduceIte,jG,e4,e9,jH,bl hj,aF,lz,K6,aK hj hvb];exact akN _ _ ⟨rfl,e0,e2,e4,e7,e8,rfl,rfl⟩
    ·rintro e h2 ⟨rfl,e0,e2,e4,e7,e8,e9,jH⟩ K2 iu
     have xk:aL .add (.int .i64 (q:Int)) (.int .i64 ((n ^ (varsOf r).length:Nat):Int))=some (.int .i64 ((q+n ^ (varsOf r).length:Nat):Int)):=by
      rw [je (by omega) (by omega)];rfl
     rw [F.dx.eC];simp only [e0,e8,aS,reduceAdd,reduceEqDiff,reduceIte,aU rules hi,cX ei hv];simp only [aO];refine aj (bU (iF r lD) fun x jG=>?_);simp only [aS,reduceAdd,reduceEqDiff,reduceIte,jG,jH,aX,aE];rw [iu,F.dx.cZ];simp only [aS,reduceAdd,reduceEqDiff,reduceIte,e7,e8,e9,xk,aK hi Hu];exact wj _ _ ⟨rfl,q+n ^ (varsOf r).length,by rw [succ_mul];omega,e0,e2,e4,rfl,rfl⟩
   ·rintro e h' ⟨rfl,q,hq,e0,e2,e4,e7,e8⟩ K' hx;rw [F.dx.aT];simp only [e0,e8,aS,reduceAdd,reduceEqDiff,reduceIte,aX];rw [hx,F.dx.aJ];simp only [aS,reduceAdd,reduceEqDiff,reduceIte,e2,e7];exact fin _ _ (fun _=>iF)
 have main:=gen (fun o h'=>yes (∃ b:Bool,o = .ret (.bool b)/\(b=true->∀ r ∈ rules.l,r.kH))) (fun b h' hb=>cO.2 ⟨b,rfl,hb⟩);refine main.frozen (by simp [AV.cN,AV.pure,bI dW,ew]) fun o h' ho=>?_;obtain ⟨b,rfl,hb⟩:=cO.1 ho;exact ⟨_,_,rfl,.scalar _ rfl,hK b hb⟩
theorem vh{e:Int}(h:By rs s e):e≠0/\¬ gW rs s:=by
 rcases h with ⟨a,rfl⟩|⟨g,v,⟨a,rfl⟩|⟨a,b,rfl⟩⟩
 ·exact ⟨by omega,fun h=>a.elim (fun h'=>h' h.iP) fun h'=>by rw [h.valid] at h';cases h'⟩
 ·exact ⟨by omega,fun h=>h.names a⟩
 ·exact ⟨by omega,fun h=>h.JF b⟩
theorem VH{A B:Lk}(h:∀ c ∈ r.body.l,c.kind=0->A c.name (iy n (aM vs (aQ r c)))=B c.name (iy n (aM vs (aQ r c)))):iz n A r vs=iz n B r vs:=by
 unfold iz
 have key:∀ c ∈ r.body.l,dy n A c (aM vs (aQ r c))=dy n B c (aM vs (aQ r c)):=fun c hc=>by
  unfold dy;by_cases k0:c.kind=0
  ·rw [if_pos k0,if_pos k0,h c hc k0]
  ·rw [if_neg k0,if_neg k0]
 rw [Bool.eq_iff_iff,List.all_eq_true,List.all_eq_true];exact ⟨fun h1 c hc=>by rw [<- key c hc];exact h1 c hc,fun h1 c hc=>by rw [key c hc];exact h1 c hc⟩
theorem xP{N:Nat}{u:List Int}:u ∈ wg n L nm k N↔∃ i,i<N/\L nm i=true/\u=cU n k i:=by
 unfold wg;rw [mem_map];constructor
 ·rintro ⟨i,hi,rfl⟩;rw [mem_filter,mem_range] at hi;exact ⟨i,hi.1,hi.2,rfl⟩
 ·rintro ⟨i,h1,h2,rfl⟩;exact ⟨i,mem_filter.2 ⟨mem_range.2 h1,h2⟩,rfl⟩
theorem SS(n1:1<=n){j:Nat}(hj:j<n ^ k)(Wz:i<j):ji (cU n k i) (cU n k j)=true:=by
 obtain ⟨a1,a2⟩:=m9 n1 (show i<n ^ k by omega);obtain ⟨b1,b2⟩:=m9 n1 hj
 cases h:ji (cU n k i) (cU n k j) with
 |true=>rfl
 |false=>
  have hl:(cU n k i).length=(cU n k j).length:=by rw [jA,jA]
  have lF:cU n k i≠cU n k j:=fun e=>by rw [e,b2] at a2;omega
  have:=Jr hl.symm b1 a1 (JK hl h lF);omega
theorem VI(n1:1<=n)(L:Lk)(nm:bQ)(k:Nat):YZ n k (wg n L nm k (n ^ k)):=by
 refine ⟨fun u hu=>?_,?_⟩
 ·obtain ⟨i,hi,_,rfl⟩:=xP.1 hu;exact ⟨jA _ _ _,(m9 n1 hi).1⟩
 ·unfold Ns wg;rw [pairwise_map];refine (List.Pairwise.filter _ ?_);refine List.Pairwise.imp_of_mem ?_ (pairwise_lt_range (n:=n ^ k));intro a b _ hb zM;exact SS n1 (mem_range.1 hb) zM
section
variable {rs:List aR} {s out:eG} {n:Nat} {m:fy} {L:Lk}
theorem Le(hd:out.aY.l.map dz=s.aY.l.map dz++r7 rs n L (dG rs)):(out.aY.l.map dz).map Gy=(s.aY.l.map dz++fW rs (dG rs)).map Gy:=by
 rw [hd,map_append,map_append];unfold r7 fW;congr 1;rw [List.map_map,List.map_map];rfl
theorem CK(ho:gW rs s)(gI:dM rs []=some m)(hn:s.size=(n:Int))(hz:out.size=s.size)(hd:out.aY.l.map dz=s.aY.l.map dz++r7 rs n L (dG rs)):dU out=true:=by
 have hE:=K9 (rs':=s.aY.l++mK rs (dG rs)) ho gI (by rw [map_append,pg]);rw [map_append,pg] at hE;have ahd:=Le hd;have n1:1<=n:=by have:=hE.lo;omega
 have sV:s.size.toNat=n:=by omega
 rw [jS,hz];have nx:∀ l:List R9,l.map (·.1)=(l.map Gy).map (·.1):=fun l=>by rw [List.map_map];rfl
 refine ⟨hE.lo,hE.hi,?_,fun d Ae=>?_,?_⟩
 ·have:=congrArg List.length ahd;simp only [length_map] at this;have h8:=hE.kH;rw [length_map];omega
 ·rw [hd] at Ae;rcases mem_append.1 Ae with Ae|Ae
  ·exact hE.rel d (mem_append_left _ Ae)
  ·obtain ⟨nm,nx,rfl⟩:=mem_map.1 Ae;obtain ⟨q0,k,q1,q2,q3,_⟩:=hE.rel (nm,(jq rs nm:Int),[]) (mem_append_right _ (mem_map.2 ⟨nm,nx,rfl⟩));have q1':(jq rs nm:Int)=(k:Int):=q1;obtain rfl:jq rs nm=k:=by omega
   rw [sV] at q3 ⊢;exact ⟨q0,_,rfl,q2,q3,VI n1 L nm _⟩
 ·rw [nx,ahd,<- nx];exact hE.names
theorem Ny{Z:eG}(ho:gW rs s)(gI:dM rs []=some m)(hn:s.size=(n:Int))(hv:dU Z=true)(hsg:(Z.aY.l.map dz).map Gy=(s.aY.l.map dz++fW rs (dG rs)).map Gy)(hr:r ∈ rs)(hc:c ∈ r.body.l)(k0:c.kind=0) :
  n ^ c.args.l.length<=4096/\∃ q,Z.aY.l.find? (eX c.name)=some q/\q.arity=(c.args.l.length:Int):=by
 have Bx:=Lc (rs':=s.aY.l++mK rs (dG rs)) ho gI hn (by rw [map_append,pg]) hr;refine ⟨(Bx.rel c hc k0).1,?_⟩;have u0:=ri hr hc k0
 have Km:(c.name,(c.args.l.length:Int)) ∈ (Z.aY.l.map dz).map Gy:=by
  rw [hsg,map_append];by_cases hd:c.name ∈ ax rs
  ·obtain ⟨_,q,hq,ve,zk⟩:=qS gI hd;have hl:(q.args.l.length:Int)=c.args.l.length:=l9 gI (kW hq) (by rw [ve];exact u0);refine mem_append_right _ (mem_map.2 ⟨(c.name,(jq rs c.name:Int),[]),mem_map.2 ⟨c.name,(dJ rs).2 hd,rfl⟩,?_⟩);unfold Gy;rw [zk,hl]
  ·cases hf:s.aY.l.find? (nC c.name (c.args.l.length:Int)) with
   |none=>exact absurd (.inl ⟨_,u0,hd,hf⟩) ho.names
   |some q=>
    obtain ⟨hq,ve,hqa⟩:=yF hf;refine mem_append_left _ (mem_map.2 ⟨dz q,List.mem_map_of_mem hq,?_⟩);unfold Gy dz;rw [ve,hqa]
 obtain ⟨d,hd,e⟩:=mem_map.1 Km;obtain ⟨q,hq,rfl⟩:=mem_map.1 hd;unfold Gy dz at e;simp only [Prod.mk.injEq] at e;exact ⟨q,by rw [<- e.1];exact uh hv hq,e.2⟩
theorem Zf{Z:eG}(ho:gW rs s)(gI:dM rs []=some m)(hn:s.size=(n:Int))(hv:dU Z=true)(hz:Z.size=s.size)(hsg:(Z.aY.l.map dz).map Gy=(s.aY.l.map dz++fW rs (dG rs)).map Gy)(hr:r ∈ rs):kf n r (jY Z):=by
 have Bx:=Lc (rs':=s.aY.l++mK rs (dG rs)) ho gI hn (by rw [map_append,pg]) hr;refine ⟨?_,Bx.conds,fun c hc k0=>?_⟩
 ·have:=(jS.1 hv).kH;unfold jY;rw [length_map] at this ⊢;unfold cu;omega
 ·obtain ⟨h1,q,h2,h3⟩:=Ny ho gI hn hv hsg hr hc k0;refine ⟨h1,fun t ht Em=>?_⟩;obtain ⟨p,hp,rfl⟩:=mem_map.1 ht;have h4:=uh hv hp;rw [show p.name=c.name from Em,h2] at h4;obtain rfl:=Option.some.inj h4;show (bitsOf Z.size.toNat q.arity.toNat q.bW.l).length=_;rw [nu,h3,hz,hn];rfl
theorem SU(Z:eG)(hz:Z.size=(n:Int)):cA (jY Z)=JL n Z:=by
 funext nm k;unfold cA JL jY;rw [find?_map,show Z.size.toNat=n by omega];have:((fun t:iV=>t.name==nm)∘lY n)=eX nm:=rfl;rw [this];cases Z.aY.l.find? (eX nm)<;>rfl
theorem SV(ho:gW rs s)(n1:1<=n)(hd:out.aY.l.map dz=s.aY.l.map dz++r7 rs n L (dG rs))(hx:x ∈ ax rs){q:Nat}(hq:q<n ^ jq rs x):Ys n (out.aY.l.map dz) x q↔L x q=true:=by
 rw [hd];constructor
 ·rintro ⟨d,Ae,Ts,u,hu,huq⟩;rcases mem_append.1 Ae with Ae|Ae
  ·obtain ⟨p,hp,rfl⟩:=mem_map.1 Ae;exact absurd (.inr ⟨p,hp,by rw [show p.name=x from Ts];exact hx⟩) ho.names
  ·obtain ⟨nm,nx,rfl⟩:=mem_map.1 Ae;obtain rfl:nm=x:=Ts;obtain ⟨i,hi,hL,rfl⟩:=xP.1 hu;rw [(m9 n1 hi).2] at huq;rw [<- huq];exact hL
 ·intro hL;exact ⟨_,mem_append_right _ (mem_map.2 ⟨x,(dJ rs).2 hx,rfl⟩),rfl,cU n (jq rs x) q,xP.2 ⟨q,hq,hL,rfl⟩,(m9 n1 hq).2⟩
theorem SW(hd:out.aY.l.map dz=s.aY.l.map dz++r7 rs n L (dG rs))(hx:x ∉ ax rs){q:Nat}:Ys n (out.aY.l.map dz) x q↔Ys n (s.aY.l.map dz) x q:=by
 rw [hd];constructor
 ·rintro ⟨d,Ae,Ts,u,hu,huq⟩;rcases mem_append.1 Ae with Ae|Ae
  ·exact ⟨d,Ae,Ts,u,hu,huq⟩
  ·obtain ⟨nm,nx,rfl⟩:=mem_map.1 Ae;obtain rfl:nm=x:=Ts;exact absurd ((dJ rs).1 nx) hx
 ·rintro ⟨d,Ae,Ts,u,hu,huq⟩;exact ⟨d,mem_append_left _ Ae,Ts,u,hu,huq⟩
theorem Nz(s:eG):xN n s=JL n s:=by
 funext nm k;unfold xN JL;cases s.aY.l.find? (eX nm)<;>rfl
end
theorem VJ{y:Sl Int}(hy:y.l=vs){ps:List Nat}{x:Sl Int}(hxp:x.l=ps.map fun (p:Nat)=>(p:Int))(si:∀ p ∈ ps,p<vs.length)(mM:ps.length<=1000000)
  (hK:∀ h',h'.get h.next=some (.cells ((aM vs ps).map iv))->bG h h'->h.next<h'.next->K (.ret (.slice h.next 0 ps.length 1)) h'=true):Sem TP 124 [an encI 1 y,an encI 1 x] h K:=by
 subst hy;have ZM:ps.length<=cu:=by unfold cu;omega
 have hl:x.l.length=ps.length:=by rw [hxp];simp
 refine F.wT ?_;rw [F.zc];simp only [aS,reduceAdd,reduceEqDiff,reduceIte,hl,uV mM];have g0:=aD h (.cells ((replicate ps.length (0:Int)).map iv));have x0:=bG.alloc h (.cells ((replicate ps.length (0:Int)).map iv));have n0:(h.alloc (.cells ((replicate ps.length (0:Int)).map iv))).next=h.next+1:=ag.aV _ _
 generalize h.alloc (.cells ((replicate ps.length (0:Int)).map iv))=H at g0 x0 n0 ⊢
 refine aG 0 ps.length (zero_le _) (fun i e h'=>∃ d:List Int,d.length=ps.length/\d.take i=(aM y.l ps).take i/\h'.get h.next=some (.cells (d.map iv))/\bG h h'/\h.next<h'.next /\
  e 0=an encI 1 y/\e 5 = .slice h.next 0 ps.length 1/\e 11=an encI 1 x/\e 12 = .int .i64 (ps.length:Int)/\e 13 = .int .i64 (i:Int)) ⟨replicate ps.length 0,by simp,rfl,g0,x0,by omega,rfl,rfl,rfl,rfl,rfl⟩ ?_ ?_
 ·rintro i e h' _ hi ⟨d,dl,dt,q0,qx,qn,e0,e5,jX,oX,uY⟩ K' hn hx hr hp;have hv:ps[i]?=some ps[i]:=ec hi;generalize ps[i]=p at hv;have NP:x.l[i]?=some (p:Int):=by rw [hxp,getElem?_map,hv];rfl
  have WZ:=si p (iA hv);have hw:y.l[p]?=some (y.l.getD p 0):=by rw [getD_eq_getElem?_getD,ec WZ];rfl
  have i1:=aU (enc:=encI) (sz:=1) (k:=.i64) x (i:=i) (by rw [hl];exact hi);have l1:=fun h=>fS (x:=x) NP (h:=h);rw [F.iB.aT];simp only [e0,e5,jX,oX,uY,aS,reduceAdd,reduceEqDiff,reduceIte,bl hi,i1,l1,aU y WZ,fS hw,kF hi,pR q0 (show i<d.length by omega),aK hi ZM];refine hn _ _ ⟨d.set i (y.l.getD p 0),by simp [dl],?_,by rw [ag.aP,if_pos rfl],qx.set (dK _) _,by rw [ag.bq];exact qn,e0,e5,jX,oX,rfl⟩;have UJ:(aM y.l ps)[i]?=some (y.l.getD p 0):=by unfold aM;rw [getElem?_map,hv];rfl
  rw [take_add_one,take_add_one,UJ,take_set_of_le (dK _),dt,getElem?_set,if_pos rfl,if_pos (by omega)]
 ·rintro e h' ⟨d,dl,dt,q0,qx,qn,e0,e5,jX,oX,uY⟩ K' hx;rw [F.iB.aT];simp only [oX,uY,aS,reduceAdd,reduceEqDiff,reduceIte,aX];rw [hx,F.iB.aJ];simp only [e5,bg,reduceEqDiff,reduceIte]
  have:d=aM y.l ps:=by
   have h1:d.take ps.length=d:=kB (by omega);have h2:(aM y.l ps).take ps.length=aM y.l ps:=kB (by simp [aM]);rw [<- h1,dt,h2]
  rw [this] at q0;exact hK h' q0 qx qn
theorem rq(p:mJ):bE (dB p)=true:=by
 rw [ja];have h1:bE [an encI 1 p.eZ]=true:=by cases p.eZ<;>rfl
 have h2:bE [an dB 3 p.parts]=true:=by cases p.parts<;>rfl
 simp only [bE,Bool.and_true] at h1 h2 ⊢;rw [h1,h2];rfl
theorem Lf{x y:Sl Int}(hx:x.l.length<=cu)(hK:K (.ret (.bool (decide (x.l=y.l)))) h=true):Sem TP 128 [an encI 1 x,an encI 1 y] h K:=by
 refine F.rN ?_;rw [F.sE];simp only [aS,reduceAdd,reduceEqDiff,reduceIte,ct];by_cases hl:x.l.length=y.l.length
 ·simp only [ey (show ((x.l.length:Nat):Int)=((y.l.length:Nat):Int) by omega),Bool.not_true,aE];refine aG 0 x.l.length (zero_le _) (fun i e h'=>h'=h/\e 0=an encI 1 x/\e 1=an encI 1 y/\e 12 = .int .i64 (x.l.length:Int)/\e 13 = .int .i64 (i:Int)/\x.l.take i=y.l.take i) ⟨rfl,rfl,rfl,rfl,rfl,rfl⟩ ?_ ?_
  ·rintro i e h' _ hi ⟨rfl,e0,e1,oX,uY,ht⟩ K' hn iY hr hp;have hv:x.l[i]?=some x.l[i]:=ec hi;have hw:y.l[i]?=some (y.l[i]'(by omega)):=ec _;generalize x.l[i]=a at hv;generalize y.l[i]'(by omega)=b at hw;rw [F.cD.aT];simp only [e0,e1,oX,uY,aS,reduceAdd,reduceEqDiff,reduceIte,bl hi,aU x hi,aU y (show i<y.l.length by omega),fS hv,fS hw,ct];by_cases zM:a=b
   ·simp only [ey zM,Bool.not_true,aE,uY,aK hi hx,aq];exact hn _ _ ⟨rfl,e0,e1,oX,rfl,by rw [take_add_one,take_add_one,ht,hv,hw,zM]⟩
   ·simp only [ep zM,Bool.not_false,aF];rw [hr,F.cD.bt];simp only [bg,reduceEqDiff,reduceIte];rw [ep (fun h5=>zM (by rw [h5,hw] at hv;exact (Option.some.inj hv).symm))] at hK;exact hK
  ·rintro e h' ⟨rfl,e0,e1,oX,uY,ht⟩ K' iY;rw [F.cD.aT];simp only [oX,uY,aS,reduceAdd,reduceEqDiff,reduceIte,aX];rw [iY,F.cD.aJ];rw [kB (dK _),kB (by omega)] at ht;rw [ey ht] at hK;exact hK
 ·simp only [ep (show ¬ ((x.l.length:Nat):Int)=((y.l.length:Nat):Int) by omega),Bool.not_false,aF];rw [ep (fun h5=>hl (by rw [h5]))] at hK;exact hK
def fQ(hs:List bQ)(c:dD):Bool:=decide (c.name ∈ hs)&&(!c.neg&&decide (c.kind=0))
def SX(rec:mJ->bQ->List Int->Bool)(n:Nat)(L:Lk)(hs:List bQ)(r:aR)(vs:List Int):List dD->List mJ->Bool
 |[],ps=>ps.isEmpty
 |c :: cs,ps=>dy n L c (aM vs (aQ r c))&&(if fQ hs c=true then (match ps with|[]=>false|p :: ps=>rec p c.name (aM vs (aQ r c))&&SX rec n L hs r vs cs ps) else SX rec n L hs r vs cs ps)
def sq(n:Nat)(L:Lk)(rs:List aR):Nat->mJ->bQ->List Int->Bool
 |0,_,_,_=>false
 |k+1,p,nm,t=>decide (0<=p.nE)&&(match rs[p.nE.toNat]? with
  |none=>false
  |some r=>(r.name==nm)&&(decide (p.eZ.l.length=(varsOf r).length)&&(iJ n p.eZ.l&&(decide (aM p.eZ.l (placesOf (varsOf r) r.args.l)=t)&&SX (sq n L rs k) n L (ax rs) r p.eZ.l r.body.l p.parts.l))))
def ni(x:Sl mJ)(k:Nat):AV:=match x with|none=>.au|some l=>.ay (l.flatMap dB) (k*3) (l.length-k) 3
theorem Lg(x:Sl mJ):ni x 0=an dB 3 x:=by cases x<;>simp [ni,an]
theorem JO(x:Sl mJ)(k:Nat)(h:ag):b6 .slice (ni x k) h=some (.int .i64 ((x.l.length-k:Nat):Int)):=by
 cases x with
 |none=>simp [ni,b6,Sl.l]
 |some l=>rfl
theorem VK{x:Sl mJ}(hk:k<x.l.length):dg 3 (ni x k) (.int .i64 0)=some (.dI (x.l.flatMap dB) (k*3)):=by
 cases x with
 |none=>simp [Sl.l] at hk
 |some l=>
  replace hk:k<l.length:=hk;simp only [ni,dg,asNat];simp [Sl.l];omega
theorem PI{x:Sl mJ}(hk:k<x.l.length):jr (some 3) (ni x k) (some (.int .i64 1)) none=some (ni x (k+1)):=by
 cases x with
 |none=>simp [Sl.l] at hk
 |some l=>
  replace hk:k<l.length:=hk;have h1:1<=l.length-k:=by omega
  simp [ni,jr,nS,rA,asNat,h1];omega
structure PvH (n P M S B lo:Nat) (rules:Sl aR) (ks:List bQ) (lv:eL.Lv) (D:DB) (h:ag):Prop where
 hP:∃ A,h.get P=some (.cells [an aO 3 rules,.map A,.map M])
 hl:fZ (ax rules.l) h M ks lv
 hS:h.get S=some (.cells [.int .i64 (n:Int),.map B])
 hD:eT D h B lo
 lt:P<h.next/\M<h.next/\S<h.next
theorem PvH.ext{n P M S B lo:Nat}{rules:Sl aR}{ks:List bQ}{lv:eL.Lv}{D:DB}{h h':ag}(g:PvH n P M S B lo rules ks lv D h)(x:bG h h'):PvH n P M S B lo rules ks lv D h':=by
 obtain ⟨⟨A,hP⟩,hl,hS,hD,l1,l2,l3⟩:=g;have:=x.next
 exact ⟨⟨A,by rw [x.get _ l1];exact hP⟩,hl.eW (x.get _ l2),by rw [x.get _ l3];exact hS,hD.ext x,by omega,by omega,by omega⟩
theorem VL{l:List Int}:(l.any fun v=>decide (v<0)||decide ((n:Int)<=v)) = !iJ n l:=by
 unfold iJ
 induction l with
 |nil=>rfl
 |cons v l ih=>rw [any_cons,all_cons,ih];cases decide (v<0)<;>cases decide ((n:Int)<=v)<;>simp
theorem CL(hv:rules.l[i]?=some r)(h:ag):ah none (.dI (rules.l.flatMap aO) (i*3)) h=some (.str r.name):=by
 have:=fE (h:=h) ei hv (k:=0) (by omega);rw [Nat.add_zero] at this;rw [this];rfl
theorem Rg(rec:mJ->bQ->List Int->Bool)(n:Nat)(L:Lk)(hs:List bQ)(r:aR)(vs:List Int)(ps:List mJ):SX rec n L hs r vs [] ps=ps.isEmpty:=by cases ps<;>rfl
theorem G9(rec:mJ->bQ->List Int->Bool)(n:Nat)(L:Lk)(hs:List bQ)(r:aR)(vs:List Int)(c:dD)(cs:List dD)(ps:List mJ):SX rec n L hs r vs (c :: cs) ps=(dy n L c (aM vs (aQ r c))&&(if fQ hs c=true then (match ps with|[]=>false|p :: ps=>rec p c.name (aM vs (aQ r c))&&SX rec n L hs r vs cs ps) else SX rec n L hs r vs cs ps)):=by
 cases ps<;>rfl
set_option maxHeartbeats 4000000 in
theorem Lh(n1:1<=n)(iF:∀ r ∈ rules.l,r.kH)(iQ:∀ r ∈ rules.l,zi n D r) :
  ∀ (k:Nat) (p:mJ),SizeOf.sizeOf p<=k->z7 p->∀ {nm:bQ} {T:AV} {y:Sl Int} {h:ag} {K:Out->ag->Bool},PvH n P M S B lo rules ks lv D h->(∀ h',bG h h'->Fz true h' T (an encI 1 y)) ->
   (∀ h',bG h h'->K (.ret (.bool (sq n (dA D) rules.l k p nm y.l))) h'=true)->Sem TP 81 [.ptr S 0,.ptr P 0,.str nm,T,.agg (dB p)] h K:=by
 intro k
 induction k with
 |zero=>intro p hk;obtain ⟨a,b,c⟩:=p;simp at hk
 |succ k ihk=>
 intro p hk zH nm T y h K hv hT hK;have mN:∀ q ∈ p.parts.l,SizeOf.sizeOf q<=k/\z7 q:=fun q hq=>⟨by have:=mJ.u6 hq;omega,by cases zH with|mk _ _ _ h3=>exact h3 q hq⟩
 have mM:p.parts.l.length<=cu/\p.eZ.l.length<=cu:=by cases zH with|mk _ h1 h2 _=>exact ⟨h2,h1⟩
 refine F.uU ?_;rw [F.vX];simp only [show eR (.ptr S 0)=some [.ptr S 0] from rfl,cG (rq p),aq,ag.aV];have g0:((h.alloc (.cells [.ptr S 0])).alloc (.cells (dB p))).get h.next=some (.cells [.ptr S 0]):=by simp [ag.aW]
 have g1:((h.alloc (.cells [.ptr S 0])).alloc (.cells (dB p))).get (h.next+1)=some (.cells (dB p)):=by simp [ag.aW]
 have gx:bG h ((h.alloc (.cells [.ptr S 0])).alloc (.cells (dB p))):=(bG.alloc _ _).trans (bG.alloc _ _);have gn:((h.alloc (.cells [.ptr S 0])).alloc (.cells (dB p))).next=h.next+1+1:=rfl
 generalize ((h.alloc (.cells [.ptr S 0])).alloc (.cells (dB p)))=H at g0 g1 gx gn ⊢;have vH:=hv.ext gx;obtain ⟨A,hP⟩:=vH.hP;have lr:ah none (.ptr (h.next+1) 0) H=some (.int .i64 p.nE):=by rw [ai g1,ja];rfl
 have lp:ah none (.ptr P 0) H=some (an aO 3 rules):=by rw [ai hP];rfl
 simp only [aS,reduceAdd,reduceEqDiff,reduceIte,lr];by_cases VM:p.nE<0
 ·simp only [ey VM,aF];have:sq n (dA D) rules.l (k+1) p nm y.l=false:=by unfold sq;rw [ep (by omega)];rfl
  rw [this] at hK;exact hK H gx
 obtain ⟨i,hi⟩:∃ i:Nat,p.nE=(i:Int):=⟨p.nE.toNat,by omega⟩
 have Zn:p.nE.toNat=i:=by omega
 simp only [ep VM,aE,bD,aS,reduceAdd,reduceEqDiff,reduceIte,lr,lp];by_cases Rh:(rules.l.length:Int)<=p.nE
 ·simp only [ey Rh,aF];have:sq n (dA D) rules.l (k+1) p nm y.l=false:=by unfold sq;rw [getElem?_eq_none (by omega:rules.l.length<=p.nE.toNat),Bool.and_false]
  rw [this] at hK;exact hK H gx
 have Lx:i<rules.l.length:=by omega
 have hr:rules.l[i]?=some rules.l[i]:=ec Lx;generalize rules.l[i]=r at hr;have lD:=iA hr;have hf:=iF r lD;have Ri:=iQ r lD;have pH:r.body.l.length<=cu:=by have:=hf.2.1;unfold cu;omega
 have Z6:sq n (dA D) rules.l (k+1) p nm y.l=((r.name==nm)&&(decide (p.eZ.l.length=(varsOf r).length)&&(iJ n p.eZ.l&&(decide (aM p.eZ.l (placesOf (varsOf r) r.args.l)=y.l)&&SX (sq n (dA D) rules.l k) n (dA D) (ax rules.l) r p.eZ.l r.body.l p.parts.l)))):=by
  rw [sq,Zn,hr,ey (by omega),Bool.true_and]
 rw [Z6] at hK;clear Z6;rw [hi];simp only [ep (show ¬ (rules.l.length:Int)<=(i:Int) by omega),aE,bD,aS,reduceAdd,reduceEqDiff,reduceIte,lr,hi,lp,aU rules Lx,CL hr]
 cases nx:(r.name==nm) with
 |false=>
  simp only [Bool.not_false,aF];rw [nx] at hK;exact hK H gx
 |true=>
 rw [nx,Bool.true_and] at hK;simp only [Bool.not_true,aE,bD,aS,reduceAdd,reduceEqDiff,reduceIte,lr,hi,lp,aU rules Lx,cX ei hr];refine aj (cI hf fun hd cs ls ZP uq Io=>?_);have BF:cs.l.length=r.body.l.length:=by have:=congrArg List.length uq;simpa using this
 have ohd:bE [an encI 1 hd]=true:=by cases hd<;>rfl
 have ocs:bE [an eu 1 cs]=true:=by cases cs<;>rfl
 have ols:bE [an encI 1 ls]=true:=by cases ls<;>rfl
 have oar:bE [an encS 1 r.args]=true:=by cases r.args<;>rfl
 have obd:bE [an bR 4 r.body]=true:=by cases r.body<;>rfl
 have akQ:bE (bu (i:Int) r (varsOf r).length (an encI 1 hd) (an eu 1 cs) (an encI 1 ls))=true:=by
  simp only [bE,Bool.and_true] at ohd ocs ols oar obd;simp only [bu,bE,ohd,ocs,ols,oar,obd,Bool.and_true];rfl
 obtain ⟨H2,qX,b2,bo2,bn2⟩:=cR (h:=H) (zs:=[.int .i64 0,.str [],.au,.au,.int .i64 0,.au,.au,.au]) (cs:=bu (i:Int) r (varsOf r).length (an encI 1 hd) (an eu 1 cs) (an encI 1 ls)) (n:=8) rfl rfl akQ;have x2:bG H H2:=⟨by omega,fun b hb=>bo2 b (by omega)⟩
 rw [gn] at qX b2;simp only [bu] at b2;have q0:H2.get h.next=some (.cells [.ptr S 0]):=by rw [x2.get _ (by omega)];exact g0
 have q1:H2.get (h.next+1)=some (.cells (dB p)):=by rw [x2.get _ (by omega)];exact g1
 have v2:=vH.ext x2;have lv2:ah none (.ptr (h.next+1) 1) H2=some (an encI 1 p.eZ):=by rw [ai q1,ja];rfl
 simp only [aS,reduceAdd,reduceEqDiff,reduceIte,qX,lv2,ai b2,ct];by_cases tI:p.eZ.l.length=(varsOf r).length
 case neg=>
  simp only [ep (show ¬ ((p.eZ.l.length:Nat):Int)=((varsOf r).length:Int) by omega),Bool.not_false,aF];rw [ep tI] at hK;exact hK H2 (gx.trans x2)
 rw [ey tI,Bool.true_and] at hK;simp only [ey (show ((p.eZ.l.length:Nat):Int)=((varsOf r).length:Int) by omega),Bool.not_true,aE,aS,reduceAdd,reduceEqDiff,reduceIte,lv2];refine aj (oY (a:=[]) (b:=[.ptr h.next 0]) (p:=fun v=>decide (v<0)||decide ((n:Int)<=v)) mM.2 (fun v K' Zg=>?_) ?_)
 ·refine F.tu ?_;rw [F.tX];simp only [aS,reduceAdd,reduceEqDiff,reduceIte];by_cases BG:v<0
  ·simp only [ey BG,aF] at Zg ⊢;exact Zg
  ·simp only [ep BG,aE,ai q0,aS,reduceAdd,reduceEqDiff,reduceIte,bD,ai v2.hS] at Zg ⊢;exact Zg
 rw [VL];simp only [aS,reduceAdd,reduceEqDiff,reduceIte]
 cases Lu:iJ n p.eZ.l with
 |false=>
  simp only [Bool.not_false,aF];rw [Lu] at hK;exact hK H2 (gx.trans x2)
 |true=>
 rw [Lu,Bool.true_and] at hK;have eM:∀ (xs:List bQ),(∀ s ∈ xs,s ∈ varsOf r)->∀ q ∈ placesOf (varsOf r) xs,q<p.eZ.l.length:=fun xs Tp=>by rw [tI];exact hG Tp
 have PJ:(placesOf (varsOf r) r.args.l).length=r.args.l.length:=by unfold placesOf;simp
 simp only [Bool.not_true,aE,aS,reduceAdd,reduceEqDiff,reduceIte,lv2,ai b2];refine aj (VJ (ps:=placesOf (varsOf r) r.args.l) rfl ZP (eM _ jl) (by rw [PJ];have:=hf.1;omega) fun h3 t1 x3 t2=>?_);simp only [gJ];have x03:=(gx.trans x2).trans x3;have rU:=fM p.eZ.l (placesOf (varsOf r) r.args.l);rw [<- rU];have hEq:=Lf (x:=some (aM p.eZ.l (placesOf (varsOf r) r.args.l))) (y:=y) (by show (aM p.eZ.l (placesOf (varsOf r) r.args.l)).length<=cu;rw [rU,PJ];have:=hf.1;unfold cu;omega) (h:=ag.empty) (K:=qm (.bool (decide (aM p.eZ.l (placesOf (varsOf r) r.args.l)=y.l)))) (c8 rfl);refine aj (Sem.MH rfl hEq (kD.cons (og t1) (kD.cons (hT h3 x03) .nil)) ?_);simp only [aS,reduceAdd,reduceEqDiff,reduceIte];by_cases heq:aM p.eZ.l (placesOf (varsOf r) r.args.l)=y.l
 case neg=>
  simp only [ep heq,Bool.not_false,aF];rw [ep heq] at hK;exact hK h3 x03
 rw [ey heq,Bool.true_and] at hK;have v3:=hv.ext x03;have QF:=x2.trans x3;have c0:h3.get h.next=some (.cells [.ptr S 0]):=by rw [x3.get _ (by omega)];exact q0
 have c1:h3.get (h.next+1)=some (.cells (dB p)):=by rw [x3.get _ (by omega)];exact q1
 have c2:h3.get (h.next+1+1)=some (.cells [.int .i64 (i:Int),.str r.name,an encS 1 r.args,an bR 4 r.body,.int .i64 (varsOf r).length,an encI 1 hd,an eu 1 cs,an encI 1 ls]):=by rw [x3.get _ (by omega)];exact b2
 have lpt:ah none (.ptr (h.next+1) 2) h3=some (ni p.parts 0):=by rw [ai c1,ja,Lg];rfl
 have Iq:=x3.next
 simp only [ey heq,Bool.not_true,aE,aS,reduceAdd,reduceEqDiff,reduceIte,lpt,ai c2]
 refine aG 0 r.body.l.length (zero_le _) (fun m e h'=>∃ j,j<=p.parts.l.length/\bG h3 h'/\e 1 = .ptr P 0/\e 5 = .ptr h.next 0/\e 9 = .ptr (h.next+1) 0/\e 11 = .ptr (h.next+1+1) 0/\e 12=ni p.parts j/\e 82=an bR 4 r.body/\e 83 = .int .i64 (r.body.l.length:Int)/\e 84 = .int .i64 (m:Int) /\
  SX (sq n (dA D) rules.l k) n (dA D) (ax rules.l) r p.eZ.l r.body.l p.parts.l=SX (sq n (dA D) rules.l k) n (dA D) (ax rules.l) r p.eZ.l (r.body.l.drop m) (p.parts.l.drop j)) ⟨0,zero_le _,bG.refl _,rfl,rfl,rfl,rfl,rfl,rfl,rfl,rfl,rfl⟩ ?_ ?_
 ·rintro m e h' _ hm ⟨j,hj,x4,e1,e5,e9,jX,oX,Vo,TB,Z7,kQ⟩ K' hn hx yx hp;have hc:r.body.l[m]?=some r.body.l[m]:=ec hm;generalize r.body.l[m]=c at hc;have mu:=iA hc;have hx4:=x4.next
  have hdr:r.body.l.drop m=c :: r.body.l.drop (m+1):=by rw [drop_eq_getElem_cons hm];congr 1;exact Option.some.inj ((ec hm).symm.trans hc)
  rw [hdr,G9] at kQ;obtain ⟨H5,hs5,d5,Z8,dn5⟩:=cR (h:=h') (zs:=[.int .i64 0,.bool false,.str [],.au]) (cs:=bR c) (n:=4) rfl rfl (gQ c);have x5:bG h3 H5:=x4.trans ⟨by omega,fun b hb=>Z8 b (by omega)⟩;have hx5:=x5.next
  have f1:H5.get (h.next+1)=some (.cells (dB p)):=by rw [x5.get _ (by omega)];exact c1
  have f2:H5.get (h.next+1+1)=some (.cells [.int .i64 (i:Int),.str r.name,an encS 1 r.args,an bR 4 r.body,.int .i64 (varsOf r).length,an encI 1 hd,an eu 1 cs,an encI 1 ls]):=by rw [x5.get _ (by omega)];exact c2
  have lv5:ah none (.ptr (h.next+1) 1) H5=some (an encI 1 p.eZ):=by rw [ai f1,ja];rfl
  have UT:m<cs.l.length:=by omega
  have jV:cs.l[m]?=some cs.l[m]:=ec UT
  have Bl:(cs.l[m]).l=(aQ r c).map fun (p:Nat)=>(p:Int):=by
   have h3:(cs.l.map Sl.l)[m]?=some (iH (varsOf r) c.args.l):=by rw [uq,getElem?_map,hc];rfl
   rw [getElem?_map,jV] at h3;exact Option.some.inj h3
  generalize cs.l[m]=xi at jV Bl;have BB:(aQ r c).length=c.args.l.length:=by unfold aQ placesOf;simp
  rw [F.cP.aT];simp only [Vo,TB,Z7,aS,reduceAdd,reduceEqDiff,reduceIte,bl hm,aU r.body hm,cX gh hc,hs5];simp only [e9,jX,Z7,aS,reduceAdd,reduceEqDiff,reduceIte,lv5,ai f2,aU cs UT,ke jV];refine aj (VJ (ps:=aQ r c) rfl Bl (eM _ (jm mu)) (by rw [BB];have:=Ri.arity c mu;omega) fun h6 t3 x6 t4=>?_);have x36:=x5.trans x6;have x06:=x03.trans x36;have v6:=hv.ext x06;have hx6:=x6.next
  have k0:h6.get h.next=some (.cells [.ptr S 0]):=by rw [x36.get _ (by omega)];exact c0
  have k5:h6.get h'.next=some (.cells (bR c)):=by rw [x6.get _ (by omega)];exact d5
  have Zh:=fM p.eZ.l (aQ r c);simp only [aS,reduceAdd,reduceEqDiff,reduceIte,e5,ai k0,ai k5,bR,EL];rw [<- Zh];refine aj (Dm (D:=D) (lo:=lo) v6.hS v6.hD n1 t3 t4 v6.lt.2.2 (by rw [Zh,BB];exact Ri.arity c mu) (iD Lu (eM _ (jm mu))) (fun kk=>by rw [Zh,BB];exact Ri.rel c mu kk) (fun Bn=>by rw [Zh,BB];exact Ri.two c mu Bn) (Ri.kinds c mu) fun h7 x7=>?_);have x37:=x36.trans x7;have x07:=x03.trans x37;have v7:=hv.ext x07;obtain ⟨A7,hP7⟩:=v7.hP;have hx7:=x7.next
  have k7:h7.get h'.next=some (.cells (bR c)):=by rw [x7.get _ (by omega)];exact k5
  have k70:h7.get h.next=some (.cells [.ptr S 0]):=by rw [x7.get _ (by omega)];exact k0
  simp only [bR] at k7;simp only [aS,reduceAdd,reduceEqDiff,reduceIte]
  cases AI:dy n (dA D) c (aM p.eZ.l (aQ r c)) with
  |false=>
   simp only [Bool.not_false,aF];rw [yx,F.cP.bt];simp only [bg,reduceEqDiff,reduceIte];rw [AI,Bool.false_and] at kQ;rw [kQ] at hK;exact hK h7 x07
  |true=>
  rw [AI,Bool.true_and] at kQ
  have skip:∀ (e':Env),fQ (ax rules.l) c=false->e' 1 = .ptr P 0->e' 5 = .ptr h.next 0->e' 9 = .ptr (h.next+1) 0->e' 11 = .ptr (h.next+1+1) 0->e' 12=ni p.parts j->e' 82=an bR 4 r.body->e' 83 = .int .i64 (r.body.l.length:Int)->e' 84 = .int .i64 ((m+1:Nat):Int)->K' .normal ⟨e',146,[],h7⟩=true:=fun e' ha a1 a2 a3 a4 a5 a6 a7 a8=>by
   rw [if_neg (by rw [ha];simp)] at kQ;exact hn _ _ ⟨j,hj,x37,a1,a2,a3,a4,a5,a6,a7,a8,kQ⟩
  simp only [Bool.not_true,aE,e1,bD,aS,reduceAdd,reduceEqDiff,reduceIte,ai hP7,ai k7,v7.hl.look];by_cases vt:c.name ∈ ax rules.l
  case neg=>
   simp only [ep vt,Bool.not_false,aF,Z7,aK hm pH,aq];exact skip _ (by unfold fQ;rw [ep vt];rfl) e1 e5 e9 jX oX Vo TB rfl
  simp only [ey vt,Bool.not_true,aE,aS,reduceAdd,reduceEqDiff,reduceIte,ai k7]
  cases Zi:c.neg with
  |true=>
   simp only [aF,Z7,aK hm pH,aq];exact skip _ (by unfold fQ;rw [Zi];simp) e1 e5 e9 jX oX Vo TB rfl
  |false=>
  simp only [aE,aS,reduceAdd,reduceEqDiff,reduceIte,ai k7,ct];by_cases Ot:c.kind=0
  case neg=>
   simp only [ep Ot,Bool.not_false,aF,Z7,aK hm pH,aq];exact skip _ (by unfold fQ;rw [Zi,ep Ot];simp) e1 e5 e9 jX oX Vo TB rfl
  have Wl:fQ (ax rules.l) c=true:=by unfold fQ;rw [ey vt,Zi,ey Ot];rfl
  rw [if_pos Wl] at kQ;simp only [ey Ot,Bool.not_true,aE,oX,aS,reduceAdd,reduceEqDiff,reduceIte,JO,ct];by_cases Oy:j=p.parts.l.length
  ·simp only [ey (show ((p.parts.l.length-j:Nat):Int)=0 by omega),aF];rw [yx,F.cP.bt];simp only [bg,reduceEqDiff,reduceIte];rw [drop_of_length_le (by omega)] at kQ;rw [kQ] at hK;exact hK h7 x07
  ·have Li:j<p.parts.l.length:=by omega
   have hq:p.parts.l[j]?=some p.parts.l[j]:=ec Li;have hdj:p.parts.l.drop j=p.parts.l[j] :: p.parts.l.drop (j+1):=drop_eq_getElem_cons Li;rw [hdj] at kQ;generalize p.parts.l[j]=q at hq kQ;have Pv:=iA hq;simp only [ep (show ¬ ((p.parts.l.length-j:Nat):Int)=0 by omega),aE,aS,reduceAdd,reduceEqDiff,reduceIte,e1,e5,oX,ai k70,ai k7,VK Li,cX nN hq];have t7:h7.get H5.next=some (.cells ((aM p.eZ.l (aQ r c)).map iv)):=by rw [x7.get _ (by omega)];exact t3
   refine aj (ihk q (mN q Pv).1 (mN q Pv).2 (y:=some (aM p.eZ.l (aQ r c))) v7 (fun h8 x8=>og (by rw [x8.get _ (by omega)];exact t7)) fun h8 x8=>?_);simp only [aS,reduceAdd,reduceEqDiff,reduceIte];have x08:=x07.trans x8;replace kQ:_=(sq n (dA D) rules.l k q c.name (aM p.eZ.l (aQ r c))&&_):=kQ;rw [show Sl.l (some (aM p.eZ.l (aQ r c)))=aM p.eZ.l (aQ r c) from rfl]
   cases Ku:sq n (dA D) rules.l k q c.name (aM p.eZ.l (aQ r c)) with
   |false=>
    simp only [Bool.not_false,aF];rw [yx,F.cP.bt];simp only [bg,reduceEqDiff,reduceIte];rw [Ku,Bool.false_and] at kQ;rw [kQ] at hK;exact hK h8 x08
   |true=>
    rw [Ku,Bool.true_and] at kQ;simp only [Bool.not_true,aE,oX,Z7,PI Li,aK hm pH,aq];exact hn _ _ ⟨j+1,by omega,x37.trans x8,e1,e5,e9,jX,rfl,Vo,TB,rfl,kQ⟩
 ·rintro e h' ⟨j,hj,x4,e1,e5,e9,jX,oX,Vo,TB,Z7,kQ⟩ K' hx;rw [F.cP.aT];simp only [TB,Z7,aS,reduceAdd,reduceEqDiff,reduceIte,aX];rw [hx,F.cP.aJ];simp only [bg,reduceEqDiff,reduceIte,oX,JO,aS,reduceAdd,reduceEqDiff,reduceIte,ct];rw [drop_of_length_le (dK _),Rg] at kQ
  have:decide (((p.parts.l.length-j:Nat):Int)=0)=(p.parts.l.drop j).isEmpty:=by
   rw [Bool.eq_iff_iff,decide_eq_true_iff,isEmpty_iff,drop_eq_nil_iff];omega
  rw [this,<- kQ];exact hK h' (x03.trans x4)
theorem uj(i:Int)(r:aR)(k:Int)(hd:Sl Int)(cs:Sl (Sl Int))(ls:Sl Int):bE (bu i r k (an encI 1 hd) (an eu 1 cs) (an encI 1 ls))=true:=by
 have ohd:bE [an encI 1 hd]=true:=by cases hd<;>rfl
 have ocs:bE [an eu 1 cs]=true:=by cases cs<;>rfl
 have ols:bE [an encI 1 ls]=true:=by cases ls<;>rfl
 have oar:bE [an encS 1 r.args]=true:=by cases r.args<;>rfl
 have obd:bE [an bR 4 r.body]=true:=by cases r.body<;>rfl
 simp only [bE,Bool.and_true] at ohd ocs ols oar obd;simp only [bu,bE,ohd,ocs,ols,oar,obd,Bool.and_true];rfl
theorem PK{i:Int}{k:Int}{y:AV}(hK:∀ h',bG h h'->K (.ret (.tuple [])) h'=true) :
  Sem TP 80 ([]++([.agg (bu i r k (an encI 1 hd) (an eu 1 cs) (an encI 1 ls)),y]++[])) h K:=by
 refine F.A4 ?_;rw [F.Ch];simp only [cG (uj i r k hd cs ls),aq];exact hK _ (bG.alloc _ _)
theorem VN:∀ {k:Nat} {p:mJ} {nm:bQ} {t:List Int},sq n L rs k p nm t=true->∃ r ∈ rs,r.name=nm/\mX n r p.eZ.l/\aM p.eZ.l (placesOf (varsOf r) r.args.l)=t/\SX (sq n L rs (k-1)) n L (ax rs) r p.eZ.l r.body.l p.parts.l=true
 |0,p,nm,t,h=>by cases h
 |k+1,p,nm,t,h=>by
  rw [sq,and_eq_true] at h;obtain ⟨h1,h2⟩:=h
  cases hr:rs[p.nE.toNat]? with
  |none=>rw [hr] at h2;cases h2
  |some r=>
   rw [hr] at h2;simp only [and_eq_true,beq_iff_eq,decide_eq_true_eq] at h2;obtain ⟨a,b,c,d,e⟩:=h2;exact ⟨r,iA hr,a,⟨b,c⟩,d,e⟩
theorem Lj{rec:mJ->bQ->List Int->Bool}{n:Nat}{L:Lk}{hs:List bQ}{r:aR}{vs:List Int}:∀ {cs:List dD} {ps:List mJ},SX rec n L hs r vs cs ps=true->cs.all (fun c=>dy n L c (aM vs (aQ r c)))=true
 |[],ps,_=>rfl
 |c :: cs,ps,h=>by
  rw [G9,and_eq_true] at h;rw [all_cons,h.1,Bool.true_and];have h2:=h.2;by_cases ha:fQ hs c=true
  ·rw [if_pos ha] at h2
   cases ps with
   |nil=>cases h2
   |cons p ps=>
    simp only [and_eq_true] at h2;exact Lj h2.2
  ·rw [if_neg ha] at h2;exact Lj h2
theorem SY(hF:jZ rs n s L)(h:sq n L rs k p nm t=true):nm ∈ ax rs/\L nm (iy n t)=true/\iJ n t=true/\∃ r ∈ rs,r.name=nm/\t.length=r.args.l.length:=by
 obtain ⟨r,hr,xz,ha,ht,hg⟩:=VN h;obtain ⟨kk,T,ic,hT,g⟩:=hF;have:=g.closed (yD ic) hT r hr p.eZ.l ha (Lj hg);unfold jb at this;rw [ht,xz] at this;have mM:∀ q ∈ placesOf (varsOf r) r.args.l,q<p.eZ.l.length:=by rw [ha.1];exact hG jl
 refine ⟨by rw [<- xz];exact List.mem_map_of_mem hr,this,by rw [<- ht];exact iD ha.2 mM,r,hr,xz,?_⟩;rw [<- ht,fM];unfold placesOf;simp
set_option maxHeartbeats 2000000 in
theorem NA(lu:∀ r ∈ rules.l,r.ok)(iF:∀ r ∈ rules.l,r.kH)(qu:s.ok){t:Sl Int}(zH:z7 p)
  (abz:∀ e,By rules.l s e->K (.ret (.bool false)) h=true)
  (GF:gW rules.l s->∀ b:Bool,(b=true->∃ L,jZ rules.l s.size.toNat s L)->(∀ L,jZ rules.l s.size.toNat s L->b=sq s.size.toNat L rules.l (SizeOf.sizeOf p) p nm t.l)->K (.ret (.bool b)) h=true) :
  Sem TP 27 [an aO 3 rules,.agg (aB s),.str nm,an encI 1 t,.agg (dB p)] h K:=by
 have main:Sem TP 27 [an aO 3 rules,.agg (aB s),.str nm,an encI 1 t,.agg (dB p)] ag.empty (fun o h'=>yes (∃ b:Bool,o = .ret (.bool b)/\((∃ e,By rules.l s e/\b=false)\/(gW rules.l s/\(b=true->∃ L,jZ rules.l s.size.toNat s L)/\∀ L,jZ rules.l s.size.toNat s L->b=sq s.size.toNat L rules.l (SizeOf.sizeOf p) p nm t.l)))):=by
  generalize hR:(fun (o:Out) (h':ag)=>yes (∃ b:Bool,o = .ret (.bool b)/\((∃ e,By rules.l s e/\b=false)\/(gW rules.l s/\(b=true->∃ L,jZ rules.l s.size.toNat s L)/\∀ L,jZ rules.l s.size.toNat s L->b=sq s.size.toNat L rules.l (SizeOf.sizeOf p) p nm t.l))))=R;have bad:∀ e,By rules.l s e->∀ h',R (.ret (.bool false)) h'=true:=fun e he h'=>by rw [<- hR];exact cO.2 ⟨false,rfl,.inl ⟨e,he,rfl⟩⟩
  have fin:gW rules.l s->∀ b:Bool,(b=true->∃ L,jZ rules.l s.size.toNat s L)->(∀ L,jZ rules.l s.size.toNat s L->b=sq s.size.toNat L rules.l (SizeOf.sizeOf p) p nm t.l)->∀ h',R (.ret (.bool b)) h'=true:=fun ho b h1 h2 h'=>by rw [<- hR];exact cO.2 ⟨b,rfl,.inr ⟨ho,h1,h2⟩⟩
  clear hR;refine F.Ea ?_;rw [F.Gd];simp only [cG (dH s),cG (rq p),aq,bA,ag.aV];have g0:((ag.alloc ag.empty (.cells (aB s))).alloc (.cells (dB p))).get 0=some (.cells (aB s)):=by simp [ag.aW,bA]
  have g1:((ag.alloc ag.empty (.cells (aB s))).alloc (.cells (dB p))).get 1=some (.cells (dB p)):=by simp [ag.aW,bA]
  have gn:((ag.alloc ag.empty (.cells (aB s))).alloc (.cells (dB p))).next=2:=rfl
  generalize ((ag.alloc ag.empty (.cells (aB s))).alloc (.cells (dB p)))=H0 at g0 g1 gn ⊢;have l0:ah (some 2) (.ptr 0 0) H0=some (.agg (aB s)):=by rw [ai g0,cQ (cs:=aB s) (n:=2) rfl]
  simp only [l0,aq];refine aj (aC lu iF qu (fun hb h' hf=>?_) (fun a1 a2 a3 h' hf=>?_) (fun a1 a2 a3 a4 h' hf=>?_) fun a1 a2 a3 a4 h' n P A M S B lo ks k D0 m hn n1 ov ic sh sd hf Pw=>?_)
  ·simp only [aS,reduceAdd,reduceEqDiff,reduceIte,ct];simp only [show (!decide ((1:Int)=0))=true from rfl,aF];exact bad 1 (.inl ⟨hb,rfl⟩) h'
  ·simp only [aS,reduceAdd,reduceEqDiff,reduceIte,ct];simp only [show (!decide ((4:Int)=0))=true from rfl,aF];exact bad 4 (.inr ⟨a1,a2,.inl ⟨a3,rfl⟩⟩) h'
  ·simp only [aS,reduceAdd,reduceEqDiff,reduceIte,ct];simp only [show (!decide ((5:Int)=0))=true from rfl,aF];exact bad 5 (.inr ⟨a1,a2,.inr ⟨a3,a4,rfl⟩⟩) h'
  have sV:s.size.toNat=n:=by omega
  have ho:gW rules.l s:=⟨a1,a2,a3,a4⟩
  specialize fin ho;rw [sV] at fin;rw [gn] at Pw;simp only [aS,reduceAdd,reduceEqDiff,reduceIte,ct];simp only [decide_true,Bool.not_true,aE,bD,aS,reduceAdd,reduceEqDiff,reduceIte,ai sh.hP,sh.hl.look];by_cases nx:nm ∈ ax rules.l
  case neg=>
   simp only [ep nx,Bool.not_false,aF];refine fin false (fun h=>by cases h) (fun L hL=>?_) h'
   cases hb:sq n L rules.l (SizeOf.sizeOf p) p nm t.l with
   |false=>rfl
   |true=>exact absurd (SY hL hb).1 nx
  simp only [ey nx,Bool.not_true,aE];refine aj (G1 iF a1 a2 a3 a4 hn n1 ov ic sh sd (fun _ _ _ _ _ _ _ _ _ hk=>PK hk) fun h3 D' L hF hDF v8 Lz Rj Vd=>?_);obtain ⟨o1,o2,o3,o4,o5,o6⟩:=Lz.ord;have p1:h3.get 1=some (.cells (dB p)):=by rw [Rj 1 (by omega),hf 1 (by omega)];exact g1
  have l3:ah (some 3) (.ptr 1 0) h3=some (.agg (dB p)):=by rw [ai p1,cQ (nN p)]
  simp only [aS,reduceAdd,reduceEqDiff,reduceIte,l3];have pv:PvH n P M S B lo rules ks (eL.iter (b7 rules.l) k) D' h3:=⟨⟨A,Lz.hP⟩,Lz.hl,Lz.hS,Lz.hD,by omega,by omega,by omega⟩
  refine aj (Lh n1 iF (fun r hr=>G0 a1 Lz.gI a2 hn a3 a4 sd hr D' v8) _ p (dK _) zH (y:=t) pv (fun h4 _=>.dP (bI jj t)) fun h4 x4=>?_);simp only [gJ];rw [hDF];exact fin _ (fun _=>⟨L,hF⟩) (fun L' hL'=>by rw [hL'.unique hF]) h4
 refine main.frozen (by simp [AV.cN,AV.pure,u7,bI dW,ew,bI jj]) fun o h' ho=>?_;obtain ⟨b,rfl,hb⟩:=cO.1 ho;refine ⟨_,_,rfl,.scalar _ rfl,?_⟩;rcases hb with ⟨e,he,rfl⟩|⟨Vb,h1,h2⟩
 ·exact abz e he
 ·exact GF Vb b h1 h2
def VO(rec:mJ->bQ->List Int->Bool)(hs:List bQ)(r:aR)(vs:List Int):List dD->List mJ->Bool
 |[],ps=>ps.isEmpty
 |c :: cs,ps=>if fQ hs c=true then (match ps with|[]=>false|p :: ps=>rec p c.name (aM vs (aQ r c))&&VO rec hs r vs cs ps) else VO rec hs r vs cs ps
theorem Ll(rec:mJ->bQ->List Int->Bool)(hs:List bQ)(r:aR)(vs:List Int)(ps:List mJ):VO rec hs r vs [] ps=ps.isEmpty:=by cases ps<;>rfl
theorem He(rec:mJ->bQ->List Int->Bool)(hs:List bQ)(r:aR)(vs:List Int)(c:dD)(cs:List dD)(ps:List mJ):VO rec hs r vs (c :: cs) ps=(if fQ hs c=true then (match ps with|[]=>false|p :: ps=>rec p c.name (aM vs (aQ r c))&&VO rec hs r vs cs ps) else VO rec hs r vs cs ps):=by
 cases ps<;>rfl
theorem ru{rec:mJ->bQ->List Int->Bool}{n:Nat}{L:Lk}{hs:List bQ}{r:aR}{vs:List Int}:∀ {cs:List dD} {ps:List mJ},SX rec n L hs r vs cs ps=(cs.all (fun c=>dy n L c (aM vs (aQ r c)))&&VO rec hs r vs cs ps)
 |[],ps=>by rw [Rg,Ll];rfl
 |c :: cs,ps=>by
  rw [G9,He,all_cons,Bool.and_assoc];congr 1;by_cases ha:fQ hs c=true
  ·rw [if_pos ha,if_pos ha]
   cases ps with
   |nil=>simp
   |cons p ps=>
    simp only;rw [ru];cases rec p c.name (aM vs (aQ r c))<;>simp
  ·rw [if_neg ha,if_neg ha];exact ru
theorem SZ{A B:Lk}(h:∀ r ∈ rs,∀ vs,mX n r vs->∀ c ∈ r.body.l,c.kind=0->A c.name (iy n (aM vs (aQ r c)))=B c.name (iy n (aM vs (aQ r c)))):∀ (k:Nat) (p:mJ) (nm:bQ) (t:List Int),sq n A rs k p nm t=sq n B rs k p nm t:=by
 intro k
 induction k with
 |zero=>intro p nm t;rfl
 |succ k ih=>
  intro p nm t;rw [sq,sq];congr 1
  cases hr:rs[p.nE.toNat]? with
  |none=>rfl
  |some r=>
   have lD:=iA hr;have Ku:sq n A rs k=sq n B rs k:=by funext p nm t;exact ih p nm t
   simp only;rw [Ku,ru,ru];by_cases hl:p.eZ.l.length=(varsOf r).length
   ·cases hb:iJ n p.eZ.l with
    |false=>simp
    |true=>
     have:=VH (h r lD p.eZ.l ⟨hl,hb⟩);unfold iz at this;rw [this]
   ·rw [ep hl];simp
set_option maxHeartbeats 4000000 in
theorem er{n:Nat}(n1:1<=n){rules:Sl aR}(Vq:rules.l.length<=60)(iF:∀ r ∈ rules.l,r.kH)(xq:∀ r ∈ rules.l,(varsOf r).length<=12){x:Sl iV}(hx:∀ r ∈ rules.l,kf n r x.l)(zk:∀ r ∈ rules.l,r.args.l.length<=12) :
  ∀ (k:Nat) (p:mJ),SizeOf.sizeOf p<=k->z7 p->∀ {nm:bQ} {y:Sl Int} {h:ag} {K:Out->ag->Bool},
   K (.ret (.bool (sq n (cA x.l) rules.l k p nm y.l))) h=true->Sem TP 79 [an aO 3 rules,an jC 3 x,.int .i64 (n:Int),.str nm,an encI 1 y,.agg (dB p)] h K:=by
 intro k
 induction k with
 |zero=>intro p hk;obtain ⟨a,b,c⟩:=p;simp at hk
 |succ k ihk=>
 intro p hk zH nm y h K hK0;have mN:∀ q ∈ p.parts.l,SizeOf.sizeOf q<=k/\z7 q:=fun q hq=>⟨by have:=mJ.u6 hq;omega,by cases zH with|mk _ _ _ h3=>exact h3 q hq⟩
 have mM:p.parts.l.length<=cu/\p.eZ.l.length<=cu:=by cases zH with|mk _ h1 h2 _=>exact ⟨h2,h1⟩
 refine Sem.data (r:=.bool (sq n (cA x.l) rules.l (k+1) p nm y.l)) ?_ (by simp [AV.cN,AV.pure,bI dW,bI vg,bI jj,u7]) hK0;clear hK0;refine F.Ci ?_;rw [F.Eb];simp only [cG (rq p),aq,bA,ag.aV];have g0:(ag.empty.alloc (.cells (dB p))).get 0=some (.cells (dB p)):=aD _ _;have gn:(ag.empty.alloc (.cells (dB p))).next=1:=rfl
 generalize (ag.empty.alloc (.cells (dB p)))=H at g0 gn ⊢;have lr:ah none (.ptr 0 0) H=some (.int .i64 p.nE):=by rw [ai g0,ja];rfl
 simp only [aS,reduceAdd,reduceEqDiff,reduceIte,lr];by_cases VM:p.nE<0
 ·simp only [ey VM,aF];have:sq n (cA x.l) rules.l (k+1) p nm y.l=false:=by unfold sq;rw [ep (by omega)];rfl
  rw [this];exact c8 rfl
 obtain ⟨i,hi⟩:∃ i:Nat,p.nE=(i:Int):=⟨p.nE.toNat,by omega⟩
 have Zn:p.nE.toNat=i:=by omega
 simp only [ep VM,aE,aS,reduceAdd,reduceEqDiff,reduceIte,lr];by_cases Rh:(rules.l.length:Int)<=p.nE
 ·simp only [ey Rh,aF];have:sq n (cA x.l) rules.l (k+1) p nm y.l=false:=by unfold sq;rw [getElem?_eq_none (by omega:rules.l.length<=p.nE.toNat),Bool.and_false]
  rw [this];exact c8 rfl
 have Lx:i<rules.l.length:=by omega
 have hr:rules.l[i]?=some rules.l[i]:=ec Lx;generalize rules.l[i]=r at hr;have lD:=iA hr;have hf:=iF r lD;have akW:=xq r lD;have pH:r.body.l.length<=cu:=by have:=hf.2.1;unfold cu;omega
 have Z6:sq n (cA x.l) rules.l (k+1) p nm y.l=((r.name==nm)&&(decide (p.eZ.l.length=(varsOf r).length)&&(iJ n p.eZ.l&&(decide (aM p.eZ.l (placesOf (varsOf r) r.args.l)=y.l)&&(iz n (cA x.l) r p.eZ.l&&VO (sq n (cA x.l) rules.l k) (ax rules.l) r p.eZ.l r.body.l p.parts.l))))):=by
  rw [sq,Zn,hr,ey (by omega),Bool.true_and];simp only;rw [ru];rfl
 rw [Z6];clear Z6;rw [hi];simp only [ep (show ¬ (rules.l.length:Int)<=(i:Int) by omega),aE,aS,reduceAdd,reduceEqDiff,reduceIte,lr,hi,aU rules Lx,CL hr]
 cases nx:(r.name==nm) with
 |false=>
  simp only [Bool.not_false,aF,Bool.false_and];exact c8 rfl
 |true=>
 obtain ⟨H2,qX,b2,bo2,bn2⟩:=cR (h:=H) (zs:=[.str [],.au,.au]) (cs:=aO r) (n:=3) rfl rfl (jJ r);rw [gn] at qX b2 bn2;have q0:H2.get 0=some (.cells (dB p)):=by rw [bo2 0 (by omega)];exact g0
 have lrr:ah (some 3) (.ptr 1 0) H2=some (.agg (aO r)):=by rw [ai b2];simp only [aO,om]
 have lvv:ah none (.ptr 0 1) H2=some (an encI 1 p.eZ):=by rw [ai q0,ja];rfl
 have lar:ah none (.ptr 1 1) H2=some (an encS 1 r.args):=by rw [ai b2];rfl
 simp only [Bool.not_true,Bool.true_and,aE,aS,reduceAdd,reduceEqDiff,reduceIte,lr,hi,gn,aU rules Lx,cX ei hr,qX,lrr];refine aj (bU hf fun all fh=>?_);have yJ:all.l.length<=cu:=by rw [fh];unfold cu;omega
 simp only [aS,reduceAdd,reduceEqDiff,reduceIte,lvv,fh,ct];by_cases tI:p.eZ.l.length=(varsOf r).length
 case neg=>
  simp only [ep (show ¬ ((p.eZ.l.length:Nat):Int)=((varsOf r).length:Int) by omega),Bool.not_false,aF,ep tI,Bool.false_and];exact c8 rfl
 simp only [ey (show ((p.eZ.l.length:Nat):Int)=((varsOf r).length:Int) by omega),ey tI,Bool.true_and,Bool.not_true,aE,aS,reduceAdd,reduceEqDiff,reduceIte,lvv];refine aj (iN mM.2 ?_);simp only [aS,reduceAdd,reduceEqDiff,reduceIte]
 cases Lu:iJ n p.eZ.l with
 |false=>
  simp only [Bool.not_false,aF,Bool.false_and];exact c8 rfl
 |true=>
 have akX:mX n r p.eZ.l:=⟨tI,Lu⟩
 have PJ:(placesOf (varsOf r) r.args.l).length=r.args.l.length:=by unfold placesOf;simp
 have hra:=zk r lD;simp only [Bool.not_true,Bool.true_and,aE,aS,reduceAdd,reduceEqDiff,reduceIte,lvv,lar];refine aj (fC (all:=all) (xs:=r.args) (at_:=p.eZ) (by rw [fh];exact pe r) yJ (by omega) (by rw [fh];exact jl) (by rw [fh];exact tI) ?_);simp only [gJ,fh];refine aj (fc (x:=some (aM p.eZ.l (placesOf (varsOf r) r.args.l))) (y:=y) (by show (aM p.eZ.l (placesOf (varsOf r) r.args.l)).length<=cu;rw [fM,PJ];unfold cu;omega) ?_)
 have akZ:(Sl.l (some (aM p.eZ.l (placesOf (varsOf r) r.args.l)))==y.l)=decide (aM p.eZ.l (placesOf (varsOf r) r.args.l)=y.l):=by
  rw [Bool.eq_iff_iff,beq_iff_eq,decide_eq_true_iff];rfl
 rw [akZ];simp only [aS,reduceAdd,reduceEqDiff,reduceIte]
 cases heq:decide (aM p.eZ.l (placesOf (varsOf r) r.args.l)=y.l) with
 |false=>
  simp only [Bool.not_false,aF,Bool.false_and];exact c8 rfl
 |true=>
 simp only [Bool.not_true,Bool.true_and,aE,aS,reduceAdd,reduceEqDiff,reduceIte,lrr,lvv];refine aj (dr n1 hf akW fh akX (hx r lD) ?_);simp only [aS,reduceAdd,reduceEqDiff,reduceIte]
 cases Wl:iz n (cA x.l) r p.eZ.l with
 |false=>
  simp only [Bool.not_false,aF,Bool.false_and];exact c8 rfl
 |true=>
 simp only [Bool.not_true,Bool.true_and,aE];refine aj (dm Vq fun df hdf=>?_);simp only [aS,reduceAdd,reduceEqDiff,reduceIte];have Ct:df.l.length<=cu:=by rw [hdf];have:=mV rules.l;unfold cu;omega
 have Ae:∀ s:bQ,(df.l.any fun z=>z==s)=decide (s ∈ ax rules.l):=fun s=>by rw [hdf,K8,decide_eq_decide];exact dJ rules.l
 refine aG 0 r.body.l.length (zero_le _) (fun m e h'=>∃ j,j<=p.parts.l.length/\h'.get 0=some (.cells (dB p))/\h'.get 1=some (.cells (aO r))/\2<=h'.next/\e 0=an aO 3 rules/\e 1=an jC 3 x/\e 2 = .int .i64 (n:Int)/\e 11 = .ptr 0 0/\e 13 = .ptr 1 0/\e 14=an encS 1 all/\e 15=an encS 1 df/\e 16 = .int .i64 (j:Int)/\e 17 = .int .i64 (m:Int) /\
  VO (sq n (cA x.l) rules.l k) (ax rules.l) r p.eZ.l r.body.l p.parts.l=VO (sq n (cA x.l) rules.l k) (ax rules.l) r p.eZ.l (r.body.l.drop m) (p.parts.l.drop j)) ⟨0,zero_le _,q0,b2,by omega,rfl,rfl,rfl,rfl,rfl,rfl,rfl,rfl,rfl,rfl⟩ ?_ ?_
 ·rintro m e h' _ hm ⟨j,hj,c0,c1,cn,e0,e1,e2,jX,uY,m8,lE,rR,mW,kQ⟩ K' hn S0 yx hp;have hc:r.body.l[m]?=some r.body.l[m]:=ec hm;generalize r.body.l[m]=c at hc;have mu:=iA hc;have hdr:r.body.l.drop m=c :: r.body.l.drop (m+1):=by rw [drop_eq_getElem_cons hm];congr 1;exact Option.some.inj ((ec hm).symm.trans hc)
  rw [hdr,He] at kQ;have hcf:=(hx r lD).conds c mu;have lb:ah none (.ptr 1 2) h'=some (an bR 4 r.body):=by rw [ai c1];rfl
  obtain ⟨H5,hs5,d5,Z8,dn5⟩:=cR (h:=h') (zs:=[.int .i64 0,.bool false,.str [],.au]) (cs:=bR c) (n:=4) rfl rfl (gQ c);have f0:H5.get 0=some (.cells (dB p)):=by rw [Z8 _ (by omega)];exact c0
  have f1:H5.get 1=some (.cells (aO r)):=by rw [Z8 _ (by omega)];exact c1
  have fk:ah none (.ptr h'.next 0) H5=some (.int .i64 c.kind):=by rw [ai d5];rfl
  have fg:ah none (.ptr h'.next 1) H5=some (.bool c.neg):=by rw [ai d5];rfl
  have fm:ah none (.ptr h'.next 2) H5=some (.str c.name):=by rw [ai d5];rfl
  have fa:ah none (.ptr h'.next 3) H5=some (an encS 1 c.args):=by rw [ai d5];rfl
  have fv:ah none (.ptr 0 1) H5=some (an encI 1 p.eZ):=by rw [ai f0,ja];rfl
  have fp:ah none (.ptr 0 2) H5=some (an dB 3 p.parts):=by rw [ai f0,ja];rfl
  have skip:∀ (e':Env),fQ (ax rules.l) c=false->e' 0=an aO 3 rules->e' 1=an jC 3 x->e' 2 = .int .i64 (n:Int)->e' 11 = .ptr 0 0->e' 13 = .ptr 1 0->e' 14=an encS 1 all->e' 15=an encS 1 df->e' 16 = .int .i64 (j:Int)->e' 17 = .int .i64 ((m+1:Nat):Int)->K' .normal ⟨e',145,[],H5⟩=true:=fun e' ha a0 a1 a2 a3 a4 a5 a6 a7 a8=>by
   rw [if_neg (by rw [ha];simp)] at kQ;exact hn _ _ ⟨j,hj,f0,f1,by omega,a0,a1,a2,a3,a4,a5,a6,a7,a8,kQ⟩
  rw [F.er.aT];simp only [uY,mW,aS,reduceAdd,reduceEqDiff,reduceIte,lb,bl hm,aU r.body hm,cX gh hc,hs5];simp only [aS,reduceAdd,reduceEqDiff,reduceIte,fk,ct];by_cases Ot:c.kind=0
  case neg=>
   simp only [ep Ot,Bool.not_false,aF,mW,aK hm pH,aq];exact skip _ (by unfold fQ;rw [ep Ot];simp) e0 e1 e2 jX uY m8 lE rR rfl
  simp only [ey Ot,Bool.not_true,aE,fg,aS,reduceAdd,reduceEqDiff,reduceIte]
  cases Zi:c.neg with
  |true=>
   simp only [aF,mW,aK hm pH,aq];exact skip _ (by unfold fQ;rw [Zi];simp) e0 e1 e2 jX uY m8 lE rR rfl
  |false=>
  simp only [aE,fm,lE,aS,reduceAdd,reduceEqDiff,reduceIte];refine aj (tG Ct ?_);rw [Ae];simp only [aS,reduceAdd,reduceEqDiff,reduceIte];by_cases vt:c.name ∈ ax rules.l
  case neg=>
   simp only [ep vt,Bool.not_false,aF,mW,aK hm pH,aq];exact skip _ (by unfold fQ;rw [ep vt];rfl) e0 e1 e2 jX uY m8 lE rR rfl
  have iQ:fQ (ax rules.l) c=true:=by unfold fQ;rw [ey vt,Zi,ey Ot];rfl
  rw [if_pos iQ] at kQ;simp only [ey vt,Bool.not_true,aE,jX,rR,aS,reduceAdd,reduceEqDiff,reduceIte,fp];by_cases Oy:j=p.parts.l.length
  ·simp only [ey (show ((p.parts.l.length:Nat):Int)<=(j:Int) by omega),aF];rw [yx,F.er.bt];simp only [bg,reduceEqDiff,reduceIte];rw [drop_of_length_le (by omega)] at kQ;rw [kQ];exact c8 rfl
  ·have Li:j<p.parts.l.length:=by omega
   have hq:p.parts.l[j]?=some p.parts.l[j]:=ec Li;have hdj:p.parts.l.drop j=p.parts.l[j] :: p.parts.l.drop (j+1):=drop_eq_getElem_cons Li;rw [hdj] at kQ;generalize p.parts.l[j]=q at hq kQ;have Pv:=iA hq;simp only [ep (show ¬ ((p.parts.l.length:Nat):Int)<=(j:Int) by omega),aE,aS,reduceAdd,reduceEqDiff,reduceIte,jX,m8,rR,fm,fa,fv,fp,aU p.parts Li,cX nN hq];refine aj (fC (all:=all) (xs:=c.args) (at_:=p.eZ) (by rw [fh];exact pe r) yJ (by have:=hcf.arity;omega) (by rw [fh];exact jm mu) (by rw [fh];exact tI) ?_);simp only [aS,reduceAdd,reduceEqDiff,reduceIte,fh,fm,fp,cX nN hq,AV.beq_refl,Bool.and_self,Bool.and_true,if_true,e0,e1,e2];refine aj (ihk q (mN q Pv).1 (mN q Pv).2 (y:=some (aM p.eZ.l (placesOf (varsOf r) c.args.l))) ?_);simp only [aS,reduceAdd,reduceEqDiff,reduceIte];replace kQ:_=(sq n (cA x.l) rules.l k q c.name (aM p.eZ.l (aQ r c))&&_):=kQ
   rw [show Sl.l (some (aM p.eZ.l (placesOf (varsOf r) c.args.l)))=aM p.eZ.l (aQ r c) from rfl]
   cases Ku:sq n (cA x.l) rules.l k q c.name (aM p.eZ.l (aQ r c)) with
   |false=>
    simp only [Bool.not_false,aF];rw [yx,F.er.bt];simp only [bg,reduceEqDiff,reduceIte];rw [Ku,Bool.false_and] at kQ;rw [kQ];exact c8 rfl
   |true=>
    rw [Ku,Bool.true_and] at kQ;simp only [Bool.not_true,aE,rR,mW,aK Li mM.1,aK hm pH,aq];exact hn _ _ ⟨j+1,by omega,f0,f1,by omega,e0,e1,e2,jX,uY,m8,lE,rfl,rfl,kQ⟩
 ·rintro e h' ⟨j,hj,c0,c1,cn,e0,e1,e2,jX,uY,m8,lE,rR,mW,kQ⟩ K' S0;have lb:ah none (.ptr 1 2) h'=some (an bR 4 r.body):=by rw [ai c1];rfl
  have fp:ah none (.ptr 0 2) h'=some (an dB 3 p.parts):=by rw [ai c0,ja];rfl
  rw [F.er.aT];simp only [uY,mW,aS,reduceAdd,reduceEqDiff,reduceIte,lb,aX];rw [S0,F.er.aJ];simp only [bg,reduceEqDiff,reduceIte,jX,rR,fp,aS,reduceAdd,reduceEqDiff,reduceIte,ct];rw [drop_of_length_le (dK _),Ll] at kQ
  have:decide ((j:Int)=(p.parts.l.length:Int))=(p.parts.l.drop j).isEmpty:=by
   rw [Bool.eq_iff_iff,decide_eq_true_iff,isEmpty_iff,drop_eq_nil_iff];omega
  rw [this,<- kQ];exact c8 rfl
abbrev kz:Nat:=20000
def jo(hs:List bQ)(ws:dD->Nat)(cs:List dD):Nat:=((cs.filter (fQ hs)).map ws).sum
theorem vi{hs:List bQ}{f g:dD->Nat}:∀ {cs:List dD},(∀ c ∈ cs,fQ hs c=true->f c<=g c)->jo hs f cs<=jo hs g cs
 |[],_=>dK _
 |c :: cs,h=>by
  have ih:=vi (cs:=cs) fun d hd=>h d (mem_cons_of_mem _ hd);unfold jo at ih ⊢;by_cases ha:fQ hs c=true
  ·rw [filter_cons_of_pos ha,map_cons,map_cons,sum_cons,sum_cons];have:=h c mem_cons_self ha;omega
  ·rw [filter_cons_of_neg ha];exact ih
theorem r9{hs:List bQ}{f:dD->Nat}:∀ {cs:List dD} {c:dD},c ∈ cs->fQ hs c=true->f c<=jo hs f cs
 |d :: cs,c,hc,ha=>by
  unfold jo;rcases mem_cons.1 hc with rfl|hc
  ·rw [filter_cons_of_pos ha,map_cons,sum_cons];omega
  ·have ih:=r9 (f:=f) hc ha;unfold jo at ih;by_cases hd:fQ hs d=true
   ·rw [filter_cons_of_pos hd,map_cons,sum_cons];omega
   ·rw [filter_cons_of_neg hd];exact ih
inductive VP (n:Nat) (L:Lk) (rs:List aR):bQ->List Int->Nat->Prop
 |mk (r:aR) (vs:List Int) (ws:dD->Nat):r ∈ rs->mX n r vs->iz n L r vs=true->(∀ c ∈ r.body.l,fQ (ax rs) c=true->VP n L rs c.name (aM vs (aQ r c)) (ws c)) ->
   VP n L rs r.name (aM vs (placesOf (varsOf r) r.args.l)) (1+jo (ax rs) ws r.body.l)
abbrev Way:=Nat×List Int×Nat
abbrev iI:=bQ->List Int->Option Way
def Ag(T:iI)(nm:bQ)(t:List Int):Nat:=match T nm t with|some y=>y.2.2|none=>kz+1
def eF(T:iI)(r:aR)(vs:List Int)(c:dD):Nat:=Ag T c.name (aM vs (aQ r c))
def vG(T:iI)(hs:List bQ)(r:aR)(vs:List Int):Prop:=∀ c ∈ r.body.l,fQ hs c=true->∃ y,T c.name (aM vs (aQ r c))=some y
structure NB (n:Nat) (L:Lk) (rs:List aR) (T:iI):Prop where
 ok:∀ nm t i vs w,T nm t=some (i,vs,w)->w<=kz/\∃ r,rs[i]?=some r/\r.name=nm/\mX n r vs/\aM vs (placesOf (varsOf r) r.args.l)=t/\iz n L r vs=true/\vG T (ax rs) r vs/\1+jo (ax rs) (eF T r vs) r.body.l<=w
def wh(T:iI)(nm:bQ)(t:List Int)(y:Way):iI:=fun x u=>if x=nm/\u=t then some y else T x u
theorem pz(T:iI)(nm:bQ)(t:List Int)(y:Way):wh T nm t y nm t=some y:=by unfold wh;rw [if_pos ⟨rfl,rfl⟩]
theorem yH{T:iI}{u:List Int}{y:Way}(h:¬ (x=nm/\u=t)):wh T nm t y x u=T x u:=by unfold wh;rw [if_neg h]
theorem Rk{T:iI}{y:Way}(h:y.2.2<=Ag T nm t)(x:bQ)(u:List Int):Ag (wh T nm t y) x u<=Ag T x u:=by
 by_cases e:x=nm/\u=t
 ·obtain ⟨rfl,rfl⟩:=e;unfold Ag;rw [pz];exact h
 ·unfold Ag;rw [yH e];exact dK _
theorem Hf{T:iI}{y:Way}(h:vG T hs r vs):vG (wh T nm t y) hs r vs:=fun c hc ha=>by
 by_cases e:c.name=nm/\aM vs (aQ r c)=t
 ·exact ⟨y,by rw [e.1,e.2];exact pz _ _ _ _⟩
 ·rw [yH e];exact h c hc ha
theorem NB.put{T:iI}(o:NB n L rs T)(hr:rs[i]?=some r)(ha:mX n r vs)(gd:iz n L r vs=true)(hk:vG T (ax rs) r vs)(hw:1+jo (ax rs) (eF T r vs) r.body.l<=kz)
  (eM:1+jo (ax rs) (eF T r vs) r.body.l<Ag T r.name (aM vs (placesOf (varsOf r) r.args.l))):NB n L rs (wh T r.name (aM vs (placesOf (varsOf r) r.args.l)) (i,vs,1+jo (ax rs) (eF T r vs) r.body.l)):=by
 have Qx:=Rk (T:=T) (nm:=r.name) (t:=aM vs (placesOf (varsOf r) r.args.l)) (y:=(i,vs,1+jo (ax rs) (eF T r vs) r.body.l)) (Nat.le_of_lt eM);refine ⟨fun nm t j us w h=>?_⟩;by_cases e:nm=r.name/\t=aM vs (placesOf (varsOf r) r.args.l)
 ·obtain ⟨rfl,rfl⟩:=e;rw [pz] at h;cases h;exact ⟨hw,r,hr,rfl,ha,rfl,gd,Hf hk,by have:=vi (hs:=ax rs) (f:=eF (wh T r.name (aM vs (placesOf (varsOf r) r.args.l)) (i,vs,1+jo (ax rs) (eF T r vs) r.body.l)) r vs) (g:=eF T r vs) (cs:=r.body.l) fun c _ _=>Qx _ _;omega⟩
 ·rw [yH e] at h;obtain ⟨h1,q,h2,h3,h4,h5,h6,h7,h8⟩:=o.ok nm t j us w h;exact ⟨h1,q,h2,h3,h4,h5,h6,Hf h7,by have:=vi (hs:=ax rs) (f:=eF (wh T r.name (aM vs (placesOf (varsOf r) r.args.l)) (i,vs,1+jo (ax rs) (eF T r vs) r.body.l)) q us) (g:=eF T q us) (cs:=q.body.l) fun c _ _=>Qx _ _;omega⟩
theorem NB.proof{T:iI}(o:NB n L rs T):∀ (w:Nat) {nm:bQ} {t:List Int} {i:Nat} {vs:List Int},T nm t=some (i,vs,w)->∃ u,u<=w/\VP n L rs nm t u:=by
 intro w
 induction w using Nat.strongRecOn with
 |_ w ih=>
  intro nm t i vs h;obtain ⟨h1,r,h2,rfl,h4,rfl,h6,h7,h8⟩:=o.ok nm t i vs w h
  have key:∀ c:dD,∃ u,c ∈ r.body.l->fQ (ax rs) c=true->u<=eF T r vs c/\VP n L rs c.name (aM vs (aQ r c)) u:=fun c=>by
   by_cases hc:c ∈ r.body.l/\fQ (ax rs) c=true
   ·obtain ⟨⟨j,us,v⟩,hy⟩:=h7 c hc.1 hc.2;have hv:eF T r vs c=v:=by unfold eF Ag;rw [hy]
    have eM:v<w:=(by have:=r9 (f:=eF T r vs) hc.1 hc.2;rw [hv] at this;omega);obtain ⟨u,hu,hp⟩:=ih v eM hy;exact ⟨u,fun _ _=>⟨by omega,hp⟩⟩
   ·exact ⟨0,fun a b=>absurd ⟨a,b⟩ hc⟩
  refine ⟨1+jo (ax rs) (fun c=>(key c).choose) r.body.l,?_,.mk r vs _ (iA h2) h4 h6 fun c hc ha=>((key c).choose_spec hc ha).2⟩;have:=vi (hs:=ax rs) (f:=fun c=>(key c).choose) (g:=eF T r vs) (cs:=r.body.l) fun c hc ha=>((key c).choose_spec hc ha).1;omega
def vj(n:Nat)(L:Lk)(rs:List aR)(T:iI):Prop:=∀ r ∈ rs,∀ vs,mX n r vs->iz n L r vs=true->vG T (ax rs) r vs->1+jo (ax rs) (eF T r vs) r.body.l<=kz->Ag T r.name (aM vs (placesOf (varsOf r) r.args.l))<=1+jo (ax rs) (eF T r vs) r.body.l
theorem vj.least{T:iI}(hs:vj n L rs T){w:Nat}(h:VP n L rs nm t w):w<=kz->Ag T nm t<=w:=by
 induction h with
 |mk r vs ws hr ha gd hp ih=>
  intro hw;have hc:∀ c ∈ r.body.l,fQ (ax rs) c=true->eF T r vs c<=ws c:=fun c mu Ri=>ih c mu Ri (by have:=r9 (f:=ws) mu Ri;omega);have U6:=vi hc;refine Nat.le_trans (hs r hr vs ha gd (fun c mu Ri=>?_) (by omega)) (by omega);have h1:=hc c mu Ri;have h2:=r9 (f:=ws) mu Ri;unfold eF Ag at h1
  cases hT:T c.name (aM vs (aQ r c)) with
  |some y=>exact ⟨y,rfl⟩
  |none=>rw [hT] at h1;simp only at h1;omega
abbrev uv:=bQ->List Int->Nat
structure S1 (n:Nat) (L:Lk) (rs:List aR) (R:uv):Prop where
 le:∀ nm t,R nm t<=kz+1
 ok:∀ nm t,R nm t<=kz->∃ u,u<=R nm t/\VP n L rs nm t u
def uk(R:uv)(r:aR)(vs:List Int)(c:dD):Nat:=R c.name (aM vs (aQ r c))
def CM(R:uv)(hs:List bQ)(r:aR)(vs:List Int):Nat:=min (1+jo hs (uk R r vs) r.body.l) (kz+1)
def BC(R:uv)(nm:bQ)(t:List Int)(w:Nat):uv:=fun x u=>if x=nm/\u=t then w else R x u
theorem S1.put{R:uv}(o:S1 n L rs R)(hr:r ∈ rs)(ha:mX n r vs)(gd:iz n L r vs=true):S1 n L rs (BC R r.name (aM vs (placesOf (varsOf r) r.args.l)) (CM R (ax rs) r vs)):=by
 refine ⟨fun nm t=>?_,fun nm t h=>?_⟩
 ·unfold BC;by_cases e:nm=r.name/\t=aM vs (placesOf (varsOf r) r.args.l)
  ·rw [if_pos e];exact Nat.min_le_right _ _
  ·rw [if_neg e];exact o.le nm t
 ·unfold BC at h ⊢;by_cases e:nm=r.name/\t=aM vs (placesOf (varsOf r) r.args.l)
  ·rw [if_pos e] at h ⊢;obtain ⟨rfl,rfl⟩:=e;have hw:CM R (ax rs) r vs=1+jo (ax rs) (uk R r vs) r.body.l:=by unfold CM at h ⊢;omega
   rw [hw] at h ⊢
   have key:∀ c:dD,∃ u,c ∈ r.body.l->fQ (ax rs) c=true->u<=uk R r vs c/\VP n L rs c.name (aM vs (aQ r c)) u:=fun c=>by
    by_cases hc:c ∈ r.body.l/\fQ (ax rs) c=true
    ·have:=r9 (f:=uk R r vs) hc.1 hc.2;obtain ⟨u,h1,h2⟩:=o.ok c.name (aM vs (aQ r c)) (by show uk R r vs c<=kz;omega);exact ⟨u,fun _ _=>⟨h1,h2⟩⟩
    ·exact ⟨0,fun a b=>absurd ⟨a,b⟩ hc⟩
   refine ⟨1+jo (ax rs) (fun c=>(key c).choose) r.body.l,?_,.mk r vs _ hr ha gd fun c hc ha=>((key c).choose_spec hc ha).2⟩;have:=vi (hs:=ax rs) (f:=fun c=>(key c).choose) (g:=uk R r vs) (cs:=r.body.l) fun c hc ha=>((key c).choose_spec hc ha).1;omega
  ·rw [if_neg e] at h ⊢;exact o.ok nm t h
def sZ(n:Nat)(L:Lk)(rs:List aR)(R:uv):Prop:=∀ r ∈ rs,∀ vs,mX n r vs->iz n L r vs=true->R r.name (aM vs (placesOf (varsOf r) r.args.l))<=CM R (ax rs) r vs
theorem sZ.least{R:uv}(hs:sZ n L rs R){w:Nat}(h:VP n L rs nm t w):w<=kz->R nm t<=w:=by
 induction h with
 |mk r vs ws hr ha gd hp ih=>
  intro hw;have hc:∀ c ∈ r.body.l,fQ (ax rs) c=true->uk R r vs c<=ws c:=fun c mu Ri=>ih c mu Ri (by have:=r9 (f:=ws) mu Ri;omega);have U6:=vi hc;have:=hs r hr vs ha gd;unfold CM at this;omega
theorem PM{T:iI}{R:uv}(ot:NB n L rs T)(st:vj n L rs T)(or':S1 n L rs R)(sr:sZ n L rs R)(nm:bQ)(t:List Int):(∃ y,T nm t=some y)↔R nm t<=kz:=by
 constructor
 ·rintro ⟨⟨i,vs,w⟩,h⟩;obtain ⟨u,h1,h2⟩:=ot.proof w h;have h3:=(ot.ok _ _ _ _ _ h).1;have:=sr.least h2 (by omega);omega
 ·intro h;obtain ⟨u,h1,h2⟩:=or'.ok nm t h;have h3:=st.least h2 (by omega);unfold Ag at h3
  cases hT:T nm t with
  |some y=>exact ⟨y,rfl⟩
  |none=>rw [hT] at h3;simp only at h3;omega
inductive xQ (T:iI) (rs:List aR):bQ->List Int->mJ->Prop
 |mk (nm:bQ) (t:List Int) (i:Nat) (vs:List Int) (w:Nat) (r:aR) (p:mJ):T nm t=some (i,vs,w)->rs[i]?=some r->p.nE=(i:Int)->p.eZ.l=vs->p.parts.l.length=(r.body.l.filter (fQ (ax rs))).length ->
   (∀ (j:Nat) (c:dD) (q:mJ),(r.body.l.filter (fQ (ax rs)))[j]?=some c->p.parts.l[j]?=some q->xQ T rs c.name (aM vs (aQ r c)) q)->xQ T rs nm t p
theorem PN{rec:mJ->bQ->List Int->Bool}{hs:List bQ}{r:aR}{vs:List Int}:∀ {cs:List dD} {ps:List mJ},ps.length=(cs.filter (fQ hs)).length->(∀ (j:Nat) (c:dD) (q:mJ),(cs.filter (fQ hs))[j]?=some c->ps[j]?=some q->rec q c.name (aM vs (aQ r c))=true)->VO rec hs r vs cs ps=true
 |[],ps,hl,_=>by rw [Ll];simpa using hl
 |c :: cs,ps,hl,h=>by
  rw [He];by_cases ha:fQ hs c=true
  ·rw [if_pos ha];rw [filter_cons_of_pos ha] at hl h
   cases ps with
   |nil=>simp at hl
   |cons q ps=>
    simp only;rw [h 0 c q rfl rfl,Bool.true_and];exact PN (by simpa using hl) fun j d p hd hp=>h (j+1) d p (by simpa using hd) (by simpa using hp)
  ·rw [if_neg ha];rw [filter_cons_of_neg ha] at hl h;exact PN hl h
theorem xQ.abN{T:iI}(o:NB n L rs T)(h:xQ T rs nm t p):∀ k,SizeOf.sizeOf p<=k->sq n L rs k p nm t=true:=by
 induction h with
 |mk nm t i vs w r p hT hr h1 h2 h3 h4 ih=>
  intro k hk
  cases k with
  |zero=>obtain ⟨a,b,c⟩:=p;simp at hk
  |succ k=>
   obtain ⟨_,q,hq,ve,ha,ht,gd,_,_⟩:=o.ok nm t i vs w hT;rw [hr] at hq;obtain rfl:=Option.some.inj hq;rw [sq,show p.nE.toNat=i by omega,hr,ey (by omega),Bool.true_and];simp only [and_eq_true,beq_iff_eq,decide_eq_true_eq];rw [h2];refine ⟨ve,ha.1,ha.2,ht,?_⟩;rw [ru,and_eq_true];refine ⟨gd,PN h3 fun j c q hc hq=>ih j c q hc hq k ?_⟩;have:=mJ.u6 (iA hq);omega
def vI(b:Int):List AV:=[.int .u8 b]
def byteOf(x:Int):UInt8:=UInt8.ofNat (IntKind.u8.wrap x).toNat
def xR(nm:bQ)(t:List Int):bQ:=nm++47 :: t.map byteOf
theorem Hg:∀ l:List Int,bytesOf (l.flatMap vI)=some (l.map fun b=>UInt8.ofNat b.toNat)
 |[]=>rfl
 |b :: l=>by
  rw [flatMap_cons];show (match bytesOf (l.flatMap vI) with|some bs=>some (UInt8.ofNat b.toNat :: bs)|none=>none)=_;rw [Hg l];rfl
theorem JP(b:Int):(vI b).length=1:=rfl
theorem S2(b:Int):bE (vI b)=true:=rfl
theorem PO{a:AV}{l:List Int}(o:Own vI 1 k h a l):jK .string a h=some (.str (l.map fun b=>UInt8.ofNat b.toNat),h):=by
 cases o with
 |nil=>rfl
 |row b l g1 g2 g3=>
  have hl:(l.flatMap vI).length=l.length:=by rw [jh JP];omega
  simp only [jK,jE,if_true,g3,Nat.zero_add,Nat.mul_one,hl,dK,drop_zero];rw [kB (by omega),Hg]
theorem VQ:∀ s:bQ,(s.map fun b=>AV.int .u8 (b.toNat:Int))=(s.map fun b=>(b.toNat:Int)).flatMap vI
 |[]=>rfl
 |b :: s=>by rw [map_cons,map_cons,flatMap_cons,VQ s];rfl
theorem JQ:∀ s:bQ,((s.map fun b=>(b.toNat:Int)).map fun b=>UInt8.ofNat b.toNat)=s
 |[]=>rfl
 |b :: s=>by
  rw [map_cons,map_cons,JQ s];simp
theorem iS{nm:bQ}{t:Sl Int}(hn:nm.length<=1000000)(ht:t.l.length<=1000000){h:ag}{K:Out->ag->Bool}(hK:K (.ret (.str (xR nm t.l))) h=true):Sem TP 71 [.str nm,an encI 1 t] h K:=by
 have hm:dw=140737488355328:=rfl;have hbt:t.l.length<=cu:=by unfold cu;omega
 refine Sem.data (r:=.str (xR nm t.l)) ?_ (by simp [AV.cN,AV.pure,bI jj]) hK;clear hK;refine F.Ic ?_;rw [F.KG];obtain ⟨pre,abO⟩:∃ pre:bQ,pre=nm++[47]:=⟨_,rfl⟩
 have mM:pre.length=nm.length+1:=by rw [abO];simp
 have xk:aL .add (.str nm) (.str [47])=some (.str pre):=by
  have:nm.length+([47]:bQ).length<=4611686018427387904:=by simp;omega
  simp only [aL];rw [if_pos this,abO]
 have AI:jK .bytes (.str pre) ag.empty=some (.slice 0 0 pre.length 1,ag.empty.alloc (.cells (pre.map fun b=>.int .u8 b.toNat))):=by
  simp only [jK];rw [if_pos (by omega)];rfl
 simp only [xk,AI,aS,reduceAdd,reduceEqDiff,reduceIte];have g0:(ag.empty.alloc (.cells (pre.map fun b=>.int .u8 b.toNat))).get 0=some (.cells ((pre.map fun b=>(b.toNat:Int)).flatMap vI)):=by rw [<- VQ];exact aD _ _
 have gn:(ag.empty.alloc (.cells (pre.map fun b=>.int .u8 b.toNat))).next=1:=rfl
 generalize (ag.empty.alloc (.cells (pre.map fun b=>.int .u8 b.toNat)))=H at g0 gn ⊢
 have o0:Own vI 1 0 H (.slice 0 0 pre.length 1) (pre.map fun b=>(b.toNat:Int)):=by
  have:=Own.row (enc:=vI) (sz:=1) (k:=0) (h:=H) 0 (pre.map fun b=>(b.toNat:Int)) (dK _) (by omega) g0
  rwa [length_map] at this
 refine aG 0 t.l.length (zero_le _) (fun i e h'=>∃ a l,Own vI 1 0 h' a l/\l=(pre.map fun b=>(b.toNat:Int))++(t.l.take i).map (fun x=>IntKind.u8.wrap x)/\e 5=a/\e 11=an encI 1 t/\e 12 = .int .i64 (t.l.length:Int)/\e 13 = .int .i64 (i:Int)) ⟨_,_,o0,by simp,rfl,rfl,rfl,rfl⟩ ?_ ?_
 ·rintro i e h' _ hi ⟨a,l,o,hl,e5,jX,oX,uY⟩ K' wj hx hr hp;have hv:t.l[i]?=some t.l[i]:=ec hi;generalize t.l[i]=x at hv
  have Sb:l.length<=2000002:=by
   rw [hl];simp only [length_append,length_map,length_take];omega
  obtain ⟨a',h2,p1,p2,p3,p4,p5,p6⟩:=o.push JP S2 (zero_le _) (bytes:=1) (by rw [hm];omega) (IntKind.u8.wrap x);have hcx:jK (.int .u8) (.int .i64 x) h'=some (.int .u8 (IntKind.u8.wrap x),h'):=rfl;have jV:ig [.int .u8 0] [(0,1)] [.int .u8 (IntKind.u8.wrap x)]=some (vI (IntKind.u8.wrap x)):=rfl;rw [F.iS.aT];simp only [e5,jX,oX,uY,aS,reduceAdd,reduceEqDiff,reduceIte,bl hi,aU t hi,fS hv,hcx,jV,p1,aK hi hbt];refine wj _ _ ⟨a',_,p2,?_,rfl,jX,oX,rfl⟩;rw [hl,take_add_one,hv,append_assoc,map_append];rfl
 ·rintro e h' ⟨a,l,o,hl,e5,jX,oX,uY⟩ K' hx;rw [F.iS.aT];simp only [oX,uY,aS,reduceAdd,reduceEqDiff,reduceIte,aX];rw [hx,F.iS.aJ];simp only [bg,reduceEqDiff,reduceIte,e5,PO o,iL]
  have:(l.map fun b=>UInt8.ofNat b.toNat)=xR nm t.l:=by
   rw [hl,kB (dK _),map_append,JQ,List.map_map];unfold xR;rw [abO,append_assoc];rfl
  rw [this];exact c8 rfl
theorem xS(hn:nm.length<=1000000)(ht:vs.length<=1000000)(hV:h.get V=some (.cells (vs.map iv)))(hK:K (.ret (.str (xR nm vs))) h=true):Sem TP 71 [.str nm,.slice V 0 vs.length 1] h K:=
 Sem.MH rfl (iS hn (t:=some vs) ht (h:=ag.empty) (K:=qm (.str (xR nm vs))) (c8 rfl)) (kD.cons (.scalar _ rfl) (kD.cons (og hV) .nil)) hK
theorem Hh(hP:h.get P=some (.cells [an aO 3 rules,.map A,.map M]))(QI:P<h.next)(hl:fZ (ax rules.l) h M ks lv)(UD:M<h.next)
  (hK:∀ h',bG h h'->K (.ret (.bool (fQ (ax rules.l) c))) h'=true):Sem TP 126 [.ptr P 0,.agg (bR c)] h K:=by
 refine F.uS ?_;rw [F.vV];simp only [cG (gQ c),aq];have g0:(h.alloc (.cells (bR c))).get h.next=some (.cells (bR c)):=aD _ _
 have gx:bG h (h.alloc (.cells (bR c))):=bG.alloc _ _;generalize (h.alloc (.cells (bR c)))=H at g0 gx ⊢;have hP':H.get P=some (.cells [an aO 3 rules,.map A,.map M]):=by rw [gx.get _ QI];exact hP
 have DG:=hl.eW (gx.get _ UD);have fk:ah none (.ptr h.next 0) H=some (.int .i64 c.kind):=by rw [ai g0];rfl
 have fg:ah none (.ptr h.next 1) H=some (.bool c.neg):=by rw [ai g0];rfl
 have fm:ah none (.ptr h.next 2) H=some (.str c.name):=by rw [ai g0];rfl
 simp only [bD,aS,reduceAdd,reduceEqDiff,reduceIte,ai hP',fm,DG.look];have wL:=hK H gx;unfold fQ at wL;by_cases vt:c.name ∈ ax rules.l
 ·simp only [ey vt,aF,fg,aS,reduceAdd,reduceEqDiff,reduceIte] at wL ⊢
  cases Zi:c.neg with
  |true=>rw [Zi] at wL;simp only [Bool.not_true,aE,Bool.true_and,Bool.false_and] at wL ⊢;exact wL
  |false=>
   rw [Zi] at wL;simp only [Bool.not_false,aF,Bool.true_and,fk,aS,reduceAdd,reduceEqDiff,reduceIte,ct] at wL ⊢;exact wL
 ·simp only [ep vt,aE,Bool.false_and] at wL ⊢;exact wL
theorem gy{n:Nat}{L:Lk}{rs:List aR}{T:iI}(o:NB n L rs T){nm:bQ}{t:List Int}{p:mJ}(hb:xQ T rs nm t p):z7 p->∀ {h:ag} {K:Out->ag->Bool},(∀ m:Nat,1<=m->m<=Ag T nm t->K (.ret (.int .i64 (m:Int))) h=true)->Sem TP 25 [.agg (dB p),.int .i64 20000] h K:=by
 induction hb with
 |mk nm t i vs w r p hT hr h1 h2 h3 h4 ih=>
 intro zH h K hK;obtain ⟨hw,q,hq,ve,ha,ht,gd,hkn,U6⟩:=o.ok nm t i vs w hT;rw [hr] at hq;obtain rfl:=Option.some.inj hq;have hwt:Ag T nm t=w:=by unfold Ag;rw [hT]
 have hmp:kz=20000:=rfl;rw [hwt] at hK;have mM:p.parts.l.length<=cu:=by cases zH with|mk _ _ h _=>exact h
 have hpq:∀ q ∈ p.parts.l,z7 q:=by cases zH with|mk _ _ _ h=>exact h
 generalize Rv:r.body.l.filter (fQ (ax rs))=fl at h3 h4 ih;have am0:1+(fl.map (eF T r vs)).sum<=w:=by rw [<- Rv];exact U6
 have main:Sem TP 25 [.agg (dB p),.int .i64 20000] ag.empty (fun o h'=>yes (∃ m:Nat,o = .ret (.int .i64 (m:Int))/\1<=m/\m<=w)):=by
  refine F.Cg ?_;rw [F.D9];simp only [cG (rq p),aq,bA];have g0:(ag.empty.alloc (.cells (dB p))).get 0=some (.cells (dB p)):=aD _ _;generalize (ag.empty.alloc (.cells (dB p)))=H at g0 ⊢;have l2:ah none (.ptr 0 2) H=some (an dB 3 p.parts):=by rw [ai g0,ja];rfl
  have VS:∀ j,((fl.take j).map (eF T r vs)).sum<=(fl.map (eF T r vs)).sum:=fun j=>by
   have:(fl.map (eF T r vs)).sum=((fl.take j).map (eF T r vs)).sum+((fl.drop j).map (eF T r vs)).sum:=by
    rw [<- sum_append,<- map_append,take_append_drop]
   omega
  refine aG 0 p.parts.l.length (zero_le _) (fun j e h'=>∃ m:Nat,h'=H/\1<=m/\m<=1+((fl.take j).map (eF T r vs)).sum/\e 1 = .int .i64 20000/\e 2 = .ptr 0 0/\e 5 = .int .i64 (m:Int)/\e 6 = .int .i64 (j:Int)) ⟨1,rfl,dK _,by simp,rfl,rfl,rfl,rfl⟩ ?_ ?_
  ·rintro j e h' _ hj ⟨m,rfl,m1,m2,e1,e2,e5,e6⟩ K' hn hx yx hp;have hq:p.parts.l[j]?=some p.parts.l[j]:=ec hj;generalize p.parts.l[j]=q at hq;have Pv:=iA hq;have hc:fl[j]?=some (fl[j]'(by omega)):=ec _;generalize fl[j]'(by omega)=c at hc;have hmw:m<=20000:=by have:=VS j;omega
   rw [F.gy.aT];simp only [e1,e2,e5,e6,aS,reduceAdd,reduceEqDiff,reduceIte,l2,bl hj,ey (show (m:Int)<=20000 by omega),aU p.parts hj,cX nN hq];refine aj (ih j c q hc hq (hpq q Pv) fun m' a b=>?_)
   have ej:((fl.take (j+1)).map (eF T r vs)).sum=((fl.take j).map (eF T r vs)).sum+eF T r vs c:=by
    rw [take_add_one,hc,map_append,sum_append];simp
   have fY:m'<=eF T r vs c:=b;have:=VS (j+1);simp only [aS,reduceAdd,reduceEqDiff,reduceIte,e5,e6,je (a:=(m:Int)) (b:=(m':Int)) (by omega) (by omega),aK hj mM];exact hn _ _ ⟨m+m',rfl,by omega,by omega,e1,e2,rfl,rfl⟩
  ·rintro e h' ⟨m,rfl,m1,m2,e1,e2,e5,e6⟩ K' hx;rw [F.gy.aT];simp only [e2,e6,aS,reduceAdd,reduceEqDiff,reduceIte,l2,aX];rw [hx,F.gy.aJ];simp only [bg,reduceEqDiff,reduceIte,e5];have:=VS p.parts.l.length;exact cO.2 ⟨m,rfl,m1,by omega⟩
 refine main.frozen (by simp [AV.cN,AV.pure,u7]) fun o h' ho=>?_;obtain ⟨m,rfl,a,b⟩:=cO.1 ho;exact ⟨_,_,rfl,.scalar _ rfl,hK m a b⟩
def BD(nm:bQ)(t:List Int):Prop:=(47:UInt8) ∉ nm/\iJ 64 t=true
theorem PR{x y:Int}(hx:0<=x/\x<64)(hy:0<=y/\y<64)(h:byteOf x=byteOf y):x=y:=by
 unfold byteOf at h;rw [IntKind.wrap_u8,IntKind.wrap_u8] at h;have h1:=congrArg UInt8.toNat h;simp only [UInt8.toNat_ofNat'] at h1;omega
theorem key_inj{KQ:bQ}{t':List Int}(h1:BD nm t)(h2:BD KQ t')(h:xR nm t=xR KQ t'):nm=KQ/\t=t':=by
 have aux:∀ (a b u v:bQ),(47:UInt8) ∉ a->(47:UInt8) ∉ b->a++47 :: u=b++47 :: v->a=b/\u=v:=by
  intro a
  induction a with
  |nil=>
   intro b u v _ hb h
   cases b with
   |nil=>simp at h;exact ⟨rfl,h⟩
   |cons y b=>simp at h;exact absurd (by rw [h.1];exact mem_cons_self) hb
  |cons x a ih=>
   intro b u v ha hb h
   cases b with
   |nil=>simp at h;exact absurd (by rw [<- h.1];exact mem_cons_self) ha
   |cons y b=>
    simp at h;obtain ⟨p,q⟩:=ih b u v (fun hm=>ha (mem_cons_of_mem _ hm)) (fun hm=>hb (mem_cons_of_mem _ hm)) h.2;exact ⟨by rw [h.1,p],q⟩
 obtain ⟨p,q⟩:=aux nm KQ _ _ h1.1 h2.1 h;refine ⟨p,?_⟩
 have el:∀ (t t':List Int),iJ 64 t=true->iJ 64 t'=true->t.map byteOf=t'.map byteOf->t=t':=by
  intro t
  induction t with
  |nil=>intro t' _ _ h;cases t' with|nil=>rfl|cons=>cases h
  |cons x t ih=>
   intro t' hb fY h
   cases t' with
   |nil=>cases h
   |cons y t'=>
    simp only [map_cons,List.cons.injEq] at h;unfold iJ at hb fY ih;simp only [all_cons,and_eq_true,not_eq_true',decide_eq_false_iff_not] at hb fY;rw [PR (by omega) (by omega) h.1,ih t' hb.2 fY.2 h.2]
 exact el t t' h1.2 h2.2 q
def qC(b:Nat)(y:Way):AV:=.agg [.int .i64 (y.1:Int),.slice b 0 y.2.1.length 1,.int .i64 (y.2.2:Int)]
structure jI (X:Nat->Prop) (T:iI) (h:ag) (Wb:Nat):Prop where
 ex:∃ (es:List Entry) (ck:Nat) (m:nW) (B:bQ->List Int->Nat),h.get Wb=some (.map es ck)/\kq es ck/\qL es m/\(∀ nm t,BD nm t->m.find (xR nm t)=(T nm t).map (qC (B nm t))) /\
  ∀ nm t y,BD nm t->T nm t=some y->X (B nm t)/\B nm t<h.next/\B nm t≠Wb/\h.get (B nm t)=some (.cells (y.2.1.map iv))
 lt:Wb<h.next
theorem jI.eW{T:iI}{h':ag}(w:jI X T h Wb)(hW:h'.get Wb=h.get Wb)(hx:∀ b,X b->b<h.next->h'.get b=h.get b)(hn:h.next<=h'.next):jI X T h' Wb:=by
 obtain ⟨⟨es,ck,m,B,h1,hB,h2,h3,h4⟩,hl⟩:=w;refine ⟨⟨es,ck,m,B,by rw [hW];exact h1,hB,h2,h3,fun nm t y hk hy=>?_⟩,by omega⟩;obtain ⟨a,b,c,d⟩:=h4 nm t y hk hy;exact ⟨a,by omega,c,by rw [hx _ a b];exact d⟩
theorem jI.ext{T:iI}{h':ag}(w:jI X T h Wb)(hx:bG h h'):jI X T h' Wb:=w.eW (hx.get _ w.lt) (fun b _ hb=>hx.get b hb) hx.next
theorem NC{es:List Entry}{ck:Nat}{m:nW}(hb:h.get b=some (.map es ck))(hm:qL es m)(z:AV)(k:bQ) :
  dc .string z true (.map b) (.str k) h=some (.tuple [(m.find k).getD z,.bool (m.find k).isSome]):=by
 obtain ⟨r,hr,oE⟩:=qL.jB (k:=k) 0 hm;simp only [dc,lH,hb,pK,pJ,if_true,hr]
 cases r with
 |none=>simp at oE;simp [oE]
 |some jv=>
  obtain ⟨n,_,b,_⟩:=oE;obtain ⟨j,v⟩:=jv;simp [b]
theorem jI.look{T:iI}(w:jI X T h Wb)(hk:BD nm t)(z:AV) :
  (T nm t=none/\dc .string z true (.map Wb) (.str (xR nm t)) h=some (.tuple [z,.bool false])) \/
   ∃ y b,T nm t=some y/\X b/\b<h.next/\h.get b=some (.cells (y.2.1.map iv))/\dc .string z true (.map Wb) (.str (xR nm t)) h=some (.tuple [qC b y,.bool true]):=by
 obtain ⟨es,ck,m,B,h1,hB,h2,h3,h4⟩:=w.ex;rw [NC h1 h2,h3 nm t hk]
 cases hT:T nm t with
 |none=>exact .inl ⟨rfl,rfl⟩
 |some y=>
  obtain ⟨a,b,c,d⟩:=h4 nm t y hk hT;exact .inr ⟨y,B nm t,rfl,a,b,d,rfl⟩
def abP(T:iI)(hs:List bQ)(r:aR)(vs:List Int)(m:Nat):Prop:=
 (vG T hs r vs/\m=1+jo hs (eF T r vs) r.body.l)\/(kz<m/\m<=100000/\¬ (vG T hs r vs/\1+jo hs (eF T r vs) r.body.l<=kz))
theorem JR{f:dD->Nat}{cs:List dD}(hc:cs[i]?=some c):jo hs f (cs.take (i+1))=jo hs f (cs.take i)+if fQ hs c=true then f c else 0:=by
 unfold jo;rw [take_add_one,hc,toList_some,filter_append,map_append,sum_append];by_cases ha:fQ hs c=true
 ·rw [if_pos ha,filter_cons_of_pos ha];simp
 ·rw [if_neg ha,filter_cons_of_neg ha];simp
theorem S3{f:dD->Nat}(cs:List dD)(i:Nat):jo hs f (cs.take i)<=jo hs f cs:=by
 have:jo hs f cs=jo hs f (cs.take i)+jo hs f (cs.drop i):=by
  unfold jo;rw [<- sum_append,<- map_append,<- filter_append,take_append_drop]
 omega
set_option maxHeartbeats 2000000 in
theorem ND{T:iI}{nv:Int}(ov:n<=64)(hf:r.kH)(uq:cs.l.map Sl.l=r.body.l.map (fun c=>iH (varsOf r) c.args.l))
  (hP:h.get P=some (.cells [an aO 3 rules,.map A,.map M])) (QI:P<h.next) (hl:fZ (ax rules.l) h M ks lv) (UD:M<h.next) (hB:h.get Bb=some (.cells [.ptr P 0,.map Wb])) (hBn:Bb<h.next) (hV:h.get V=some (.cells (vs.map iv))) (Ls:V<h.next) (ha:mX n r vs) (hw:jI X T h Wb)
  (nx:∀ c ∈ r.body.l,fQ (ax rules.l) c=true->(47:UInt8) ∉ c.name/\c.name.length<=1000) (Cp:∀ c ∈ r.body.l,c.args.l.length<=1500) (HH:∀ nm t y,T nm t=some y->y.2.2<=kz)
  (hK:∀ (m:Nat) h',bG h h'->abP T (ax rules.l) r vs m->K (.ret (.int .i64 (m:Int))) h'=true):Sem TP 125 [.ptr Bb 0,.agg (bu i0 r nv (an encI 1 hd) (an eu 1 cs) (an encI 1 ls)),.slice V 0 vs.length 1] h K:=by
 have pH:r.body.l.length<=cu:=by have:=hf.2.1;unfold cu;omega
 have hmp:kz=20000:=rfl;have BF:cs.l.length=r.body.l.length:=by have:=congrArg List.length uq;simpa using this
 refine F.tV ?_;rw [F.uR];simp only [cG (uj i0 r nv hd cs ls),aq];have g0:(h.alloc (.cells (bu i0 r nv (an encI 1 hd) (an eu 1 cs) (an encI 1 ls)))).get h.next=some (.cells (bu i0 r nv (an encI 1 hd) (an eu 1 cs) (an encI 1 ls))):=aD _ _
 have gx:bG h (h.alloc (.cells (bu i0 r nv (an encI 1 hd) (an eu 1 cs) (an encI 1 ls)))):=bG.alloc _ _;have gn:(h.alloc (.cells (bu i0 r nv (an encI 1 hd) (an eu 1 cs) (an encI 1 ls)))).next=h.next+1:=rfl
 generalize (h.alloc (.cells (bu i0 r nv (an encI 1 hd) (an eu 1 cs) (an encI 1 ls))))=H at g0 gx gn ⊢;simp only [bu] at g0;simp only [aS,reduceAdd,reduceEqDiff,reduceIte,ai g0]
 refine aG 0 r.body.l.length (zero_le _) (fun i e h'=>∃ m:Nat,bG H h'/\(((∀ c ∈ r.body.l.take i,fQ (ax rules.l) c=true->∃ y,T c.name (aM vs (aQ r c))=some y)/\m=1+jo (ax rules.l) (eF T r vs) (r.body.l.take i)/\m<=40000)\/(kz<m/\m<=40000/\¬ (vG T (ax rules.l) r vs/\1+jo (ax rules.l) (eF T r vs) r.body.l<=kz))) /\
  e 0 = .ptr Bb 0/\e 2 = .slice V 0 vs.length 1/\e 4 = .ptr h.next 0/\e 7 = .int .i64 (m:Int)/\e 14=an bR 4 r.body/\e 15 = .int .i64 (r.body.l.length:Int)/\e 16 = .int .i64 (i:Int)) ⟨1,bG.refl _,.inl ⟨fun c hc=>(by simp at hc),rfl,by omega⟩,rfl,rfl,rfl,rfl,rfl,rfl,rfl⟩ ?_ ?_
 ·rintro i e h' _ hi ⟨m,hx,hm,e0,e2,e4,e7,m8,lE,rR⟩ K' hn S0 hr hp;have hc:r.body.l[i]?=some r.body.l[i]:=ec hi;generalize r.body.l[i]=c at hc;have mu:=iA hc;have jG:=hx.next
  obtain ⟨H5,hs5,d5,Z8,dn5⟩:=cR (h:=h') (zs:=[.int .i64 0,.bool false,.str [],.au]) (cs:=bR c) (n:=4) rfl rfl (gQ c);have x5:bG h' H5:=⟨by omega,fun b hb=>Z8 b (by omega)⟩
  have xh5:=(gx.trans hx).trans x5;have f0:H5.get Bb=some (.cells [.ptr P 0,.map Wb]):=by rw [xh5.get _ hBn];exact hB
  have fP:H5.get P=some (.cells [an aO 3 rules,.map A,.map M]):=by rw [xh5.get _ QI];exact hP
  have fl:=hl.eW (xh5.get _ UD);have hx5:=xh5.next
  have l5:ah (some 4) (.ptr h'.next 0) H5=some (.agg (bR c)):=by rw [ai d5,cQ (gh c)]
  rw [F.cT.aT];simp only [e0,m8,lE,rR,aS,reduceAdd,reduceEqDiff,reduceIte,bl hi,aU r.body hi,cX gh hc,hs5];simp only [aS,reduceAdd,reduceEqDiff,reduceIte,bD,ai f0,l5];refine aj (Hh fP (by omega) fl (by omega) fun h6 x6=>?_);have xh6:=xh5.trans x6;have hn6:=x6.next
  have hgn:=gx.next
  have xH6:bG H h6:=(hx.trans x5).trans x6;have ej:=JR (hs:=ax rules.l) (f:=eF T r vs) hc
  have Km:∀ d ∈ r.body.l.take (i+1),d ∈ r.body.l.take i\/d=c:=fun d hd=>by
   rw [take_add_one,hc,mem_append] at hd;simpa using hd
  simp only [aS,reduceAdd,reduceEqDiff,reduceIte]
  cases iQ:fQ (ax rules.l) c with
  |false=>
   rw [iQ,if_neg (by simp),Nat.add_zero] at ej;simp only [Bool.not_false,aF,rR,aK hi pH,aq];refine hn _ _ ⟨m,xH6,?_,e0,e2,e4,e7,m8,lE,rfl⟩;rcases hm with ⟨a,b,d⟩|hm
   ·refine .inl ⟨fun d hd hda=>?_,by rw [ej];exact b,d⟩;rcases Km d hd with hd|rfl
    ·exact a d hd hda
    ·rw [iQ] at hda;cases hda
   ·exact .inr hm
  |true=>
  rw [iQ,if_pos rfl] at ej;simp only [Bool.not_true,aE,e7,aS,reduceAdd,reduceEqDiff,reduceIte];by_cases j8:m<=20000
  case neg=>
   simp only [ey (show (20000:Int)<(m:Int) by omega),aF,rR,aK hi pH,aq];refine hn _ _ ⟨m,xH6,.inr ⟨by omega,by rcases hm with ⟨_,_,d⟩|⟨_,d,_⟩<;>exact d,?_⟩,e0,e2,e4,e7,m8,lE,rfl⟩;rcases hm with ⟨a,b,d⟩|⟨_,_,hm⟩
   ·rintro ⟨_,g⟩;have:=S3 (hs:=ax rules.l) (f:=eF T r vs) r.body.l i;omega
   ·exact hm
  have oE:(∀ c ∈ r.body.l.take i,fQ (ax rules.l) c=true->∃ y,T c.name (aM vs (aQ r c))=some y)/\m=1+jo (ax rules.l) (eF T r vs) (r.body.l.take i):=by
   rcases hm with ⟨a,b,_⟩|⟨g,_⟩
   ·exact ⟨a,b⟩
   ·omega
  have fB6:h6.get Bb=some (.cells [.ptr P 0,.map Wb]):=by rw [xh6.get _ hBn];exact hB
  have d6:h6.get h'.next=some (.cells (bR c)):=by rw [x6.get _ (by omega)];exact d5
  have g6:=g0;rw [<- xH6.get _ (by omega)] at g6;have fm:ah none (.ptr h'.next 2) h6=some (.str c.name):=by rw [ai d6];rfl
  have UT:i<cs.l.length:=by omega
  have jV:cs.l[i]?=some cs.l[i]:=ec UT
  have Bl:(cs.l[i]).l=(aQ r c).map fun (p:Nat)=>(p:Int):=by
   have h3:(cs.l.map Sl.l)[i]?=some (iH (varsOf r) c.args.l):=by rw [uq,getElem?_map,hc];rfl
   rw [getElem?_map,jV] at h3;exact Option.some.inj h3
  generalize cs.l[i]=xi at jV Bl;have BB:(aQ r c).length=c.args.l.length:=by unfold aQ placesOf;simp
  have mM:∀ p ∈ aQ r c,p<vs.length:=by rw [ha.1];exact hG (jm mu)
  obtain ⟨VT,hnl⟩:=nx c mu iQ;have h15:=Cp c mu;have z0:(h6.alloc (.cells [.int .i64 0,.au,.int .i64 0])).get h6.next=some (.cells [.int .i64 0,.au,.int .i64 0]):=aD _ _
  have zx:bG h6 (h6.alloc (.cells [.int .i64 0,.au,.int .i64 0])):=bG.alloc _ _;have zn:(h6.alloc (.cells [.int .i64 0,.au,.int .i64 0])).next=h6.next+1:=rfl
  simp only [ep (show ¬ (20000:Int)<(m:Int) by omega),aE,bD,e0,e2,e4,rR,aS,reduceAdd,reduceEqDiff,reduceIte,ai fB6,fm,ai g6,aU cs UT,ke jV];generalize (h6.alloc (.cells [.int .i64 0,.au,.int .i64 0]))=H7 at z0 zx zn ⊢;have xh7:=xh6.trans zx;have V7:H7.get V=some (.cells (vs.map iv)):=by rw [xh7.get _ Ls];exact hV
  have hx7:=xh7.next
  refine aj (Bh (ps:=aQ r c) V7 (by omega) rfl Bl mM (by rw [BB];omega) fun h8 t1 x8 t2=>?_);have xh8:=xh7.trans x8;have hn8:=x8.next
  have B8:h8.get Bb=some (.cells [.ptr P 0,.map Wb]):=by rw [xh8.get _ hBn];exact hB
  have d8:h8.get h'.next=some (.cells (bR c)):=by rw [x8.get _ (by omega),zx.get _ (by omega)];exact d6
  have fm8:ah none (.ptr h'.next 2) h8=some (.str c.name):=by rw [ai d8];rfl
  have z8:h8.get h6.next=some (.cells [.int .i64 0,.au,.int .i64 0]):=by rw [x8.get _ (by omega)];exact z0
  have tI:=fM vs (aQ r c);simp only [aS,reduceAdd,reduceEqDiff,reduceIte,fm8,ai B8,AV.beq_refl,Bool.and_self,Bool.and_true,if_true];rw [<- tI];refine aj (xS (by omega) (by rw [tI,BB];omega) t1 ?_)
  have mN:iJ 64 (aM vs (aQ r c))=true:=by
   have h1:=iD ha.2 mM;unfold iJ at h1 ⊢;rw [List.all_eq_true] at h1 ⊢;intro z hz;have h2:=h1 z hz;simp at h2 ⊢;omega
  have w8:=hw.ext xh8;have hx8:=xh8.next
  rcases w8.look ⟨VT,mN⟩ (.agg [.int .i64 0,.au,.int .i64 0]) with ⟨hT,BI⟩|⟨y,b,hT,hXb,IJ,Z9,BI⟩
  ·have ic:bh 3 (.ptr h6.next 0) (.agg [.int .i64 0,.au,.int .i64 0]) h8=some (h8.set h6.next (.cells [.int .i64 0,.au,.int .i64 0])):=by
    rw [cJ (n:=3) (v:=.agg [.int .i64 0,.au,.int .i64 0]) z8 rfl rfl (by simp)];rfl
   simp only [aS,reduceAdd,reduceEqDiff,reduceIte,ai B8,AV.beq_refl,Bool.and_self,Bool.and_true,if_true,BI,ic,Bool.not_false,aF];rw [hr,F.cT.bt];simp only [bg,reduceEqDiff,reduceIte];refine hK 20001 _ (xh8.set (by omega) _) (.inr ⟨by omega,by omega,?_⟩);rintro ⟨g,_⟩;obtain ⟨y,hy⟩:=g c mu iQ;rw [hT] at hy;cases hy
  ·have hcw:eF T r vs c=y.2.2:=by unfold eF Ag;rw [hT]
   have hym:=HH _ _ _ hT
   have ic:bh 3 (.ptr h6.next 0) (qC b y) h8=some (h8.set h6.next (.cells [.int .i64 (y.1:Int),.slice b 0 y.2.1.length 1,.int .i64 (y.2.2:Int)])):=by
    unfold qC;rw [cJ (n:=3) (v:=.agg [.int .i64 (y.1:Int),.slice b 0 y.2.1.length 1,.int .i64 (y.2.2:Int)]) z8 rfl rfl (by simp)];rfl
   have RM:ah none (.ptr h6.next 2) (h8.set h6.next (.cells [.int .i64 (y.1:Int),.slice b 0 y.2.1.length 1,.int .i64 (y.2.2:Int)]))=some (.int .i64 (y.2.2:Int)):=by
    rw [ai (cs:=[.int .i64 (y.1:Int),.slice b 0 y.2.1.length 1,.int .i64 (y.2.2:Int)]) (by rw [ag.aP,if_pos rfl])];rfl
   simp only [aS,reduceAdd,reduceEqDiff,reduceIte,ai B8,AV.beq_refl,Bool.and_self,Bool.and_true,if_true,BI,ic,RM,Bool.not_true,aE,e7,rR,je (a:=(m:Int)) (b:=(y.2.2:Int)) (by omega) (by omega),aK hi pH];refine hn _ _ ⟨m+y.2.2,((xH6.trans zx).trans x8).set (by omega) _,.inl ⟨fun d hd hda=>?_,?_,by omega⟩,e0,e2,e4,rfl,m8,lE,rfl⟩
   ·rcases Km d hd with hd|rfl
    ·exact oE.1 d hd hda
    ·exact ⟨y,hT⟩
   ·rw [ej,hcw,oE.2];omega
 ·rintro e h' ⟨m,hx,hm,e0,e2,e4,e7,m8,lE,rR⟩ K' S0;rw [F.cT.aT];simp only [lE,rR,aS,reduceAdd,reduceEqDiff,reduceIte,aX];rw [S0,F.cT.aJ];simp only [bg,reduceEqDiff,reduceIte,e7];rw [kB (dK _)] at hm;refine hK m h' (gx.trans hx) ?_;rcases hm with ⟨a,b,_⟩|⟨a,b,d⟩
  ·exact .inl ⟨a,b⟩
  ·exact .inr ⟨a,by omega,d⟩
theorem Rl:∀ vs:List Int,bE (vs.map iv)=true
 |[]=>rfl
 |v :: vs=>by
  rw [map_cons];show ((iv v).one&&bE (vs.map iv))=true;rw [Rl vs];rfl
theorem CN(hV:h.get V=some (.cells (vs.map iv)))(Ls:V<h.next)(hl:vs.length<=1000000)
  (hK:∀ b h',h.next<=b->b<h'.next->h'.get b=some (.cells (vs.map iv))->bG h h'->K (.ret (.slice b 0 vs.length 1)) h'=true):Sem TP 111 [.slice V 0 vs.length 1] h K:=by
 have hm:dw=140737488355328:=rfl;refine F.rL ?_;rw [F.sx];have he:jU (.slice 3) (.slice V 0 vs.length 1) .au=some (.bool false):=rfl;have g1:(h.alloc (.cells [])).get h.next=some (.cells []):=aD _ _
 have gV:(h.alloc (.cells [])).get V=some (.cells (vs.map iv)):=by rw [ag.aW,if_neg (by omega)];exact hV
 have gx:bG h (h.alloc (.cells [])):=bG.alloc _ _;have gn:(h.alloc (.cells [])).next=h.next+1:=rfl
 simp only [he,aq,cF,aE,Jq];generalize h.alloc (.cells [])=H at g1 gV gx gn ⊢;by_cases h0:vs.length=0
 ·have BH:vs = []:=eq_nil_of_length_eq_zero h0;subst BH
  have:cz 1 8 (.slice h.next 0 0 1) (.slice V 0 ([]:List Int).length 1) H=some (.slice h.next 0 0 1,H):=by
   simp only [cz,nS,jE,gV];simp
  rw [this];simp only [iL];exact hK h.next H (dK _) (by omega) g1 gx
 ·have Aw:bE (vs.map iv)=true:=Rl vs
  have:cz 1 8 (.slice h.next 0 0 1) (.slice V 0 vs.length 1) H=some (.slice H.next 0 vs.length 1,(H.set h.next .dead).alloc (.cells (vs.map iv))):=by
   simp only [cz,nS,jE,gV,g1];have hb:decide (vs.length*8<=dw)=true:=by rw [hm];exact ey (by omega)
   have ht:(vs.map iv).take vs.length=vs.map iv:=kB (by simp);simp [h0,ht,Aw,hb]
  rw [this];simp only [iL];refine hK H.next _ (by omega) (by rw [ag.aV,ag.bq];omega) ?_ ⟨by rw [ag.aV,ag.bq];omega,fun b hb=>?_⟩
  ·rw [ag.aW,ag.bq,if_pos rfl]
  ·rw [ag.aW,ag.bq,if_neg (by omega),ag.aP,if_neg (by omega)];exact gx.get b hb
theorem NF{d:TypeDesc}{k:AV}:∀ {es:List Entry} {i j:Nat} {v:AV},jB d k es i=some (some (j,v))->i<=j/\j<i+es.length
 |[],i,j,v,h=>by simp [jB] at h
 |e :: es,i,j,v,h=>by
  simp only [jB] at h;split at h
  ·simp only [Option.some.injEq,Prod.mk.injEq] at h;have:=h.1;simp only [length_cons];omega
  ·have:=NF h;simp only [length_cons];omega
  ·cases h
theorem S4{es:List Entry}{ck:Nat}{m:nW}(hb:h.get b=some (.map es ck))(hm:qL es m)(hB:kq es ck)(z v:AV)(k:bQ) :
  ∃ (x:AV) (born:Int) (h1 h2:ag) (wD:List Entry) (EK:Nat),iR .string z (.map b) (.str k) h=some (.tuple [x,.int .i64 born],h1)/\(∀ c,c≠b->h1.get c=h.get c)/\h1.next=h.next/\fX (.map b) (.int .i64 born) v h1=some h2 /\
   h2.get b=some (.map wD EK)/\qL wD (m.tP k v)/\kq wD EK/\(∀ c,c≠b->h2.get c=h.get c)/\h2.next=h.next:=by
 obtain ⟨r,hr,oE⟩:=qL.jB (k:=k) 0 hm
 cases r with
 |none=>
  simp only at oE;have hB':=hB.push (.str k) z;have u0:(es++[((.str k,z,ck):Entry)])[es.length]?=some (.str k,z,ck):=by simp
  have hfb:=sU (j:=0) hB'.nodup u0;refine ⟨z,(ck:Int),h.set b (.map (es++[(.str k,z,ck)]) (ck+1)),(h.set b (.map (es++[(.str k,z,ck)]) (ck+1))).set b (.map (es++[(.str k,v,ck)]) (ck+1)),_,_,?_,fun c hc=>by rw [ag.aP,if_neg hc],ag.bq _ _ _,?_,by rw [ag.aP,if_pos rfl],hm.append oE v ck,hB.push (.str k) v,fun c hc=>by rw [ag.aP,if_neg hc,ag.aP,if_neg hc],by rw [ag.bq,ag.bq]⟩
  ·simp only [iR,hb,pK,pJ,if_true,hr]
  ·have hg:(h.set b (.map (es++[(.str k,z,ck)]) (ck+1))).get b=some (.map (es++[(.str k,z,ck)]) (ck+1)):=by rw [ag.aP,if_pos rfl]
   simp only [fX,hg];rw [show ((ck:Nat):Int)=((((.str k,z,ck):Entry).2.2:Nat):Int) from rfl,hfb];simp only [Nat.zero_add,fG,u0];rw [set_append_right _ _ (dK _),Nat.sub_self];rfl
 |some jv=>
  obtain ⟨j,w⟩:=jv;obtain ⟨n,hj,hf,nT⟩:=oE;rw [Nat.zero_add] at hj;subst hj
  have u0:∃ e,es[j]?=some e:=by
   cases he:es[j]? with
   |some e=>exact ⟨e,rfl⟩
   |none=>
    exfalso;have h1:=NF hr;rw [List.getElem?_eq_none_iff] at he;omega
  obtain ⟨e,he⟩:=u0;have hfb:=sU (j:=0) hB.nodup he;refine ⟨w,(zu es j:Int),h,h.set b (.map (fG es j v) ck),_,_,?_,fun _ _=>rfl,rfl,?_,by rw [ag.aP,if_pos rfl],nT v,hB.set j v,fun c hc=>by rw [ag.aP,if_neg hc],ag.bq _ _ _⟩
  ·simp only [iR,hb,pK,pJ,if_true,hr]
  ·have:zu es j=e.2.2:=by unfold zu;rw [he]
   simp only [fX,hb,this,hfb,Nat.zero_add]
open Classical in
def vk(hs:List bQ)(i:Nat)(r:aR)(vs:List Int)(s:iI×Bool):iI×Bool:=
 if vG s.1 hs r vs/\1+jo hs (eF s.1 r vs) r.body.l<=kz/\1+jo hs (eF s.1 r vs) r.body.l<Ag s.1 r.name (aM vs (placesOf (varsOf r) r.args.l)) then
  (wh s.1 r.name (aM vs (placesOf (varsOf r) r.args.l)) (i,vs,1+jo hs (eF s.1 r vs) r.body.l),true) else s
structure PS (n P A M Wb Bb S B lo R PL BX IX FX base k i:Nat) (rules:Sl aR) (ks:List bQ) (lv:eL.Lv) (D:DB) (r:aR) (i0:Int) (hd:Sl Int) (cs:Sl (Sl Int)) (ls:Sl Int) (h0:ag):Prop where
 n1:1<=n
 ov:n<=64
 hS:h0.get S=some (.cells [.int .i64 (n:Int),.map B])
 hD:eT D h0 B lo
 hP:h0.get P=some (.cells [an aO 3 rules,.map A,.map M])
 hl:fZ (ax rules.l) h0 M ks lv
 hB:h0.get Bb=some (.cells [.ptr P 0,.map Wb])
 hR:h0.get R=some (.cells (aO r))
 hPL:h0.get PL=some (.cells (bu i0 r k (an encI 1 hd) (an eu 1 cs) (an encI 1 ls)))
 hBX:h0.get BX=some (.cells [.ptr Bb 0])
 hIX:h0.get IX=some (.cells [.int .i64 (i:Int)])
 low:(S<base/\P<base/\M<base/\B<base/\Bb<base/\R<base/\PL<base/\BX<base/\IX<base)/\FX<base/\Wb<base
 nf:(S≠FX/\P≠FX/\M≠FX/\B≠FX/\Bb≠FX/\R≠FX/\PL≠FX/\BX≠FX/\IX≠FX)/\Wb≠FX
 nw:S≠Wb/\P≠Wb/\M≠Wb/\B≠Wb/\Bb≠Wb/\R≠Wb/\PL≠Wb/\BX≠Wb/\IX≠Wb
 rows:∀ nm p,D nm=some p->p.1<base/\p.1≠FX/\p.1≠Wb
 ask:zi n D r
 kH:r.kH
 wE:k=(varsOf r).length
 Bn:k<=12
 ZP:hd.l=iH (varsOf r) r.args.l
 uq:cs.l.map Sl.l=r.body.l.map (fun c=>iH (varsOf r) c.args.l)
 names:(∀ c ∈ r.body.l,fQ (ax rules.l) c=true->(47:UInt8) ∉ c.name/\c.name.length<=1000)/\(47:UInt8) ∉ r.name/\r.name.length<=1000
structure Ah (V Wb FX base:Nat) (h0:ag) (s:iI×Bool) (h:ag):Prop where
 lt:base<=h.next
 old:∀ b,b<base->b≠FX->b≠Wb->h.get b=h0.get b
 fx:h.get FX=some (.cells [.bool s.2])
 ways:jI (fun b=>b≠V/\b≠FX) s.1 h Wb
 max:∀ nm t y,s.1 nm t=some y->y.2.2<=kz
theorem Ah.eW{V Wb FX base:Nat}{h0:ag}{s:iI×Bool}{h h':ag}(a:Ah V Wb FX base h0 s h)(hf:FX<base)(hw:Wb<base)(hV:base<=V)(hb:∀ b,b<h.next->b≠V->h'.get b=h.get b)(hn:h.next<=h'.next):Ah V Wb FX base h0 s h':=
 have hl:=a.lt
 ⟨by omega,fun b b1 b2 b3=>by rw [hb b (by omega) (by omega)];exact a.old b b1 b2 b3,by rw [hb FX (by omega) (by omega)];exact a.fx,a.ways.eW (hb Wb (by omega) (by omega)) (fun b hx IJ=>hb b IJ hx.1) hn,a.max⟩
theorem jI.put{T:iI}(w:jI X T h Wb)(hk:BD nm t){y:Way}(hXb:X b)(IJ:b<h.next)(hbw:b≠Wb)(Z9:h.get b=some (.cells (y.2.1.map iv)))(z:AV) :
  ∃ (x:AV) (born:Int) (h1 h2:ag),iR .string z (.map Wb) (.str (xR nm t)) h=some (.tuple [x,.int .i64 born],h1)/\(∀ c,c≠Wb->h1.get c=h.get c)/\h1.next=h.next/\fX (.map Wb) (.int .i64 born) (qC b y) h1=some h2 /\
   (∀ c,c≠Wb->h2.get c=h.get c)/\h2.next=h.next/\jI X (wh T nm t y) h2 Wb:=by
 obtain ⟨⟨es,ck,m,B,e1,eB,e2,e3,e4⟩,hl⟩:=w;obtain ⟨x,born,h1,h2,wD,EK,p1,p2,p3,p4,p5,p6,p7,p8,p9⟩:=S4 e1 e2 eB z (qC b y) (xR nm t);refine ⟨x,born,h1,h2,p1,p2,p3,p4,p8,p9,⟨wD,EK,m.tP (xR nm t) (qC b y),fun KQ t'=>if KQ=nm/\t'=t then b else B KQ t',p5,p7,p6,fun KQ t' ZD=>?_,fun KQ t' y' ZD hy'=>?_⟩,by omega⟩
 ·rw [Nf];dsimp only;by_cases e:KQ=nm/\t'=t
  ·obtain ⟨rfl,rfl⟩:=e;rw [if_pos rfl,pz,if_pos (And.intro rfl rfl)];rfl
  ·rw [if_neg (fun h=>e (key_inj ZD hk h)),yH e,if_neg e];exact e3 KQ t' ZD
 ·dsimp only;by_cases e:KQ=nm/\t'=t
  ·obtain ⟨rfl,rfl⟩:=e;rw [pz] at hy';obtain rfl:=Option.some.inj hy';rw [if_pos (And.intro rfl rfl)];exact ⟨hXb,by omega,hbw,by rw [p8 _ hbw];exact Z9⟩
  ·rw [yH e] at hy';rw [if_neg e];obtain ⟨a,b',c,d⟩:=e4 KQ t' y' ZD hy';exact ⟨a,by omega,c,by rw [p8 _ c];exact d⟩
set_option maxHeartbeats 4000000 in
theorem VU{base:Nat}{h0:ag}
  (o:PS n P A M Wb Bb S B lo R PL BX IX FX base k i rules ks lv D r i0 hd cs ls h0) {s:iI×Bool} (a:Ah V Wb FX base h0 s h) (hV:base<=V) (Ls:V<h.next) (BH:h.get V=some (.cells (vs.map iv))) (tI:vs.length=k) (mN:iJ n vs=true)
  (hK:∀ h',Ah V Wb FX base h0 (vk (ax rules.l) i r vs s) h'->(∀ b,base<=b->b<h.next->h'.get b=h.get b)->h.next<=h'.next->K (.ret (.bool true)) h'=true) :
  Sem TP 123 ([]++([.slice V 0 vs.length 1]++[.ptr R 0,.ptr PL 0,.ptr BX 0,.ptr IX 0,.ptr FX 0])) h K:=by
 obtain ⟨⟨s1,s2,s3,s4,s5,s6,s7,s8,s9⟩,s10,s11⟩:=o.low;obtain ⟨⟨f1,f2,f3,f4,f5,f6,f7,f8,f9⟩,f10⟩:=o.nf;obtain ⟨w1,w2,w3,w4,w5,w6,w7,w8,w9⟩:=o.nw;have am2:=a.lt;have hmp:kz=20000:=rfl;have ha:mX n r vs:=⟨by rw [tI,o.wE],mN⟩
 have PJ:(placesOf (varsOf r) r.args.l).length=r.args.l.length:=by unfold placesOf;simp
 have mM:∀ p ∈ placesOf (varsOf r) r.args.l,p<vs.length:=by rw [ha.1];exact hG jl
 have hf1:=o.kH.1;have gR:h.get R=some (.cells (aO r)):=by rw [a.old R s6 f6 w6];exact o.hR
 have gP:h.get PL=some (.cells (bu i0 r k (an encI 1 hd) (an eu 1 cs) (an encI 1 ls))):=by rw [a.old PL s7 f7 w7];exact o.hPL
 have gBX:h.get BX=some (.cells [.ptr Bb 0]):=by rw [a.old BX s8 f8 w8];exact o.hBX
 have gIX:h.get IX=some (.cells [.int .i64 (i:Int)]):=by rw [a.old IX s9 f9 w9];exact o.hIX
 have gB:h.get Bb=some (.cells [.ptr P 0,.map Wb]):=by rw [a.old Bb s5 f5 w5];exact o.hB
 have gPP:h.get P=some (.cells [an aO 3 rules,.map A,.map M]):=by rw [a.old P s2 f2 w2];exact o.hP
 have gl:=o.hl.eW (a.old M s3 f3 w3);have ln:ah none (.ptr R 0) h=some (.str r.name):=by rw [ai gR];rfl
 have gP':=gP;simp only [bu] at gP';refine F.qK ?_;rw [F.rM];simp only [aS,reduceAdd,reduceEqDiff,reduceIte,ln,ai gP'];refine aj (Bh (ps:=placesOf (varsOf r) r.args.l) BH Ls rfl o.ZP mM (by rw [PJ];omega) fun h1 t1 x1 t2=>?_);have e1:=x1.next
 have ln1:ah none (.ptr R 0) h1=some (.str r.name):=by rw [ai (by rw [x1.get R (by omega)];exact gR)];rfl
 have rU:=fM vs (placesOf (varsOf r) r.args.l);simp only [aS,reduceAdd,reduceEqDiff,reduceIte,ln1,AV.beq_refl,Bool.and_self,Bool.and_true,if_true];rw [<- rU];refine aj (xS (by have:=o.names.2.2;omega) (by rw [rU,PJ];omega) t1 ?_);have bx1:h1.get BX=some (.cells [.ptr Bb 0]):=by rw [x1.get BX (by omega)];exact gBX
 have pl1:ah (some 8) (.ptr PL 0) h1=some (.agg (bu i0 r k (an encI 1 hd) (an eu 1 cs) (an encI 1 ls))):=by rw [ai (by rw [x1.get PL (by omega)];exact gP)];rfl
 simp only [aS,reduceAdd,reduceEqDiff,reduceIte,ai bx1,pl1];refine aj (ND (X:=fun b=>b≠V/\b≠FX) (T:=s.1) (P:=P) (A:=A) (M:=M) (rules:=rules) (ks:=ks) (lv:=lv) o.ov o.kH o.uq (by rw [x1.get P (by omega)];exact gPP) (by omega) (gl.eW (x1.get M (by omega))) (by omega) (by rw [x1.get Bb (by omega)];exact gB) (by omega) (by rw [x1.get V Ls];exact BH) (by omega) ha (a.ways.ext x1) o.names.1 o.kH.2.2 a.max fun m h2 x2 hm=>?_);have x02:=x1.trans x2;have e2:=x02.next
 have bx2:h2.get BX=some (.cells [.ptr Bb 0]):=by rw [x02.get BX (by omega)];exact gBX
 have b2:h2.get Bb=some (.cells [.ptr P 0,.map Wb]):=by rw [x02.get Bb (by omega)];exact gB
 have wy2:=a.ways.ext x02
 have ahq:iJ 64 (aM vs (placesOf (varsOf r) r.args.l))=true:=by
  have h1:=iD mN mM;have:=o.ov;unfold iJ at h1 ⊢;rw [List.all_eq_true] at h1 ⊢;intro z hz;have h2:=h1 z hz;simp at h2 ⊢;omega
 have BV:BD r.name (aM vs (placesOf (varsOf r) r.args.l)):=⟨o.names.2.1,ahq⟩
 have stay:vk (ax rules.l) i r vs s=s->∀ h3,bG h h3->K (.ret (.bool true)) h3=true:=fun hs h3 hx=>by
  rw [hs] at hK;exact hK h3 (a.eW s10 s11 hV (fun b hb _=>hx.get b hb) hx.next) (fun b _ hb=>hx.get b hb) hx.next
 have done:∀ (b:Nat) (h4 h6:ag),bG h h4->(∀ c,c≠Wb->h6.get c=h4.get c)->h6.next=h4.next->jI (fun b=>b≠V/\b≠FX) (wh s.1 r.name (aM vs (placesOf (varsOf r) r.args.l)) (i,vs,m)) h6 Wb ->
   (vG s.1 (ax rules.l) r vs/\1+jo (ax rules.l) (eF s.1 r vs) r.body.l<=kz/\1+jo (ax rules.l) (eF s.1 r vs) r.body.l<Ag s.1 r.name (aM vs (placesOf (varsOf r) r.args.l)))->m=1+jo (ax rules.l) (eF s.1 r vs) r.body.l->K (.ret (.bool true)) (h6.set FX (.cells [.bool true]))=true:=by
  intro b h4 h6 Iz p5 p6 p7 yZ ahr;have e4:=Iz.next
  have abQ:vk (ax rules.l) i r vs s=(wh s.1 r.name (aM vs (placesOf (varsOf r) r.args.l)) (i,vs,m),true):=by unfold vk;rw [if_pos yZ,ahr]
  rw [abQ] at hK;refine hK _ ⟨by rw [ag.bq];omega,fun c c1 c2 c3=>by rw [ag.aP,if_neg c2,p5 c c3,Iz.get c (by omega)];exact a.old c c1 c2 c3,by rw [ag.aP,if_pos rfl],p7.eW (by rw [ag.aP,if_neg f10]) (fun c hc _=>by rw [ag.aP,if_neg hc.2]) (by rw [ag.bq];exact dK _),fun nm t y hy=>?_⟩ (fun c c1 c2=>by rw [ag.aP,if_neg (by omega),p5 c (by omega),Iz.get c c2]) (by rw [ag.bq];omega);dsimp only at hy;by_cases e:nm=r.name/\t=aM vs (placesOf (varsOf r) r.args.l)
  ·obtain ⟨rfl,rfl⟩:=e;rw [pz] at hy;obtain rfl:=Option.some.inj hy;show m<=kz;rw [ahr];exact yZ.2.1
  ·rw [yH e] at hy;exact a.max nm t y hy
 have z0:(h2.alloc (.cells [.int .i64 0,.au,.int .i64 0])).get h2.next=some (.cells [.int .i64 0,.au,.int .i64 0]):=aD _ _
 have zx:bG h2 (h2.alloc (.cells [.int .i64 0,.au,.int .i64 0])):=bG.alloc _ _;simp only [aS,reduceAdd,reduceEqDiff,reduceIte,ai bx2,bD,ai b2];generalize (h2.alloc (.cells [.int .i64 0,.au,.int .i64 0]))=HZ at z0 zx ⊢;rcases wy2.look BV (.agg [.int .i64 0,.au,.int .i64 0]) with ⟨hT,BI⟩|⟨y,b,hT,hXb,IJ,Z9,BI⟩
 ·have ic:bh 3 (.ptr h2.next 0) (.agg [.int .i64 0,.au,.int .i64 0]) HZ=some (HZ.set h2.next (.cells [.int .i64 0,.au,.int .i64 0])):=by
   rw [cJ (n:=3) (v:=.agg [.int .i64 0,.au,.int .i64 0]) z0 rfl rfl (by simp)];rfl
  have x3:bG h (HZ.set h2.next (.cells [.int .i64 0,.au,.int .i64 0])):=(x02.trans zx).set (by omega) _;simp only [aS,reduceAdd,reduceEqDiff,reduceIte,BI,ic];generalize (HZ.set h2.next (.cells [.int .i64 0,.au,.int .i64 0]))=h3 at x3 ⊢;by_cases HD:m<=20000
  case neg=>
   simp only [ep (show ¬ (m:Int)<=20000 by omega),aE];refine stay ?_ _ x3;unfold vk;rw [if_neg];rintro ⟨g1,g2,_⟩;rcases hm with ⟨_,e⟩|⟨_,_,e⟩
   ·omega
   ·exact e ⟨g1,g2⟩
  have K6:vG s.1 (ax rules.l) r vs/\m=1+jo (ax rules.l) (eF s.1 r vs) r.body.l:=by
   rcases hm with hm|⟨g,_⟩
   ·exact hm
   ·omega
  have hwt:Ag s.1 r.name (aM vs (placesOf (varsOf r) r.args.l))=kz+1:=by unfold Ag;rw [hT]
  replace done:=fun b h4 h6 u1 u2 u3 u4=>done b h4 h6 u1 u2 u3 u4 ⟨K6.1,by omega,by omega⟩ K6.2;simp only [ey (show (m:Int)<=20000 by omega),aF,Bool.not_false,aS,reduceAdd,reduceEqDiff,reduceIte];have e3:=x3.next
  have bx3:h3.get BX=some (.cells [.ptr Bb 0]):=by rw [x3.get BX (by omega)];exact gBX
  have b3:h3.get Bb=some (.cells [.ptr P 0,.map Wb]):=by rw [x3.get Bb (by omega)];exact gB
  have ix3:h3.get IX=some (.cells [.int .i64 (i:Int)]):=by rw [x3.get IX (by omega)];exact gIX
  simp only [aS,reduceAdd,reduceEqDiff,reduceIte,ai bx3,bD,ai b3,ai ix3];refine aj (CN (by rw [x3.get V Ls];exact BH) (by omega) (by have:=o.Bn;omega) fun b h4 q1 q2 q3 x4=>?_);have Iz:=x3.trans x4;have e4:=Iz.next
  have bx4:h4.get BX=some (.cells [.ptr Bb 0]):=by rw [Iz.get BX (by omega)];exact gBX
  have b4:h4.get Bb=some (.cells [.ptr P 0,.map Wb]):=by rw [Iz.get Bb (by omega)];exact gB
  have ix4:h4.get IX=some (.cells [.int .i64 (i:Int)]):=by rw [Iz.get IX (by omega)];exact gIX
  obtain ⟨x,born,h5,h6,p1,p2,p3,p4,p5,p6,p7⟩:=(a.ways.ext Iz).put BV (b:=b) (y:=(i,vs,m)) ⟨by omega,by omega⟩ q2 (by omega) q3 (.agg [.int .i64 0,.au,.int .i64 0]);have ix5:h5.get IX=some (.cells [.int .i64 (i:Int)]):=by rw [p2 IX w9];exact ix4
  have fx6:h6.get FX=some (.cells [.bool s.2]):=by rw [p5 FX (Ne.symm f10),Iz.get FX (by omega)];exact a.fx
  have st:bh 1 (.ptr FX 0) (.bool true) h6=some (h6.set FX (.cells [.bool true])):=by rw [cJ (n:=1) fx6 rfl rfl (by simp)];rfl
  have Vr:jM [.int .i64 0,.au,.int .i64 0] [(0,1),(1,1),(2,1)] [.int .i64 (i:Int),.slice b 0 vs.length 1,.int .i64 (m:Int)]=some (qC b (i,vs,m)):=rfl;simp only [aS,reduceAdd,reduceEqDiff,reduceIte,ai bx4,ai b4,ai ix4,AV.beq_refl,Bool.and_self,Bool.and_true,if_true,Vr,p1,ai ix5,p4,st];exact done b h4 h6 Iz p5 p6 p7
 ·have ic:bh 3 (.ptr h2.next 0) (qC b y) HZ=some (HZ.set h2.next (.cells [.int .i64 (y.1:Int),.slice b 0 y.2.1.length 1,.int .i64 (y.2.2:Int)])):=by
   unfold qC;rw [cJ (n:=3) (v:=.agg [.int .i64 (y.1:Int),.slice b 0 y.2.1.length 1,.int .i64 (y.2.2:Int)]) z0 rfl rfl (by simp)];rfl
  have RM:ah none (.ptr h2.next 2) (HZ.set h2.next (.cells [.int .i64 (y.1:Int),.slice b 0 y.2.1.length 1,.int .i64 (y.2.2:Int)]))=some (.int .i64 (y.2.2:Int)):=by
   rw [ai (cs:=[.int .i64 (y.1:Int),.slice b 0 y.2.1.length 1,.int .i64 (y.2.2:Int)]) (by rw [ag.aP,if_pos rfl])];rfl
  have x3:bG h (HZ.set h2.next (.cells [.int .i64 (y.1:Int),.slice b 0 y.2.1.length 1,.int .i64 (y.2.2:Int)])):=(x02.trans zx).set (by omega) _;simp only [aS,reduceAdd,reduceEqDiff,reduceIte,BI,ic];generalize (HZ.set h2.next (.cells [.int .i64 (y.1:Int),.slice b 0 y.2.1.length 1,.int .i64 (y.2.2:Int)]))=h3 at x3 RM ⊢;have hwt:Ag s.1 r.name (aM vs (placesOf (varsOf r) r.args.l))=y.2.2:=by unfold Ag;rw [hT]
  by_cases HD:m<=20000
  case neg=>
   simp only [ep (show ¬ (m:Int)<=20000 by omega),aE];refine stay ?_ _ x3;unfold vk;rw [if_neg];rintro ⟨g1,g2,_⟩;rcases hm with ⟨_,e⟩|⟨_,_,e⟩
   ·omega
   ·exact e ⟨g1,g2⟩
  have K6:vG s.1 (ax rules.l) r vs/\m=1+jo (ax rules.l) (eF s.1 r vs) r.body.l:=by
   rcases hm with hm|⟨g,_⟩
   ·exact hm
   ·omega
  simp only [ey (show (m:Int)<=20000 by omega),aF,Bool.not_true,aE,RM,aS,reduceAdd,reduceEqDiff,reduceIte];by_cases eM:m<y.2.2
  case neg=>
   simp only [ep (show ¬ (m:Int)<(y.2.2:Int) by omega),aE];refine stay ?_ _ x3;unfold vk;rw [if_neg];rintro ⟨_,_,g3⟩;omega
  replace done:=fun b h4 h6 u1 u2 u3 u4=>done b h4 h6 u1 u2 u3 u4 ⟨K6.1,by omega,by omega⟩ K6.2;simp only [ey (show (m:Int)<(y.2.2:Int) by omega),aF,aS,reduceAdd,reduceEqDiff,reduceIte];have e3:=x3.next
  have bx3:h3.get BX=some (.cells [.ptr Bb 0]):=by rw [x3.get BX (by omega)];exact gBX
  have b3:h3.get Bb=some (.cells [.ptr P 0,.map Wb]):=by rw [x3.get Bb (by omega)];exact gB
  have ix3:h3.get IX=some (.cells [.int .i64 (i:Int)]):=by rw [x3.get IX (by omega)];exact gIX
  simp only [aS,reduceAdd,reduceEqDiff,reduceIte,ai bx3,bD,ai b3,ai ix3];refine aj (CN (by rw [x3.get V Ls];exact BH) (by omega) (by have:=o.Bn;omega) fun b h4 q1 q2 q3 x4=>?_);have Iz:=x3.trans x4;have e4:=Iz.next
  have bx4:h4.get BX=some (.cells [.ptr Bb 0]):=by rw [Iz.get BX (by omega)];exact gBX
  have b4:h4.get Bb=some (.cells [.ptr P 0,.map Wb]):=by rw [Iz.get Bb (by omega)];exact gB
  have ix4:h4.get IX=some (.cells [.int .i64 (i:Int)]):=by rw [Iz.get IX (by omega)];exact gIX
  obtain ⟨x,born,h5,h6,p1,p2,p3,p4,p5,p6,p7⟩:=(a.ways.ext Iz).put BV (b:=b) (y:=(i,vs,m)) ⟨by omega,by omega⟩ q2 (by omega) q3 (.agg [.int .i64 0,.au,.int .i64 0]);have ix5:h5.get IX=some (.cells [.int .i64 (i:Int)]):=by rw [p2 IX w9];exact ix4
  have fx6:h6.get FX=some (.cells [.bool s.2]):=by rw [p5 FX (Ne.symm f10),Iz.get FX (by omega)];exact a.fx
  have st:bh 1 (.ptr FX 0) (.bool true) h6=some (h6.set FX (.cells [.bool true])):=by rw [cJ (n:=1) fx6 rfl rfl (by simp)];rfl
  have Vr:jM [.int .i64 0,.au,.int .i64 0] [(0,1),(1,1),(2,1)] [.int .i64 (i:Int),.slice b 0 vs.length 1,.int .i64 (m:Int)]=some (qC b (i,vs,m)):=rfl;simp only [aS,reduceAdd,reduceEqDiff,reduceIte,ai bx4,ai b4,ai ix4,AV.beq_refl,Bool.and_self,Bool.and_true,if_true,Vr,p1,ai ix5,p4,st];exact done b h4 h6 Iz p5 p6 p7
theorem PT{base:Nat}{h0:ag}
  (o:PS n P A M Wb Bb S B lo R PL BX IX FX base k i rules ks lv D r i0 hd cs ls h0) (V:Nat) (hV:base<=V) :
  UU (iI×Bool) (Ah V Wb FX base h0) (fun _=>D) (vk (ax rules.l) i r) S B n lo base k r 123 [] [.ptr R 0,.ptr PL 0,.ptr BX 0,.ptr IX 0,.ptr FX 0] V:=by
 obtain ⟨⟨s1,s2,s3,s4,s5,s6,s7,s8,s9⟩,s10,s11⟩:=o.low;obtain ⟨⟨f1,f2,f3,f4,f5,f6,f7,f8,f9⟩,f10⟩:=o.nf;obtain ⟨w1,w2,w3,w4,w5,w6,w7,w8,w9⟩:=o.nw;refine ⟨o.n1,o.ov,s1,fun s h a=>⟨by rw [a.old S s1 f1 w1];exact o.hS,?_,o.ask⟩,fun s h h' a _ hb hn=>a.eW s10 s11 hV hb hn,fun s h vs K a h1 h2 h3 h4 h5 hK=>VU o a h1 h2 h3 h4 h5 hK⟩;have hb:=a.lt;obtain ⟨es,ck,m,e1,e2,e3⟩:=o.hD.ex;refine ⟨⟨es,ck,m,by rw [a.old B s4 f4 w4];exact e1,e2,e3⟩,fun nm p hp=>?_,o.hD.inj,by omega⟩;obtain ⟨a1,a2,a3,a4⟩:=o.hD.mc nm p hp;obtain ⟨b1,b2,b3⟩:=o.rows nm p hp;exact ⟨a1,by omega,a3,by rw [a.old _ b1 b2 b3];exact a4⟩
theorem PU
  (o:PS n P A M Wb Bb S B lo R PL BX IX FX h.next k i rules ks lv D r i0 hd cs ls h) (Io:ls.l=r.body.l.map (fun c=>iZ (placesOf (varsOf r) c.args.l))) {s:iI×Bool} (hF:h.get FX=some (.cells [.bool s.2])) (hw:jI (fun b=>b≠FX) s.1 h Wb) (HH:∀ nm t y,s.1 nm t=some y->y.2.2<=kz)
  (hK:∀ h',h'.get FX=some (.cells [.bool (mB (fun _=>D) (vk (ax rules.l) i r) n r k s).2])->jI (fun b=>b≠FX) (mB (fun _=>D) (vk (ax rules.l) i r) n r k s).1 h' Wb->(∀ nm t y,(mB (fun _=>D) (vk (ax rules.l) i r) n r k s).1 nm t=some y->y.2.2<=kz) ->
   (∀ b,b<h.next->b≠FX->b≠Wb->h'.get b=h.get b)->h.next<=h'.next->K (.ret (.tuple [])) h'=true) :
  Sem TP 122 [.ptr S 0,.agg (bu i0 r k (an encI 1 hd) (an eu 1 cs) (an encI 1 ls)),.func 123 [] [.ptr R 0,.ptr PL 0,.ptr BX 0,.ptr IX 0,.ptr FX 0]] h K:=by
 refine Dp (Ip:=fun V=>Ah V Wb FX h.next h) (base:=h.next) (fun V hV=>PT o V hV) o.kH o.wE o.Bn o.uq Io (s:=s) (fun V hV=>⟨dK _,fun _ _ _ _=>rfl,hF,?_,HH⟩) (dK _) fun h' V hV a mI hn=>?_
 ·obtain ⟨⟨es,ck,m,B,e1,eB,e2,e3,e4⟩,hl⟩:=hw;refine ⟨⟨es,ck,m,B,e1,eB,e2,e3,fun nm t y hk hy=>?_⟩,hl⟩;obtain ⟨a1,a2,a3,a4⟩:=e4 nm t y hk hy;exact ⟨⟨by omega,a1⟩,a2,a3,a4⟩
 ·refine hK h' a.fx ?_ a.max (fun b b1 b2 b3=>a.old b b1 b2 b3) hn;obtain ⟨⟨es,ck,m,B,e1,eB,e2,e3,e4⟩,hl⟩:=a.ways;refine ⟨⟨es,ck,m,B,e1,eB,e2,e3,fun nm t y hk hy=>?_⟩,hl⟩;obtain ⟨a1,a2,a3,a4⟩:=e4 nm t y hk hy;exact ⟨a1.2,a2,a3,a4⟩
def IA(n:Nat)(D:DB)(hs:List bQ)(rs:List aR)(s:iI×Bool)(i:Nat):iI×Bool:=match rs[i]? with|some r=>mB (fun _=>D) (vk hs i r) n r (varsOf r).length s|none=>s
def kS(n:Nat)(D:DB)(hs:List bQ)(rs:List aR)(j:Nat)(s:iI×Bool):iI×Bool:=(List.range j).foldl (IA n D hs rs) s
theorem Hi{j:Nat}{s:iI×Bool}:kS n D hs rs (j+1) s=IA n D hs rs (kS n D hs rs j s) j:=by unfold kS;rw [range_succ,foldl_append];rfl
structure Ai (n P A M Wb Bb S B lo:Nat) (rules:Sl aR) (ks:List bQ) (lv:eL.Lv) (D:DB) (h:ag):Prop where
 n1:1<=n
 ov:n<=64
 hS:h.get S=some (.cells [.int .i64 (n:Int),.map B])
 hD:eT D h B lo
 hP:h.get P=some (.cells [an aO 3 rules,.map A,.map M])
 hl:fZ (ax rules.l) h M ks lv
 hB:h.get Bb=some (.cells [.ptr P 0,.map Wb])
 low:S<h.next/\P<h.next/\M<h.next/\B<h.next/\Bb<h.next/\Wb<h.next
 nw:S≠Wb/\P≠Wb/\M≠Wb/\B≠Wb/\Bb≠Wb
 rows:∀ nm p,D nm=some p->p.1≠Wb
 nE:∀ r ∈ rules.l,zi n D r/\r.kH/\(varsOf r).length<=12/\(∀ c ∈ r.body.l,fQ (ax rules.l) c=true->(47:UInt8) ∉ c.name/\c.name.length<=1000)/\(47:UInt8) ∉ r.name/\r.name.length<=1000
 len:rules.l.length<=cu
theorem Ai.eW{n P A M Wb Bb S B lo:Nat}{rules:Sl aR}{ks:List bQ}{lv:eL.Lv}{D:DB}{h h':ag}(o:Ai n P A M Wb Bb S B lo rules ks lv D h)(hb:∀ b,b<h.next->b≠Wb->h'.get b=h.get b)(hn:h.next<=h'.next):Ai n P A M Wb Bb S B lo rules ks lv D h':=by
 obtain ⟨l1,l2,l3,l4,l5,l6⟩:=o.low;obtain ⟨w1,w2,w3,w4,w5⟩:=o.nw;refine ⟨o.n1,o.ov,by rw [hb S l1 w1];exact o.hS,?_,by rw [hb P l2 w2];exact o.hP,o.hl.eW (hb M l3 w3),by rw [hb Bb l5 w5];exact o.hB,⟨by omega,by omega,by omega,by omega,by omega,by omega⟩,o.nw,o.rows,o.nE,o.len⟩;obtain ⟨es,ck,m,e1,e2,e3⟩:=o.hD.ex;refine ⟨⟨es,ck,m,by rw [hb B l4 w4];exact e1,e2,e3⟩,fun nm p hp=>?_,o.hD.inj,by omega⟩;obtain ⟨a1,a2,a3,a4⟩:=o.hD.mc nm p hp;exact ⟨a1,by omega,a3,by rw [hb _ a2 (o.rows nm p hp)];exact a4⟩
set_option maxHeartbeats 4000000 in
theorem IB{T:iI}(o:Ai n P A M Wb Bb S B lo rules ks lv D h)(hw:jI (fun _=>True) T h Wb)(HH:∀ nm t y,T nm t=some y->y.2.2<=kz)
  (hK:∀ h',jI (fun _=>True) (kS n D (ax rules.l) rules.l rules.l.length (T,false)).1 h' Wb->(∀ nm t y,(kS n D (ax rules.l) rules.l rules.l.length (T,false)).1 nm t=some y->y.2.2<=kz)->(∀ b,b<h.next->b≠Wb->h'.get b=h.get b)->h.next<=h'.next->K (.ret (.bool (kS n D (ax rules.l) rules.l rules.l.length (T,false)).2)) h'=true) :
  Sem TP 70 [.ptr Bb 0,.ptr S 0] h K:=by
 obtain ⟨l1,l2,l3,l4,l5,l6⟩:=o.low;obtain ⟨w1,w2,w3,w4,w5⟩:=o.nw;refine F.sC ?_;rw [F.tr];simp only [show eR (.ptr Bb 0)=some [.ptr Bb 0] from rfl,aq,ag.aV];obtain ⟨H,EM,p1,Wo,pn1⟩:=nt (h:=h.alloc (.cells [.ptr Bb 0])) (z:=.bool false) (v:=.bool false) rfl rfl;rw [ag.aV] at EM p1 Wo pn1;have g0:H.get h.next=some (.cells [.ptr Bb 0]):=by rw [Wo _ (by omega)];exact aD _ _
 have gx:bG h H:=⟨by omega,fun b hb=>by rw [Wo b (by omega),ag.aW,if_neg (by omega)]⟩
 have gB:H.get Bb=some (.cells [.ptr P 0,.map Wb]):=by rw [gx.get _ l5];exact o.hB
 have gP:H.get P=some (.cells [an aO 3 rules,.map A,.map M]):=by rw [gx.get _ l2];exact o.hP
 simp only [EM,aq,bD,aS,reduceAdd,reduceEqDiff,reduceIte,ai g0,ai gB,ai gP]
 refine aG 0 rules.l.length (zero_le _) (fun i e h'=>H.next<=h'.next/\(∀ b,b<H.next->b≠h.next+1->b≠Wb->h'.get b=H.get b)/\h'.get (h.next+1)=some (.cells [.bool (kS n D (ax rules.l) rules.l i (T,false)).2])/\jI (fun b=>b≠h.next+1) (kS n D (ax rules.l) rules.l i (T,false)).1 h' Wb/\(∀ nm t y,(kS n D (ax rules.l) rules.l i (T,false)).1 nm t=some y->y.2.2<=kz) /\
  e 1 = .ptr S 0/\e 2 = .ptr h.next 0/\e 5 = .ptr (h.next+1) 0/\e 15=an aO 3 rules/\e 16 = .int .i64 (rules.l.length:Int)/\e 17 = .int .i64 (i:Int)) ⟨dK _,fun _ _ _ _=>rfl,p1,?_,HH,rfl,rfl,rfl,rfl,rfl,rfl⟩ ?_ ?_
 ·obtain ⟨⟨es,ck,m,Bf,e1,eB,e2,e3,e4⟩,hl⟩:=hw;have:=gx.next
  refine ⟨⟨es,ck,m,Bf,by rw [gx.get _ hl];exact e1,eB,e2,e3,fun nm t y hk hy=>?_⟩,by omega⟩;obtain ⟨a1,a2,a3,a4⟩:=e4 nm t y hk hy;have lF:Bf nm t≠h.next+1:=by omega
  exact ⟨lF,by omega,a3,by rw [gx.get _ a2];exact a4⟩
 ·rintro i e h' _ hi ⟨hn,hb,hf,hwy,hmx,e1,e2,e5,lE,rR,mW⟩ K' oA hx hr hp;have hv:rules.l[i]?=some rules.l[i]:=ec hi;generalize rules.l[i]=r at hv;have lD:=iA hv;obtain ⟨iQ,iF,Cp,PW,alb,Pa⟩:=o.nE r lD;have oh:Ai n P A M Wb Bb S B lo rules ks lv D h':=o.eW (fun b b1 b2=>by rw [hb b (by omega) (by omega) b2,gx.get b b1]) (by omega);have gBX:h'.get h.next=some (.cells [.ptr Bb 0]):=by rw [hb _ (by omega) (by omega) (by omega)];exact g0
  have a1:((h'.alloc (.cells [.int .i64 0])).alloc (.cells [.str [],.au,.au])).get h'.next=some (.cells [.int .i64 0]):=by rw [ag.aW,ag.aV,if_neg (by omega)];exact aD _ _
  have st1:bh 1 (.ptr h'.next 0) (.int .i64 (i:Int)) ((h'.alloc (.cells [.int .i64 0])).alloc (.cells [.str [],.au,.au]))=some (((h'.alloc (.cells [.int .i64 0])).alloc (.cells [.str [],.au,.au])).set h'.next (.cells [.int .i64 (i:Int)])):=by
   rw [cJ (n:=1) a1 rfl rfl (by simp)];rfl
  have a2:(((h'.alloc (.cells [.int .i64 0])).alloc (.cells [.str [],.au,.au])).set h'.next (.cells [.int .i64 (i:Int)])).get (h'.next+1)=some (.cells [.str [],.au,.au]):=by
   rw [ag.aP,if_neg (by omega)];exact aD _ _
  have US:bh 3 (.ptr (h'.next+1) 0) (.agg (aO r)) (((h'.alloc (.cells [.int .i64 0])).alloc (.cells [.str [],.au,.au])).set h'.next (.cells [.int .i64 (i:Int)]))=some ((((h'.alloc (.cells [.int .i64 0])).alloc (.cells [.str [],.au,.au])).set h'.next (.cells [.int .i64 (i:Int)])).set (h'.next+1) (.cells (aO r))):=by
   rw [cJ (n:=3) (v:=.agg (aO r)) a2 rfl (jJ r) (by simp)];rfl
  have c1:((((h'.alloc (.cells [.int .i64 0])).alloc (.cells [.str [],.au,.au])).set h'.next (.cells [.int .i64 (i:Int)])).set (h'.next+1) (.cells (aO r))).get h'.next=some (.cells [.int .i64 (i:Int)]):=by
   rw [ag.aP,if_neg (by omega),ag.aP,if_pos rfl]
  have c2:((((h'.alloc (.cells [.int .i64 0])).alloc (.cells [.str [],.au,.au])).set h'.next (.cells [.int .i64 (i:Int)])).set (h'.next+1) (.cells (aO r))).get (h'.next+1)=some (.cells (aO r)):=by
   rw [ag.aP,if_pos rfl]
  have cx:bG h' ((((h'.alloc (.cells [.int .i64 0])).alloc (.cells [.str [],.au,.au])).set h'.next (.cells [.int .i64 (i:Int)])).set (h'.next+1) (.cells (aO r))):=(((bG.alloc _ _).trans (bG.alloc _ _)).set (by omega) _).set (by omega) _;have cn:((((h'.alloc (.cells [.int .i64 0])).alloc (.cells [.str [],.au,.au])).set h'.next (.cells [.int .i64 (i:Int)])).set (h'.next+1) (.cells (aO r))).next=h'.next+2:=by rw [ag.bq,ag.bq];rfl
  rw [F.dF.aT];simp only [lE,rR,mW,aS,reduceAdd,reduceEqDiff,reduceIte,bl hi,aU rules hi,cX ei hv,ag.aV,st1,US];generalize ((((h'.alloc (.cells [.int .i64 0])).alloc (.cells [.str [],.au,.au])).set h'.next (.cells [.int .i64 (i:Int)])).set (h'.next+1) (.cells (aO r)))=H4 at c1 c2 cx cn ⊢;have lr:ah (some 3) (.ptr (h'.next+1) 0) H4=some (.agg (aO r)):=by rw [ai c2];simp only [aO,om]
  simp only [ai c1,lr,aS,reduceAdd,reduceEqDiff,reduceIte];refine aj (cI iF fun hd cs ls ZP uq Io=>?_);obtain ⟨H5,hs5,d5,Z8,dn5⟩:=cR (h:=H4) (zs:=[.int .i64 0,.str [],.au,.au,.int .i64 0,.au,.au,.au]) (cs:=bu (i:Int) r (varsOf r).length (an encI 1 hd) (an eu 1 cs) (an encI 1 ls)) (n:=8) rfl rfl (uj _ _ _ _ _ _);have x45:bG H4 H5:=⟨by omega,fun b hb=>Z8 b (by omega)⟩
  have x5:=cx.trans x45;have l8:ah (some 8) (.ptr H4.next 0) H5=some (.agg (bu (i:Int) r (varsOf r).length (an encI 1 hd) (an eu 1 cs) (an encI 1 ls))):=by rw [ai d5];rfl
  have o5:=oh.eW (fun b b1 _=>x5.get b b1) x5.next
  simp only [aS,reduceAdd,reduceEqDiff,reduceIte,hs5,l8,e1,e2,e5];have hn5:=x5.next
  have Sb:=o.low;have hww:=o.nw
  refine aj (PU (IX:=h'.next) (R:=h'.next+1) (PL:=H4.next) (BX:=h.next) (FX:=h.next+1) (k:=(varsOf r).length) (i:=i) (s:=kS n D (ax rules.l) rules.l i (T,false)) (D:=D) (Bb:=Bb) (Wb:=Wb) (P:=P) (A:=A) (M:=M) (B:=B) (lo:=lo) (ks:=ks) (lv:=lv) (rules:=rules)
   ⟨o.n1,o.ov,o5.hS,o5.hD,o5.hP,o5.hl,o5.hB,by rw [x45.get _ (by omega)];exact c2,d5,by rw [x5.get _ (by omega)];exact gBX,by rw [x45.get _ (by omega)];exact c1,
    ⟨⟨by omega,by omega,by omega,by omega,by omega,by omega,by omega,by omega,by omega⟩,by omega,by omega⟩,⟨⟨by omega,by omega,by omega,by omega,by omega,by omega,by omega,by omega,by omega⟩,by omega⟩,⟨by omega,by omega,by omega,by omega,by omega,by omega,by omega,by omega,by omega⟩,
    fun nm p hp=>⟨by have:=(o5.hD.mc nm p hp).2.1;omega,by have:=(o.hD.mc nm p hp).2.1;omega,o.rows nm p hp⟩,iQ,iF,rfl,Cp,ZP,uq,PW,alb,Pa⟩
   Io (by rw [x5.get _ (by omega)];exact hf) (hwy.ext x5) hmx fun h6 q1 q2 q3 q4 q5=>?_)
  have abQ:kS n D (ax rules.l) rules.l (i+1) (T,false)=mB (fun _=>D) (vk (ax rules.l) i r) n r (varsOf r).length (kS n D (ax rules.l) rules.l i (T,false)):=by rw [Hi];unfold IA;rw [hv]
  rw [<- abQ] at q1 q2 q3;simp only [aS,reduceAdd,reduceEqDiff,reduceIte,mW,aK hi o.len];exact oA _ _ ⟨by omega,fun b b1 b2 b3=>by rw [q4 b (by omega) b2 b3,x5.get b (by omega)];exact hb b b1 b2 b3,q1,q2,q3,e1,e2,e5,lE,rR,rfl⟩
 ·rintro e h' ⟨hn,hb,hf,hwy,hmx,e1,e2,e5,lE,rR,mW⟩ K' hx;rw [F.dF.aT];simp only [rR,mW,aS,reduceAdd,reduceEqDiff,reduceIte,aX];rw [hx,F.dF.aJ];simp only [bg,reduceEqDiff,reduceIte,e5,ai hf,aS,reduceAdd,reduceEqDiff,reduceIte];refine hK h' ?_ hmx (fun b b1 b2=>by rw [hb b (by omega) (by omega) b2,gx.get b b1]) (by omega);obtain ⟨⟨es,ck,m,Bf,e1,eB,e2,e3,e4⟩,hl⟩:=hwy;exact ⟨⟨es,ck,m,Bf,e1,eB,e2,e3,fun nm t y hk hy=>⟨trivial,(e4 nm t y hk hy).2⟩⟩,hl⟩
theorem JS{σ:Type}{ku:List Int->σ->σ}{n:Nat}{r:aR}{D:DB}{Q:σ->Prop}(hQ:∀ vs s,mX n r vs->iz n (dA D) r vs=true->Q s->Q (ku vs s)):∀ (m v:Nat) (vs:List Int) (s:σ),v+m=(varsOf r).length->mX n r vs ->
  (∀ c ∈ r.body.l,iZ (aQ r c)<(v:Int)->dy n (dA D) c (aM vs (aQ r c))=true)->Q s ->
  Q (eV (fun _=>D) ku n r m v vs s).2/\mX n r (eV (fun _=>D) ku n r m v vs s).1/\∀ i,i<v->(eV (fun _=>D) ku n r m v vs s).1.getD i 0=vs.getD i 0
 |0,v,vs,s,hv,ha,hc,hq=>by
  refine ⟨hQ vs s ha ?_ hq,ha,fun _ _=>rfl⟩;unfold iz;rw [List.all_eq_true];intro c mu;refine hc c mu ?_;have:=QW mu;omega
 |m+1,v,vs,s,hv,ha,hc,hq=>by
  refine eE (P:=fun (a:List Int×σ)=>Q a.2/\mX n r a.1/\∀ i,i<v->a.1.getD i 0=vs.getD i 0) ⟨hq,ha,fun _ _=>rfl⟩ fun a x hx hP=>?_;obtain ⟨p1,p3,p4⟩:=hP;have OY:=mem_range.1 hx;have Jl:mX n r (a.1.set v (x:Int)):=⟨by rw [length_set];exact p3.1,oy p3.2 v OY⟩
  have wk:∀ i,i<v->(a.1.set v (x:Int)).getD i 0=vs.getD i 0:=fun i hi=>by rw [getD_set_ne (by omega)];exact p4 i hi
  unfold g8;split
  ·rename_i iQ;rw [nO] at iQ
   obtain ⟨q1,q3,q4⟩:=JS hQ m (v+1) (a.1.set v (x:Int)) a.2 (by omega) Jl (fun c mu eM=>by
    by_cases e:iZ (aQ r c)=(v:Int)
    ·exact iQ c mu e
    ·have KR:iZ (aQ r c)<(v:Int):=(by omega);rw [qQ (b:=vs) fun p hp=>wk p (by have:=ud hp;omega)]
     exact hc c mu KR) p1
   exact ⟨q1,q3,fun i hi=>by rw [q4 i (by omega)];exact wk i hi⟩
  ·exact ⟨p1,Jl,wk⟩
theorem S5{σ:Type}{ku:List Int->σ->σ}(n1:1<=n){Q:σ->Prop}(hQ:∀ vs s,mX n r vs->iz n (dA D) r vs=true->Q s->Q (ku vs s)){s:σ}(hs:Q s):Q (mB (fun _=>D) ku n r (varsOf r).length s):=by
 unfold mB;split
 ·rename_i iQ;rw [nO] at iQ;have ha:mX n r (replicate (varsOf r).length 0):=⟨by simp,yw n1 _⟩
  refine (JS hQ (varsOf r).length 0 _ s (by omega) ha (fun c mu eM=>?_) hs).1;have h1:=Jv (aQ r c);exact iQ c mu (by omega)
 ·exact hs
theorem BE{σ:Type}{qO:σ->DB}{ku:List Int->σ->σ}{n:Nat}{r:aR}:∀ (m v:Nat) (vs:List Int) (s:σ),mX n r vs->mX n r (eV qO ku n r m v vs s).1/\∀ i,i<v->(eV qO ku n r m v vs s).1.getD i 0=vs.getD i 0
 |0,v,vs,s,ha=>⟨ha,fun _ _=>rfl⟩
 |m+1,v,vs,s,ha=>by
  refine eE (P:=fun (a:List Int×σ)=>mX n r a.1/\∀ i,i<v->a.1.getD i 0=vs.getD i 0) ⟨ha,fun _ _=>rfl⟩ fun a y hy hP=>?_;have hyn:y<n:=mem_range.1 hy;have Jl:mX n r (a.1.set v (y:Int)):=⟨by rw [length_set];exact hP.1.1,oy hP.1.2 v hyn⟩
  have GV:∀ i,i<v->(a.1.set v (y:Int)).getD i 0=vs.getD i 0:=fun i hi=>by rw [getD_set_ne (by omega)];exact hP.2 i hi
  unfold g8;split
  ·obtain ⟨w1,w2⟩:=BE (qO:=qO) (ku:=ku) m (v+1) (a.1.set v (y:Int)) a.2 Jl;exact ⟨w1,fun i hi=>by rw [w2 i (by omega)];exact GV i hi⟩
  ·exact ⟨Jl,GV⟩
theorem j4{α β τ:Type}{st:α->τ×Bool}{f:α->β->α}(hf:∀ a b,(st (f a b)).2=false->st (f a b)=st a):∀ (l:List β) (a:α) {T:τ},st (l.foldl f a)=(T,false)->st a=(T,false)
 |[],a,T,h=>h
 |b :: l,a,T,h=>by
  have h1:=j4 hf l (f a b) h;rw [<- hf a b (by rw [h1]),h1]
section
variable {τ:Type} {D:DB} {ku:List Int->τ×Bool->τ×Bool} {n:Nat} {r:aR}
theorem xT(hd:∀ vs s,(ku vs s).2=false->ku vs s=s):∀ (m v:Nat) (vs:List Int) (s:τ×Bool),(eV (fun _=>D) ku n r m v vs s).2.2=false->(eV (fun _=>D) ku n r m v vs s).2=s
 |0,v,vs,s,h=>hd vs s h
 |m+1,v,vs,s,h=>by
  have hq:∀ (a:List Int×(τ×Bool)) (x:Nat),(g8 (fun _=>D) n r v (eV (fun _=>D) ku n r m (v+1)) a x).2.2=false->(g8 (fun _=>D) n r v (eV (fun _=>D) ku n r m (v+1)) a x).2=a.2:=fun a x=>by
   unfold g8;split
   ·exact xT hd m (v+1) _ _
   ·exact fun _=>rfl
  have h2:(eV (fun _=>D) ku n r (m+1) v vs s).2=((eV (fun _=>D) ku n r (m+1) v vs s).2.1,false):=by rw [<- h]
  rw [h2];exact (j4 (st:=fun a:List Int×(τ×Bool)=>a.2) hq (List.range n) (vs,s) h2).symm
theorem Hj(hd:∀ vs s,(ku vs s).2=false->ku vs s=s){T:τ}:∀ (m v:Nat) (vs:List Int),v+m=(varsOf r).length->mX n r vs->(eV (fun _=>D) ku n r m v vs (T,false)).2=(T,false) ->
  ∀ us,mX n r us->(∀ i,i<v->us.getD i 0=vs.getD i 0)->iz n (dA D) r us=true->ku us (T,false)=(T,false)
 |0,v,vs,hv,ha,hf,us,hu,wk,gd=>by
  have:us=vs:=by
   refine ext_getElem? fun i=>?_;by_cases hi:i<(varsOf r).length
   ·have:=wk i (by omega);rw [getD_eq_getElem?_getD,getD_eq_getElem?_getD,ec (by rw [hu.1];exact hi),ec (by rw [ha.1];exact hi)] at this;rw [ec (by rw [hu.1];exact hi),ec (by rw [ha.1];exact hi)];exact congrArg some this
   ·rw [getElem?_eq_none (by rw [hu.1];omega),getElem?_eq_none (by rw [ha.1];omega)]
  subst this;exact hf
 |m+1,v,vs,hv,ha,hf,us,hu,wk,gd=>by
  have hq:∀ (a:List Int×(τ×Bool)) (x:Nat),(g8 (fun _=>D) n r v (eV (fun _=>D) ku n r m (v+1)) a x).2.2=false->(g8 (fun _=>D) n r v (eV (fun _=>D) ku n r m (v+1)) a x).2=a.2:=fun a x=>by
   unfold g8;split
   ·exact xT hd m (v+1) _ _
   ·exact fun _=>rfl
  have tI:v<us.length:=by rw [hu.1];omega
  have mN:=OX hu.2 (ec tI);obtain ⟨x,hx⟩:∃ x:Nat,us[v]=(x:Int):=⟨us[v].toNat,by omega⟩
  have OY:x<n:=by omega
  have hux:us.getD v 0=(x:Int):=by rw [getD_eq_getElem?_getD,ec tI];exact hx
  have hf0:((List.range n).foldl (g8 (fun _=>D) n r v (eV (fun _=>D) ku n r m (v+1))) (vs,((T,false):τ×Bool))).2=(T,false):=hf;obtain ⟨l1,l2,hl,Vk⟩:=oZ (f:=g8 (fun _=>D) n r v (eV (fun _=>D) ku n r m (v+1))) (mem_range.2 OY) (vs,((T,false):τ×Bool));rw [Vk] at hf0;have h1:=j4 (st:=fun a:List Int×(τ×Bool)=>a.2) hq l2 _ hf0;replace h1:(g8 (fun _=>D) n r v (eV (fun _=>D) ku n r m (v+1)) (l1.foldl (g8 (fun _=>D) n r v (eV (fun _=>D) ku n r m (v+1))) (vs,((T,false):τ×Bool))) x).2=(T,false):=h1
  have KY:(l1.foldl (g8 (fun _=>D) n r v (eV (fun _=>D) ku n r m (v+1))) (vs,((T,false):τ×Bool))).2=(T,false):=by
   rw [<- hq _ x (by rw [h1]),h1]
  have lu:mX n r (l1.foldl (g8 (fun _=>D) n r v (eV (fun _=>D) ku n r m (v+1))) (vs,((T,false):τ×Bool))).1/\∀ i,i<v->(l1.foldl (g8 (fun _=>D) n r v (eV (fun _=>D) ku n r m (v+1))) (vs,((T,false):τ×Bool))).1.getD i 0=vs.getD i 0:=by
   refine eE (P:=fun (a:List Int×(τ×Bool))=>mX n r a.1/\∀ i,i<v->a.1.getD i 0=vs.getD i 0) ⟨ha,fun _ _=>rfl⟩ fun a y hy hP=>?_;have hyn:y<n:=mem_range.1 (by rw [hl];exact mem_append_left _ hy);have Jl:mX n r (a.1.set v (y:Int)):=⟨by rw [length_set];exact hP.1.1,oy hP.1.2 v hyn⟩
   have GV:∀ i,i<v->(a.1.set v (y:Int)).getD i 0=vs.getD i 0:=fun i hi=>by rw [getD_set_ne (by omega)];exact hP.2 i hi
   unfold g8;split
   ·obtain ⟨w1,w2⟩:=BE (qO:=fun _=>D) (ku:=ku) (n:=n) (r:=r) m (v+1) (a.1.set v (y:Int)) a.2 Jl;exact ⟨w1,fun i hi=>by rw [w2 i (by omega)];exact GV i hi⟩
   ·exact ⟨Jl,GV⟩
  generalize UW:l1.foldl (g8 (fun _=>D) n r v (eV (fun _=>D) ku n r m (v+1))) (vs,((T,false):τ×Bool))=acc at h1 KY lu;obtain ⟨av,sv⟩:=acc;replace KY:sv=(T,false):=KY;subst KY
  have Vl:∀ i,i<v+1->us.getD i 0=(av.set v (x:Int)).getD i 0:=fun i hi=>by
   by_cases e:i=v
   ·subst e;rw [hux,Du (by rw [lu.1.1];omega)]
   ·rw [getD_set_ne e,lu.2 i (by omega)];exact wk i (by omega)
  have iQ:Bj n (dA D) r (av.set v (x:Int)) (v:Int)=true:=by
   rw [nO];intro c hc e;rw [qQ (b:=us) fun p hp=>(Vl p (by have:=ud hp;omega)).symm];unfold iz at gd;rw [List.all_eq_true] at gd;exact gd c hc
  unfold g8 at h1;simp only [iQ,if_true] at h1;exact Hj hd m (v+1) (av.set v (x:Int)) (by omega) ⟨by rw [length_set];exact lu.1.1,oy lu.1.2 v OY⟩ h1 us hu Vl gd
theorem NG(hd:∀ vs s,(ku vs s).2=false->ku vs s=s){s:τ×Bool}(h:(mB (fun _=>D) ku n r (varsOf r).length s).2=false):mB (fun _=>D) ku n r (varsOf r).length s=s:=by
 unfold mB at h ⊢;split at h
 ·rename_i hc;rw [if_pos hc];exact xT hd _ _ _ _ h
 ·rename_i hc;rw [if_neg hc]
theorem S6(n1:1<=n)(hd:∀ vs s,(ku vs s).2=false->ku vs s=s){T:τ}(h:mB (fun _=>D) ku n r (varsOf r).length (T,false)=(T,false))(us:List Int)(hu:mX n r us)(gd:iz n (dA D) r us=true):ku us (T,false)=(T,false):=by
 unfold mB at h
 have iQ:Bj n (dA D) r (replicate (varsOf r).length 0) (-1)=true:=by
  rw [nO];intro c hc e
  have pX:aQ r c = []:=by
   cases si:aQ r c with
   |nil=>rfl
   |cons p ps=>
    have:=ud (ps:=aQ r c) (p:=p) (by rw [si];exact mem_cons_self);omega
  unfold iz at gd;rw [List.all_eq_true] at gd;have:=gd c hc;rw [pX] at this ⊢;exact this
 simp only [iQ,if_true] at h;exact Hj hd (varsOf r).length 0 _ (by omega) ⟨by simp,yw n1 _⟩ h us hu (fun i hi=>by omega) gd
end
theorem Hl(vs:List Int)(s:iI×Bool)(h:(vk hs i r vs s).2=false):vk hs i r vs s=s:=by
 unfold vk at h ⊢;split at h
 ·cases h
 ·rename_i hc;rw [if_neg hc]
theorem Ho(s:iI×Bool)(i:Nat)(h:(IA n D hs rs s i).2=false):IA n D hs rs s i=s:=by
 unfold IA at h ⊢
 cases hr:rs[i]? with
 |none=>rfl
 |some r=>rw [hr] at h;exact NG Hl h
theorem Lm(n1:1<=n){T:iI}(h:(kS n D (ax rs) rs rs.length (T,false)).2=false):(kS n D (ax rs) rs rs.length (T,false)).1=T/\vj n (dA D) rs T:=by
 have key:∀ j,j<=rs.length->kS n D (ax rs) rs rs.length (T,false)=(T,false)->kS n D (ax rs) rs j (T,false)=(T,false):=fun j hj hl=>by
  have Un:List.range rs.length=List.range j++(List.range (rs.length-j)).map (j + ·):=by
   rw [<- range_add];congr 1;omega
  unfold kS at hl ⊢;rw [Un,foldl_append] at hl;exact j4 (st:=fun s:iI×Bool=>s) (f:=IA n D (ax rs) rs) (fun a b=>Ho a b) _ _ hl
 have h0:kS n D (ax rs) rs rs.length (T,false)=((kS n D (ax rs) rs rs.length (T,false)).1,false):=Prod.ext rfl h;have h1:((T,false):iI×Bool)=((kS n D (ax rs) rs rs.length (T,false)).1,false):=j4 (st:=fun s:iI×Bool=>s) (f:=IA n D (ax rs) rs) (fun a b=>Ho a b) (List.range rs.length) (T,false) h0;have hT:(kS n D (ax rs) rs rs.length (T,false)).1=T:=(congrArg Prod.fst h1).symm;refine ⟨hT,fun r hr vs ha gd hk hw=>?_⟩;rw [hT] at h0;obtain ⟨j,hj,hrj⟩:=getElem_of_mem hr;have hj?:rs[j]?=some r:=by rw [ec hj,hrj]
 have a1:=key j (by omega) h0;have a2:=key (j+1) (by omega) h0;rw [Hi,a1] at a2;unfold IA at a2;rw [hj?] at a2;have a3:=S6 n1 Hl a2 vs ha gd;unfold vk at a3;split at a3
 ·exact absurd (congrArg Prod.snd a3) (by simp)
 ·rename_i hc;rcases Nat.lt_or_ge (1+jo (ax rs) (eF T r vs) r.body.l) (Ag T r.name (aM vs (placesOf (varsOf r) r.args.l))) with h5|h5
  ·exact absurd ⟨hk,hw,h5⟩ hc
  ·exact h5
def zl(ks:List (bQ×List Int))(T:iI):Nat:=(ks.map fun k=>Ag T k.1 k.2).sum
theorem Aj{α:Type}{f g:α->Nat}:∀ {l:List α},(∀ a ∈ l,f a<=g a)->(l.map f).sum<=(l.map g).sum
 |[],_=>dK _
 |a :: l,h=>by
  rw [map_cons,sum_cons,map_cons,sum_cons];have:=h a mem_cons_self;have:=Aj (l:=l) fun b hb=>h b (mem_cons_of_mem _ hb);omega
theorem Ak{α:Type}{f g:α->Nat}{t:α}(ht:f t<g t):∀ {l:List α},(∀ a ∈ l,f a<=g a)->t ∈ l->(l.map f).sum<(l.map g).sum
 |[],_,hm=>by cases hm
 |a :: l,h,hm=>by
  rw [map_cons,sum_cons,map_cons,sum_cons];have h1:=h a mem_cons_self;rcases mem_cons.1 hm with rfl|hm
  ·have:=Aj (l:=l) fun b hb=>h b (mem_cons_of_mem _ hb);omega
  ·have:=Ak ht (l:=l) (fun b hb=>h b (mem_cons_of_mem _ hb)) hm;omega
structure VV (n:Nat) (L:Lk) (rs:List aR) (ks:List (bQ×List Int)) (T0:iI) (s:iI×Bool):Prop where
 ok:NB n L rs s.1
 le:zl ks s.1<=zl ks T0
 lt:s.2=true->zl ks s.1<zl ks T0
theorem S7{ks:List (bQ×List Int)}{T0:iI}(hr:rs[i]?=some r)(ha:mX n r vs)(gd:iz n L r vs=true)(Jj:(r.name,aM vs (placesOf (varsOf r) r.args.l)) ∈ ks){s:iI×Bool}(q:VV n L rs ks T0 s):VV n L rs ks T0 (vk (ax rs) i r vs s):=by
 unfold vk;split
 ·rename_i hc;obtain ⟨h1,h2,h3⟩:=hc
  have eM:zl ks (wh s.1 r.name (aM vs (placesOf (varsOf r) r.args.l)) (i,vs,1+jo (ax rs) (eF s.1 r vs) r.body.l))<zl ks s.1:=by
   refine Ak (t:=(r.name,aM vs (placesOf (varsOf r) r.args.l))) ?_ (fun k _=>Rk (Nat.le_of_lt h3) _ _) Jj;show Ag (wh _ _ _ _) _ _<Ag _ _ _;have:Ag (wh s.1 r.name (aM vs (placesOf (varsOf r) r.args.l)) (i,vs,1+jo (ax rs) (eF s.1 r vs) r.body.l)) r.name (aM vs (placesOf (varsOf r) r.args.l))=1+jo (ax rs) (eF s.1 r vs) r.body.l:=by unfold Ag;rw [pz]
   rw [this];exact h3
  have:=q.le;exact ⟨q.ok.put hr ha gd h1 h2 h3,by show zl ks (wh _ _ _ _)<=_;omega,fun _=>by show zl ks (wh _ _ _ _)<_;omega⟩
 ·exact q
def kL(n:Nat)(rs:List aR):List (bQ×List Int):=rs.flatMap fun r=>(List.range (n ^ (varsOf r).length)).map fun i=>(r.name,aM (cU n (varsOf r).length i) (placesOf (varsOf r) r.args.l))
theorem DD(n1:1<=n)(hr:r ∈ rs)(ha:mX n r vs):(r.name,aM vs (placesOf (varsOf r) r.args.l)) ∈ kL n rs:=by
 obtain ⟨i,hi,rfl⟩:=GX n1 ha;exact mem_flatMap.2 ⟨r,hr,mem_map.2 ⟨i,mem_range.2 hi,rfl⟩⟩
theorem PX(n1:1<=n){T:iI}(hT:NB n (dA D) rs T):VV n (dA D) rs (kL n rs) T (kS n D (ax rs) rs rs.length (T,false)):=by
 unfold kS;refine eE (P:=fun s=>VV n (dA D) rs (kL n rs) T s) ⟨hT,dK _,fun h=>(by cases h)⟩ fun s j hj q=>?_;unfold IA
 cases hr:rs[j]? with
 |none=>exact q
 |some r=>exact S5 n1 (Q:=fun s=>VV n (dA D) rs (kL n rs) T s) (fun vs s ha gd q=>S7 hr ha gd (DD n1 (iA hr) ha) q) q
theorem NB.none(n:Nat)(L:Lk)(rs:List aR):NB n L rs (fun _ _=>Option.none):=⟨fun _ _ _ _ _ h=>by cases h⟩
abbrev PV:=Int×Iv×Iv
def se(r:PV):List AV:=[.int .i64 r.1,r.2.1.1,r.2.2.1]
theorem JT(r:PV):(se r).length=3:=rfl
theorem CO(r:PV):bE (se r)=true:=by
 have h1:=r.2.1.2.1;have h2:=r.2.2.2.1;unfold se;simp only [bE,Bool.and_true] at h1 h2 ⊢;rw [h1,h2];rfl
theorem abR(r:PV):ig [.int .i64 0,.au,.au] [(0,3)] [.agg (se r)]=some (se r):=by
 have ho:=CO r
 have hf:sH [.int .i64 0,.au,.au] [(0,3)] [.agg (se r)]=some (se r):=by
  have hc:AV.eN (.agg (se r))=se r:=rfl;have hp:lG [.int .i64 0,.au,.au] 0 (se r)=se r:=rfl;simp only [sH,hc,hp,ho,JT];rfl
 unfold ig;rw [hf];simp only [ho,if_true]
theorem abS(i:Int)(a b:Iv):jM [.int .i64 0,.au,.au] [(0,1),(1,1)] [.int .i64 i,a.1]=some (.agg [.int .i64 i,a.1,.au]):=by
 obtain ⟨a,h1,h2⟩:=a;simp only [jM,sH,h2,h1];rfl
theorem S8(s:St):dV TP s Tryz.f72.results.toList=(match ah (some 3) (s.env 6) s.h,(some []:Option (List AV)) with|some v,some vs=>some (v :: vs)|_,_=>none):=by kernel_rfl
structure Hp (n P A M Wb Bb:Nat) (rules:Sl aR) (ks:List bQ) (lv:eL.Lv) (L:Lk) (T:iI) (h:ag):Prop where
 ov:n<=64
 hP:h.get P=some (.cells [an aO 3 rules,.map A,.map M])
 hl:fZ (ax rules.l) h M ks lv
 hB:h.get Bb=some (.cells [.ptr P 0,.map Wb])
 low:P<h.next/\M<h.next/\Bb<h.next
 ways:jI (fun _=>True) T h Wb
 ok:NB n L rules.l T
 nE:∀ r ∈ rules.l,r.kH/\(varsOf r).length<=12/\(∀ c ∈ r.body.l,fQ (ax rules.l) c=true->(47:UInt8) ∉ c.name/\c.name.length<=1000)
 len:rules.l.length<=cu
theorem Hp.ext{n P A M Wb Bb:Nat}{rules:Sl aR}{ks:List bQ}{lv:eL.Lv}{L:Lk}{T:iI}{h h':ag}(d:Hp n P A M Wb Bb rules ks lv L T h)(hx:bG h h'):Hp n P A M Wb Bb rules ks lv L T h':=by
 obtain ⟨l1,l2,l3⟩:=d.low;have:=hx.next
 exact ⟨d.ov,by rw [hx.get _ l1];exact d.hP,d.hl.eW (hx.get _ l2),by rw [hx.get _ l3];exact d.hB,⟨by omega,by omega,by omega⟩,d.ways.ext hx,d.ok,d.nE,d.len⟩
def slV(b n:Nat):Iv:=⟨.slice b 0 n 1,rfl,rfl⟩
set_option maxHeartbeats 4000000 in
theorem NH{T:iI}:∀ (w:Nat) {nm:bQ} {t:List Int} {i:Nat} {vs:List Int} {abT:AV} {h:ag} {K:Out->ag->Bool},Hp n P A M Wb Bb rules ks lv L T h->BD nm t->T nm t=some (i,vs,w) ->
  (∀ h' K',bG h h'->K' (.ret (.str (xR nm t))) h'=true->Sem TP 71 [.str nm,abT] h' K') ->
  (∀ h' (v:PV) p,bG h h'->xQ T rules.l nm t p->z7 p->(∀ h2,(∀ b,h.next<=b->b<h'.next->h2.get b=h'.get b)->kD true h2 (se v) (dB p))->K (.ret (.agg (se v))) h'=true) ->
  Sem TP 72 [.ptr Bb 0,.str nm,abT] h K:=by
 intro w
 induction w using Nat.strongRecOn with
 |_ w ih=>
 intro nm t i vs abT h K d BV hT ale hK;have YU:dw=140737488355328:=rfl;obtain ⟨l1,l2,l3⟩:=d.low;obtain ⟨hw,r,hr,xz,ha,ht,gd,hkn,U6⟩:=d.ok.ok nm t i vs w hT;have lD:=iA hr;obtain ⟨iF,Cp,PW⟩:=d.nE r lD;have Lx:i<rules.l.length:=(oB.1 hr).1;have pH:r.body.l.length<=cu:=by have:=iF.2.1;unfold cu;omega
 refine F.tW ?_;rw [F.uT]
 have a0:((h.alloc (.cells [.int .i64 0,.au,.au])).alloc (.cells [.int .i64 0,.au,.int .i64 0])).get h.next=some (.cells [.int .i64 0,.au,.au]):=by
  rw [ag.aW,ag.aV,if_neg (by omega)];exact aD _ _
 have a1:((h.alloc (.cells [.int .i64 0,.au,.au])).alloc (.cells [.int .i64 0,.au,.int .i64 0])).get (h.next+1)=some (.cells [.int .i64 0,.au,.int .i64 0]):=aD _ _;have x0:bG h (h.alloc (.cells [.int .i64 0,.au,.au])):=bG.alloc _ _;have xa:bG h ((h.alloc (.cells [.int .i64 0,.au,.au])).alloc (.cells [.int .i64 0,.au,.int .i64 0])):=x0.trans (bG.alloc _ _);have na:((h.alloc (.cells [.int .i64 0,.au,.au])).alloc (.cells [.int .i64 0,.au,.int .i64 0])).next=h.next+2:=rfl
 have gB0:(h.alloc (.cells [.int .i64 0,.au,.au])).get Bb=some (.cells [.ptr P 0,.map Wb]):=by rw [x0.get _ l3];exact d.hB
 simp only [bD,aS,reduceAdd,reduceEqDiff,reduceIte,ai gB0,ag.aV];generalize ((h.alloc (.cells [.int .i64 0,.au,.au])).alloc (.cells [.int .i64 0,.au,.int .i64 0]))=H1 at a0 a1 xa na ⊢;refine aj (ale H1 _ xa ?_);have d1:=d.ext xa;have gB1:=d1.hB;obtain ⟨es,ck,m,Bf,e1,eB,e2,e3,e4⟩:=d.ways.ex;rw [<- xa.get _ d.ways.lt] at e1;obtain ⟨_,IJ,hbW,Z9⟩:=e4 nm t _ BV hT;rw [<- xa.get _ IJ] at Z9
 have BI:dc .string (.agg [.int .i64 0,.au,.int .i64 0]) false (.map Wb) (.str (xR nm t)) H1=some (qC (Bf nm t) (i,vs,w)):=by
  obtain ⟨q,hq,oS⟩:=qL.jB (k:=xR nm t) 0 e2;have hf:=e3 nm t BV;rw [hT] at hf;simp only [dc,lH,e1,pK,pJ,if_true,hq]
  cases q with
  |none=>simp only at oS;rw [oS] at hf;cases hf
  |some jv=>
   obtain ⟨n',_,b',_⟩:=oS;obtain ⟨j,v⟩:=jv;rw [b'] at hf;simp only [map_some,Option.some.injEq] at hf;simp [hf]
 obtain ⟨b,hb⟩:∃ b,b=Bf nm t:=⟨_,rfl⟩
 rw [<- hb] at BI Z9 IJ;clear e1 eB e2 e3 e4
 have st1:bh 3 (.ptr (h.next+1) 0) (qC b (i,vs,w)) H1=some (H1.set (h.next+1) (.cells [.int .i64 (i:Int),.slice b 0 vs.length 1,.int .i64 (w:Int)])):=by
  unfold qC;rw [cJ (n:=3) (v:=.agg [.int .i64 (i:Int),.slice b 0 vs.length 1,.int .i64 (w:Int)]) a1 rfl rfl (by simp)];rfl
 have b1:(H1.set (h.next+1) (.cells [.int .i64 (i:Int),.slice b 0 vs.length 1,.int .i64 (w:Int)])).get (h.next+1)=some (.cells [.int .i64 (i:Int),.slice b 0 vs.length 1,.int .i64 (w:Int)]):=by rw [ag.aP,if_pos rfl]
 have b0:(H1.set (h.next+1) (.cells [.int .i64 (i:Int),.slice b 0 vs.length 1,.int .i64 (w:Int)])).get h.next=some (.cells [.int .i64 0,.au,.au]):=by rw [ag.aP,if_neg (by omega)];exact a0
 have hbh:b≠h.next+1:=by omega
 have bv':(H1.set (h.next+1) (.cells [.int .i64 (i:Int),.slice b 0 vs.length 1,.int .i64 (w:Int)])).get b=some (.cells (vs.map iv)):=by rw [ag.aP,if_neg hbh];exact Z9
 have xb:bG h (H1.set (h.next+1) (.cells [.int .i64 (i:Int),.slice b 0 vs.length 1,.int .i64 (w:Int)])):=xa.set (by omega) _;have nb:(H1.set (h.next+1) (.cells [.int .i64 (i:Int),.slice b 0 vs.length 1,.int .i64 (w:Int)])).next=h.next+2:=by rw [ag.bq];exact na
 simp only [aS,reduceAdd,reduceEqDiff,reduceIte,ai gB1,AV.beq_refl,Bool.and_self,Bool.and_true,if_true,BI,st1,ai b1];generalize (H1.set (h.next+1) (.cells [.int .i64 (i:Int),.slice b 0 vs.length 1,.int .i64 (w:Int)]))=H2 at b0 b1 bv' xb nb ⊢;have c2:(H2.alloc (.cells [.int .i64 0,.au,.au])).get (h.next+2)=some (.cells [.int .i64 0,.au,.au]):=by rw [<- nb];exact aD _ _
 have xc:bG H2 (H2.alloc (.cells [.int .i64 0,.au,.au])):=bG.alloc _ _;have nc:(H2.alloc (.cells [.int .i64 0,.au,.au])).next=h.next+3:=by rw [ag.aV,nb]
 rw [nb];have tI:vs.length<=12:=by rw [ha.1];exact Cp
 generalize (H2.alloc (.cells [.int .i64 0,.au,.au]))=H3 at c2 xc nc ⊢;refine aj (CN (by rw [xc.get _ (by omega)];exact bv') (by omega) (by omega) fun b' H4 k1 k2 k3 x4=>?_);have n4:=x4.next
 have c1:H4.get (h.next+1)=some (.cells [.int .i64 (i:Int),.slice b 0 vs.length 1,.int .i64 (w:Int)]):=by rw [x4.get _ (by omega),xc.get _ (by omega)];exact b1
 have d2:H4.get (h.next+2)=some (.cells [.int .i64 0,.au,.au]):=by rw [x4.get _ (by omega)];exact c2
 have d0:H4.get h.next=some (.cells [.int .i64 0,.au,.au]):=by rw [x4.get _ (by omega),xc.get _ (by omega)];exact b0
 have Iz:bG h H4:=(xb.trans xc).trans x4
 have US:bh 3 (.ptr (h.next+2) 0) (.agg [.int .i64 (i:Int),.slice b' 0 vs.length 1,.au]) H4=some (H4.set (h.next+2) (.cells [.int .i64 (i:Int),.slice b' 0 vs.length 1,.au])):=by
  rw [cJ (n:=3) (v:=.agg [.int .i64 (i:Int),.slice b' 0 vs.length 1,.au]) d2 rfl rfl (by simp)];rfl
 have wk:jM [.int .i64 0,.au,.au] [(0,1),(1,1)] [.int .i64 (i:Int),.slice b' 0 vs.length 1]=some (.agg [.int .i64 (i:Int),.slice b' 0 vs.length 1,.au]):=abS i (slV b' vs.length) (slV 0 0);have e1:(H4.set (h.next+2) (.cells [.int .i64 (i:Int),.slice b' 0 vs.length 1,.au])).get (h.next+1)=some (.cells [.int .i64 (i:Int),.slice b 0 vs.length 1,.int .i64 (w:Int)]):=by rw [ag.aP,if_neg (by omega)];exact c1
 have e2:(H4.set (h.next+2) (.cells [.int .i64 (i:Int),.slice b' 0 vs.length 1,.au])).get (h.next+2)=some (.cells [.int .i64 (i:Int),.slice b' 0 vs.length 1,.au]):=by rw [ag.aP,if_pos rfl]
 have e0:(H4.set (h.next+2) (.cells [.int .i64 (i:Int),.slice b' 0 vs.length 1,.au])).get h.next=some (.cells [.int .i64 0,.au,.au]):=by rw [ag.aP,if_neg (by omega)];exact d0
 have ev:(H4.set (h.next+2) (.cells [.int .i64 (i:Int),.slice b' 0 vs.length 1,.au])).get b'=some (.cells (vs.map iv)):=by rw [ag.aP,if_neg (by omega)];exact k3
 have eo:(H4.set (h.next+2) (.cells [.int .i64 (i:Int),.slice b' 0 vs.length 1,.au])).get b=some (.cells (vs.map iv)):=by rw [ag.aP,if_neg (by omega),x4.get _ (by omega),xc.get _ (by omega)];exact bv'
 have x05:bG h (H4.set (h.next+2) (.cells [.int .i64 (i:Int),.slice b' 0 vs.length 1,.au])):=Iz.set (by omega) _;have n5:(H4.set (h.next+2) (.cells [.int .i64 (i:Int),.slice b' 0 vs.length 1,.au])).next=H4.next:=ag.bq _ _ _
 have c1':ah none (.ptr (h.next+1) 0) H4=some (.int .i64 (i:Int)):=by rw [ai c1];rfl
 simp only [aS,reduceAdd,reduceEqDiff,reduceIte,c1',AV.beq_refl,Bool.and_self,Bool.and_true,if_true,wk,US];generalize (H4.set (h.next+2) (.cells [.int .i64 (i:Int),.slice b' 0 vs.length 1,.au]))=H5 at e0 e1 e2 ev eo x05 n5 ⊢;have d5:=d.ext x05;have hnt:∀ hh,ah (some 3) (.dI (rules.l.flatMap aO) (i*3)) hh=some (.agg (aO r)):=fun hh=>cX ei hr;simp only [aS,reduceAdd,reduceEqDiff,reduceIte,ai e1,bD,ai d5.hB,ai d5.hP,aU rules Lx,hnt];refine aj (cI iF fun hd cs ls ZP uq Io=>?_);obtain ⟨H6,hs6,f6,fo6,fn6⟩:=cR (h:=H5) (zs:=[.int .i64 0,.str [],.au,.au,.int .i64 0,.au,.au,.au]) (cs:=bu (i:Int) r (varsOf r).length (an encI 1 hd) (an eu 1 cs) (an encI 1 ls)) (n:=8) rfl rfl (uj _ _ _ _ _ _);have x56:bG H5 H6:=⟨by omega,fun c hc=>fo6 c (by omega)⟩
 have x06:=x05.trans x56;have f6':=f6;simp only [bu] at f6';simp only [aS,reduceAdd,reduceEqDiff,reduceIte,hs6,ai f6'];have BF:cs.l.length=r.body.l.length:=by have:=congrArg List.length uq;simpa using this
 refine aG 0 r.body.l.length (zero_le _) (fun j e h'=>∃ (a:AV) (l:List (PV×mJ)),H6.next<=h'.next/\(∀ c,c<H6.next->c≠h.next+2->h'.get c=H6.get c)/\h'.get (h.next+2)=some (.cells [.int .i64 (i:Int),.slice b' 0 vs.length 1,a]) /\
  qc (fun _=>False) se dB 3 H6.next h' a l/\l.length=((r.body.l.take j).filter (fQ (ax rules.l))).length/\(∀ (k:Nat) (c:dD) (q:mJ),((r.body.l.take j).filter (fQ (ax rules.l)))[k]?=some c->(l.map (·.2))[k]?=some q->xQ T rules.l c.name (aM vs (aQ r c)) q)/\(∀ p ∈ l,z7 p.2) /\
  e 0 = .ptr Bb 0/\e 6 = .ptr h.next 0/\e 7 = .ptr (h.next+1) 0/\e 8 = .ptr (h.next+2) 0/\e 9 = .ptr H5.next 0/\e 42=an bR 4 r.body/\e 43 = .int .i64 (r.body.l.length:Int)/\e 44 = .int .i64 (j:Int))
  ⟨.au,[],dK _,fun _ _ _=>rfl,by rw [fo6 _ (by omega)];exact e2,.nil,rfl,fun k c q hc _=>(by simp at hc),fun p hp=>(by cases hp),rfl,rfl,rfl,rfl,rfl,rfl,rfl,rfl⟩ ?_ ?_
 ·rintro j e h' _ hj ⟨a,l,wj,mI,g2,ow,Sb,hbu,zH,q0,q6,q7,q8,q9,q42,q43,q44⟩ K' oA S0 yx hp;have hc:r.body.l[j]?=some r.body.l[j]:=ec hj;generalize r.body.l[j]=c at hc;have mu:=iA hc;have x6':bG h h':=⟨by omega,fun c hc=>by rw [mI c (by omega) (by omega)];exact x06.get c hc⟩
  obtain ⟨H7,hs7,g7,go7,gn7⟩:=cR (h:=h') (zs:=[.int .i64 0,.bool false,.str [],.au]) (cs:=bR c) (n:=4) rfl rfl (gQ c);have x7:bG h' H7:=⟨by omega,fun b hb=>go7 b (by omega)⟩
  have xh7:=x6'.trans x7;have d7:=d.ext xh7;have l7:ah (some 4) (.ptr h'.next 0) H7=some (.agg (bR c)):=by rw [ai g7,cQ (gh c)]
  have UT:j<cs.l.length:=by omega
  have jV:cs.l[j]?=some cs.l[j]:=ec UT
  have Bl:(cs.l[j]).l=(aQ r c).map fun (p:Nat)=>(p:Int):=by
   have h3:(cs.l.map Sl.l)[j]?=some (iH (varsOf r) c.args.l):=by rw [uq,getElem?_map,hc];rfl
   rw [getElem?_map,jV] at h3;exact Option.some.inj h3
  generalize cs.l[j]=xi at jV Bl;have BB:(aQ r c).length=c.args.l.length:=by unfold aQ placesOf;simp
  have mM:∀ p ∈ aQ r c,p<vs.length:=by rw [ha.1];exact hG (jm mu)
  rw [F.dS.aT];simp only [q0,q42,q43,q44,aS,reduceAdd,reduceEqDiff,reduceIte,bl hj,aU r.body hj,cX gh hc,hs7,bD,ai d7.hB,l7];refine aj (Hh d7.hP d7.low.1 d7.hl d7.low.2.1 fun H8 x8=>?_);have Tv:=x7.trans x8;have n8':=x8.next
  have xh8:=x6'.trans Tv;have n8:=Tv.next
  have ej:(r.body.l.take (j+1)).filter (fQ (ax rules.l))=(r.body.l.take j).filter (fQ (ax rules.l))++if fQ (ax rules.l) c=true then [c] else []:=by
   rw [take_add_one,hc,toList_some,filter_append];by_cases hh:fQ (ax rules.l) c=true
   ·rw [if_pos hh,filter_cons_of_pos hh];rfl
   ·rw [if_neg hh,filter_cons_of_neg hh];rfl
  simp only [aS,reduceAdd,reduceEqDiff,reduceIte]
  cases iQ:fQ (ax rules.l) c with
  |false=>
   rw [iQ,if_neg (by simp),append_nil] at ej;simp only [aE,q44,aK hj pH,aq];refine oA _ _ ⟨a,l,by omega,fun c c1 c2=>by rw [Tv.get c (by omega)];exact mI c c1 c2,by rw [Tv.get _ (by omega)];exact g2,ow.ext Tv,by rw [ej];exact Sb,by rw [ej];exact hbu,zH,q0,q6,q7,q8,q9,q42,q43,rfl⟩
  |true=>
  rw [iQ,if_pos rfl] at ej;obtain ⟨VT,hnl⟩:=PW c mu iQ
  have mN:iJ 64 (aM vs (aQ r c))=true:=by
   have h1:=iD ha.2 mM;have:=d.ov;unfold iJ at h1 ⊢;rw [List.all_eq_true] at h1 ⊢;intro z hz;have h2:=h1 z hz;simp at h2 ⊢;omega
  have m2:H8.get (h.next+2)=some (.cells [.int .i64 (i:Int),.slice b' 0 vs.length 1,a]):=by rw [Tv.get _ (by omega)];exact g2
  have m1:H8.get (h.next+1)=some (.cells [.int .i64 (i:Int),.slice b 0 vs.length 1,.int .i64 (w:Int)]):=by rw [Tv.get _ (by omega),mI _ (by omega) (by omega),fo6 _ (by omega)];exact e1
  have mo:H8.get b=some (.cells (vs.map iv)):=by
   have IK:b≠h.next+2:=by omega
   rw [Tv.get _ (by omega),mI _ (by omega) IK,fo6 _ (by omega)];exact eo
  have m6:H8.get H5.next=some (.cells (bu (i:Int) r (varsOf r).length (an encI 1 hd) (an eu 1 cs) (an encI 1 ls))):=by rw [Tv.get _ (by omega),mI _ (by omega) (by omega)];exact f6
  have m7:ah none (.ptr h'.next 2) H8=some (.str c.name):=by rw [ai (by rw [x8.get _ (by omega)];exact g7)];rfl
  simp only [bu] at m6;simp only [aF,q7,q8,q9,q44,aS,reduceAdd,reduceEqDiff,reduceIte,ai m2,m7,ai m1,ai m6,aU cs UT,ke jV];refine aj (Bh (ps:=aQ r c) mo (by omega) rfl Bl mM (by rw [BB];have:=iF.2.2 c mu;omega) fun H9 t1 x9 t2=>?_);have x79:=Tv.trans x9;have n9:=x79.next
  have p2:H9.get (h.next+2)=some (.cells [.int .i64 (i:Int),.slice b' 0 vs.length 1,a]):=by rw [x79.get _ (by omega)];exact g2
  have p7:ah none (.ptr h'.next 2) H9=some (.str c.name):=by rw [ai (by rw [x9.get _ (by omega),x8.get _ (by omega)];exact g7)];rfl
  have ahw:=fM vs (aQ r c);simp only [aS,reduceAdd,reduceEqDiff,reduceIte,p7,ai p2,AV.beq_refl,Bool.and_self,Bool.and_true,if_true,q0];obtain ⟨⟨i',us,w'⟩,hy⟩:=hkn c mu iQ
  have eM:w'<w:=by
   have h1:=r9 (f:=eF T r vs) mu iQ;have h2:eF T r vs c=w':=by unfold eF Ag;rw [hy]
   omega
  refine aj (ih w' eM (d.ext (x6'.trans x79)) ⟨VT,mN⟩ hy (fun h2 K2 iu Tt=>?_) fun HA v p xA hbp hpp Tu=>?_)
  ·rw [<- ahw];exact xS (by omega) (by rw [ahw,BB];have:=iF.2.2 c mu;omega) (by rw [iu.get _ t2];exact t1) Tt
  have x7A:=x79.trans xA;have nA:=x7A.next
  have nA9:=xA.next
  have s2:HA.get (h.next+2)=some (.cells [.int .i64 (i:Int),.slice b' 0 vs.length 1,a]):=by rw [x7A.get _ (by omega)];exact g2
  have owA:=ow.ext x7A
  have am5:l.length<=3000:=by
   rw [Sb];have z2:((r.body.l.take j).filter (fQ (ax rules.l))).length<=(r.body.l.take j).length:=length_filter_le _ _;have z3:=length_take_le' j r.body.l;have:=iF.2.1;omega
  obtain ⟨a',HB,ap,owB,fB,nB,xB,bB⟩:=owA.push JT CO (by omega) (bytes:=56) (by rw [YU];omega) v p (fun b hb=>hb.elim) fun h2 hh=>Tu h2 fun b b1 b2=>by
   refine hh b (by omega) b2 (fun h=>h) fun e=>?_;have:=ow.own.lt e;omega
  have s2B:HB.get (h.next+2)=some (.cells [.int .i64 (i:Int),.slice b' 0 vs.length 1,a]):=by
   rw [fB _ (by omega) fun e=>by have:=ow.own.ge e;omega];exact s2
  obtain ⟨oa1,Zj⟩:=qR owB.own
  have st3:bh 1 (.ptr (h.next+2) 2) a' HB=some (HB.set (h.next+2) (.cells [.int .i64 (i:Int),.slice b' 0 vs.length 1,a'])):=by
   rw [cJ (n:=1) s2B (by rw [Zj];rfl) (by rw [Zj];exact oa1) (by simp),Zj];rfl
  have ls2:ah none (.ptr (h.next+2) 2) HA=some a:=by rw [ai s2];rfl
  simp only [aS,reduceAdd,reduceEqDiff,reduceIte,ls2,AV.beq_refl,Bool.and_self,Bool.and_true,if_true,abR v,ap,q8,st3,q44,aK hj pH];have nB':HA.next<=HB.next:=nB
  refine oA _ _ ⟨a',l++[(v,p)],by rw [ag.bq];omega,fun c c1 c2=>?_,by rw [ag.aP,if_pos rfl],owB.low (by omega) _,by rw [ej,length_append,length_append,Sb];rfl,fun k c' q AO hq=>?_,fun z hz=>?_,q0,q6,q7,q8,q9,q42,q43,rfl⟩
  ·rw [ag.aP,if_neg c2,fB c (by omega) fun e=>by have:=ow.own.ge e;omega,x7A.get c (by omega)];exact mI c c1 c2
  ·rw [ej] at AO;rw [map_append] at hq;by_cases hk:k<l.length
   ·rw [getElem?_append_left (by omega)] at AO;rw [getElem?_append_left (by simpa using hk)] at hq;exact hbu k c' q AO hq
   ·rw [getElem?_append_right (by omega)] at AO;rw [getElem?_append_right (by simp;omega)] at hq;rw [length_map] at hq;rw [<- Sb] at AO;obtain ⟨z,hz⟩:∃ z,z=k-l.length:=⟨_,rfl⟩
    rw [<- hz] at AO hq
    cases z with
    |zero=>
     simp only [getElem?_cons_zero,Option.some.injEq] at AO;simp only [map_cons,getElem?_cons_zero,Option.some.injEq] at hq;subst AO;subst hq;exact hbp
    |succ z=>simp at AO
  ·rcases mem_append.1 hz with hz|hz
   ·exact zH z hz
   ·rw [mem_singleton] at hz;subst hz;exact hpp
 ·rintro e h' ⟨a,l,wj,mI,g2,ow,Sb,hbu,zH,q0,q6,q7,q8,q9,q42,q43,q44⟩ K' S0;rw [kB (dK _)] at Sb hbu;have x6':bG h h':=⟨by omega,fun c hc=>by rw [mI c (by omega) (by omega)];exact x06.get c hc⟩
  have gv:h'.get b'=some (.cells (vs.map iv)):=by rw [mI _ (by omega) (by omega),fo6 _ (by omega)];exact ev
  have g0:h'.get h.next=some (.cells [.int .i64 0,.au,.au]):=by rw [mI _ (by omega) (by omega),fo6 _ (by omega)];exact e0
  obtain ⟨oa1,Zj⟩:=qR ow.own
  have ho:bE [.int .i64 (i:Int),.slice b' 0 vs.length 1,a]=true:=by
   simp only [bE,Bool.and_true] at oa1 ⊢;rw [oa1];rfl
  have lA:ah (some 3) (.ptr (h.next+2) 0) h'=some (.agg [.int .i64 (i:Int),.slice b' 0 vs.length 1,a]):=by rw [ai g2];rfl
  have sA:bh 3 (.ptr h.next 0) (.agg [.int .i64 (i:Int),.slice b' 0 vs.length 1,a]) h'=some (h'.set h.next (.cells [.int .i64 (i:Int),.slice b' 0 vs.length 1,a])):=by
   rw [cJ (n:=3) (v:=.agg [.int .i64 (i:Int),.slice b' 0 vs.length 1,a]) g0 rfl ho (by simp)];rfl
  have lB:ah (some 3) (.ptr h.next 0) (h'.set h.next (.cells [.int .i64 (i:Int),.slice b' 0 vs.length 1,a]))=some (.agg [.int .i64 (i:Int),.slice b' 0 vs.length 1,a]):=by rw [ai (cs:=[.int .i64 (i:Int),.slice b' 0 vs.length 1,a]) (by rw [ag.aP,if_pos rfl])];rfl
  rw [F.dS.aT];simp only [q43,q44,aS,reduceAdd,reduceEqDiff,reduceIte,aX];rw [S0,F.dS.aJ];simp only [bg,reduceEqDiff,reduceIte,q6,q8,lA,sA,aq,S8,lB,oneOf];obtain ⟨x,jG,iu⟩:=ow.data
  have Bl:x.l.length<=cu:=by
   rw [jG,length_map,Sb];have:=length_filter_le (fQ (ax rules.l)) r.body.l;omega
  have wL:xQ T rules.l nm t (.mk (i:Int) (some vs) x):=by
   refine .mk nm t i vs w r _ hT hr rfl rfl ?_ fun k c q hc hq=>hbu k c q hc (by rw [<- jG];exact hq);show x.l.length=_;rw [jG,length_map,Sb]
  refine hK _ (((i:Int),slV b' vs.length,(⟨a,oa1,Zj⟩:Iv)):PV) (.mk (i:Int) (some vs) x) (x6'.set (dK _) _) wL (.mk _ (by show vs.length<=cu;unfold cu;omega) Bl fun q hq=>?_) fun h2 hh=>?_
  ·rw [show mJ.parts (.mk (i:Int) (some vs) x)=x from rfl,jG] at hq;obtain ⟨p,hp,rfl⟩:=mem_map.1 hq;exact zH p hp
  ·rw [GR];have hh':∀ c,h.next<c->c<h'.next->h2.get c=h'.get c:=fun c c1 c2=>by rw [hh c (by omega) (by rw [ag.bq];exact c2),ag.aP,if_neg (by omega)]
   refine .cons (.scalar _ rfl) (.cons ?_ (.cons (iu h2 fun c c1 c2 _=>hh' c (by omega) c2) .nil));exact og (by rw [hh' b' (by omega) (by omega)];exact gv)
def k8:mJ:=.mk 0 none none
theorem PY:dB k8 = [.int .i64 0,.au,.au]:=by rw [show k8 = .mk 0 none none from rfl,GR];rfl
def S9(n:Nat)(L:Lk)(nm:bQ)(t:List Int):Prop:=iJ n t=true/\L nm (iy n t)=true
def PZ(rs:List aR)(s:eG)(nm:bQ)(t:List Int)(p:mJ)(e:Int):Prop:=
 (By rs s e/\p=k8)\/(gW rs s/\(nm ∉ ax rs\/jq rs nm≠t.length)/\e=4/\p=k8) \/
  (gW rs s/\nm ∈ ax rs/\jq rs nm=t.length/\∃ L,jZ rs s.size.toNat s L/\((¬ S9 s.size.toNat L nm t/\e=6/\p=k8) \/
   (S9 s.size.toNat L nm t/\∃ T,NB s.size.toNat L rs T/\vj s.size.toNat L rs T/\((T nm t=none/\e=5/\p=k8)\/(e=0/\xQ T rs nm t p/\z7 p)))))
theorem qT(s:St):dV TP s Tryz.f22.results.toList=(match ah (some 3) (s.env 8) s.h,(some [s.env 9]:Option (List AV)) with|some v,some vs=>some (v :: vs)|_,_=>none):=by kernel_rfl
theorem VW{i:Int}{k:Int}{y:AV}(hK:∀ h',bG h h'->K (.ret (.tuple [])) h'=true) :
  Sem TP 66 ([]++([.agg (bu i r k (an encI 1 hd) (an eu 1 cs) (an encI 1 ls)),y]++[])) h K:=by
 refine F.D6 ?_;rw [F.Gb];simp only [cG (uj i r k hd cs ls),aq];exact hK _ (bG.alloc _ _)
theorem abV:okB 47=false:=rfl
theorem VX{s:bQ}(h:eU s=true):(47:UInt8) ∉ s/\s.length<=12:=by
 cases s with
 |nil=>cases h
 |cons c s=>
  unfold eU at h;simp only [and_eq_true,decide_eq_true_eq] at h;refine ⟨fun hm=>?_,h.1⟩;have:=List.all_eq_true.1 h.2.2.2 47 hm;rw [abV] at this;cases this
theorem CP{m:fy}(gI:dM rs []=some m)(h:nm ∈ ax rs):(47:UInt8) ∉ nm/\nm.length<=12:=by
 obtain ⟨r,hr,rfl⟩:=mem_map.1 h;have h1:=(gZ gI r hr).1;unfold oo at h1;rw [and_eq_true] at h1;exact VX h1.1
theorem Ta(h:fQ hs c=true):c.name ∈ hs:=by
 unfold fQ at h;rw [and_eq_true,decide_eq_true_eq] at h;exact h.1
set_option maxHeartbeats 4000000 in
theorem ki{rules:Sl aR}{s:eG}(lu:∀ r ∈ rules.l,r.ok)(iF:∀ r ∈ rules.l,r.kH)(qu:s.ok){nm:bQ}{t:Sl Int}(hnl:nm.length<=1000)(z6:t.l.length<=60){h:ag}{K:Out->ag->Bool}
  (hK:∀ p e,PZ rules.l s nm t.l p e->K (.ret (.tuple [.agg (dB p),.int .i64 e])) h=true) :
  Sem TP 22 [an aO 3 rules,.agg (aB s),.str nm,an encI 1 t] h K:=by
 have main:Sem TP 22 [an aO 3 rules,.agg (aB s),.str nm,an encI 1 t] ag.empty (fun o h'=>yes (∃ p e cs,o = .ret (.tuple [.agg cs,.int .i64 e])/\kD true h' cs (dB p)/\PZ rules.l s nm t.l p e)):=by
  generalize hR:(fun (o:Out) (h':ag)=>yes (∃ p e cs,o = .ret (.tuple [.agg cs,.int .i64 e])/\kD true h' cs (dB p)/\PZ rules.l s nm t.l p e))=R;have fin:∀ p e cs h',kD true h' cs (dB p)->PZ rules.l s nm t.l p e->R (.ret (.tuple [.agg cs,.int .i64 e])) h'=true:=fun p e cs h' h1 h2=>by rw [<- hR];exact cO.2 ⟨p,e,cs,rfl,h1,h2⟩
  clear hR;refine F.Ib ?_;rw [F.KF];simp only [cG (dH s),aq,bA,ag.aV];have g0:((ag.alloc ag.empty (.cells (aB s))).alloc (.cells [.int .i64 0,.au,.au])).get 0=some (.cells (aB s)):=by simp [ag.aW,bA]
  have g1:((ag.alloc ag.empty (.cells (aB s))).alloc (.cells [.int .i64 0,.au,.au])).get 1=some (.cells [.int .i64 0,.au,.au]):=by simp [ag.aW,bA]
  have gn:((ag.alloc ag.empty (.cells (aB s))).alloc (.cells [.int .i64 0,.au,.au])).next=2:=rfl
  generalize ((ag.alloc ag.empty (.cells (aB s))).alloc (.cells [.int .i64 0,.au,.au]))=H0 at g0 g1 gn ⊢;have l0:ah (some 2) (.ptr 0 0) H0=some (.agg (aB s)):=by rw [ai g0,cQ (cs:=aB s) (n:=2) rfl]
  have hz:jM [.int .i64 0,.au,.au] [] []=some (.agg [.int .i64 0,.au,.au]):=rfl
  have put:∀ (cs:List AV) (h':ag),cs.length=3->bE cs=true->h'.get 1=some (.cells [.int .i64 0,.au,.au])->bh 3 (.ptr 1 0) (.agg cs) h'=some (h'.set 1 (.cells cs))/\ah (some 3) (.ptr 1 0) (h'.set 1 (.cells cs))=some (.agg cs):=fun cs h' hl ho hg=>by
   obtain ⟨c1,c2,c3,rfl⟩:∃ a b c,cs = [a,b,c]:=by
    match cs,hl with
    |[a,b,c],_=>exact ⟨a,b,c,rfl⟩
   refine ⟨?_,?_⟩
   ·rw [cJ (n:=3) (v:=.agg [c1,c2,c3]) hg rfl ho (by simp)];rfl
   ·rw [ai (cs:=[c1,c2,c3]) (by rw [ag.aP,if_pos rfl])];rfl
  have bad:∀ (e:Int) (h':ag) (en:Env),PZ rules.l s nm t.l k8 e->h'.get 1=some (.cells [.int .i64 0,.au,.au])->en 8 = .ptr 1 0->en 9 = .int .i64 e ->
    (af (jM [.int .i64 0,.au,.au] [] []) fun Yu=>af (bh 3 (.ptr 1 0) Yu h') fun h11=>af (match ah (some 3) (en 8) h11,(some [en 9]:Option (List AV)) with|some v,some vs=>some (v :: vs)|_,_=>none) fun vs=>R (.ret (oneOf vs)) h11)=true:=by
   intro e h' en hw hg e8 e9;obtain ⟨p1,p2⟩:=put [.int .i64 0,.au,.au] h' rfl rfl hg;simp only [hz,aq,p1,e8,e9,p2,oneOf];exact fin k8 e _ _ (by rw [PY];exact .dP rfl) hw
  simp only [l0,aq];refine aj (aC lu iF qu (fun hb h' hf=>?_) (fun a1 a2 a3 h' hf=>?_) (fun a1 a2 a3 a4 h' hf=>?_) fun a1 a2 a3 a4 h' n P A M S B lo ks k D0 m hn n1 ov ic sh sd hf Pw=>?_)
  ·simp only [aS,reduceAdd,reduceEqDiff,reduceIte,ct];simp only [show (!decide ((1:Int)=0))=true from rfl,aF,qT];exact bad 1 h' _ (.inl ⟨.inl ⟨hb,rfl⟩,rfl⟩) (by rw [hf 1 (by omega)];exact g1) rfl rfl
  ·simp only [aS,reduceAdd,reduceEqDiff,reduceIte,ct];simp only [show (!decide ((4:Int)=0))=true from rfl,aF,qT];exact bad 4 h' _ (.inl ⟨.inr ⟨a1,a2,.inl ⟨a3,rfl⟩⟩,rfl⟩) (by rw [hf 1 (by omega)];exact g1) rfl rfl
  ·simp only [aS,reduceAdd,reduceEqDiff,reduceIte,ct];simp only [show (!decide ((5:Int)=0))=true from rfl,aF,qT];exact bad 5 h' _ (.inl ⟨.inr ⟨a1,a2,.inr ⟨a3,a4,rfl⟩⟩,rfl⟩) (by rw [hf 1 (by omega)];exact g1) rfl rfl
  have sV:s.size.toNat=n:=by omega
  have ho:gW rules.l s:=⟨a1,a2,a3,a4⟩
  rw [gn] at Pw hf;have k1:h'.get 1=some (.cells [.int .i64 0,.au,.au]):=by rw [hf 1 (by omega)];exact g1
  have gI:=sh.gI;simp only [aS,reduceAdd,reduceEqDiff,reduceIte,ct];simp only [decide_true,Bool.not_true,aE,bD,aS,reduceAdd,reduceEqDiff,reduceIte,ai sh.hP,sh.hl.look];by_cases nx:nm ∈ ax rules.l
  case neg=>
   simp only [ep nx,Bool.not_false,aF,qT];exact bad 4 h' _ (.inr (.inl ⟨ho,.inl nx,rfl,rfl⟩)) k1 rfl rfl
  obtain ⟨hfm,r0,hr0,alh,abW⟩:=qS gI nx;obtain ⟨VT,arw⟩:=CP gI nx;obtain ⟨esA,ckA,hA,hmA⟩:=sh.hA
  have lkA:dc .string (.int .i64 0) false (.map A) (.str nm) h'=some (.int .i64 (jq rules.l nm:Int)):=by
   rw [xh hA hmA.1,hfm];rfl
  simp only [ey nx,Bool.not_true,aE,bD,aS,reduceAdd,reduceEqDiff,reduceIte,ai sh.hP,lkA,ct];by_cases zk:jq rules.l nm=t.l.length
  case neg=>
   simp only [ep (show ¬ ((jq rules.l nm:Nat):Int)=(t.l.length:Int) by omega),Bool.not_false,aF,qT];exact bad 4 h' _ (.inr (.inl ⟨ho,.inr zk,rfl,rfl⟩)) k1 rfl rfl
  simp only [ey (show ((jq rules.l nm:Nat):Int)=(t.l.length:Int) by omega),Bool.not_true,aE];refine aj (G1 iF a1 a2 a3 a4 hn n1 ov ic sh sd (fun _ _ _ _ _ _ _ _ _ hk=>VW hk) fun h3 D' L hF hDF v8 Lz Rj Vd=>?_);obtain ⟨o1,o2,o3,o4,o5,o6⟩:=Lz.ord;have p1:h3.get 1=some (.cells [.int .i64 0,.au,.au]):=by rw [Rj 1 (by omega)];exact k1
  have p0:h3.get 0=some (.cells (aB s)):=by rw [Rj 0 (by omega),hf 0 (by omega)];exact g0
  have lz:ah none (.ptr 0 0) h3=some (.int .i64 (n:Int)):=by rw [ai p0,<- hn];rfl
  have Zk:∀ p e,((¬ S9 n L nm t.l/\e=6/\p=k8)\/(S9 n L nm t.l/\∃ T,NB n L rules.l T/\vj n L rules.l T/\((T nm t.l=none/\e=5/\p=k8)\/(e=0/\xQ T rules.l nm t.l p/\z7 p))))->PZ rules.l s nm t.l p e:=fun p e hh=>by
   refine .inr (.inr ⟨ho,nx,zk,L,?_,?_⟩)
   ·rw [sV];exact hF
   ·rw [sV];exact hh
  simp only [aS,reduceAdd,reduceEqDiff,reduceIte];refine aj (oY (a:=[]) (b:=[.ptr 0 0]) (p:=fun v=>decide (v<0)||decide ((n:Int)<=v)) (by unfold cu;omega) (fun v K' Zg=>?_) ?_)
  ·refine F.D8 ?_;rw [F.Gc];simp only [aS,reduceAdd,reduceEqDiff,reduceIte];by_cases BG:v<0
   ·simp only [ey BG,aF,Bool.true_or] at Zg ⊢;exact Zg
   ·simp only [ep BG,aE,Bool.false_or,lz,aS,reduceAdd,reduceEqDiff,reduceIte] at Zg ⊢;exact Zg
  rw [VL];simp only [aS,reduceAdd,reduceEqDiff,reduceIte]
  cases Lu:iJ n t.l with
  |false=>
   simp only [Bool.not_false,aF,qT];exact bad 6 h3 _ (Zk _ _ (.inl ⟨fun hh=>(by have:=hh.1;rw [Lu] at this;cases this),rfl,rfl⟩)) p1 rfl rfl
  |true=>
  obtain ⟨hp4,q0,hq0,hql⟩:=rZ hn a4 sd hr0;rw [alh] at hq0;obtain ⟨q,hq,_,ali⟩:=v8.get hq0;have hlen:n ^ t.l.length<=4096:=by rw [<- zk,abW];exact hp4
  have ahx:t.l.length<=12:=by rw [<- zk,abW];exact mz (gZ gI r0 hr0).1
  have sj:iy n t.l<q.2.length:=by
   have:=lX Lu;rw [ali,hql,<- abW,zk];exact this
  have lkB:=Lz.hD.look hq;have abX:=SJ hq sj;rw [hDF] at abX;obtain ⟨_,_,_,hqc⟩:=Lz.hD.mc nm q hq;simp only [Bool.not_true,aE,bD,aS,reduceAdd,reduceEqDiff,reduceIte,ai Lz.hS,lkB];refine aj (Gz Lz.hS n1 (x:=t) ahx hlen Lu ?_);have lb:ah none (.ptr q.1 (iy n t.l)) h3=some (.bool (L nm (iy n t.l))):=Bg hqc abX;simp only [aS,reduceAdd,reduceEqDiff,reduceIte,ai Lz.hS,lkB,AV.beq_refl,Bool.and_self,Bool.and_true,if_true,kF sj,lb]
  cases ahy:L nm (iy n t.l) with
  |false=>
   simp only [Bool.not_false,aF,qT];exact bad 6 h3 _ (Zk _ _ (.inl ⟨fun hh=>(by have:=hh.2;rw [ahy] at this;cases this),rfl,rfl⟩)) p1 rfl rfl
  |true=>
  have hh:S9 n L nm t.l:=⟨Lu,ahy⟩
  have BV:BD nm t.l:=⟨VT,by
   unfold iJ at Lu ⊢;rw [List.all_eq_true] at Lu ⊢;intro z hz;have h2:=Lu z hz;simp at h2 ⊢
   omega⟩
  have wk:jM [.gC,.kX] [(0,1),(1,1)] [.ptr P 0,.map h3.next]=some (.agg [.ptr P 0,.map h3.next]):=rfl;simp only [Bool.not_true,aE,wk,aq,cG (cs:=[.ptr P 0,.map h3.next]) rfl,ag.aV];have b0:((h3.alloc (.map [] 0)).alloc (.cells [.ptr P 0,.map h3.next])).get h3.next=some (.map [] 0):=by rw [ag.aW,ag.aV,if_neg (by omega)];exact aD _ _
  have b1:((h3.alloc (.map [] 0)).alloc (.cells [.ptr P 0,.map h3.next])).get (h3.next+1)=some (.cells [.ptr P 0,.map h3.next]):=aD _ _;have bx:bG h3 ((h3.alloc (.map [] 0)).alloc (.cells [.ptr P 0,.map h3.next])):=(bG.alloc _ _).trans (bG.alloc _ _);have bn:((h3.alloc (.map [] 0)).alloc (.cells [.ptr P 0,.map h3.next])).next=h3.next+2:=rfl
  generalize ((h3.alloc (.map [] 0)).alloc (.cells [.ptr P 0,.map h3.next]))=H4 at b0 b1 bx bn ⊢;have jV:∀ x p,D' x=some p->p.1<h3.next:=fun x p hp=>(Lz.hD.mc x p hp).2.1
  have Rm:∀ r ∈ rules.l,zi n D' r/\r.kH/\(varsOf r).length<=12/\(∀ c ∈ r.body.l,fQ (ax rules.l) c=true->(47:UInt8) ∉ c.name/\c.name.length<=1000)/\(47:UInt8) ∉ r.name/\r.name.length<=1000:=fun r hr=>by
   have h1:=CP gI (List.mem_map_of_mem hr:r.name ∈ ax rules.l);exact ⟨G0 a1 gI a2 hn a3 a4 sd hr D' v8,iF r hr,(gZ gI r hr).2.2,fun c hc ha=>by have:=CP gI (Ta ha);exact ⟨this.1,by omega⟩,h1.1,by omega⟩
  have bf:Ai n P A M h3.next (h3.next+1) S B lo rules ks (eL.iter (b7 rules.l) k) D' H4:=
   ⟨n1,ov,by rw [bx.get _ (by omega)];exact Lz.hS,Lz.hD.ext bx,by rw [bx.get _ (by omega)];exact Lz.hP,Lz.hl.eW (bx.get _ (by omega)),b1,⟨by omega,by omega,by omega,by omega,by omega,by omega⟩,⟨by omega,by omega,by omega,by omega,by omega⟩,fun x p hp=>by have:=jV x p hp;omega,Rm,by have:=ho.iP.kH;unfold cu;omega⟩
  have w0:jI (fun _=>True) (fun _ _=>none) H4 h3.next:=⟨⟨[],0,[],fun _ _=>0,b0,.nil 0,trivial,fun _ _ _=>rfl,fun _ _ _ _ hy=>(by cases hy)⟩,by omega⟩
  have q1:H4.get 1=some (.cells [.int .i64 0,.au,.au]):=by rw [bx.get _ (by omega)];exact p1
  clear p0 lz lb abX lkB b0 b1
  refine pU (fun mm e h'=>∃ T:iI,mm=zl (kL n rules.l) T/\NB n L rules.l T/\Ai n P A M h3.next (h3.next+1) S B lo rules ks (eL.iter (b7 rules.l) k) D' h'/\jI (fun _=>True) T h' h3.next/\h'.get 1=some (.cells [.int .i64 0,.au,.au]) /\
   e 2 = .str nm/\e 3=an encI 1 t/\e 8 = .ptr 1 0/\e 11 = .ptr S 0/\e 15 = .ptr (h3.next+1) 0) _ ⟨fun _ _=>none,rfl,.none n L rules.l,bf,w0,q1,rfl,rfl,rfl,rfl,rfl⟩ ?_
  rintro mm e h4 ⟨T,K6,hT,bf4,w4,q4,e2,e3,e8,jX,lE⟩ K' oA S0 yx;have HH:∀ nm t y,T nm t=some y->y.2.2<=kz:=fun x u y hy=>(hT.ok x u y.1 y.2.1 y.2.2 hy).1;rw [<- hDF] at hT;have hlq:=PX n1 hT;rw [F.ki.aT];simp only [jX,lE];refine aj (IB bf4 w4 HH fun h5 w5 mx5 fr5 nx5=>?_);obtain ⟨f1,f2,f3,f4,f5,f6⟩:=bf4.low;have bf5:=bf4.eW fr5 nx5;have q5:h5.get 1=some (.cells [.int .i64 0,.au,.au]):=by rw [fr5 1 (by omega) (by omega)];exact q4
  simp only [aS,reduceAdd,reduceEqDiff,reduceIte]
  cases VY:(kS n D' (ax rules.l) rules.l rules.l.length (T,false)).2 with
  |true=>
   simp only [aF];have eM:=hlq.lt VY;refine oA (zl (kL n rules.l) (kS n D' (ax rules.l) rules.l rules.l.length (T,false)).1) _ _ (by omega) ⟨_,rfl,by rw [<- hDF];exact hlq.ok,bf5,w5,q5,e2,e3,e8,jX,lE⟩
  |false=>
  obtain ⟨hTT,VZ⟩:=Lm n1 VY;rw [hTT] at w5;rw [hDF] at hT VZ;simp only [aE];rw [S0,F.ki.aJ];simp only [bg,reduceEqDiff,reduceIte,e2,e3,e8,lE,bD,aS,reduceAdd,reduceEqDiff,reduceIte,ai bf5.hB];have z0:(h5.alloc (.cells [.int .i64 0,.au,.int .i64 0])).get h5.next=some (.cells [.int .i64 0,.au,.int .i64 0]):=aD _ _
  have zx:bG h5 (h5.alloc (.cells [.int .i64 0,.au,.int .i64 0])):=bG.alloc _ _;have zn:(h5.alloc (.cells [.int .i64 0,.au,.int .i64 0])).next=h5.next+1:=rfl
  generalize (h5.alloc (.cells [.int .i64 0,.au,.int .i64 0]))=H6 at z0 zx zn ⊢;refine aj (iS (by omega) (by omega) ?_);have bf6:=bf5.eW (fun b b1 _=>zx.get b b1) zx.next
  have w6:=w5.ext zx;have q6:H6.get 1=some (.cells [.int .i64 0,.au,.au]):=by rw [zx.get _ (by omega)];exact q5
  rcases w6.look BV (.agg [.int .i64 0,.au,.int .i64 0]) with ⟨hTn,BI⟩|⟨y,b,hTn,hXb,IJ,Z9,BI⟩
  ·have ic:bh 3 (.ptr h5.next 0) (.agg [.int .i64 0,.au,.int .i64 0]) H6=some (H6.set h5.next (.cells [.int .i64 0,.au,.int .i64 0])):=by
    rw [cJ (n:=3) (v:=.agg [.int .i64 0,.au,.int .i64 0]) z0 rfl rfl (by simp)];rfl
   have qs:(H6.set h5.next (.cells [.int .i64 0,.au,.int .i64 0])).get 1=some (.cells [.int .i64 0,.au,.au]):=by rw [ag.aP,if_neg (by omega)];exact q6
   simp only [aS,reduceAdd,reduceEqDiff,reduceIte,ai bf6.hB,AV.beq_refl,Bool.and_self,Bool.and_true,if_true,BI,ic,Bool.not_false,aF,e8,qT];exact bad 5 _ (fun i=>if i=8 then .ptr 1 0 else .int .i64 5) (Zk _ _ (.inr ⟨hh,T,hT,VZ,.inl ⟨hTn,rfl,rfl⟩⟩)) qs rfl rfl
  ·have ic:bh 3 (.ptr h5.next 0) (qC b y) H6=some (H6.set h5.next (.cells [.int .i64 (y.1:Int),.slice b 0 y.2.1.length 1,.int .i64 (y.2.2:Int)])):=by
    unfold qC;rw [cJ (n:=3) (v:=.agg [.int .i64 (y.1:Int),.slice b 0 y.2.1.length 1,.int .i64 (y.2.2:Int)]) z0 rfl rfl (by simp)];rfl
   have xs:bG h5 (H6.set h5.next (.cells [.int .i64 (y.1:Int),.slice b 0 y.2.1.length 1,.int .i64 (y.2.2:Int)])):=zx.set (dK _) _;have qs:(H6.set h5.next (.cells [.int .i64 (y.1:Int),.slice b 0 y.2.1.length 1,.int .i64 (y.2.2:Int)])).get 1=some (.cells [.int .i64 0,.au,.au]):=by rw [ag.aP,if_neg (by omega)];exact q6
   simp only [aS,reduceAdd,reduceEqDiff,reduceIte,ai bf6.hB,AV.beq_refl,Bool.and_self,Bool.and_true,if_true,BI,ic,Bool.not_true,aE,e2,e3,lE];generalize (H6.set h5.next (.cells [.int .i64 (y.1:Int),.slice b 0 y.2.1.length 1,.int .i64 (y.2.2:Int)]))=H7 at xs qs ⊢;have bf7:=bf5.eW (fun b b1 _=>xs.get b b1) xs.next
   have w7:=w5.ext xs;obtain ⟨i,vs,w⟩:=y
   have dn:Hp n P A M h3.next (h3.next+1) rules ks (eL.iter (b7 rules.l) k) L T H7:=
    ⟨ov,bf7.hP,bf7.hl,bf7.hB,⟨bf7.low.2.1,bf7.low.2.2.1,bf7.low.2.2.2.2.1⟩,w7,hT,fun r hr=>⟨(Rm r hr).2.1,(Rm r hr).2.2.1,(Rm r hr).2.2.2.1⟩,bf7.len⟩
   have hl7:=bf7.low;refine aj (NH w dn BV hTn (fun h2 K2 _ Tt=>iS (by omega) (by omega) Tt) fun h8 v p x8 hb zH Tu=>?_);have q8:h8.get 1=some (.cells [.int .i64 0,.au,.au]):=by rw [x8.get _ (by omega)];exact qs
   obtain ⟨s1,s2⟩:=put (se v) h8 rfl (CO v) q8;simp only [aS,reduceAdd,reduceEqDiff,reduceIte,e8,s1,qT,bg,reduceEqDiff,reduceIte,s2,oneOf];refine fin p 0 _ _ (Tu _ fun c c1 c2=>by rw [ag.aP,if_neg (show c≠1 by omega)]) (Zk _ _ (.inr ⟨hh,T,hT,VZ,.inr ⟨rfl,hb,zH⟩⟩))
 refine main.frozen (by simp [AV.cN,AV.pure,bI dW,ew,bI jj]) fun o h' ho=>?_;obtain ⟨p,e,cs,rfl,hf,hw⟩:=cO.1 ho;have ft:kD true h' [.agg cs,.int .i64 e] [.agg (dB p),.int .i64 e]:=.cons (.agg _ _ hf.len hf.rel) (.cons (.scalar _ rfl) .nil);exact ⟨_,_,rfl,.tuple _ _ ft.len ft.rel,hK p e hw⟩
end
end Go.AM