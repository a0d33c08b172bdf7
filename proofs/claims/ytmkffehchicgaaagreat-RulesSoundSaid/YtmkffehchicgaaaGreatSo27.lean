/- Parts of a proof, merged out of smaller texts: the abstract machine and what functions do. Conditions: none. -/
import Derived.Test.YtmkffehchicgaaaGreatSo12
import Derived.Test.YtmkffehchicgaaaGreatSo15
import Derived.Test.YtmkffehchicgaaaGreatSo21
import Derived.Test.YtmkffehchicgaaaGreatSo22
import Derived.Test.YtmkffehchicgaaaGreatSo23
import Derived.Test.YtmkffehchicgaaaGreatSo24
import Derived.Test.YtmkffehchicgaaaGreatSo25
set_option linter.unusedSimpArgs false
set_option linter.unusedVariables false
namespace Go.AM
open Go Go.Proofs
noncomputable section
theorem Ca{a b:Nat}(hb:0<b)(ha:a≤cy):aF .quo (.int .i64 (a:Int)) (.int .i64 (b:Int))=some (.int .i64 ((a/b:Nat):Int)):=by
 have h:¬ (b:Int)=0:=by omega
 simp only [aF,if_true,if_neg h]
 have e:((a:Int).tdiv (b:Int))=((a/b:Nat):Int):=by rw [Int.tdiv_eq_ediv_of_nonneg (by omega)];rfl
 have:a/b≤a:=Nat.div_le_self _ _
 unfold cy at ha
 rw [e]
 generalize a/b=q at this
 rw [IntWalk.i64_in _ (by omega)]
theorem DO{α:Type}{enc:α→List AV}{sz:Nat}(he:∀ a,(enc a).length=sz){l:List α}{i:Nat}{a:α}(ha:l[i]?=some a){k n:Nat}(hk:k+n≤sz){h:af} :
  aj (some n) (.iptr (l.flatMap enc) (i*sz+k)) h=some (.agg (((enc a).drop k).take n)):=by
 have hi:i<l.length:=(List.getElem?_eq_some_iff.1 ha).1
 have hle:i*sz+sz≤(l.flatMap enc).length:=by
  rw [gj he]
  have:(i+1)*sz≤l.length*sz:=Nat.mul_le_mul_right _ hi
  rw [Nat.add_mul] at this;omega
 show gh (some n) _ _=_
 simp only [gh]
 rw [if_pos (by omega),← kD he l i a ha,List.drop_take,List.take_take,List.drop_drop,Nat.min_eq_left (by omega)]
theorem eB{nm:bA}{xs:Sl bA}(h1:nm.length≤cy)(h2:xs.l.length≤cy)(h3:∀ s ∈ xs.l,s.length≤cy){h:af}{K:Out→af→Bool}
  (hK:∀ n:Int,(xs.l.length:Int)≤n→n≤5000000000000000000→K (.ret (.int .i64 n)) h=true):Sem Tryz.prog 82 [.agg [.str nm,aq encS 1 xs]] h K:=by
 have hbb:cy=4611686018427387904:=rfl
 have gen:∀ R:Out→af→Bool,(∀ (n:Int) h',(xs.l.length:Int)≤n→n≤5000000000000000000→R (.ret (.int .i64 n)) h'=true)→Sem Tryz.prog 82 [.agg [.str nm,aq encS 1 xs]] af.empty R:=by
  intro R fin
  refine F.yl ?_
  rw [F.zR]
  have g0:(af.alloc af.empty (.cells (fW nm xs))).get 0=some (.cells (fW nm xs)):=aI _ _
  have hb:ef (.agg [.str nm,aq encS 1 xs])=some (fW nm xs):=cI (uI nm xs)
  simp only [hb,bindO_some,bM]
  generalize (af.alloc af.empty (.cells (fW nm xs)))=H at g0 ⊢
  have hq:=Ca (a:=nm.length) (b:=20) (by omega) h1
  have hq':aF .quo (.int .i64 (nm.length:Int)) (.int .i64 20)=some (.int .i64 ((nm.length/20:Nat):Int)):=hq
  have hdl:nm.length/20≤240000000000000000:=by omega
  have hadd:=fJ (a:=(xs.l.length:Int)) (b:=((nm.length/20:Nat):Int)) (by omega) (by omega)
  simp only [aQ,Nat.reduceAdd,Nat.reduceEqDiff,reduceIte,ak g0,fW,hq',hadd]
  generalize hs0:(xs.l.length:Int)+((nm.length/20:Nat):Int)=s0
  refine aE 0 xs.l.length (Nat.zero_le _) (fun i e h'=>h'=H∧e 1 = .ptr 0 0∧e 4 = .int .i64 (i:Int)∧∃ n:Int,e 3 = .int .i64 n∧(xs.l.length:Int)≤n∧n≤5000000000000000000) ⟨rfl,rfl,rfl,s0,rfl,by omega,by omega⟩ ?_ ?_
  ·rintro i e h' _ hi ⟨rfl,e1,e4,n,e3,n1,n2⟩ K' hn hx hr hp
   have hv:xs.l[i]?=some xs.l[i]:=List.getElem?_eq_getElem hi
   generalize xs.l[i]=t at hv
   have ht:=h3 t (List.mem_of_getElem? hv)
   have hqt:aF .quo (.int .i64 (t.length:Int)) (.int .i64 20)=some (.int .i64 ((t.length/20:Nat):Int)):=Ca (a:=t.length) (b:=20) (by omega) ht
   have hdt:t.length/20≤240000000000000000:=by omega
   rw [F.eB.aP]
   simp only [e1,e3,e4,aQ,Nat.reduceAdd,Nat.reduceEqDiff,reduceIte,ak g0,fW,bf hi]
   by_cases hsm:n<10000
   ·have hadd2:=fJ (a:=n) (b:=((t.length/20:Nat):Int)) (by omega) (by omega)
    simp only [decide_eq_true hsm,aD,e1,e4,aQ,Nat.reduceAdd,Nat.reduceEqDiff,reduceIte,ak g0,fW,aT xs hi,gC hv,hqt,hadd2,aK hi h2]
    exact hn _ _ ⟨rfl,e1,rfl,_,rfl,by omega,by omega⟩
   ·simp only [decide_eq_false hsm,aC]
    rw [hx,F.eB.aG]
    simp only [bE,Nat.reduceEqDiff,reduceIte,e3]
    exact fin n _ n1 n2
  ·rintro e h' ⟨rfl,e1,e4,n,e3,n1,n2⟩ K' hx
   rw [F.eB.aP]
   simp only [e1,e4,aQ,Nat.reduceAdd,Nat.reduceEqDiff,reduceIte,ak g0,fW,aR]
   rw [hx,F.eB.aG]
   simp only [bE,Nat.reduceEqDiff,reduceIte,e3]
   exact fin n _ n1 n2
 have main:=gen (fun o h'=>yes (∃ n:Int,o = .ret (.int .i64 n)∧(xs.l.length:Int)≤n∧n≤5000000000000000000)) (fun n h' q1 q2=>cz.2 ⟨n,rfl,q1,q2⟩)
 refine main.frozen (by simp [AV.pureL,AV.pure,cj kI]) fun o h' ho=>?_
 obtain ⟨n,rfl,q1,q2⟩:=cz.1 ho
 exact ⟨_,_,rfl,.scalar _ rfl,hK n q1 q2⟩
end
end Go.AM
namespace Go.AM
open Go Go.Proofs
noncomputable section
set_option maxHeartbeats 1000000 in
theorem EY{N:Int}(hN:N≤1500){rules:Sl aJ}(hok:∀ r ∈ rules.l,r.ok){h:af}{K:Out→af→Bool}(hK:∀ b:Bool,(b=true→∀ r ∈ rules.l,r.lR)→K (.ret (.bool b)) h=true):Sem Tryz.prog 29 [aq aM 3 rules,.int .i64 N] h K:=by
 have gen:∀ R:Out→af→Bool,(∀ (b:Bool) h',(b=true→∀ r ∈ rules.l,r.lR)→R (.ret (.bool b)) h'=true)→Sem Tryz.prog 29 [aq aM 3 rules,.int .i64 N] af.empty R:=by
  intro R fin
  refine F.zQ ?_
  rw [F.BN]
  simp only [aQ,Nat.reduceAdd,Nat.reduceEqDiff,reduceIte]
  by_cases h71:70<rules.l.length
  ·simp only [decide_eq_true (by omega:(70:Int)<(rules.l.length:Int)),aD]
   exact fin false _ (fun h=>by cases h)
  have hbig:rules.l.length≤cy:=by unfold cy;omega
  simp only [decide_eq_false (by omega:¬ (70:Int)<(rules.l.length:Int)),aC]
  refine aE 0 rules.l.length (Nat.zero_le _) (fun i e h'=>e 0=aq aM 3 rules∧e 1 = .int .i64 N∧e 6 = .int .i64 (i:Int)∧∃ s:Int,e 5 = .int .i64 s∧0≤s∧s≤6000000000000000000∧(s≤N→∀ r ∈ rules.l.take i,r.lR)) ⟨rfl,rfl,rfl,0,rfl,by omega,by omega,fun _ r hr=>by simp at hr⟩ ?_ ?_
  ·rintro i e h' _ hi ⟨e0,e1,e6,s,e5,s0,s1,hs⟩ K' hn hx hr hp
   have hv:rules.l[i]?=some rules.l[i]:=List.getElem?_eq_getElem hi
   generalize rules.l[i]=r at hv
   have hrok:=hok r (List.mem_of_getElem? hv)
   have hbb:=hrok.2.2.2.1
   have ld:∀ j,j<3→∀ h,aj none (.iptr (rules.l.flatMap aM) (i*3+j)) h=(aM r)[j]?:=fun j hj h=>eN eP hv hj
   have lh:∀ h,aj (some 2) (.iptr (rules.l.flatMap aM) (i*3)) h=some (.agg [.str r.name,aq encS 1 r.args]):=fun h=>DO (k:=0) (n:=2) eP hv (by omega)
   rw [F.cT.aP]
   simp only [e0,e1,e5,e6,aQ,Nat.reduceAdd,Nat.reduceEqDiff,reduceIte,bf hi]
   by_cases hle:s≤N
   ·have had1:=fJ (a:=s) (b:=1) (by omega) (by omega)
    simp only [decide_eq_true hle,aD,had1,e0,e6,aQ,Nat.reduceAdd,Nat.reduceEqDiff,reduceIte,aT rules hi,lh]
    refine an (eB hrok.1 hrok.2.1 hrok.2.2.1 fun n n1 n2=>?_)
    have had2:=fJ (a:=s+1) (b:=n) (by omega) (by omega)
    simp only [aQ,Nat.reduceAdd,Nat.reduceEqDiff,reduceIte,had2]
    refine aE 0 r.body.l.length (Nat.zero_le _) (fun j e h'=>e 0=aq aM 3 rules∧e 1 = .int .i64 N∧e 6 = .int .i64 (i:Int)∧e 7 = .int .i64 (j:Int)∧∃ s:Int,e 5 = .int .i64 s∧0≤s∧s≤6000000000000000000 ∧
     (s≤N→(∀ r ∈ rules.l.take i,r.lR)∧r.args.l.length≤1500∧(j:Int)≤s∧∀ c ∈ r.body.l.take j,c.args.l.length≤1500)) ⟨e0,e1,e6,rfl,s+1+n,rfl,by omega,by omega,fun h=>⟨hs hle,by omega,by omega,fun c hc=>by simp at hc⟩⟩ ?_ ?_
    ·rintro j e h' _ hj ⟨e0,e1,e6,e7,s,e5,s0,s1,hs⟩ K2 hn2 hx2 hr2 hp2
     have hc:r.body.l[j]?=some r.body.l[j]:=List.getElem?_eq_getElem hj
     generalize r.body.l[j]=c at hc
     have hcok:=hrok.2.2.2.2 c (List.mem_of_getElem? hc)
     have lc:∀ h,aj (some 2) (.iptr (r.body.l.flatMap bJ) (j*4+2)) h=some (.agg [.str c.name,aq encS 1 c.args]):=fun h=>DO (k:=2) (n:=2) fX hc (by omega)
     rw [F.cT.dc]
     simp only [e0,e1,e5,e6,e7,aQ,Nat.reduceAdd,Nat.reduceEqDiff,reduceIte,aT rules hi,ld 2 (by omega),aM,bf hj]
     by_cases hle:s≤N
     ·have had1:=fJ (a:=s) (b:=1) (by omega) (by omega)
      simp only [decide_eq_true hle,aD,had1,e0,e6,e7,aQ,Nat.reduceAdd,Nat.reduceEqDiff,reduceIte,aT rules hi,ld 2 (by omega),aM,aT r.body hj,lc]
      refine an (eB hcok.1 hcok.2.1 hcok.2.2 fun n n1 n2=>?_)
      have had2:=fJ (a:=s+1) (b:=n) (by omega) (by omega)
      simp only [aQ,Nat.reduceAdd,Nat.reduceEqDiff,reduceIte,had2,aK hj hbb]
      refine hn2 _ _ ⟨e0,e1,e6,rfl,s+1+n,rfl,by omega,by omega,fun h=>?_⟩
      obtain ⟨q1,q2,q3,q4⟩:=hs hle
      refine ⟨q1,q2,by omega,fun d hd=>?_⟩
      rw [List.take_add_one,hc] at hd
      rcases List.mem_append.1 hd with hd|hd
      ·exact q4 d hd
      ·simp only [Option.toList_some,List.mem_singleton] at hd;subst hd;omega
     ·simp only [decide_eq_false hle,aC]
      rw [hx2,F.cT.cx]
      simp only [aQ,Nat.reduceAdd,Nat.reduceEqDiff,reduceIte,e6,aK hi hbig]
      exact hn _ _ ⟨e0,e1,rfl,s,e5,s0,s1,fun h=>absurd h hle⟩
    ·rintro e h' ⟨e0,e1,e6,e7,s,e5,s0,s1,hs⟩ K2 hx2
     rw [F.cT.dc]
     simp only [e0,e6,e7,aQ,Nat.reduceAdd,Nat.reduceEqDiff,reduceIte,aT rules hi,ld 2 (by omega),aM,aR]
     rw [hx2,F.cT.cx]
     simp only [aQ,Nat.reduceAdd,Nat.reduceEqDiff,reduceIte,e6,aK hi hbig]
     refine hn _ _ ⟨e0,e1,rfl,s,e5,s0,s1,fun h=>?_⟩
     obtain ⟨q1,q2,q3,q4⟩:=hs h
     rw [List.take_of_length_le (Nat.le_refl _)] at q4
     intro q hq
     rw [List.take_add_one,hv] at hq
     rcases List.mem_append.1 hq with hq|hq
     ·exact q1 q hq
     ·simp only [Option.toList_some,List.mem_singleton] at hq;subst hq;exact ⟨q2,by omega,q4⟩
   ·simp only [decide_eq_false hle,aC]
    rw [hx,F.cT.aG]
    simp only [aQ,Nat.reduceAdd,Nat.reduceEqDiff,reduceIte,e1,e5]
    exact fin _ _ (fun h=>absurd (of_decide_eq_true h) hle)
  ·rintro e h' ⟨e0,e1,e6,s,e5,s0,s1,hs⟩ K' hx
   rw [List.take_of_length_le (Nat.le_refl _)] at hs
   rw [F.cT.aP]
   simp only [e0,e6,aQ,Nat.reduceAdd,Nat.reduceEqDiff,reduceIte,aR]
   rw [hx,F.cT.aG]
   simp only [aQ,Nat.reduceAdd,Nat.reduceEqDiff,reduceIte,e1,e5]
   exact fin _ _ (fun h=>hs (of_decide_eq_true h))
 have main:=gen (fun o h'=>yes (∃ b:Bool,o = .ret (.bool b)∧(b=true→∀ r ∈ rules.l,r.lR))) (fun b h' hb=>cz.2 ⟨b,rfl,hb⟩)
 refine main.frozen (by simp [AV.pureL,AV.pure,cj eC]) fun o h' ho=>?_
 obtain ⟨b,rfl,hb⟩:=cz.1 ho
 exact ⟨_,_,rfl,.scalar _ rfl,hK b hb⟩
end
end Go.AM
namespace Go.AM
open Go Go.Proofs
noncomputable section
theorem IK(s:dP):fE [.int .i64 0,.nils] [(0,2)] [.agg (aA s)]=some (aA s):=by
 obtain ⟨z,r⟩:=s
 cases r<;>rfl
theorem cA{rules:Sl aJ}{s:dP}{N:Int}(hok:∀ r ∈ rules.l,r.ok)(hsok:s.ok){h:af}{K:Out→af→Bool}(hK:∀ b:Bool,(b=true→∀ r ∈ rules.l,r.lR)→K (.ret (.bool b)) h=true) :
  Sem Tryz.prog 11 [aq aM 3 rules,.agg (aA s),.int .i64 N] h K:=by
 have gen:∀ R:Out→af→Bool,(∀ (b:Bool) h',(b=true→∀ r ∈ rules.l,r.lR)→R (.ret (.bool b)) h'=true)→Sem Tryz.prog 11 [aq aM 3 rules,.agg (aA s),.int .i64 N] af.empty R:=by
  intro R fin
  refine F.wC ?_
  rw [F.yH]
  simp only [cI (dD s),bindO_some,bM]
  have g0:(af.empty.alloc (.cells (aA s))).get 0=some (.cells (aA s)):=aI _ _
  have gn:(af.empty.alloc (.cells (aA s))).next=1:=rfl
  generalize (af.empty.alloc (.cells (aA s)))=H at g0 gn ⊢
  refine an (EY (by omega) hok fun b hb=>?_)
  simp only [aQ,Nat.reduceAdd,Nat.reduceEqDiff,reduceIte]
  cases b with
  |false=>
   simp only [Bool.not_false,aD]
   exact fin false _ (fun h=>by cases h)
  |true=>
  have hfew:=hb rfl
  have l0:aj (some 2) (.ptr 0 0) H=some (.agg (aA s)):=by rw [ak g0,dG (cs:=aA s) (n:=2) rfl]
  have g1:(H.alloc (.cells (aA s))).get H.next=some (.cells (aA s)):=aI _ _
  have g0':(H.alloc (.cells (aA s))).get 0=some (.cells (aA s)):=by rw [af.aX,if_neg (by omega)];exact g0
  simp only [Bool.not_true,aC,l0,bindO_some,IK]
  generalize (H.alloc (.cells (aA s)))=H2 at g1 g0' ⊢
  refine an (bP hsok g1 fun b=>?_)
  simp only [aQ,Nat.reduceAdd,Nat.reduceEqDiff,reduceIte]
  cases b with
  |false=>
   simp only [Bool.not_false,aD]
   exact fin false _ (fun h=>by cases h)
  |true=>
  have l0':aj (some 2) (.ptr 0 0) H2=some (.agg (aA s)):=by rw [ak g0',dG (cs:=aA s) (n:=2) rfl]
  simp only [Bool.not_true,aC,l0',bindO_some]
  refine an (bz hok hfew hsok (fun e he=>?_) fun ho=>?_)
  ·have hne:e≠0:=by
    rcases he with ⟨_,rfl⟩|⟨_,_,⟨_,rfl⟩|⟨_,_,rfl⟩⟩<;>omega
   simp only [aQ,Nat.reduceAdd,Nat.reduceEqDiff,reduceIte,ct,decide_eq_false hne,Bool.not_false,aD]
   exact fin true _ (fun _=>hfew)
  ·obtain ⟨n,hn,n1,n64,h8⟩:=qD ho.valid
   have hnn:s.size.toNat=n:=by omega
   have hrb:rules.l.length≤cy:=by have:=ho.good.lR;unfold cy;omega
   have hpw:∀ r ∈ rules.l,n ^ (varsOf r).length≤65536:=fun r hr=>Nat.le_of_not_lt fun h=>ho.sizes (.inr (.inr ⟨r,hr,by rw [hnn];exact h⟩))
   simp only [aQ,Nat.reduceAdd,Nat.reduceEqDiff,reduceIte,ct,decide_true,Bool.not_true,aC]
   refine aE 0 rules.l.length (Nat.zero_le _) (fun i e h'=>h'=H2∧∃ q:Nat,q≤i*65536∧e 0=aq aM 3 rules∧e 2 = .int .i64 N∧e 4 = .ptr 0 0∧e 7 = .int .i64 (q:Int)∧e 8 = .int .i64 (i:Int)) ⟨rfl,0,by omega,rfl,rfl,rfl,rfl,rfl⟩ ?_ ?_
   ·rintro i e h' _ hi ⟨rfl,q,hq,e0,e2,e4,e7,e8⟩ K' hn' hx hr hp
    have hv:rules.l[i]?=some rules.l[i]:=List.getElem?_eq_getElem hi
    generalize rules.l[i]=r at hv
    have hrm:=List.mem_of_getElem? hv
    have hr65:=hpw r hrm
    have h60:=ho.good.lR
    obtain ⟨m,hgo⟩:=ho.good.go
    have hr12:=(iq hgo r hrm).2.2
    have hvb:(varsOf r).length≤cy:=by unfold cy;omega
    have lz:aj none (.ptr 0 0) h'=some (.int .i64 (n:Int)):=by rw [ak g0',← hn];rfl
    rw [F.cA.aP]
    simp only [e0,e8,aQ,Nat.reduceAdd,Nat.reduceEqDiff,reduceIte,bf hi]
    refine aE 0 (varsOf r).length (Nat.zero_le _) (fun j e h2=>h2=h'∧e 0=aq aM 3 rules∧e 2 = .int .i64 N∧e 4 = .ptr 0 0∧e 7 = .int .i64 (q:Int)∧e 8 = .int .i64 (i:Int)∧e 9 = .int .i64 ((n ^ j:Nat):Int)∧e 10 = .int .i64 (j:Int)) ⟨rfl,e0,e2,e4,e7,e8,rfl,rfl⟩ ?_ ?_
    ·rintro j e h2 _ hj ⟨rfl,e0,e2,e4,e7,e8,e9,e10⟩ K2 hnn2 hx2 hr2 hp2
     have hps:n ^ (j+1)=n ^ j*n:=Nat.pow_succ n j
     have hle:=sg n1 (show j+1≤(varsOf r).length by omega)
     have hm:((n ^ j:Nat):Int)*(n:Int)=((n ^ (j+1):Nat):Int):=by rw [hps,Int.natCast_mul]
     have hmm:aF .mul (.int .i64 ((n ^ j:Nat):Int)) (.int .i64 (n:Int))=some (.int .i64 ((n ^ (j+1):Nat):Int)):=by rw [qs (by rw [hm];omega) (by rw [hm];omega),hm]
     rw [F.cA.dc]
     simp only [e0,e8,aQ,Nat.reduceAdd,Nat.reduceEqDiff,reduceIte,aT rules hi,c8 eP hv]
     simp only [aM]
     refine an (bC (hfew r hrm) fun x hx1=>?_)
     simp only [aQ,Nat.reduceAdd,Nat.reduceEqDiff,reduceIte,hx1,e4,e9,e10,bf hj,aD,lz,hmm,aK hj hvb]
     exact hnn2 _ _ ⟨rfl,e0,e2,e4,e7,e8,rfl,rfl⟩
    ·rintro e h2 ⟨rfl,e0,e2,e4,e7,e8,e9,e10⟩ K2 hx2
     have hadd:aF .add (.int .i64 (q:Int)) (.int .i64 ((n ^ (varsOf r).length:Nat):Int))=some (.int .i64 ((q+n ^ (varsOf r).length:Nat):Int)):=by
      rw [fJ (by omega) (by omega)];rfl
     rw [F.cA.dc]
     simp only [e0,e8,aQ,Nat.reduceAdd,Nat.reduceEqDiff,reduceIte,aT rules hi,c8 eP hv]
     simp only [aM]
     refine an (bC (hfew r hrm) fun x hx1=>?_)
     simp only [aQ,Nat.reduceAdd,Nat.reduceEqDiff,reduceIte,hx1,e10,aR,aC]
     rw [hx2,F.cA.cx]
     simp only [aQ,Nat.reduceAdd,Nat.reduceEqDiff,reduceIte,e7,e8,e9,hadd,aK hi hrb]
     exact hn' _ _ ⟨rfl,q+n ^ (varsOf r).length,by rw [Nat.succ_mul];omega,e0,e2,e4,rfl,rfl⟩
   ·rintro e h' ⟨rfl,q,hq,e0,e2,e4,e7,e8⟩ K' hx
    rw [F.cA.aP]
    simp only [e0,e8,aQ,Nat.reduceAdd,Nat.reduceEqDiff,reduceIte,aR]
    rw [hx,F.cA.aG]
    simp only [aQ,Nat.reduceAdd,Nat.reduceEqDiff,reduceIte,e2,e7]
    exact fin _ _ (fun _=>hfew)
 have main:=gen (fun o h'=>yes (∃ b:Bool,o = .ret (.bool b)∧(b=true→∀ r ∈ rules.l,r.lR))) (fun b h' hb=>cz.2 ⟨b,rfl,hb⟩)
 refine main.frozen (by simp [AV.pureL,AV.pure,cj eC,eT]) fun o h' ho=>?_
 obtain ⟨b,rfl,hb⟩:=cz.1 ho
 exact ⟨_,_,rfl,.scalar _ rfl,hK b hb⟩
theorem Lc{rs:List aJ}{s:dP}{e:Int}(h:tT rs s e):e≠0∧¬ iK rs s:=by
 rcases h with ⟨a,rfl⟩|⟨g,v,⟨a,rfl⟩|⟨a,b,rfl⟩⟩
 ·exact ⟨by omega,fun h=>a.elim (fun h'=>h' h.good) fun h'=>by rw [h.valid] at h';cases h'⟩
 ·exact ⟨by omega,fun h=>h.names a⟩
 ·exact ⟨by omega,fun h=>h.sizes b⟩
end
end Go.AM
namespace Go.AM
open Go Go.Proofs
noncomputable section
end
end Go.AM
namespace Go.AM
open Go Go.Proofs
noncomputable section
theorem zA{n:Nat}{L:Lk}{nm:bA}{k N:Nat}{u:List Int}:u ∈ tS n L nm k N↔∃ i,i<N∧L nm i=true∧u=kq n k i:=by
 unfold tS
 rw [List.mem_map]
 constructor
 ·rintro ⟨i,hi,rfl⟩
  rw [List.mem_filter,List.mem_range] at hi
  exact ⟨i,hi.1,hi.2,rfl⟩
 ·rintro ⟨i,h1,h2,rfl⟩
  exact ⟨i,List.mem_filter.2 ⟨List.mem_range.2 h1,h2⟩,rfl⟩
theorem GV{n:Nat}(n1:1≤n){k i j:Nat}(hj:j<n ^ k)(hij:i<j):ee (kq n k i) (kq n k j)=true:=by
 obtain ⟨a1,a2⟩:=tO n1 (show i<n ^ k by omega)
 obtain ⟨b1,b2⟩:=tO n1 hj
 cases h:ee (kq n k i) (kq n k j) with
 |true=>rfl
 |false=>
  have hl:(kq n k i).length=(kq n k j).length:=by rw [pY,pY]
  have hne:kq n k i≠kq n k j:=fun e=>by rw [e,b2] at a2;omega
  have:=A3 hl.symm b1 a1 (Bh hl h hne)
  omega
theorem IL{n:Nat}(n1:1≤n)(L:Lk)(nm:bA)(k:Nat):KU n k (tS n L nm k (n ^ k)):=by
 refine ⟨fun u hu=>?_,?_⟩
 ·obtain ⟨i,hi,_,rfl⟩:=zA.1 hu
  exact ⟨pY _ _ _,(tO n1 hi).1⟩
 ·unfold Bg tS
  rw [List.pairwise_map]
  refine (List.Pairwise.filter _ ?_)
  refine List.Pairwise.imp_of_mem ?_ (List.pairwise_lt_range (n:=n ^ k))
  intro a b _ hb hab
  exact GV n1 (List.mem_range.1 hb) hab
section
variable {rs:List aJ} {s out:dP} {n:Nat} {m:cS} {L:Lk}
theorem Ld(hd:out.rels.l.map eM=s.rels.l.map eM++wG rs n L (eo rs)):(out.rels.l.map eM).map LZ=(s.rels.l.map eM++jd rs (eo rs)).map LZ:=by
 rw [hd,List.map_append,List.map_append]
 unfold wG jd
 congr 1
 rw [List.map_map,List.map_map];rfl
theorem GW(ho:iK rs s)(hgo:dO rs []=some m)(hn:s.size=(n:Int))(hz:out.size=s.size)(hd:out.rels.l.map eM=s.rels.l.map eM++wG rs n L (eo rs)):cY out=true:=by
 have hE:=Mg (rs':=s.rels.l++lQ rs (eo rs)) ho hgo (by rw [List.map_append,sj])
 rw [List.map_append,sj] at hE
 have hsig:=Ld hd
 have n1:1≤n:=by have:=hE.lo;omega
 have hnn:s.size.toNat=n:=by omega
 rw [iT,hz]
 have hnm:∀ l:List HZ,l.map (·.1)=(l.map LZ).map (·.1):=fun l=>by rw [List.map_map];rfl
 refine ⟨hE.lo,hE.hi,?_,fun d hdm=>?_,?_⟩
 ·have:=congrArg List.length hsig
  simp only [List.length_map] at this
  have h8:=hE.lR
  rw [List.length_map]
  omega
 ·rw [hd] at hdm
  rcases List.mem_append.1 hdm with hdm|hdm
  ·exact hE.rel d (List.mem_append_left _ hdm)
  ·obtain ⟨nm,hnm,rfl⟩:=List.mem_map.1 hdm
   obtain ⟨q0,k,q1,q2,q3,_⟩:=hE.rel (nm,(mH rs nm:Int),[]) (List.mem_append_right _ (List.mem_map.2 ⟨nm,hnm,rfl⟩))
   have q1':(mH rs nm:Int)=(k:Int):=q1
   obtain rfl:mH rs nm=k:=by omega
   rw [hnn] at q3 ⊢
   exact ⟨q0,_,rfl,q2,q3,IL n1 L nm _⟩
 ·rw [hnm,hsig,← hnm];exact hE.names
end
end
end Go.AM
namespace Go.AM
open Go Go.Proofs
noncomputable section
theorem IM{y:Sl Int}{vs:List Int}(hy:y.l=vs){h:af}{ps:List Nat}{x:Sl Int}(hxp:x.l=ps.map fun (p:Nat)=>(p:Int))(hps:∀ p ∈ ps,p<vs.length)(hpl:ps.length≤1000000){K:Out→af→Bool}
  (hK:∀ h',h'.get h.next=some (.cells ((bZ vs ps).map iv))→bK h h'→h.next<h'.next→K (.ret (.slice h.next 0 ps.length 1)) h'=true):Sem Tryz.prog 124 [aq encI 1 y,aq encI 1 x] h K:=by
 subst hy
 have hpb:ps.length≤cy:=by unfold cy;omega
 have hl:x.l.length=ps.length:=by rw [hxp];simp
 refine F.oT ?_
 rw [F.ri]
 simp only [aQ,Nat.reduceAdd,Nat.reduceEqDiff,reduceIte,hl,tE hpl]
 have g0:=aI h (.cells ((List.replicate ps.length (0:Int)).map iv))
 have x0:=bK.alloc h (.cells ((List.replicate ps.length (0:Int)).map iv))
 have n0:(h.alloc (.cells ((List.replicate ps.length (0:Int)).map iv))).next=h.next+1:=af.next_alloc _ _
 generalize h.alloc (.cells ((List.replicate ps.length (0:Int)).map iv))=H at g0 x0 n0 ⊢
 refine aE 0 ps.length (Nat.zero_le _) (fun i e h'=>∃ d:List Int,d.length=ps.length∧d.take i=(bZ y.l ps).take i∧h'.get h.next=some (.cells (d.map iv))∧bK h h'∧h.next<h'.next ∧
  e 0=aq encI 1 y∧e 5 = .slice h.next 0 ps.length 1∧e 11=aq encI 1 x∧e 12 = .int .i64 (ps.length:Int)∧e 13 = .int .i64 (i:Int)) ⟨List.replicate ps.length 0,by simp,rfl,g0,x0,by omega,rfl,rfl,rfl,rfl,rfl⟩ ?_ ?_
 ·rintro i e h' _ hi ⟨d,dl,dt,q0,qx,qn,e0,e5,e11,e12,e13⟩ K' hn hx hr hp
  have hv:ps[i]?=some ps[i]:=List.getElem?_eq_getElem hi
  generalize ps[i]=p at hv
  have hv':x.l[i]?=some (p:Int):=by rw [hxp,List.getElem?_map,hv];rfl
  have hpv:=hps p (List.mem_of_getElem? hv)
  have hw:y.l[p]?=some (y.l.getD p 0):=by rw [List.getD_eq_getElem?_getD,List.getElem?_eq_getElem hpv];rfl
  have i1:=aT (enc:=encI) (sz:=1) (k:=.i64) x (i:=i) (by rw [hl];exact hi)
  have l1:=fun h=>fB (x:=x) hv' (h:=h)
  rw [F.eO.aP]
  simp only [e0,e5,e11,e12,e13,aQ,Nat.reduceAdd,Nat.reduceEqDiff,reduceIte,bf hi,i1,l1,aT y hpv,fB hw,j9 hi,pg q0 (show i<d.length by omega),aK hi hpb]
  refine hn _ _ ⟨d.set i (y.l.getD p 0),by simp [dl],?_,by rw [af.aS,if_pos rfl],qx.set (Nat.le_refl _) _,by rw [af.next_set];exact qn,e0,e5,e11,e12,rfl⟩
  have hpk:(bZ y.l ps)[i]?=some (y.l.getD p 0):=by unfold bZ;rw [List.getElem?_map,hv];rfl
  rw [List.take_add_one,List.take_add_one,hpk,List.take_set_of_le (Nat.le_refl _),dt,List.getElem?_set,if_pos rfl,if_pos (by omega)]
 ·rintro e h' ⟨d,dl,dt,q0,qx,qn,e0,e5,e11,e12,e13⟩ K' hx
  rw [F.eO.aP]
  simp only [e12,e13,aQ,Nat.reduceAdd,Nat.reduceEqDiff,reduceIte,aR]
  rw [hx,F.eO.aG]
  simp only [e5,bE,Nat.reduceEqDiff,reduceIte]
  have:d=bZ y.l ps:=by
   have h1:d.take ps.length=d:=List.take_of_length_le (by omega)
   have h2:(bZ y.l ps).take ps.length=bZ y.l ps:=List.take_of_length_le (by simp [bZ])
   rw [← h1,dt,h2]
  rw [this] at q0
  exact hK h' q0 qx qn
theorem qH(p:lZ):bq (dJ p)=true:=by
 rw [ir]
 have h1:bq [aq encI 1 p.vals]=true:=by cases p.vals<;>rfl
 have h2:bq [aq dJ 3 p.parts]=true:=by cases p.parts<;>rfl
 simp only [bq,Bool.and_true] at h1 h2 ⊢
 rw [h1,h2];rfl
theorem eG{p:lZ}(hp:Ae p):∀ {n:Int} {h:af} {K:Out→af→Bool},0≤n→n≤400→(∀ r:Int,0≤r→r≤401+(cy:Int)→K (.ret (.int .i64 r)) h=true)→Sem Tryz.prog 28 [.agg (dJ p),.int .i64 n] h K:=by
 induction hp with
 |mk p hv hl hq ih=>
 intro n h K h0 h4 hK
 have main:Sem Tryz.prog 28 [.agg (dJ p),.int .i64 n] af.empty (fun o h'=>yes (∃ r:Int,o = .ret (.int .i64 r)∧0≤r∧r≤401+(cy:Int))):=by
  refine F.wu ?_
  rw [F.yC]
  simp only [cI (qH p),bindO_some,bM]
  have g0:(af.empty.alloc (.cells (dJ p))).get 0=some (.cells (dJ p)):=aI _ _
  generalize (af.empty.alloc (.cells (dJ p)))=H at g0 ⊢
  have l1:aj none (.ptr 0 1) H=some (aq encI 1 p.vals):=by rw [ak g0,ir];rfl
  have l2:aj none (.ptr 0 2) H=some (aq dJ 3 p.parts):=by rw [ak g0,ir];rfl
  have hbig:(cy:Int)=4611686018427387904:=rfl
  have hdiv:((p.vals.l.length/60:Nat):Int)≤(cy:Int):=by have:p.vals.l.length/60≤p.vals.l.length:=Nat.div_le_self _ _;omega
  have hq2:aF .quo (.int .i64 (p.vals.l.length:Int)) (.int .i64 60)=some (.int .i64 ((p.vals.l.length/60:Nat):Int)):=Ca (b:=60) (by omega) hv
  simp only [aQ,Nat.reduceAdd,Nat.reduceEqDiff,reduceIte,fJ (a:=n) (b:=1) (by omega) (by omega),l1,hq2,fJ (a:=n+1) (b:=((p.vals.l.length/60:Nat):Int)) (by omega) (by omega)]
  refine iZ (fun m e h'=>∃ (i:Nat) (r:Int),i≤p.parts.l.length∧m=p.parts.l.length-i∧h'=H∧0≤r∧r≤401+(cy:Int)∧e 1 = .int .i64 r∧e 2 = .ptr 0 0∧e 5 = .int .i64 (i:Int)) p.parts.l.length ⟨0,_,Nat.zero_le _,rfl,rfl,by omega,by omega,rfl,rfl,rfl⟩ ?_
  rintro m e h' ⟨i,r,hi,rfl,rfl,r0,r1,e1,e2,e5⟩
  rw [F.eG.aP]
  simp only [e1,e2,e5,aQ,Nat.reduceAdd,Nat.reduceEqDiff,reduceIte,l2]
  by_cases hlt:i<p.parts.l.length
  ·simp only [bf hlt,aD]
   by_cases hr4:r≤400
   ·have hx:p.parts.l[i]?=some p.parts.l[i]:=List.getElem?_eq_getElem hlt
    generalize p.parts.l[i]=q at hx
    have hqm:=List.mem_of_getElem? hx
    simp only [decide_eq_true hr4,aD,aT p.parts hlt,c8 uR hx,bindO_some]
    refine an (ih q hqm r0 hr4 fun r' a b=>?_)
    simp only [aQ,Nat.reduceAdd,Nat.reduceEqDiff,reduceIte,e5,aK hlt hl]
    exact cz.2 ⟨p.parts.l.length-(i+1),by omega,rfl,rfl,i+1,r',by omega,rfl,rfl,a,b,rfl,e2,rfl⟩
   ·simp only [decide_eq_false hr4,aC,loopK_exit]
    rw [F.eG.aG]
    simp only [bE,Nat.reduceEqDiff,reduceIte,e1]
    exact cz.2 ⟨r,rfl,r0,r1⟩
  ·have:i=p.parts.l.length:=by omega
   simp only [this,aR,aC,loopK_exit]
   rw [F.eG.aG]
   simp only [bE,Nat.reduceEqDiff,reduceIte,e1]
   exact cz.2 ⟨r,rfl,r0,r1⟩
 refine main.frozen (by simp [AV.pureL,AV.pure,zj]) fun o h' ho=>?_
 obtain ⟨r,rfl,a,b⟩:=cz.1 ho
 exact ⟨_,_,rfl,.scalar _ rfl,hK r a b⟩
theorem Cb{x y:Sl Int}(hx:x.l.length≤cy){h:af}{K:Out→af→Bool}(hK:K (.ret (.bool (decide (x.l=y.l)))) h=true):Sem Tryz.prog 128 [aq encI 1 x,aq encI 1 y] h K:=by
 refine F.lE ?_
 rw [F.lY]
 simp only [aQ,Nat.reduceAdd,Nat.reduceEqDiff,reduceIte,ct]
 by_cases hl:x.l.length=y.l.length
 ·simp only [decide_eq_true (show ((x.l.length:Nat):Int)=((y.l.length:Nat):Int) by omega),Bool.not_true,aC]
  refine aE 0 x.l.length (Nat.zero_le _) (fun i e h'=>h'=h∧e 0=aq encI 1 x∧e 1=aq encI 1 y∧e 12 = .int .i64 (x.l.length:Int)∧e 13 = .int .i64 (i:Int)∧x.l.take i=y.l.take i) ⟨rfl,rfl,rfl,rfl,rfl,rfl⟩ ?_ ?_
  ·rintro i e h' _ hi ⟨rfl,e0,e1,e12,e13,ht⟩ K' hn hx' hr hp
   have hv:x.l[i]?=some x.l[i]:=List.getElem?_eq_getElem hi
   have hw:y.l[i]?=some (y.l[i]'(by omega)):=List.getElem?_eq_getElem _
   generalize x.l[i]=a at hv
   generalize y.l[i]'(by omega)=b at hw
   rw [F.bW.aP]
   simp only [e0,e1,e12,e13,aQ,Nat.reduceAdd,Nat.reduceEqDiff,reduceIte,bf hi,aT x hi,aT y (show i<y.l.length by omega),fB hv,fB hw,ct]
   by_cases hab:a=b
   ·simp only [decide_eq_true hab,Bool.not_true,aC,e13,aK hi hx,bindO_some]
    exact hn _ _ ⟨rfl,e0,e1,e12,rfl,by rw [List.take_add_one,List.take_add_one,ht,hv,hw,hab]⟩
   ·simp only [decide_eq_false hab,Bool.not_false,aD]
    rw [hr,F.bW.bp]
    simp only [bE,Nat.reduceEqDiff,reduceIte]
    rw [decide_eq_false (fun h5=>hab (by rw [h5,hw] at hv;exact (Option.some.inj hv).symm))] at hK
    exact hK
  ·rintro e h' ⟨rfl,e0,e1,e12,e13,ht⟩ K' hx'
   rw [F.bW.aP]
   simp only [e12,e13,aQ,Nat.reduceAdd,Nat.reduceEqDiff,reduceIte,aR]
   rw [hx',F.bW.aG]
   rw [List.take_of_length_le (Nat.le_refl _),List.take_of_length_le (by omega)] at ht
   rw [decide_eq_true ht] at hK
   exact hK
 ·simp only [decide_eq_false (show ¬ ((x.l.length:Nat):Int)=((y.l.length:Nat):Int) by omega),Bool.not_false,aD]
  rw [decide_eq_false (fun h5=>hl (by rw [h5]))] at hK
  exact hK
def Cc(hs:List bA)(c:dI):Bool:=decide (c.name ∈ hs)&&(!c.neg&&decide (c.kind=0))
def G2(rec:lZ→bA→List Int→Bool)(n:Nat)(L:Lk)(hs:List bA)(r:aJ)(vs:List Int):List dI→List lZ→Bool
 |[],ps=>ps.isEmpty
 |c :: cs,ps=>ej n L c (bZ vs (cr r c))&&(if Cc hs c=true then (match ps with|[]=>false|p :: ps=>rec p c.name (bZ vs (cr r c))&&G2 rec n L hs r vs cs ps) else G2 rec n L hs r vs cs ps)
def zD(n:Nat)(L:Lk)(rs:List aJ):Nat→lZ→bA→List Int→Bool
 |0,_,_,_=>false
 |k+1,p,nm,t=>decide (0≤p.rule)&&(match rs[p.rule.toNat]? with
  |none=>false
  |some r=>(r.name==nm)&&(decide (p.vals.l.length=(varsOf r).length)&&(gd n p.vals.l&&(decide (bZ p.vals.l (placesOf (varsOf r) r.args.l)=t)&&G2 (zD n L rs k) n L (bg rs) r p.vals.l r.body.l p.parts.l))))
def iW(x:Sl lZ)(k:Nat):AV:=match x with|none=>.nils|some l=>.islice (l.flatMap dJ) (k*3) (l.length-k) 3
theorem Cd(x:Sl lZ):iW x 0=aq dJ 3 x:=by cases x<;>simp [iW,aq]
theorem Bj(x:Sl lZ)(k:Nat)(h:af):bR .slice (iW x k) h=some (.int .i64 ((x.l.length-k:Nat):Int)):=by
 cases x with
 |none=>simp [iW,bR,Sl.l]
 |some l=>rfl
theorem IN{x:Sl lZ}{k:Nat}(hk:k<x.l.length):dx 3 (iW x k) (.int .i64 0)=some (.iptr (x.l.flatMap dJ) (k*3)):=by
 cases x with
 |none=>simp [Sl.l] at hk
 |some l=>
  replace hk:k<l.length:=hk
  simp only [iW,dx,asNat]
  simp [Sl.l]
  omega
theorem EZ{x:Sl lZ}{k:Nat}(hk:k<x.l.length):fq (some 3) (iW x k) (some (.int .i64 1)) none=some (iW x (k+1)):=by
 cases x with
 |none=>simp [Sl.l] at hk
 |some l=>
  replace hk:k<l.length:=hk
  have h1:1≤l.length-k:=by omega
  simp [iW,fq,jK,kW,asNat,h1]
  omega
end
end Go.AM
namespace Go.AM
open Go Go.Proofs
noncomputable section
structure Pq (n P M S B lo:Nat) (rules:Sl aJ) (ks:List bA) (lv:Lev.Lv) (D:DB) (h:af):Prop where
 hP:∃ A,h.get P=some (.cells [aq aM 3 rules,.map A,.map M])
 hl:dZ (bg rules.l) h M ks lv
 hS:h.get S=some (.cells [.int .i64 (n:Int),.map B])
 hD:dm D h B lo
 lt:P<h.next∧M<h.next∧S<h.next
theorem Pq.ext{n P M S B lo:Nat}{rules:Sl aJ}{ks:List bA}{lv:Lev.Lv}{D:DB}{h h':af}(g:Pq n P M S B lo rules ks lv D h)(x:bK h h'):Pq n P M S B lo rules ks lv D h':=by
 obtain ⟨⟨A,hP⟩,hl,hS,hD,l1,l2,l3⟩:=g
 have:=x.next
 exact ⟨⟨A,by rw [x.get _ l1];exact hP⟩,hl.keep (x.get _ l2),by rw [x.get _ l3];exact hS,hD.ext x,by omega,by omega,by omega⟩
theorem Mp{n:Nat}{l:List Int}:(l.any fun v=>decide (v<0)||decide ((n:Int)≤v)) = !gd n l:=by
 unfold gd
 induction l with
 |nil=>rfl
 |cons v l ih=>rw [List.any_cons,List.all_cons,ih];cases decide (v<0)<;>cases decide ((n:Int)≤v)<;>simp
theorem GX{rules:Sl aJ}{i:Nat}{r:aJ}(hv:rules.l[i]?=some r)(h:af):aj none (.iptr (rules.l.flatMap aM) (i*3)) h=some (.str r.name):=by
 have:=eN (h:=h) eP hv (k:=0) (by omega)
 rw [Nat.add_zero] at this
 rw [this];rfl
theorem Le(rec:lZ→bA→List Int→Bool)(n:Nat)(L:Lk)(hs:List bA)(r:aJ)(vs:List Int)(ps:List lZ):G2 rec n L hs r vs [] ps=ps.isEmpty:=by cases ps<;>rfl
theorem DP(rec:lZ→bA→List Int→Bool)(n:Nat)(L:Lk)(hs:List bA)(r:aJ)(vs:List Int)(c:dI)(cs:List dI)(ps:List lZ):G2 rec n L hs r vs (c :: cs) ps=(ej n L c (bZ vs (cr r c))&&(if Cc hs c=true then (match ps with|[]=>false|p :: ps=>rec p c.name (bZ vs (cr r c))&&G2 rec n L hs r vs cs ps) else G2 rec n L hs r vs cs ps)):=by
 cases ps<;>rfl
set_option maxHeartbeats 4000000 in
theorem Ce{n P M S B lo:Nat}{rules:Sl aJ}{ks:List bA}{lv:Lev.Lv}{D:DB}(n1:1≤n)(hfew:∀ r ∈ rules.l,r.lR)(hask:∀ r ∈ rules.l,yW n D r) :
  ∀ (k:Nat) (p:lZ),SizeOf.sizeOf p≤k→Ae p→∀ {nm:bA} {T:AV} {y:Sl Int} {h:af} {K:Out→af→Bool},Pq n P M S B lo rules ks lv D h→(∀ h',bK h h'→Fz true h' T (aq encI 1 y)) →
   (∀ h',bK h h'→K (.ret (.bool (zD n (cN D) rules.l k p nm y.l))) h'=true)→Sem Tryz.prog 81 [.ptr S 0,.ptr P 0,.str nm,T,.agg (dJ p)] h K:=by
 intro k
 induction k with
 |zero=>intro p hk;obtain ⟨a,b,c⟩:=p;simp at hk
 |succ k ihk=>
 intro p hk hpo nm T y h K hv hT hK
 have hin:∀ q ∈ p.parts.l,SizeOf.sizeOf q≤k∧Ae q:=fun q hq=>⟨by have:=lZ.zi hq;omega,by cases hpo with|mk _ _ _ h3=>exact h3 q hq⟩
 have hpl:p.parts.l.length≤cy∧p.vals.l.length≤cy:=by cases hpo with|mk _ h1 h2 _=>exact ⟨h2,h1⟩
 refine F.nI ?_
 rw [F.ox]
 simp only [show ef (.ptr S 0)=some [.ptr S 0] from rfl,cI (qH p),bindO_some,af.next_alloc]
 have g0:((h.alloc (.cells [.ptr S 0])).alloc (.cells (dJ p))).get h.next=some (.cells [.ptr S 0]):=by simp [af.aX]
 have g1:((h.alloc (.cells [.ptr S 0])).alloc (.cells (dJ p))).get (h.next+1)=some (.cells (dJ p)):=by simp [af.aX]
 have gx:bK h ((h.alloc (.cells [.ptr S 0])).alloc (.cells (dJ p))):=(bK.alloc _ _).trans (bK.alloc _ _)
 have gn:((h.alloc (.cells [.ptr S 0])).alloc (.cells (dJ p))).next=h.next+1+1:=rfl
 generalize ((h.alloc (.cells [.ptr S 0])).alloc (.cells (dJ p)))=H at g0 g1 gx gn ⊢
 have vH:=hv.ext gx
 obtain ⟨A,hP⟩:=vH.hP
 have lr:aj none (.ptr (h.next+1) 0) H=some (.int .i64 p.rule):=by rw [ak g1,ir];rfl
 have lp:aj none (.ptr P 0) H=some (aq aM 3 rules):=by rw [ak hP];rfl
 simp only [aQ,Nat.reduceAdd,Nat.reduceEqDiff,reduceIte,lr]
 by_cases hneg:p.rule<0
 ·simp only [decide_eq_true hneg,aD]
  have:zD n (cN D) rules.l (k+1) p nm y.l=false:=by unfold zD;rw [decide_eq_false (by omega)];rfl
  rw [this] at hK
  exact hK H gx
 obtain ⟨i,hi⟩:∃ i:Nat,p.rule=(i:Int):=⟨p.rule.toNat,by omega⟩
 have hit:p.rule.toNat=i:=by omega
 simp only [decide_eq_false hneg,aC,bF,aQ,Nat.reduceAdd,Nat.reduceEqDiff,reduceIte,lr,lp]
 by_cases hbi:(rules.l.length:Int)≤p.rule
 ·simp only [decide_eq_true hbi,aD]
  have:zD n (cN D) rules.l (k+1) p nm y.l=false:=by unfold zD;rw [List.getElem?_eq_none (by omega:rules.l.length≤p.rule.toNat),Bool.and_false]
  rw [this] at hK
  exact hK H gx
 have hil:i<rules.l.length:=by omega
 have hr:rules.l[i]?=some rules.l[i]:=List.getElem?_eq_getElem hil
 generalize rules.l[i]=r at hr
 have hrm:=List.mem_of_getElem? hr
 have hf:=hfew r hrm
 have hak:=hask r hrm
 have hbb:r.body.l.length≤cy:=by have:=hf.2.1;unfold cy;omega
 have hpr:zD n (cN D) rules.l (k+1) p nm y.l=((r.name==nm)&&(decide (p.vals.l.length=(varsOf r).length)&&(gd n p.vals.l&&(decide (bZ p.vals.l (placesOf (varsOf r) r.args.l)=y.l)&&G2 (zD n (cN D) rules.l k) n (cN D) (bg rules.l) r p.vals.l r.body.l p.parts.l)))):=by
  rw [zD,hit,hr,decide_eq_true (by omega),Bool.true_and]
 rw [hpr] at hK
 clear hpr
 rw [hi]
 simp only [decide_eq_false (show ¬ (rules.l.length:Int)≤(i:Int) by omega),aC,bF,aQ,Nat.reduceAdd,Nat.reduceEqDiff,reduceIte,lr,hi,lp,aT rules hil,GX hr]
 cases hnm:(r.name==nm) with
 |false=>
  simp only [Bool.not_false,aD]
  rw [hnm] at hK
  exact hK H gx
 |true=>
 rw [hnm,Bool.true_and] at hK
 simp only [Bool.not_true,aC,bF,aQ,Nat.reduceAdd,Nat.reduceEqDiff,reduceIte,lr,hi,lp,aT rules hil,c8 eP hr]
 refine an (cc hf fun hd cs ls hhd hcs hls=>?_)
 have hcl:cs.l.length=r.body.l.length:=by have:=congrArg List.length hcs;simpa using this
 have ohd:bq [aq encI 1 hd]=true:=by cases hd<;>rfl
 have ocs:bq [aq ey 1 cs]=true:=by cases cs<;>rfl
 have ols:bq [aq encI 1 ls]=true:=by cases ls<;>rfl
 have oar:bq [aq encS 1 r.args]=true:=by cases r.args<;>rfl
 have obd:bq [aq bJ 4 r.body]=true:=by cases r.body<;>rfl
 have onep:bq (bx (i:Int) r (varsOf r).length (aq encI 1 hd) (aq ey 1 cs) (aq encI 1 ls))=true:=by
  simp only [bq,Bool.and_true] at ohd ocs ols oar obd
  simp only [bx,bq,ohd,ocs,ols,oar,obd,Bool.and_true]
  rfl
 obtain ⟨H2,hs2,b2,bo2,bn2⟩:=cJ (h:=H) (zs:=[.int .i64 0,.str [],.nils,.nils,.int .i64 0,.nils,.nils,.nils]) (cs:=bx (i:Int) r (varsOf r).length (aq encI 1 hd) (aq ey 1 cs) (aq encI 1 ls)) (n:=8) rfl rfl onep
 have x2:bK H H2:=⟨by omega,fun b hb=>bo2 b (by omega)⟩
 rw [gn] at hs2 b2
 simp only [bx] at b2
 have q0:H2.get h.next=some (.cells [.ptr S 0]):=by rw [x2.get _ (by omega)];exact g0
 have q1:H2.get (h.next+1)=some (.cells (dJ p)):=by rw [x2.get _ (by omega)];exact g1
 have v2:=vH.ext x2
 have lv2:aj none (.ptr (h.next+1) 1) H2=some (aq encI 1 p.vals):=by rw [ak q1,ir];rfl
 simp only [aQ,Nat.reduceAdd,Nat.reduceEqDiff,reduceIte,hs2,lv2,ak b2,ct]
 by_cases hvl:p.vals.l.length=(varsOf r).length
 case neg=>
  simp only [decide_eq_false (show ¬ ((p.vals.l.length:Nat):Int)=((varsOf r).length:Int) by omega),Bool.not_false,aD]
  rw [decide_eq_false hvl] at hK
  exact hK H2 (gx.trans x2)
 rw [decide_eq_true hvl,Bool.true_and] at hK
 simp only [decide_eq_true (show ((p.vals.l.length:Nat):Int)=((varsOf r).length:Int) by omega),Bool.not_true,aC,aQ,Nat.reduceAdd,Nat.reduceEqDiff,reduceIte,lv2]
 refine an (m6 (a:=[]) (b:=[.ptr h.next 0]) (p:=fun v=>decide (v<0)||decide ((n:Int)≤v)) hpl.2 (fun v K' hK'=>?_) ?_)
 ·refine F.mE ?_
  rw [F.mU]
  simp only [aQ,Nat.reduceAdd,Nat.reduceEqDiff,reduceIte]
  by_cases hv0:v<0
  ·simp only [decide_eq_true hv0,aD] at hK' ⊢
   exact hK'
  ·simp only [decide_eq_false hv0,aC,ak q0,aQ,Nat.reduceAdd,Nat.reduceEqDiff,reduceIte,bF,ak v2.hS] at hK' ⊢
   exact hK'
 rw [Mp]
 simp only [aQ,Nat.reduceAdd,Nat.reduceEqDiff,reduceIte]
 cases hib:gd n p.vals.l with
 |false=>
  simp only [Bool.not_false,aD]
  rw [hib] at hK
  exact hK H2 (gx.trans x2)
 |true=>
 rw [hib,Bool.true_and] at hK
 have hlt:∀ (xs:List bA),(∀ s ∈ xs,s ∈ varsOf r)→∀ q ∈ placesOf (varsOf r) xs,q<p.vals.l.length:=fun xs hxs=>by rw [hvl];exact jU hxs
 have hplh:(placesOf (varsOf r) r.args.l).length=r.args.l.length:=by unfold placesOf;simp
 simp only [Bool.not_true,aC,aQ,Nat.reduceAdd,Nat.reduceEqDiff,reduceIte,lv2,ak b2]
 refine an (IM (ps:=placesOf (varsOf r) r.args.l) rfl hhd (hlt _ kM) (by rw [hplh];have:=hf.1;omega) fun h3 t1 x3 t2=>?_)
 simp only [outK_ret]
 have x03:=(gx.trans x2).trans x3
 have hvlen:=jb p.vals.l (placesOf (varsOf r) r.args.l)
 rw [← hvlen]
 have hEq:=Cb (x:=some (bZ p.vals.l (placesOf (varsOf r) r.args.l))) (y:=y) (by show (bZ p.vals.l (placesOf (varsOf r) r.args.l)).length≤cy;rw [hvlen,hplh];have:=hf.1;unfold cy;omega) (h:=af.empty) (K:=lU (.bool (decide (bZ p.vals.l (placesOf (varsOf r) r.args.l)=y.l)))) (eV rfl)
 refine an (Sem.Lr rfl hEq (lf.cons (qC t1) (lf.cons (hT h3 x03) .nil)) ?_)
 simp only [aQ,Nat.reduceAdd,Nat.reduceEqDiff,reduceIte]
 by_cases heq:bZ p.vals.l (placesOf (varsOf r) r.args.l)=y.l
 case neg=>
  simp only [decide_eq_false heq,Bool.not_false,aD]
  rw [decide_eq_false heq] at hK
  exact hK h3 x03
 rw [decide_eq_true heq,Bool.true_and] at hK
 have v3:=hv.ext x03
 have x23:=x2.trans x3
 have c0:h3.get h.next=some (.cells [.ptr S 0]):=by rw [x3.get _ (by omega)];exact q0
 have c1:h3.get (h.next+1)=some (.cells (dJ p)):=by rw [x3.get _ (by omega)];exact q1
 have c2:h3.get (h.next+1+1)=some (.cells [.int .i64 (i:Int),.str r.name,aq encS 1 r.args,aq bJ 4 r.body,.int .i64 (varsOf r).length,aq encI 1 hd,aq ey 1 cs,aq encI 1 ls]):=by rw [x3.get _ (by omega)];exact b2
 have lpt:aj none (.ptr (h.next+1) 2) h3=some (iW p.parts 0):=by rw [ak c1,ir,Cd];rfl
 have hx3:=x3.next
 simp only [decide_eq_true heq,Bool.not_true,aC,aQ,Nat.reduceAdd,Nat.reduceEqDiff,reduceIte,lpt,ak c2]
 refine aE 0 r.body.l.length (Nat.zero_le _) (fun m e h'=>∃ j,j≤p.parts.l.length∧bK h3 h'∧e 1 = .ptr P 0∧e 5 = .ptr h.next 0∧e 9 = .ptr (h.next+1) 0∧e 11 = .ptr (h.next+1+1) 0∧e 12=iW p.parts j∧e 82=aq bJ 4 r.body∧e 83 = .int .i64 (r.body.l.length:Int)∧e 84 = .int .i64 (m:Int) ∧
  G2 (zD n (cN D) rules.l k) n (cN D) (bg rules.l) r p.vals.l r.body.l p.parts.l=G2 (zD n (cN D) rules.l k) n (cN D) (bg rules.l) r p.vals.l (r.body.l.drop m) (p.parts.l.drop j)) ⟨0,Nat.zero_le _,bK.refl _,rfl,rfl,rfl,rfl,rfl,rfl,rfl,rfl,rfl⟩ ?_ ?_
 ·rintro m e h' _ hm ⟨j,hj,x4,e1,e5,e9,e11,e12,e82,e83,e84,htot⟩ K' hn hx hrr hp
  have hc:r.body.l[m]?=some r.body.l[m]:=List.getElem?_eq_getElem hm
  generalize r.body.l[m]=c at hc
  have hcm:=List.mem_of_getElem? hc
  have hx4:=x4.next
  have hdr:r.body.l.drop m=c :: r.body.l.drop (m+1):=by rw [List.drop_eq_getElem_cons hm];congr 1;exact Option.some.inj ((List.getElem?_eq_getElem hm).symm.trans hc)
  rw [hdr,DP] at htot
  obtain ⟨H5,hs5,d5,do5,dn5⟩:=cJ (h:=h') (zs:=[.int .i64 0,.bool false,.str [],.nils]) (cs:=bJ c) (n:=4) rfl rfl (fY c)
  have x5:bK h3 H5:=x4.trans ⟨by omega,fun b hb=>do5 b (by omega)⟩
  have hx5:=x5.next
  have f1:H5.get (h.next+1)=some (.cells (dJ p)):=by rw [x5.get _ (by omega)];exact c1
  have f2:H5.get (h.next+1+1)=some (.cells [.int .i64 (i:Int),.str r.name,aq encS 1 r.args,aq bJ 4 r.body,.int .i64 (varsOf r).length,aq encI 1 hd,aq ey 1 cs,aq encI 1 ls]):=by rw [x5.get _ (by omega)];exact c2
  have lv5:aj none (.ptr (h.next+1) 1) H5=some (aq encI 1 p.vals):=by rw [ak f1,ir];rfl
  have hci:m<cs.l.length:=by omega
  have hrow:cs.l[m]?=some cs.l[m]:=List.getElem?_eq_getElem hci
  have hxl:(cs.l[m]).l=(cr r c).map fun (p:Nat)=>(p:Int):=by
   have h3:(cs.l.map Sl.l)[m]?=some (gq (varsOf r) c.args.l):=by rw [hcs,List.getElem?_map,hc];rfl
   rw [List.getElem?_map,hrow] at h3
   exact Option.some.inj h3
  generalize cs.l[m]=xi at hrow hxl
  have hplc:(cr r c).length=c.args.l.length:=by unfold cr placesOf;simp
  rw [F.b8.aP]
  simp only [e82,e83,e84,aQ,Nat.reduceAdd,Nat.reduceEqDiff,reduceIte,bf hm,aT r.body hm,c8 fX hc,hs5]
  simp only [e9,e11,e84,aQ,Nat.reduceAdd,Nat.reduceEqDiff,reduceIte,lv5,ak f2,aT cs hci,iC hrow]
  refine an (IM (ps:=cr r c) rfl hxl (hlt _ (mX hcm)) (by rw [hplc];have:=hak.arity c hcm;omega) fun h6 t3 x6 t4=>?_)
  have x36:=x5.trans x6
  have x06:=x03.trans x36
  have v6:=hv.ext x06
  have hx6:=x6.next
  have k0:h6.get h.next=some (.cells [.ptr S 0]):=by rw [x36.get _ (by omega)];exact c0
  have k5:h6.get h'.next=some (.cells (bJ c)):=by rw [x6.get _ (by omega)];exact d5
  have hcl6:=jb p.vals.l (cr r c)
  simp only [aQ,Nat.reduceAdd,Nat.reduceEqDiff,reduceIte,e5,ak k0,ak k5,bJ,w8]
  rw [← hcl6]
  refine an (vB (D:=D) (lo:=lo) v6.hS v6.hD n1 t3 t4 v6.lt.2.2 (by rw [hcl6,hplc];exact hak.arity c hcm) (kN hib (hlt _ (mX hcm))) (fun kk=>by rw [hcl6,hplc];exact hak.rel c hcm kk) (fun k12=>by rw [hcl6,hplc];exact hak.two c hcm k12) (hak.kinds c hcm) fun h7 x7=>?_)
  have x37:=x36.trans x7
  have x07:=x03.trans x37
  have v7:=hv.ext x07
  obtain ⟨A7,hP7⟩:=v7.hP
  have hx7:=x7.next
  have k7:h7.get h'.next=some (.cells (bJ c)):=by rw [x7.get _ (by omega)];exact k5
  have k70:h7.get h.next=some (.cells [.ptr S 0]):=by rw [x7.get _ (by omega)];exact k0
  simp only [bJ] at k7
  simp only [aQ,Nat.reduceAdd,Nat.reduceEqDiff,reduceIte]
  cases hcv:ej n (cN D) c (bZ p.vals.l (cr r c)) with
  |false=>
   simp only [Bool.not_false,aD]
   rw [hrr,F.b8.bp]
   simp only [bE,Nat.reduceEqDiff,reduceIte]
   rw [hcv,Bool.false_and] at htot
   rw [htot] at hK
   exact hK h7 x07
  |true=>
  rw [hcv,Bool.true_and] at htot
  have skip:∀ (e':Env),Cc (bg rules.l) c=false→e' 1 = .ptr P 0→e' 5 = .ptr h.next 0→e' 9 = .ptr (h.next+1) 0→e' 11 = .ptr (h.next+1+1) 0→e' 12=iW p.parts j→e' 82=aq bJ 4 r.body→e' 83 = .int .i64 (r.body.l.length:Int)→e' 84 = .int .i64 ((m+1:Nat):Int)→K' .normal ⟨e',146,[],h7⟩=true:=fun e' ha a1 a2 a3 a4 a5 a6 a7 a8=>by
   rw [if_neg (by rw [ha];simp)] at htot
   exact hn _ _ ⟨j,hj,x37,a1,a2,a3,a4,a5,a6,a7,a8,htot⟩
  simp only [Bool.not_true,aC,e1,bF,aQ,Nat.reduceAdd,Nat.reduceEqDiff,reduceIte,ak hP7,ak k7,v7.hl.look]
  by_cases hch:c.name ∈ bg rules.l
  case neg=>
   simp only [decide_eq_false hch,Bool.not_false,aD,e84,aK hm hbb,bindO_some]
   exact skip _ (by unfold Cc;rw [decide_eq_false hch];rfl) e1 e5 e9 e11 e12 e82 e83 rfl
  simp only [decide_eq_true hch,Bool.not_true,aC,aQ,Nat.reduceAdd,Nat.reduceEqDiff,reduceIte,ak k7]
  cases hcn:c.neg with
  |true=>
   simp only [aD,e84,aK hm hbb,bindO_some]
   exact skip _ (by unfold Cc;rw [hcn];simp) e1 e5 e9 e11 e12 e82 e83 rfl
  |false=>
  simp only [aC,aQ,Nat.reduceAdd,Nat.reduceEqDiff,reduceIte,ak k7,ct]
  by_cases hck:c.kind=0
  case neg=>
   simp only [decide_eq_false hck,Bool.not_false,aD,e84,aK hm hbb,bindO_some]
   exact skip _ (by unfold Cc;rw [hcn,decide_eq_false hck];simp) e1 e5 e9 e11 e12 e82 e83 rfl
  have hap:Cc (bg rules.l) c=true:=by unfold Cc;rw [decide_eq_true hch,hcn,decide_eq_true hck];rfl
  rw [if_pos hap] at htot
  simp only [decide_eq_true hck,Bool.not_true,aC,e12,aQ,Nat.reduceAdd,Nat.reduceEqDiff,reduceIte,Bj,ct]
  by_cases hjl:j=p.parts.l.length
  ·simp only [decide_eq_true (show ((p.parts.l.length-j:Nat):Int)=0 by omega),aD]
   rw [hrr,F.b8.bp]
   simp only [bE,Nat.reduceEqDiff,reduceIte]
   rw [List.drop_of_length_le (by omega)] at htot
   rw [htot] at hK
   exact hK h7 x07
  ·have hjlt:j<p.parts.l.length:=by omega
   have hq:p.parts.l[j]?=some p.parts.l[j]:=List.getElem?_eq_getElem hjlt
   have hdj:p.parts.l.drop j=p.parts.l[j] :: p.parts.l.drop (j+1):=List.drop_eq_getElem_cons hjlt
   rw [hdj] at htot
   generalize p.parts.l[j]=q at hq htot
   have hqm:=List.mem_of_getElem? hq
   simp only [decide_eq_false (show ¬ ((p.parts.l.length-j:Nat):Int)=0 by omega),aC,aQ,Nat.reduceAdd,Nat.reduceEqDiff,reduceIte,e1,e5,e12,ak k70,ak k7,IN hjlt,c8 uR hq]
   have t7:h7.get H5.next=some (.cells ((bZ p.vals.l (cr r c)).map iv)):=by rw [x7.get _ (by omega)];exact t3
   refine an (ihk q (hin q hqm).1 (hin q hqm).2 (y:=some (bZ p.vals.l (cr r c))) v7 (fun h8 x8=>qC (by rw [x8.get _ (by omega)];exact t7)) fun h8 x8=>?_)
   simp only [aQ,Nat.reduceAdd,Nat.reduceEqDiff,reduceIte]
   have x08:=x07.trans x8
   replace htot:_=(zD n (cN D) rules.l k q c.name (bZ p.vals.l (cr r c))&&_):=htot
   rw [show Sl.l (some (bZ p.vals.l (cr r c)))=bZ p.vals.l (cr r c) from rfl]
   cases hrec:zD n (cN D) rules.l k q c.name (bZ p.vals.l (cr r c)) with
   |false=>
    simp only [Bool.not_false,aD]
    rw [hrr,F.b8.bp]
    simp only [bE,Nat.reduceEqDiff,reduceIte]
    rw [hrec,Bool.false_and] at htot
    rw [htot] at hK
    exact hK h8 x08
   |true=>
    rw [hrec,Bool.true_and] at htot
    simp only [Bool.not_true,aC,e12,e84,EZ hjlt,aK hm hbb,bindO_some]
    exact hn _ _ ⟨j+1,by omega,x37.trans x8,e1,e5,e9,e11,rfl,e82,e83,rfl,htot⟩
 ·rintro e h' ⟨j,hj,x4,e1,e5,e9,e11,e12,e82,e83,e84,htot⟩ K' hx
  rw [F.b8.aP]
  simp only [e83,e84,aQ,Nat.reduceAdd,Nat.reduceEqDiff,reduceIte,aR]
  rw [hx,F.b8.aG]
  simp only [bE,Nat.reduceEqDiff,reduceIte,e12,Bj,aQ,Nat.reduceAdd,Nat.reduceEqDiff,reduceIte,ct]
  rw [List.drop_of_length_le (Nat.le_refl _),Le] at htot
  have:decide (((p.parts.l.length-j:Nat):Int)=0)=(p.parts.l.drop j).isEmpty:=by
   rw [Bool.eq_iff_iff,decide_eq_true_iff,List.isEmpty_iff,List.drop_eq_nil_iff]
   omega
  rw [this,← htot]
  exact hK h' (x03.trans x4)
end
end Go.AM
namespace Go.AM
open Go Go.Proofs
noncomputable section
theorem GY(i:Int)(r:aJ)(k:Int)(hd:Sl Int)(cs:Sl (Sl Int))(ls:Sl Int):bq (bx i r k (aq encI 1 hd) (aq ey 1 cs) (aq encI 1 ls))=true:=by
 have ohd:bq [aq encI 1 hd]=true:=by cases hd<;>rfl
 have ocs:bq [aq ey 1 cs]=true:=by cases cs<;>rfl
 have ols:bq [aq encI 1 ls]=true:=by cases ls<;>rfl
 have oar:bq [aq encS 1 r.args]=true:=by cases r.args<;>rfl
 have obd:bq [aq bJ 4 r.body]=true:=by cases r.body<;>rfl
 simp only [bq,Bool.and_true] at ohd ocs ols oar obd
 simp only [bx,bq,ohd,ocs,ols,oar,obd,Bool.and_true]
 rfl
theorem E0{i:Int}{r:aJ}{k:Int}{hd:Sl Int}{cs:Sl (Sl Int)}{ls:Sl Int}{y:AV}{h:af}{K:Out→af→Bool}(hK:∀ h',bK h h'→K (.ret (.tuple [])) h'=true) :
  Sem Tryz.prog 80 ([]++([.agg (bx i r k (aq encI 1 hd) (aq ey 1 cs) (aq encI 1 ls)),y]++[])) h K:=by
 refine F.tA ?_
 rw [F.uF]
 simp only [cI (GY i r k hd cs ls),bindO_some]
 exact hK _ (bK.alloc _ _)
theorem IP{n:Nat}{L:Lk}{rs:List aJ}:∀ {k:Nat} {p:lZ} {nm:bA} {t:List Int},zD n L rs k p nm t=true→∃ r ∈ rs,r.name=nm∧Ch n r p.vals.l∧bZ p.vals.l (placesOf (varsOf r) r.args.l)=t∧G2 (zD n L rs (k-1)) n L (bg rs) r p.vals.l r.body.l p.parts.l=true
 |0,p,nm,t,h=>by cases h
 |k+1,p,nm,t,h=>by
  rw [zD,Bool.and_eq_true] at h
  obtain ⟨h1,h2⟩:=h
  cases hr:rs[p.rule.toNat]? with
  |none=>rw [hr] at h2;cases h2
  |some r=>
   rw [hr] at h2
   simp only [Bool.and_eq_true,beq_iff_eq,decide_eq_true_eq] at h2
   obtain ⟨a,b,c,d,e⟩:=h2
   exact ⟨r,List.mem_of_getElem? hr,a,⟨b,c⟩,d,e⟩
theorem Cf{rec:lZ→bA→List Int→Bool}{n:Nat}{L:Lk}{hs:List bA}{r:aJ}{vs:List Int}:∀ {cs:List dI} {ps:List lZ},G2 rec n L hs r vs cs ps=true→cs.all (fun c=>ej n L c (bZ vs (cr r c)))=true
 |[],ps,_=>rfl
 |c :: cs,ps,h=>by
  rw [DP,Bool.and_eq_true] at h
  rw [List.all_cons,h.1,Bool.true_and]
  have h2:=h.2
  by_cases ha:Cc hs c=true
  ·rw [if_pos ha] at h2
   cases ps with
   |nil=>cases h2
   |cons p ps=>
    simp only [Bool.and_eq_true] at h2
    exact Cf h2.2
  ·rw [if_neg ha] at h2
   exact Cf h2
theorem Bk{n:Nat}{rs:List aJ}{s:dP}{L:Lk}(hF:iJ rs n s L){k:Nat}{p:lZ}{nm:bA}{t:List Int}(h:zD n L rs k p nm t=true):nm ∈ bg rs∧L nm (jH n t)=true∧gd n t=true∧∃ r ∈ rs,r.name=nm∧t.length=r.args.l.length:=by
 obtain ⟨r,hr,hrn,ha,ht,hg⟩:=IP h
 obtain ⟨kk,T,hst,hT,g⟩:=hF
 have:=g.closed (Be hst) hT r hr p.vals.l ha (Cf hg)
 unfold zl at this
 rw [ht,hrn] at this
 have hpl:∀ q ∈ placesOf (varsOf r) r.args.l,q<p.vals.l.length:=by rw [ha.1];exact jU kM
 refine ⟨by rw [← hrn];exact List.mem_map_of_mem hr,this,by rw [← ht];exact kN ha.2 hpl,r,hr,hrn,?_⟩
 rw [← ht,jb];unfold placesOf;simp
set_option maxHeartbeats 2000000 in
theorem DQ{rules:Sl aJ}{s:dP}(hok:∀ r ∈ rules.l,r.ok)(hfew:∀ r ∈ rules.l,r.lR)(hsok:s.ok){nm:bA}{t:Sl Int}{p:lZ}(hpo:Ae p){h:af}{K:Out→af→Bool}
  (herr:∀ e,tT rules.l s e→K (.ret (.bool false)) h=true)
  (hyes:iK rules.l s→∀ b:Bool,(b=true→∃ L,iJ rules.l s.size.toNat s L)→(∀ L,iJ rules.l s.size.toNat s L→b=zD s.size.toNat L rules.l (SizeOf.sizeOf p) p nm t.l)→K (.ret (.bool b)) h=true) :
  Sem Tryz.prog 27 [aq aM 3 rules,.agg (aA s),.str nm,aq encI 1 t,.agg (dJ p)] h K:=by
 have main:Sem Tryz.prog 27 [aq aM 3 rules,.agg (aA s),.str nm,aq encI 1 t,.agg (dJ p)] af.empty (fun o h'=>yes (∃ b:Bool,o = .ret (.bool b)∧((∃ e,tT rules.l s e∧b=false)∨(iK rules.l s∧(b=true→∃ L,iJ rules.l s.size.toNat s L)∧∀ L,iJ rules.l s.size.toNat s L→b=zD s.size.toNat L rules.l (SizeOf.sizeOf p) p nm t.l)))):=by
  generalize hR:(fun (o:Out) (h':af)=>yes (∃ b:Bool,o = .ret (.bool b)∧((∃ e,tT rules.l s e∧b=false)∨(iK rules.l s∧(b=true→∃ L,iJ rules.l s.size.toNat s L)∧∀ L,iJ rules.l s.size.toNat s L→b=zD s.size.toNat L rules.l (SizeOf.sizeOf p) p nm t.l))))=R
  have bad:∀ e,tT rules.l s e→∀ h',R (.ret (.bool false)) h'=true:=fun e he h'=>by rw [← hR];exact cz.2 ⟨false,rfl,.inl ⟨e,he,rfl⟩⟩
  have fin:iK rules.l s→∀ b:Bool,(b=true→∃ L,iJ rules.l s.size.toNat s L)→(∀ L,iJ rules.l s.size.toNat s L→b=zD s.size.toNat L rules.l (SizeOf.sizeOf p) p nm t.l)→∀ h',R (.ret (.bool b)) h'=true:=fun ho b h1 h2 h'=>by rw [← hR];exact cz.2 ⟨b,rfl,.inr ⟨ho,h1,h2⟩⟩
  clear hR
  refine F.wv ?_
  rw [F.yD]
  simp only [cI (dD s),cI (qH p),bindO_some,bM,af.next_alloc]
  have g0:((af.alloc af.empty (.cells (aA s))).alloc (.cells (dJ p))).get 0=some (.cells (aA s)):=by simp [af.aX,bM]
  have g1:((af.alloc af.empty (.cells (aA s))).alloc (.cells (dJ p))).get 1=some (.cells (dJ p)):=by simp [af.aX,bM]
  have gn:((af.alloc af.empty (.cells (aA s))).alloc (.cells (dJ p))).next=2:=rfl
  generalize ((af.alloc af.empty (.cells (aA s))).alloc (.cells (dJ p)))=H0 at g0 g1 gn ⊢
  have l0:aj (some 2) (.ptr 0 0) H0=some (.agg (aA s)):=by rw [ak g0,dG (cs:=aA s) (n:=2) rfl]
  simp only [l0,bindO_some]
  refine an (ax hok hfew hsok (fun hb h' hf=>?_) (fun a1 a2 a3 h' hf=>?_) (fun a1 a2 a3 a4 h' hf=>?_) fun a1 a2 a3 a4 h' n P A M S B lo ks k D0 m hn n1 n64 hst sh sd hf hA2=>?_)
  ·simp only [aQ,Nat.reduceAdd,Nat.reduceEqDiff,reduceIte,ct]
   simp only [show (!decide ((1:Int)=0))=true from rfl,aD]
   exact bad 1 (.inl ⟨hb,rfl⟩) h'
  ·simp only [aQ,Nat.reduceAdd,Nat.reduceEqDiff,reduceIte,ct]
   simp only [show (!decide ((4:Int)=0))=true from rfl,aD]
   exact bad 4 (.inr ⟨a1,a2,.inl ⟨a3,rfl⟩⟩) h'
  ·simp only [aQ,Nat.reduceAdd,Nat.reduceEqDiff,reduceIte,ct]
   simp only [show (!decide ((5:Int)=0))=true from rfl,aD]
   exact bad 5 (.inr ⟨a1,a2,.inr ⟨a3,a4,rfl⟩⟩) h'
  have hnn:s.size.toNat=n:=by omega
  have ho:iK rules.l s:=⟨a1,a2,a3,a4⟩
  specialize fin ho
  rw [hnn] at fin
  rw [gn] at hA2
  simp only [aQ,Nat.reduceAdd,Nat.reduceEqDiff,reduceIte,ct]
  simp only [decide_true,Bool.not_true,aC,bF,aQ,Nat.reduceAdd,Nat.reduceEqDiff,reduceIte,ak sh.hP,sh.hl.look]
  by_cases hnm:nm ∈ bg rules.l
  case neg=>
   simp only [decide_eq_false hnm,Bool.not_false,aD]
   refine fin false (fun h=>by cases h) (fun L hL=>?_) h'
   cases hb:zD n L rules.l (SizeOf.sizeOf p) p nm t.l with
   |false=>rfl
   |true=>exact absurd (Bk hL hb).1 hnm
  simp only [decide_eq_true hnm,Bool.not_true,aC]
  refine an (zu hfew a1 a2 a3 a4 hn n1 n64 hst sh sd (fun _ _ _ _ _ _ _ _ _ hk=>E0 hk) fun h3 D' L hF hDF hdim sh3 keep3 hn3=>?_)
  obtain ⟨o1,o2,o3,o4,o5,o6⟩:=sh3.ord
  have p1:h3.get 1=some (.cells (dJ p)):=by rw [keep3 1 (by omega),hf 1 (by omega)];exact g1
  have l3:aj (some 3) (.ptr 1 0) h3=some (.agg (dJ p)):=by rw [ak p1,dG (uR p)]
  simp only [aQ,Nat.reduceAdd,Nat.reduceEqDiff,reduceIte,l3]
  have pv:Pq n P M S B lo rules ks (Lev.iter (bD rules.l) k) D' h3:=⟨⟨A,sh3.hP⟩,sh3.hl,sh3.hS,sh3.hD,by omega,by omega,by omega⟩
  refine an (Ce n1 hfew (fun r hr=>DI a1 sh3.hgo a2 hn a3 a4 sd hr D' hdim) _ p (Nat.le_refl _) hpo (y:=t) pv (fun h4 _=>.ez (cj jQ t)) fun h4 x4=>?_)
  simp only [outK_ret]
  rw [hDF]
  exact fin _ (fun _=>⟨L,hF⟩) (fun L' hL'=>by rw [hL'.unique hF]) h4
 refine main.frozen (by simp [AV.pureL,AV.pure,zj,cj eC,eT,cj jQ]) fun o h' ho=>?_
 obtain ⟨b,rfl,hb⟩:=cz.1 ho
 refine ⟨_,_,rfl,.scalar _ rfl,?_⟩
 rcases hb with ⟨e,he,rfl⟩|⟨hro,h1,h2⟩
 ·exact herr e he
 ·exact hyes hro b h1 h2
end
end Go.AM
namespace Go.AM
open Go Go.Proofs
noncomputable section
theorem GZ{n k:Nat}(n1:1≤n){L:Lk}{nm:bA}{t:List Int}(htl:t.length=k)(htb:gd n t=true):((tS n L nm k (n ^ k)).any fun u=>u==t)=L nm (jH n t):=by
 rw [Bool.eq_iff_iff,List.any_eq_true]
 have hlt:=pK htb
 rw [htl] at hlt
 obtain ⟨b1,b2⟩:=tO n1 hlt
 have ht:kq n k (jH n t)=t:=KL (by rw [pY,htl]) b1 htb b2
 constructor
 ·rintro ⟨u,hu,he⟩
  rw [beq_iff_eq] at he
  obtain ⟨i,hi,hL,rfl⟩:=zA.1 hu
  rw [← he,(tO n1 hi).2];exact hL
 ·intro hL
  exact ⟨_,zA.2 ⟨_,hlt,hL,rfl⟩,by rw [ht];simp⟩
end
end Go.AM
namespace Go.AM
open Go Go.Proofs
noncomputable section
theorem G0(c:Md):bq (mu c)=true:=by
 have h1:bq [aq encI 1 c.t]=true:=by cases c.t<;>rfl
 have h2:=qH c.proof
 unfold mu
 simp only [bq,Bool.and_true] at h1 ⊢
 rw [h1,h2];rfl
theorem IQ(c:Md):gh (some 3) (mu c) 2=some (.agg (dJ c.proof)):=by
 unfold mu
 rw [ir];rfl
theorem IS{rs:List aJ}{s out:dP}{n:Nat}{L:Lk}(ho:iK rs s)(hd:out.rels.l.map eM=s.rels.l.map eM++wG rs n L (eo rs)){q:Rel}(hq:q ∈ out.rels.l)(hn:q.name ∈ bg rs) :
  q.arity=(mH rs q.name:Int)∧q.tuples.l.map Sl.l=tS n L q.name (mH rs q.name) (n ^ mH rs q.name):=by
 have h2:eM q ∈ s.rels.l.map eM++wG rs n L (eo rs):=by rw [← hd];exact List.mem_map_of_mem hq
 rcases List.mem_append.1 h2 with h2|h2
 ·obtain ⟨p,hp,e⟩:=List.mem_map.1 h2
  unfold eM at e
  simp only [Prod.mk.injEq] at e
  exact absurd (.inr ⟨p,hp,by rw [e.1];exact hn⟩) ho.names
 ·obtain ⟨nm,hnm,e⟩:=List.mem_map.1 h2
  unfold eM at e
  simp only [Prod.mk.injEq] at e
  obtain ⟨rfl,e2,e3⟩:=e
  exact ⟨e2.symm,e3.symm⟩
theorem G1{rs:List aJ}{s out:dP}{n:Nat}{L:Lk}(ho:iK rs s)(hd:out.rels.l.map eM=s.rels.l.map eM++wG rs n L (eo rs)){nm:bA}(hn:nm ∈ bg rs):∃ (j:Nat) (q:Rel),jc (jB nm (mH rs nm:Int)) out.rels.l=(j:Int)∧out.rels.l[j]?=some q∧q.name=nm∧q.arity=(mH rs nm:Int):=by
 have hm:(nm,(mH rs nm:Int),tS n L nm (mH rs nm) (n ^ mH rs nm)) ∈ out.rels.l.map eM:=by
  rw [hd];exact List.mem_append_right _ (List.mem_map.2 ⟨nm,(eD rs).2 hn,rfl⟩)
 obtain ⟨p,hp,e⟩:=List.mem_map.1 hm
 unfold eM at e
 simp only [Prod.mk.injEq] at e
 rcases mq (jB nm (mH rs nm:Int)) out.rels.l with ⟨_,h2⟩|⟨j,q,h1,h2,h3⟩
 ·rw [List.find?_eq_none] at h2
  exact absurd (h2 p hp) (by simp [jB,e.1,e.2.1])
 ·have h4:=List.find?_some h3
  simp only [jB,Bool.and_eq_true,beq_iff_eq,decide_eq_true_eq] at h4
  exact ⟨j,q,h1,h2,h4.1,h4.2⟩
set_option maxHeartbeats 2000000 in
theorem zB{rules:Sl aJ}{s:dP}{c:Md}(hok:∀ r ∈ rules.l,r.ok)(hsok:s.ok)(hc:c.ok):Sem Tryz.prog 8 [aq aM 3 rules,.agg (aA s),.agg (mu c)] af.empty CN:=by
 refine F.oZ ?_
 rw [F.qQ]
 simp only [cI (dD s),cI (G0 c),bindO_some,bM,af.next_alloc]
 have g0:((af.alloc af.empty (.cells (aA s))).alloc (.cells (mu c))).get 0=some (.cells (aA s)):=by simp [af.aX,bM]
 have g1:((af.alloc af.empty (.cells (aA s))).alloc (.cells (mu c))).get 1=some (.cells (mu c)):=by simp [af.aX,bM]
 have gn:((af.alloc af.empty (.cells (aA s))).alloc (.cells (mu c))).next=2:=rfl
 generalize ((af.alloc af.empty (.cells (aA s))).alloc (.cells (mu c)))=H at g0 g1 gn ⊢
 have l0:aj (some 2) (.ptr 0 0) H=some (.agg (aA s)):=by rw [ak g0,dG (cs:=aA s) (n:=2) rfl]
 have lt:aj none (.ptr 1 1) H=some (aq encI 1 c.t):=by rw [ak g1];rfl
 have ln:aj none (.ptr 1 0) H=some (.str c.name):=by rw [ak g1];rfl
 have lp:aj (some 3) (.ptr 1 2) H=some (.agg (dJ c.proof)):=by rw [ak g1,IQ]
 have fin:∀ h':af,ah Tryz.prog 12 [] h' (bO (fun x h=>CN (.ret x) h) fun v h=>CN (.panic v) h)=true:=fun h'=>by
  refine an (Gh ?_)
  simp only [aQ,Nat.reduceAdd,Nat.reduceEqDiff,reduceIte];rfl
 simp only [l0,bindO_some]
 refine an (cA hok hsok fun b hb=>?_)
 simp only [aQ,Nat.reduceAdd,Nat.reduceEqDiff,reduceIte]
 cases b with
 |false=>simp only [Bool.not_false,aD];exact fin _
 |true=>
 have hfew:=hb rfl
 simp only [Bool.not_true,aC,lt,ln,aQ,Nat.reduceAdd,Nat.reduceEqDiff,reduceIte]
 by_cases h60:(60:Int)<(c.t.l.length:Int)
 ·simp only [decide_eq_true h60,aD];exact fin _
 simp only [decide_eq_false h60,aC]
 by_cases h1000:(1000:Int)<(c.name.length:Int)
 ·simp only [decide_eq_true h1000,aD];exact fin _
 simp only [decide_eq_false h1000,aC,lp,bindO_some]
 refine an (eG hc.proof (by omega) (by omega) fun r r0 r1=>?_)
 simp only [aQ,Nat.reduceAdd,Nat.reduceEqDiff,reduceIte]
 by_cases h400:(400:Int)<r
 ·simp only [decide_eq_true h400,aD];exact fin _
 simp only [decide_eq_false h400,aC,l0,ln,lt,lp,aQ,Nat.reduceAdd,Nat.reduceEqDiff,reduceIte]
 refine an (DQ hok hfew hsok hc.proof (fun e he=>?_) fun ho b h1 h2=>?_)
 ·simp only [aQ,Nat.reduceAdd,Nat.reduceEqDiff,reduceIte,Bool.not_false,aD];exact fin _
 simp only [aQ,Nat.reduceAdd,Nat.reduceEqDiff,reduceIte]
 cases b with
 |false=>simp only [Bool.not_false,aD];exact fin _
 |true=>
 simp only [Bool.not_true,aC,l0,bindO_some]
 refine an (cU hok hfew hsok (fun hv=>(jV hv).1) (fun e he=>absurd ho (Lc he).2) fun _ out hz hx=>?_)
 obtain ⟨L,hF,hd⟩:=hx
 obtain ⟨n,hn⟩:∃ n:Nat,s.size=(n:Int):=⟨s.size.toNat,by have:=(iT.1 ho.valid).lo;omega⟩
 have hnn:s.size.toNat=n:=by omega
 have hpr:=(h2 L hF).symm
 rw [hnn] at hF hd hpr
 obtain ⟨m,hgo⟩:=ho.good.go
 have n1:1≤n:=by have:=(iT.1 ho.valid).lo;omega
 have hvo:=GW ho hgo hn hz hd
 have hook:=(jV hvo).2
 obtain ⟨hnm,hL,htb,r',hr',hrn',htl⟩:=Bk hF hpr
 have har:mH rules.l c.name=c.t.l.length:=by rw [htl,← B7 hgo hr',hrn']
 obtain ⟨j,q,hj,hq,hqn,hqa⟩:=G1 ho hd hnm
 rw [har] at hj hqa
 have hqt:=(IS ho hd (List.mem_of_getElem? hq) (by rw [hqn];exact hnm)).2
 rw [hqn,har] at hqt
 have hmem:c.t.l ∈ q.tuples.l.map Sl.l:=by
  rw [hqt]
  clear hqt
  generalize hk:c.t.l.length=k
  rw [hk] at har
  have h3:=GZ (k:=k) n1 (L:=L) (nm:=c.name) hk htb
  rw [hL,List.any_eq_true] at h3
  obtain ⟨u,hu,he⟩:=h3
  rw [beq_iff_eq] at he
  exact he▸hu
 obtain ⟨H1,hs1,p1,po1,pn1⟩:=cJ (h:=H) (zs:=[.int .i64 0,.nils]) (cs:=aA out) (n:=2) rfl rfl (dD out)
 have q1:H1.get 1=some (.cells (mu c)):=by rw [po1 1 (by omega)];exact g1
 have mt:aj none (.ptr 1 1) H1=some (aq encI 1 c.t):=by rw [ak q1];rfl
 have mn:aj none (.ptr 1 0) H1=some (.str c.name):=by rw [ak q1];rfl
 have mo:aj (some 2) (.ptr H.next 0) H1=some (.agg (aA out)):=by rw [ak p1,dG (cs:=aA out) (n:=2) rfl]
 simp only [aQ,Nat.reduceAdd,Nat.reduceEqDiff,reduceIte,hs1,mt,mn,mo]
 refine an (GS hook hvo hj hq hqa hc.t ?_)
 rw [decide_eq_true hmem]
 simp only [aQ,Nat.reduceAdd,Nat.reduceEqDiff,reduceIte,ct,decide_true,aD]
 exact fin _
end
end Go.AM