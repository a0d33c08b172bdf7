/- Parts of a proof, merged out of smaller texts: the abstract machine and what functions do. Conditions: none. -/
import Derived.Test.YtmkffehchicgaaaGreatCh12
import Derived.Test.YtmkffehchicgaaaGreatCh15
import Derived.Test.YtmkffehchicgaaaGreatCh21
import Derived.Test.YtmkffehchicgaaaGreatCh22
import Derived.Test.YtmkffehchicgaaaGreatCh23
import Derived.Test.YtmkffehchicgaaaGreatCh24
import Derived.Test.YtmkffehchicgaaaGreatCh25
set_option linter.unusedSimpArgs false
set_option linter.unusedVariables false
namespace Go.AM
open Go Go.Proofs
noncomputable section
theorem Em{a b:Nat}(hb:0<b)(ha:a≤cm):aJ .quo (.int .i64 (a:Int)) (.int .i64 (b:Int))=some (.int .i64 ((a/b:Nat):Int)):=by
 have h:¬ (b:Int)=0:=by omega
 simp only [aJ,if_true,if_neg h]
 have e:((a:Int).tdiv (b:Int))=((a/b:Nat):Int):=by rw [Int.tdiv_eq_ediv_of_nonneg (by omega)];rfl
 have:a/b≤a:=Nat.div_le_self _ _
 unfold cm at ha
 rw [e]
 generalize a/b=q at this
 rw [IntWalk.i64_in _ (by omega)]
theorem Gj{α:Type}{enc:α→List AV}{sz:Nat}(he:∀ a,(enc a).length=sz){l:List α}{i:Nat}{a:α}(ha:l[i]?=some a){k n:Nat}(hk:k+n≤sz){h:ag} :
  ai (some n) (.iptr (l.flatMap enc) (i*sz+k)) h=some (.agg (((enc a).drop k).take n)):=by
 have hi:i<l.length:=(List.getElem?_eq_some_iff.1 ha).1
 have hle:i*sz+sz≤(l.flatMap enc).length:=by
  rw [gK he]
  have:(i+1)*sz≤l.length*sz:=Nat.mul_le_mul_right _ hi
  rw [Nat.add_mul] at this;omega
 show hG (some n) _ _=_
 simp only [hG]
 rw [if_pos (by omega),← mA he l i a ha,List.drop_take,List.take_take,List.drop_drop,Nat.min_eq_left (by omega)]
theorem fA{nm:bC}{xs:Sl bC}(h1:nm.length≤cm)(h2:xs.l.length≤cm)(h3:∀ s ∈ xs.l,s.length≤cm){h:ag}{K:Out→ag→Bool}
  (hK:∀ n:Int,(xs.l.length:Int)≤n→n≤5000000000000000000→K (.ret (.int .i64 n)) h=true):Sem Tryz.prog 82 [.agg [.str nm,aq encS 1 xs]] h K:=by
 have hbb:cm=4611686018427387904:=rfl
 have gen:∀ R:Out→ag→Bool,(∀ (n:Int) h',(xs.l.length:Int)≤n→n≤5000000000000000000→R (.ret (.int .i64 n)) h'=true)→Sem Tryz.prog 82 [.agg [.str nm,aq encS 1 xs]] ag.empty R:=by
  intro R fin
  refine F.Aw ?_
  rw [F.BZ]
  have g0:(ag.alloc ag.empty (.cells (ig nm xs))).get 0=some (.cells (ig nm xs)):=aI _ _
  have hb:ew (.agg [.str nm,aq encS 1 xs])=some (ig nm xs):=cA (wH nm xs)
  simp only [hb,bindO_some,bp]
  generalize (ag.alloc ag.empty (.cells (ig nm xs)))=H at g0 ⊢
  have hq:=Em (a:=nm.length) (b:=20) (by omega) h1
  have hq':aJ .quo (.int .i64 (nm.length:Int)) (.int .i64 20)=some (.int .i64 ((nm.length/20:Nat):Int)):=hq
  have hdl:nm.length/20≤240000000000000000:=by omega
  have hadd:=gB (a:=(xs.l.length:Int)) (b:=((nm.length/20:Nat):Int)) (by omega) (by omega)
  simp only [aQ,Nat.reduceAdd,Nat.reduceEqDiff,reduceIte,an g0,ig,hq',hadd]
  generalize hs0:(xs.l.length:Int)+((nm.length/20:Nat):Int)=s0
  refine aE 0 xs.l.length (Nat.zero_le _) (fun i e h'=>h'=H∧e 1 = .ptr 0 0∧e 4 = .int .i64 (i:Int)∧∃ n:Int,e 3 = .int .i64 n∧(xs.l.length:Int)≤n∧n≤5000000000000000000) ⟨rfl,rfl,rfl,s0,rfl,by omega,by omega⟩ ?_ ?_
  ·rintro i e h' _ hi ⟨rfl,e1,e4,n,e3,n1,n2⟩ K' hn hx hr hp
   have hv:xs.l[i]?=some xs.l[i]:=List.getElem?_eq_getElem hi
   generalize xs.l[i]=t at hv
   have ht:=h3 t (List.mem_of_getElem? hv)
   have hqt:aJ .quo (.int .i64 (t.length:Int)) (.int .i64 20)=some (.int .i64 ((t.length/20:Nat):Int)):=Em (a:=t.length) (b:=20) (by omega) ht
   have hdt:t.length/20≤240000000000000000:=by omega
   rw [F.fA.aN]
   simp only [e1,e3,e4,aQ,Nat.reduceAdd,Nat.reduceEqDiff,reduceIte,an g0,ig,bf hi]
   by_cases hsm:n<10000
   ·have hadd2:=gB (a:=n) (b:=((t.length/20:Nat):Int)) (by omega) (by omega)
    simp only [decide_eq_true hsm,aC,e1,e4,aQ,Nat.reduceAdd,Nat.reduceEqDiff,reduceIte,an g0,ig,aS xs hi,iq hv,hqt,hadd2,aK hi h2]
    exact hn _ _ ⟨rfl,e1,rfl,_,rfl,by omega,by omega⟩
   ·simp only [decide_eq_false hsm,aD]
    rw [hx,F.fA.aG]
    simp only [bt,Nat.reduceEqDiff,reduceIte,e3]
    exact fin n _ n1 n2
  ·rintro e h' ⟨rfl,e1,e4,n,e3,n1,n2⟩ K' hx
   rw [F.fA.aN]
   simp only [e1,e4,aQ,Nat.reduceAdd,Nat.reduceEqDiff,reduceIte,an g0,ig,aT]
   rw [hx,F.fA.aG]
   simp only [bt,Nat.reduceEqDiff,reduceIte,e3]
   exact fin n _ n1 n2
 have main:=gen (fun o h'=>yes (∃ n:Int,o = .ret (.int .i64 n)∧(xs.l.length:Int)≤n∧n≤5000000000000000000)) (fun n h' q1 q2=>cw.2 ⟨n,rfl,q1,q2⟩)
 refine main.frozen (by simp [AV.pureL,AV.pure,bF gH]) fun o h' ho=>?_
 obtain ⟨n,rfl,q1,q2⟩:=cw.1 ho
 exact ⟨_,_,rfl,.scalar _ rfl,hK n q1 q2⟩
end
end Go.AM
namespace Go.AM
open Go Go.Proofs
noncomputable section
set_option maxHeartbeats 1000000 in
theorem HH{N:Int}(hN:N≤1500){rules:Sl aB}(hok:∀ r ∈ rules.l,r.ok){h:ag}{K:Out→ag→Bool}(hK:∀ b:Bool,(b=true→∀ r ∈ rules.l,r.kH)→K (.ret (.bool b)) h=true):Sem Tryz.prog 29 [aq aL 3 rules,.int .i64 N] h K:=by
 have gen:∀ R:Out→ag→Bool,(∀ (b:Bool) h',(b=true→∀ r ∈ rules.l,r.kH)→R (.ret (.bool b)) h'=true)→Sem Tryz.prog 29 [aq aL 3 rules,.int .i64 N] ag.empty R:=by
  intro R fin
  refine F.BY ?_
  rw [F.DR]
  simp only [aQ,Nat.reduceAdd,Nat.reduceEqDiff,reduceIte]
  by_cases h71:70<rules.l.length
  ·simp only [decide_eq_true (by omega:(70:Int)<(rules.l.length:Int)),aC]
   exact fin false _ (fun h=>by cases h)
  have hbig:rules.l.length≤cm:=by unfold cm;omega
  simp only [decide_eq_false (by omega:¬ (70:Int)<(rules.l.length:Int)),aD]
  refine aE 0 rules.l.length (Nat.zero_le _) (fun i e h'=>e 0=aq aL 3 rules∧e 1 = .int .i64 N∧e 6 = .int .i64 (i:Int)∧∃ s:Int,e 5 = .int .i64 s∧0≤s∧s≤6000000000000000000∧(s≤N→∀ r ∈ rules.l.take i,r.kH)) ⟨rfl,rfl,rfl,0,rfl,by omega,by omega,fun _ r hr=>by simp at hr⟩ ?_ ?_
  ·rintro i e h' _ hi ⟨e0,e1,e6,s,e5,s0,s1,hs⟩ K' hn hx hr hp
   have hv:rules.l[i]?=some rules.l[i]:=List.getElem?_eq_getElem hi
   generalize rules.l[i]=r at hv
   have hrok:=hok r (List.mem_of_getElem? hv)
   have hbb:=hrok.2.2.2.1
   have ld:∀ j,j<3→∀ h,ai none (.iptr (rules.l.flatMap aL) (i*3+j)) h=(aL r)[j]?:=fun j hj h=>eM eN hv hj
   have lh:∀ h,ai (some 2) (.iptr (rules.l.flatMap aL) (i*3)) h=some (.agg [.str r.name,aq encS 1 r.args]):=fun h=>Gj (k:=0) (n:=2) eN hv (by omega)
   rw [F.dJ.aN]
   simp only [e0,e1,e5,e6,aQ,Nat.reduceAdd,Nat.reduceEqDiff,reduceIte,bf hi]
   by_cases hle:s≤N
   ·have had1:=gB (a:=s) (b:=1) (by omega) (by omega)
    simp only [decide_eq_true hle,aC,had1,e0,e6,aQ,Nat.reduceAdd,Nat.reduceEqDiff,reduceIte,aS rules hi,lh]
    refine ak (fA hrok.1 hrok.2.1 hrok.2.2.1 fun n n1 n2=>?_)
    have had2:=gB (a:=s+1) (b:=n) (by omega) (by omega)
    simp only [aQ,Nat.reduceAdd,Nat.reduceEqDiff,reduceIte,had2]
    refine aE 0 r.body.l.length (Nat.zero_le _) (fun j e h'=>e 0=aq aL 3 rules∧e 1 = .int .i64 N∧e 6 = .int .i64 (i:Int)∧e 7 = .int .i64 (j:Int)∧∃ s:Int,e 5 = .int .i64 s∧0≤s∧s≤6000000000000000000 ∧
     (s≤N→(∀ r ∈ rules.l.take i,r.kH)∧r.args.l.length≤1500∧(j:Int)≤s∧∀ c ∈ r.body.l.take j,c.args.l.length≤1500)) ⟨e0,e1,e6,rfl,s+1+n,rfl,by omega,by omega,fun h=>⟨hs hle,by omega,by omega,fun c hc=>by simp at hc⟩⟩ ?_ ?_
    ·rintro j e h' _ hj ⟨e0,e1,e6,e7,s,e5,s0,s1,hs⟩ K2 hn2 hx2 hr2 hp2
     have hc:r.body.l[j]?=some r.body.l[j]:=List.getElem?_eq_getElem hj
     generalize r.body.l[j]=c at hc
     have hcok:=hrok.2.2.2.2 c (List.mem_of_getElem? hc)
     have lc:∀ h,ai (some 2) (.iptr (r.body.l.flatMap bO) (j*4+2)) h=some (.agg [.str c.name,aq encS 1 c.args]):=fun h=>Gj (k:=2) (n:=2) gl hc (by omega)
     rw [F.dJ.dS]
     simp only [e0,e1,e5,e6,e7,aQ,Nat.reduceAdd,Nat.reduceEqDiff,reduceIte,aS rules hi,ld 2 (by omega),aL,bf hj]
     by_cases hle:s≤N
     ·have had1:=gB (a:=s) (b:=1) (by omega) (by omega)
      simp only [decide_eq_true hle,aC,had1,e0,e6,e7,aQ,Nat.reduceAdd,Nat.reduceEqDiff,reduceIte,aS rules hi,ld 2 (by omega),aL,aS r.body hj,lc]
      refine ak (fA hcok.1 hcok.2.1 hcok.2.2 fun n n1 n2=>?_)
      have had2:=gB (a:=s+1) (b:=n) (by omega) (by omega)
      simp only [aQ,Nat.reduceAdd,Nat.reduceEqDiff,reduceIte,had2,aK hj hbb]
      refine hn2 _ _ ⟨e0,e1,e6,rfl,s+1+n,rfl,by omega,by omega,fun h=>?_⟩
      obtain ⟨q1,q2,q3,q4⟩:=hs hle
      refine ⟨q1,q2,by omega,fun d hd=>?_⟩
      rw [List.take_add_one,hc] at hd
      rcases List.mem_append.1 hd with hd|hd
      ·exact q4 d hd
      ·simp only [Option.toList_some,List.mem_singleton] at hd;subst hd;omega
     ·simp only [decide_eq_false hle,aD]
      rw [hx2,F.dJ.cG]
      simp only [aQ,Nat.reduceAdd,Nat.reduceEqDiff,reduceIte,e6,aK hi hbig]
      exact hn _ _ ⟨e0,e1,rfl,s,e5,s0,s1,fun h=>absurd h hle⟩
    ·rintro e h' ⟨e0,e1,e6,e7,s,e5,s0,s1,hs⟩ K2 hx2
     rw [F.dJ.dS]
     simp only [e0,e6,e7,aQ,Nat.reduceAdd,Nat.reduceEqDiff,reduceIte,aS rules hi,ld 2 (by omega),aL,aT]
     rw [hx2,F.dJ.cG]
     simp only [aQ,Nat.reduceAdd,Nat.reduceEqDiff,reduceIte,e6,aK hi hbig]
     refine hn _ _ ⟨e0,e1,rfl,s,e5,s0,s1,fun h=>?_⟩
     obtain ⟨q1,q2,q3,q4⟩:=hs h
     rw [List.take_of_length_le (Nat.le_refl _)] at q4
     intro q hq
     rw [List.take_add_one,hv] at hq
     rcases List.mem_append.1 hq with hq|hq
     ·exact q1 q hq
     ·simp only [Option.toList_some,List.mem_singleton] at hq;subst hq;exact ⟨q2,by omega,q4⟩
   ·simp only [decide_eq_false hle,aD]
    rw [hx,F.dJ.aG]
    simp only [aQ,Nat.reduceAdd,Nat.reduceEqDiff,reduceIte,e1,e5]
    exact fin _ _ (fun h=>absurd (of_decide_eq_true h) hle)
  ·rintro e h' ⟨e0,e1,e6,s,e5,s0,s1,hs⟩ K' hx
   rw [List.take_of_length_le (Nat.le_refl _)] at hs
   rw [F.dJ.aN]
   simp only [e0,e6,aQ,Nat.reduceAdd,Nat.reduceEqDiff,reduceIte,aT]
   rw [hx,F.dJ.aG]
   simp only [aQ,Nat.reduceAdd,Nat.reduceEqDiff,reduceIte,e1,e5]
   exact fin _ _ (fun h=>hs (of_decide_eq_true h))
 have main:=gen (fun o h'=>yes (∃ b:Bool,o = .ret (.bool b)∧(b=true→∀ r ∈ rules.l,r.kH))) (fun b h' hb=>cw.2 ⟨b,rfl,hb⟩)
 refine main.frozen (by simp [AV.pureL,AV.pure,bF dR]) fun o h' ho=>?_
 obtain ⟨b,rfl,hb⟩:=cw.1 ho
 exact ⟨_,_,rfl,.scalar _ rfl,hK b hb⟩
end
end Go.AM
namespace Go.AM
open Go Go.Proofs
noncomputable section
theorem Lu(s:dw):fR [.int .i64 0,.nils] [(0,2)] [.agg (aA s)]=some (aA s):=by
 obtain ⟨z,r⟩:=s
 cases r<;>rfl
theorem cJ{rules:Sl aB}{s:dw}{N:Int}(hok:∀ r ∈ rules.l,r.ok)(hsok:s.ok){h:ag}{K:Out→ag→Bool}(hK:∀ b:Bool,(b=true→∀ r ∈ rules.l,r.kH)→K (.ret (.bool b)) h=true) :
  Sem Tryz.prog 11 [aq aL 3 rules,.agg (aA s),.int .i64 N] h K:=by
 have gen:∀ R:Out→ag→Bool,(∀ (b:Bool) h',(b=true→∀ r ∈ rules.l,r.kH)→R (.ret (.bool b)) h'=true)→Sem Tryz.prog 11 [aq aL 3 rules,.agg (aA s),.int .i64 N] ag.empty R:=by
  intro R fin
  refine F.yU ?_
  rw [F.AY]
  simp only [cA (cR s),bindO_some,bp]
  have g0:(ag.empty.alloc (.cells (aA s))).get 0=some (.cells (aA s)):=aI _ _
  have gn:(ag.empty.alloc (.cells (aA s))).next=1:=rfl
  generalize (ag.empty.alloc (.cells (aA s)))=H at g0 gn ⊢
  refine ak (HH (by omega) hok fun b hb=>?_)
  simp only [aQ,Nat.reduceAdd,Nat.reduceEqDiff,reduceIte]
  cases b with
  |false=>
   simp only [Bool.not_false,aC]
   exact fin false _ (fun h=>by cases h)
  |true=>
  have hfew:=hb rfl
  have l0:ai (some 2) (.ptr 0 0) H=some (.agg (aA s)):=by rw [an g0,c8 (cs:=aA s) (n:=2) rfl]
  have g1:(H.alloc (.cells (aA s))).get H.next=some (.cells (aA s)):=aI _ _
  have g0':(H.alloc (.cells (aA s))).get 0=some (.cells (aA s)):=by rw [ag.aV,if_neg (by omega)];exact g0
  simp only [Bool.not_true,aD,l0,bindO_some,Lu]
  generalize (H.alloc (.cells (aA s)))=H2 at g1 g0' ⊢
  refine ak (bW hsok g1 fun b=>?_)
  simp only [aQ,Nat.reduceAdd,Nat.reduceEqDiff,reduceIte]
  cases b with
  |false=>
   simp only [Bool.not_false,aC]
   exact fin false _ (fun h=>by cases h)
  |true=>
  have l0':ai (some 2) (.ptr 0 0) H2=some (.agg (aA s)):=by rw [an g0',c8 (cs:=aA s) (n:=2) rfl]
  simp only [Bool.not_true,aD,l0',bindO_some]
  refine ak (bG hok hfew hsok (fun e he=>?_) fun ho=>?_)
  ·have hne:e≠0:=by
    rcases he with ⟨_,rfl⟩|⟨_,_,⟨_,rfl⟩|⟨_,_,rfl⟩⟩<;>omega
   simp only [aQ,Nat.reduceAdd,Nat.reduceEqDiff,reduceIte,ct,decide_eq_false hne,Bool.not_false,aC]
   exact fin true _ (fun _=>hfew)
  ·obtain ⟨n,hn,n1,n64,h8⟩:=oA ho.valid
   have hnn:s.size.toNat=n:=by omega
   have hrb:rules.l.length≤cm:=by have:=ho.good.kH;unfold cm;omega
   have hpw:∀ r ∈ rules.l,n ^ (varsOf r).length≤65536:=fun r hr=>Nat.le_of_not_lt fun h=>ho.sizes (.inr (.inr ⟨r,hr,by rw [hnn];exact h⟩))
   simp only [aQ,Nat.reduceAdd,Nat.reduceEqDiff,reduceIte,ct,decide_true,Bool.not_true,aD]
   refine aE 0 rules.l.length (Nat.zero_le _) (fun i e h'=>h'=H2∧∃ q:Nat,q≤i*65536∧e 0=aq aL 3 rules∧e 2 = .int .i64 N∧e 4 = .ptr 0 0∧e 7 = .int .i64 (q:Int)∧e 8 = .int .i64 (i:Int)) ⟨rfl,0,by omega,rfl,rfl,rfl,rfl,rfl⟩ ?_ ?_
   ·rintro i e h' _ hi ⟨rfl,q,hq,e0,e2,e4,e7,e8⟩ K' hn' hx hr hp
    have hv:rules.l[i]?=some rules.l[i]:=List.getElem?_eq_getElem hi
    generalize rules.l[i]=r at hv
    have hrm:=List.mem_of_getElem? hv
    have hr65:=hpw r hrm
    have h60:=ho.good.kH
    obtain ⟨m,hgo⟩:=ho.good.go
    have hr12:=(fU hgo r hrm).2.2
    have hvb:(varsOf r).length≤cm:=by unfold cm;omega
    have lz:ai none (.ptr 0 0) h'=some (.int .i64 (n:Int)):=by rw [an g0',← hn];rfl
    rw [F.cJ.aN]
    simp only [e0,e8,aQ,Nat.reduceAdd,Nat.reduceEqDiff,reduceIte,bf hi]
    refine aE 0 (varsOf r).length (Nat.zero_le _) (fun j e h2=>h2=h'∧e 0=aq aL 3 rules∧e 2 = .int .i64 N∧e 4 = .ptr 0 0∧e 7 = .int .i64 (q:Int)∧e 8 = .int .i64 (i:Int)∧e 9 = .int .i64 ((n ^ j:Nat):Int)∧e 10 = .int .i64 (j:Int)) ⟨rfl,e0,e2,e4,e7,e8,rfl,rfl⟩ ?_ ?_
    ·rintro j e h2 _ hj ⟨rfl,e0,e2,e4,e7,e8,e9,e10⟩ K2 hnn2 hx2 hr2 hp2
     have hps:n ^ (j+1)=n ^ j*n:=Nat.pow_succ n j
     have hle:=uo n1 (show j+1≤(varsOf r).length by omega)
     have hm:((n ^ j:Nat):Int)*(n:Int)=((n ^ (j+1):Nat):Int):=by rw [hps,Int.natCast_mul]
     have hmm:aJ .mul (.int .i64 ((n ^ j:Nat):Int)) (.int .i64 (n:Int))=some (.int .i64 ((n ^ (j+1):Nat):Int)):=by rw [r8 (by rw [hm];omega) (by rw [hm];omega),hm]
     rw [F.cJ.dS]
     simp only [e0,e8,aQ,Nat.reduceAdd,Nat.reduceEqDiff,reduceIte,aS rules hi,cZ eN hv]
     simp only [aL]
     refine ak (bH (hfew r hrm) fun x hx1=>?_)
     simp only [aQ,Nat.reduceAdd,Nat.reduceEqDiff,reduceIte,hx1,e4,e9,e10,bf hj,aC,lz,hmm,aK hj hvb]
     exact hnn2 _ _ ⟨rfl,e0,e2,e4,e7,e8,rfl,rfl⟩
    ·rintro e h2 ⟨rfl,e0,e2,e4,e7,e8,e9,e10⟩ K2 hx2
     have hadd:aJ .add (.int .i64 (q:Int)) (.int .i64 ((n ^ (varsOf r).length:Nat):Int))=some (.int .i64 ((q+n ^ (varsOf r).length:Nat):Int)):=by
      rw [gB (by omega) (by omega)];rfl
     rw [F.cJ.dS]
     simp only [e0,e8,aQ,Nat.reduceAdd,Nat.reduceEqDiff,reduceIte,aS rules hi,cZ eN hv]
     simp only [aL]
     refine ak (bH (hfew r hrm) fun x hx1=>?_)
     simp only [aQ,Nat.reduceAdd,Nat.reduceEqDiff,reduceIte,hx1,e10,aT,aD]
     rw [hx2,F.cJ.cG]
     simp only [aQ,Nat.reduceAdd,Nat.reduceEqDiff,reduceIte,e7,e8,e9,hadd,aK hi hrb]
     exact hn' _ _ ⟨rfl,q+n ^ (varsOf r).length,by rw [Nat.succ_mul];omega,e0,e2,e4,rfl,rfl⟩
   ·rintro e h' ⟨rfl,q,hq,e0,e2,e4,e7,e8⟩ K' hx
    rw [F.cJ.aN]
    simp only [e0,e8,aQ,Nat.reduceAdd,Nat.reduceEqDiff,reduceIte,aT]
    rw [hx,F.cJ.aG]
    simp only [aQ,Nat.reduceAdd,Nat.reduceEqDiff,reduceIte,e2,e7]
    exact fin _ _ (fun _=>hfew)
 have main:=gen (fun o h'=>yes (∃ b:Bool,o = .ret (.bool b)∧(b=true→∀ r ∈ rules.l,r.kH))) (fun b h' hb=>cw.2 ⟨b,rfl,hb⟩)
 refine main.frozen (by simp [AV.pureL,AV.pure,bF dR,er]) fun o h' ho=>?_
 obtain ⟨b,rfl,hb⟩:=cw.1 ho
 exact ⟨_,_,rfl,.scalar _ rfl,hK b hb⟩
theorem zA{rs:List aB}{s:dw}{e:Int}(h:uv rs s e):e≠0∧¬ fI rs s:=by
 rcases h with ⟨a,rfl⟩|⟨g,v,⟨a,rfl⟩|⟨a,b,rfl⟩⟩
 ·exact ⟨by omega,fun h=>a.elim (fun h'=>h' h.good) fun h'=>by rw [h.valid] at h';cases h'⟩
 ·exact ⟨by omega,fun h=>h.names a⟩
 ·exact ⟨by omega,fun h=>h.sizes b⟩
end
end Go.AM
namespace Go.AM
open Go Go.Proofs
noncomputable section
theorem Lw{n:Nat}{A B:Lk}{r:aB}{vs:List Int}(h:∀ c ∈ r.body.l,c.kind=0→A c.name (gY n (aR vs (aU r c)))=B c.name (gY n (aR vs (aU r c)))):kj n A r vs=kj n B r vs:=by
 unfold kj
 have key:∀ c ∈ r.body.l,cX n A c (aR vs (aU r c))=cX n B c (aR vs (aU r c)):=fun c hc=>by
  unfold cX
  by_cases k0:c.kind=0
  ·rw [if_pos k0,if_pos k0,h c hc k0]
  ·rw [if_neg k0,if_neg k0]
 rw [Bool.eq_iff_iff,List.all_eq_true,List.all_eq_true]
 exact ⟨fun h1 c hc=>by rw [← key c hc];exact h1 c hc,fun h1 c hc=>by rw [key c hc];exact h1 c hc⟩
end
end Go.AM
namespace Go.AM
open Go Go.Proofs
noncomputable section
theorem BF{n:Nat}{L:Lk}{nm:bC}{k N:Nat}{u:List Int}:u ∈ uu n L nm k N↔∃ i,i<N∧L nm i=true∧u=dA n k i:=by
 unfold uu
 rw [List.mem_map]
 constructor
 ·rintro ⟨i,hi,rfl⟩
  rw [List.mem_filter,List.mem_range] at hi
  exact ⟨i,hi.1,hi.2,rfl⟩
 ·rintro ⟨i,h1,h2,rfl⟩
  exact ⟨i,List.mem_filter.2 ⟨List.mem_range.2 h1,h2⟩,rfl⟩
theorem JG{n:Nat}(n1:1≤n){k i j:Nat}(hj:j<n ^ k)(hij:i<j):gj (dA n k i) (dA n k j)=true:=by
 obtain ⟨a1,a2⟩:=pL n1 (show i<n ^ k by omega)
 obtain ⟨b1,b2⟩:=pL n1 hj
 cases h:gj (dA n k i) (dA n k j) with
 |true=>rfl
 |false=>
  have hl:(dA n k i).length=(dA n k j).length:=by rw [iI,iI]
  have hne:dA n k i≠dA n k j:=fun e=>by rw [e,b2] at a2;omega
  have:=CX hl.symm b1 a1 (De hl h hne)
  omega
theorem Lx{n:Nat}(n1:1≤n)(L:Lk)(nm:bC)(k:Nat):NN n k (uu n L nm k (n ^ k)):=by
 refine ⟨fun u hu=>?_,?_⟩
 ·obtain ⟨i,hi,_,rfl⟩:=BF.1 hu
  exact ⟨iI _ _ _,(pL n1 hi).1⟩
 ·unfold Gf uu
  rw [List.pairwise_map]
  refine (List.Pairwise.filter _ ?_)
  refine List.Pairwise.imp_of_mem ?_ (List.pairwise_lt_range (n:=n ^ k))
  intro a b _ hb hab
  exact JG n1 (List.mem_range.1 hb) hab
section
variable {rs:List aB} {s out:dw} {n:Nat} {m:dF} {L:Lk}
theorem En(hd:out.rels.l.map cQ=s.rels.l.map cQ++oJ rs n L (cU rs)):(out.rels.l.map cQ).map Ba=(s.rels.l.map cQ++eH rs (cU rs)).map Ba:=by
 rw [hd,List.map_append,List.map_append]
 unfold oJ eH
 congr 1
 rw [List.map_map,List.map_map];rfl
theorem xh(ho:fI rs s)(hgo:dc rs []=some m)(hn:s.size=(n:Int))(hz:out.size=s.size)(hd:out.rels.l.map cQ=s.rels.l.map cQ++oJ rs n L (cU rs)):di out=true:=by
 have hE:=Ei (rs':=s.rels.l++jF rs (cU rs)) ho hgo (by rw [List.map_append,lG])
 rw [List.map_append,lG] at hE
 have hsig:=En hd
 have n1:1≤n:=by have:=hE.lo;omega
 have hnn:s.size.toNat=n:=by omega
 rw [iJ,hz]
 have hnm:∀ l:List I5,l.map (·.1)=(l.map Ba).map (·.1):=fun l=>by rw [List.map_map];rfl
 refine ⟨hE.lo,hE.hi,?_,fun d hdm=>?_,?_⟩
 ·have:=congrArg List.length hsig
  simp only [List.length_map] at this
  have h8:=hE.kH
  rw [List.length_map]
  omega
 ·rw [hd] at hdm
  rcases List.mem_append.1 hdm with hdm|hdm
  ·exact hE.rel d (List.mem_append_left _ hdm)
  ·obtain ⟨nm,hnm,rfl⟩:=List.mem_map.1 hdm
   obtain ⟨q0,k,q1,q2,q3,_⟩:=hE.rel (nm,(ju rs nm:Int),[]) (List.mem_append_right _ (List.mem_map.2 ⟨nm,hnm,rfl⟩))
   have q1':(ju rs nm:Int)=(k:Int):=q1
   obtain rfl:ju rs nm=k:=by omega
   rw [hnn] at q3 ⊢
   exact ⟨q0,_,rfl,q2,q3,Lx n1 L nm _⟩
 ·rw [hnm,hsig,← hnm];exact hE.names
theorem Gk{Z:dw}(ho:fI rs s)(hgo:dc rs []=some m)(hn:s.size=(n:Int))(hv:di Z=true)(hsg:(Z.rels.l.map cQ).map Ba=(s.rels.l.map cQ++eH rs (cU rs)).map Ba){r:aB}(hr:r ∈ rs){c:dO}(hc:c ∈ r.body.l)(k0:c.kind=0) :
  n ^ c.args.l.length≤4096∧∃ q,Z.rels.l.find? (dU c.name)=some q∧q.arity=(c.args.l.length:Int):=by
 have hfit:=Ej (rs':=s.rels.l++jF rs (cU rs)) ho hgo hn (by rw [List.map_append,lG]) hr
 refine ⟨(hfit.rel c hc k0).1,?_⟩
 have hat:=oG hr hc k0
 have hmem:(c.name,(c.args.l.length:Int)) ∈ (Z.rels.l.map cQ).map Ba:=by
  rw [hsg,List.map_append]
  by_cases hd:c.name ∈ aY rs
  ·obtain ⟨_,q,hq,hqn,har⟩:=sN hgo hd
   have hl:(q.args.l.length:Int)=c.args.l.length:=kg hgo (jt hq) (by rw [hqn];exact hat)
   refine List.mem_append_right _ (List.mem_map.2 ⟨(c.name,(ju rs c.name:Int),[]),List.mem_map.2 ⟨c.name,(dx rs).2 hd,rfl⟩,?_⟩)
   unfold Ba
   rw [har,hl]
  ·cases hf:s.rels.l.find? (jX c.name (c.args.l.length:Int)) with
   |none=>exact absurd (.inl ⟨_,hat,hd,hf⟩) ho.names
   |some q=>
    obtain ⟨hq,hqn,hqa⟩:=sL hf
    refine List.mem_append_left _ (List.mem_map.2 ⟨cQ q,List.mem_map_of_mem hq,?_⟩)
    unfold Ba cQ
    rw [hqn,hqa]
 obtain ⟨d,hd,e⟩:=List.mem_map.1 hmem
 obtain ⟨q,hq,rfl⟩:=List.mem_map.1 hd
 unfold Ba cQ at e
 simp only [Prod.mk.injEq] at e
 exact ⟨q,by rw [← e.1];exact oI hv hq,e.2⟩
theorem N8{Z:dw}(ho:fI rs s)(hgo:dc rs []=some m)(hn:s.size=(n:Int))(hv:di Z=true)(hz:Z.size=s.size)(hsg:(Z.rels.l.map cQ).map Ba=(s.rels.l.map cQ++eH rs (cU rs)).map Ba){r:aB}(hr:r ∈ rs):jw n r (lE Z):=by
 have hfit:=Ej (rs':=s.rels.l++jF rs (cU rs)) ho hgo hn (by rw [List.map_append,lG]) hr
 refine ⟨?_,hfit.conds,fun c hc k0=>?_⟩
 ·have:=(iJ.1 hv).kH
  unfold lE
  rw [List.length_map] at this ⊢
  unfold cm;omega
 ·obtain ⟨h1,q,h2,h3⟩:=Gk ho hgo hn hv hsg hr hc k0
  refine ⟨h1,fun t ht htn=>?_⟩
  obtain ⟨p,hp,rfl⟩:=List.mem_map.1 ht
  have h4:=oI hv hp
  rw [show p.name=c.name from htn,h2] at h4
  obtain rfl:=Option.some.inj h4
  show (bitsOf Z.size.toNat q.arity.toNat q.tuples.l).length=_
  rw [jV,h3,hz,hn];rfl
theorem JH(Z:dw)(hz:Z.size=(n:Int)):cY (lE Z)=Df n Z:=by
 funext nm k
 unfold cY Df lE
 rw [List.find?_map,show Z.size.toNat=n by omega]
 have:((fun t:gq=>t.name==nm)∘jg n)=dU nm:=rfl
 rw [this]
 cases Z.rels.l.find? (dU nm)<;>rfl
theorem JI(ho:fI rs s)(n1:1≤n)(hd:out.rels.l.map cQ=s.rels.l.map cQ++oJ rs n L (cU rs)){x:bC}(hx:x ∈ aY rs){q:Nat}(hq:q<n ^ ju rs x):NA n (out.rels.l.map cQ) x q↔L x q=true:=by
 rw [hd]
 constructor
 ·rintro ⟨d,hdm,hdn,u,hu,huq⟩
  rcases List.mem_append.1 hdm with hdm|hdm
  ·obtain ⟨p,hp,rfl⟩:=List.mem_map.1 hdm
   exact absurd (.inr ⟨p,hp,by rw [show p.name=x from hdn];exact hx⟩) ho.names
  ·obtain ⟨nm,hnm,rfl⟩:=List.mem_map.1 hdm
   obtain rfl:nm=x:=hdn
   obtain ⟨i,hi,hL,rfl⟩:=BF.1 hu
   rw [(pL n1 hi).2] at huq
   rw [← huq];exact hL
 ·intro hL
  exact ⟨_,List.mem_append_right _ (List.mem_map.2 ⟨x,(dx rs).2 hx,rfl⟩),rfl,dA n (ju rs x) q,BF.2 ⟨q,hq,hL,rfl⟩,(pL n1 hq).2⟩
theorem JJ(hd:out.rels.l.map cQ=s.rels.l.map cQ++oJ rs n L (cU rs)){x:bC}(hx:x ∉ aY rs){q:Nat}:NA n (out.rels.l.map cQ) x q↔NA n (s.rels.l.map cQ) x q:=by
 rw [hd]
 constructor
 ·rintro ⟨d,hdm,hdn,u,hu,huq⟩
  rcases List.mem_append.1 hdm with hdm|hdm
  ·exact ⟨d,hdm,hdn,u,hu,huq⟩
  ·obtain ⟨nm,hnm,rfl⟩:=List.mem_map.1 hdm
   obtain rfl:nm=x:=hdn
   exact absurd ((dx rs).1 hnm) hx
 ·rintro ⟨d,hdm,hdn,u,hu,huq⟩
  exact ⟨d,List.mem_append_left _ hdm,hdn,u,hu,huq⟩
theorem Gl(s:dw):rQ n s=Df n s:=by
 funext nm k
 unfold rQ Df
 cases s.rels.l.find? (dU nm)<;>rfl
end
end
end Go.AM
namespace Go.AM
open Go Go.Proofs
noncomputable section
theorem Lz{y:Sl Int}{vs:List Int}(hy:y.l=vs){h:ag}{ps:List Nat}{x:Sl Int}(hxp:x.l=ps.map fun (p:Nat)=>(p:Int))(hps:∀ p ∈ ps,p<vs.length)(hpl:ps.length≤1000000){K:Out→ag→Bool}
  (hK:∀ h',h'.get h.next=some (.cells ((aR vs ps).map iv))→bR h h'→h.next<h'.next→K (.ret (.slice h.next 0 ps.length 1)) h'=true):Sem Tryz.prog 124 [aq encI 1 y,aq encI 1 x] h K:=by
 subst hy
 have hpb:ps.length≤cm:=by unfold cm;omega
 have hl:x.l.length=ps.length:=by rw [hxp];simp
 refine F.qT ?_
 rw [F.tu]
 simp only [aQ,Nat.reduceAdd,Nat.reduceEqDiff,reduceIte,hl,sr hpl]
 have g0:=aI h (.cells ((List.replicate ps.length (0:Int)).map iv))
 have x0:=bR.alloc h (.cells ((List.replicate ps.length (0:Int)).map iv))
 have n0:(h.alloc (.cells ((List.replicate ps.length (0:Int)).map iv))).next=h.next+1:=ag.next_alloc _ _
 generalize h.alloc (.cells ((List.replicate ps.length (0:Int)).map iv))=H at g0 x0 n0 ⊢
 refine aE 0 ps.length (Nat.zero_le _) (fun i e h'=>∃ d:List Int,d.length=ps.length∧d.take i=(aR y.l ps).take i∧h'.get h.next=some (.cells (d.map iv))∧bR h h'∧h.next<h'.next ∧
  e 0=aq encI 1 y∧e 5 = .slice h.next 0 ps.length 1∧e 11=aq encI 1 x∧e 12 = .int .i64 (ps.length:Int)∧e 13 = .int .i64 (i:Int)) ⟨List.replicate ps.length 0,by simp,rfl,g0,x0,by omega,rfl,rfl,rfl,rfl,rfl⟩ ?_ ?_
 ·rintro i e h' _ hi ⟨d,dl,dt,q0,qx,qn,e0,e5,e11,e12,e13⟩ K' hn hx hr hp
  have hv:ps[i]?=some ps[i]:=List.getElem?_eq_getElem hi
  generalize ps[i]=p at hv
  have hv':x.l[i]?=some (p:Int):=by rw [hxp,List.getElem?_map,hv];rfl
  have hpv:=hps p (List.mem_of_getElem? hv)
  have hw:y.l[p]?=some (y.l.getD p 0):=by rw [List.getD_eq_getElem?_getD,List.getElem?_eq_getElem hpv];rfl
  have i1:=aS (enc:=encI) (sz:=1) (k:=.i64) x (i:=i) (by rw [hl];exact hi)
  have l1:=fun h=>eT (x:=x) hv' (h:=h)
  rw [F.fJ.aN]
  simp only [e0,e5,e11,e12,e13,aQ,Nat.reduceAdd,Nat.reduceEqDiff,reduceIte,bf hi,i1,l1,aS y hpv,eT hw,jy hi,mV q0 (show i<d.length by omega),aK hi hpb]
  refine hn _ _ ⟨d.set i (y.l.getD p 0),by simp [dl],?_,by rw [ag.aO,if_pos rfl],qx.set (Nat.le_refl _) _,by rw [ag.next_set];exact qn,e0,e5,e11,e12,rfl⟩
  have hpk:(aR y.l ps)[i]?=some (y.l.getD p 0):=by unfold aR;rw [List.getElem?_map,hv];rfl
  rw [List.take_add_one,List.take_add_one,hpk,List.take_set_of_le (Nat.le_refl _),dt,List.getElem?_set,if_pos rfl,if_pos (by omega)]
 ·rintro e h' ⟨d,dl,dt,q0,qx,qn,e0,e5,e11,e12,e13⟩ K' hx
  rw [F.fJ.aN]
  simp only [e12,e13,aQ,Nat.reduceAdd,Nat.reduceEqDiff,reduceIte,aT]
  rw [hx,F.fJ.aG]
  simp only [e5,bt,Nat.reduceEqDiff,reduceIte]
  have:d=aR y.l ps:=by
   have h1:d.take ps.length=d:=List.take_of_length_le (by omega)
   have h2:(aR y.l ps).take ps.length=aR y.l ps:=List.take_of_length_le (by simp [aR])
   rw [← h1,dt,h2]
  rw [this] at q0
  exact hK h' q0 qx qn
theorem mJ(p:kN):br (cO p)=true:=by
 rw [fY]
 have h1:br [aq encI 1 p.vals]=true:=by cases p.vals<;>rfl
 have h2:br [aq cO 3 p.parts]=true:=by cases p.parts<;>rfl
 simp only [br,Bool.and_true] at h1 h2 ⊢
 rw [h1,h2];rfl
theorem fG{p:kN}(hp:wV p):∀ {n:Int} {h:ag} {K:Out→ag→Bool},0≤n→n≤400→(∀ r:Int,0≤r→r≤401+(cm:Int)→K (.ret (.int .i64 r)) h=true)→Sem Tryz.prog 28 [.agg (cO p),.int .i64 n] h K:=by
 induction hp with
 |mk p hv hl hq ih=>
 intro n h K h0 h4 hK
 have main:Sem Tryz.prog 28 [.agg (cO p),.int .i64 n] ag.empty (fun o h'=>yes (∃ r:Int,o = .ret (.int .i64 r)∧0≤r∧r≤401+(cm:Int))):=by
  refine F.yK ?_
  rw [F.AN]
  simp only [cA (mJ p),bindO_some,bp]
  have g0:(ag.empty.alloc (.cells (cO p))).get 0=some (.cells (cO p)):=aI _ _
  generalize (ag.empty.alloc (.cells (cO p)))=H at g0 ⊢
  have l1:ai none (.ptr 0 1) H=some (aq encI 1 p.vals):=by rw [an g0,fY];rfl
  have l2:ai none (.ptr 0 2) H=some (aq cO 3 p.parts):=by rw [an g0,fY];rfl
  have hbig:(cm:Int)=4611686018427387904:=rfl
  have hdiv:((p.vals.l.length/60:Nat):Int)≤(cm:Int):=by have:p.vals.l.length/60≤p.vals.l.length:=Nat.div_le_self _ _;omega
  have hq2:aJ .quo (.int .i64 (p.vals.l.length:Int)) (.int .i64 60)=some (.int .i64 ((p.vals.l.length/60:Nat):Int)):=Em (b:=60) (by omega) hv
  simp only [aQ,Nat.reduceAdd,Nat.reduceEqDiff,reduceIte,gB (a:=n) (b:=1) (by omega) (by omega),l1,hq2,gB (a:=n+1) (b:=((p.vals.l.length/60:Nat):Int)) (by omega) (by omega)]
  refine jb (fun m e h'=>∃ (i:Nat) (r:Int),i≤p.parts.l.length∧m=p.parts.l.length-i∧h'=H∧0≤r∧r≤401+(cm:Int)∧e 1 = .int .i64 r∧e 2 = .ptr 0 0∧e 5 = .int .i64 (i:Int)) p.parts.l.length ⟨0,_,Nat.zero_le _,rfl,rfl,by omega,by omega,rfl,rfl,rfl⟩ ?_
  rintro m e h' ⟨i,r,hi,rfl,rfl,r0,r1,e1,e2,e5⟩
  rw [F.fG.aN]
  simp only [e1,e2,e5,aQ,Nat.reduceAdd,Nat.reduceEqDiff,reduceIte,l2]
  by_cases hlt:i<p.parts.l.length
  ·simp only [bf hlt,aC]
   by_cases hr4:r≤400
   ·have hx:p.parts.l[i]?=some p.parts.l[i]:=List.getElem?_eq_getElem hlt
    generalize p.parts.l[i]=q at hx
    have hqm:=List.mem_of_getElem? hx
    simp only [decide_eq_true hr4,aC,aS p.parts hlt,cZ mH hx,bindO_some]
    refine ak (ih q hqm r0 hr4 fun r' a b=>?_)
    simp only [aQ,Nat.reduceAdd,Nat.reduceEqDiff,reduceIte,e5,aK hlt hl]
    exact cw.2 ⟨p.parts.l.length-(i+1),by omega,rfl,rfl,i+1,r',by omega,rfl,rfl,a,b,rfl,e2,rfl⟩
   ·simp only [decide_eq_false hr4,aD,loopK_exit]
    rw [F.fG.aG]
    simp only [bt,Nat.reduceEqDiff,reduceIte,e1]
    exact cw.2 ⟨r,rfl,r0,r1⟩
  ·have:i=p.parts.l.length:=by omega
   simp only [this,aT,aD,loopK_exit]
   rw [F.fG.aG]
   simp only [bt,Nat.reduceEqDiff,reduceIte,e1]
   exact cw.2 ⟨r,rfl,r0,r1⟩
 refine main.frozen (by simp [AV.pureL,AV.pure,pM]) fun o h' ho=>?_
 obtain ⟨r,rfl,a,b⟩:=cw.1 ho
 exact ⟨_,_,rfl,.scalar _ rfl,hK r a b⟩
theorem Eo{x y:Sl Int}(hx:x.l.length≤cm){h:ag}{K:Out→ag→Bool}(hK:K (.ret (.bool (decide (x.l=y.l)))) h=true):Sem Tryz.prog 128 [aq encI 1 x,aq encI 1 y] h K:=by
 refine F.mU ?_
 rw [F.nr]
 simp only [aQ,Nat.reduceAdd,Nat.reduceEqDiff,reduceIte,ct]
 by_cases hl:x.l.length=y.l.length
 ·simp only [decide_eq_true (show ((x.l.length:Nat):Int)=((y.l.length:Nat):Int) by omega),Bool.not_true,aD]
  refine aE 0 x.l.length (Nat.zero_le _) (fun i e h'=>h'=h∧e 0=aq encI 1 x∧e 1=aq encI 1 y∧e 12 = .int .i64 (x.l.length:Int)∧e 13 = .int .i64 (i:Int)∧x.l.take i=y.l.take i) ⟨rfl,rfl,rfl,rfl,rfl,rfl⟩ ?_ ?_
  ·rintro i e h' _ hi ⟨rfl,e0,e1,e12,e13,ht⟩ K' hn hx' hr hp
   have hv:x.l[i]?=some x.l[i]:=List.getElem?_eq_getElem hi
   have hw:y.l[i]?=some (y.l[i]'(by omega)):=List.getElem?_eq_getElem _
   generalize x.l[i]=a at hv
   generalize y.l[i]'(by omega)=b at hw
   rw [F.b8.aN]
   simp only [e0,e1,e12,e13,aQ,Nat.reduceAdd,Nat.reduceEqDiff,reduceIte,bf hi,aS x hi,aS y (show i<y.l.length by omega),eT hv,eT hw,ct]
   by_cases hab:a=b
   ·simp only [decide_eq_true hab,Bool.not_true,aD,e13,aK hi hx,bindO_some]
    exact hn _ _ ⟨rfl,e0,e1,e12,rfl,by rw [List.take_add_one,List.take_add_one,ht,hv,hw,hab]⟩
   ·simp only [decide_eq_false hab,Bool.not_false,aC]
    rw [hr,F.b8.aZ]
    simp only [bt,Nat.reduceEqDiff,reduceIte]
    rw [decide_eq_false (fun h5=>hab (by rw [h5,hw] at hv;exact (Option.some.inj hv).symm))] at hK
    exact hK
  ·rintro e h' ⟨rfl,e0,e1,e12,e13,ht⟩ K' hx'
   rw [F.b8.aN]
   simp only [e12,e13,aQ,Nat.reduceAdd,Nat.reduceEqDiff,reduceIte,aT]
   rw [hx',F.b8.aG]
   rw [List.take_of_length_le (Nat.le_refl _),List.take_of_length_le (by omega)] at ht
   rw [decide_eq_true ht] at hK
   exact hK
 ·simp only [decide_eq_false (show ¬ ((x.l.length:Nat):Int)=((y.l.length:Nat):Int) by omega),Bool.not_false,aC]
  rw [decide_eq_false (fun h5=>hl (by rw [h5]))] at hK
  exact hK
def qw(hs:List bC)(c:dO):Bool:=decide (c.name ∈ hs)&&(!c.neg&&decide (c.kind=0))
def JK(rec:kN→bC→List Int→Bool)(n:Nat)(L:Lk)(hs:List bC)(r:aB)(vs:List Int):List dO→List kN→Bool
 |[],ps=>ps.isEmpty
 |c :: cs,ps=>cX n L c (aR vs (aU r c))&&(if qw hs c=true then (match ps with|[]=>false|p :: ps=>rec p c.name (aR vs (aU r c))&&JK rec n L hs r vs cs ps) else JK rec n L hs r vs cs ps)
def nk(n:Nat)(L:Lk)(rs:List aB):Nat→kN→bC→List Int→Bool
 |0,_,_,_=>false
 |k+1,p,nm,t=>decide (0≤p.rule)&&(match rs[p.rule.toNat]? with
  |none=>false
  |some r=>(r.name==nm)&&(decide (p.vals.l.length=(varsOf r).length)&&(gQ n p.vals.l&&(decide (aR p.vals.l (placesOf (varsOf r) r.args.l)=t)&&JK (nk n L rs k) n L (aY rs) r p.vals.l r.body.l p.parts.l))))
def jQ(x:Sl kN)(k:Nat):AV:=match x with|none=>.nils|some l=>.islice (l.flatMap cO) (k*3) (l.length-k) 3
theorem Er(x:Sl kN):jQ x 0=aq cO 3 x:=by cases x<;>simp [jQ,aq]
theorem Di(x:Sl kN)(k:Nat)(h:ag):bQ .slice (jQ x k) h=some (.int .i64 ((x.l.length-k:Nat):Int)):=by
 cases x with
 |none=>simp [jQ,bQ,Sl.l]
 |some l=>rfl
theorem LA{x:Sl kN}{k:Nat}(hk:k<x.l.length):cS 3 (jQ x k) (.int .i64 0)=some (.iptr (x.l.flatMap cO) (k*3)):=by
 cases x with
 |none=>simp [Sl.l] at hk
 |some l=>
  replace hk:k<l.length:=hk
  simp only [jQ,cS,asNat]
  simp [Sl.l]
  omega
theorem HI{x:Sl kN}{k:Nat}(hk:k<x.l.length):gr (some 3) (jQ x k) (some (.int .i64 1)) none=some (jQ x (k+1)):=by
 cases x with
 |none=>simp [Sl.l] at hk
 |some l=>
  replace hk:k<l.length:=hk
  have h1:1≤l.length-k:=by omega
  simp [jQ,gr,kI,mM,asNat,h1]
  omega
end
end Go.AM
namespace Go.AM
open Go Go.Proofs
noncomputable section
structure Ss (n P M S B lo:Nat) (rules:Sl aB) (ks:List bC) (lv:Lev.Lv) (D:DB) (h:ag):Prop where
 hP:∃ A,h.get P=some (.cells [aq aL 3 rules,.map A,.map M])
 hl:fC (aY rules.l) h M ks lv
 hS:h.get S=some (.cells [.int .i64 (n:Int),.map B])
 hD:ef D h B lo
 lt:P<h.next∧M<h.next∧S<h.next
theorem Ss.ext{n P M S B lo:Nat}{rules:Sl aB}{ks:List bC}{lv:Lev.Lv}{D:DB}{h h':ag}(g:Ss n P M S B lo rules ks lv D h)(x:bR h h'):Ss n P M S B lo rules ks lv D h':=by
 obtain ⟨⟨A,hP⟩,hl,hS,hD,l1,l2,l3⟩:=g
 have:=x.next
 exact ⟨⟨A,by rw [x.get _ l1];exact hP⟩,hl.keep (x.get _ l2),by rw [x.get _ l3];exact hS,hD.ext x,by omega,by omega,by omega⟩
theorem Pe{n:Nat}{l:List Int}:(l.any fun v=>decide (v<0)||decide ((n:Int)≤v)) = !gQ n l:=by
 unfold gQ
 induction l with
 |nil=>rfl
 |cons v l ih=>rw [List.any_cons,List.all_cons,ih];cases decide (v<0)<;>cases decide ((n:Int)≤v)<;>simp
theorem Dj{rules:Sl aB}{i:Nat}{r:aB}(hv:rules.l[i]?=some r)(h:ag):ai none (.iptr (rules.l.flatMap aL) (i*3)) h=some (.str r.name):=by
 have:=eM (h:=h) eN hv (k:=0) (by omega)
 rw [Nat.add_zero] at this
 rw [this];rfl
theorem Is(rec:kN→bC→List Int→Bool)(n:Nat)(L:Lk)(hs:List bC)(r:aB)(vs:List Int)(ps:List kN):JK rec n L hs r vs [] ps=ps.isEmpty:=by cases ps<;>rfl
theorem BG(rec:kN→bC→List Int→Bool)(n:Nat)(L:Lk)(hs:List bC)(r:aB)(vs:List Int)(c:dO)(cs:List dO)(ps:List kN):JK rec n L hs r vs (c :: cs) ps=(cX n L c (aR vs (aU r c))&&(if qw hs c=true then (match ps with|[]=>false|p :: ps=>rec p c.name (aR vs (aU r c))&&JK rec n L hs r vs cs ps) else JK rec n L hs r vs cs ps)):=by
 cases ps<;>rfl
set_option maxHeartbeats 4000000 in
theorem Es{n P M S B lo:Nat}{rules:Sl aB}{ks:List bC}{lv:Lev.Lv}{D:DB}(n1:1≤n)(hfew:∀ r ∈ rules.l,r.kH)(hask:∀ r ∈ rules.l,Bc n D r) :
  ∀ (k:Nat) (p:kN),SizeOf.sizeOf p≤k→wV p→∀ {nm:bC} {T:AV} {y:Sl Int} {h:ag} {K:Out→ag→Bool},Ss n P M S B lo rules ks lv D h→(∀ h',bR h h'→Fz true h' T (aq encI 1 y)) →
   (∀ h',bR h h'→K (.ret (.bool (nk n (dB D) rules.l k p nm y.l))) h'=true)→Sem Tryz.prog 81 [.ptr S 0,.ptr P 0,.str nm,T,.agg (cO p)] h K:=by
 intro k
 induction k with
 |zero=>intro p hk;obtain ⟨a,b,c⟩:=p;simp at hk
 |succ k ihk=>
 intro p hk hpo nm T y h K hv hT hK
 have hin:∀ q ∈ p.parts.l,SizeOf.sizeOf q≤k∧wV q:=fun q hq=>⟨by have:=kN.uj hq;omega,by cases hpo with|mk _ _ _ h3=>exact h3 q hq⟩
 have hpl:p.parts.l.length≤cm∧p.vals.l.length≤cm:=by cases hpo with|mk _ h1 h2 _=>exact ⟨h2,h1⟩
 refine F.pF ?_
 rw [F.qt]
 simp only [show ew (.ptr S 0)=some [.ptr S 0] from rfl,cA (mJ p),bindO_some,ag.next_alloc]
 have g0:((h.alloc (.cells [.ptr S 0])).alloc (.cells (cO p))).get h.next=some (.cells [.ptr S 0]):=by simp [ag.aV]
 have g1:((h.alloc (.cells [.ptr S 0])).alloc (.cells (cO p))).get (h.next+1)=some (.cells (cO p)):=by simp [ag.aV]
 have gx:bR h ((h.alloc (.cells [.ptr S 0])).alloc (.cells (cO p))):=(bR.alloc _ _).trans (bR.alloc _ _)
 have gn:((h.alloc (.cells [.ptr S 0])).alloc (.cells (cO p))).next=h.next+1+1:=rfl
 generalize ((h.alloc (.cells [.ptr S 0])).alloc (.cells (cO p)))=H at g0 g1 gx gn ⊢
 have vH:=hv.ext gx
 obtain ⟨A,hP⟩:=vH.hP
 have lr:ai none (.ptr (h.next+1) 0) H=some (.int .i64 p.rule):=by rw [an g1,fY];rfl
 have lp:ai none (.ptr P 0) H=some (aq aL 3 rules):=by rw [an hP];rfl
 simp only [aQ,Nat.reduceAdd,Nat.reduceEqDiff,reduceIte,lr]
 by_cases hneg:p.rule<0
 ·simp only [decide_eq_true hneg,aC]
  have:nk n (dB D) rules.l (k+1) p nm y.l=false:=by unfold nk;rw [decide_eq_false (by omega)];rfl
  rw [this] at hK
  exact hK H gx
 obtain ⟨i,hi⟩:∃ i:Nat,p.rule=(i:Int):=⟨p.rule.toNat,by omega⟩
 have hit:p.rule.toNat=i:=by omega
 simp only [decide_eq_false hneg,aD,bS,aQ,Nat.reduceAdd,Nat.reduceEqDiff,reduceIte,lr,lp]
 by_cases hbi:(rules.l.length:Int)≤p.rule
 ·simp only [decide_eq_true hbi,aC]
  have:nk n (dB D) rules.l (k+1) p nm y.l=false:=by unfold nk;rw [List.getElem?_eq_none (by omega:rules.l.length≤p.rule.toNat),Bool.and_false]
  rw [this] at hK
  exact hK H gx
 have hil:i<rules.l.length:=by omega
 have hr:rules.l[i]?=some rules.l[i]:=List.getElem?_eq_getElem hil
 generalize rules.l[i]=r at hr
 have hrm:=List.mem_of_getElem? hr
 have hf:=hfew r hrm
 have hak:=hask r hrm
 have hbb:r.body.l.length≤cm:=by have:=hf.2.1;unfold cm;omega
 have hpr:nk n (dB D) rules.l (k+1) p nm y.l=((r.name==nm)&&(decide (p.vals.l.length=(varsOf r).length)&&(gQ n p.vals.l&&(decide (aR p.vals.l (placesOf (varsOf r) r.args.l)=y.l)&&JK (nk n (dB D) rules.l k) n (dB D) (aY rules.l) r p.vals.l r.body.l p.parts.l)))):=by
  rw [nk,hit,hr,decide_eq_true (by omega),Bool.true_and]
 rw [hpr] at hK
 clear hpr
 rw [hi]
 simp only [decide_eq_false (show ¬ (rules.l.length:Int)≤(i:Int) by omega),aD,bS,aQ,Nat.reduceAdd,Nat.reduceEqDiff,reduceIte,lr,hi,lp,aS rules hil,Dj hr]
 cases hnm:(r.name==nm) with
 |false=>
  simp only [Bool.not_false,aC]
  rw [hnm] at hK
  exact hK H gx
 |true=>
 rw [hnm,Bool.true_and] at hK
 simp only [Bool.not_true,aD,bS,aQ,Nat.reduceAdd,Nat.reduceEqDiff,reduceIte,lr,hi,lp,aS rules hil,cZ eN hr]
 refine ak (cu hf fun hd cs ls hhd hcs hls=>?_)
 have hcl:cs.l.length=r.body.l.length:=by have:=congrArg List.length hcs;simpa using this
 have ohd:br [aq encI 1 hd]=true:=by cases hd<;>rfl
 have ocs:br [aq eE 1 cs]=true:=by cases cs<;>rfl
 have ols:br [aq encI 1 ls]=true:=by cases ls<;>rfl
 have oar:br [aq encS 1 r.args]=true:=by cases r.args<;>rfl
 have obd:br [aq bO 4 r.body]=true:=by cases r.body<;>rfl
 have onep:br (bI (i:Int) r (varsOf r).length (aq encI 1 hd) (aq eE 1 cs) (aq encI 1 ls))=true:=by
  simp only [br,Bool.and_true] at ohd ocs ols oar obd
  simp only [bI,br,ohd,ocs,ols,oar,obd,Bool.and_true]
  rfl
 obtain ⟨H2,hs2,b2,bo2,bn2⟩:=cL (h:=H) (zs:=[.int .i64 0,.str [],.nils,.nils,.int .i64 0,.nils,.nils,.nils]) (cs:=bI (i:Int) r (varsOf r).length (aq encI 1 hd) (aq eE 1 cs) (aq encI 1 ls)) (n:=8) rfl rfl onep
 have x2:bR H H2:=⟨by omega,fun b hb=>bo2 b (by omega)⟩
 rw [gn] at hs2 b2
 simp only [bI] at b2
 have q0:H2.get h.next=some (.cells [.ptr S 0]):=by rw [x2.get _ (by omega)];exact g0
 have q1:H2.get (h.next+1)=some (.cells (cO p)):=by rw [x2.get _ (by omega)];exact g1
 have v2:=vH.ext x2
 have lv2:ai none (.ptr (h.next+1) 1) H2=some (aq encI 1 p.vals):=by rw [an q1,fY];rfl
 simp only [aQ,Nat.reduceAdd,Nat.reduceEqDiff,reduceIte,hs2,lv2,an b2,ct]
 by_cases hvl:p.vals.l.length=(varsOf r).length
 case neg=>
  simp only [decide_eq_false (show ¬ ((p.vals.l.length:Nat):Int)=((varsOf r).length:Int) by omega),Bool.not_false,aC]
  rw [decide_eq_false hvl] at hK
  exact hK H2 (gx.trans x2)
 rw [decide_eq_true hvl,Bool.true_and] at hK
 simp only [decide_eq_true (show ((p.vals.l.length:Nat):Int)=((varsOf r).length:Int) by omega),Bool.not_true,aD,aQ,Nat.reduceAdd,Nat.reduceEqDiff,reduceIte,lv2]
 refine ak (oy (a:=[]) (b:=[.ptr h.next 0]) (p:=fun v=>decide (v<0)||decide ((n:Int)≤v)) hpl.2 (fun v K' hK'=>?_) ?_)
 ·refine F.nN ?_
  rw [F.oq]
  simp only [aQ,Nat.reduceAdd,Nat.reduceEqDiff,reduceIte]
  by_cases hv0:v<0
  ·simp only [decide_eq_true hv0,aC] at hK' ⊢
   exact hK'
  ·simp only [decide_eq_false hv0,aD,an q0,aQ,Nat.reduceAdd,Nat.reduceEqDiff,reduceIte,bS,an v2.hS] at hK' ⊢
   exact hK'
 rw [Pe]
 simp only [aQ,Nat.reduceAdd,Nat.reduceEqDiff,reduceIte]
 cases hib:gQ n p.vals.l with
 |false=>
  simp only [Bool.not_false,aC]
  rw [hib] at hK
  exact hK H2 (gx.trans x2)
 |true=>
 rw [hib,Bool.true_and] at hK
 have hlt:∀ (xs:List bC),(∀ s ∈ xs,s ∈ varsOf r)→∀ q ∈ placesOf (varsOf r) xs,q<p.vals.l.length:=fun xs hxs=>by rw [hvl];exact ir hxs
 have hplh:(placesOf (varsOf r) r.args.l).length=r.args.l.length:=by unfold placesOf;simp
 simp only [Bool.not_true,aD,aQ,Nat.reduceAdd,Nat.reduceEqDiff,reduceIte,lv2,an b2]
 refine ak (Lz (ps:=placesOf (varsOf r) r.args.l) rfl hhd (hlt _ iM) (by rw [hplh];have:=hf.1;omega) fun h3 t1 x3 t2=>?_)
 simp only [outK_ret]
 have x03:=(gx.trans x2).trans x3
 have hvlen:=fV p.vals.l (placesOf (varsOf r) r.args.l)
 rw [← hvlen]
 have hEq:=Eo (x:=some (aR p.vals.l (placesOf (varsOf r) r.args.l))) (y:=y) (by show (aR p.vals.l (placesOf (varsOf r) r.args.l)).length≤cm;rw [hvlen,hplh];have:=hf.1;unfold cm;omega) (h:=ag.empty) (K:=mS (.bool (decide (aR p.vals.l (placesOf (varsOf r) r.args.l)=y.l)))) (cK rfl)
 refine ak (Sem.KE rfl hEq (jB.cons (nD t1) (jB.cons (hT h3 x03) .nil)) ?_)
 simp only [aQ,Nat.reduceAdd,Nat.reduceEqDiff,reduceIte]
 by_cases heq:aR p.vals.l (placesOf (varsOf r) r.args.l)=y.l
 case neg=>
  simp only [decide_eq_false heq,Bool.not_false,aC]
  rw [decide_eq_false heq] at hK
  exact hK h3 x03
 rw [decide_eq_true heq,Bool.true_and] at hK
 have v3:=hv.ext x03
 have x23:=x2.trans x3
 have c0:h3.get h.next=some (.cells [.ptr S 0]):=by rw [x3.get _ (by omega)];exact q0
 have c1:h3.get (h.next+1)=some (.cells (cO p)):=by rw [x3.get _ (by omega)];exact q1
 have c2:h3.get (h.next+1+1)=some (.cells [.int .i64 (i:Int),.str r.name,aq encS 1 r.args,aq bO 4 r.body,.int .i64 (varsOf r).length,aq encI 1 hd,aq eE 1 cs,aq encI 1 ls]):=by rw [x3.get _ (by omega)];exact b2
 have lpt:ai none (.ptr (h.next+1) 2) h3=some (jQ p.parts 0):=by rw [an c1,fY,Er];rfl
 have hx3:=x3.next
 simp only [decide_eq_true heq,Bool.not_true,aD,aQ,Nat.reduceAdd,Nat.reduceEqDiff,reduceIte,lpt,an c2]
 refine aE 0 r.body.l.length (Nat.zero_le _) (fun m e h'=>∃ j,j≤p.parts.l.length∧bR h3 h'∧e 1 = .ptr P 0∧e 5 = .ptr h.next 0∧e 9 = .ptr (h.next+1) 0∧e 11 = .ptr (h.next+1+1) 0∧e 12=jQ p.parts j∧e 82=aq bO 4 r.body∧e 83 = .int .i64 (r.body.l.length:Int)∧e 84 = .int .i64 (m:Int) ∧
  JK (nk n (dB D) rules.l k) n (dB D) (aY rules.l) r p.vals.l r.body.l p.parts.l=JK (nk n (dB D) rules.l k) n (dB D) (aY rules.l) r p.vals.l (r.body.l.drop m) (p.parts.l.drop j)) ⟨0,Nat.zero_le _,bR.refl _,rfl,rfl,rfl,rfl,rfl,rfl,rfl,rfl,rfl⟩ ?_ ?_
 ·rintro m e h' _ hm ⟨j,hj,x4,e1,e5,e9,e11,e12,e82,e83,e84,htot⟩ K' hn hx hrr hp
  have hc:r.body.l[m]?=some r.body.l[m]:=List.getElem?_eq_getElem hm
  generalize r.body.l[m]=c at hc
  have hcm:=List.mem_of_getElem? hc
  have hx4:=x4.next
  have hdr:r.body.l.drop m=c :: r.body.l.drop (m+1):=by rw [List.drop_eq_getElem_cons hm];congr 1;exact Option.some.inj ((List.getElem?_eq_getElem hm).symm.trans hc)
  rw [hdr,BG] at htot
  obtain ⟨H5,hs5,d5,do5,dn5⟩:=cL (h:=h') (zs:=[.int .i64 0,.bool false,.str [],.nils]) (cs:=bO c) (n:=4) rfl rfl (gm c)
  have x5:bR h3 H5:=x4.trans ⟨by omega,fun b hb=>do5 b (by omega)⟩
  have hx5:=x5.next
  have f1:H5.get (h.next+1)=some (.cells (cO p)):=by rw [x5.get _ (by omega)];exact c1
  have f2:H5.get (h.next+1+1)=some (.cells [.int .i64 (i:Int),.str r.name,aq encS 1 r.args,aq bO 4 r.body,.int .i64 (varsOf r).length,aq encI 1 hd,aq eE 1 cs,aq encI 1 ls]):=by rw [x5.get _ (by omega)];exact c2
  have lv5:ai none (.ptr (h.next+1) 1) H5=some (aq encI 1 p.vals):=by rw [an f1,fY];rfl
  have hci:m<cs.l.length:=by omega
  have hrow:cs.l[m]?=some cs.l[m]:=List.getElem?_eq_getElem hci
  have hxl:(cs.l[m]).l=(aU r c).map fun (p:Nat)=>(p:Int):=by
   have h3:(cs.l.map Sl.l)[m]?=some (iC (varsOf r) c.args.l):=by rw [hcs,List.getElem?_map,hc];rfl
   rw [List.getElem?_map,hrow] at h3
   exact Option.some.inj h3
  generalize cs.l[m]=xi at hrow hxl
  have hplc:(aU r c).length=c.args.l.length:=by unfold aU placesOf;simp
  rw [F.cr.aN]
  simp only [e82,e83,e84,aQ,Nat.reduceAdd,Nat.reduceEqDiff,reduceIte,bf hm,aS r.body hm,cZ gl hc,hs5]
  simp only [e9,e11,e84,aQ,Nat.reduceAdd,Nat.reduceEqDiff,reduceIte,lv5,an f2,aS cs hci,iT hrow]
  refine ak (Lz (ps:=aU r c) rfl hxl (hlt _ (jq hcm)) (by rw [hplc];have:=hak.arity c hcm;omega) fun h6 t3 x6 t4=>?_)
  have x36:=x5.trans x6
  have x06:=x03.trans x36
  have v6:=hv.ext x06
  have hx6:=x6.next
  have k0:h6.get h.next=some (.cells [.ptr S 0]):=by rw [x36.get _ (by omega)];exact c0
  have k5:h6.get h'.next=some (.cells (bO c)):=by rw [x6.get _ (by omega)];exact d5
  have hcl6:=fV p.vals.l (aU r c)
  simp only [aQ,Nat.reduceAdd,Nat.reduceEqDiff,reduceIte,e5,an k0,an k5,bO,zo]
  rw [← hcl6]
  refine ak (xT (D:=D) (lo:=lo) v6.hS v6.hD n1 t3 t4 v6.lt.2.2 (by rw [hcl6,hplc];exact hak.arity c hcm) (iN hib (hlt _ (jq hcm))) (fun kk=>by rw [hcl6,hplc];exact hak.rel c hcm kk) (fun k12=>by rw [hcl6,hplc];exact hak.two c hcm k12) (hak.kinds c hcm) fun h7 x7=>?_)
  have x37:=x36.trans x7
  have x07:=x03.trans x37
  have v7:=hv.ext x07
  obtain ⟨A7,hP7⟩:=v7.hP
  have hx7:=x7.next
  have k7:h7.get h'.next=some (.cells (bO c)):=by rw [x7.get _ (by omega)];exact k5
  have k70:h7.get h.next=some (.cells [.ptr S 0]):=by rw [x7.get _ (by omega)];exact k0
  simp only [bO] at k7
  simp only [aQ,Nat.reduceAdd,Nat.reduceEqDiff,reduceIte]
  cases hcv:cX n (dB D) c (aR p.vals.l (aU r c)) with
  |false=>
   simp only [Bool.not_false,aC]
   rw [hrr,F.cr.aZ]
   simp only [bt,Nat.reduceEqDiff,reduceIte]
   rw [hcv,Bool.false_and] at htot
   rw [htot] at hK
   exact hK h7 x07
  |true=>
  rw [hcv,Bool.true_and] at htot
  have skip:∀ (e':Env),qw (aY rules.l) c=false→e' 1 = .ptr P 0→e' 5 = .ptr h.next 0→e' 9 = .ptr (h.next+1) 0→e' 11 = .ptr (h.next+1+1) 0→e' 12=jQ p.parts j→e' 82=aq bO 4 r.body→e' 83 = .int .i64 (r.body.l.length:Int)→e' 84 = .int .i64 ((m+1:Nat):Int)→K' .normal ⟨e',146,[],h7⟩=true:=fun e' ha a1 a2 a3 a4 a5 a6 a7 a8=>by
   rw [if_neg (by rw [ha];simp)] at htot
   exact hn _ _ ⟨j,hj,x37,a1,a2,a3,a4,a5,a6,a7,a8,htot⟩
  simp only [Bool.not_true,aD,e1,bS,aQ,Nat.reduceAdd,Nat.reduceEqDiff,reduceIte,an hP7,an k7,v7.hl.look]
  by_cases hch:c.name ∈ aY rules.l
  case neg=>
   simp only [decide_eq_false hch,Bool.not_false,aC,e84,aK hm hbb,bindO_some]
   exact skip _ (by unfold qw;rw [decide_eq_false hch];rfl) e1 e5 e9 e11 e12 e82 e83 rfl
  simp only [decide_eq_true hch,Bool.not_true,aD,aQ,Nat.reduceAdd,Nat.reduceEqDiff,reduceIte,an k7]
  cases hcn:c.neg with
  |true=>
   simp only [aC,e84,aK hm hbb,bindO_some]
   exact skip _ (by unfold qw;rw [hcn];simp) e1 e5 e9 e11 e12 e82 e83 rfl
  |false=>
  simp only [aD,aQ,Nat.reduceAdd,Nat.reduceEqDiff,reduceIte,an k7,ct]
  by_cases hck:c.kind=0
  case neg=>
   simp only [decide_eq_false hck,Bool.not_false,aC,e84,aK hm hbb,bindO_some]
   exact skip _ (by unfold qw;rw [hcn,decide_eq_false hck];simp) e1 e5 e9 e11 e12 e82 e83 rfl
  have hap:qw (aY rules.l) c=true:=by unfold qw;rw [decide_eq_true hch,hcn,decide_eq_true hck];rfl
  rw [if_pos hap] at htot
  simp only [decide_eq_true hck,Bool.not_true,aD,e12,aQ,Nat.reduceAdd,Nat.reduceEqDiff,reduceIte,Di,ct]
  by_cases hjl:j=p.parts.l.length
  ·simp only [decide_eq_true (show ((p.parts.l.length-j:Nat):Int)=0 by omega),aC]
   rw [hrr,F.cr.aZ]
   simp only [bt,Nat.reduceEqDiff,reduceIte]
   rw [List.drop_of_length_le (by omega)] at htot
   rw [htot] at hK
   exact hK h7 x07
  ·have hjlt:j<p.parts.l.length:=by omega
   have hq:p.parts.l[j]?=some p.parts.l[j]:=List.getElem?_eq_getElem hjlt
   have hdj:p.parts.l.drop j=p.parts.l[j] :: p.parts.l.drop (j+1):=List.drop_eq_getElem_cons hjlt
   rw [hdj] at htot
   generalize p.parts.l[j]=q at hq htot
   have hqm:=List.mem_of_getElem? hq
   simp only [decide_eq_false (show ¬ ((p.parts.l.length-j:Nat):Int)=0 by omega),aD,aQ,Nat.reduceAdd,Nat.reduceEqDiff,reduceIte,e1,e5,e12,an k70,an k7,LA hjlt,cZ mH hq]
   have t7:h7.get H5.next=some (.cells ((aR p.vals.l (aU r c)).map iv)):=by rw [x7.get _ (by omega)];exact t3
   refine ak (ihk q (hin q hqm).1 (hin q hqm).2 (y:=some (aR p.vals.l (aU r c))) v7 (fun h8 x8=>nD (by rw [x8.get _ (by omega)];exact t7)) fun h8 x8=>?_)
   simp only [aQ,Nat.reduceAdd,Nat.reduceEqDiff,reduceIte]
   have x08:=x07.trans x8
   replace htot:_=(nk n (dB D) rules.l k q c.name (aR p.vals.l (aU r c))&&_):=htot
   rw [show Sl.l (some (aR p.vals.l (aU r c)))=aR p.vals.l (aU r c) from rfl]
   cases hrec:nk n (dB D) rules.l k q c.name (aR p.vals.l (aU r c)) with
   |false=>
    simp only [Bool.not_false,aC]
    rw [hrr,F.cr.aZ]
    simp only [bt,Nat.reduceEqDiff,reduceIte]
    rw [hrec,Bool.false_and] at htot
    rw [htot] at hK
    exact hK h8 x08
   |true=>
    rw [hrec,Bool.true_and] at htot
    simp only [Bool.not_true,aD,e12,e84,HI hjlt,aK hm hbb,bindO_some]
    exact hn _ _ ⟨j+1,by omega,x37.trans x8,e1,e5,e9,e11,rfl,e82,e83,rfl,htot⟩
 ·rintro e h' ⟨j,hj,x4,e1,e5,e9,e11,e12,e82,e83,e84,htot⟩ K' hx
  rw [F.cr.aN]
  simp only [e83,e84,aQ,Nat.reduceAdd,Nat.reduceEqDiff,reduceIte,aT]
  rw [hx,F.cr.aG]
  simp only [bt,Nat.reduceEqDiff,reduceIte,e12,Di,aQ,Nat.reduceAdd,Nat.reduceEqDiff,reduceIte,ct]
  rw [List.drop_of_length_le (Nat.le_refl _),Is] at htot
  have:decide (((p.parts.l.length-j:Nat):Int)=0)=(p.parts.l.drop j).isEmpty:=by
   rw [Bool.eq_iff_iff,decide_eq_true_iff,List.isEmpty_iff,List.drop_eq_nil_iff]
   omega
  rw [this,← htot]
  exact hK h' (x03.trans x4)
end
end Go.AM
namespace Go.AM
open Go Go.Proofs
noncomputable section
theorem JL(i:Int)(r:aB)(k:Int)(hd:Sl Int)(cs:Sl (Sl Int))(ls:Sl Int):br (bI i r k (aq encI 1 hd) (aq eE 1 cs) (aq encI 1 ls))=true:=by
 have ohd:br [aq encI 1 hd]=true:=by cases hd<;>rfl
 have ocs:br [aq eE 1 cs]=true:=by cases cs<;>rfl
 have ols:br [aq encI 1 ls]=true:=by cases ls<;>rfl
 have oar:br [aq encS 1 r.args]=true:=by cases r.args<;>rfl
 have obd:br [aq bO 4 r.body]=true:=by cases r.body<;>rfl
 simp only [br,Bool.and_true] at ohd ocs ols oar obd
 simp only [bI,br,ohd,ocs,ols,oar,obd,Bool.and_true]
 rfl
theorem HJ{i:Int}{r:aB}{k:Int}{hd:Sl Int}{cs:Sl (Sl Int)}{ls:Sl Int}{y:AV}{h:ag}{K:Out→ag→Bool}(hK:∀ h',bR h h'→K (.ret (.tuple [])) h'=true) :
  Sem Tryz.prog 80 ([]++([.agg (bI i r k (aq encI 1 hd) (aq eE 1 cs) (aq encI 1 ls)),y]++[])) h K:=by
 refine F.vg ?_
 rw [F.wA]
 simp only [cA (JL i r k hd cs ls),bindO_some]
 exact hK _ (bR.alloc _ _)
theorem LB{n:Nat}{L:Lk}{rs:List aB}:∀ {k:Nat} {p:kN} {nm:bC} {t:List Int},nk n L rs k p nm t=true→∃ r ∈ rs,r.name=nm∧ux n r p.vals.l∧aR p.vals.l (placesOf (varsOf r) r.args.l)=t∧JK (nk n L rs (k-1)) n L (aY rs) r p.vals.l r.body.l p.parts.l=true
 |0,p,nm,t,h=>by cases h
 |k+1,p,nm,t,h=>by
  rw [nk,Bool.and_eq_true] at h
  obtain ⟨h1,h2⟩:=h
  cases hr:rs[p.rule.toNat]? with
  |none=>rw [hr] at h2;cases h2
  |some r=>
   rw [hr] at h2
   simp only [Bool.and_eq_true,beq_iff_eq,decide_eq_true_eq] at h2
   obtain ⟨a,b,c,d,e⟩:=h2
   exact ⟨r,List.mem_of_getElem? hr,a,⟨b,c⟩,d,e⟩
theorem Et{rec:kN→bC→List Int→Bool}{n:Nat}{L:Lk}{hs:List bC}{r:aB}{vs:List Int}:∀ {cs:List dO} {ps:List kN},JK rec n L hs r vs cs ps=true→cs.all (fun c=>cX n L c (aR vs (aU r c)))=true
 |[],ps,_=>rfl
 |c :: cs,ps,h=>by
  rw [BG,Bool.and_eq_true] at h
  rw [List.all_cons,h.1,Bool.true_and]
  have h2:=h.2
  by_cases ha:qw hs c=true
  ·rw [if_pos ha] at h2
   cases ps with
   |nil=>cases h2
   |cons p ps=>
    simp only [Bool.and_eq_true] at h2
    exact Et h2.2
  ·rw [if_neg ha] at h2
   exact Et h2
theorem Dk{n:Nat}{rs:List aB}{s:dw}{L:Lk}(hF:fW rs n s L){k:Nat}{p:kN}{nm:bC}{t:List Int}(h:nk n L rs k p nm t=true):nm ∈ aY rs∧L nm (gY n t)=true∧gQ n t=true∧∃ r ∈ rs,r.name=nm∧t.length=r.args.l.length:=by
 obtain ⟨r,hr,hrn,ha,ht,hg⟩:=LB h
 obtain ⟨kk,T,hst,hT,g⟩:=hF
 have:=g.closed (sJ hst) hT r hr p.vals.l ha (Et hg)
 unfold fZ at this
 rw [ht,hrn] at this
 have hpl:∀ q ∈ placesOf (varsOf r) r.args.l,q<p.vals.l.length:=by rw [ha.1];exact ir iM
 refine ⟨by rw [← hrn];exact List.mem_map_of_mem hr,this,by rw [← ht];exact iN ha.2 hpl,r,hr,hrn,?_⟩
 rw [← ht,fV];unfold placesOf;simp
set_option maxHeartbeats 2000000 in
theorem Gm{rules:Sl aB}{s:dw}(hok:∀ r ∈ rules.l,r.ok)(hfew:∀ r ∈ rules.l,r.kH)(hsok:s.ok){nm:bC}{t:Sl Int}{p:kN}(hpo:wV p){h:ag}{K:Out→ag→Bool}
  (herr:∀ e,uv rules.l s e→K (.ret (.bool false)) h=true)
  (hyes:fI rules.l s→∀ b:Bool,(b=true→∃ L,fW rules.l s.size.toNat s L)→(∀ L,fW rules.l s.size.toNat s L→b=nk s.size.toNat L rules.l (SizeOf.sizeOf p) p nm t.l)→K (.ret (.bool b)) h=true) :
  Sem Tryz.prog 27 [aq aL 3 rules,.agg (aA s),.str nm,aq encI 1 t,.agg (cO p)] h K:=by
 have main:Sem Tryz.prog 27 [aq aL 3 rules,.agg (aA s),.str nm,aq encI 1 t,.agg (cO p)] ag.empty (fun o h'=>yes (∃ b:Bool,o = .ret (.bool b)∧((∃ e,uv rules.l s e∧b=false)∨(fI rules.l s∧(b=true→∃ L,fW rules.l s.size.toNat s L)∧∀ L,fW rules.l s.size.toNat s L→b=nk s.size.toNat L rules.l (SizeOf.sizeOf p) p nm t.l)))):=by
  generalize hR:(fun (o:Out) (h':ag)=>yes (∃ b:Bool,o = .ret (.bool b)∧((∃ e,uv rules.l s e∧b=false)∨(fI rules.l s∧(b=true→∃ L,fW rules.l s.size.toNat s L)∧∀ L,fW rules.l s.size.toNat s L→b=nk s.size.toNat L rules.l (SizeOf.sizeOf p) p nm t.l))))=R
  have bad:∀ e,uv rules.l s e→∀ h',R (.ret (.bool false)) h'=true:=fun e he h'=>by rw [← hR];exact cw.2 ⟨false,rfl,.inl ⟨e,he,rfl⟩⟩
  have fin:fI rules.l s→∀ b:Bool,(b=true→∃ L,fW rules.l s.size.toNat s L)→(∀ L,fW rules.l s.size.toNat s L→b=nk s.size.toNat L rules.l (SizeOf.sizeOf p) p nm t.l)→∀ h',R (.ret (.bool b)) h'=true:=fun ho b h1 h2 h'=>by rw [← hR];exact cw.2 ⟨b,rfl,.inr ⟨ho,h1,h2⟩⟩
  clear hR
  refine F.yL ?_
  rw [F.AO]
  simp only [cA (cR s),cA (mJ p),bindO_some,bp,ag.next_alloc]
  have g0:((ag.alloc ag.empty (.cells (aA s))).alloc (.cells (cO p))).get 0=some (.cells (aA s)):=by simp [ag.aV,bp]
  have g1:((ag.alloc ag.empty (.cells (aA s))).alloc (.cells (cO p))).get 1=some (.cells (cO p)):=by simp [ag.aV,bp]
  have gn:((ag.alloc ag.empty (.cells (aA s))).alloc (.cells (cO p))).next=2:=rfl
  generalize ((ag.alloc ag.empty (.cells (aA s))).alloc (.cells (cO p)))=H0 at g0 g1 gn ⊢
  have l0:ai (some 2) (.ptr 0 0) H0=some (.agg (aA s)):=by rw [an g0,c8 (cs:=aA s) (n:=2) rfl]
  simp only [l0,bindO_some]
  refine ak (az hok hfew hsok (fun hb h' hf=>?_) (fun a1 a2 a3 h' hf=>?_) (fun a1 a2 a3 a4 h' hf=>?_) fun a1 a2 a3 a4 h' n P A M S B lo ks k D0 m hn n1 n64 hst sh sd hf hA2=>?_)
  ·simp only [aQ,Nat.reduceAdd,Nat.reduceEqDiff,reduceIte,ct]
   simp only [show (!decide ((1:Int)=0))=true from rfl,aC]
   exact bad 1 (.inl ⟨hb,rfl⟩) h'
  ·simp only [aQ,Nat.reduceAdd,Nat.reduceEqDiff,reduceIte,ct]
   simp only [show (!decide ((4:Int)=0))=true from rfl,aC]
   exact bad 4 (.inr ⟨a1,a2,.inl ⟨a3,rfl⟩⟩) h'
  ·simp only [aQ,Nat.reduceAdd,Nat.reduceEqDiff,reduceIte,ct]
   simp only [show (!decide ((5:Int)=0))=true from rfl,aC]
   exact bad 5 (.inr ⟨a1,a2,.inr ⟨a3,a4,rfl⟩⟩) h'
  have hnn:s.size.toNat=n:=by omega
  have ho:fI rules.l s:=⟨a1,a2,a3,a4⟩
  specialize fin ho
  rw [hnn] at fin
  rw [gn] at hA2
  simp only [aQ,Nat.reduceAdd,Nat.reduceEqDiff,reduceIte,ct]
  simp only [decide_true,Bool.not_true,aD,bS,aQ,Nat.reduceAdd,Nat.reduceEqDiff,reduceIte,an sh.hP,sh.hl.look]
  by_cases hnm:nm ∈ aY rules.l
  case neg=>
   simp only [decide_eq_false hnm,Bool.not_false,aC]
   refine fin false (fun h=>by cases h) (fun L hL=>?_) h'
   cases hb:nk n L rules.l (SizeOf.sizeOf p) p nm t.l with
   |false=>rfl
   |true=>exact absurd (Dk hL hb).1 hnm
  simp only [decide_eq_true hnm,Bool.not_true,aD]
  refine ak (HB hfew a1 a2 a3 a4 hn n1 n64 hst sh sd (fun _ _ _ _ _ _ _ _ _ hk=>HJ hk) fun h3 D' L hF hDF hdim sh3 keep3 hn3=>?_)
  obtain ⟨o1,o2,o3,o4,o5,o6⟩:=sh3.ord
  have p1:h3.get 1=some (.cells (cO p)):=by rw [keep3 1 (by omega),hf 1 (by omega)];exact g1
  have l3:ai (some 3) (.ptr 1 0) h3=some (.agg (cO p)):=by rw [an p1,c8 (mH p)]
  simp only [aQ,Nat.reduceAdd,Nat.reduceEqDiff,reduceIte,l3]
  have pv:Ss n P M S B lo rules ks (Lev.iter (bM rules.l) k) D' h3:=⟨⟨A,sh3.hP⟩,sh3.hl,sh3.hS,sh3.hD,by omega,by omega,by omega⟩
  refine ak (Es n1 hfew (fun r hr=>F8 a1 sh3.hgo a2 hn a3 a4 sd hr D' hdim) _ p (Nat.le_refl _) hpo (y:=t) pv (fun h4 _=>.dD (bF iL t)) fun h4 x4=>?_)
  simp only [outK_ret]
  rw [hDF]
  exact fin _ (fun _=>⟨L,hF⟩) (fun L' hL'=>by rw [hL'.unique hF]) h4
 refine main.frozen (by simp [AV.pureL,AV.pure,pM,bF dR,er,bF iL]) fun o h' ho=>?_
 obtain ⟨b,rfl,hb⟩:=cw.1 ho
 refine ⟨_,_,rfl,.scalar _ rfl,?_⟩
 rcases hb with ⟨e,he,rfl⟩|⟨hro,h1,h2⟩
 ·exact herr e he
 ·exact hyes hro b h1 h2
end
end Go.AM
namespace Go.AM
open Go Go.Proofs
noncomputable section
def LI(rec:kN→bC→List Int→Bool)(hs:List bC)(r:aB)(vs:List Int):List dO→List kN→Bool
 |[],ps=>ps.isEmpty
 |c :: cs,ps=>if qw hs c=true then (match ps with|[]=>false|p :: ps=>rec p c.name (aR vs (aU r c))&&LI rec hs r vs cs ps) else LI rec hs r vs cs ps
theorem It(rec:kN→bC→List Int→Bool)(hs:List bC)(r:aB)(vs:List Int)(ps:List kN):LI rec hs r vs [] ps=ps.isEmpty:=by cases ps<;>rfl
theorem Gn(rec:kN→bC→List Int→Bool)(hs:List bC)(r:aB)(vs:List Int)(c:dO)(cs:List dO)(ps:List kN):LI rec hs r vs (c :: cs) ps=(if qw hs c=true then (match ps with|[]=>false|p :: ps=>rec p c.name (aR vs (aU r c))&&LI rec hs r vs cs ps) else LI rec hs r vs cs ps):=by
 cases ps<;>rfl
theorem oK{rec:kN→bC→List Int→Bool}{n:Nat}{L:Lk}{hs:List bC}{r:aB}{vs:List Int}:∀ {cs:List dO} {ps:List kN},JK rec n L hs r vs cs ps=(cs.all (fun c=>cX n L c (aR vs (aU r c)))&&LI rec hs r vs cs ps)
 |[],ps=>by rw [Is,It];rfl
 |c :: cs,ps=>by
  rw [BG,Gn,List.all_cons,Bool.and_assoc]
  congr 1
  by_cases ha:qw hs c=true
  ·rw [if_pos ha,if_pos ha]
   cases ps with
   |nil=>simp
   |cons p ps=>
    simp only
    rw [oK]
    cases rec p c.name (aR vs (aU r c))<;>simp
  ·rw [if_neg ha,if_neg ha];exact oK
theorem JM{n:Nat}{A B:Lk}{rs:List aB}(h:∀ r ∈ rs,∀ vs,ux n r vs→∀ c ∈ r.body.l,c.kind=0→A c.name (gY n (aR vs (aU r c)))=B c.name (gY n (aR vs (aU r c)))):∀ (k:Nat) (p:kN) (nm:bC) (t:List Int),nk n A rs k p nm t=nk n B rs k p nm t:=by
 intro k
 induction k with
 |zero=>intro p nm t;rfl
 |succ k ih=>
  intro p nm t
  rw [nk,nk]
  congr 1
  cases hr:rs[p.rule.toNat]? with
  |none=>rfl
  |some r=>
   have hrm:=List.mem_of_getElem? hr
   have hrec:nk n A rs k=nk n B rs k:=by funext p nm t;exact ih p nm t
   simp only
   rw [hrec,oK,oK]
   by_cases hl:p.vals.l.length=(varsOf r).length
   ·cases hb:gQ n p.vals.l with
    |false=>simp
    |true=>
     have:=Lw (h r hrm p.vals.l ⟨hl,hb⟩)
     unfold kj at this
     rw [this]
   ·rw [decide_eq_false hl];simp
set_option maxHeartbeats 4000000 in
theorem dG{n:Nat}(n1:1≤n){rules:Sl aB}(hr60:rules.l.length≤60)(hfew:∀ r ∈ rules.l,r.kH)(hk12:∀ r ∈ rules.l,(varsOf r).length≤12){x:Sl gq}(hx:∀ r ∈ rules.l,jw n r x.l)(har:∀ r ∈ rules.l,r.args.l.length≤12) :
  ∀ (k:Nat) (p:kN),SizeOf.sizeOf p≤k→wV p→∀ {nm:bC} {y:Sl Int} {h:ag} {K:Out→ag→Bool},
   K (.ret (.bool (nk n (cY x.l) rules.l k p nm y.l))) h=true→Sem Tryz.prog 79 [aq aL 3 rules,aq g8 3 x,.int .i64 (n:Int),.str nm,aq encI 1 y,.agg (cO p)] h K:=by
 intro k
 induction k with
 |zero=>intro p hk;obtain ⟨a,b,c⟩:=p;simp at hk
 |succ k ihk=>
 intro p hk hpo nm y h K hK0
 have hin:∀ q ∈ p.parts.l,SizeOf.sizeOf q≤k∧wV q:=fun q hq=>⟨by have:=kN.uj hq;omega,by cases hpo with|mk _ _ _ h3=>exact h3 q hq⟩
 have hpl:p.parts.l.length≤cm∧p.vals.l.length≤cm:=by cases hpo with|mk _ h1 h2 _=>exact ⟨h2,h1⟩
 refine Sem.data (r:=.bool (nk n (cY x.l) rules.l (k+1) p nm y.l)) ?_ (by simp [AV.pureL,AV.pure,bF dR,bF uq,bF iL,pM]) hK0
 clear hK0
 refine F.wB ?_
 rw [F.yM]
 simp only [cA (mJ p),bindO_some,bp,ag.next_alloc]
 have g0:(ag.empty.alloc (.cells (cO p))).get 0=some (.cells (cO p)):=aI _ _
 have gn:(ag.empty.alloc (.cells (cO p))).next=1:=rfl
 generalize (ag.empty.alloc (.cells (cO p)))=H at g0 gn ⊢
 have lr:ai none (.ptr 0 0) H=some (.int .i64 p.rule):=by rw [an g0,fY];rfl
 simp only [aQ,Nat.reduceAdd,Nat.reduceEqDiff,reduceIte,lr]
 by_cases hneg:p.rule<0
 ·simp only [decide_eq_true hneg,aC]
  have:nk n (cY x.l) rules.l (k+1) p nm y.l=false:=by unfold nk;rw [decide_eq_false (by omega)];rfl
  rw [this]
  exact cK rfl
 obtain ⟨i,hi⟩:∃ i:Nat,p.rule=(i:Int):=⟨p.rule.toNat,by omega⟩
 have hit:p.rule.toNat=i:=by omega
 simp only [decide_eq_false hneg,aD,aQ,Nat.reduceAdd,Nat.reduceEqDiff,reduceIte,lr]
 by_cases hbi:(rules.l.length:Int)≤p.rule
 ·simp only [decide_eq_true hbi,aC]
  have:nk n (cY x.l) rules.l (k+1) p nm y.l=false:=by unfold nk;rw [List.getElem?_eq_none (by omega:rules.l.length≤p.rule.toNat),Bool.and_false]
  rw [this]
  exact cK rfl
 have hil:i<rules.l.length:=by omega
 have hr:rules.l[i]?=some rules.l[i]:=List.getElem?_eq_getElem hil
 generalize rules.l[i]=r at hr
 have hrm:=List.mem_of_getElem? hr
 have hf:=hfew r hrm
 have hv12:=hk12 r hrm
 have hbb:r.body.l.length≤cm:=by have:=hf.2.1;unfold cm;omega
 have hpr:nk n (cY x.l) rules.l (k+1) p nm y.l=((r.name==nm)&&(decide (p.vals.l.length=(varsOf r).length)&&(gQ n p.vals.l&&(decide (aR p.vals.l (placesOf (varsOf r) r.args.l)=y.l)&&(kj n (cY x.l) r p.vals.l&&LI (nk n (cY x.l) rules.l k) (aY rules.l) r p.vals.l r.body.l p.parts.l))))):=by
  rw [nk,hit,hr,decide_eq_true (by omega),Bool.true_and]
  simp only
  rw [oK];rfl
 rw [hpr]
 clear hpr
 rw [hi]
 simp only [decide_eq_false (show ¬ (rules.l.length:Int)≤(i:Int) by omega),aD,aQ,Nat.reduceAdd,Nat.reduceEqDiff,reduceIte,lr,hi,aS rules hil,Dj hr]
 cases hnm:(r.name==nm) with
 |false=>
  simp only [Bool.not_false,aC,Bool.false_and]
  exact cK rfl
 |true=>
 obtain ⟨H2,hs2,b2,bo2,bn2⟩:=cL (h:=H) (zs:=[.str [],.nils,.nils]) (cs:=aL r) (n:=3) rfl rfl (ij r)
 rw [gn] at hs2 b2 bn2
 have q0:H2.get 0=some (.cells (cO p)):=by rw [bo2 0 (by omega)];exact g0
 have lrr:ai (some 3) (.ptr 1 0) H2=some (.agg (aL r)):=by rw [an b2];simp only [aL,lM]
 have lvv:ai none (.ptr 0 1) H2=some (aq encI 1 p.vals):=by rw [an q0,fY];rfl
 have lar:ai none (.ptr 1 1) H2=some (aq encS 1 r.args):=by rw [an b2];rfl
 simp only [Bool.not_true,Bool.true_and,aD,aQ,Nat.reduceAdd,Nat.reduceEqDiff,reduceIte,lr,hi,gn,aS rules hil,cZ eN hr,hs2,lrr]
 refine ak (bH hf fun all hall=>?_)
 have hal:all.l.length≤cm:=by rw [hall];unfold cm;omega
 simp only [aQ,Nat.reduceAdd,Nat.reduceEqDiff,reduceIte,lvv,hall,ct]
 by_cases hvl:p.vals.l.length=(varsOf r).length
 case neg=>
  simp only [decide_eq_false (show ¬ ((p.vals.l.length:Nat):Int)=((varsOf r).length:Int) by omega),Bool.not_false,aC,decide_eq_false hvl,Bool.false_and]
  exact cK rfl
 simp only [decide_eq_true (show ((p.vals.l.length:Nat):Int)=((varsOf r).length:Int) by omega),decide_eq_true hvl,Bool.true_and,Bool.not_true,aD,aQ,Nat.reduceAdd,Nat.reduceEqDiff,reduceIte,lvv]
 refine ak (fP hpl.2 ?_)
 simp only [aQ,Nat.reduceAdd,Nat.reduceEqDiff,reduceIte]
 cases hib:gQ n p.vals.l with
 |false=>
  simp only [Bool.not_false,aC,Bool.false_and]
  exact cK rfl
 |true=>
 have hasg:ux n r p.vals.l:=⟨hvl,hib⟩
 have hplh:(placesOf (varsOf r) r.args.l).length=r.args.l.length:=by unfold placesOf;simp
 have hra:=har r hrm
 simp only [Bool.not_true,Bool.true_and,aD,aQ,Nat.reduceAdd,Nat.reduceEqDiff,reduceIte,lvv,lar]
 refine ak (eo (all:=all) (xs:=r.args) (at_:=p.vals) (by rw [hall];exact pU r) hal (by omega) (by rw [hall];exact iM) (by rw [hall];exact hvl) ?_)
 simp only [outK_ret,hall]
 refine ak (dX (x:=some (aR p.vals.l (placesOf (varsOf r) r.args.l))) (y:=y) (by show (aR p.vals.l (placesOf (varsOf r) r.args.l)).length≤cm;rw [fV,hplh];unfold cm;omega) ?_)
 have hbeq:(Sl.l (some (aR p.vals.l (placesOf (varsOf r) r.args.l)))==y.l)=decide (aR p.vals.l (placesOf (varsOf r) r.args.l)=y.l):=by
  rw [Bool.eq_iff_iff,beq_iff_eq,decide_eq_true_iff];rfl
 rw [hbeq]
 simp only [aQ,Nat.reduceAdd,Nat.reduceEqDiff,reduceIte]
 cases heq:decide (aR p.vals.l (placesOf (varsOf r) r.args.l)=y.l) with
 |false=>
  simp only [Bool.not_false,aC,Bool.false_and]
  exact cK rfl
 |true=>
 simp only [Bool.not_true,Bool.true_and,aD,aQ,Nat.reduceAdd,Nat.reduceEqDiff,reduceIte,lrr,lvv]
 refine ak (cN n1 hf hv12 hall hasg (hx r hrm) ?_)
 simp only [aQ,Nat.reduceAdd,Nat.reduceEqDiff,reduceIte]
 cases hap:kj n (cY x.l) r p.vals.l with
 |false=>
  simp only [Bool.not_false,aC,Bool.false_and]
  exact cK rfl
 |true=>
 simp only [Bool.not_true,Bool.true_and,aD]
 refine ak (cM hr60 fun df hdf=>?_)
 simp only [aQ,Nat.reduceAdd,Nat.reduceEqDiff,reduceIte]
 have hdl:df.l.length≤cm:=by rw [hdf];have:=kG rules.l;unfold cm;omega
 have hdm:∀ s:bC,(df.l.any fun z=>z==s)=decide (s ∈ aY rules.l):=fun s=>by rw [hdf,Eh,decide_eq_decide];exact dx rules.l
 refine aE 0 r.body.l.length (Nat.zero_le _) (fun m e h'=>∃ j,j≤p.parts.l.length∧h'.get 0=some (.cells (cO p))∧h'.get 1=some (.cells (aL r))∧2≤h'.next∧e 0=aq aL 3 rules∧e 1=aq g8 3 x∧e 2 = .int .i64 (n:Int)∧e 11 = .ptr 0 0∧e 13 = .ptr 1 0∧e 14=aq encS 1 all∧e 15=aq encS 1 df∧e 16 = .int .i64 (j:Int)∧e 17 = .int .i64 (m:Int) ∧
  LI (nk n (cY x.l) rules.l k) (aY rules.l) r p.vals.l r.body.l p.parts.l=LI (nk n (cY x.l) rules.l k) (aY rules.l) r p.vals.l (r.body.l.drop m) (p.parts.l.drop j)) ⟨0,Nat.zero_le _,q0,b2,by omega,rfl,rfl,rfl,rfl,rfl,rfl,rfl,rfl,rfl,rfl⟩ ?_ ?_
 ·rintro m e h' _ hm ⟨j,hj,c0,c1,cn,e0,e1,e2,e11,e13,e14,e15,e16,e17,htot⟩ K' hn hxx hrr hp
  have hc:r.body.l[m]?=some r.body.l[m]:=List.getElem?_eq_getElem hm
  generalize r.body.l[m]=c at hc
  have hcm:=List.mem_of_getElem? hc
  have hdr:r.body.l.drop m=c :: r.body.l.drop (m+1):=by rw [List.drop_eq_getElem_cons hm];congr 1;exact Option.some.inj ((List.getElem?_eq_getElem hm).symm.trans hc)
  rw [hdr,Gn] at htot
  have hcf:=(hx r hrm).conds c hcm
  have lb:ai none (.ptr 1 2) h'=some (aq bO 4 r.body):=by rw [an c1];rfl
  obtain ⟨H5,hs5,d5,do5,dn5⟩:=cL (h:=h') (zs:=[.int .i64 0,.bool false,.str [],.nils]) (cs:=bO c) (n:=4) rfl rfl (gm c)
  have f0:H5.get 0=some (.cells (cO p)):=by rw [do5 _ (by omega)];exact c0
  have f1:H5.get 1=some (.cells (aL r)):=by rw [do5 _ (by omega)];exact c1
  have fk:ai none (.ptr h'.next 0) H5=some (.int .i64 c.kind):=by rw [an d5];rfl
  have fg:ai none (.ptr h'.next 1) H5=some (.bool c.neg):=by rw [an d5];rfl
  have fm:ai none (.ptr h'.next 2) H5=some (.str c.name):=by rw [an d5];rfl
  have fa:ai none (.ptr h'.next 3) H5=some (aq encS 1 c.args):=by rw [an d5];rfl
  have fv:ai none (.ptr 0 1) H5=some (aq encI 1 p.vals):=by rw [an f0,fY];rfl
  have fp:ai none (.ptr 0 2) H5=some (aq cO 3 p.parts):=by rw [an f0,fY];rfl
  have skip:∀ (e':Env),qw (aY rules.l) c=false→e' 0=aq aL 3 rules→e' 1=aq g8 3 x→e' 2 = .int .i64 (n:Int)→e' 11 = .ptr 0 0→e' 13 = .ptr 1 0→e' 14=aq encS 1 all→e' 15=aq encS 1 df→e' 16 = .int .i64 (j:Int)→e' 17 = .int .i64 ((m+1:Nat):Int)→K' .normal ⟨e',145,[],H5⟩=true:=fun e' ha a0 a1 a2 a3 a4 a5 a6 a7 a8=>by
   rw [if_neg (by rw [ha];simp)] at htot
   exact hn _ _ ⟨j,hj,f0,f1,by omega,a0,a1,a2,a3,a4,a5,a6,a7,a8,htot⟩
  rw [F.dG.aN]
  simp only [e13,e17,aQ,Nat.reduceAdd,Nat.reduceEqDiff,reduceIte,lb,bf hm,aS r.body hm,cZ gl hc,hs5]
  simp only [aQ,Nat.reduceAdd,Nat.reduceEqDiff,reduceIte,fk,ct]
  by_cases hck:c.kind=0
  case neg=>
   simp only [decide_eq_false hck,Bool.not_false,aC,e17,aK hm hbb,bindO_some]
   exact skip _ (by unfold qw;rw [decide_eq_false hck];simp) e0 e1 e2 e11 e13 e14 e15 e16 rfl
  simp only [decide_eq_true hck,Bool.not_true,aD,fg,aQ,Nat.reduceAdd,Nat.reduceEqDiff,reduceIte]
  cases hcn:c.neg with
  |true=>
   simp only [aC,e17,aK hm hbb,bindO_some]
   exact skip _ (by unfold qw;rw [hcn];simp) e0 e1 e2 e11 e13 e14 e15 e16 rfl
  |false=>
  simp only [aD,fm,e15,aQ,Nat.reduceAdd,Nat.reduceEqDiff,reduceIte]
  refine ak (nQ hdl ?_)
  rw [hdm]
  simp only [aQ,Nat.reduceAdd,Nat.reduceEqDiff,reduceIte]
  by_cases hch:c.name ∈ aY rules.l
  case neg=>
   simp only [decide_eq_false hch,Bool.not_false,aC,e17,aK hm hbb,bindO_some]
   exact skip _ (by unfold qw;rw [decide_eq_false hch];rfl) e0 e1 e2 e11 e13 e14 e15 e16 rfl
  have hask:qw (aY rules.l) c=true:=by unfold qw;rw [decide_eq_true hch,hcn,decide_eq_true hck];rfl
  rw [if_pos hask] at htot
  simp only [decide_eq_true hch,Bool.not_true,aD,e11,e16,aQ,Nat.reduceAdd,Nat.reduceEqDiff,reduceIte,fp]
  by_cases hjl:j=p.parts.l.length
  ·simp only [decide_eq_true (show ((p.parts.l.length:Nat):Int)≤(j:Int) by omega),aC]
   rw [hrr,F.dG.aZ]
   simp only [bt,Nat.reduceEqDiff,reduceIte]
   rw [List.drop_of_length_le (by omega)] at htot
   rw [htot]
   exact cK rfl
  ·have hjlt:j<p.parts.l.length:=by omega
   have hq:p.parts.l[j]?=some p.parts.l[j]:=List.getElem?_eq_getElem hjlt
   have hdj:p.parts.l.drop j=p.parts.l[j] :: p.parts.l.drop (j+1):=List.drop_eq_getElem_cons hjlt
   rw [hdj] at htot
   generalize p.parts.l[j]=q at hq htot
   have hqm:=List.mem_of_getElem? hq
   simp only [decide_eq_false (show ¬ ((p.parts.l.length:Nat):Int)≤(j:Int) by omega),aD,aQ,Nat.reduceAdd,Nat.reduceEqDiff,reduceIte,e11,e14,e16,fm,fa,fv,fp,aS p.parts hjlt,cZ mH hq]
   refine ak (eo (all:=all) (xs:=c.args) (at_:=p.vals) (by rw [hall];exact pU r) hal (by have:=hcf.arity;omega) (by rw [hall];exact jq hcm) (by rw [hall];exact hvl) ?_)
   simp only [aQ,Nat.reduceAdd,Nat.reduceEqDiff,reduceIte,hall,fm,fp,cZ mH hq,AV.beq_refl,Bool.and_self,Bool.and_true,if_true,e0,e1,e2]
   refine ak (ihk q (hin q hqm).1 (hin q hqm).2 (y:=some (aR p.vals.l (placesOf (varsOf r) c.args.l))) ?_)
   simp only [aQ,Nat.reduceAdd,Nat.reduceEqDiff,reduceIte]
   replace htot:_=(nk n (cY x.l) rules.l k q c.name (aR p.vals.l (aU r c))&&_):=htot
   rw [show Sl.l (some (aR p.vals.l (placesOf (varsOf r) c.args.l)))=aR p.vals.l (aU r c) from rfl]
   cases hrec:nk n (cY x.l) rules.l k q c.name (aR p.vals.l (aU r c)) with
   |false=>
    simp only [Bool.not_false,aC]
    rw [hrr,F.dG.aZ]
    simp only [bt,Nat.reduceEqDiff,reduceIte]
    rw [hrec,Bool.false_and] at htot
    rw [htot]
    exact cK rfl
   |true=>
    rw [hrec,Bool.true_and] at htot
    simp only [Bool.not_true,aD,e16,e17,aK hjlt hpl.1,aK hm hbb,bindO_some]
    exact hn _ _ ⟨j+1,by omega,f0,f1,by omega,e0,e1,e2,e11,e13,e14,e15,rfl,rfl,htot⟩
 ·rintro e h' ⟨j,hj,c0,c1,cn,e0,e1,e2,e11,e13,e14,e15,e16,e17,htot⟩ K' hxx
  have lb:ai none (.ptr 1 2) h'=some (aq bO 4 r.body):=by rw [an c1];rfl
  have fp:ai none (.ptr 0 2) h'=some (aq cO 3 p.parts):=by rw [an c0,fY];rfl
  rw [F.dG.aN]
  simp only [e13,e17,aQ,Nat.reduceAdd,Nat.reduceEqDiff,reduceIte,lb,aT]
  rw [hxx,F.dG.aG]
  simp only [bt,Nat.reduceEqDiff,reduceIte,e11,e16,fp,aQ,Nat.reduceAdd,Nat.reduceEqDiff,reduceIte,ct]
  rw [List.drop_of_length_le (Nat.le_refl _),It] at htot
  have:decide ((j:Int)=(p.parts.l.length:Int))=(p.parts.l.drop j).isEmpty:=by
   rw [Bool.eq_iff_iff,decide_eq_true_iff,List.isEmpty_iff,List.drop_eq_nil_iff]
   omega
  rw [this,← htot]
  exact cK rfl
end
end Go.AM
namespace Go.AM
open Go Go.Proofs
noncomputable section
theorem Gp{s:dw}(hv:di s=true){i:Nat}{r:Rel}(hr:s.rels.l[i]?=some r):jW (dU r.name) s.rels.l=(i:Int):=by
 have hf:=nG (jY hv) r (List.mem_of_getElem? hr)
 rcases lX (dU r.name) s.rels.l with ⟨h1,h2⟩|⟨j,q,h1,h2,h3⟩
 ·rw [h2] at hf;cases hf
 ·rw [hf] at h3;cases h3
  rw [h1]
  have hN:=jY hv
  obtain ⟨l1,e1⟩:=List.getElem?_eq_some_iff.1 h2
  obtain ⟨l2,e2⟩:=List.getElem?_eq_some_iff.1 hr
  by_cases hlt:j<i
  ·have:=List.pairwise_iff_getElem.1 hN j i (by simpa using l1) (by simpa using l2) hlt
   rw [List.getElem_map,List.getElem_map,e1,e2] at this;exact absurd rfl this
  ·by_cases hgt:i<j
   ·have:=List.pairwise_iff_getElem.1 hN i j (by simpa using l2) (by simpa using l1) hgt
    rw [List.getElem_map,List.getElem_map,e1,e2] at this;exact absurd rfl this
   ·have:i=j:=by omega
    rw [this]
end
end Go.AM
namespace Go.AM
open Go Go.Proofs
noncomputable section
theorem JN(c:OZ):br (ni c)=true:=by
 have h1:br [aq encI 1 c.t]=true:=by cases c.t<;>rfl
 have h2:=mJ c.proof
 unfold ni
 simp only [br,Bool.and_true] at h1 ⊢
 rw [h1,h2];rfl
theorem BH(c:OZ):hG (some 3) (ni c) 2=some (.agg (cO c.proof)):=by
 unfold ni
 rw [fY];rfl
theorem JO{rs:List aB}{s out:dw}{n:Nat}{L:Lk}(ho:fI rs s)(hd:out.rels.l.map cQ=s.rels.l.map cQ++oJ rs n L (cU rs)){nm:bC}(hn:nm ∈ aY rs):∃ (j:Nat) (q:Rel),jW (jX nm (ju rs nm:Int)) out.rels.l=(j:Int)∧out.rels.l[j]?=some q∧q.name=nm∧q.arity=(ju rs nm:Int):=by
 have hm:(nm,(ju rs nm:Int),uu n L nm (ju rs nm) (n ^ ju rs nm)) ∈ out.rels.l.map cQ:=by
  rw [hd];exact List.mem_append_right _ (List.mem_map.2 ⟨nm,(dx rs).2 hn,rfl⟩)
 obtain ⟨p,hp,e⟩:=List.mem_map.1 hm
 unfold cQ at e
 simp only [Prod.mk.injEq] at e
 rcases lX (jX nm (ju rs nm:Int)) out.rels.l with ⟨_,h2⟩|⟨j,q,h1,h2,h3⟩
 ·rw [List.find?_eq_none] at h2
  exact absurd (h2 p hp) (by simp [jX,e.1,e.2.1])
 ·have h4:=List.find?_some h3
  simp only [jX,Bool.and_eq_true,beq_iff_eq,decide_eq_true_eq] at h4
  exact ⟨j,q,h1,h2,h4.1,h4.2⟩
end
end Go.AM
namespace Go.AM
open Go Go.Proofs
noncomputable section
theorem JP{rs:List aB}{s out:dw}{n:Nat}{m:dF}{L:Lk}(ho:fI rs s)(hgo:dc rs []=some m)(hn:s.size=(n:Int))(hz:out.size=s.size)(hF:fW rs n s L)(hd:out.rels.l.map cQ=s.rels.l.map cQ++oJ rs n L (cU rs)) :
  ∀ r ∈ rs,∀ vs,ux n r vs→∀ c ∈ r.body.l,c.kind=0→cY (lE out) c.name (gY n (aR vs (aU r c)))=L c.name (gY n (aR vs (aU r c))):=by
 intro r hr vs ha c hc ck
 have n1:1≤n:=by have:=(iJ.1 ho.valid).lo;omega
 have hvo:=xh ho hgo hn hz hd
 obtain ⟨kk,T,hst,hT,g⟩:=hF
 obtain ⟨_,o,hof,hoa⟩:=Gk ho hgo hn hvo (En hd) hr hc ck
 have hpl:∀ p ∈ aU r c,p<vs.length:=by rw [ha.1];exact ir (jq hc)
 have hin:=iN ha.2 hpl
 have hlen:(aR vs (aU r c)).length=c.args.l.length:=by rw [fV];unfold aU placesOf;simp
 have hlt:=lC hin
 rw [hlen] at hlt
 generalize gY n (aR vs (aU r c))=w at hlt
 rw [JH out (by rw [hz,hn]),Bool.eq_iff_iff,Dg hvo (by rw [hz,hn]) hof hoa hlt]
 by_cases hch:c.name ∈ aY rs
 ·have hwa:w<n ^ ju rs c.name:=by
   obtain ⟨_,r',hr',hrn',har'⟩:=sN hgo hch
   have h5:((r'.args.l.length:Nat):Int)=c.args.l.length:=kg hgo (jt hr') (by rw [hrn'];exact oG hr hc ck)
   rw [har',show r'.args.l.length=c.args.l.length by omega];exact hlt
  exact JI ho n1 hd hch hwa
 ·rw [JJ hd hch]
  have hL:L c.name w=rQ n s c.name w:=gE.rest .zero g (Nat.zero_le _) (.inl fun r' hr' e=>hch (by rw [← e];exact List.mem_map_of_mem hr')) w
  rw [hL,Gl]
  cases hf:s.rels.l.find? (jX c.name (c.args.l.length:Int)) with
  |none=>exact absurd (.inl ⟨_,oG hr hc ck,hch,hf⟩) ho.names
  |some p=>
   obtain ⟨h6,h7,h8⟩:=sL hf
   have h9:=oI ho.valid h6
   rw [h7] at h9
   exact (Dg ho.valid hn h9 h8 hlt).symm
theorem Eu{n:Nat}(n1:1≤n){rules:Sl aB}(hr60:rules.l.length≤60)(hfew:∀ r ∈ rules.l,r.kH)(hk12:∀ r ∈ rules.l,(varsOf r).length≤12){out:dw}(hook:out.ok)(hvo:di out=true)(hn:out.size=(n:Int))(hx:∀ r ∈ rules.l,jw n r (lE out))(har:∀ r ∈ rules.l,r.args.l.length≤12){p:kN}(hpo:wV p){nm:bC}{y:Sl Int}{h:ag}{K:Out→ag→Bool}
  (hK:K (.ret (.bool (nk n (cY (lE out)) rules.l (SizeOf.sizeOf p) p nm y.l))) h=true):Sem Tryz.prog 26 [aq aL 3 rules,.agg (aA out),.str nm,aq encI 1 y,.agg (cO p)] h K:=by
 refine Sem.data (r:=.bool (nk n (cY (lE out)) rules.l (SizeOf.sizeOf p) p nm y.l)) ?_ (by simp [AV.pureL,AV.pure,bF dR,er,bF iL,pM]) hK
 clear hK
 refine F.wC ?_
 rw [F.yN]
 simp only [cA (cR out),cA (mJ p),bindO_some,bp,ag.next_alloc]
 have g0:((ag.alloc ag.empty (.cells (aA out))).alloc (.cells (cO p))).get 0=some (.cells (aA out)):=by simp [ag.aV,bp]
 have g1:((ag.alloc ag.empty (.cells (aA out))).alloc (.cells (cO p))).get 1=some (.cells (cO p)):=by simp [ag.aV,bp]
 generalize ((ag.alloc ag.empty (.cells (aA out))).alloc (.cells (cO p)))=H at g0 g1 ⊢
 have l0:ai (some 2) (.ptr 0 0) H=some (.agg (aA out)):=by rw [an g0,c8 (cs:=aA out) (n:=2) rfl]
 have lz:ai none (.ptr 0 0) H=some (.int .i64 (n:Int)):=by rw [an g0,← hn];rfl
 have lp:ai (some 3) (.ptr 1 0) H=some (.agg (cO p)):=by rw [an g1,c8 (mH p)]
 simp only [aQ,Nat.reduceAdd,Nat.reduceEqDiff,reduceIte,l0,lz,lp]
 refine ak (El hook hvo fun x hx1=>?_)
 simp only [aQ,Nat.reduceAdd,Nat.reduceEqDiff,reduceIte,lz,lp,AV.beq_refl,Bool.and_self,Bool.and_true,if_true]
 refine ak (dG n1 hr60 hfew hk12 (x:=x) (by rw [hx1];exact hx) har _ p (Nat.le_refl _) hpo ?_)
 rw [hx1]
 simp only [outK_ret]
 exact cK rfl
theorem oL(s:St):eL Tryz.prog s Tryz.f23.results.toList=(match ai (some 2) (s.env 6) s.h,(some [s.env 7]:Option (List AV)) with|some v,some vs=>some (v :: vs)|_,_=>none):=by kernel_rfl
theorem JQ(f:Sz):br (oB f)=true:=by
 have h1:br [aq encI 1 f.t]=true:=by cases f.t<;>rfl
 unfold oB
 simp only [br,Bool.and_true] at h1 ⊢
 rw [h1];rfl
def BI(rs:List aB)(s:dw)(f:Sz)(st:dw)(e:Int):Prop:=
 (uv rs s e∧st=s)∨(fI rs s∧(f.name ∉ aY rs∨ju rs f.name≠f.t.l.length)∧st=s∧e=4) ∨
  (fI rs s∧f.name ∈ aY rs∧ju rs f.name=f.t.l.length∧(e=0∨e=6)∧st.size=s.size∧∃ L,fW rs s.size.toNat s L∧st.rels.l.map cQ=s.rels.l.map cQ++oJ rs s.size.toNat L (cU rs))
set_option maxHeartbeats 2000000 in
theorem yg{rules:Sl aB}{s:dw}{f:Sz}(hok:∀ r ∈ rules.l,r.ok)(hfew:∀ r ∈ rules.l,r.kH)(hsok:s.ok){h:ag}{K:Out→ag→Bool}
  (hK:∀ st e,BI rules.l s f st e→K (.ret (.tuple [.agg (aA st),.int .i64 e])) h=true):Sem Tryz.prog 23 [aq aL 3 rules,.agg (aA s),.agg (oB f)] h K:=by
 have main:Sem Tryz.prog 23 [aq aL 3 rules,.agg (aA s),.agg (oB f)] ag.empty (fun o h'=>yes (∃ st e,o = .ret (.tuple [.agg (aA st),.int .i64 e])∧BI rules.l s f st e)):=by
  generalize hR:(fun (o:Out) (h':ag)=>yes (∃ st e,o = .ret (.tuple [.agg (aA st),.int .i64 e])∧BI rules.l s f st e))=R
  have fin:∀ st e h',BI rules.l s f st e→R (.ret (.tuple [.agg (aA st),.int .i64 e])) h'=true:=fun st e h' hk=>by rw [← hR];exact cw.2 ⟨st,e,rfl,hk⟩
  clear hR
  refine F.yO ?_
  rw [F.AP]
  simp only [cA (cR s),cA (JQ f),bindO_some,bp,ag.next_alloc]
  have g0:(((ag.alloc ag.empty (.cells (aA s))).alloc (.cells (oB f))).alloc (.cells [.int .i64 0,.nils])).get 0=some (.cells (aA s)):=by simp [ag.aV,bp]
  have g1:(((ag.alloc ag.empty (.cells (aA s))).alloc (.cells (oB f))).alloc (.cells [.int .i64 0,.nils])).get 1=some (.cells (oB f)):=by simp [ag.aV,bp]
  have g2:(((ag.alloc ag.empty (.cells (aA s))).alloc (.cells (oB f))).alloc (.cells [.int .i64 0,.nils])).get 2=some (.cells [.int .i64 0,.nils]):=by simp [ag.aV,bp]
  have gn:(((ag.alloc ag.empty (.cells (aA s))).alloc (.cells (oB f))).alloc (.cells [.int .i64 0,.nils])).next=3:=rfl
  generalize (((ag.alloc ag.empty (.cells (aA s))).alloc (.cells (oB f))).alloc (.cells [.int .i64 0,.nils]))=H at g0 g1 g2 gn ⊢
  have l0:ai (some 2) (.ptr 0 0) H=some (.agg (aA s)):=by rw [an g0,c8 (cs:=aA s) (n:=2) rfl]
  have lf:ai none (.ptr 1 0) H=some (.str f.name):=by rw [an g1];rfl
  have lt:ai none (.ptr 1 1) H=some (aq encI 1 f.t):=by rw [an g1];rfl
  have put:∀ (st:dw) (h':ag),h'.get 2=some (.cells [.int .i64 0,.nils])→∃ h2,bL 2 (.ptr 2 0) (.agg (aA st)) h'=some h2∧ai (some 2) (.ptr 2 0) h2=some (.agg (aA st)):=fun st h' hg=>by
   refine ⟨h'.set 2 (.cells (aA st)),?_,?_⟩
   ·rw [dV (n:=2) (v:=.agg (aA st)) hg rfl (cR st) (by simp)];rfl
   ·rw [an (cs:=aA st) (by rw [ag.aO,if_pos rfl]),c8 (cs:=aA st) (n:=2) rfl]
  obtain ⟨hA,sA,lA⟩:=put s H g2
  simp only [l0,bindO_some]
  refine ak (bG hok hfew hsok (fun e he=>?_) fun ho=>?_)
  ·have hne:=(zA he).1
   simp only [aQ,Nat.reduceAdd,Nat.reduceEqDiff,reduceIte,ct,decide_eq_false hne,Bool.not_false,aC,l0,sA,oL,lA,oneOf]
   exact fin s e _ (.inl ⟨he,rfl⟩)
  obtain ⟨m,hgo⟩:=ho.good.go
  have h60:=ho.good.kH
  have h20:∀ r ∈ rules.l,r.body.l.length≤20:=fun r hr=>(fU hgo r hr).2.1
  simp only [aQ,Nat.reduceAdd,Nat.reduceEqDiff,reduceIte,ct,decide_true,Bool.not_true,aD,lf]
  refine ak (cM h60 fun df hdf=>?_)
  have hdl:df.l.length≤cm:=by rw [hdf];have:=kG rules.l;unfold cm;omega
  have hdm:∀ s:bC,(df.l.any fun z=>z==s)=decide (s ∈ aY rules.l):=fun s=>by rw [hdf,Eh,decide_eq_decide];exact dx rules.l
  simp only [aQ,Nat.reduceAdd,Nat.reduceEqDiff,reduceIte,lf,AV.beq_refl,Bool.and_self,Bool.and_true,if_true]
  refine ak (nQ hdl ?_)
  rw [hdm]
  simp only [aQ,Nat.reduceAdd,Nat.reduceEqDiff,reduceIte]
  by_cases hnm:f.name ∈ aY rules.l
  case neg=>
   simp only [decide_eq_false hnm,Bool.not_false,aC,l0,aQ,Nat.reduceAdd,Nat.reduceEqDiff,reduceIte,sA,oL,lA,oneOf]
   exact fin s 4 _ (.inr (.inl ⟨ho,.inl hnm,rfl,rfl⟩))
  simp only [decide_eq_true hnm,Bool.not_true,aD,lf,lt,aQ,Nat.reduceAdd,Nat.reduceEqDiff,reduceIte]
  refine ak (dN h60 h20 ?_)
  rw [Gc hgo hnm]
  simp only [aQ,Nat.reduceAdd,Nat.reduceEqDiff,reduceIte,lt,AV.beq_refl,Bool.and_self,Bool.and_true,if_true,ct]
  by_cases har:ju rules.l f.name=f.t.l.length
  case neg=>
   simp only [decide_eq_false (show ¬ ((ju rules.l f.name:Nat):Int)=(f.t.l.length:Int) by omega),Bool.not_false,aC,l0,aQ,Nat.reduceAdd,Nat.reduceEqDiff,reduceIte,sA,oL,lA,oneOf]
   exact fin s 4 _ (.inr (.inl ⟨ho,.inr har,rfl,rfl⟩))
  simp only [decide_eq_true (show ((ju rules.l f.name:Nat):Int)=(f.t.l.length:Int) by omega),Bool.not_true,aD,l0,bindO_some]
  refine ak (bB hfew ho fun out hz hx=>?_)
  obtain ⟨L,hF,hd⟩:=hx
  obtain ⟨n,hn⟩:∃ n:Nat,s.size=(n:Int):=⟨s.size.toNat,by have:=(iJ.1 ho.valid).lo;omega⟩
  have hnn:s.size.toNat=n:=by omega
  have hall:∀ e,e=0∨e=6→∀ h',R (.ret (.tuple [.agg (aA out),.int .i64 e])) h'=true:=fun e he h'=>fin out e h' (.inr (.inr ⟨ho,hnm,har,he,hz,L,hF,hd⟩))
  rw [hnn] at hF hd
  have hvo:=xh ho hgo hn hz hd
  obtain ⟨hsm,hook⟩:=jZ hvo
  obtain ⟨H1,hs1,p1,po1,pn1⟩:=cL (h:=H) (zs:=[.int .i64 0,.nils]) (cs:=aA out) (n:=2) rfl rfl (cR out)
  have q1:H1.get 1=some (.cells (oB f)):=by rw [po1 1 (by omega)];exact g1
  have q2:H1.get 2=some (.cells [.int .i64 0,.nils]):=by rw [po1 2 (by omega)];exact g2
  have mf:ai none (.ptr 1 0) H1=some (.str f.name):=by rw [an q1];rfl
  have mt:ai none (.ptr 1 1) H1=some (aq encI 1 f.t):=by rw [an q1];rfl
  have mr:ai none (.ptr H.next 1) H1=some (aq bA 3 out.rels):=by rw [an p1];rfl
  have mo:ai (some 2) (.ptr H.next 0) H1=some (.agg (aA out)):=by rw [an p1,c8 (cs:=aA out) (n:=2) rfl]
  obtain ⟨hB,sB,lB⟩:=put out H1 q2
  obtain ⟨j,q,hj,hq,hqn,hqa⟩:=JO ho hd hnm
  have hjw:=Gp hvo hq
  rw [hqn] at hjw
  have hjl:=(List.getElem?_eq_some_iff.1 hq).1
  have hqm:=List.mem_of_getElem? hq
  simp only [aQ,Nat.reduceAdd,Nat.reduceEqDiff,reduceIte,hs1,mf,mt,mr,mo]
  refine ak (ey hook ?_)
  rw [hjw]
  simp only [aQ,Nat.reduceAdd,Nat.reduceEqDiff,reduceIte,mt,mr,AV.beq_refl,Bool.and_self,Bool.and_true,if_true,aS out.rels hjl,oz hq]
  refine ak (ez (by have:=hsm.tups q hqm;unfold cm;omega) (fun u hu=>by have:=hsm.tup q hqm u hu;unfold cm;omega) ?_)
  simp only [aQ,Nat.reduceAdd,Nat.reduceEqDiff,reduceIte]
  cases (q.tuples.l.map Sl.l).any fun u=>u==f.t.l with
  |false=>
   simp only [Bool.not_false,aC,mo,aQ,Nat.reduceAdd,Nat.reduceEqDiff,reduceIte,sB,oL,lB,oneOf]
   exact hall 6 (.inr rfl) _
  |true=>
   simp only [Bool.not_true,aD,mo,aQ,Nat.reduceAdd,Nat.reduceEqDiff,reduceIte,sB,oL,lB,oneOf]
   exact hall 0 (.inl rfl) _
 refine main.frozen (by simp [AV.pureL,AV.pure,bF dR,er,oB,bF iL]) fun o h' ho=>?_
 obtain ⟨st,e,rfl,hk⟩:=cw.1 ho
 exact ⟨_,_,rfl,.dD (by simp [AV.pureL,AV.pure,er]),hK st e hk⟩
end
end Go.AM
namespace Go.AM
open Go Go.Proofs
noncomputable section
theorem Gq(nm:bC)(t:Sl Int):kJ [.str [],.nils] [(0,1),(1,1)] [.str nm,aq encI 1 t]=some (.agg (oB ⟨nm,t⟩)):=by cases t<;>rfl
theorem JR{rs:List aB}{s:dw}{e:Int}(h:uv rs s e):e≠6:=by
 rcases h with ⟨_,rfl⟩|⟨_,_,⟨_,rfl⟩|⟨_,_,rfl⟩⟩<;>omega
set_option maxHeartbeats 2000000 in
theorem yZ{rules:Sl aB}{s:dw}{c:OZ}(hok:∀ r ∈ rules.l,r.ok)(hsok:s.ok)(hc:c.ok):Sem Tryz.prog 6 [aq aL 3 rules,.agg (aA s),.agg (ni c)] ag.empty E6:=by
 refine F.qu ?_
 rw [F.ri]
 simp only [cA (cR s),cA (JN c),bindO_some,bp,ag.next_alloc]
 have g0:((ag.alloc ag.empty (.cells (aA s))).alloc (.cells (ni c))).get 0=some (.cells (aA s)):=by simp [ag.aV,bp]
 have g1:((ag.alloc ag.empty (.cells (aA s))).alloc (.cells (ni c))).get 1=some (.cells (ni c)):=by simp [ag.aV,bp]
 have gn:((ag.alloc ag.empty (.cells (aA s))).alloc (.cells (ni c))).next=2:=rfl
 generalize ((ag.alloc ag.empty (.cells (aA s))).alloc (.cells (ni c)))=H at g0 g1 gn ⊢
 have l0:ai (some 2) (.ptr 0 0) H=some (.agg (aA s)):=by rw [an g0,c8 (cs:=aA s) (n:=2) rfl]
 have lt:ai none (.ptr 1 1) H=some (aq encI 1 c.t):=by rw [an g1];rfl
 have ln:ai none (.ptr 1 0) H=some (.str c.name):=by rw [an g1];rfl
 have lp:ai (some 3) (.ptr 1 2) H=some (.agg (cO c.proof)):=by rw [an g1,BH]
 have fin:∀ h':ag,ah Tryz.prog 12 [] h' (bJ (fun x h=>E6 (.ret x) h) fun v h=>E6 (.panic v) h)=true:=fun h'=>by
  refine ak (I0 ?_)
  simp only [aQ,Nat.reduceAdd,Nat.reduceEqDiff,reduceIte];rfl
 simp only [l0,bindO_some]
 refine ak (cJ hok hsok fun b hb=>?_)
 simp only [aQ,Nat.reduceAdd,Nat.reduceEqDiff,reduceIte]
 cases b with
 |false=>simp only [Bool.not_false,aC];exact fin _
 |true=>
 have hfew:=hb rfl
 simp only [Bool.not_true,aD,lt,ln,aQ,Nat.reduceAdd,Nat.reduceEqDiff,reduceIte]
 by_cases h60:(60:Int)<(c.t.l.length:Int)
 ·simp only [decide_eq_true h60,aC];exact fin _
 simp only [decide_eq_false h60,aD]
 by_cases h1000:(1000:Int)<(c.name.length:Int)
 ·simp only [decide_eq_true h1000,aC];exact fin _
 simp only [decide_eq_false h1000,aD,lp,bindO_some]
 refine ak (fG hc.proof (by omega) (by omega) fun r r0 r1=>?_)
 simp only [aQ,Nat.reduceAdd,Nat.reduceEqDiff,reduceIte]
 by_cases h400:(400:Int)<r
 ·simp only [decide_eq_true h400,aC];exact fin _
 simp only [decide_eq_false h400,aD,l0,ln,lt,lp,aQ,Nat.reduceAdd,Nat.reduceEqDiff,reduceIte]
 have askk:∀ (b:Bool) (st:dw) (e:Int),BI rules.l s ⟨c.name,c.t⟩ st e→((∃ e',uv rules.l s e'∧b=false)∨(fI rules.l s∧(b=true→∃ L,fW rules.l s.size.toNat s L)∧∀ L,fW rules.l s.size.toNat s L→b=nk s.size.toNat L rules.l (SizeOf.sizeOf c.proof) c.proof c.name c.t.l)) →
   (b=false∧e≠0∧e≠6)∨((e=0∨e=6)∧∀ (h:ag) (K:Out→ag→Bool),K (.ret (.bool b)) h=true→Sem Tryz.prog 26 [aq aL 3 rules,.agg (aA st),.str c.name,aq encI 1 c.t,.agg (cO c.proof)] h K):=by
  intro b st e hk hb
  rcases hk with ⟨he,rfl⟩|⟨ho,hno,rfl,rfl⟩|⟨ho,hnm,har,he,hz,L,hF,hd⟩
  ·refine .inl ⟨?_,(zA he).1,JR he⟩
   rcases hb with ⟨_,_,h⟩|⟨ho,_⟩
   ·exact h
   ·exact absurd ho (zA he).2
  ·refine .inl ⟨?_,by omega,by omega⟩
   rcases hb with ⟨_,_,h⟩|⟨_,h1,h2⟩
   ·exact h
   ·cases b with
    |false=>rfl
    |true=>
     obtain ⟨L,hF⟩:=h1 rfl
     obtain ⟨m,hgo⟩:=ho.good.go
     obtain ⟨hnm,_,_,r',hr',hrn',htl⟩:=Dk hF (h2 L hF).symm
     rcases hno with hno|hno
     ·exact absurd hnm hno
     ·exact absurd (show ju rules.l c.name=c.t.l.length by rw [htl,← Bx hgo hr',hrn']) hno
  ·refine .inr ⟨he,fun h K hK=>?_⟩
   obtain ⟨n,hn⟩:∃ n:Nat,s.size=(n:Int):=⟨s.size.toNat,by have:=(iJ.1 ho.valid).lo;omega⟩
   have hnn:s.size.toNat=n:=by omega
   have hbp:b=nk s.size.toNat L rules.l (SizeOf.sizeOf c.proof) c.proof c.name c.t.l:=by
    rcases hb with ⟨e',he',_⟩|⟨_,_,h2⟩
    ·exact absurd ho (zA he').2
    ·exact h2 L hF
   rw [hnn] at hF hd hbp
   obtain ⟨m,hgo⟩:=ho.good.go
   have n1:1≤n:=by have:=(iJ.1 ho.valid).lo;omega
   have hvo:=xh ho hgo hn hz hd
   refine Eu n1 ho.good.kH hfew (fun r hr=>(fU hgo r hr).2.2) (jZ hvo).2 hvo (by rw [hz,hn]) (fun r hr=>N8 ho hgo hn hvo hz (En hd) hr) (fun r hr=>lF (fU hgo r hr).1) hc.proof ?_
   rw [JM (JP ho hgo hn hz hF hd),← hbp]
   exact hK
 refine ak (Gm hok hfew hsok hc.proof (fun e he=>?_) fun ho b h1 h2=>?_)
 ·have hb:((∃ e',uv rules.l s e'∧false=false)∨(fI rules.l s∧(false=true→∃ L,fW rules.l s.size.toNat s L)∧∀ L,fW rules.l s.size.toNat s L→false=nk s.size.toNat L rules.l (SizeOf.sizeOf c.proof) c.proof c.name c.t.l)):=.inl ⟨e,he,rfl⟩
  simp only [aQ,Nat.reduceAdd,Nat.reduceEqDiff,reduceIte,l0,ln,lt,Gq]
  refine ak (yg (f:=⟨c.name,c.t⟩) hok hfew hsok fun st e hk=>?_)
  obtain ⟨H1,hs1,p1,po1,pn1⟩:=cL (h:=H) (zs:=[.int .i64 0,.nils]) (cs:=aA st) (n:=2) rfl rfl (cR st)
  have q1:H1.get 1=some (.cells (ni c)):=by rw [po1 1 (by omega)];exact g1
  have mt:ai none (.ptr 1 1) H1=some (aq encI 1 c.t):=by rw [an q1];rfl
  have mn:ai none (.ptr 1 0) H1=some (.str c.name):=by rw [an q1];rfl
  have mp:ai (some 3) (.ptr 1 2) H1=some (.agg (cO c.proof)):=by rw [an q1,BH]
  have mo:ai (some 2) (.ptr H.next 0) H1=some (.agg (aA st)):=by rw [an p1,c8 (cs:=aA st) (n:=2) rfl]
  simp only [aQ,Nat.reduceAdd,Nat.reduceEqDiff,reduceIte,hs1,ct]
  rcases askk false st e hk hb with ⟨_,e0,e6⟩|⟨he,hpv⟩
  ·simp only [decide_eq_false e0,decide_eq_false e6,Bool.not_false,aC]
   exact fin _
  ·rcases he with rfl|rfl
   ·simp only [decide_true,Bool.not_true,aD,mo,mn,mt,mp,aQ,Nat.reduceAdd,Nat.reduceEqDiff,reduceIte]
    refine ak (hpv _ _ ?_)
    simp only [aQ,Nat.reduceAdd,Nat.reduceEqDiff,reduceIte,beq_self_eq_true,aC]
    exact fin _
   ·simp only [show decide ((6:Int)=0)=false from rfl,decide_true,Bool.not_true,Bool.not_false,aC,aD,mo,mn,mt,mp,aQ,Nat.reduceAdd,Nat.reduceEqDiff,reduceIte]
    refine ak (hpv _ _ ?_)
    simp only [aQ,Nat.reduceAdd,Nat.reduceEqDiff,reduceIte,beq_self_eq_true,aC]
    exact fin _
 ·have hb:((∃ e',uv rules.l s e'∧b=false)∨(fI rules.l s∧(b=true→∃ L,fW rules.l s.size.toNat s L)∧∀ L,fW rules.l s.size.toNat s L→b=nk s.size.toNat L rules.l (SizeOf.sizeOf c.proof) c.proof c.name c.t.l)):=.inr ⟨ho,h1,h2⟩
  simp only [aQ,Nat.reduceAdd,Nat.reduceEqDiff,reduceIte,l0,ln,lt,Gq]
  refine ak (yg (f:=⟨c.name,c.t⟩) hok hfew hsok fun st e hk=>?_)
  obtain ⟨H1,hs1,p1,po1,pn1⟩:=cL (h:=H) (zs:=[.int .i64 0,.nils]) (cs:=aA st) (n:=2) rfl rfl (cR st)
  have q1:H1.get 1=some (.cells (ni c)):=by rw [po1 1 (by omega)];exact g1
  have mt:ai none (.ptr 1 1) H1=some (aq encI 1 c.t):=by rw [an q1];rfl
  have mn:ai none (.ptr 1 0) H1=some (.str c.name):=by rw [an q1];rfl
  have mp:ai (some 3) (.ptr 1 2) H1=some (.agg (cO c.proof)):=by rw [an q1,BH]
  have mo:ai (some 2) (.ptr H.next 0) H1=some (.agg (aA st)):=by rw [an p1,c8 (cs:=aA st) (n:=2) rfl]
  simp only [aQ,Nat.reduceAdd,Nat.reduceEqDiff,reduceIte,hs1,ct]
  rcases askk b st e hk hb with ⟨rfl,e0,e6⟩|⟨he,hpv⟩
  ·simp only [decide_eq_false e0,decide_eq_false e6,Bool.not_false,aC]
   exact fin _
  ·rcases he with rfl|rfl
   ·simp only [decide_true,Bool.not_true,aD,mo,mn,mt,mp,aQ,Nat.reduceAdd,Nat.reduceEqDiff,reduceIte]
    refine ak (hpv _ _ ?_)
    simp only [aQ,Nat.reduceAdd,Nat.reduceEqDiff,reduceIte,beq_self_eq_true,aC]
    exact fin _
   ·simp only [show decide ((6:Int)=0)=false from rfl,decide_true,Bool.not_true,Bool.not_false,aC,aD,mo,mn,mt,mp,aQ,Nat.reduceAdd,Nat.reduceEqDiff,reduceIte]
    refine ak (hpv _ _ ?_)
    simp only [aQ,Nat.reduceAdd,Nat.reduceEqDiff,reduceIte,beq_self_eq_true,aC]
    exact fin _
end
end Go.AM