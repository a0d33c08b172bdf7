/- Parts of a proof, merged out of smaller texts: the abstract machine and what functions do. Conditions: none. -/
import Derived.Test.YtmkffehchicgaaaGreatLe12
import Derived.Test.YtmkffehchicgaaaGreatLe20
import Derived.Test.YtmkffehchicgaaaGreatLe21
import Derived.Test.YtmkffehchicgaaaGreatLe22
import Derived.Test.YtmkffehchicgaaaGreatLe23
import Derived.Test.YtmkffehchicgaaaGreatLe24
set_option linter.unusedSimpArgs false
set_option linter.unusedVariables false
namespace Go.AM
open Go Go.Proofs
noncomputable section
theorem G2{a b:Nat}(hb:0<b)(ha:a≤cz):aA .quo (.int .i64 (a:Int)) (.int .i64 (b:Int))=some (.int .i64 ((a/b:Nat):Int)):=by
 have h:¬ (b:Int)=0:=by omega
 simp only [aA,if_true,if_neg h]
 have e:((a:Int).tdiv (b:Int))=((a/b:Nat):Int):=by rw [Int.tdiv_eq_ediv_of_nonneg (by omega)];rfl
 have:a/b≤a:=Nat.div_le_self _ _
 unfold cz at ha
 rw [e]
 generalize a/b=q at this
 rw [IntWalk.i64_in _ (by omega)]
theorem EU{α:Type}{enc:α→List AV}{sz:Nat}(he:∀ a,(enc a).length=sz){l:List α}{i:Nat}{a:α}(ha:l[i]?=some a){k n:Nat}(hk:k+n≤sz){h:ag} :
  ai (some n) (.iptr (l.flatMap enc) (i*sz+k)) h=some (.agg (((enc a).drop k).take n)):=by
 have hi:i<l.length:=(List.getElem?_eq_some_iff.1 ha).1
 have hle:i*sz+sz≤(l.flatMap enc).length:=by
  rw [gq he]
  have:(i+1)*sz≤l.length*sz:=Nat.mul_le_mul_right _ hi
  rw [Nat.add_mul] at this;omega
 show ij (some n) _ _=_
 simp only [ij]
 rw [if_pos (by omega),← lJ he l i a ha,List.drop_take,List.take_take,List.drop_drop,Nat.min_eq_left (by omega)]
theorem eH{nm:bI}{xs:Sl bI}(h1:nm.length≤cz)(h2:xs.l.length≤cz)(h3:∀ s ∈ xs.l,s.length≤cz){h:ag}{K:Out→ag→Bool}
  (hK:∀ n:Int,(xs.l.length:Int)≤n→n≤5000000000000000000→K (.ret (.int .i64 n)) h=true):Sem Tryz.prog 82 [.agg [.str nm,an encS 1 xs]] h K:=by
 have hbb:cz=4611686018427387904:=rfl
 have gen:∀ R:Out→ag→Bool,(∀ (n:Int) h',(xs.l.length:Int)≤n→n≤5000000000000000000→R (.ret (.int .i64 n)) h'=true)→Sem Tryz.prog 82 [.agg [.str nm,an encS 1 xs]] ag.empty R:=by
  intro R fin
  refine F.zo ?_
  have g0:(ag.alloc ag.empty (.cells (gK nm xs))).get 0=some (.cells (gK nm xs)):=aC _ _
  have hb:cK (.agg [.str nm,an encS 1 xs])=some (gK nm xs):=cY (vH nm xs)
  simp only [hb,bindO_some,bG]
  generalize (ag.alloc ag.empty (.cells (gK nm xs)))=H at g0 ⊢
  have hq:=G2 (a:=nm.length) (b:=20) (by omega) h1
  have hq':aA .quo (.int .i64 (nm.length:Int)) (.int .i64 20)=some (.int .i64 ((nm.length/20:Nat):Int)):=hq
  have hdl:nm.length/20≤240000000000000000:=by omega
  have hadd:=g8 (a:=(xs.l.length:Int)) (b:=((nm.length/20:Nat):Int)) (by omega) (by omega)
  simp only [aV,Nat.reduceAdd,Nat.reduceEqDiff,reduceIte,au g0,gK,hq',hadd]
  generalize hs0:(xs.l.length:Int)+((nm.length/20:Nat):Int)=s0
  refine aB 0 xs.l.length (Nat.zero_le _) (fun i e h'=>h'=H∧e 1 = .ptr 0 0∧e 4 = .int .i64 (i:Int)∧∃ n:Int,e 3 = .int .i64 n∧(xs.l.length:Int)≤n∧n≤5000000000000000000) ⟨rfl,rfl,rfl,s0,rfl,by omega,by omega⟩ ?_ ?_
  ·rintro i e h' _ hi ⟨rfl,e1,e4,n,e3,n1,n2⟩ K' hn hx hr hp
   have hv:xs.l[i]?=some xs.l[i]:=List.getElem?_eq_getElem hi
   generalize xs.l[i]=t at hv
   have ht:=h3 t (List.mem_of_getElem? hv)
   have hqt:aA .quo (.int .i64 (t.length:Int)) (.int .i64 20)=some (.int .i64 ((t.length/20:Nat):Int)):=G2 (a:=t.length) (b:=20) (by omega) ht
   have hdt:t.length/20≤240000000000000000:=by omega
   rw [F.eH.aN]
   simp only [e1,e3,e4,aV,Nat.reduceAdd,Nat.reduceEqDiff,reduceIte,au g0,gK,aY hi]
   by_cases hsm:n<10000
   ·have hadd2:=g8 (a:=n) (b:=((t.length/20:Nat):Int)) (by omega) (by omega)
    simp only [decide_eq_true hsm,aI,e1,e4,aV,Nat.reduceAdd,Nat.reduceEqDiff,reduceIte,au g0,gK,aP xs hi,fW hv,hqt,hadd2,aE hi h2]
    exact hn _ _ ⟨rfl,e1,rfl,_,rfl,by omega,by omega⟩
   ·simp only [decide_eq_false hsm,aG]
    rw [hx,F.eH.aD]
    simp only [bu,Nat.reduceEqDiff,reduceIte,e3]
    exact fin n _ n1 n2
  ·rintro e h' ⟨rfl,e1,e4,n,e3,n1,n2⟩ K' hx
   rw [F.eH.aN]
   simp only [e1,e4,aV,Nat.reduceAdd,Nat.reduceEqDiff,reduceIte,au g0,gK,aR]
   rw [hx,F.eH.aD]
   simp only [bu,Nat.reduceEqDiff,reduceIte,e3]
   exact fin n _ n1 n2
 have main:=gen (fun o h'=>yes (∃ n:Int,o = .ret (.int .i64 n)∧(xs.l.length:Int)≤n∧n≤5000000000000000000)) (fun n h' q1 q2=>cw.2 ⟨n,rfl,q1,q2⟩)
 refine main.frozen (by simp [AV.pureL,AV.pure,bE gj]) fun o h' ho=>?_
 obtain ⟨n,rfl,q1,q2⟩:=cw.1 ho
 exact ⟨_,_,rfl,.scalar _ rfl,hK n q1 q2⟩
end
end Go.AM
namespace Go.AM
open Go Go.Proofs
noncomputable section
set_option maxHeartbeats 1000000 in
theorem Gj{N:Int}(hN:N≤1500){rules:Sl aK}(hok:∀ r ∈ rules.l,r.ok){h:ag}{K:Out→ag→Bool}(hK:∀ b:Bool,(b=true→∀ r ∈ rules.l,r.kX)→K (.ret (.bool b)) h=true):Sem Tryz.prog 29 [an aM 3 rules,.int .i64 N] h K:=by
 have gen:∀ R:Out→ag→Bool,(∀ (b:Bool) h',(b=true→∀ r ∈ rules.l,r.kX)→R (.ret (.bool b)) h'=true)→Sem Tryz.prog 29 [an aM 3 rules,.int .i64 N] ag.empty R:=by
  intro R fin
  refine F.AS ?_
  simp only [aV,Nat.reduceAdd,Nat.reduceEqDiff,reduceIte]
  by_cases h71:70<rules.l.length
  ·simp only [decide_eq_true (by omega:(70:Int)<(rules.l.length:Int)),aI]
   exact fin false _ (fun h=>by cases h)
  have hbig:rules.l.length≤cz:=by unfold cz;omega
  simp only [decide_eq_false (by omega:¬ (70:Int)<(rules.l.length:Int)),aG]
  refine aB 0 rules.l.length (Nat.zero_le _) (fun i e h'=>e 0=an aM 3 rules∧e 1 = .int .i64 N∧e 6 = .int .i64 (i:Int)∧∃ s:Int,e 5 = .int .i64 s∧0≤s∧s≤6000000000000000000∧(s≤N→∀ r ∈ rules.l.take i,r.kX)) ⟨rfl,rfl,rfl,0,rfl,by omega,by omega,fun _ r hr=>by simp at hr⟩ ?_ ?_
  ·rintro i e h' _ hi ⟨e0,e1,e6,s,e5,s0,s1,hs⟩ K' hn hx hr hp
   have hv:rules.l[i]?=some rules.l[i]:=List.getElem?_eq_getElem hi
   generalize rules.l[i]=r at hv
   have hrok:=hok r (List.mem_of_getElem? hv)
   have hbb:=hrok.2.2.2.1
   have ld:∀ j,j<3→∀ h,ai none (.iptr (rules.l.flatMap aM) (i*3+j)) h=(aM r)[j]?:=fun j hj h=>eZ fe hv hj
   have lh:∀ h,ai (some 2) (.iptr (rules.l.flatMap aM) (i*3)) h=some (.agg [.str r.name,an encS 1 r.args]):=fun h=>EU (k:=0) (n:=2) fe hv (by omega)
   rw [F.dg.aN]
   simp only [e0,e1,e5,e6,aV,Nat.reduceAdd,Nat.reduceEqDiff,reduceIte,aY hi]
   by_cases hle:s≤N
   ·have had1:=g8 (a:=s) (b:=1) (by omega) (by omega)
    simp only [decide_eq_true hle,aI,had1,e0,e6,aV,Nat.reduceAdd,Nat.reduceEqDiff,reduceIte,aP rules hi,lh]
    refine ak (eH hrok.1 hrok.2.1 hrok.2.2.1 fun n n1 n2=>?_)
    have had2:=g8 (a:=s+1) (b:=n) (by omega) (by omega)
    simp only [aV,Nat.reduceAdd,Nat.reduceEqDiff,reduceIte,had2]
    refine aB 0 r.body.l.length (Nat.zero_le _) (fun j e h'=>e 0=an aM 3 rules∧e 1 = .int .i64 N∧e 6 = .int .i64 (i:Int)∧e 7 = .int .i64 (j:Int)∧∃ s:Int,e 5 = .int .i64 s∧0≤s∧s≤6000000000000000000 ∧
     (s≤N→(∀ r ∈ rules.l.take i,r.kX)∧r.args.l.length≤1500∧(j:Int)≤s∧∀ c ∈ r.body.l.take j,c.args.l.length≤1500)) ⟨e0,e1,e6,rfl,s+1+n,rfl,by omega,by omega,fun h=>⟨hs hle,by omega,by omega,fun c hc=>by simp at hc⟩⟩ ?_ ?_
    ·rintro j e h' _ hj ⟨e0,e1,e6,e7,s,e5,s0,s1,hs⟩ K2 hn2 hx2 hr2 hp2
     have hc:r.body.l[j]?=some r.body.l[j]:=List.getElem?_eq_getElem hj
     generalize r.body.l[j]=c at hc
     have hcok:=hrok.2.2.2.2 c (List.mem_of_getElem? hc)
     have lc:∀ h,ai (some 2) (.iptr (r.body.l.flatMap b6) (j*4+2)) h=some (.agg [.str c.name,an encS 1 c.args]):=fun h=>EU (k:=2) (n:=2) gL hc (by omega)
     rw [F.dg.cP]
     simp only [e0,e1,e5,e6,e7,aV,Nat.reduceAdd,Nat.reduceEqDiff,reduceIte,aP rules hi,ld 2 (by omega),aM,aY hj]
     by_cases hle:s≤N
     ·have had1:=g8 (a:=s) (b:=1) (by omega) (by omega)
      simp only [decide_eq_true hle,aI,had1,e0,e6,e7,aV,Nat.reduceAdd,Nat.reduceEqDiff,reduceIte,aP rules hi,ld 2 (by omega),aM,aP r.body hj,lc]
      refine ak (eH hcok.1 hcok.2.1 hcok.2.2 fun n n1 n2=>?_)
      have had2:=g8 (a:=s+1) (b:=n) (by omega) (by omega)
      simp only [aV,Nat.reduceAdd,Nat.reduceEqDiff,reduceIte,had2,aE hj hbb]
      refine hn2 _ _ ⟨e0,e1,e6,rfl,s+1+n,rfl,by omega,by omega,fun h=>?_⟩
      obtain ⟨q1,q2,q3,q4⟩:=hs hle
      refine ⟨q1,q2,by omega,fun d hd=>?_⟩
      rw [List.take_add_one,hc] at hd
      rcases List.mem_append.1 hd with hd|hd
      ·exact q4 d hd
      ·simp only [Option.toList_some,List.mem_singleton] at hd;subst hd;omega
     ·simp only [decide_eq_false hle,aG]
      rw [hx2,F.dg.b8]
      simp only [aV,Nat.reduceAdd,Nat.reduceEqDiff,reduceIte,e6,aE hi hbig]
      exact hn _ _ ⟨e0,e1,rfl,s,e5,s0,s1,fun h=>absurd h hle⟩
    ·rintro e h' ⟨e0,e1,e6,e7,s,e5,s0,s1,hs⟩ K2 hx2
     rw [F.dg.cP]
     simp only [e0,e6,e7,aV,Nat.reduceAdd,Nat.reduceEqDiff,reduceIte,aP rules hi,ld 2 (by omega),aM,aR]
     rw [hx2,F.dg.b8]
     simp only [aV,Nat.reduceAdd,Nat.reduceEqDiff,reduceIte,e6,aE hi hbig]
     refine hn _ _ ⟨e0,e1,rfl,s,e5,s0,s1,fun h=>?_⟩
     obtain ⟨q1,q2,q3,q4⟩:=hs h
     rw [List.take_of_length_le (Nat.le_refl _)] at q4
     intro q hq
     rw [List.take_add_one,hv] at hq
     rcases List.mem_append.1 hq with hq|hq
     ·exact q1 q hq
     ·simp only [Option.toList_some,List.mem_singleton] at hq;subst hq;exact ⟨q2,by omega,q4⟩
   ·simp only [decide_eq_false hle,aG]
    rw [hx,F.dg.aD]
    simp only [aV,Nat.reduceAdd,Nat.reduceEqDiff,reduceIte,e1,e5]
    exact fin _ _ (fun h=>absurd (of_decide_eq_true h) hle)
  ·rintro e h' ⟨e0,e1,e6,s,e5,s0,s1,hs⟩ K' hx
   rw [List.take_of_length_le (Nat.le_refl _)] at hs
   rw [F.dg.aN]
   simp only [e0,e6,aV,Nat.reduceAdd,Nat.reduceEqDiff,reduceIte,aR]
   rw [hx,F.dg.aD]
   simp only [aV,Nat.reduceAdd,Nat.reduceEqDiff,reduceIte,e1,e5]
   exact fin _ _ (fun h=>hs (of_decide_eq_true h))
 have main:=gen (fun o h'=>yes (∃ b:Bool,o = .ret (.bool b)∧(b=true→∀ r ∈ rules.l,r.kX))) (fun b h' hb=>cw.2 ⟨b,rfl,hb⟩)
 refine main.frozen (by simp [AV.pureL,AV.pure,bE ef]) fun o h' ho=>?_
 obtain ⟨b,rfl,hb⟩:=cw.1 ho
 exact ⟨_,_,rfl,.scalar _ rfl,hK b hb⟩
end
end Go.AM
namespace Go.AM
open Go Go.Proofs
noncomputable section
theorem J3(s:dJ):eF [.int .i64 0,.nils] [(0,2)] [.agg (az s)]=some (az s):=by
 obtain ⟨z,r⟩:=s
 cases r<;>rfl
theorem cD{rules:Sl aK}{s:dJ}{N:Int}(hok:∀ r ∈ rules.l,r.ok)(hsok:s.ok){h:ag}{K:Out→ag→Bool}(hK:∀ b:Bool,(b=true→∀ r ∈ rules.l,r.kX)→K (.ret (.bool b)) h=true) :
  Sem Tryz.prog 11 [an aM 3 rules,.agg (az s),.int .i64 N] h K:=by
 have gen:∀ R:Out→ag→Bool,(∀ (b:Bool) h',(b=true→∀ r ∈ rules.l,r.kX)→R (.ret (.bool b)) h'=true)→Sem Tryz.prog 11 [an aM 3 rules,.agg (az s),.int .i64 N] ag.empty R:=by
  intro R fin
  refine F.xO ?_
  simp only [cY (dw s),bindO_some,bG]
  have g0:(ag.empty.alloc (.cells (az s))).get 0=some (.cells (az s)):=aC _ _
  have gn:(ag.empty.alloc (.cells (az s))).next=1:=rfl
  generalize (ag.empty.alloc (.cells (az s)))=H at g0 gn ⊢
  refine ak (Gj (by omega) hok fun b hb=>?_)
  simp only [aV,Nat.reduceAdd,Nat.reduceEqDiff,reduceIte]
  cases b with
  |false=>
   simp only [Bool.not_false,aI]
   exact fin false _ (fun h=>by cases h)
  |true=>
  have hfew:=hb rfl
  have l0:ai (some 2) (.ptr 0 0) H=some (.agg (az s)):=by rw [au g0,dA (cs:=az s) (n:=2) rfl]
  have g1:(H.alloc (.cells (az s))).get H.next=some (.cells (az s)):=aC _ _
  have g0':(H.alloc (.cells (az s))).get 0=some (.cells (az s)):=by rw [ag.aW,if_neg (by omega)];exact g0
  simp only [Bool.not_true,aG,l0,bindO_some,J3]
  generalize (H.alloc (.cells (az s)))=H2 at g1 g0' ⊢
  refine ak (bX hsok g1 fun b=>?_)
  simp only [aV,Nat.reduceAdd,Nat.reduceEqDiff,reduceIte]
  cases b with
  |false=>
   simp only [Bool.not_false,aI]
   exact fin false _ (fun h=>by cases h)
  |true=>
  have l0':ai (some 2) (.ptr 0 0) H2=some (.agg (az s)):=by rw [au g0',dA (cs:=az s) (n:=2) rfl]
  simp only [Bool.not_true,aG,l0',bindO_some]
  refine ak (bC hok hfew hsok (fun e he=>?_) fun ho=>?_)
  ·have hne:e≠0:=by
    rcases he with ⟨_,rfl⟩|⟨_,_,⟨_,rfl⟩|⟨_,_,rfl⟩⟩<;>omega
   simp only [aV,Nat.reduceAdd,Nat.reduceEqDiff,reduceIte,cQ,decide_eq_false hne,Bool.not_false,aI]
   exact fin true _ (fun _=>hfew)
  ·obtain ⟨n,hn,n1,n64,h8⟩:=nK ho.valid
   have hnn:s.size.toNat=n:=by omega
   have hrb:rules.l.length≤cz:=by have:=ho.good.kX;unfold cz;omega
   have hpw:∀ r ∈ rules.l,n ^ (varsOf r).length≤65536:=fun r hr=>Nat.le_of_not_lt fun h=>ho.sizes (.inr (.inr ⟨r,hr,by rw [hnn];exact h⟩))
   simp only [aV,Nat.reduceAdd,Nat.reduceEqDiff,reduceIte,cQ,decide_true,Bool.not_true,aG]
   refine aB 0 rules.l.length (Nat.zero_le _) (fun i e h'=>h'=H2∧∃ q:Nat,q≤i*65536∧e 0=an aM 3 rules∧e 2 = .int .i64 N∧e 4 = .ptr 0 0∧e 7 = .int .i64 (q:Int)∧e 8 = .int .i64 (i:Int)) ⟨rfl,0,by omega,rfl,rfl,rfl,rfl,rfl⟩ ?_ ?_
   ·rintro i e h' _ hi ⟨rfl,q,hq,e0,e2,e4,e7,e8⟩ K' hn' hx hr hp
    have hv:rules.l[i]?=some rules.l[i]:=List.getElem?_eq_getElem hi
    generalize rules.l[i]=r at hv
    have hrm:=List.mem_of_getElem? hv
    have hr65:=hpw r hrm
    have h60:=ho.good.kX
    obtain ⟨m,hgo⟩:=ho.good.go
    have hr12:=(g9 hgo r hrm).2.2
    have hvb:(varsOf r).length≤cz:=by unfold cz;omega
    have lz:ai none (.ptr 0 0) h'=some (.int .i64 (n:Int)):=by rw [au g0',← hn];rfl
    rw [F.cD.aN]
    simp only [e0,e8,aV,Nat.reduceAdd,Nat.reduceEqDiff,reduceIte,aY hi]
    refine aB 0 (varsOf r).length (Nat.zero_le _) (fun j e h2=>h2=h'∧e 0=an aM 3 rules∧e 2 = .int .i64 N∧e 4 = .ptr 0 0∧e 7 = .int .i64 (q:Int)∧e 8 = .int .i64 (i:Int)∧e 9 = .int .i64 ((n ^ j:Nat):Int)∧e 10 = .int .i64 (j:Int)) ⟨rfl,e0,e2,e4,e7,e8,rfl,rfl⟩ ?_ ?_
    ·rintro j e h2 _ hj ⟨rfl,e0,e2,e4,e7,e8,e9,e10⟩ K2 hnn2 hx2 hr2 hp2
     have hps:n ^ (j+1)=n ^ j*n:=Nat.pow_succ n j
     have hle:=tr n1 (show j+1≤(varsOf r).length by omega)
     have hm:((n ^ j:Nat):Int)*(n:Int)=((n ^ (j+1):Nat):Int):=by rw [hps,Int.natCast_mul]
     have hmm:aA .mul (.int .i64 ((n ^ j:Nat):Int)) (.int .i64 (n:Int))=some (.int .i64 ((n ^ (j+1):Nat):Int)):=by rw [ri (by rw [hm];omega) (by rw [hm];omega),hm]
     rw [F.cD.cP]
     simp only [e0,e8,aV,Nat.reduceAdd,Nat.reduceEqDiff,reduceIte,aP rules hi,dQ fe hv]
     simp only [aM]
     refine ak (bF (hfew r hrm) fun x hx1=>?_)
     simp only [aV,Nat.reduceAdd,Nat.reduceEqDiff,reduceIte,hx1,e4,e9,e10,aY hj,aI,lz,hmm,aE hj hvb]
     exact hnn2 _ _ ⟨rfl,e0,e2,e4,e7,e8,rfl,rfl⟩
    ·rintro e h2 ⟨rfl,e0,e2,e4,e7,e8,e9,e10⟩ K2 hx2
     have hadd:aA .add (.int .i64 (q:Int)) (.int .i64 ((n ^ (varsOf r).length:Nat):Int))=some (.int .i64 ((q+n ^ (varsOf r).length:Nat):Int)):=by
      rw [g8 (by omega) (by omega)];rfl
     rw [F.cD.cP]
     simp only [e0,e8,aV,Nat.reduceAdd,Nat.reduceEqDiff,reduceIte,aP rules hi,dQ fe hv]
     simp only [aM]
     refine ak (bF (hfew r hrm) fun x hx1=>?_)
     simp only [aV,Nat.reduceAdd,Nat.reduceEqDiff,reduceIte,hx1,e10,aR,aG]
     rw [hx2,F.cD.b8]
     simp only [aV,Nat.reduceAdd,Nat.reduceEqDiff,reduceIte,e7,e8,e9,hadd,aE hi hrb]
     exact hn' _ _ ⟨rfl,q+n ^ (varsOf r).length,by rw [Nat.succ_mul];omega,e0,e2,e4,rfl,rfl⟩
   ·rintro e h' ⟨rfl,q,hq,e0,e2,e4,e7,e8⟩ K' hx
    rw [F.cD.aN]
    simp only [e0,e8,aV,Nat.reduceAdd,Nat.reduceEqDiff,reduceIte,aR]
    rw [hx,F.cD.aD]
    simp only [aV,Nat.reduceAdd,Nat.reduceEqDiff,reduceIte,e2,e7]
    exact fin _ _ (fun _=>hfew)
 have main:=gen (fun o h'=>yes (∃ b:Bool,o = .ret (.bool b)∧(b=true→∀ r ∈ rules.l,r.kX))) (fun b h' hb=>cw.2 ⟨b,rfl,hb⟩)
 refine main.frozen (by simp [AV.pureL,AV.pure,bE ef,eT]) fun o h' ho=>?_
 obtain ⟨b,rfl,hb⟩:=cw.1 ho
 exact ⟨_,_,rfl,.scalar _ rfl,hK b hb⟩
theorem G3{rs:List aK}{s:dJ}{e:Int}(h:Bj rs s e):e≠0∧¬ j5 rs s:=by
 rcases h with ⟨a,rfl⟩|⟨g,v,⟨a,rfl⟩|⟨a,b,rfl⟩⟩
 ·exact ⟨by omega,fun h=>a.elim (fun h'=>h' h.good) fun h'=>by rw [h.valid] at h';cases h'⟩
 ·exact ⟨by omega,fun h=>h.names a⟩
 ·exact ⟨by omega,fun h=>h.sizes b⟩
end
end Go.AM
namespace Go.AM
open Go Go.Proofs
noncomputable section
def cut(L:Lk)(nm:bI)(k0:Nat):Lk:=fun x k=>L x k&&!(decide (x=nm)&&decide (k=k0))
theorem Nu{L:Lk}{nm x:bI}{k0 k:Nat}(h:cut L nm k0 x k=true):L x k=true:=by
 unfold cut at h;simp only [Bool.and_eq_true] at h;exact h.1
theorem tC{L:Lk}{nm x:bI}{k0 k:Nat}(h:x≠nm):cut L nm k0 x k=L x k:=by unfold cut;rw [decide_eq_false h];simp
theorem Nv{L:Lk}{nm:bI}{k0:Nat}:cut L nm k0 nm k0=false:=by unfold cut;simp
theorem G4{L:Lk}{nm:bI}{k0 k:Nat}:cut L nm k0 nm k=true↔L nm k=true∧k≠k0:=by unfold cut;simp
theorem EV{n:Nat}{L:Lk}{nm:bI}{q0:Nat}{r:aK}(hc:∀ c ∈ r.body.l,c.kind=0→c.neg=true→c.name≠nm){vs:List Int}(h:j4 n (cut L nm q0) r vs=true):j4 n L r vs=true:=by
 unfold j4 at h ⊢
 rw [List.all_eq_true] at h ⊢
 intro c hcm
 have h1:=h c hcm
 unfold dD at h1 ⊢
 by_cases k0:c.kind=0
 ·rw [if_pos k0] at h1 ⊢
  cases hn:c.neg with
  |true=>rw [tC (hc c hcm k0 hn)] at h1;rw [hn] at h1;exact h1
  |false=>
   rw [hn] at h1
   have h2:cut L nm q0 c.name (gy n (bw vs (bz r c)))=true:=by simpa using h1
   rw [Nu h2];rfl
 ·rw [if_neg k0] at h1 ⊢;exact h1
theorem iw.fresh{n:Nat}{rs:List aK}{lv:Lev.Lv}{L0:Lk}{nm:bI}{l:Nat}{A:Lk}(h:iw n rs lv L0 l A)(hn:l≤lv nm)(k:Nat):A nm k=L0 nm k:=by
 induction h with
 |zero=>rfl
 |succ l L L' hg lg ih=>
  rw [← ih (by omega)]
  refine lg.over.off nm (fun r hr e=>?_) k
  have h2:=(iX.1 hr).2
  rw [e] at h2;omega
theorem EW{n:Nat}{A B:Lk}{r:aK}{vs:List Int}(h:∀ c ∈ r.body.l,c.kind=0→A c.name (gy n (bw vs (bz r c)))=B c.name (gy n (bw vs (bz r c)))):j4 n A r vs=j4 n B r vs:=by
 unfold j4
 have key:∀ c ∈ r.body.l,dD n A c (bw vs (bz r c))=dD n B c (bw vs (bz r c)):=fun c hc=>by
  unfold dD
  by_cases k0:c.kind=0
  ·rw [if_pos k0,if_pos k0,h c hc k0]
  ·rw [if_neg k0,if_neg k0]
 rw [Bool.eq_iff_iff,List.all_eq_true,List.all_eq_true]
 exact ⟨fun h1 c hc=>by rw [← key c hc];exact h1 c hc,fun h1 c hc=>by rw [key c hc];exact h1 c hc⟩
theorem Iu{n:Nat}{rs:List aK}{lv:Lev.Lv}{L0:Lk}(hlv:Ao rs lv){t:Nat}{B:Lk}(g:iw n rs lv L0 t B)(ht:∀ r ∈ rs,lv r.name<t){nm:bI}{k0:Nat}(hnm:∃ r ∈ rs,r.name=nm)(h0:∀ k,L0 nm k=false) :
  (∃ r ∈ rs,r.name=nm∧∃ vs,Am n r vs∧uF n r vs=k0∧j4 n (cut B nm k0) r vs=true)↔B nm k0=true:=by
 have hneg:∀ r ∈ rs,r.name=nm→∀ c ∈ r.body.l,c.kind=0→c.neg=true→c.name≠nm:=fun r hr hrn c hc hk hn e=>by
  have:=hlv r hr c hc hk ⟨r,hr,by rw [hrn,e]⟩
  rw [hn,if_pos rfl,e,hrn] at this
  omega
 constructor
 ·rintro ⟨r,hr,hrn,vs,ha,hk,happ⟩
  have:=g.closed hlv ht r hr vs ha (EV (hneg r hr hrn) happ)
  rwa [hrn,hk] at this
 ·intro hB
  obtain ⟨q,hq,hqn⟩:=hnm
  have hlt:lv nm+1≤t:=by have:=ht q hq;rw [hqn] at this;omega
  obtain ⟨A,hA⟩:=g.split (lv nm+1) hlt
  have hAB:∀ x,((∀ r ∈ rs,r.name≠x)∨lv x<lv nm+1)→∀ k,B x k=A x k:=fun x hx=>hA.rest g hlt hx
  have hA0:A nm k0=true:=by rw [← hAB nm (.inr (by omega))];exact hB
  cases hA with
  |succ _ L _ hg lg=>
   refine Classical.byContradiction fun hno=>?_
   have hle:∀ r ∈ rs,lv r.name=lv nm→∀ c ∈ r.body.l,c.kind=0→(∀ q ∈ rs,q.name≠c.name)∨lv c.name<lv nm+1:=fun r hr hl c hc hk=>by
    by_cases hd:∃ q ∈ rs,q.name=c.name
    ·exact .inr (by have:=hlv r hr c hc hk hd;omega)
    ·exact .inl fun q hq e=>hd ⟨q,hq,e⟩
   have hC:cut A nm k0 nm k0=true:=by
    refine lg.least (cut A nm k0) ⟨fun x k hx=>?_,fun x hx k=>?_⟩ ?_ nm k0 hA0
    ·by_cases hxn:x=nm
     ·subst hxn
      rw [hg.fresh (Nat.le_refl _),h0] at hx;cases hx
     ·rw [tC hxn];exact lg.over.le x k hx
    ·rw [tC (fun e=>hx q (iX.2 ⟨hq,by rw [hqn]⟩) (by rw [hqn,e]))]
     exact lg.over.off x hx k
    ·intro r hr vs ha happ
     obtain ⟨hr1,hr2⟩:=iX.1 hr
     have hmono:j4 n A r vs=true:=by
      refine EV (fun c hc hk hn e=>?_) happ
      have:=hlv r hr1 c hc hk ⟨q,hq,by rw [hqn,e]⟩
      rw [hn,if_pos rfl,e] at this
      omega
     have h1:=lg.closed r hr vs ha hmono
     by_cases hrn:r.name=nm
     ·by_cases hk:uF n r vs=k0
      ·refine absurd ⟨r,hr1,hrn,vs,ha,hk,?_⟩ hno
       rw [← happ]
       refine EW fun c hc hkk=>?_
       by_cases hcn:c.name=nm
       ·rw [hcn];unfold cut;rw [hAB nm (.inr (by omega))]
       ·rw [tC hcn,tC hcn];exact hAB _ (hle r hr1 hr2 c hc hkk) _
      ·rw [hrn] at h1 ⊢
       exact G4.2 ⟨h1,hk⟩
     ·rw [tC hrn];exact h1
   rw [Nv] at hC;cases hC
end
end Go.AM
namespace Go.AM
open Go Go.Proofs
noncomputable section
theorem qN{n:Nat}{L:Lk}{nm:bI}{k N:Nat}{u:List Int}:u ∈ vW n L nm k N↔∃ i,i<N∧L nm i=true∧u=fm n k i:=by
 unfold vW
 rw [List.mem_map]
 constructor
 ·rintro ⟨i,hi,rfl⟩
  rw [List.mem_filter,List.mem_range] at hi
  exact ⟨i,hi.1,hi.2,rfl⟩
 ·rintro ⟨i,h1,h2,rfl⟩
  exact ⟨i,List.mem_filter.2 ⟨List.mem_range.2 h1,h2⟩,rfl⟩
theorem Iv{n:Nat}(n1:1≤n){k i j:Nat}(hj:j<n ^ k)(hij:i<j):eV (fm n k i) (fm n k j)=true:=by
 obtain ⟨a1,a2⟩:=lQ n1 (show i<n ^ k by omega)
 obtain ⟨b1,b2⟩:=lQ n1 hj
 cases h:eV (fm n k i) (fm n k j) with
 |true=>rfl
 |false=>
  have hl:(fm n k i).length=(fm n k j).length:=by rw [gO,gO]
  have hne:fm n k i≠fm n k j:=fun e=>by rw [e,b2] at a2;omega
  have:=B1 hl.symm b1 a1 (vZ hl h hne)
  omega
theorem J4{n:Nat}(n1:1≤n)(L:Lk)(nm:bI)(k:Nat):Mm n k (vW n L nm k (n ^ k)):=by
 refine ⟨fun u hu=>?_,?_⟩
 ·obtain ⟨i,hi,_,rfl⟩:=qN.1 hu
  exact ⟨gO _ _ _,(lQ n1 hi).1⟩
 ·unfold lF vW
  rw [List.pairwise_map]
  refine (List.Pairwise.filter _ ?_)
  refine List.Pairwise.imp_of_mem ?_ (List.pairwise_lt_range (n:=n ^ k))
  intro a b _ hb hab
  exact Iv n1 (List.mem_range.1 hb) hab
section
variable {rs:List aK} {s out:dJ} {n:Nat} {m:dN} {L:Lk}
theorem yt(hd:out.rels.l.map cJ=s.rels.l.map cJ++vX rs n L (ej rs)):(out.rels.l.map cJ).map pF=(s.rels.l.map cJ++gh rs (ej rs)).map pF:=by
 rw [hd,List.map_append,List.map_append]
 unfold vX gh
 congr 1
 rw [List.map_map,List.map_map];rfl
theorem Cg(ho:j5 rs s)(hgo:dU rs []=some m)(hn:s.size=(n:Int))(hz:out.size=s.size)(hd:out.rels.l.map cJ=s.rels.l.map cJ++vX rs n L (ej rs)):cT out=true:=by
 have hE:=Ge (rs':=s.rels.l++j6 rs (ej rs)) ho hgo (by rw [List.map_append,kK])
 rw [List.map_append,kK] at hE
 have hsig:=yt hd
 have n1:1≤n:=by have:=hE.lo;omega
 have hnn:s.size.toNat=n:=by omega
 rw [fX,hz]
 have hnm:∀ l:List FL,l.map (·.1)=(l.map pF).map (·.1):=fun l=>by rw [List.map_map];rfl
 refine ⟨hE.lo,hE.hi,?_,fun d hdm=>?_,?_⟩
 ·have:=congrArg List.length hsig
  simp only [List.length_map] at this
  have h8:=hE.kX
  rw [List.length_map]
  omega
 ·rw [hd] at hdm
  rcases List.mem_append.1 hdm with hdm|hdm
  ·exact hE.rel d (List.mem_append_left _ hdm)
  ·obtain ⟨nm,hnm,rfl⟩:=List.mem_map.1 hdm
   obtain ⟨q0,k,q1,q2,q3,_⟩:=hE.rel (nm,(l7 rs nm:Int),[]) (List.mem_append_right _ (List.mem_map.2 ⟨nm,hnm,rfl⟩))
   have q1':(l7 rs nm:Int)=(k:Int):=q1
   obtain rfl:l7 rs nm=k:=by omega
   rw [hnn] at q3 ⊢
   exact ⟨q0,_,rfl,q2,q3,J4 n1 L nm _⟩
 ·rw [hnm,hsig,← hnm];exact hE.names
theorem Az{Z:dJ}(ho:j5 rs s)(hgo:dU rs []=some m)(hn:s.size=(n:Int))(hv:cT Z=true)(hsg:(Z.rels.l.map cJ).map pF=(s.rels.l.map cJ++gh rs (ej rs)).map pF){r:aK}(hr:r ∈ rs){c:eN}(hc:c ∈ r.body.l)(k0:c.kind=0) :
  n ^ c.args.l.length≤4096∧∃ q,Z.rels.l.find? (dX c.name)=some q∧q.arity=(c.args.l.length:Int):=by
 have hfit:=GY (rs':=s.rels.l++j6 rs (ej rs)) ho hgo hn (by rw [List.map_append,kK]) hr
 refine ⟨(hfit.rel c hc k0).1,?_⟩
 have hat:=l8 hr hc k0
 have hmem:(c.name,(c.args.l.length:Int)) ∈ (Z.rels.l.map cJ).map pF:=by
  rw [hsg,List.map_append]
  by_cases hd:c.name ∈ bA rs
  ·obtain ⟨_,q,hq,hqn,har⟩:=oN hgo hd
   have hl:(q.args.l.length:Int)=c.args.l.length:=iY hgo (iB hq) (by rw [hqn];exact hat)
   refine List.mem_append_right _ (List.mem_map.2 ⟨(c.name,(l7 rs c.name:Int),[]),List.mem_map.2 ⟨c.name,(ez rs).2 hd,rfl⟩,?_⟩)
   unfold pF
   rw [har,hl]
  ·cases hf:s.rels.l.find? (kI c.name (c.args.l.length:Int)) with
   |none=>exact absurd (.inl ⟨_,hat,hd,hf⟩) ho.names
   |some q=>
    obtain ⟨hq,hqn,hqa⟩:=rI hf
    refine List.mem_append_left _ (List.mem_map.2 ⟨cJ q,List.mem_map_of_mem hq,?_⟩)
    unfold pF cJ
    rw [hqn,hqa]
 obtain ⟨d,hd,e⟩:=List.mem_map.1 hmem
 obtain ⟨q,hq,rfl⟩:=List.mem_map.1 hd
 unfold pF cJ at e
 simp only [Prod.mk.injEq] at e
 exact ⟨q,by rw [← e.1];exact nO hv hq,e.2⟩
theorem My{Z:dJ}(ho:j5 rs s)(hgo:dU rs []=some m)(hn:s.size=(n:Int))(hv:cT Z=true)(hz:Z.size=s.size)(hsg:(Z.rels.l.map cJ).map pF=(s.rels.l.map cJ++gh rs (ej rs)).map pF){r:aK}(hr:r ∈ rs):uO n r (fL Z):=by
 have hfit:=GY (rs':=s.rels.l++j6 rs (ej rs)) ho hgo hn (by rw [List.map_append,kK]) hr
 refine ⟨?_,hfit.conds,fun c hc k0=>?_⟩
 ·have:=(fX.1 hv).kX
  unfold fL
  rw [List.length_map] at this ⊢
  unfold cz;omega
 ·obtain ⟨h1,q,h2,h3⟩:=Az ho hgo hn hv hsg hr hc k0
  refine ⟨h1,fun t ht htn=>?_⟩
  obtain ⟨p,hp,rfl⟩:=List.mem_map.1 ht
  have h4:=nO hv hp
  rw [show p.name=c.name from htn,h2] at h4
  obtain rfl:=Option.some.inj h4
  show (bitsOf Z.size.toNat q.arity.toNat q.tuples.l).length=_
  rw [oI,h3,hz,hn];rfl
theorem Iw(Z:dJ)(hz:Z.size=(n:Int)):fG (fL Z)=Cd n Z:=by
 funext nm k
 unfold fG Cd fL
 rw [List.find?_map,show Z.size.toNat=n by omega]
 have:((fun t:BZ=>t.name==nm)∘sg n)=dX nm:=rfl
 rw [this]
 cases Z.rels.l.find? (dX nm)<;>rfl
theorem Ch(ho:j5 rs s)(n1:1≤n)(hd:out.rels.l.map cJ=s.rels.l.map cJ++vX rs n L (ej rs)){x:bI}(hx:x ∈ bA rs){q:Nat}(hq:q<n ^ l7 rs x):FM n (out.rels.l.map cJ) x q↔L x q=true:=by
 rw [hd]
 constructor
 ·rintro ⟨d,hdm,hdn,u,hu,huq⟩
  rcases List.mem_append.1 hdm with hdm|hdm
  ·obtain ⟨p,hp,rfl⟩:=List.mem_map.1 hdm
   exact absurd (.inr ⟨p,hp,by rw [show p.name=x from hdn];exact hx⟩) ho.names
  ·obtain ⟨nm,hnm,rfl⟩:=List.mem_map.1 hdm
   obtain rfl:nm=x:=hdn
   obtain ⟨i,hi,hL,rfl⟩:=qN.1 hu
   rw [(lQ n1 hi).2] at huq
   rw [← huq];exact hL
 ·intro hL
  exact ⟨_,List.mem_append_right _ (List.mem_map.2 ⟨x,(ez rs).2 hx,rfl⟩),rfl,fm n (l7 rs x) q,qN.2 ⟨q,hq,hL,rfl⟩,(lQ n1 hq).2⟩
theorem Ix(hd:out.rels.l.map cJ=s.rels.l.map cJ++vX rs n L (ej rs)){x:bI}(hx:x ∉ bA rs){q:Nat}:FM n (out.rels.l.map cJ) x q↔FM n (s.rels.l.map cJ) x q:=by
 rw [hd]
 constructor
 ·rintro ⟨d,hdm,hdn,u,hu,huq⟩
  rcases List.mem_append.1 hdm with hdm|hdm
  ·exact ⟨d,hdm,hdn,u,hu,huq⟩
  ·obtain ⟨nm,hnm,rfl⟩:=List.mem_map.1 hdm
   obtain rfl:nm=x:=hdn
   exact absurd ((ez rs).1 hnm) hx
 ·rintro ⟨d,hdm,hdn,u,hu,huq⟩
  exact ⟨d,List.mem_append_left _ hdm,hdn,u,hu,huq⟩
theorem EX(s:dJ):qK n s=Cd n s:=by
 funext nm k
 unfold qK Cd
 cases s.rels.l.find? (dX nm)<;>rfl
set_option maxHeartbeats 1000000 in
theorem J5(ho:j5 rs s)(hgo:dU rs []=some m)(hn:s.size=(n:Int))(hz:out.size=s.size)(hF:As rs n s L)(hd:out.rels.l.map cJ=s.rels.l.map cJ++vX rs n L (ej rs))
  {j:Nat} {q:Rel} (hq:out.rels.l[j]?=some q) (hqn:q.name ∈ bA rs) (hqa:q.arity=(l7 rs q.name:Int)) {t:List Int} (htl:t.length=l7 rs q.name) (htb:gI n t=true) {Z:dJ} (hp:Gi out j q t false Z) :
  wX n rs (fG (fL Z)) q.name t=L q.name (gy n t):=by
 have hE:=Ge (rs':=s.rels.l++j6 rs (ej rs)) ho hgo (by rw [List.map_append,kK])
 have n1:1≤n:=by have:=hE.lo;omega
 have hvo:=Cg ho hgo hn hz hd
 have hvz:=Cf hvo hq hqa htl (by rw [hz,show s.size.toNat=n by omega];exact htb) hp
 have hZ:Z.size=(n:Int):=by rw [hp.size,hz,hn]
 have hsgZ:(Z.rels.l.map cJ).map pF=(s.rels.l.map cJ++gh rs (ej rs)).map pF:=by rw [De hq hp,yt hd]
 have hhas:=Mq hvo (by rw [hz,hn]) hq hqa htl htb hp
 obtain ⟨kk,T,hst,hT,g⟩:=hF
 have hlv:=B9 hst
 have hk0:gy n t<n ^ l7 rs q.name:=by rw [← htl];exact kE htb
 have key:∀ r ∈ rs,∀ vs,Am n r vs→j4 n (fG (fL Z)) r vs=j4 n (cut L q.name (gy n t)) r vs:=fun r hr vs ha=>by
  refine EW fun c hc ck=>?_
  obtain ⟨hpow,z,hzf,hza⟩:=Az ho hgo hn hvz hsgZ hr hc ck
  obtain ⟨_,o,hof,hoa⟩:=Az ho hgo hn hvo (yt hd) hr hc ck
  have hpl:∀ p ∈ bz r c,p<vs.length:=by rw [ha.1];exact jM (lY hc)
  have hin:=kG ha.2 hpl
  have hlen:(bw vs (bz r c)).length=c.args.l.length:=by rw [iW];unfold bz placesOf;simp
  have hlt:=kE hin
  rw [hlen] at hlt
  generalize gy n (bw vs (bz r c))=w at hlt
  rw [Iw Z hZ,Bool.eq_iff_iff,Ce hvz hZ hzf hza hlt,hhas]
  by_cases hcn:c.name=q.name
  ·rw [if_pos hcn,hcn]
   have hwa:w<n ^ l7 rs q.name:=by
    obtain ⟨_,r',hr',hrn',har'⟩:=oN hgo hqn
    have h5:((r'.args.l.length:Nat):Int)=c.args.l.length:=iY hgo (iB hr') (by rw [hrn',← hcn];exact l8 hr hc ck)
    rw [har',show r'.args.l.length=c.args.l.length by omega];exact hlt
   rw [Ch ho n1 hd hqn hwa,G4]
   simp
  ·rw [if_neg hcn,tC hcn]
   by_cases hch:c.name ∈ bA rs
   ·have hwa:w<n ^ l7 rs c.name:=by
     obtain ⟨_,r',hr',hrn',har'⟩:=oN hgo hch
     have h5:((r'.args.l.length:Nat):Int)=c.args.l.length:=iY hgo (iB hr') (by rw [hrn'];exact l8 hr hc ck)
     rw [har',show r'.args.l.length=c.args.l.length by omega];exact hlt
    exact Ch ho n1 hd hch hwa
   ·rw [Ix hd hch]
    have hL:L c.name w=qK n s c.name w:=iw.rest .zero g (Nat.zero_le _) (.inl fun r' hr' e=>hch (by rw [← e];exact List.mem_map_of_mem hr')) w
    rw [hL,EX]
    cases hf:s.rels.l.find? (kI c.name (c.args.l.length:Int)) with
    |none=>exact absurd (.inl ⟨_,l8 hr hc ck,hch,hf⟩) ho.names
    |some p=>
     obtain ⟨h6,h7,h8⟩:=rI hf
     have h9:=nO ho.valid h6
     rw [h7] at h9
     exact (Ce ho.valid hn h9 h8 hlt).symm
 have h0:∀ k,qK n s q.name k=false:=fun k=>by
  unfold qK
  cases hf:s.rels.l.find? (dX q.name) with
  |none=>rfl
  |some p=>
   have h6:=List.mem_of_find?_eq_some hf
   have h7:=List.find?_some hf
   simp only [dX,beq_iff_eq] at h7
   exact absurd (.inr ⟨p,h6,by rw [h7];exact hqn⟩) ho.names
 rw [Bool.eq_iff_iff,← Iu hlv g hT (by obtain ⟨r,h1,h2⟩:=List.mem_map.1 hqn;exact ⟨r,h1,h2⟩) h0]
 unfold wX
 rw [List.any_eq_true]
 constructor
 ·rintro ⟨r,hr,hdr⟩
  unfold Df at hdr
  rw [Bool.and_eq_true,beq_iff_eq,List.any_eq_true] at hdr
  obtain ⟨hrn,i,hi,hdi⟩:=hdr
  rw [List.mem_range] at hi
  unfold xT at hdi
  rw [Bool.and_eq_true,decide_eq_true_eq] at hdi
  have ha:=EJ n1 hi
  refine ⟨r,hr,hrn,_,ha,?_,by rw [← key r hr _ ha];exact hdi.2⟩
  unfold uF;rw [hdi.1]
 ·rintro ⟨r,hr,hrn,vs,ha,hk,happ⟩
  refine ⟨r,hr,?_⟩
  unfold Df
  rw [Bool.and_eq_true,beq_iff_eq,List.any_eq_true]
  obtain ⟨ht1,ht2⟩:gy n vs<n ^ (varsOf r).length∧fm n (varsOf r).length (gy n vs)=vs:=by
   have h1:=kE ha.2
   rw [ha.1] at h1
   obtain ⟨b1,b2⟩:=lQ n1 h1
   exact ⟨h1,yo (by rw [gO,ha.1]) b1 ha.2 b2⟩
  refine ⟨hrn,gy n vs,List.mem_range.2 ht1,?_⟩
  unfold xT
  rw [ht2,Bool.and_eq_true,decide_eq_true_eq,key r hr vs ha]
  refine ⟨?_,happ⟩
  have hpl:∀ p ∈ placesOf (varsOf r) r.args.l,p<vs.length:=by rw [ha.1];exact jM lX
  refine yo ?_ (kG ha.2 hpl) htb hk
  rw [iW,htl,← hrn,Db hgo hr]
  unfold placesOf;simp
end
end
end Go.AM
namespace Go.AM
open Go Go.Proofs
noncomputable section
theorem EY{s:dJ}(hv:cT s=true){i:Nat}{r:Rel}(hr:s.rels.l[i]?=some r):jF (dX r.name) s.rels.l=(i:Int):=by
 have hf:=mZ (jG hv) r (List.mem_of_getElem? hr)
 rcases mY (dX r.name) s.rels.l with ⟨h1,h2⟩|⟨j,q,h1,h2,h3⟩
 ·rw [h2] at hf;cases hf
 ·rw [hf] at h3;cases h3
  rw [h1]
  have hN:=jG hv
  obtain ⟨l1,e1⟩:=List.getElem?_eq_some_iff.1 h2
  obtain ⟨l2,e2⟩:=List.getElem?_eq_some_iff.1 hr
  by_cases hlt:j<i
  ·have:=List.pairwise_iff_getElem.1 hN j i (by simpa using l1) (by simpa using l2) hlt
   rw [List.getElem_map,List.getElem_map,e1,e2] at this;exact absurd rfl this
  ·by_cases hgt:i<j
   ·have:=List.pairwise_iff_getElem.1 hN i j (by simpa using l2) (by simpa using l1) hgt
    rw [List.getElem_map,List.getElem_map,e1,e2] at this;exact absurd rfl this
   ·have:i=j:=by omega
    rw [this]
theorem Nw{rs:List aK}{s out:dJ}{n:Nat}{L:Lk}(hd:out.rels.l.map cJ=s.rels.l.map cJ++vX rs n L (ej rs)){i:Nat}(h1:s.rels.l.length≤i){q:Rel}(hq:out.rels.l[i]?=some q) :
  q.name ∈ bA rs∧q.arity=(l7 rs q.name:Int)∧q.tuples.l.map Sl.l=vW n L q.name (l7 rs q.name) (n ^ l7 rs q.name):=by
 have h2:(out.rels.l.map cJ)[i]?=some (cJ q):=by rw [List.getElem?_map,hq];rfl
 rw [hd,List.getElem?_append_right (by rw [List.length_map];exact h1)] at h2
 have h3:=List.mem_of_getElem? h2
 obtain ⟨nm,hnm,e⟩:=List.mem_map.1 h3
 unfold cJ at e
 simp only [Prod.mk.injEq] at e
 obtain ⟨rfl,e2,e3⟩:=e
 exact ⟨(ez rs).1 hnm,e2.symm,e3.symm⟩
theorem Iy{n k:Nat}(n1:1≤n){L:Lk}{nm:bI}{t:List Int}(htl:t.length=k)(htb:gI n t=true):((vW n L nm k (n ^ k)).any fun u=>u==t)=L nm (gy n t):=by
 rw [Bool.eq_iff_iff,List.any_eq_true]
 have hlt:=kE htb
 rw [htl] at hlt
 obtain ⟨b1,b2⟩:=lQ n1 hlt
 have ht:fm n k (gy n t)=t:=yo (by rw [gO,htl]) b1 htb b2
 constructor
 ·rintro ⟨u,hu,he⟩
  rw [beq_iff_eq] at he
  obtain ⟨i,hi,hL,rfl⟩:=qN.1 hu
  rw [← he,(lQ n1 hi).2];exact hL
 ·intro hL
  exact ⟨_,qN.2 ⟨_,hlt,hL,rfl⟩,by rw [ht];simp⟩
set_option maxHeartbeats 2000000 in
theorem AA{rules:Sl aK}{s:dJ}(hok:∀ r ∈ rules.l,r.ok)(hsok:s.ok):Sem Tryz.prog 4 [an aM 3 rules,.agg (az s)] ag.empty I9:=by
 refine F.qc ?_
 simp only [cY (dw s),bindO_some,bG]
 have g0:(ag.empty.alloc (.cells (az s))).get 0=some (.cells (az s)):=aC _ _
 have gn:(ag.empty.alloc (.cells (az s))).next=1:=rfl
 generalize (ag.empty.alloc (.cells (az s)))=H at g0 gn ⊢
 have l0:ai (some 2) (.ptr 0 0) H=some (.agg (az s)):=by rw [au g0,dA (cs:=az s) (n:=2) rfl]
 simp only [l0,bindO_some]
 refine ak (cD hok hsok fun b hb=>?_)
 simp only [aV,Nat.reduceAdd,Nat.reduceEqDiff,reduceIte]
 cases b with
 |false=>
  simp only [Bool.not_false,aI]
  refine ak (vF ?_)
  simp only [aV,Nat.reduceAdd,Nat.reduceEqDiff,reduceIte];rfl
 |true=>
 have hfew:=hb rfl
 simp only [Bool.not_true,aG,l0,bindO_some]
 refine ak (bC hok hfew hsok (fun e he=>?_) fun ho=>?_)
 ·have hne:=(G3 he).1
  simp only [aV,Nat.reduceAdd,Nat.reduceEqDiff,reduceIte,cQ,decide_eq_false hne,Bool.not_false,aI]
  refine ak (vF ?_)
  simp only [aV,Nat.reduceAdd,Nat.reduceEqDiff,reduceIte];rfl
 simp only [aV,Nat.reduceAdd,Nat.reduceEqDiff,reduceIte,cQ,decide_true,Bool.not_true,aG,l0]
 refine ak (dh hok hfew hsok (fun hv=>(kJ hv).1) (fun e he=>absurd ho (G3 he).2) fun _ out hz hx=>?_)
 obtain ⟨L,hF,hd⟩:=hx
 obtain ⟨n,hn⟩:∃ n:Nat,s.size=(n:Int):=⟨s.size.toNat,by have:=(fX.1 ho.valid).lo;omega⟩
 have hnn:s.size.toNat=n:=by omega
 rw [hnn] at hF hd
 have n1:1≤n:=by have:=(fX.1 ho.valid).lo;omega
 have n64:n≤64:=by have:=(fX.1 ho.valid).hi;omega
 obtain ⟨m,hgo⟩:=ho.good.go
 have hvo:=Cg ho hgo hn hz hd
 obtain ⟨hsm,hook⟩:=kJ hvo
 have hrl:rules.l.length≤cz:=by have:=ho.good.kX;unfold cz;omega
 obtain ⟨H1,hs1,p1,po1,pn1⟩:=cO (h:=H) (zs:=[.int .i64 0,.nils]) (cs:=az out) (n:=2) rfl rfl (dw out)
 rw [gn] at p1 pn1 hs1
 have p0:H1.get 0=some (.cells (az s)):=by rw [po1 0 (by omega)];exact g0
 have la:ai none (.ptr 1 1) H1=some (an bt 3 out.rels):=by rw [au p1];rfl
 have lb:ai none (.ptr 0 1) H1=some (an bt 3 s.rels):=by rw [au p0];rfl
 have l2:ai (some 2) (.ptr 1 0) H1=some (.agg (az out)):=by rw [au p1,dA (cs:=az out) (n:=2) rfl]
 have hlen:s.rels.l.length≤out.rels.l.length:=by
  have:=congrArg List.length hd
  rw [List.length_append,List.length_map,List.length_map] at this
  omega
 have hob:out.rels.l.length≤cz:=hook.1
 simp only [aV,Nat.reduceAdd,Nat.reduceEqDiff,reduceIte,gn,hs1,cQ,decide_true,Bool.not_true,aG,la,lb,decide_eq_false (show ¬ ((out.rels.l.length:Nat):Int)<((s.rels.l.length:Nat):Int) by omega),l2]
 refine ak (bZ hook ?_)
 rw [hvo]
 simp only [aV,Nat.reduceAdd,Nat.reduceEqDiff,reduceIte,Bool.not_true,aG,lb]
 refine aB s.rels.l.length out.rels.l.length hlen (fun i e h'=>h'.get 0=some (.cells (az s))∧h'.get 1=some (.cells (az out))∧2≤h'.next∧e 0=an aM 3 rules∧e 3 = .ptr 0 0∧e 5 = .ptr 1 0∧e 7 = .int .i64 (i:Int)) ⟨p0,p1,by omega,rfl,rfl,rfl,rfl⟩ ?_ ?_
 ·rintro i e h' hi0 hi ⟨q0,q1,qn,e0,e3,e5,e7⟩ K' hnx hx' hr hp
  have hv:out.rels.l[i]?=some out.rels.l[i]:=List.getElem?_eq_getElem hi
  generalize out.rels.l[i]=q at hv
  obtain ⟨hqn,hqa,hqt⟩:=Nw hd hi0 hv
  have hrelq:=(fX.1 hvo).rel _ (List.mem_map_of_mem (List.mem_of_getElem? hv))
  obtain ⟨_,kk,hk1,hk12,hkp,hkt⟩:=hrelq
  have hk1':q.arity=(kk:Int):=hk1
  obtain rfl:l7 rules.l q.name=kk:=by omega
  rw [hz,hnn] at hkp hkt
  have ma:ai none (.ptr 1 1) h'=some (an bt 3 out.rels):=by rw [au q1];rfl
  have mz:ai none (.ptr 0 0) h'=some (.int .i64 (n:Int)):=by rw [au q0,← hn];rfl
  rw [F.bO.aN]
  simp only [e3,e5,e7,aV,Nat.reduceAdd,Nat.reduceEqDiff,reduceIte,ma,mz,aY hi,aP out.rels hi,nJ hv,hqa]
  refine ak (bJ n1 hk12 hkp fun y hy=>?_)
  simp only [outK_ret]
  have hyl:y.l.length=n ^ l7 rules.l q.name:=by have:=congrArg List.length hy;rw [List.length_map,nL] at this;exact this
  have hyat:∀ (k:Nat) (t:Sl Int),y.l[k]?=some t→t.l.length=l7 rules.l q.name∧gI n t.l=true:=fun k t ht=>by
   have h1:(y.l.map Sl.l)[k]?=some t.l:=by rw [List.getElem?_map,ht];rfl
   rw [hy] at h1
   have hk:=(List.getElem?_eq_some_iff.1 h1).1
   rw [nL] at hk
   obtain ⟨u,u1,u2,u3,_⟩:=rC n1 (l7 rules.l q.name) k hk
   rw [h1] at u1
   cases u1
   exact ⟨u2,u3⟩
  refine aB 0 (min y.l.length 40) (Nat.zero_le _) (fun k e h'=>h'.get 0=some (.cells (az s))∧h'.get 1=some (.cells (az out))∧2≤h'.next∧e 0=an aM 3 rules∧e 3 = .ptr 0 0∧e 5 = .ptr 1 0∧e 7 = .int .i64 (i:Int)∧e 8=an er 1 y∧e 9 = .int .i64 (k:Int)) ⟨q0,q1,qn,e0,e3,e5,e7,rfl,rfl⟩ ?_ ?_
  ·rintro k e h' _ hk ⟨q0,q1,qn,e0,e3,e5,e7,e8,e9⟩ K2 hn2 hx2 hr2 hp2
   have hk1:k<y.l.length:=by omega
   have hk40:k<40:=by omega
   have ht:y.l[k]?=some y.l[k]:=List.getElem?_eq_getElem hk1
   generalize y.l[k]=t at ht
   obtain ⟨htl,htb⟩:=hyat k t ht
   have ma:ai none (.ptr 1 1) h'=some (an bt 3 out.rels):=by rw [au q1];rfl
   have mo:ai (some 2) (.ptr 1 0) h'=some (.agg (az out)):=by rw [au q1,dA (cs:=az out) (n:=2) rfl]
   rw [F.bO.cP]
   simp only [e5,e7,e8,e9,aV,Nat.reduceAdd,Nat.reduceEqDiff,reduceIte,ma,mo,aY hk1,decide_eq_true (show ((k:Nat):Int)<40 by omega),aP out.rels hi,jZ hv,aP y hk1,fJ ht]
   refine ak (fM hook hsm (EY hvo hv) hv (fun u hu=>by rw [htl];exact (hkt.1 _ (List.mem_map_of_mem hu)).1) (by omega) fun Z hp'=>?_)
   obtain ⟨H2,hs2,w2,wo2,wn2⟩:=cO (h:=h') (zs:=[.int .i64 0,.nils]) (cs:=az Z) (n:=2) rfl rfl (dw Z)
   have r0:H2.get 0=some (.cells (az s)):=by rw [wo2 0 (by omega)];exact q0
   have r1:H2.get 1=some (.cells (az out)):=by rw [wo2 1 (by omega)];exact q1
   have na:ai none (.ptr 1 1) H2=some (an bt 3 out.rels):=by rw [au r1];rfl
   have nz:ai (some 2) (.ptr h'.next 0) H2=some (.agg (az Z)):=by rw [au w2,dA (cs:=az Z) (n:=2) rfl]
   have hvz:cT Z=true:=Cf hvo hv hqa htl (by rw [hz,hnn];exact htb) hp'
   have hZ:Z.size=(n:Int):=by rw [hp'.size,hz,hn]
   have hsgZ:(Z.rels.l.map cJ).map pF=(s.rels.l.map cJ++gh rules.l (ej rules.l)).map pF:=by rw [De hv hp',yt hd]
   simp only [aV,Nat.reduceAdd,Nat.reduceEqDiff,reduceIte,hs2,nz,na,e0,e5,e7,e8,e9,aP out.rels hi,jZ hv,jy hv,aP y hk1,fJ ht]
   refine ak (bR n1 n64 hrl hfew (fun r hr=>(g9 hgo r hr).2.2) (kJ hvz).2 hvz hZ (fun r hr=>My ho hgo hn hvz (by rw [hZ,hn]) hsgZ hr) (by rw [htl];unfold cz;omega) ?_)
   rw [J5 ho hgo hn hz hF hd hv hqn hqa htl htb hp']
   simp only [aV,Nat.reduceAdd,Nat.reduceEqDiff,reduceIte,na,jy hv,fJ ht,AV.beq_refl,Bool.and_self,if_true]
   refine ak (dR (by have:=hsm.tups q (List.mem_of_getElem? hv);unfold cz;omega) (fun u hu=>by have:=hsm.tup q (List.mem_of_getElem? hv) u hu;unfold cz;omega) ?_)
   rw [hqt,Iy n1 htl htb]
   simp only [aV,Nat.reduceAdd,Nat.reduceEqDiff,reduceIte,beq_self_eq_true,Bool.not_true,aG,e9,aE hk40 (show 40≤cz by unfold cz;omega)]
   exact hn2 _ _ ⟨r0,r1,by omega,e0,e3,e5,e7,e8,rfl⟩
  ·rintro e h' ⟨q0,q1,qn,e0,e3,e5,e7,e8,e9⟩ K2 hx2
   rw [F.bO.cP]
   by_cases hy40:y.l.length≤40
   ·have hm:((min y.l.length 40:Nat):Int)=(y.l.length:Int):=by omega
    simp only [e8,e9,aV,Nat.reduceAdd,Nat.reduceEqDiff,reduceIte,hm,aR]
    rw [hx2,F.bO.b8]
    simp only [bu,Nat.reduceEqDiff,reduceIte,e7,aE hi hob,bindO_some]
    exact hnx _ _ ⟨q0,q1,qn,e0,e3,e5,rfl⟩
   ·have hm:((min y.l.length 40:Nat):Int)=40:=by omega
    simp only [e8,e9,aV,Nat.reduceAdd,Nat.reduceEqDiff,reduceIte,hm,decide_eq_true (show (40:Int)<(y.l.length:Int) by omega),decide_eq_false (show ¬ (40:Int)<40 by omega)]
    rw [hx2,F.bO.b8]
    simp only [bu,Nat.reduceEqDiff,reduceIte,e7,aE hi hob,bindO_some]
    exact hnx _ _ ⟨q0,q1,qn,e0,e3,e5,rfl⟩
 ·rintro e h' ⟨q0,q1,qn,e0,e3,e5,e7⟩ K' hx'
  have ma:ai none (.ptr 1 1) h'=some (an bt 3 out.rels):=by rw [au q1];rfl
  rw [F.bO.aN]
  simp only [e5,e7,aV,Nat.reduceAdd,Nat.reduceEqDiff,reduceIte,ma,aR]
  rw [hx',F.bO.aD]
  refine ak (vF ?_)
  simp only [aV,Nat.reduceAdd,Nat.reduceEqDiff,reduceIte];rfl
end
end Go.AM