/- Parts of a proof, merged out of smaller texts: the abstract machine and what functions do. Conditions: none. -/
import Derived.Test.YtmkffehchicgaaaGreatRn12
import Derived.Test.YtmkffehchicgaaaGreatRn20
import Derived.Test.YtmkffehchicgaaaGreatRn21
import Derived.Test.YtmkffehchicgaaaGreatRn22
import Derived.Test.YtmkffehchicgaaaGreatRn23
set_option linter.unusedSimpArgs false
set_option linter.unusedVariables false
namespace Go.AM
open Go Go.Proofs
noncomputable section
theorem Hs{a b:Nat}(hb:0<b)(ha:a≤cy):aA .quo (.int .i64 (a:Int)) (.int .i64 (b:Int))=some (.int .i64 ((a/b:Nat):Int)):=by
 have h:¬ (b:Int)=0:=by omega
 simp only [aA,if_true,if_neg h]
 have e:((a:Int).tdiv (b:Int))=((a/b:Nat):Int):=by rw [Int.tdiv_eq_ediv_of_nonneg (by omega)];rfl
 have:a/b≤a:=Nat.div_le_self _ _
 unfold cy at ha
 rw [e]
 generalize a/b=q at this
 rw [IntWalk.i64_in _ (by omega)]
theorem Ff{α:Type}{enc:α→List AV}{sz:Nat}(he:∀ a,(enc a).length=sz){l:List α}{i:Nat}{a:α}(ha:l[i]?=some a){k n:Nat}(hk:k+n≤sz){h:ag} :
  ai (some n) (.iptr (l.flatMap enc) (i*sz+k)) h=some (.agg (((enc a).drop k).take n)):=by
 have hi:i<l.length:=(List.getElem?_eq_some_iff.1 ha).1
 have hle:i*sz+sz≤(l.flatMap enc).length:=by
  rw [gq he]
  have:(i+1)*sz≤l.length*sz:=Nat.mul_le_mul_right _ hi
  rw [Nat.add_mul] at this;omega
 show gW (some n) _ _=_
 simp only [gW]
 rw [if_pos (by omega),← lR he l i a ha,List.drop_take,List.take_take,List.drop_drop,Nat.min_eq_left (by omega)]
theorem eH{nm:bG}{xs:Sl bG}(h1:nm.length≤cy)(h2:xs.l.length≤cy)(h3:∀ s ∈ xs.l,s.length≤cy){h:ag}{K:Out→ag→Bool}
  (hK:∀ n:Int,(xs.l.length:Int)≤n→n≤5000000000000000000→K (.ret (.int .i64 n)) h=true):Sem Tryz.prog 82 [.agg [.str nm,aq encS 1 xs]] h K:=by
 have hbb:cy=4611686018427387904:=rfl
 have gen:∀ R:Out→ag→Bool,(∀ (n:Int) h',(xs.l.length:Int)≤n→n≤5000000000000000000→R (.ret (.int .i64 n)) h'=true)→Sem Tryz.prog 82 [.agg [.str nm,aq encS 1 xs]] ag.empty R:=by
  intro R fin
  refine F.zL ?_
  have g0:(ag.alloc ag.empty (.cells (gK nm xs))).get 0=some (.cells (gK nm xs)):=aB _ _
  have hb:cK (.agg [.str nm,aq encS 1 xs])=some (gK nm xs):=cU (vO nm xs)
  simp only [hb,bindO_some,bT]
  generalize (ag.alloc ag.empty (.cells (gK nm xs)))=H at g0 ⊢
  have hq:=Hs (a:=nm.length) (b:=20) (by omega) h1
  have hq':aA .quo (.int .i64 (nm.length:Int)) (.int .i64 20)=some (.int .i64 ((nm.length/20:Nat):Int)):=hq
  have hdl:nm.length/20≤240000000000000000:=by omega
  have hadd:=gH (a:=(xs.l.length:Int)) (b:=((nm.length/20:Nat):Int)) (by omega) (by omega)
  simp only [aU,Nat.reduceAdd,Nat.reduceEqDiff,reduceIte,ak g0,gK,hq',hadd]
  generalize hs0:(xs.l.length:Int)+((nm.length/20:Nat):Int)=s0
  refine aC 0 xs.l.length (Nat.zero_le _) (fun i e h'=>h'=H∧e 1 = .ptr 0 0∧e 4 = .int .i64 (i:Int)∧∃ n:Int,e 3 = .int .i64 n∧(xs.l.length:Int)≤n∧n≤5000000000000000000) ⟨rfl,rfl,rfl,s0,rfl,by omega,by omega⟩ ?_ ?_
  ·rintro i e h' _ hi ⟨rfl,e1,e4,n,e3,n1,n2⟩ K' hn hx hr hp
   have hv:xs.l[i]?=some xs.l[i]:=List.getElem?_eq_getElem hi
   generalize xs.l[i]=t at hv
   have ht:=h3 t (List.mem_of_getElem? hv)
   have hqt:aA .quo (.int .i64 (t.length:Int)) (.int .i64 20)=some (.int .i64 ((t.length/20:Nat):Int)):=Hs (a:=t.length) (b:=20) (by omega) ht
   have hdt:t.length/20≤240000000000000000:=by omega
   rw [F.eH.aO]
   simp only [e1,e3,e4,aU,Nat.reduceAdd,Nat.reduceEqDiff,reduceIte,ak g0,gK,bg hi]
   by_cases hsm:n<10000
   ·have hadd2:=gH (a:=n) (b:=((t.length/20:Nat):Int)) (by omega) (by omega)
    simp only [decide_eq_true hsm,aJ,e1,e4,aU,Nat.reduceAdd,Nat.reduceEqDiff,reduceIte,ak g0,gK,aW xs hi,gO hv,hqt,hadd2,aI hi h2]
    exact hn _ _ ⟨rfl,e1,rfl,_,rfl,by omega,by omega⟩
   ·simp only [decide_eq_false hsm,aG]
    rw [hx,F.eH.aD]
    simp only [bH,Nat.reduceEqDiff,reduceIte,e3]
    exact fin n _ n1 n2
  ·rintro e h' ⟨rfl,e1,e4,n,e3,n1,n2⟩ K' hx
   rw [F.eH.aO]
   simp only [e1,e4,aU,Nat.reduceAdd,Nat.reduceEqDiff,reduceIte,ak g0,gK,aR]
   rw [hx,F.eH.aD]
   simp only [bH,Nat.reduceEqDiff,reduceIte,e3]
   exact fin n _ n1 n2
 have main:=gen (fun o h'=>yes (∃ n:Int,o = .ret (.int .i64 n)∧(xs.l.length:Int)≤n∧n≤5000000000000000000)) (fun n h' q1 q2=>cD.2 ⟨n,rfl,q1,q2⟩)
 refine main.frozen (by simp [AV.pureL,AV.pure,b8 gj]) fun o h' ho=>?_
 obtain ⟨n,rfl,q1,q2⟩:=cD.1 ho
 exact ⟨_,_,rfl,.scalar _ rfl,hK n q1 q2⟩
end
end Go.AM
namespace Go.AM
open Go Go.Proofs
noncomputable section
set_option maxHeartbeats 1000000 in
theorem GG{N:Int}(hN:N≤1500){rules:Sl aE}(hok:∀ r ∈ rules.l,r.ok){h:ag}{K:Out→ag→Bool}(hK:∀ b:Bool,(b=true→∀ r ∈ rules.l,r.lB)→K (.ret (.bool b)) h=true):Sem Tryz.prog 29 [aq aM 3 rules,.int .i64 N] h K:=by
 have gen:∀ R:Out→ag→Bool,(∀ (b:Bool) h',(b=true→∀ r ∈ rules.l,r.lB)→R (.ret (.bool b)) h'=true)→Sem Tryz.prog 29 [aq aM 3 rules,.int .i64 N] ag.empty R:=by
  intro R fin
  refine F.Be ?_
  simp only [aU,Nat.reduceAdd,Nat.reduceEqDiff,reduceIte]
  by_cases h71:70<rules.l.length
  ·simp only [decide_eq_true (by omega:(70:Int)<(rules.l.length:Int)),aJ]
   exact fin false _ (fun h=>by cases h)
  have hbig:rules.l.length≤cy:=by unfold cy;omega
  simp only [decide_eq_false (by omega:¬ (70:Int)<(rules.l.length:Int)),aG]
  refine aC 0 rules.l.length (Nat.zero_le _) (fun i e h'=>e 0=aq aM 3 rules∧e 1 = .int .i64 N∧e 6 = .int .i64 (i:Int)∧∃ s:Int,e 5 = .int .i64 s∧0≤s∧s≤6000000000000000000∧(s≤N→∀ r ∈ rules.l.take i,r.lB)) ⟨rfl,rfl,rfl,0,rfl,by omega,by omega,fun _ r hr=>by simp at hr⟩ ?_ ?_
  ·rintro i e h' _ hi ⟨e0,e1,e6,s,e5,s0,s1,hs⟩ K' hn hx hr hp
   have hv:rules.l[i]?=some rules.l[i]:=List.getElem?_eq_getElem hi
   generalize rules.l[i]=r at hv
   have hrok:=hok r (List.mem_of_getElem? hv)
   have hbb:=hrok.2.2.2.1
   have ld:∀ j,j<3→∀ h,ai none (.iptr (rules.l.flatMap aM) (i*3+j)) h=(aM r)[j]?:=fun j hj h=>fh fK hv hj
   have lh:∀ h,ai (some 2) (.iptr (rules.l.flatMap aM) (i*3)) h=some (.agg [.str r.name,aq encS 1 r.args]):=fun h=>Ff (k:=0) (n:=2) fK hv (by omega)
   rw [F.dg.aO]
   simp only [e0,e1,e5,e6,aU,Nat.reduceAdd,Nat.reduceEqDiff,reduceIte,bg hi]
   by_cases hle:s≤N
   ·have had1:=gH (a:=s) (b:=1) (by omega) (by omega)
    simp only [decide_eq_true hle,aJ,had1,e0,e6,aU,Nat.reduceAdd,Nat.reduceEqDiff,reduceIte,aW rules hi,lh]
    refine an (eH hrok.1 hrok.2.1 hrok.2.2.1 fun n n1 n2=>?_)
    have had2:=gH (a:=s+1) (b:=n) (by omega) (by omega)
    simp only [aU,Nat.reduceAdd,Nat.reduceEqDiff,reduceIte,had2]
    refine aC 0 r.body.l.length (Nat.zero_le _) (fun j e h'=>e 0=aq aM 3 rules∧e 1 = .int .i64 N∧e 6 = .int .i64 (i:Int)∧e 7 = .int .i64 (j:Int)∧∃ s:Int,e 5 = .int .i64 s∧0≤s∧s≤6000000000000000000 ∧
     (s≤N→(∀ r ∈ rules.l.take i,r.lB)∧r.args.l.length≤1500∧(j:Int)≤s∧∀ c ∈ r.body.l.take j,c.args.l.length≤1500)) ⟨e0,e1,e6,rfl,s+1+n,rfl,by omega,by omega,fun h=>⟨hs hle,by omega,by omega,fun c hc=>by simp at hc⟩⟩ ?_ ?_
    ·rintro j e h' _ hj ⟨e0,e1,e6,e7,s,e5,s0,s1,hs⟩ K2 hn2 hx2 hr2 hp2
     have hc:r.body.l[j]?=some r.body.l[j]:=List.getElem?_eq_getElem hj
     generalize r.body.l[j]=c at hc
     have hcok:=hrok.2.2.2.2 c (List.mem_of_getElem? hc)
     have lc:∀ h,ai (some 2) (.iptr (r.body.l.flatMap bY) (j*4+2)) h=some (.agg [.str c.name,aq encS 1 c.args]):=fun h=>Ff (k:=2) (n:=2) gL hc (by omega)
     rw [F.dg.dx]
     simp only [e0,e1,e5,e6,e7,aU,Nat.reduceAdd,Nat.reduceEqDiff,reduceIte,aW rules hi,ld 2 (by omega),aM,bg hj]
     by_cases hle:s≤N
     ·have had1:=gH (a:=s) (b:=1) (by omega) (by omega)
      simp only [decide_eq_true hle,aJ,had1,e0,e6,e7,aU,Nat.reduceAdd,Nat.reduceEqDiff,reduceIte,aW rules hi,ld 2 (by omega),aM,aW r.body hj,lc]
      refine an (eH hcok.1 hcok.2.1 hcok.2.2 fun n n1 n2=>?_)
      have had2:=gH (a:=s+1) (b:=n) (by omega) (by omega)
      simp only [aU,Nat.reduceAdd,Nat.reduceEqDiff,reduceIte,had2,aI hj hbb]
      refine hn2 _ _ ⟨e0,e1,e6,rfl,s+1+n,rfl,by omega,by omega,fun h=>?_⟩
      obtain ⟨q1,q2,q3,q4⟩:=hs hle
      refine ⟨q1,q2,by omega,fun d hd=>?_⟩
      rw [List.take_add_one,hc] at hd
      rcases List.mem_append.1 hd with hd|hd
      ·exact q4 d hd
      ·simp only [Option.toList_some,List.mem_singleton] at hd;subst hd;omega
     ·simp only [decide_eq_false hle,aG]
      rw [hx2,F.dg.cw]
      simp only [aU,Nat.reduceAdd,Nat.reduceEqDiff,reduceIte,e6,aI hi hbig]
      exact hn _ _ ⟨e0,e1,rfl,s,e5,s0,s1,fun h=>absurd h hle⟩
    ·rintro e h' ⟨e0,e1,e6,e7,s,e5,s0,s1,hs⟩ K2 hx2
     rw [F.dg.dx]
     simp only [e0,e6,e7,aU,Nat.reduceAdd,Nat.reduceEqDiff,reduceIte,aW rules hi,ld 2 (by omega),aM,aR]
     rw [hx2,F.dg.cw]
     simp only [aU,Nat.reduceAdd,Nat.reduceEqDiff,reduceIte,e6,aI hi hbig]
     refine hn _ _ ⟨e0,e1,rfl,s,e5,s0,s1,fun h=>?_⟩
     obtain ⟨q1,q2,q3,q4⟩:=hs h
     rw [List.take_of_length_le (Nat.le_refl _)] at q4
     intro q hq
     rw [List.take_add_one,hv] at hq
     rcases List.mem_append.1 hq with hq|hq
     ·exact q1 q hq
     ·simp only [Option.toList_some,List.mem_singleton] at hq;subst hq;exact ⟨q2,by omega,q4⟩
   ·simp only [decide_eq_false hle,aG]
    rw [hx,F.dg.aD]
    simp only [aU,Nat.reduceAdd,Nat.reduceEqDiff,reduceIte,e1,e5]
    exact fin _ _ (fun h=>absurd (of_decide_eq_true h) hle)
  ·rintro e h' ⟨e0,e1,e6,s,e5,s0,s1,hs⟩ K' hx
   rw [List.take_of_length_le (Nat.le_refl _)] at hs
   rw [F.dg.aO]
   simp only [e0,e6,aU,Nat.reduceAdd,Nat.reduceEqDiff,reduceIte,aR]
   rw [hx,F.dg.aD]
   simp only [aU,Nat.reduceAdd,Nat.reduceEqDiff,reduceIte,e1,e5]
   exact fin _ _ (fun h=>hs (of_decide_eq_true h))
 have main:=gen (fun o h'=>yes (∃ b:Bool,o = .ret (.bool b)∧(b=true→∀ r ∈ rules.l,r.lB))) (fun b h' hb=>cD.2 ⟨b,rfl,hb⟩)
 refine main.frozen (by simp [AV.pureL,AV.pure,b8 eM]) fun o h' ho=>?_
 obtain ⟨b,rfl,hb⟩:=cD.1 ho
 exact ⟨_,_,rfl,.scalar _ rfl,hK b hb⟩
end
end Go.AM
namespace Go.AM
open Go Go.Proofs
noncomputable section
theorem tF{x y:Sl (Sl Int)}(hxy:x.l.map Sl.l=y.l.map Sl.l)(hx:x.l.length≤cy)(ht:∀ t ∈ x.l,t.l.length≤cy){h:ag}{K:Out→ag→Bool}(hK:K (.ret (.bool true)) h=true):Sem Tryz.prog 56 [aq eN 1 x,aq eN 1 y] h K:=by
 have hl:x.l.length=y.l.length:=by have:=congrArg List.length hxy;simpa using this
 refine F.qq ?_
 simp only [aU,Nat.reduceAdd,Nat.reduceEqDiff,reduceIte,hl,cQ,decide_true,Bool.not_true,aG]
 refine aC 0 x.l.length (Nat.zero_le _) (fun i e h'=>h'=h∧e 0=aq eN 1 x∧e 1=aq eN 1 y∧e 5 = .int .i64 (i:Int)) ⟨rfl,rfl,rfl,rfl⟩ ?_ ?_
 ·rintro i e h' _ hi ⟨rfl,e0,e1,e5⟩ K' hn hx' hr hp
  have hv:x.l[i]?=some x.l[i]:=List.getElem?_eq_getElem hi
  generalize x.l[i]=t at hv
  have hi2:i<y.l.length:=by omega
  have hw:y.l[i]?=some y.l[i]:=List.getElem?_eq_getElem hi2
  generalize y.l[i]=u at hw
  have htu:t.l=u.l:=by
   have h1:(x.l.map Sl.l)[i]?=some t.l:=by rw [List.getElem?_map,hv];rfl
   rw [hxy,List.getElem?_map,hw] at h1
   exact (Option.some.inj h1).symm
  rw [F.di.aO]
  simp only [e0,e1,e5,aU,Nat.reduceAdd,Nat.reduceEqDiff,reduceIte,bg hi,aW x hi,aW y hi2,iG hv,iG hw]
  refine an (dO (ht t (List.mem_of_getElem? hv)) ?_)
  rw [show (t.l==u.l)=true by rw [htu];simp]
  simp only [aU,Nat.reduceAdd,Nat.reduceEqDiff,reduceIte,Bool.not_true,aG,e5,aI hi hx]
  exact hn _ _ ⟨rfl,e0,e1,rfl⟩
 ·rintro e h' ⟨rfl,e0,e1,e5⟩ K' hx'
  rw [F.di.aO]
  simp only [e0,e5,aU,Nat.reduceAdd,Nat.reduceEqDiff,reduceIte,aR]
  rw [hx',F.di.aD]
  exact hK
theorem uY{a b:ej}(hz:a.size=b.size)(hd:a.rels.l.map cY=b.rels.l.map cY)(hs:a.small){h:ag}{K:Out→ag→Bool}(hK:∀ h',K (.ret (.bool true)) h'=true):Sem Tryz.prog 15 [.agg (az a),.agg (az b)] h K:=by
 have hl:a.rels.l.length=b.rels.l.length:=by have:=congrArg List.length hd;simpa using this
 have hab:=hs.Ri
 refine F.Ae ?_
 simp only [cU (dR a),cU (dR b),bindO_some,ag.next_alloc]
 have g0:(ag.alloc (ag.alloc h (.cells (az a))) (.cells (az b))).get h.next=some (.cells (az a)):=by rw [ag.bf,ag.next_alloc,if_neg (by omega)];exact aB _ _
 have g1:(ag.alloc (ag.alloc h (.cells (az a))) (.cells (az b))).get (h.next+1)=some (.cells (az b)):=aB _ _
 have gn:(ag.alloc (ag.alloc h (.cells (az a))) (.cells (az b))).next=h.next+2:=rfl
 generalize (ag.alloc (ag.alloc h (.cells (az a))) (.cells (az b)))=H at g0 g1 gn ⊢
 have lz:ai none (.ptr h.next 0) H=some (.int .i64 a.size):=by rw [ak g0];rfl
 have lz1:ai none (.ptr (h.next+1) 0) H=some (.int .i64 b.size):=by rw [ak g1];rfl
 have lr:ai none (.ptr h.next 1) H=some (aq aQ 3 a.rels):=by rw [ak g0];rfl
 have lr1:ai none (.ptr (h.next+1) 1) H=some (aq aQ 3 b.rels):=by rw [ak g1];rfl
 simp only [aU,Nat.reduceAdd,Nat.reduceEqDiff,reduceIte,lz,lz1,lr,lr1,hz,hl,cQ,decide_true,Bool.not_true,aG]
 refine aC 0 a.rels.l.length (Nat.zero_le _) (fun i e h'=>h'.get h.next=some (.cells (az a))∧h'.get (h.next+1)=some (.cells (az b))∧h.next+2≤h'.next∧e 2 = .ptr h.next 0∧e 3 = .ptr (h.next+1) 0∧e 5 = .int .i64 (i:Int)) ⟨g0,g1,by omega,rfl,rfl,rfl⟩ ?_ ?_
 ·rintro i e h' _ hi ⟨q0,q1,qn,e2,e3,e5⟩ K' hn hx' hr hp
  have hv:a.rels.l[i]?=some a.rels.l[i]:=List.getElem?_eq_getElem hi
  generalize a.rels.l[i]=r at hv
  have hi2:i<b.rels.l.length:=by omega
  have hw:b.rels.l[i]?=some b.rels.l[i]:=List.getElem?_eq_getElem hi2
  generalize b.rels.l[i]=u at hw
  have hrm:=List.mem_of_getElem? hv
  have hru:cY r=cY u:=by
   have h1:(a.rels.l.map cY)[i]?=some (cY r):=by rw [List.getElem?_map,hv];rfl
   rw [hd,List.getElem?_map,hw] at h1
   exact (Option.some.inj h1).symm
  unfold cY at hru
  simp only [Prod.mk.injEq] at hru
  have lr:ai none (.ptr h.next 1) h'=some (aq aQ 3 a.rels):=by rw [ak q0];rfl
  have lr1:ai none (.ptr (h.next+1) 1) h'=some (aq aQ 3 b.rels):=by rw [ak q1];rfl
  have la:∀ hh,ai (some 3) (.iptr (a.rels.l.flatMap aQ) (i*3)) hh=some (.agg (aQ r)):=fun hh=>dN ee hv
  have lb:∀ hh,ai (some 3) (.iptr (b.rels.l.flatMap aQ) (i*3)) hh=some (.agg (aQ u)):=fun hh=>dN ee hw
  have y0:((h'.alloc (.cells [.str [],.int .i64 0,.nils])).alloc (.cells [.str [],.int .i64 0,.nils])).get h'.next=some (.cells [.str [],.int .i64 0,.nils]):=by rw [ag.bf,ag.next_alloc,if_neg (by omega)];exact aB _ _
  have y1:((h'.alloc (.cells [.str [],.int .i64 0,.nils])).alloc (.cells [.str [],.int .i64 0,.nils])).get (h'.next+1)=some (.cells [.str [],.int .i64 0,.nils]):=aB _ _
  have yx:bJ h' ((h'.alloc (.cells [.str [],.int .i64 0,.nils])).alloc (.cells [.str [],.int .i64 0,.nils])):=(bJ.alloc _ _).trans (bJ.alloc _ _)
  have yn:((h'.alloc (.cells [.str [],.int .i64 0,.nils])).alloc (.cells [.str [],.int .i64 0,.nils])).next=h'.next+2:=rfl
  rw [F.fP.aO]
  simp only [e2,e3,e5,aU,Nat.reduceAdd,Nat.reduceEqDiff,reduceIte,lr,lr1,bg hi,aW a.rels hi,aW b.rels hi2,la,lb,ag.next_alloc]
  generalize ((h'.alloc (.cells [.str [],.int .i64 0,.nils])).alloc (.cells [.str [],.int .i64 0,.nils]))=Y at y0 y1 yx yn ⊢
  have put3:∀ (v:Rel),hG [.str [],.int .i64 0,.nils] 0 (aQ v)=aQ v:=fun v=>by obtain ⟨nm,k,t⟩:=v;rfl
  have st1:bp 3 (.ptr h'.next 0) (.agg (aQ r)) Y=some (Y.set h'.next (.cells (aQ r))):=by
   rw [cT (n:=3) (v:=.agg (aQ r)) y0 (ee r) (fR r) (by simp)]
   show some (Y.set h'.next (.cells (hG [.str [],.int .i64 0,.nils] 0 (aQ r))))=_
   rw [put3]
  have z1:(Y.set h'.next (.cells (aQ r))).get (h'.next+1)=some (.cells [.str [],.int .i64 0,.nils]):=by rw [ag.aN,if_neg (by omega)];exact y1
  have zq1:(Y.set h'.next (.cells (aQ r))).get (h.next+1)=some (.cells (az b)):=by rw [ag.aN,if_neg (by omega),yx.get _ (by omega)];exact q1
  have zlr1:ai none (.ptr (h.next+1) 1) (Y.set h'.next (.cells (aQ r)))=some (aq aQ 3 b.rels):=by rw [ak zq1];rfl
  have st2:bp 3 (.ptr (h'.next+1) 0) (.agg (aQ u)) (Y.set h'.next (.cells (aQ r)))=some ((Y.set h'.next (.cells (aQ r))).set (h'.next+1) (.cells (aQ u))):=by
   rw [cT (n:=3) (v:=.agg (aQ u)) z1 (ee u) (fR u) (by simp)]
   show some ((Y.set h'.next (.cells (aQ r))).set (h'.next+1) (.cells (hG [.str [],.int .i64 0,.nils] 0 (aQ u))))=_
   rw [put3]
  simp only [st1,bindO_some,zlr1,AV.beq_refl,Bool.and_self,if_true,st2]
  have w0:((Y.set h'.next (.cells (aQ r))).set (h'.next+1) (.cells (aQ u))).get h'.next=some (.cells (aQ r)):=by rw [ag.aN,if_neg (by omega),ag.aN,if_pos rfl]
  have w1:((Y.set h'.next (.cells (aQ r))).set (h'.next+1) (.cells (aQ u))).get (h'.next+1)=some (.cells (aQ u)):=by rw [ag.aN,if_pos rfl]
  have wx:∀ b,b<h'.next→((Y.set h'.next (.cells (aQ r))).set (h'.next+1) (.cells (aQ u))).get b=h'.get b:=fun b hb=>by rw [ag.aN,if_neg (by omega),ag.aN,if_neg (by omega)];exact yx.get b hb
  have wn:((Y.set h'.next (.cells (aQ r))).set (h'.next+1) (.cells (aQ u))).next=h'.next+2:=by rw [ag.next_set,ag.next_set];exact yn
  generalize ((Y.set h'.next (.cells (aQ r))).set (h'.next+1) (.cells (aQ u)))=W at w0 w1 wx wn ⊢
  have k0:ai none (.ptr h'.next 0) W=some (.str r.name):=by rw [ak w0];rfl
  have k1:ai none (.ptr h'.next 1) W=some (.int .i64 r.arity):=by rw [ak w0];rfl
  have k2:ai none (.ptr h'.next 2) W=some (aq eN 1 r.tuples):=by rw [ak w0];rfl
  have j0:ai none (.ptr (h'.next+1) 0) W=some (.str u.name):=by rw [ak w1];rfl
  have j1:ai none (.ptr (h'.next+1) 1) W=some (.int .i64 u.arity):=by rw [ak w1];rfl
  have j2:ai none (.ptr (h'.next+1) 2) W=some (aq eN 1 u.tuples):=by rw [ak w1];rfl
  simp only [aU,Nat.reduceAdd,Nat.reduceEqDiff,reduceIte,k0,k1,k2,j0,j1,j2,hru.1,hru.2.1,beq_self_eq_true,Bool.not_true,aG]
  refine an (tF hru.2.2 (by have:=hs.tups r hrm;unfold cy;omega) (fun t ht=>by have:=hs.tup r hrm t ht;unfold cy;omega) ?_)
  simp only [aU,Nat.reduceAdd,Nat.reduceEqDiff,reduceIte,Bool.not_true,aG,e5,aI hi hab]
  exact hn _ _ ⟨by rw [wx _ (by omega)];exact q0,by rw [wx _ (by omega)];exact q1,by omega,e2,e3,rfl⟩
 ·rintro e h' ⟨q0,q1,qn,e2,e3,e5⟩ K' hx'
  have lr:ai none (.ptr h.next 1) h'=some (aq aQ 3 a.rels):=by rw [ak q0];rfl
  rw [F.fP.aO]
  simp only [e2,e5,aU,Nat.reduceAdd,Nat.reduceEqDiff,reduceIte,lr,aR]
  rw [hx',F.fP.aD]
  exact hK h'
theorem Kl(s:ej):fc [.int .i64 0,.nils] [(0,2)] [.agg (az s)]=some (az s):=by
 obtain ⟨z,r⟩:=s
 cases r<;>rfl
theorem cB{rules:Sl aE}{s:ej}{N:Int}(hok:∀ r ∈ rules.l,r.ok)(hsok:s.ok){h:ag}{K:Out→ag→Bool}(hK:∀ b:Bool,(b=true→∀ r ∈ rules.l,r.lB)→K (.ret (.bool b)) h=true) :
  Sem Tryz.prog 11 [aq aM 3 rules,.agg (az s),.int .i64 N] h K:=by
 have gen:∀ R:Out→ag→Bool,(∀ (b:Bool) h',(b=true→∀ r ∈ rules.l,r.lB)→R (.ret (.bool b)) h'=true)→Sem Tryz.prog 11 [aq aM 3 rules,.agg (az s),.int .i64 N] ag.empty R:=by
  intro R fin
  refine F.ye ?_
  simp only [cU (dR s),bindO_some,bT]
  have g0:(ag.empty.alloc (.cells (az s))).get 0=some (.cells (az s)):=aB _ _
  have gn:(ag.empty.alloc (.cells (az s))).next=1:=rfl
  generalize (ag.empty.alloc (.cells (az s)))=H at g0 gn ⊢
  refine an (GG (by omega) hok fun b hb=>?_)
  simp only [aU,Nat.reduceAdd,Nat.reduceEqDiff,reduceIte]
  cases b with
  |false=>
   simp only [Bool.not_false,aJ]
   exact fin false _ (fun h=>by cases h)
  |true=>
  have hfew:=hb rfl
  have l0:ai (some 2) (.ptr 0 0) H=some (.agg (az s)):=by rw [ak g0,dU (cs:=az s) (n:=2) rfl]
  have g1:(H.alloc (.cells (az s))).get H.next=some (.cells (az s)):=aB _ _
  have g0':(H.alloc (.cells (az s))).get 0=some (.cells (az s)):=by rw [ag.bf,if_neg (by omega)];exact g0
  simp only [Bool.not_true,aG,l0,bindO_some,Kl]
  generalize (H.alloc (.cells (az s)))=H2 at g1 g0' ⊢
  refine an (bW hsok g1 fun b=>?_)
  simp only [aU,Nat.reduceAdd,Nat.reduceEqDiff,reduceIte]
  cases b with
  |false=>
   simp only [Bool.not_false,aJ]
   exact fin false _ (fun h=>by cases h)
  |true=>
  have l0':ai (some 2) (.ptr 0 0) H2=some (.agg (az s)):=by rw [ak g0',dU (cs:=az s) (n:=2) rfl]
  simp only [Bool.not_true,aG,l0',bindO_some]
  refine an (bB hok hfew hsok (fun e he=>?_) fun ho=>?_)
  ·have hne:e≠0:=by
    rcases he with ⟨_,rfl⟩|⟨_,_,⟨_,rfl⟩|⟨_,_,rfl⟩⟩<;>omega
   simp only [aU,Nat.reduceAdd,Nat.reduceEqDiff,reduceIte,cQ,decide_eq_false hne,Bool.not_false,aJ]
   exact fin true _ (fun _=>hfew)
  ·obtain ⟨n,hn,n1,n64,h8⟩:=nR ho.valid
   have hnn:s.size.toNat=n:=by omega
   have hrb:rules.l.length≤cy:=by have:=ho.good.lB;unfold cy;omega
   have hpw:∀ r ∈ rules.l,n ^ (varsOf r).length≤65536:=fun r hr=>Nat.le_of_not_lt fun h=>ho.sizes (.inr (.inr ⟨r,hr,by rw [hnn];exact h⟩))
   simp only [aU,Nat.reduceAdd,Nat.reduceEqDiff,reduceIte,cQ,decide_true,Bool.not_true,aG]
   refine aC 0 rules.l.length (Nat.zero_le _) (fun i e h'=>h'=H2∧∃ q:Nat,q≤i*65536∧e 0=aq aM 3 rules∧e 2 = .int .i64 N∧e 4 = .ptr 0 0∧e 7 = .int .i64 (q:Int)∧e 8 = .int .i64 (i:Int)) ⟨rfl,0,by omega,rfl,rfl,rfl,rfl,rfl⟩ ?_ ?_
   ·rintro i e h' _ hi ⟨rfl,q,hq,e0,e2,e4,e7,e8⟩ K' hn' hx hr hp
    have hv:rules.l[i]?=some rules.l[i]:=List.getElem?_eq_getElem hi
    generalize rules.l[i]=r at hv
    have hrm:=List.mem_of_getElem? hv
    have hr65:=hpw r hrm
    have h60:=ho.good.lB
    obtain ⟨m,hgo⟩:=ho.good.go
    have hr12:=(fZ hgo r hrm).2.2
    have hvb:(varsOf r).length≤cy:=by unfold cy;omega
    have lz:ai none (.ptr 0 0) h'=some (.int .i64 (n:Int)):=by rw [ak g0',← hn];rfl
    rw [F.cB.aO]
    simp only [e0,e8,aU,Nat.reduceAdd,Nat.reduceEqDiff,reduceIte,bg hi]
    refine aC 0 (varsOf r).length (Nat.zero_le _) (fun j e h2=>h2=h'∧e 0=aq aM 3 rules∧e 2 = .int .i64 N∧e 4 = .ptr 0 0∧e 7 = .int .i64 (q:Int)∧e 8 = .int .i64 (i:Int)∧e 9 = .int .i64 ((n ^ j:Nat):Int)∧e 10 = .int .i64 (j:Int)) ⟨rfl,e0,e2,e4,e7,e8,rfl,rfl⟩ ?_ ?_
    ·rintro j e h2 _ hj ⟨rfl,e0,e2,e4,e7,e8,e9,e10⟩ K2 hnn2 hx2 hr2 hp2
     have hps:n ^ (j+1)=n ^ j*n:=Nat.pow_succ n j
     have hle:=tC n1 (show j+1≤(varsOf r).length by omega)
     have hm:((n ^ j:Nat):Int)*(n:Int)=((n ^ (j+1):Nat):Int):=by rw [hps,Int.natCast_mul]
     have hmm:aA .mul (.int .i64 ((n ^ j:Nat):Int)) (.int .i64 (n:Int))=some (.int .i64 ((n ^ (j+1):Nat):Int)):=by rw [rz (by rw [hm];omega) (by rw [hm];omega),hm]
     rw [F.cB.dx]
     simp only [e0,e8,aU,Nat.reduceAdd,Nat.reduceEqDiff,reduceIte,aW rules hi,dN fK hv]
     simp only [aM]
     refine an (bE (hfew r hrm) fun x hx1=>?_)
     simp only [aU,Nat.reduceAdd,Nat.reduceEqDiff,reduceIte,hx1,e4,e9,e10,bg hj,aJ,lz,hmm,aI hj hvb]
     exact hnn2 _ _ ⟨rfl,e0,e2,e4,e7,e8,rfl,rfl⟩
    ·rintro e h2 ⟨rfl,e0,e2,e4,e7,e8,e9,e10⟩ K2 hx2
     have hadd:aA .add (.int .i64 (q:Int)) (.int .i64 ((n ^ (varsOf r).length:Nat):Int))=some (.int .i64 ((q+n ^ (varsOf r).length:Nat):Int)):=by
      rw [gH (by omega) (by omega)];rfl
     rw [F.cB.dx]
     simp only [e0,e8,aU,Nat.reduceAdd,Nat.reduceEqDiff,reduceIte,aW rules hi,dN fK hv]
     simp only [aM]
     refine an (bE (hfew r hrm) fun x hx1=>?_)
     simp only [aU,Nat.reduceAdd,Nat.reduceEqDiff,reduceIte,hx1,e10,aR,aG]
     rw [hx2,F.cB.cw]
     simp only [aU,Nat.reduceAdd,Nat.reduceEqDiff,reduceIte,e7,e8,e9,hadd,aI hi hrb]
     exact hn' _ _ ⟨rfl,q+n ^ (varsOf r).length,by rw [Nat.succ_mul];omega,e0,e2,e4,rfl,rfl⟩
   ·rintro e h' ⟨rfl,q,hq,e0,e2,e4,e7,e8⟩ K' hx
    rw [F.cB.aO]
    simp only [e0,e8,aU,Nat.reduceAdd,Nat.reduceEqDiff,reduceIte,aR]
    rw [hx,F.cB.aD]
    simp only [aU,Nat.reduceAdd,Nat.reduceEqDiff,reduceIte,e2,e7]
    exact fin _ _ (fun _=>hfew)
 have main:=gen (fun o h'=>yes (∃ b:Bool,o = .ret (.bool b)∧(b=true→∀ r ∈ rules.l,r.lB))) (fun b h' hb=>cD.2 ⟨b,rfl,hb⟩)
 refine main.frozen (by simp [AV.pureL,AV.pure,b8 eM,fU]) fun o h' ho=>?_
 obtain ⟨b,rfl,hb⟩:=cD.1 ho
 exact ⟨_,_,rfl,.scalar _ rfl,hK b hb⟩
theorem Fg{rs:List aE}{s:ej}{e e':Int}(h:yl rs s e)(h':yl rs s e'):e=e':=by
 rcases h with ⟨a,rfl⟩|⟨g,v,⟨a,rfl⟩|⟨a,b,rfl⟩⟩<;>rcases h' with ⟨a',rfl⟩|⟨g',v',⟨a',rfl⟩|⟨a',b',rfl⟩⟩<;>first|rfl|skip
 ·exact (a.elim (fun h=>h g') fun h=>by rw [v'] at h;cases h).elim
 ·exact (a.elim (fun h=>h g') fun h=>by rw [v'] at h;cases h).elim
 ·exact (a'.elim (fun h=>h g) fun h=>by rw [v] at h;cases h).elim
 ·exact absurd a a'
 ·exact (a'.elim (fun h=>h g) fun h=>by rw [v] at h;cases h).elim
 ·exact absurd a' a
theorem Dy{rs:List aE}{s:ej}{e:Int}(h:yl rs s e):e≠0∧¬ jo rs s:=by
 rcases h with ⟨a,rfl⟩|⟨g,v,⟨a,rfl⟩|⟨a,b,rfl⟩⟩
 ·exact ⟨by omega,fun h=>a.elim (fun h'=>h' h.good) fun h'=>by rw [h.valid] at h';cases h'⟩
 ·exact ⟨by omega,fun h=>h.names a⟩
 ·exact ⟨by omega,fun h=>h.sizes b⟩
theorem IM{rs:List aE}{s out:ej}{Fk:Lk}(ho:jo rs s)(hd:out.rels.l.map cY=s.rels.l.map cY++nx rs s.size.toNat Fk (cO rs)):out.small:=by
 have hs:=(jI ho.valid).1
 obtain ⟨m,hgo⟩:=ho.good.go
 have h60:=ho.good.lB
 have hdl:=j9 rs
 have key:∀ r ∈ out.rels.l,(∃ p ∈ s.rels.l,p.tuples.l.map Sl.l=r.tuples.l.map Sl.l)∨∃ nm ∈ cO rs,r.tuples.l.map Sl.l=uX s.size.toNat Fk nm (iK rs nm) (s.size.toNat ^ iK rs nm):=fun r hr=>by
  have h1:cY r ∈ s.rels.l.map cY++nx rs s.size.toNat Fk (cO rs):=by rw [← hd];exact List.mem_map_of_mem hr
  rcases List.mem_append.1 h1 with h1|h1
  ·obtain ⟨p,hp,e⟩:=List.mem_map.1 h1
   unfold cY at e
   simp only [Prod.mk.injEq] at e
   exact .inl ⟨p,hp,e.2.2⟩
  ·obtain ⟨nm,hnm,e⟩:=List.mem_map.1 h1
   unfold cY at e
   simp only [Prod.mk.injEq] at e
   exact .inr ⟨nm,hnm,e.2.2.symm⟩
 have har:∀ nm ∈ cO rs,iK rs nm≤12∧s.size.toNat ^ iK rs nm≤4096:=fun nm hnm=>by
  obtain ⟨_,r,hr,_,ha⟩:=rL hgo ((dQ rs).1 hnm)
  rw [ha]
  exact ⟨jQ (fZ hgo r hr).1,Nat.le_of_not_lt fun h=>ho.sizes (.inr (.inl ⟨r,hr,h⟩))⟩
 refine ⟨?_,fun r hr=>?_,fun r hr t ht=>?_⟩
 ·have h1:=congrArg List.length hd
  rw [List.length_map,List.length_append,List.length_map] at h1
  unfold nx at h1
  rw [List.length_map] at h1
  have h2:¬ 8<s.rels.l.length+(cO rs).length:=fun h=>ho.sizes (.inl h)
  omega
 ·rcases key r hr with ⟨p,hp,e⟩|⟨nm,hnm,e⟩
  ·have h1:=congrArg List.length e
   simp only [List.length_map] at h1
   have:=hs.tups p hp
   omega
  ·have h1:=congrArg List.length e
   rw [List.length_map] at h1
   have h2:=AP s.size.toNat Fk nm (iK rs nm) (s.size.toNat ^ iK rs nm)
   have:=(har nm hnm).2
   omega
 ·rcases key r hr with ⟨p,hp,e⟩|⟨nm,hnm,e⟩
  ·have h1:t.l ∈ p.tuples.l.map Sl.l:=by rw [e];exact List.mem_map_of_mem ht
   obtain ⟨u,hu,hue⟩:=List.mem_map.1 h1
   rw [← hue];exact hs.tup p hp u hu
  ·have h1:t.l ∈ uX s.size.toNat Fk nm (iK rs nm) (s.size.toNat ^ iK rs nm):=by rw [← e];exact List.mem_map_of_mem ht
   unfold uX at h1
   obtain ⟨i,_,hi⟩:=List.mem_map.1 h1
   rw [← hi,jz]
   have:=(har nm hnm).1
   omega
theorem BH{rules:Sl aE}{s:ej}(hok:∀ r ∈ rules.l,r.ok)(hsok:s.ok):Sem Tryz.prog 3 [aq aM 3 rules,.agg (az s)] ag.empty Jp:=by
 refine F.rV ?_
 simp only [cU (dR s),bindO_some,bT]
 have g0:(ag.empty.alloc (.cells (az s))).get 0=some (.cells (az s)):=aB _ _
 have gn:(ag.empty.alloc (.cells (az s))).next=1:=rfl
 generalize (ag.empty.alloc (.cells (az s)))=H at g0 gn ⊢
 have l0:ai (some 2) (.ptr 0 0) H=some (.agg (az s)):=by rw [ak g0,dU (cs:=az s) (n:=2) rfl]
 simp only [l0,bindO_some]
 refine an (cB hok hsok fun b hb=>?_)
 simp only [aU,Nat.reduceAdd,Nat.reduceEqDiff,reduceIte]
 cases b with
 |false=>
  simp only [Bool.not_false,aJ]
  refine an (vM ?_)
  simp only [aU,Nat.reduceAdd,Nat.reduceEqDiff,reduceIte];rfl
 |true=>
 have hfew:=hb rfl
 simp only [Bool.not_true,aG,l0,bindO_some]
 refine an (dh hok hfew hsok (fun hv=>(jI hv).1) (fun e he=>?_) fun ho out hz hx=>?_)
 ·have hne:=(Dy he).1
  obtain ⟨H1,hs1,p1,po1,pn1⟩:=cP (h:=H) (zs:=[.int .i64 0,.nils]) (cs:=az ⟨0,none⟩) (n:=2) rfl rfl rfl
  have p0:H1.get 0=some (.cells (az s)):=by rw [po1 0 (by omega)];exact g0
  have l1:ai (some 2) (.ptr 0 0) H1=some (.agg (az s)):=by rw [ak p0,dU (cs:=az s) (n:=2) rfl]
  have l2:ai (some 2) (.ptr H.next 0) H1=some (.agg (az ⟨0,none⟩)):=by rw [ak p1,dU (cs:=az ⟨0,none⟩) (n:=2) rfl]
  have hz:gw [.int .i64 0,.nils] [] []=some (.agg (az ⟨0,none⟩)):=rfl
  simp only [aU,Nat.reduceAdd,Nat.reduceEqDiff,reduceIte,hs1,l1]
  refine an (bB hok hfew hsok (fun e' he'=>?_) fun ho=>absurd ho (Dy he).2)
  obtain rfl:=Fg he he'
  simp only [aU,Nat.reduceAdd,Nat.reduceEqDiff,reduceIte,cQ,decide_eq_false hne,decide_true,Bool.not_false,aJ,l2,hz]
  refine an (uY rfl rfl ⟨by simp [Sl.l],fun r hr=>by simp [Sl.l] at hr,fun r hr=>by simp [Sl.l] at hr⟩ fun h'=>?_)
  simp only [aU,Nat.reduceAdd,Nat.reduceEqDiff,reduceIte,aJ]
  refine an (vM ?_)
  simp only [aU,Nat.reduceAdd,Nat.reduceEqDiff,reduceIte];rfl
 ·obtain ⟨Fk,hF,hd⟩:=hx
  obtain ⟨H1,hs1,p1,po1,pn1⟩:=cP (h:=H) (zs:=[.int .i64 0,.nils]) (cs:=az out) (n:=2) rfl rfl (dR out)
  have p0:H1.get 0=some (.cells (az s)):=by rw [po1 0 (by omega)];exact g0
  have l1:ai (some 2) (.ptr 0 0) H1=some (.agg (az s)):=by rw [ak p0,dU (cs:=az s) (n:=2) rfl]
  have l2:ai (some 2) (.ptr H.next 0) H1=some (.agg (az out)):=by rw [ak p1,dU (cs:=az out) (n:=2) rfl]
  simp only [aU,Nat.reduceAdd,Nat.reduceEqDiff,reduceIte,hs1,l1]
  refine an (bB hok hfew hsok (fun e' he'=>absurd ho (Dy he').2) fun _=>?_)
  simp only [aU,Nat.reduceAdd,Nat.reduceEqDiff,reduceIte,cQ,decide_true,Bool.not_true,aG,aJ,l1,l2]
  refine an (bu hfew ho fun out2 hz2 hx2=>?_)
  obtain ⟨Fk2,hF2,hd2⟩:=hx2
  obtain rfl:=hF.unique hF2
  simp only [aU,Nat.reduceAdd,Nat.reduceEqDiff,reduceIte,l2,AV.beq_refl,Bool.and_self,if_true]
  refine an (uY (by rw [hz,hz2]) (by rw [hd,hd2]) (IM ho hd) fun h'=>?_)
  simp only [aU,Nat.reduceAdd,Nat.reduceEqDiff,reduceIte,aJ]
  refine an (vM ?_)
  simp only [aU,Nat.reduceAdd,Nat.reduceEqDiff,reduceIte];rfl
end
end Go.AM