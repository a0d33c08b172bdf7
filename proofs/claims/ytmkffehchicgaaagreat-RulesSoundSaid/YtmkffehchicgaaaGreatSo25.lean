/- Parts of a proof, merged out of smaller texts: the abstract machine and what functions do. Conditions: none. -/
import Derived.Test.YtmkffehchicgaaaGreatSo15
import Derived.Test.YtmkffehchicgaaaGreatSo16
import Derived.Test.YtmkffehchicgaaaGreatSo24
set_option linter.unusedSimpArgs false
set_option linter.unusedVariables false
namespace Go.AM
open Go Go.Proofs
noncomputable section
theorem Bh:∀ {a b:List Int},a.length=b.length→ee a b=false→a≠b→ee b a=true
 |[],[],_,_,h=>absurd rfl h
 |x :: a,y :: b,hl,h1,h2=>by
  rw [ee] at h1 ⊢
  by_cases e:x=y
  ·subst e
   rw [if_pos rfl] at h1 ⊢
   exact Bh (by simpa using hl) h1 (fun h=>h2 (by rw [h]))
  ·rw [if_neg e] at h1
   rw [if_neg (Ne.symm e)]
   have:=of_decide_eq_false h1
   exact decide_eq_true (by omega)
 |[],_ :: _,hl,_,_=>by simp at hl
 |_ :: _,[],hl,_,_=>by simp at hl
end
end Go.AM
namespace Go.AM
open Go Go.Proofs
noncomputable section
end
end Go.AM
namespace Go.AM
open Go Go.Proofs
noncomputable section
theorem od{x y:Sl Int}(hx:x.l.length≤cy)(hxy:x.l.length=y.l.length){h:af}{K:Out→af→Bool}(hK:∀ c:Int,(c<0↔ee x.l y.l=true)→(c=0↔x.l=y.l)→K (.ret (.int .i64 c)) h=true):Sem Tryz.prog 90 [aq encI 1 x,aq encI 1 y] h K:=by
 refine F.gw ?_
 rw [F.gL]
 simp only [aQ,Nat.reduceAdd,Nat.reduceEqDiff,reduceIte]
 refine aE 0 x.l.length (Nat.zero_le _) (fun i e h'=>h'=h∧e 0=aq encI 1 x∧e 1=aq encI 1 y∧e 9=aq encI 1 x∧e 10 = .int .i64 (x.l.length:Int)∧e 11 = .int .i64 (i:Int)∧ee x.l y.l=ee (x.l.drop i) (y.l.drop i)∧x.l.take i=y.l.take i) ⟨rfl,rfl,rfl,rfl,rfl,rfl,rfl,rfl⟩ ?_ ?_
 ·rintro i e h' _ hi ⟨rfl,e0,e1,e9,e10,e11,hl,ht⟩ K' hn hx' hr hp
  have hi2:i<y.l.length:=by omega
  have hv:x.l[i]?=some x.l[i]:=List.getElem?_eq_getElem hi
  have hw:y.l[i]?=some y.l[i]:=List.getElem?_eq_getElem hi2
  rw [r7 hv hw] at hl
  generalize x.l[i]=a at hv hl
  generalize y.l[i]=b at hw hl
  rw [F.bu.aP]
  simp only [e0,e1,e9,e10,e11,aQ,Nat.reduceAdd,Nat.reduceEqDiff,reduceIte,bf hi,aT x hi,aT y hi2,fB hv,fB hw,decide_eq_false (by omega:¬ (y.l.length:Int)≤(i:Int))]
  refine an (vG fun c c1 c2=>?_)
  simp only [aQ,Nat.reduceAdd,Nat.reduceEqDiff,reduceIte,ct]
  by_cases hab:a=b
  ·rw [if_pos hab] at hl
   simp only [decide_eq_true (c1.2 hab),Bool.not_true,aC,aK hi hx,bindO_some]
   exact hn _ _ ⟨rfl,e0,e1,e9,e10,rfl,hl,by rw [List.take_add_one,List.take_add_one,ht,hv,hw,hab]⟩
  ·rw [if_neg hab] at hl
   simp only [decide_eq_false (fun h=>hab (c1.1 h)),Bool.not_false,aD]
   rw [hr,F.bu.bp]
   simp only [bE,Nat.reduceEqDiff,reduceIte]
   refine hK c ?_ ?_
   ·rw [hl,decide_eq_true_iff];exact c2
   ·exact ⟨fun h=>absurd (c1.1 h) hab,fun h=>absurd (Option.some.inj (hv.symm.trans ((congrArg (·[i]?) h).trans hw))) hab⟩
 ·rintro e h' ⟨rfl,e0,e1,e9,e10,e11,hl,ht⟩ K' hx'
  rw [F.bu.aP]
  simp only [e10,e11,aQ,Nat.reduceAdd,Nat.reduceEqDiff,reduceIte,aR]
  rw [hx',F.bu.aG]
  simp only [e0,e1,aQ,Nat.reduceAdd,Nat.reduceEqDiff,reduceIte,decide_eq_false (by omega:¬ (x.l.length:Int)<(y.l.length:Int))]
  rw [List.drop_of_length_le (Nat.le_refl _)] at hl
  rw [List.take_of_length_le (Nat.le_refl _),List.take_of_length_le (by omega)] at ht
  exact hK 0 (by rw [hl];exact ⟨fun h=>absurd h (by omega),fun h=>by cases h⟩) ⟨fun _=>ht,fun _=>rfl⟩
theorem sq:∀ t:List Int,ee t t=false
 |[]=>rfl
 |a :: t=>by rw [ee,if_pos rfl];exact sq t
theorem KX{a b:Nat}(h1:a+b≤4000000){h:af}:aF .add (.int .i64 (a:Int)) (.int .i64 (b:Int))=some (.int .i64 ((a+b:Nat):Int))∧gu (.int .u64) (.int .i64 ((a+b:Nat):Int)) h=some (.int .u64 ((a+b:Nat):Int),h) ∧
  aF .shr (.int .u64 ((a+b:Nat):Int)) (.int .u64 1)=some (.int .u64 (((a+b)/2:Nat):Int))∧gu (.int .i64) (.int .u64 (((a+b)/2:Nat):Int)) h=some (.int .i64 (((a+b)/2:Nat):Int),h):=by
 refine ⟨?_,?_,?_,?_⟩
 ·rw [fJ (by omega) (by omega)];rfl
 ·simp only [gu];rw [IntWalk.u64_in _ (by omega)]
 ·have:(((a+b:Nat):Int)).fdiv (2 ^ 1)=(((a+b)/2:Nat):Int):=by
   rw [Int.fdiv_eq_ediv_of_nonneg _ (by omega)];rfl
  simp only [aF,xh,if_true]
  rw [if_neg (by omega)]
  exact congrArg (fun z=>some (AV.int .u64 z)) this
 ·simp only [gu];rw [IntWalk.i64_in _ (by omega)]
theorem qR{x:Sl (Sl Int)}{t:Sl Int}(hl:x.l.length≤1000000)(hk:∀ u ∈ x.l,u.l.length=t.l.length)(htl:t.l.length≤cy)(hs:Bg (x.l.map Sl.l)){h:af}{K:Out→af→Bool}
  (hK:∀ n:Int,K (.ret (.tuple [.int .i64 n,.bool (decide (t.l ∈ x.l.map Sl.l))])) h=true):Sem Tryz.prog 89 [aq ey 1 x,aq encI 1 t,.func 90 [] []] h K:=by
 have hsort:∀ (a b:Nat) (u v:Sl Int),x.l[a]?=some u→x.l[b]?=some v→a<b→ee u.l v.l=true:=fun a b u v hu hv hab=>by
  have h1:=List.pairwise_iff_getElem.1 hs
  obtain ⟨p1,q1⟩:=List.getElem?_eq_some_iff.1 hu
  obtain ⟨p2,q2⟩:=List.getElem?_eq_some_iff.1 hv
  have:=h1 a b (by simpa using p1) (by simpa using p2) hab
  rwa [List.getElem_map,List.getElem_map,q1,q2] at this
 refine F.fL ?_
 rw [F.fO]
 simp only [aQ,Nat.reduceAdd,Nat.reduceEqDiff,reduceIte]
 refine iZ (fun m e h'=>∃ i j:Nat,m=j-i∧i≤j∧j≤x.l.length∧h'=h∧(∀ a u,a<i→x.l[a]?=some u→ee u.l t.l=true)∧(∀ a u,j≤a→x.l[a]?=some u→ee u.l t.l=false)∧e 0=aq ey 1 x∧e 1=aq encI 1 t∧e 2 = .func 90 [] []∧e 8 = .int .i64 (x.l.length:Int)∧e 9 = .int .i64 (i:Int)∧e 10 = .int .i64 (j:Int)) x.l.length
  ⟨0,x.l.length,rfl,Nat.zero_le _,Nat.le_refl _,rfl,fun a u ha=>absurd ha (by omega),fun a u ha hu=>absurd (List.getElem?_eq_some_iff.1 hu).1 (by omega),rfl,rfl,rfl,rfl,rfl,rfl⟩ ?_
 rintro m e h' ⟨i,j,rfl,hij,hj,rfl,hlo,hhi,e0,e1,e2,e8,e9,e10⟩
 rw [F.br.aP]
 by_cases hlt:i<j
 ·obtain ⟨o1,o2,o3,o4⟩:=KX (a:=i) (b:=j) (by omega) (h:=h')
  have hmi:(i+j)/2<j:=by omega
  have him:i≤(i+j)/2:=by omega
  generalize (i+j)/2=q at o3 o4 hmi him
  have hq:q<x.l.length:=by omega
  have hv:x.l[q]?=some x.l[q]:=List.getElem?_eq_getElem hq
  generalize x.l[q]=u at hv
  have hum:=List.mem_of_getElem? hv
  simp only [e0,e1,e2,e9,e10,aQ,Nat.reduceAdd,Nat.reduceEqDiff,reduceIte,decide_eq_true (show (i:Int)<(j:Int) by omega),o1,o2,o3,o4,aT x hq,iC hv,callV_func,List.nil_append,List.append_nil]
  refine an (od (by rw [hk u hum];exact htl) (hk u hum) fun c c1 c2=>?_)
  simp only [aQ,Nat.reduceAdd,Nat.reduceEqDiff,reduceIte]
  by_cases hc:c<0
  ·have hless:=c1.1 hc
   simp only [decide_eq_true hc,aD,aK hq (show x.l.length≤cy by unfold cy;omega),bindO_some]
   refine cz.2 ⟨j-(q+1),by omega,rfl,rfl,q+1,j,rfl,by omega,hj,rfl,fun a w ha hw=>?_,hhi,e0,e1,e2,e8,rfl,e10⟩
   by_cases haq:a=q
   ·subst haq;rw [hv] at hw;cases hw;exact hless
   ·exact mz (hsort a q w u hw hv (by omega)) hless
  ·have hless:ee u.l t.l=false:=by cases hh:ee u.l t.l with|false=>rfl|true=>exact absurd (c1.2 hh) hc
   simp only [decide_eq_false hc,aC]
   refine cz.2 ⟨q-i,by omega,rfl,rfl,i,q,rfl,him,by omega,rfl,hlo,fun a w ha hw=>?_,e0,e1,e2,e8,e9,rfl⟩
   by_cases haq:a=q
   ·subst haq;rw [hv] at hw;cases hw;exact hless
   ·cases hh:ee w.l t.l with
    |false=>rfl
    |true=>rw [mz (hsort q a u w hv hw (by omega)) hh] at hless;cases hless
 ·obtain rfl:i=j:=by omega
  simp only [e9,e10,aQ,Nat.reduceAdd,Nat.reduceEqDiff,reduceIte,decide_eq_false (show ¬ (i:Int)<(i:Int) by omega),loopK_exit]
  rw [F.br.aG]
  simp only [bE,Nat.reduceEqDiff,reduceIte,e0,e1,e2,e8,e9,aQ,Nat.reduceAdd,Nat.reduceEqDiff,reduceIte]
  by_cases hin:i<x.l.length
  ·have hv:x.l[i]?=some x.l[i]:=List.getElem?_eq_getElem hin
   generalize x.l[i]=u at hv
   have hum:=List.mem_of_getElem? hv
   simp only [bf hin,aD,aT x hin,iC hv,bindO_some,callV_func,List.nil_append,List.append_nil]
   refine an (od (by rw [hk u hum];exact htl) (hk u hum) fun c c1 c2=>?_)
   simp only [aQ,Nat.reduceAdd,Nat.reduceEqDiff,reduceIte,ct]
   have:decide (c=0)=decide (t.l ∈ x.l.map Sl.l):=by
    rw [decide_eq_decide,c2,List.mem_map]
    constructor
    ·intro he;exact ⟨u,hum,he⟩
    ·rintro ⟨w,hw,he⟩
     obtain ⟨a,ha⟩:=List.getElem?_of_mem hw
     by_cases h1:a<i
     ·have:=hlo a w h1 ha;rw [he,sq] at this;cases this
     ·by_cases h2:a=i
      ·subst h2;rw [hv] at ha;cases ha;exact he
      ·have h3:=hsort i a u w hv ha (by omega)
       rw [he,hhi i u (Nat.le_refl _) hv] at h3;cases h3
   rw [this]
   exact hK _
  ·simp only [decide_eq_false (show ¬ (i:Int)<(x.l.length:Int) by omega),aC]
   have:decide (t.l ∈ x.l.map Sl.l)=false:=by
    rw [decide_eq_false_iff_not,List.mem_map]
    rintro ⟨w,hw,he⟩
    obtain ⟨a,ha⟩:=List.getElem?_of_mem hw
    have:=hlo a w (by have:=(List.getElem?_eq_some_iff.1 ha).1;omega) ha
    rw [he,sq] at this;cases this
   rw [this] at hK
   exact hK _
theorem GS{s:dP}(hs:s.ok)(hv:cY s=true){nm:bA}{t:Sl Int}{j:Nat}{q:Rel}(hj:jc (jB nm (t.l.length:Int)) s.rels.l=(j:Int))(hq:s.rels.l[j]?=some q)(hqa:q.arity=(t.l.length:Int))(htl:t.l.length≤cy){h:af}{K:Out→af→Bool}
  (hK:K (.ret (.tuple [.bool (decide (t.l ∈ q.tuples.l.map Sl.l)),.int .i64 0])) h=true):Sem Tryz.prog 36 [.agg (aA s),.str nm,aq encI 1 t] h K:=by
 refine Sem.data (r:=.tuple [.bool (decide (t.l ∈ q.tuples.l.map Sl.l)),.int .i64 0]) ?_ (by simp [AV.pureL,AV.pure,eT,cj jQ]) hK
 clear hK
 refine F.z8 ?_
 rw [F.BU]
 simp only [cI (dD s),bindO_some,bM]
 have g0:(af.empty.alloc (.cells (aA s))).get 0=some (.cells (aA s)):=aI _ _
 generalize (af.empty.alloc (.cells (aA s)))=H at g0 ⊢
 have l0:aj (some 2) (.ptr 0 0) H=some (.agg (aA s)):=by rw [ak g0,dG (cs:=aA s) (n:=2) rfl]
 have l1:aj none (.ptr 0 1) H=some (aq bw 3 s.rels):=by rw [ak g0];rfl
 have hjl:=(List.getElem?_eq_some_iff.1 hq).1
 have hrel:=(iT.1 hv).rel _ (List.mem_map_of_mem (List.mem_of_getElem? hq))
 obtain ⟨_,k,hk1,hk12,hkp,hkt⟩:=hrel
 have hk1':q.arity=(k:Int):=hk1
 have hkl:t.l.length=k:=by omega
 simp only [l0,bindO_some]
 refine an (dg hs ?_)
 rw [hv]
 simp only [aQ,Nat.reduceAdd,Nat.reduceEqDiff,reduceIte,Bool.not_true,aC,l0]
 refine an (ze hs ?_)
 rw [hj]
 simp only [aQ,Nat.reduceAdd,Nat.reduceEqDiff,reduceIte,decide_eq_false (show ¬ (j:Int)<0 by omega),l1,aT s.rels hjl,pU hq]
 refine an (qR (by have:=(jV hv).1.tups q (List.mem_of_getElem? hq);omega) (fun u hu=>by rw [hkl];exact (hkt.1 _ (List.mem_map_of_mem hu)).1) htl hkt.2 fun n=>?_)
 simp only [aQ,Nat.reduceAdd,Nat.reduceEqDiff,reduceIte]
 exact eV rfl
end
end Go.AM