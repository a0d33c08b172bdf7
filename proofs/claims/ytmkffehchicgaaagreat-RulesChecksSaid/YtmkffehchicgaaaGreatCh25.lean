/- Parts of a proof, merged out of smaller texts: the abstract machine and what functions do. Conditions: none. -/
import Derived.Test.YtmkffehchicgaaaGreatCh15
import Derived.Test.YtmkffehchicgaaaGreatCh16
import Derived.Test.YtmkffehchicgaaaGreatCh24
set_option linter.unusedSimpArgs false
set_option linter.unusedVariables false
namespace Go.AM
open Go Go.Proofs
noncomputable section
theorem JD(t:gq):(g8 t).length=3:=rfl
theorem JE(t:gq):br (g8 t)=true:=rfl
theorem gy{s:dw}(hs:s.ok)(hv:di s=true){h:ag}{K:Out→ag→Bool}(hK:∀ cs:List AV,∀ x:Sl gq,x.l=lE s→cs[2]?=some (aq g8 3 x)→K (.ret (.iptr cs 0)) h=true):Sem Tryz.prog 115 [.agg (aA s)] h K:=by
 obtain ⟨n,hn,n1,n2,h8⟩:=oA hv
 have hn':s.size.toNat=n:=by omega
 have main:Sem Tryz.prog 115 [.agg (aA s)] ag.empty (fun o h'=>yes (∃ v cs,∃ x:Sl gq,o = .ret v∧x.l=lE s∧cs[2]?=some (aq g8 3 x)∧Fz true h' v (.iptr cs 0))):=by
  have hm:dm=140737488355328:=rfl
  refine F.u9 ?_
  rw [F.xK]
  have b0:(ag.alloc ag.empty (.cells (aA s))).get 0=some (.cells (aA s)):=aI _ _
  have bn:(ag.alloc ag.empty (.cells (aA s))).next=1:=rfl
  simp only [cA (cR s),bindO_some,bp]
  generalize (ag.alloc ag.empty (.cells (aA s)))=H at b0 bn ⊢
  have ls:ai none (.ptr 0 0) H=some (.int .i64 s.size):=by rw [an b0];rfl
  have lr:ai none (.ptr 0 1) H=some (aq bA 3 s.rels):=by rw [an b0];rfl
  have ha:kJ [(.int .i64 0),(.int .i64 0),.nils,.nils,.nils,(.bool false)] [(0,1),(1,1)] [.int .i64 s.size,.int .i64 (s.rels.l.length:Int)]=some (.agg [.int .i64 s.size,.int .i64 (s.rels.l.length:Int),.nils,.nils,.nils,.bool false]):=rfl
  simp only [aQ,Nat.reduceAdd,Nat.reduceEqDiff,reduceIte,ls,lr,ha,cA (show br [.int .i64 s.size,.int .i64 (s.rels.l.length:Int),.nils,.nils,.nils,.bool false]=true from rfl),bn]
  refine aE 0 s.rels.l.length (Nat.zero_le _) (fun i e h'=>∃ a,h'.get 0=some (.cells (aA s))∧h'.get 1=some (.cells [.int .i64 s.size,.int .i64 (s.rels.l.length:Int),a,.nils,.nils,.bool false])∧Own g8 3 2 h' a ((s.rels.l.take i).map (jg n))∧2≤h'.next∧e 1 = .ptr 0 0∧e 3 = .ptr 1 0∧e 4 = .int .i64 (i:Int))
   ⟨.nils,by rw [ag.aV,bn,if_neg (by omega)];exact b0,by rw [← bn];exact aI _ _,.nil,by rw [ag.next_alloc,bn];omega,rfl,rfl,rfl⟩ ?_ ?_
  ·rintro i e h' _ hi ⟨a,q0,q1,o,qn,e1,e3,e4⟩ K' hnx hx hr hp
   have hvr:s.rels.l[i]?=some s.rels.l[i]:=List.getElem?_eq_getElem hi
   generalize s.rels.l[i]=r at hvr
   have hro:r.ok:=hs.2 r (List.mem_of_getElem? hvr)
   have hrb:=rI hv hvr
   rw [hn'] at hrb
   obtain ⟨k,hk,k12,hkc,hkt⟩:=sC hrb
   have ls:ai none (.ptr 0 0) h'=some (.int .i64 (n:Int)):=by rw [an q0,← hn];rfl
   have lr:ai none (.ptr 0 1) h'=some (aq bA 3 s.rels):=by rw [an q0];rfl
   have l2:ai none (.ptr 1 2) h'=some a:=by rw [an q1];rfl
   have nc:b6 (.ptr 1 0)=some (.ptr 1 0):=rfl
   rw [F.gy.aN]
   simp only [e1,e3,e4,aQ,Nat.reduceAdd,Nat.reduceEqDiff,reduceIte,lr,ls,l2,nc,bf hi,aS s.rels hi,nh hvr,sx hvr,oz hvr,hk]
   refine ak (dz n1 n2 k12 hkc hro.2.1 hkt ?_)
   obtain ⟨a5,h5,p5,o5,f5,n5,_,b5⟩:=o.push JD JE qn (bytes:=48) (by rw [hm,List.length_map,List.length_take];omega) (jg n r)
   have ht:jg n r=⟨r.name,k,bitsOf n k r.tuples.l⟩:=by rw [jg,hk];rfl
   have row1:fR [(.str []),(.int .i64 0),.nils] [(0,3)] [.agg (wO r.name k (bitsOf n k r.tuples.l))]=some (g8 (jg n r)):=by rw [ht];rfl
   have hne:∀ d,d<2→ep a≠some d:=fun d hd hb=>by have:=o.ge hb;omega
   have s1:h5.get 1=some (.cells [.int .i64 s.size,.int .i64 (s.rels.l.length:Int),a,.nils,.nils,.bool false]):=by rw [f5 1 (by omega) (hne 1 (by omega))];exact q1
   have c5:=o5.Bn
   have st:bL 1 (.ptr 1 2) a5 h5=some (h5.set 1 (.cells [.int .i64 s.size,.int .i64 (s.rels.l.length:Int),a5,.nils,.nils,.bool false])):=by
    rw [dV (n:=1) s1 c5.2.1 c5.1 (by simp),c5.2.2];rfl
   simp only [outK_ret,l2,bindO_some,AV.beq_refl,Bool.and_self,if_true,row1,p5,bindO2_some,e3,e4,nc,GX,Nat.zero_add,st,aK hi hs.1]
   refine hnx _ _ ⟨a5,?_,?_,?_,?_,e1,e3,rfl⟩
   ·rw [ag.aO,if_neg (by omega),f5 0 (by omega) (hne 0 (by omega))];exact q0
   ·rw [ag.aO,if_pos rfl]
   ·rw [List.take_add_one,hvr,List.map_append];exact o5.pH (by omega) _
   ·rw [ag.next_set];omega
  ·rintro e h' ⟨a,q0,q1,o,qn,e1,e3,e4⟩ K' hx
   have lr:ai none (.ptr 0 1) h'=some (aq bA 3 s.rels):=by rw [an q0];rfl
   rw [F.gy.aN]
   simp only [e1,e4,aQ,Nat.reduceAdd,Nat.reduceEqDiff,reduceIte,lr,aT]
   rw [hx,F.gy.aG]
   simp only [bt,Nat.reduceEqDiff,reduceIte,e3]
   rw [List.take_of_length_le (Nat.le_refl _)] at o
   obtain ⟨x,hx1,hx2⟩:=o.Ft (fun v y hy=>by
    simp only [g8,wO,List.mem_cons,List.not_mem_nil,or_false] at hy
    rcases hy with rfl|rfl|rfl
    ·exact .scalar _ rfl
    ·exact .scalar _ rfl
    ·exact .dD (bF CA _))
   have fz:=jB.cons (.scalar (.int .i64 s.size) rfl) (jB.cons (.scalar (.int .i64 (s.rels.l.length:Int)) rfl) (jB.cons hx2 (jB.cons (.scalar .nils rfl) (jB.cons (.scalar .nils rfl) (jB.cons (.scalar (.bool false) rfl) jB.nil)))))
   exact cw.2 ⟨_,_,x,rfl,by rw [hx1,lE,hn'],rfl,.ptr 1 0 _ _ q1 fz.len fz.rel⟩
 refine main.frozen (by simp [AV.pureL,AV.pure,er]) fun o h' ho=>?_
 obtain ⟨v,cs,x,rfl,hx,hc,hf⟩:=cw.1 ho
 exact ⟨v,_,rfl,hf,hK cs x hx hc⟩
theorem El{s:dw}(hs:s.ok)(hv:di s=true){h:ag}{K:Out→ag→Bool}(hK:∀ x:Sl gq,x.l=lE s→K (.ret (aq g8 3 x)) h=true):Sem Tryz.prog 57 [.agg (aA s)] h K:=by
 have main:Sem Tryz.prog 57 [.agg (aA s)] ag.empty (fun o h'=>yes (∃ x:Sl gq,o = .ret (aq g8 3 x)∧x.l=lE s)):=by
  refine F.om ?_
  rw [F.p8]
  simp only [cA (cR s),bindO_some,an (aI _ _),c8 (cs:=aA s) (n:=2) rfl]
  refine ak (gy hs hv fun cs x hx hc=>?_)
  simp only [outK_ret,show b6 (.iptr cs 0)=some (.iptr cs 0) from rfl,bindO_some,H9,Nat.zero_add,IP,hc]
  exact cw.2 ⟨x,rfl,hx⟩
 refine main.frozen (by simp [AV.pureL,AV.pure,er]) fun o h' ho=>?_
 obtain ⟨x,rfl,hx⟩:=cw.1 ho
 exact ⟨_,_,rfl,.dD (bF uq x),hK x hx⟩
theorem De:∀ {a b:List Int},a.length=b.length→gj a b=false→a≠b→gj b a=true
 |[],[],_,_,h=>absurd rfl h
 |x :: a,y :: b,hl,h1,h2=>by
  rw [gj] at h1 ⊢
  by_cases e:x=y
  ·subst e
   rw [if_pos rfl] at h1 ⊢
   exact De (by simpa using hl) h1 (fun h=>h2 (by rw [h]))
  ·rw [if_neg e] at h1
   rw [if_neg (Ne.symm e)]
   have:=of_decide_eq_false h1
   exact decide_eq_true (by omega)
 |[],_ :: _,hl,_,_=>by simp at hl
 |_ :: _,[],hl,_,_=>by simp at hl
def Df(n:Nat)(s:dw)(nm:bC)(r:Nat):Bool:=match s.rels.l.find? (dU nm) with
 |some q=>(jg n q).bits.getD r false
 |none=>false
theorem Dg{n:Nat}{s:dw}(hv:di s=true)(hn:s.size=(n:Int)){nm:bC}{r k:Nat}{q:Rel}(hq:s.rels.l.find? (dU nm)=some q)(hk:q.arity=(k:Int))(hr:r<n ^ k):Df n s nm r=true↔NA n (s.rels.l.map cQ) nm r:=by
 have hqm:=List.mem_of_find?_eq_some hq
 have hqn:q.name=nm:=by have:=List.find?_some hq;simpa [dU] using this
 unfold Df
 rw [hq]
 simp only [jg,bitsOf,hk,Int.toNat_natCast]
 rw [CY _ _ (by simpa using hr)]
 have:(List.replicate (n ^ k) false).getD r false=false:=by rw [List.getD_eq_getElem?_getD,List.getElem?_replicate];split<;>rfl
 rw [this,Bool.false_or,List.any_eq_true]
 constructor
 ·rintro ⟨u,hu,he⟩
  exact ⟨cQ q,List.mem_map_of_mem hqm,hqn,u,hu,by simpa using he⟩
 ·rintro ⟨d,hd,hdn,u,hu,he⟩
  obtain ⟨p,hp,rfl⟩:=List.mem_map.1 hd
  have h1:=nG (jY hv) p hp
  rw [show p.name=nm from hdn,hq] at h1
  cases h1
  exact ⟨u,hu,by simpa using he⟩
end
end Go.AM
namespace Go.AM
open Go Go.Proofs
noncomputable section
end
end Go.AM
namespace Go.AM
open Go Go.Proofs
noncomputable section
end
end Go.AM