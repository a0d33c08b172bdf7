/- Parts of a proof, merged out of smaller texts: the abstract machine and what functions do. Conditions: none. -/
import Derived.Test.YtmkffehchicgaaaGreatLe15
import Derived.Test.YtmkffehchicgaaaGreatLe23
set_option linter.unusedSimpArgs false
set_option linter.unusedVariables false
namespace Go.AM
open Go Go.Proofs
noncomputable section
theorem Ip(t:BZ):(iH t).length=3:=rfl
theorem Iq(t:BZ):bL (iH t)=true:=rfl
theorem gv{s:dJ}(hs:s.ok)(hv:cT s=true){h:ag}{K:Out→ag→Bool}(hK:∀ cs:List AV,∀ x:Sl BZ,x.l=fL s→cs[2]?=some (an iH 3 x)→K (.ret (.iptr cs 0)) h=true):Sem Tryz.prog 115 [.agg (az s)] h K:=by
 obtain ⟨n,hn,n1,n2,h8⟩:=nK hv
 have hn':s.size.toNat=n:=by omega
 have main:Sem Tryz.prog 115 [.agg (az s)] ag.empty (fun o h'=>yes (∃ v cs,∃ x:Sl BZ,o = .ret v∧x.l=fL s∧cs[2]?=some (an iH 3 x)∧Fz true h' v (.iptr cs 0))):=by
  have hm:cX=140737488355328:=rfl
  refine F.CM ?_
  have b0:(ag.alloc ag.empty (.cells (az s))).get 0=some (.cells (az s)):=aC _ _
  have bn:(ag.alloc ag.empty (.cells (az s))).next=1:=rfl
  simp only [cY (dw s),bindO_some,bG]
  generalize (ag.alloc ag.empty (.cells (az s)))=H at b0 bn ⊢
  have ls:ai none (.ptr 0 0) H=some (.int .i64 s.size):=by rw [au b0];rfl
  have lr:ai none (.ptr 0 1) H=some (an bt 3 s.rels):=by rw [au b0];rfl
  have ha:gQ [(.int .i64 0),(.int .i64 0),.nils,.nils,.nils,(.bool false)] [(0,1),(1,1)] [.int .i64 s.size,.int .i64 (s.rels.l.length:Int)]=some (.agg [.int .i64 s.size,.int .i64 (s.rels.l.length:Int),.nils,.nils,.nils,.bool false]):=rfl
  simp only [aV,Nat.reduceAdd,Nat.reduceEqDiff,reduceIte,ls,lr,ha,cY (show bL [.int .i64 s.size,.int .i64 (s.rels.l.length:Int),.nils,.nils,.nils,.bool false]=true from rfl),bn]
  refine aB 0 s.rels.l.length (Nat.zero_le _) (fun i e h'=>∃ a,h'.get 0=some (.cells (az s))∧h'.get 1=some (.cells [.int .i64 s.size,.int .i64 (s.rels.l.length:Int),a,.nils,.nils,.bool false])∧Own iH 3 2 h' a ((s.rels.l.take i).map (sg n))∧2≤h'.next∧e 1 = .ptr 0 0∧e 3 = .ptr 1 0∧e 4 = .int .i64 (i:Int))
   ⟨.nils,by rw [ag.aW,bn,if_neg (by omega)];exact b0,by rw [← bn];exact aC _ _,.nil,by rw [ag.next_alloc,bn];omega,rfl,rfl,rfl⟩ ?_ ?_
  ·rintro i e h' _ hi ⟨a,q0,q1,o,qn,e1,e3,e4⟩ K' hnx hx hr hp
   have hvr:s.rels.l[i]?=some s.rels.l[i]:=List.getElem?_eq_getElem hi
   generalize s.rels.l[i]=r at hvr
   have hro:r.ok:=hs.2 r (List.mem_of_getElem? hvr)
   have hrb:=qF hv hvr
   rw [hn'] at hrb
   obtain ⟨k,hk,k12,hkc,hkt⟩:=uE hrb
   have ls:ai none (.ptr 0 0) h'=some (.int .i64 (n:Int)):=by rw [au q0,← hn];rfl
   have lr:ai none (.ptr 0 1) h'=some (an bt 3 s.rels):=by rw [au q0];rfl
   have l2:ai none (.ptr 1 2) h'=some a:=by rw [au q1];rfl
   have nc:bS (.ptr 1 0)=some (.ptr 1 0):=rfl
   rw [F.gv.aN]
   simp only [e1,e3,e4,aV,Nat.reduceAdd,Nat.reduceEqDiff,reduceIte,lr,ls,l2,nc,aY hi,aP s.rels hi,jZ hvr,nJ hvr,jy hvr,hk]
   refine ak (dP n1 n2 k12 hkc hro.2.1 hkt ?_)
   obtain ⟨a5,h5,p5,o5,f5,n5,_,b5⟩:=o.push Ip Iq qn (bytes:=48) (by rw [hm,List.length_map,List.length_take];omega) (sg n r)
   have ht:sg n r=⟨r.name,k,bitsOf n k r.tuples.l⟩:=by rw [sg,hk];rfl
   have row1:eF [(.str []),(.int .i64 0),.nils] [(0,3)] [.agg (vO r.name k (bitsOf n k r.tuples.l))]=some (iH (sg n r)):=by rw [ht];rfl
   have hne:∀ d,d<2→dV a≠some d:=fun d hd hb=>by have:=o.ge hb;omega
   have s1:h5.get 1=some (.cells [.int .i64 s.size,.int .i64 (s.rels.l.length:Int),a,.nils,.nils,.bool false]):=by rw [f5 1 (by omega) (hne 1 (by omega))];exact q1
   have c5:=o5.nj
   have st:bg 1 (.ptr 1 2) a5 h5=some (h5.set 1 (.cells [.int .i64 s.size,.int .i64 (s.rels.l.length:Int),a5,.nils,.nils,.bool false])):=by
    rw [cZ (n:=1) s1 c5.2.1 c5.1 (by simp),c5.2.2];rfl
   simp only [outK_ret,l2,bindO_some,AV.beq_refl,Bool.and_self,if_true,row1,p5,bindO2_some,e3,e4,nc,sI,Nat.zero_add,st,aE hi hs.1]
   refine hnx _ _ ⟨a5,?_,?_,?_,?_,e1,e3,rfl⟩
   ·rw [ag.aO,if_neg (by omega),f5 0 (by omega) (hne 0 (by omega))];exact q0
   ·rw [ag.aO,if_pos rfl]
   ·rw [List.take_add_one,hvr,List.map_append];exact o5.lp (by omega) _
   ·rw [ag.next_set];omega
  ·rintro e h' ⟨a,q0,q1,o,qn,e1,e3,e4⟩ K' hx
   have lr:ai none (.ptr 0 1) h'=some (an bt 3 s.rels):=by rw [au q0];rfl
   rw [F.gv.aN]
   simp only [e1,e4,aV,Nat.reduceAdd,Nat.reduceEqDiff,reduceIte,lr,aR]
   rw [hx,F.gv.aD]
   simp only [bu,Nat.reduceEqDiff,reduceIte,e3]
   rw [List.take_of_length_le (Nat.le_refl _)] at o
   obtain ⟨x,hx1,hx2⟩:=o.Bb (fun v y hy=>by
    simp only [iH,vO,List.mem_cons,List.not_mem_nil,or_false] at hy
    rcases hy with rfl|rfl|rfl
    ·exact .scalar _ rfl
    ·exact .scalar _ rfl
    ·exact .cU (bE BE _))
   have fz:=iQ.cons (.scalar (.int .i64 s.size) rfl) (iQ.cons (.scalar (.int .i64 (s.rels.l.length:Int)) rfl) (iQ.cons hx2 (iQ.cons (.scalar .nils rfl) (iQ.cons (.scalar .nils rfl) (iQ.cons (.scalar (.bool false) rfl) iQ.nil)))))
   exact cw.2 ⟨_,_,x,rfl,by rw [hx1,fL,hn'],rfl,.ptr 1 0 _ _ q1 fz.len fz.rel⟩
 refine main.frozen (by simp [AV.pureL,AV.pure,eT]) fun o h' ho=>?_
 obtain ⟨v,cs,x,rfl,hx,hc,hf⟩:=cw.1 ho
 exact ⟨v,_,rfl,hf,hK cs x hx hc⟩
theorem Dd{s:dJ}(hs:s.ok)(hv:cT s=true){h:ag}{K:Out→ag→Bool}(hK:∀ x:Sl BZ,x.l=fL s→K (.ret (an iH 3 x)) h=true):Sem Tryz.prog 57 [.agg (az s)] h K:=by
 have main:Sem Tryz.prog 57 [.agg (az s)] ag.empty (fun o h'=>yes (∃ x:Sl BZ,o = .ret (an iH 3 x)∧x.l=fL s)):=by
  refine F.vm ?_
  simp only [cY (dw s),bindO_some,au (aC _ _),dA (cs:=az s) (n:=2) rfl]
  refine ak (gv hs hv fun cs x hx hc=>?_)
  simp only [outK_ret,show bS (.iptr cs 0)=some (.iptr cs 0) from rfl,bindO_some,GD,Nat.zero_add,Hw,hc]
  exact cw.2 ⟨x,rfl,hx⟩
 refine main.frozen (by simp [AV.pureL,AV.pure,eT]) fun o h' ho=>?_
 obtain ⟨x,rfl,hx⟩:=cw.1 ho
 exact ⟨_,_,rfl,.cU (bE tu x),hK x hx⟩
theorem ES:eF [.nils] [(0,1)] [.nils]=some [.nils]:=rfl
theorem vZ:∀ {a b:List Int},a.length=b.length→eV a b=false→a≠b→eV b a=true
 |[],[],_,_,h=>absurd rfl h
 |x :: a,y :: b,hl,h1,h2=>by
  rw [eV] at h1 ⊢
  by_cases e:x=y
  ·subst e
   rw [if_pos rfl] at h1 ⊢
   exact vZ (by simpa using hl) h1 (fun h=>h2 (by rw [h]))
  ·rw [if_neg e] at h1
   rw [if_neg (Ne.symm e)]
   have:=of_decide_eq_false h1
   exact decide_eq_true (by omega)
 |[],_ :: _,hl,_,_=>by simp at hl
 |_ :: _,[],hl,_,_=>by simp at hl
theorem Gf{l:List (List Int)}(hs:lF l){k:Nat}{x:List Int}(h1:∀ y ∈ l.drop k,eV x y=true)(h2:∀ y ∈ l.take k,eV y x=true):lF (l.take k++x :: l.drop k):=by
 have hs':lF (l.take k++l.drop k):=by rw [List.take_append_drop];exact hs
 obtain ⟨p1,p2,p3⟩:=List.pairwise_append.1 hs'
 refine List.pairwise_append.2 ⟨p1,List.pairwise_cons.2 ⟨h1,p2⟩,fun a ha b hb=>?_⟩
 rcases List.mem_cons.1 hb with rfl|hb
 ·exact h2 a ha
 ·exact p3 a ha b hb
theorem Gg{l:List (List Int)}(hs:lF l){k:Nat}{x y:List Int}(hy:l[k]?=some y)(h:eV y x=true):∀ z ∈ l.take (k+1),eV z x=true:=by
 intro z hz
 rw [List.take_add_one,hy] at hz
 rcases List.mem_append.1 hz with hz|hz
 ·have hk:=(List.getElem?_eq_some_iff.1 hy).1
  have hs':lF (l.take k++l.drop k):=by rw [List.take_append_drop];exact hs
  have:=(List.pairwise_append.1 hs').2.2 z hz y (by
   rw [List.drop_eq_getElem_cons hk]
   rw [List.getElem?_eq_getElem hk] at hy;cases hy
   exact List.mem_cons_self)
  exact qL this h
 ·simp at hz;subst hz;exact h
theorem GZ:∀ (new cs:List AV) (off:Nat),off+new.length≤cs.length→gX cs off new=cs.take off++new++cs.drop (off+new.length)
 |[],cs,off,_=>by simp [gX]
 |v :: vs,cs,off,h=>by
  simp only [List.length_cons] at h
  rw [gX,GZ vs _ _ (by simp;omega)]
  have h1:(cs.set off v).take (off+1)=cs.take off++[v]:=by
   rw [List.take_add_one,List.getElem?_set_self (by omega),List.take_set_of_le (Nat.le_refl _)];rfl
  have h2:(cs.set off v).drop (off+1+vs.length)=cs.drop (off+(v :: vs).length):=by
   rw [List.drop_set_of_lt (by omega)];congr 1;simp;omega
  rw [h1,h2];simp
def gC(p:PB):AV:=.slice p.1 0 p.2.length 1
theorem Gh:∀ ps:List PB,ps.flatMap ta=ps.map gC
 |[]=>rfl
 |p :: ps=>by rw [List.flatMap_cons,Gh ps];rfl
theorem ET:∀ ps:List PB,bL (ps.map gC)=true
 |[]=>rfl
 |p :: ps=>by rw [List.map_cons,bL,ET ps];rfl
theorem JY{k:Nat}{h:ag}{a:AV}{ps:List PB}(n:nh k h a ps)(hroom:ps.length≤1000000) :
  ∃ h',bW 1 24 a (.slice h.next 0 1 1) (h.alloc (.cells [.nils]))=some (.slice (h.next+1) 0 (ps.length+1) 1,h')∧h'.get (h.next+1)=some (.cells (ps.map gC++[.nils]))∧h'.next=h.next+2∧∀ c,c<h.next→dV a≠some c→h'.get c=h.get c:=by
 have hm:cX=140737488355328:=rfl
 have g:(h.alloc (.cells [.nils])).get h.next=some (.cells [.nils]):=aC _ _
 have hf:fT 1 1 (.slice h.next 0 1 1) (h.alloc (.cells [.nils]))=some [.nils]:=by simp [fT,g]
 obtain ⟨o,_⟩:=n
 cases o with
 |nil=>
  refine ⟨(h.alloc (.cells [.nils])).alloc (.cells [.nils]),?_,?_,rfl,fun c hc _=>?_⟩
  ·simp only [bW,jm,hf]
   rw [if_neg (by decide),if_pos (by simp [bL,AV.one];omega)]
   rfl
  ·have:=aC (h.alloc (.cells [.nils])) (.cells [.nils])
   rwa [ag.next_alloc] at this
  ·rw [ag.aW,ag.next_alloc,if_neg (by omega),ag.aW,if_neg (by omega)]
 |row b ps h1 h2 h3=>
  rw [Gh] at h3
  have g2:(h.alloc (.cells [.nils])).get b=some (.cells (ps.map gC)):=by rw [ag.aW,if_neg (by omega)];exact h3
  refine ⟨((h.alloc (.cells [.nils])).set b .dead).alloc (.cells (ps.map gC++[.nils])),?_,?_,?_,fun c hc hb=>?_⟩
  ·simp only [bW,jm,hf,if_true,g2]
   rw [if_neg (by decide),if_pos (by simp [bL,AV.one];omega)]
   simp only [ag.next_set,ag.next_alloc,List.drop_zero,Nat.mul_one]
   rw [List.take_of_length_le (by simp)]
  ·have:=aC ((h.alloc (.cells [.nils])).set b .dead) (.cells (ps.map gC++[.nils]))
   rwa [ag.next_set,ag.next_alloc] at this
  ·rw [ag.next_alloc,ag.next_set,ag.next_alloc]
  ·rw [ag.aW,ag.next_set,ag.next_alloc,if_neg (by omega),ag.aO,if_neg (fun e=>hb (by rw [e];rfl)),ag.aW,if_neg (by omega)]
theorem Ir{k0:Nat}{h:ag}{a:AV}{ps:List PB}(n:nh k0 h a ps)(hk0:k0≤h.next)(hroom:ps.length≤1000000){k:Nat}(hk:k≤ps.length)(t:Sl Int)(ht:t.l.length≤1000000) :
  ∃ x22 h23 x25 x26 x27 h28 x32 h33 x34 h35 p,bW 1 24 a (.slice h.next 0 1 1) (h.alloc (.cells [.nils]))=some (x22,h23) ∧
   (∀ q:IntKind,ff (some 1) x22 (some (.int q ((k+1:Nat):Int))) none=some x25)∧(∀ q:IntKind,ff (some 1) x22 (some (.int q (k:Int))) none=some x26)∧wg 1 x25 x26 h23=some (x27,h28) ∧
   bW 1 8 (.slice h28.next 0 0 1) (an encI 1 t) (h28.alloc (.cells []))=some (x32,h33)∧(∀ q:IntKind,cL 1 x22 (.int q (k:Int))=some x34)∧bg 1 x34 x32 h33=some h35∧p.2=t.l∧nh k0 h35 x22 (ps.take k++p :: ps.drop k)∧k0≤h35.next:=by
 obtain ⟨h1,a1,g1,n1,f1⟩:=JY n hroom
 have hc1:(ps.map gC++[AV.nils]).length=ps.length+1:=by simp
 have hs1:∀ q:IntKind,ff (some 1) (.slice (h.next+1) 0 (ps.length+1) 1) (some (.int q ((k+1:Nat):Int))) none=some (.slice (h.next+1) (k+1) (ps.length-k) 1):=fun q=>by
  have hh:((k+1:Nat):Int).toNat=k+1:=rfl
  simp only [ff,jm,kZ,asNat]
  rw [if_pos (by omega)]
  simp only [hh]
  rw [if_pos (by simp;omega)]
  simp
 have hs2:∀ q:IntKind,ff (some 1) (.slice (h.next+1) 0 (ps.length+1) 1) (some (.int q (k:Int))) none=some (.slice (h.next+1) k (ps.length+1-k) 1):=fun q=>by
  simp only [ff,jm,kZ,asNat]
  rw [if_pos (by omega)]
  simp only [Int.toNat_natCast]
  rw [if_pos (by simp;omega)]
  simp
 have hmin:Nat.min (ps.length-k) (ps.length+1-k)=ps.length-k:=Nat.min_eq_left (by omega)
 have hmin':Nat.min (ps.length+1-k) (ps.length-k)=ps.length-k:=Nat.min_eq_right (by omega)
 have hnew:((ps.map gC++[AV.nils]).drop k).take (ps.length-k)=(ps.drop k).map gC:=by
  rw [List.drop_append_of_le_length (by simp;omega),List.take_append_of_le_length (by simp),← List.map_drop,List.take_of_length_le (by simp)]
 have hput:gX (ps.map gC++[AV.nils]) (k+1) ((ps.drop k).map gC)=(ps.map gC++[AV.nils]).take (k+1)++(ps.drop k).map gC:=by
  have hl:(k+1)+((ps.drop k).map gC).length≤(ps.map gC++[AV.nils]).length:=by simp;omega
  have hd:(ps.map gC++[AV.nils]).drop (k+1+((ps.drop k).map gC).length) = []:=List.drop_of_length_le (by simp;omega)
  rw [GZ _ _ _ hl,hd,List.append_nil]
 have hcp:wg 1 (.slice (h.next+1) (k+1) (ps.length-k) 1) (.slice (h.next+1) k (ps.length+1-k) 1) h1=some (.int .i64 ((ps.length-k:Nat):Int),h1.set (h.next+1) (.cells ((ps.map gC++[AV.nils]).take (k+1)++(ps.drop k).map gC))):=by
  have hfs:fT 1 (ps.length-k) (.slice (h.next+1) k (ps.length+1-k) 1) h1=some ((ps.drop k).map gC):=by
   simp only [fT,g1,if_true,Nat.mul_one]
   rw [if_pos (by simp;omega),hnew]
  simp only [wg,jm,if_true,hmin,hmin',hfs,g1]
  rw [if_pos (by rw [Bool.and_eq_true,Bool.and_eq_true];exact ⟨⟨ET _,decide_eq_true (by rw [hc1];omega)⟩,decide_eq_true (by simp)⟩),hput]
 have hx:∀ c,c<h.next→dV a≠some c→(h1.set (h.next+1) (.cells ((ps.map gC++[AV.nils]).take (k+1)++(ps.drop k).map gC))).get c=h.get c:=fun c hc hb=>by rw [ag.aO,if_neg (by omega)];exact f1 c hc hb
 have g2:(h1.set (h.next+1) (.cells ((ps.map gC++[AV.nils]).take (k+1)++(ps.drop k).map gC))).get (h.next+1)=some (.cells ((ps.map gC++[AV.nils]).take (k+1)++(ps.drop k).map gC)):=by rw [ag.aO,if_pos rfl]
 have n2:(h1.set (h.next+1) (.cells ((ps.map gC++[AV.nils]).take (k+1)++(ps.drop k).map gC))).next=h.next+2:=by rw [ag.next_set];exact n1
 generalize (h1.set (h.next+1) (.cells ((ps.map gC++[AV.nils]).take (k+1)++(ps.drop k).map gC)))=h2 at hcp hx g2 n2
 obtain ⟨b,h3,a3,g3,x3,l3,m3⟩:=rB (uz kT t (h2.alloc (.cells []))) ht
 have g4:h3.get (h.next+1)=some (.cells ((ps.map gC++[AV.nils]).take (k+1)++(ps.drop k).map gC)):=by rw [x3.get _ (by omega)];exact g2
 have hset:((ps.map gC++[AV.nils]).take (k+1)++(ps.drop k).map gC).set k (.slice b 0 t.l.length 1)=(ps.take k++(b,t.l) :: ps.drop k).map gC:=by
  have hlt:((ps.map gC++[AV.nils]).take (k+1)).length=k+1:=by simp;omega
  have h5:(ps.map gC++[AV.nils]).take (k+1)=(ps.take k).map gC++[((ps.map gC++[AV.nils]).getD k AV.nils)]:=by
   rw [List.take_add_one,List.take_append_of_le_length (by simp;omega),List.map_take]
   congr 1
   rw [List.getD_eq_getElem?_getD,List.getElem?_eq_getElem (by simp;omega)];rfl
  rw [h5,List.append_assoc,List.set_append_right _ _ (by simp;omega)]
  have:k-((ps.take k).map gC).length=0:=by simp;omega
  rw [this]
  simp [gC]
 have hst:bg 1 (.ptr (h.next+1) (0+k*1)) (.slice b 0 t.l.length 1) h3=some (h3.set (h.next+1) (.cells ((ps.take k++(b,t.l) :: ps.drop k).map gC))):=by
  rw [cZ (n:=1) g4 rfl rfl (by simp;omega),Nat.zero_add,Nat.mul_one,← hset];rfl
 refine ⟨_,_,_,_,_,_,_,_,_,_,(b,t.l),a1,hs1,hs2,hcp,a3,fun q=>?_,hst,rfl,⟨?_,fun p hp=>?_⟩,by rw [ag.next_set];have:=x3.next;omega⟩
 ·simp only [cL,asNat]
  rw [if_pos (by omega)]
  simp only [Int.toNat_natCast]
  rw [if_pos (by simp;omega)]
 ·have hlen:(ps.take k++(b,t.l) :: ps.drop k).length=ps.length+1:=by simp;omega
  have:=Own.row (enc:=ta) (sz:=1) (k:=k0) (h:=h3.set (h.next+1) (.cells ((ps.take k++(b,t.l) :: ps.drop k).map gC))) (h.next+1) (ps.take k++(b,t.l) :: ps.drop k) (by omega) (by rw [ag.next_set];have:=x3.next;omega) (by rw [ag.aO,if_pos rfl,Gh])
  rwa [hlen] at this
 ·have hq:(p ∈ ps)∨p=(b,t.l):=by
   rcases List.mem_append.1 hp with h5|h5
   ·exact .inl (List.mem_of_mem_take h5)
   ·rcases List.mem_cons.1 h5 with h5|h5
    ·exact .inr h5
    ·exact .inl (List.mem_of_mem_drop h5)
  rcases hq with hq|rfl
  ·obtain ⟨c1,c2,c3,c4⟩:=n.cell p hq
   exact ⟨c1,by rw [ag.next_set];have:=x3.next;omega,by simp only [dV,ne_eq,Option.some.injEq];omega,by rw [ag.aO,if_neg (by omega),x3.get _ (by omega),hx _ c2 c3];exact c4⟩
  ·exact ⟨by show k0≤b;omega,by rw [ag.next_set];exact m3,by simp only [dV,ne_eq,Option.some.injEq];omega,by rw [ag.aO,if_neg (by show b≠_;omega)];exact g3⟩
theorem Mp{α:Type}{l:List α}{k:Nat}{x u:α}:u ∈ l.take k++x :: l.drop k↔u ∈ l∨u=x:=by
 have:u ∈ l↔u ∈ l.take k∨u ∈ l.drop k:=by rw [← List.mem_append,List.take_append_drop]
 rw [List.mem_append,List.mem_cons,this]
 constructor
 ·rintro (h|h|h)
  ·exact .inl (.inl h)
  ·exact .inr h
  ·exact .inl (.inr h)
 ·rintro ((h|h)|h)
  ·exact .inl h
  ·exact .inr (.inr h)
  ·exact .inr (.inl h)
theorem cu{x:Sl (Sl Int)}{m:Nat}(hx:x.l.length≤100000)(ht:∀ t ∈ x.l,t.l.length=m)(hm:m≤1000000) :
  Sem Tryz.prog 62 [an er 1 x] ag.empty (fun o h'=>yes (∃ v,∃ y:Sl (Sl Int),o = .ret v∧lF (y.l.map Sl.l)∧(∀ u,u ∈ y.l.map Sl.l↔u ∈ x.l.map Sl.l)∧Fz false h' v (an er 1 y))):=by
 have hbig:x.l.length≤cz:=by unfold cz;omega
 refine F.vz ?_
 refine aB 0 x.l.length (Nat.zero_le _) (fun i e h'=>∃ a ps,nh 0 h' a ps∧lF (ps.map (·.2))∧(∀ u,u ∈ ps.map (·.2)↔u ∈ (x.l.take i).map Sl.l)∧ps.length≤i∧e 0=an er 1 x∧e 3=a∧e 4 = .int .i64 (i:Int)) ⟨_,_,.nil _ _,List.Pairwise.nil,fun u=>Iff.rfl,Nat.le_refl _,rfl,rfl,rfl⟩ ?_ ?_
 ·rintro i e h' _ hi ⟨a,ps,nst,hso,hmem,hpl,e0,e3,e4⟩ K' hn hx' hr hp
  have hv:x.l[i]?=some x.l[i]:=List.getElem?_eq_getElem hi
  generalize x.l[i]=t at hv
  have htl:=ht t (List.mem_of_getElem? hv)
  have hpm:∀ p ∈ ps,p.2.length=m:=fun p hp=>by
   have:=(hmem p.2).1 (List.mem_map_of_mem hp)
   obtain ⟨u,hu,hue⟩:=List.mem_map.1 this
   rw [← hue];exact ht u (List.mem_of_mem_take hu)
  have hstep:∀ u,u ∈ (x.l.take (i+1)).map Sl.l↔u ∈ (x.l.take i).map Sl.l∨u=t.l:=fun u=>by
   rw [List.take_add_one,hv,List.map_append,List.mem_append];simp
  have done:∀ k,k≤ps.length→(∀ y ∈ (ps.map (·.2)).drop k,eV t.l y=true)→(∀ y ∈ (ps.map (·.2)).take k,eV y t.l=true)→∀ p:PB,p.2=t.l→lF ((ps.take k++p :: ps.drop k).map (·.2))∧(∀ u,u ∈ (ps.take k++p :: ps.drop k).map (·.2)↔u ∈ (x.l.take (i+1)).map Sl.l)∧(ps.take k++p :: ps.drop k).length≤i+1:=by
   intro k hk h1 h2 p hp2
   have he:(ps.take k++p :: ps.drop k).map (·.2)=(ps.map (·.2)).take k++t.l :: (ps.map (·.2)).drop k:=by rw [List.map_append,List.map_cons,hp2,List.map_take,List.map_drop]
   rw [he]
   refine ⟨Gf hso h1 h2,fun u=>?_,by simp;omega⟩
   rw [Mp,hstep,hmem]
  rw [F.cu.aN]
  simp only [e0,e3,e4,nst.own.len,aV,Nat.reduceAdd,Nat.reduceEqDiff,reduceIte,aY hi]
  refine iR (fun k e h2=>h2=h'∧k≤ps.length∧(∀ y ∈ (ps.map (·.2)).drop k,eV t.l y=true)∧e 0=an er 1 x∧e 3=a∧e 4 = .int .i64 (i:Int)∧e 5 = .int .i64 (k:Int)) ps.length ⟨rfl,Nat.le_refl _,fun y hy=>(by rw [List.drop_of_length_le (by simp)] at hy;cases hy),e0,e3,e4,rfl⟩ ?_
  rintro k e h2 ⟨rfl,hk,hdr,e0,e3,e4,e5⟩
  obtain ⟨x22,h23,x25,x26,x27,h28,x32,h33,x34,h35,p,c1,c2,c3,c4,c5,c6,c7,c8,c9,_⟩:=Ir nst (Nat.zero_le _) (by omega) hk t (by omega)
  have hk1:aA .add (.int .i64 (k:Int)) (.int .i64 1)=some (.int .i64 ((k+1:Nat):Int)):=aE (show k<k+1 by omega) (show k+1≤cz by unfold cz;omega)
  rw [F.cu.cP]
  cases k with
  |zero=>
   simp only [e5,oq,bindO_some,condB_bool,show decide ((0:Int)<((0:Nat):Int))=false from rfl,aG,loopK_exit]
   rw [F.cu.b8]
   simp only [bu,Nat.reduceEqDiff,reduceIte,e0,e3,e4,e5,oq,bindO_some,condB_bool,show decide ((0:Int)<((0:Nat):Int))=false from rfl,aG,ES,c1,bindO2_some,hk1,c2,c3,c4,rD,aP x hi,fJ hv,c5,c6,c7,aE hi hbig]
   obtain ⟨d1,d2,d3⟩:=done 0 hk hdr (fun y hy=>(by rw [List.take_zero] at hy;cases hy)) p c8
   exact hn _ _ ⟨_,_,c9,d1,d2,d3,e0,rfl,rfl⟩
  |succ k=>
   have hk':k<ps.length:=by omega
   have hpk:ps[k]?=some ps[k]:=List.getElem?_eq_getElem hk'
   generalize hq:ps[k]=q at hpk
   have hpk2:(ps.map (·.2))[k]?=some q.2:=by rw [List.getElem?_map,hpk];rfl
   have hqm:=hpm q (List.mem_of_getElem? hpk)
   obtain ⟨b,b1,_,b3⟩:=nst.at_ hpk
   obtain ⟨_,_,_,q4⟩:=nst.cell q (List.mem_of_getElem? hpk)
   have hsub:aA .sub (.int .i64 ((k+1:Nat):Int)) (.int .i64 1)=some (.int .i64 (k:Int)):=by
    rw [og (by omega) (by omega)];congr 2;omega
   have hpos:decide ((0:Int)<((k+1:Nat):Int))=true:=decide_eq_true (by omega)
   simp only [e0,e3,e4,e5,oq,bindO_some,condB_bool,hpos,aI,aP x hi,fJ hv,hsub,b1,b3 h2 (bT.refl _)]
   refine ak (Sem.Ed (r:=.bool (eV t.l q.2)) rfl (ee (x:=t) (y:=some q.2) (by unfold cz;omega) (by simp only [Sl.l_some];omega) (de rfl)) (.cons (.cU (bE gi t)) (.cons (lN q4) .nil)) ?_)
   simp only [outK_ret,condB_bool]
   cases hl:eV t.l q.2 with
   |true=>
    simp only [aI,e5,hsub,bindO_some]
    refine cw.2 ⟨k,by omega,rfl,rfl,⟨rfl,by omega,fun y hy=>?_,e0,e3,e4,rfl⟩⟩
    rw [List.drop_eq_getElem_cons (by simp;omega)] at hy
    rcases List.mem_cons.1 hy with rfl|hy
    ·simp only [List.getElem_map,hq];exact hl
    ·exact hdr y hy
   |false=>
    simp only [aG,loopK_exit]
    rw [F.cu.b8]
    simp only [bu,Nat.reduceEqDiff,reduceIte,e0,e3,e4,e5,oq,bindO_some,condB_bool,hpos,aI,aP x hi,fJ hv,hsub,b1,b3 h2 (bT.refl _)]
    refine ak (Sem.Ed (r:=.bool (q.2==t.l)) rfl (di (x:=some q.2) (y:=t) (by simp only [Sl.l_some];unfold cz;omega) (de rfl)) (.cons (lN q4) (.cons (.cU (bE gi t)) .nil)) ?_)
    simp only [outK_ret,condB_bool]
    cases he:q.2==t.l with
    |true=>
     simp only [aI,bu,Nat.reduceEqDiff,reduceIte,e4,aE hi hbig,bindO_some]
     refine hn _ _ ⟨a,ps,nst,hso,fun u=>?_,by omega,e0,e3,rfl⟩
     rw [hstep,hmem]
     refine ⟨.inl,fun h=>h.elim id fun h=>?_⟩
     subst h
     rw [← hmem,← (eq_of_beq he:q.2=t.l)]
     exact List.mem_of_getElem? hpk2
    |false=>
     simp only [bu,Nat.reduceEqDiff,reduceIte,e0,e3,e4,e5,bindO_some,aG,ES,c1,bindO2_some,hk1,c2,c3,c4,rD,aP x hi,fJ hv,c5,c6,c7,aE hi hbig]
     have hne:t.l≠q.2:=fun h=>by rw [h] at he;simp at he
     have hlt:eV q.2 t.l=true:=vZ (by omega) hl hne
     obtain ⟨d1,d2,d3⟩:=done (k+1) hk hdr (Gg hso hpk2 hlt) p c8
     exact hn _ _ ⟨_,_,c9,d1,d2,d3,e0,rfl,rfl⟩
 ·rintro e h' ⟨a,ps,nst,hso,hmem,hpl,e0,e3,e4⟩ K' hx'
  rw [F.cu.aN]
  simp only [e0,e4,aV,Nat.reduceAdd,Nat.reduceEqDiff,reduceIte,aR]
  rw [hx',F.cu.aD]
  simp only [bu,Nat.reduceEqDiff,reduceIte,e3]
  obtain ⟨y,hy1,hy2⟩:=nst.tD (old:=false)
  refine cw.2 ⟨a,y,rfl,by rw [hy1];exact hso,fun u=>?_,hy2⟩
  rw [hy1,hmem,List.take_of_length_le (Nat.le_refl _)]
theorem qM{a:AV}{x:Sl (Sl Int)}{m:Nat}{h:ag}(ha:Fz true h a (an er 1 x))(hx:x.l.length≤100000)(ht:∀ t ∈ x.l,t.l.length=m)(hm:m≤1000000){K:Out→ag→Bool}
  (hK:∀ y:Sl (Sl Int),lF (y.l.map Sl.l)→(∀ u,u ∈ y.l.map Sl.l↔u ∈ x.l.map Sl.l)→K (.ret (an er 1 y)) h=true):Sem Tryz.prog 62 [a] h K:=
 (cu hx ht hm).Ks (.cons ha .nil) fun o h' ho=>by
  obtain ⟨v,y,rfl,h1,h2,h3⟩:=cw.1 ho
  exact ⟨v,_,rfl,h3,hK y h1 h2⟩
theorem G0(s:St):eC Tryz.prog s Tryz.f19.results.toList=(match ai (some 2) (s.env 8) s.h,(some []:Option (List AV)) with|some v,some vs=>some (v :: vs)|_,_=>none):=by kernel_rfl
theorem Cc{α:Type}{enc:α→List AV}{sz:Nat}(he:∀ a,(enc a).length=sz):∀ {l:List α} {i m:Nat} {a a':α} {v:AV},l[i]?=some a→m<sz→enc a'=(enc a).set m v→(l.flatMap enc).set (i*sz+m) v=(l.set i a').flatMap enc
 |[],i,m,a,a',v,h,_,_=>by simp at h
 |b :: l,0,m,a,a',v,h,hm,hv=>by
  simp at h;subst h
  rw [List.flatMap_cons,Nat.zero_mul,Nat.zero_add,List.set_append_left _ _ (by rw [he];exact hm),← hv];rfl
 |b :: l,i+1,m,a,a',v,h,hm,hv=>by
  rw [List.flatMap_cons,List.set_append_right _ _ (by rw [he,Nat.succ_mul];omega),he]
  have:(i+1)*sz+m-sz=i*sz+m:=by rw [Nat.succ_mul];omega
  rw [this,Cc he (l:=l) (a':=a') (by simpa using h) hm hv];rfl
theorem Own.store{α:Type}{enc:α→List AV}{sz k:Nat}{h:ag}{a:AV}{l:List α}(o:Own enc sz k h a l)(he:∀ x,(enc x).length=sz){i m:Nat}{x x':α}{v:AV}(hx:l[i]?=some x)(hm:m<sz)(hv:enc x'=(enc x).set m v)(h1:v.dK = [v])(h2:bL [v]=true) :
  ∃ b h',(∀ q:IntKind,cL sz a (.int q (i:Int))=some (.ptr b (i*sz)))∧bg 1 (.ptr b (i*sz+m)) v h=some h'∧Own enc sz k h' a (l.set i x')∧h'.next=h.next∧k≤b∧∀ c,c≠b→h'.get c=h.get c:=by
 cases o with
 |nil=>simp at hx
 |row b l g1 g2 g3=>
  have hi:=(List.getElem?_eq_some_iff.1 hx).1
  have hlen:(l.flatMap enc).length=l.length*sz:=gq he l
  have hle:i*sz+m+1≤(l.flatMap enc).length:=by
   rw [hlen]
   have:(i+1)*sz≤l.length*sz:=Nat.mul_le_mul_right sz hi
   rw [Nat.succ_mul] at this;omega
  refine ⟨b,h.set b (.cells ((l.set i x').flatMap enc)),fun q=>by simp [cL,asNat,hi],?_,?_,ag.next_set _ _ _,g1,fun c hc=>by rw [ag.aO,if_neg hc]⟩
  ·rw [cZ (n:=1) g3 (by rw [h1];rfl) (by rw [h1];exact h2) hle,h1,← Cc he hx hm hv];rfl
  ·have:=Own.row (enc:=enc) (sz:=sz) (k:=k) (h:=h.set b (.cells ((l.set i x').flatMap enc))) b (l.set i x') g1 (by rw [ag.next_set];exact g2) (by rw [ag.aO,if_pos rfl])
   rwa [List.length_set] at this
structure Gi (s:dJ) (j:Nat) (r:Rel) (t:List Int) (is:Bool) (s':dJ):Prop where
 size:s'.size=s.size
 rels:∃ ts,lF ts∧(∀ u,u ∈ ts↔(u ∈ r.tuples.l.map Sl.l∧u≠t)∨(is=true∧u=t))∧s'.rels.l.map cJ=(s.rels.l.map cJ).set j (r.name,r.arity,ts)
theorem fM{s:dJ}{nm:bI}{j:Nat}{r:Rel}{t:Sl Int}{is:Bool}(hok:s.ok)(hs:s.small)(hj:jF (dX nm) s.rels.l=(j:Int))(hr:s.rels.l[j]?=some r)(hlen:∀ u ∈ r.tuples.l,u.l.length=t.l.length)(ht:t.l.length≤1000)
  {h:ag} {K:Out→ag→Bool} (hK:∀ s',Gi s j r t.l is s'→K (.ret (.agg (az s'))) h=true):Sem Tryz.prog 19 [.agg (az s),.str nm,an encI 1 t,.bool is] h K:=by
 have hm:cX=140737488355328:=rfl
 have hrm:=List.mem_of_getElem? hr
 have hrt:=hs.tups r hrm
 have hjl:j<s.rels.l.length:=(List.getElem?_eq_some_iff.1 hr).1
 have main:Sem Tryz.prog 19 [.agg (az s),.str nm,an encI 1 t,.bool is] ag.empty (fun o h'=>yes (∃ v s',o = .ret v∧Gi s j r t.l is s'∧Fz true h' v (.agg (az s')))):=by
  refine F.A8 ?_
  simp only [cY (dw s),bindO_some,ag.next_alloc,bG]
  have g0:(ag.alloc (ag.alloc ag.empty (.cells (az s))) (.cells [.int .i64 0,.nils])).get 0=some (.cells (az s)):=by simp [ag.aW,bG]
  have g1:(ag.alloc (ag.alloc ag.empty (.cells (az s))) (.cells [.int .i64 0,.nils])).get 1=some (.cells [.int .i64 0,.nils]):=by simp [ag.aW,bG]
  have gn:(ag.alloc (ag.alloc ag.empty (.cells (az s))) (.cells [.int .i64 0,.nils])).next=2:=rfl
  generalize (ag.alloc (ag.alloc ag.empty (.cells (az s))) (.cells [.int .i64 0,.nils]))=H1 at g0 g1 gn ⊢
  have l0:ai (some 2) (.ptr 0 0) H1=some (.agg (az s)):=by rw [au g0,dA (cs:=az s) (n:=2) rfl]
  simp only [l0,bindO_some]
  refine ak (eW hs fun a h3 rs hx3 o hrs=>?_)
  have hrl:rs.length=s.rels.l.length:=by have:=congrArg List.length hrs;simpa using this
  have c:=o.nj
  have one2:bL [.int .i64 s.size,a]=true:=by
   have:=c.1;rw [c.2.2] at this;simp only [bL,Bool.and_true] at this ⊢;rw [this];rfl
  obtain ⟨h6,hs6,p6,po,pn⟩:=cO (h:=h3) (zs:=[.int .i64 0,.nils]) (cs:=[.int .i64 s.size,a]) (n:=2) rfl rfl one2
  have hn3:=hx3.next
  rw [gn] at hn3 o
  have x6:bT h3 h6:=⟨by omega,fun b hb=>po b (by omega)⟩
  have q0:h6.get 0=some (.cells (az s)):=by rw [x6.get _ (by omega),hx3.get _ (by omega)];exact g0
  have q1:h6.get 1=some (.cells [.int .i64 0,.nils]):=by rw [x6.get _ (by omega),hx3.get _ (by omega)];exact g1
  have l6:ai (some 2) (.ptr 0 0) h6=some (.agg (az s)):=by rw [au q0,dA (cs:=az s) (n:=2) rfl]
  have o6:=o.ext x6
  simp only [outK_ret,hs6,l6,bindO_some]
  refine ak (dS hok ?_)
  simp only [outK_ret,hj]
  refine aB 0 r.tuples.l.length (Nat.zero_le _) (fun i e h'=>∃ b us,Own er 1 h6.next h' b us∧(∀ u,u ∈ us.map Sl.l↔u ∈ (r.tuples.l.take i).map Sl.l∧u≠t.l)∧us.length≤i∧bT h6 h' ∧
   e 2=an encI 1 t∧e 3 = .bool is∧e 4 = .ptr 0 0∧e 8 = .ptr 1 0∧e 9 = .ptr h3.next 0∧e 10 = .int .i64 (j:Int)∧e 11=b∧e 12 = .int .i64 (i:Int))
   ⟨_,[],.nil,fun u=>by simp,Nat.le_refl _,bT.refl _,rfl,rfl,rfl,rfl,rfl,rfl,rfl,rfl⟩ ?_ ?_
  ·rintro i e h' _ hi ⟨b,us,ob,hus,hul,hx',e2,e3,e4,e8,e9,e10,e11,e12⟩ K' hn hxx hrr hp
   have hv:r.tuples.l[i]?=some r.tuples.l[i]:=List.getElem?_eq_getElem hi
   generalize r.tuples.l[i]=w at hv
   have lr:ai none (.ptr 0 1) h'=some (an bt 3 s.rels):=by rw [au (cs:=az s) (by rw [hx'.get _ (by omega)];exact q0)];rfl
   have hstep:∀ u,u ∈ (r.tuples.l.take (i+1)).map Sl.l↔u ∈ (r.tuples.l.take i).map Sl.l∨u=w.l:=fun u=>by
    rw [List.take_add_one,hv,List.map_append,List.mem_append];simp
   rw [F.fM.aN]
   simp only [e2,e4,e10,e12,aV,Nat.reduceAdd,Nat.reduceEqDiff,reduceIte,lr,aP s.rels hjl,jy hr,aY hi,aP r.tuples hi,fJ hv]
   refine ak (di (by have:=hs.tup r hrm w (List.mem_of_getElem? hv);unfold cz;omega) ?_)
   simp only [aV,Nat.reduceAdd,Nat.reduceEqDiff,reduceIte]
   cases hq:w.l==t.l with
   |true=>
    simp only [Bool.not_true,aG,e12,aE hi (show r.tuples.l.length≤cz by unfold cz;omega),bindO_some]
    refine hn _ _ ⟨b,us,ob,fun u=>?_,by omega,hx',e2,e3,e4,e8,e9,e10,e11,rfl⟩
    rw [hstep,hus]
    refine ⟨fun h=>⟨.inl h.1,h.2⟩,fun h=>⟨h.1.elim id fun e=>absurd (e.trans (eq_of_beq hq)) h.2,h.2⟩⟩
   |false=>
    obtain ⟨a5,h5,p5,o5,f5,n5,x5,b5⟩:=ob.push qu uK hx'.next (bytes:=24) (by rw [hm];omega) w
    simp only [Bool.not_false,aI,e4,e10,e11,e12,aV,Nat.reduceAdd,Nat.reduceEqDiff,reduceIte,lr,aP s.rels hjl,jy hr,aP r.tuples hi,fJ hv,GX,p5,aE hi (show r.tuples.l.length≤cz by unfold cz;omega)]
    refine hn _ _ ⟨a5,_,o5,fun u=>?_,by simp;omega,x5 _ hx' (Nat.le_refl _),e2,e3,e4,e8,e9,e10,rfl,rfl⟩
    rw [List.map_append,List.mem_append,hstep,hus]
    have hne:w.l≠t.l:=fun e=>by rw [e] at hq;simp at hq
    constructor
    ·rintro (h|h)
     ·exact ⟨.inl h.1,h.2⟩
     ·simp at h;subst h;exact ⟨.inr rfl,hne⟩
    ·rintro ⟨h|h,h2⟩
     ·exact .inl ⟨h,h2⟩
     ·subst h;exact .inr (by simp)
  ·rintro e h' ⟨b,us,ob,hus,hul,hx',e2,e3,e4,e8,e9,e10,e11,e12⟩ K' hxx
   have lr:ai none (.ptr 0 1) h'=some (an bt 3 s.rels):=by rw [au (cs:=az s) (by rw [hx'.get _ (by omega)];exact q0)];rfl
   rw [F.fM.aN]
   simp only [e4,e10,e12,aV,Nat.reduceAdd,Nat.reduceEqDiff,reduceIte,lr,aP s.rels hjl,jy hr,aR]
   rw [hxx,F.fM.aD]
   rw [List.take_of_length_le (Nat.le_refl _)] at hus
   have fin:∀ (vs:List (Sl Int)) (d:AV) (hh:ag),Own er 1 h6.next hh d vs→bT h6 hh→(∀ u,u ∈ vs.map Sl.l↔(u ∈ r.tuples.l.map Sl.l∧u≠t.l)∨(is=true∧u=t.l))→vs.length≤20000 →
     ai none (.ptr h3.next 1) hh=some a∧∃ x:Sl (Sl Int),Fz true hh d (an er 1 x)∧x.l.length≤100000∧(∀ w ∈ x.l,w.l.length=t.l.length) ∧
     ∀ y:Sl (Sl Int),lF (y.l.map Sl.l)→(∀ u,u ∈ y.l.map Sl.l↔u ∈ x.l.map Sl.l)→∃ bb h53 h55,cL 3 a (.int .i64 (j:Int))=some (.ptr bb (j*3))∧bg 1 (.ptr bb (j*3+2)) (an er 1 y) hh=some h53∧ai (some 2) (.ptr h3.next 0) h53=some (.agg [.int .i64 s.size,a]) ∧
      bg 2 (.ptr 1 0) (.agg [.int .i64 s.size,a]) h53=some h55∧ai (some 2) (.ptr 1 0) h55=some (.agg [.int .i64 s.size,a])∧∃ s',Gi s j r t.l is s'∧Fz true h55 (.agg [.int .i64 s.size,a]) (.agg (az s')):=by
    intro vs d hh od hxh hvs hvl
    have ra:hh.get h3.next=some (.cells [.int .i64 s.size,a]):=by rw [hxh.get _ (by omega)];exact p6
    have r1:hh.get 1=some (.cells [.int .i64 0,.nils]):=by rw [hxh.get _ (by omega)];exact q1
    refine ⟨by rw [au ra];rfl,?_⟩
    obtain ⟨x,hx1,hx2⟩:=od.Bb (fun v y hy=>by
     simp only [er,List.mem_singleton] at hy;subst hy;exact .cU (bE gi v))
    have hvlen:∀ w ∈ vs,w.l.length=t.l.length:=fun w hw=>by
     rcases (hvs w.l).1 (List.mem_map_of_mem hw) with ⟨h1,_⟩|⟨_,h1⟩
     ·obtain ⟨u,hu,he⟩:=List.mem_map.1 h1
      rw [← he];exact hlen u hu
     ·rw [h1]
    refine ⟨x,hx2,by rw [hx1];omega,by rw [hx1];exact hvlen,fun y hy1 hy2=>?_⟩
    have oh:=o6.ext hxh
    obtain ⟨rj,hrj⟩:∃ rj,rs[j]?=some rj:=⟨rs[j]'(by omega),List.getElem?_eq_getElem (by omega)⟩
    have hrd:cJ rj=cJ r:=by
     have:=congrArg (·[j]?) hrs
     simp only [List.getElem?_map,hrj,hr,Option.map_some,Option.some.injEq] at this
     exact this
    have oneY:(an er 1 y).dK = [an er 1 y]:=by cases y<;>rfl
    have oneY2:bL [an er 1 y]=true:=by cases y<;>rfl
    obtain ⟨bb,h53,i1,i2,i3,i4,i5,i6⟩:=oh.store fA (m:=2) (x':=⟨rj.name,rj.arity,y⟩) (v:=an er 1 y) hrj (by omega) rfl oneY oneY2
    have hb3:bb≠h3.next:=by
     intro hb
     have hlt:∀ c,dV a=some c→c<h3.next:=fun c hc=>o.lt hc
     have hia:=i1 .i64
     cases hoo:a with
     |slice ab ao al asz=>
      rw [hoo] at hia
      simp only [cL,asNat] at hia
      rw [if_pos (by omega)] at hia
      simp only at hia
      split at hia
      ·simp only [Option.some.injEq,AV.ptr.injEq] at hia;have:=hlt _ (by rw [hoo];rfl);omega
      ·cases hia
     |_=>rw [hoo] at oh;cases oh<;>simp at hrj
    have w3:h53.get h3.next=some (.cells [.int .i64 s.size,a]):=by rw [i6 _ (Ne.symm hb3)];exact ra
    have w1:h53.get 1=some (.cells [.int .i64 0,.nils]):=by rw [i6 _ (by omega)];exact r1
    have st:bg 2 (.ptr 1 0) (.agg [.int .i64 s.size,a]) h53=some (h53.set 1 (.cells [.int .i64 s.size,a])):=by rw [cZ (n:=2) (v:=.agg [.int .i64 s.size,a]) w1 rfl one2 (by simp)];rfl
    refine ⟨bb,h53,_,i1 _,i2,by rw [au w3];rfl,st,by rw [au (cs:=[.int .i64 s.size,a]) (by rw [ag.aO,if_pos rfl])];rfl,?_⟩
    have o55:=i3.lp (d:=1) (by omega) (.cells [.int .i64 s.size,a])
    obtain ⟨z,hz1,hz2⟩:=o55.Bb (fun v y hy=>by
     simp only [bt,List.mem_cons,List.not_mem_nil,or_false] at hy
     rcases hy with rfl|rfl|rfl
     ·exact .scalar _ rfl
     ·exact .scalar _ rfl
     ·exact .cU (bE kD _))
    refine ⟨⟨s.size,z⟩,⟨rfl,y.l.map Sl.l,hy1,fun u=>by rw [hy2,hx1,hvs],?_⟩,?_⟩
    ·have e1:rj.name=r.name:=congrArg (·.1) hrd
     have e2:rj.arity=r.arity:=congrArg (·.2.1) hrd
     rw [hz1,List.map_set,hrs,cJ,e1,e2]
    ·have:=iQ.cons (.scalar (.int .i64 s.size) rfl) (iQ.cons hz2 iQ.nil)
     exact .agg _ _ this.len this.rel
   cases is with
   |true=>
    obtain ⟨a5,h5,p5,o5,f5,n5,x5,b5⟩:=ob.push qu uK hx'.next (bytes:=24) (by rw [hm];omega) t
    obtain ⟨la,x,fx,xl,xt,fy⟩:=fin (us++[t]) a5 h5 o5 (x5 _ hx' (Nat.le_refl _)) (fun u=>by
     rw [List.map_append,List.mem_append,hus];simp) (by simp;omega)
    simp only [bu,Nat.reduceEqDiff,reduceIte,e2,e3,e9,e11,condB_bool,aI,GX,p5,bindO_some,bindO2_some,sI,Nat.zero_add,la]
    refine ak (qM fx xl xt (by omega) fun y hy1 hy2=>?_)
    obtain ⟨bb,h53,h55,i1,i2,i3,i4,i5,s',hs',hf⟩:=fy y hy1 hy2
    simp only [bu,Nat.reduceEqDiff,reduceIte,outK_ret,la,bindO_some,AV.beq_refl,Bool.and_self,if_true,e8,e9,e10,i1,sI,i2,i3,i4,G0,i5,oneOf]
    exact cw.2 ⟨_,s',rfl,hs',hf⟩
   |false=>
    obtain ⟨la,x,fx,xl,xt,fy⟩:=fin us b h' ob hx' (fun u=>by rw [hus];simp) (by omega)
    simp only [bu,Nat.reduceEqDiff,reduceIte,e2,e3,e9,e11,condB_bool,aG,bindO_some,sI,Nat.zero_add,la]
    refine ak (qM fx xl xt (by omega) fun y hy1 hy2=>?_)
    obtain ⟨bb,h53,h55,i1,i2,i3,i4,i5,s',hs',hf⟩:=fy y hy1 hy2
    simp only [bu,Nat.reduceEqDiff,reduceIte,outK_ret,la,bindO_some,AV.beq_refl,Bool.and_self,if_true,e8,e9,e10,i1,sI,i2,i3,i4,G0,i5,oneOf]
    exact cw.2 ⟨_,s',rfl,hs',hf⟩
 refine main.frozen (by simp [AV.pureL,AV.pure,eT,bE gi]) fun o h' ho=>?_
 obtain ⟨v,s',rfl,hs',hf⟩:=cw.1 ho
 exact ⟨v,_,rfl,hf,hK s' hs'⟩
def Cd(n:Nat)(s:dJ)(nm:bI)(r:Nat):Bool:=match s.rels.l.find? (dX nm) with
 |some q=>(sg n q).bits.getD r false
 |none=>false
theorem Ce{n:Nat}{s:dJ}(hv:cT s=true)(hn:s.size=(n:Int)){nm:bI}{r k:Nat}{q:Rel}(hq:s.rels.l.find? (dX nm)=some q)(hk:q.arity=(k:Int))(hr:r<n ^ k):Cd n s nm r=true↔FM n (s.rels.l.map cJ) nm r:=by
 have hqm:=List.mem_of_find?_eq_some hq
 have hqn:q.name=nm:=by have:=List.find?_some hq;simpa [dX] using this
 unfold Cd
 rw [hq]
 simp only [sg,bitsOf,hk,Int.toNat_natCast]
 rw [B2 _ _ (by simpa using hr)]
 have:(List.replicate (n ^ k) false).getD r false=false:=by rw [List.getD_eq_getElem?_getD,List.getElem?_replicate];split<;>rfl
 rw [this,Bool.false_or,List.any_eq_true]
 constructor
 ·rintro ⟨u,hu,he⟩
  exact ⟨cJ q,List.mem_map_of_mem hqm,hqn,u,hu,by simpa using he⟩
 ·rintro ⟨d,hd,hdn,u,hu,he⟩
  obtain ⟨p,hp,rfl⟩:=List.mem_map.1 hd
  have h1:=mZ (jG hv) p hp
  rw [show p.name=nm from hdn,hq] at h1
  cases h1
  exact ⟨u,hu,by simpa using he⟩
theorem De{s s':dJ}{j:Nat}{r:Rel}{t:List Int}{is:Bool}(hr:s.rels.l[j]?=some r)(hp:Gi s j r t is s'):(s'.rels.l.map cJ).map pF=(s.rels.l.map cJ).map pF:=by
 obtain ⟨ts,h1,h2,h3⟩:=hp.rels
 rw [h3,List.map_set]
 apply List.ext_getElem?
 intro i
 by_cases hi:j=i
 ·subst hi
  have hl:j<s.rels.l.length:=(List.getElem?_eq_some_iff.1 hr).1
  rw [List.getElem?_set_self (by simpa using hl)]
  simp only [List.getElem?_map,hr];rfl
 ·rw [List.getElem?_set_ne hi]
theorem Cf{s s':dJ}{j k:Nat}{r:Rel}{t:List Int}{is:Bool}(hv:cT s=true)(hr:s.rels.l[j]?=some r)(hk:r.arity=(k:Int))(ht:t.length=k)(hb:gI s.size.toNat t=true)(hp:Gi s j r t is s'):cT s'=true:=by
 have hS:=fX.1 hv
 have hsig:=De hr hp
 obtain ⟨ts,h1,h2,h3⟩:=hp.rels
 have hz:=hp.size
 rw [fX]
 have hnm:∀ l:List FL,l.map (·.1)=(l.map pF).map (·.1):=fun l=>by rw [List.map_map];rfl
 refine ⟨by rw [hz];exact hS.lo,by rw [hz];exact hS.hi,?_,fun d hd=>?_,?_⟩
 ·have:=congrArg List.length hsig
  simp only [List.length_map] at this
  have:=hS.kX
  simp only [List.length_map] at this ⊢
  omega
 ·rw [hz]
  rw [h3] at hd
  rcases List.mem_or_eq_of_mem_set hd with hd|rfl
  ·exact hS.rel d hd
  ·obtain ⟨q0,k',q1,q2,q3,q4⟩:=hS.rel _ (List.mem_map_of_mem (List.mem_of_getElem? hr))
   have q1':r.arity=(k':Int):=q1
   obtain rfl:k'=k:=by omega
   refine ⟨q0,k',q1,q2,q3,fun u hu=>?_,h1⟩
   rcases (h2 u).1 hu with ⟨a,_⟩|⟨_,a⟩
   ·exact q4.1 u a
   ·rw [a];exact ⟨ht,hb⟩
 ·rw [hnm,hsig,← hnm];exact hS.names
theorem Mq{s s':dJ}{n j k:Nat}{r:Rel}{t:List Int}{is:Bool}(hv:cT s=true)(hn:s.size=(n:Int))(hr:s.rels.l[j]?=some r)(hk:r.arity=(k:Int))(ht:t.length=k)(hb:gI n t=true)(hp:Gi s j r t is s')(nm:bI)(q:Nat) :
  FM n (s'.rels.l.map cJ) nm q↔if nm=r.name then ((FM n (s.rels.l.map cJ) nm q∧q≠gy n t)∨(is=true∧q=gy n t)) else FM n (s.rels.l.map cJ) nm q:=by
 have hS:=fX.1 hv
 obtain ⟨ts,h1,h2,h3⟩:=hp.rels
 have hjl:j<(s.rels.l.map cJ).length:=by have:=(List.getElem?_eq_some_iff.1 hr).1;simpa using this
 have hrd:(s.rels.l.map cJ)[j]?=some (cJ r):=by rw [List.getElem?_map,hr];rfl
 have hnn:s.size.toNat=n:=by omega
 have hrel:=hS.rel _ (List.mem_of_getElem? hrd)
 rw [hnn] at hrel
 obtain ⟨_,k',q1,_,_,q4⟩:=hrel
 have q1':r.arity=(k':Int):=q1
 obtain rfl:k'=k:=by omega
 have huniq:∀ d ∈ s.rels.l.map cJ,d.1=r.name→d=cJ r:=fun d hd hdn=>by
  obtain ⟨i,hi⟩:=List.getElem?_of_mem hd
  have hN:=hS.names
  have e1:((s.rels.l.map cJ).map (·.1))[i]?=some r.name:=by rw [List.getElem?_map,hi,Option.map_some,hdn]
  have e2:((s.rels.l.map cJ).map (·.1))[j]?=some r.name:=by rw [List.getElem?_map,hrd];rfl
  have:i=j:=by
   obtain ⟨l1,l2⟩:=List.getElem?_eq_some_iff.1 e1
   obtain ⟨l3,l4⟩:=List.getElem?_eq_some_iff.1 e2
   by_cases hlt:i<j
   ·exact absurd (l2.trans l4.symm) (List.pairwise_iff_getElem.1 hN i j l1 l3 hlt)
   ·by_cases hgt:j<i
    ·exact absurd (l4.trans l2.symm) (List.pairwise_iff_getElem.1 hN j i l3 l1 hgt)
    ·omega
  subst this
  rw [hi] at hrd;cases hrd;rfl
 have hnew:(r.name,r.arity,ts) ∈ s'.rels.l.map cJ:=by rw [h3];exact List.mem_of_getElem? (List.getElem?_set_self hjl)
 have hold:∀ d ∈ s.rels.l.map cJ,d.1≠r.name→d ∈ s'.rels.l.map cJ:=fun d hd hdn=>by
  obtain ⟨i,hi⟩:=List.getElem?_of_mem hd
  rw [h3]
  refine List.mem_of_getElem? (i:=i) ?_
  rw [List.getElem?_set_ne (fun e=>?_)]
  ·exact hi
  ·subst e;rw [hi] at hrd;cases hrd;exact hdn rfl
 have hback:∀ d ∈ s'.rels.l.map cJ,(d=(r.name,r.arity,ts))∨(d ∈ s.rels.l.map cJ∧d.1≠r.name):=fun d hd=>by
  obtain ⟨i,hi⟩:=List.getElem?_of_mem hd
  rw [h3] at hi
  by_cases e:j=i
  ·subst e;rw [List.getElem?_set_self hjl] at hi;cases hi;exact .inl rfl
  ·rw [List.getElem?_set_ne e] at hi
   refine .inr ⟨List.mem_of_getElem? hi,fun hdn=>e ?_⟩
   have e1:((s.rels.l.map cJ).map (·.1))[i]?=some r.name:=by rw [List.getElem?_map,hi,Option.map_some,hdn]
   have e2:((s.rels.l.map cJ).map (·.1))[j]?=some r.name:=by rw [List.getElem?_map,hrd];rfl
   obtain ⟨l1,l2⟩:=List.getElem?_eq_some_iff.1 e1
   obtain ⟨l3,l4⟩:=List.getElem?_eq_some_iff.1 e2
   have hN:=hS.names
   by_cases hlt:i<j
   ·exact absurd (l2.trans l4.symm) (List.pairwise_iff_getElem.1 hN i j l1 l3 hlt)
   ·by_cases hgt:j<i
    ·exact absurd (l4.trans l2.symm) (List.pairwise_iff_getElem.1 hN j i l3 l1 hgt)
    ·omega
 have hin:∀ u,u ∈ r.tuples.l.map Sl.l→u.length=k'∧gI n u=true:=fun u hu=>q4.1 u hu
 by_cases hnm:nm=r.name
 ·rw [if_pos hnm]
  subst hnm
  constructor
  ·rintro ⟨d,hd,hdn,u,hu,he⟩
   rcases hback d hd with rfl|⟨_,h⟩
   ·rcases (h2 u).1 hu with ⟨a,b⟩|⟨a,b⟩
    ·refine .inl ⟨⟨cJ r,List.mem_of_getElem? hrd,rfl,u,a,he⟩,fun e=>b ?_⟩
     obtain ⟨u1,u2⟩:=hin u a
     exact yo (by omega) u2 hb (he.trans e)
    ·exact .inr ⟨a,by rw [← he,b]⟩
   ·exact absurd hdn h
  ·rintro (⟨⟨d,hd,hdn,u,hu,he⟩,hne⟩|⟨his,he⟩)
   ·obtain rfl:=huniq d hd hdn
    exact ⟨_,hnew,rfl,u,(h2 u).2 (.inl ⟨hu,fun e=>hne (by rw [← he,e])⟩),he⟩
   ·exact ⟨_,hnew,rfl,t,(h2 t).2 (.inr ⟨his,rfl⟩),he.symm⟩
 ·rw [if_neg hnm]
  constructor
  ·rintro ⟨d,hd,hdn,u,hu,he⟩
   rcases hback d hd with rfl|⟨h,_⟩
   ·exact absurd hdn.symm hnm
   ·exact ⟨d,h,hdn,u,hu,he⟩
  ·rintro ⟨d,hd,hdn,u,hu,he⟩
   exact ⟨d,hold d hd (by rw [hdn];exact hnm),hdn,u,hu,he⟩
end
end Go.AM
namespace Go.AM
open Go Go.Proofs
noncomputable section
def xT(n:Nat)(L:Lk)(t:List Int)(r:aK)(i:Nat):Bool:=decide (bw (fm n (varsOf r).length i) (placesOf (varsOf r) r.args.l)=t)&&j4 n L r (fm n (varsOf r).length i)
def Df(n:Nat)(L:Lk)(nm:bI)(t:List Int)(r:aK):Bool:=(r.name==nm)&&(List.range (n ^ (varsOf r).length)).any (xT n L t r)
def wX(n:Nat)(rs:List aK)(L:Lk)(nm:bI)(t:List Int):Bool:=rs.any (Df n L nm t)
set_option maxHeartbeats 1000000 in
theorem bR{n:Nat}(n1:1≤n)(n64:n≤64){rules:Sl aK}(hrl:rules.l.length≤cz)(hf:∀ r ∈ rules.l,r.kX)(hk:∀ r ∈ rules.l,(varsOf r).length≤12){s:dJ}(hs:s.ok)(hv:cT s=true)(hn:s.size=(n:Int))(hx:∀ r ∈ rules.l,uO n r (fL s)){nm:bI}{t:Sl Int}(htl:t.l.length≤cz){h:ag}{K:Out→ag→Bool}
  (hK:K (.ret (.bool (wX n rules.l (fG (fL s)) nm t.l))) h=true):Sem Tryz.prog 20 [an aM 3 rules,.agg (az s),.str nm,an encI 1 t] h K:=by
 refine Sem.data (r:=.bool (wX n rules.l (fG (fL s)) nm t.l)) ?_ (by simp [AV.pureL,AV.pure,bE ef,eT,bE gi]) hK
 clear hK
 refine F.uu ?_
 simp only [cY (dw s),bindO_some,bG]
 have g0:(ag.empty.alloc (.cells (az s))).get 0=some (.cells (az s)):=aC _ _
 have gn:(ag.empty.alloc (.cells (az s))).next=1:=rfl
 generalize (ag.empty.alloc (.cells (az s)))=H0 at g0 gn ⊢
 have l0:ai (some 2) (.ptr 0 0) H0=some (.agg (az s)):=by rw [au g0,dA (cs:=az s) (n:=2) rfl]
 simp only [l0,bindO_some]
 refine ak (Dd hs hv fun x hx1=>?_)
 simp only [aV,Nat.reduceAdd,Nat.reduceEqDiff,reduceIte]
 refine aB 0 rules.l.length (Nat.zero_le _) (fun i e h'=>h'.get 0=some (.cells (az s))∧1≤h'.next∧(∀ k<i,∀ r,rules.l[k]?=some r→Df n (fG (fL s)) nm t.l r=false) ∧
  e 0=an aM 3 rules∧e 2 = .str nm∧e 3=an encI 1 t∧e 5 = .ptr 0 0∧e 9=an iH 3 x∧e 10 = .int .i64 (i:Int)) ⟨g0,by omega,fun k hk=>absurd hk (by omega),rfl,rfl,rfl,rfl,rfl,rfl⟩ ?_ ?_
 ·rintro i e h' _ hi ⟨q0,qn,hno,e0,e2,e3,e5,e9,e10⟩ K' hn' hx' hr hp
  have hv:rules.l[i]?=some rules.l[i]:=List.getElem?_eq_getElem hi
  generalize rules.l[i]=r at hv
  have hrm:=List.mem_of_getElem? hv
  have hk12:=hk r hrm
  have ld:∀ h,ai none (.iptr (rules.l.flatMap aM) (i*3)) h=some (.str r.name):=fun h=>eZ fe hv (by omega:0<3)
  have on:∀ (b:Bool),Df n (fG (fL s)) nm t.l r=false→∀ k<i+1,∀ r,rules.l[k]?=some r→Df n (fG (fL s)) nm t.l r=false:=fun _ hd k hk q hq=>by
   by_cases hki:k<i
   ·exact hno k hki q hq
   ·rw [show k=i by omega,hv] at hq
    cases hq;exact hd
  rw [F.bR.aN]
  simp only [e0,e2,e10,aV,Nat.reduceAdd,Nat.reduceEqDiff,reduceIte,aY hi,aP rules hi,ld]
  cases hc:(r.name==nm) with
  |false=>
   simp only [Bool.not_false,aI,e10,aE hi hrl,bindO_some]
   exact hn' _ _ ⟨q0,qn,on true (by unfold Df;rw [hc];rfl),e0,e2,e3,e5,e9,rfl⟩
  |true=>
  simp only [Bool.not_true,aG,e0,e10,aP rules hi,bindO_some,dQ fe hv]
  refine ak (bF (hf r hrm) fun all hall=>?_)
  have hal:all.l.length≤1000000:=by rw [hall];omega
  simp only [aV,Nat.reduceAdd,Nat.reduceEqDiff,reduceIte,ry hal]
  have gV:(h'.alloc (.cells ((List.replicate all.l.length (0:Int)).map iv))).get h'.next=some (.cells ((List.replicate all.l.length (0:Int)).map iv)):=aC _ _
  have xV:bT h' (h'.alloc (.cells ((List.replicate all.l.length (0:Int)).map iv))):=bT.alloc _ _
  have nV:(h'.alloc (.cells ((List.replicate all.l.length (0:Int)).map iv))).next=h'.next+1:=rfl
  generalize (h'.alloc (.cells ((List.replicate all.l.length (0:Int)).map iv)))=H1 at gV xV nV ⊢
  have p0:H1.get 0=some (.cells (az s)):=by rw [xV.get _ (by omega)];exact q0
  rw [hall] at gV ⊢
  have hpos:0<n ^ (varsOf r).length:=Nat.pow_pos n1
  refine iR (fun m e h''=>h''.get 0=some (.cells (az s))∧1≤h''.next∧e 0=an aM 3 rules∧e 2 = .str nm∧e 3=an encI 1 t∧e 5 = .ptr 0 0∧e 9=an iH 3 x∧e 10 = .int .i64 (i:Int)∧e 11=an encS 1 all∧e 12 = .slice h'.next 0 (varsOf r).length 1 ∧
   ((e 13 = .bool true∧∃ j,m=n ^ (varsOf r).length-j∧j<n ^ (varsOf r).length∧h''.get h'.next=some (.cells ((fm n (varsOf r).length j).map iv))∧∀ k<j,xT n (fG (fL s)) t.l r k=false)∨(e 13 = .bool false∧m=0∧∀ k<n ^ (varsOf r).length,xT n (fG (fL s)) t.l r k=false))) (n ^ (varsOf r).length)
   ⟨p0,by omega,e0,e2,e3,e5,e9,e10,rfl,rfl,.inl ⟨rfl,0,rfl,hpos,by rw [Ik n1];exact gV,fun k hk=>absurd hk (by omega)⟩⟩ ?_
  rintro m e h'' ⟨p0,pn,e0,e2,e3,e5,e9,e10,e11,e12,hcase⟩
  rw [F.bR.cP]
  rcases hcase with ⟨e13,j,hm,hj,hV,hjn⟩|⟨e13,rfl,hall'⟩
  ·have ha:Am n r (fm n (varsOf r).length j):=EJ n1 hj
   have hVl:(fm n (varsOf r).length j).length=(varsOf r).length:=gO _ _ _
   have hh:=fun {K} hk=>Bi (hf r hrm) hall (by rw [hall];unfold cz;omega) (vs:=fm n (varsOf r).length j) (t:=t) hVl htl hV (h:=h'') (K:=K) hk
   rw [hVl] at hh
   have happ:=fun {K} hk=>xS n1 (hf r hrm) hk12 hall ha (x:=x) (by rw [hx1];exact hx r hrm) hV (h:=h'') (K:=K) hk
   rw [hVl] at happ
   have lz:ai none (.ptr 0 0) h''=some (.int .i64 (n:Int)):=by rw [au p0,← hn];rfl
   have adv:∀ (e':Env) (R:Out→ag→Bool),xT n (fG (fL s)) t.l r j=false →
     (∀ h3,h3.get 0=some (.cells (az s))→1≤h3.next→j+1<n ^ (varsOf r).length→h3.get h'.next=some (.cells ((fm n (varsOf r).length (j+1)).map iv))→(∀ k<j+1,xT n (fG (fL s)) t.l r k=false)→R (.ret (.bool true)) h3=true) →
     (∀ h3,h3.get 0=some (.cells (az s))→1≤h3.next→(∀ k<n ^ (varsOf r).length,xT n (fG (fL s)) t.l r k=false)→R (.ret (.bool false)) h3=true) →
     ah Tryz.prog 63 [.slice h'.next 0 (varsOf r).length 1,.int .i64 (n:Int)] h'' R=true:=fun e' R hd hy hno2=>by
    have hup:∀ k<j+1,xT n (fG (fL s)) t.l r k=false:=fun k hk=>by
     by_cases hkj:k<j
     ·exact hjn k hkj
     ·rw [show k=j by omega];exact hd
    exact ak (eL n1 n64 hk12 hj hV (fun p h3 a1 a2 a3=>hy h3 (by rw [a2 _ (by omega)];exact p0) (by omega) p a1 hup) fun p h3 a2 a3=>hno2 h3 (by rw [a2 _ (by omega)];exact p0) (by omega) (by rw [← p];exact hup))
   simp only [e0,e3,e10,e11,e12,e13,aV,Nat.reduceAdd,Nat.reduceEqDiff,reduceIte,aP rules hi,dQ fe hv]
   refine ak (hh ?_)
   simp only [aV,Nat.reduceAdd,Nat.reduceEqDiff,reduceIte]
   by_cases hhd:bw (fm n (varsOf r).length j) (placesOf (varsOf r) r.args.l)=t.l
   ·simp only [decide_eq_true hhd,aI,e0,e5,e9,e10,e11,e12,aV,Nat.reduceAdd,Nat.reduceEqDiff,reduceIte,aP rules hi,dQ fe hv,lz]
    refine ak (happ ?_)
    rw [hx1]
    simp only [aV,Nat.reduceAdd,Nat.reduceEqDiff,reduceIte]
    cases hap:j4 n (fG (fL s)) r (fm n (varsOf r).length j) with
    |true=>
     simp only [aI,loopK_ret]
     rw [F.bR.fY,hr,F.bR.bq]
     simp only [bu,Nat.reduceEqDiff,reduceIte]
     have:wX n rules.l (fG (fL s)) nm t.l=true:=by
      unfold wX
      refine List.any_eq_true.2 ⟨r,hrm,?_⟩
      unfold Df
      rw [hc,Bool.true_and]
      exact List.any_eq_true.2 ⟨j,List.mem_range.2 hj,by unfold xT;rw [decide_eq_true hhd,hap];rfl⟩
     rw [this]
     exact de rfl
    |false=>
     simp only [aG,e5,e12,aV,Nat.reduceAdd,Nat.reduceEqDiff,reduceIte,lz]
     refine adv e _ (by unfold xT;rw [hap,Bool.and_false]) (fun h3 a1 a2 a3 a4 a5=>?_) fun h3 a1 a2 a3=>?_
     ·simp only [outK_ret]
      exact cw.2 ⟨n ^ (varsOf r).length-(j+1),by omega,rfl,rfl,a1,a2,e0,e2,e3,e5,e9,e10,e11,e12,.inl ⟨rfl,j+1,rfl,a3,a4,a5⟩⟩
     ·simp only [outK_ret]
      exact cw.2 ⟨0,by omega,rfl,rfl,a1,a2,e0,e2,e3,e5,e9,e10,e11,e12,.inr ⟨rfl,rfl,a3⟩⟩
   ·simp only [decide_eq_false hhd,aG,e5,e12,aV,Nat.reduceAdd,Nat.reduceEqDiff,reduceIte,lz]
    refine adv e _ (by unfold xT;rw [decide_eq_false hhd,Bool.false_and]) (fun h3 a1 a2 a3 a4 a5=>?_) fun h3 a1 a2 a3=>?_
    ·simp only [outK_ret]
     exact cw.2 ⟨n ^ (varsOf r).length-(j+1),by omega,rfl,rfl,a1,a2,e0,e2,e3,e5,e9,e10,e11,e12,.inl ⟨rfl,j+1,rfl,a3,a4,a5⟩⟩
    ·simp only [outK_ret]
     exact cw.2 ⟨0,by omega,rfl,rfl,a1,a2,e0,e2,e3,e5,e9,e10,e11,e12,.inr ⟨rfl,rfl,a3⟩⟩
  ·simp only [e13,condB_bool,aG,loopK_exit]
   rw [F.bR.b8]
   simp only [bu,Nat.reduceEqDiff,reduceIte,e10,aE hi hrl,bindO_some]
   refine hn' _ _ ⟨p0,pn,on true ?_,e0,e2,e3,e5,e9,rfl⟩
   unfold Df
   rw [hc,Bool.true_and,List.any_eq_false]
   intro k hk
   rw [hall' k (List.mem_range.1 hk)]
   simp
 ·rintro e h' ⟨q0,qn,hno,e0,e2,e3,e5,e9,e10⟩ K' hx'
  rw [F.bR.aN]
  simp only [e0,e10,aV,Nat.reduceAdd,Nat.reduceEqDiff,reduceIte,aR]
  rw [hx',F.bR.aD]
  have:wX n rules.l (fG (fL s)) nm t.l=false:=by
   unfold wX
   rw [List.any_eq_false]
   intro r hr
   obtain ⟨k,hk⟩:=List.getElem?_of_mem hr
   rw [hno k (List.getElem?_eq_some_iff.1 hk).1 r hk]
   simp
  rw [this]
  exact de rfl
end
end Go.AM