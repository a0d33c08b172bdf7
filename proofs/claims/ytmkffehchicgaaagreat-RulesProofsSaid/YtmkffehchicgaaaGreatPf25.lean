/- Parts of the proof. Conditions: none. -/
import Derived.Test.YtmkffehchicgaaaGreatPf15
import Derived.Test.YtmkffehchicgaaaGreatPf16
import Derived.Test.YtmkffehchicgaaaGreatPf24
set_option linter.unusedSimpArgs false
set_option linter.unusedVariables false
namespace Go.AM
open List Nat Bool Option
open Go Go.Proofs
noncomputable section
theorem SO(t:iV):(jC t).length=3:=rfl
theorem SP(t:iV):bE (jC t)=true:=rfl
theorem jw{s:eG}(hs:s.ok)(hv:dU s=true){h:ag}{K:Out->ag->Bool}(hK:∀ cs:List AV,∀ x:Sl iV,x.l=jY s->cs[2]?=some (an jC 3 x)->K (.ret (.dI cs 0)) h=true):Sem TP 115 [.agg (aB s)] h K:=by
 obtain ⟨n,hn,n1,n2,h8⟩:=uc hv;have wj:s.size.toNat=n:=by omega
 have main:Sem TP 115 [.agg (aB s)] ag.empty (fun o h'=>yes (∃ v cs,∃ x:Sl iV,o = .ret v/\x.l=jY s/\cs[2]?=some (an jC 3 x)/\Fz true h' v (.dI cs 0))):=by
  have hm:dw=140737488355328:=rfl;refine F.AZ ?_;rw [F.Dg];have b0:(ag.alloc ag.empty (.cells (aB s))).get 0=some (.cells (aB s)):=aD _ _;have bn:(ag.alloc ag.empty (.cells (aB s))).next=1:=rfl
  simp only [cG (dH s),aq,bA];generalize (ag.alloc ag.empty (.cells (aB s)))=H at b0 bn ⊢;have ls:ah none (.ptr 0 0) H=some (.int .i64 s.size):=by rw [ai b0];rfl
  have lr:ah none (.ptr 0 1) H=some (an bO 3 s.aY):=by rw [ai b0];rfl
  have ha:jM [(.int .i64 0),(.int .i64 0),.au,.au,.au,(.bool false)] [(0,1),(1,1)] [.int .i64 s.size,.int .i64 (s.aY.l.length:Int)]=some (.agg [.int .i64 s.size,.int .i64 (s.aY.l.length:Int),.au,.au,.au,.bool false]):=rfl;simp only [aS,reduceAdd,reduceEqDiff,reduceIte,ls,lr,ha,cG (show bE [.int .i64 s.size,.int .i64 (s.aY.l.length:Int),.au,.au,.au,.bool false]=true from rfl),bn]
  refine aG 0 s.aY.l.length (zero_le _) (fun i e h'=>∃ a,h'.get 0=some (.cells (aB s))/\h'.get 1=some (.cells [.int .i64 s.size,.int .i64 (s.aY.l.length:Int),a,.au,.au,.bool false])/\Own jC 3 2 h' a ((s.aY.l.take i).map (lY n))/\2<=h'.next/\e 1 = .ptr 0 0/\e 3 = .ptr 1 0/\e 4 = .int .i64 (i:Int))
   ⟨.au,by rw [ag.aW,bn,if_neg (by omega)];exact b0,by rw [<- bn];exact aD _ _,.nil,by rw [ag.aV,bn];omega,rfl,rfl,rfl⟩ ?_ ?_
  ·rintro i e h' _ hi ⟨a,q0,q1,o,qn,e1,e3,e4⟩ K' oA hx hr hp;have QS:s.aY.l[i]?=some s.aY.l[i]:=ec hi;generalize s.aY.l[i]=r at QS;have Vb:r.ok:=hs.2 r (iA QS);have Hu:=xE hv QS;rw [wj] at Hu;obtain ⟨k,hk,Bn,Wi,hkt⟩:=yz Hu;have ls:ah none (.ptr 0 0) h'=some (.int .i64 (n:Int)):=by rw [ai q0,<- hn];rfl
   have lr:ah none (.ptr 0 1) h'=some (an bO 3 s.aY):=by rw [ai q0];rfl
   have l2:ah none (.ptr 1 2) h'=some a:=by rw [ai q1];rfl
   have nc:bS (.ptr 1 0)=some (.ptr 1 0):=rfl;rw [F.jw.aT];simp only [e1,e3,e4,aS,reduceAdd,reduceEqDiff,reduceIte,lr,ls,l2,nc,bl hi,aU s.aY hi,rY QS,yy QS,ua QS,hk];refine aj (ef n1 n2 Bn Wi Vb.2.1 hkt ?_);obtain ⟨a5,h5,p5,o5,f5,n5,_,b5⟩:=o.push SO SP qn (bytes:=48) (by rw [hm,length_map,length_take];omega) (lY n r);have ht:lY n r=⟨r.name,k,bitsOf n k r.bW.l⟩:=by rw [lY,hk];rfl
   have abA:ig [(.str []),(.int .i64 0),.au] [(0,3)] [.agg (Cw r.name k (bitsOf n k r.bW.l))]=some (jC (lY n r)):=by rw [ht];rfl
   have lF:∀ d,d<2->eP a≠some d:=fun d hd hb=>by have:=o.ge hb;omega
   have s1:h5.get 1=some (.cells [.int .i64 s.size,.int .i64 (s.aY.l.length:Int),a,.au,.au,.bool false]):=by rw [f5 1 (by omega) (lF 1 (by omega))];exact q1
   have c5:=o5.GN
   have st:bh 1 (.ptr 1 2) a5 h5=some (h5.set 1 (.cells [.int .i64 s.size,.int .i64 (s.aY.l.length:Int),a5,.au,.au,.bool false])):=by
    rw [cJ (n:=1) s1 c5.2.1 c5.1 (by simp),c5.2.2];rfl
   simp only [gJ,l2,aq,AV.beq_refl,Bool.and_self,if_true,abA,p5,iL,e3,e4,nc,OM,Nat.zero_add,st,aK hi hs.1];refine oA _ _ ⟨a5,?_,?_,?_,?_,e1,e3,rfl⟩
   ·rw [ag.aP,if_neg (by omega),f5 0 (by omega) (lF 0 (by omega))];exact q0
   ·rw [ag.aP,if_pos rfl]
   ·rw [take_add_one,QS,map_append];exact o5.uW (by omega) _
   ·rw [ag.bq];omega
  ·rintro e h' ⟨a,q0,q1,o,qn,e1,e3,e4⟩ K' hx;have lr:ah none (.ptr 0 1) h'=some (an bO 3 s.aY):=by rw [ai q0];rfl
   rw [F.jw.aT];simp only [e1,e4,aS,reduceAdd,reduceEqDiff,reduceIte,lr,aX];rw [hx,F.jw.aJ];simp only [bg,reduceEqDiff,reduceIte,e3];rw [kB (dK _)] at o
   obtain ⟨x,jG,iu⟩:=o.MF (fun v y hy=>by
    simp only [jC,Cw,mem_cons,not_mem_nil,_root_.or_false] at hy;rcases hy with rfl|rfl|rfl
    ·exact .scalar _ rfl
    ·exact .scalar _ rfl
    ·exact .dP (bI I2 _))
   have fz:=kD.cons (.scalar (.int .i64 s.size) rfl) (kD.cons (.scalar (.int .i64 (s.aY.l.length:Int)) rfl) (kD.cons iu (kD.cons (.scalar .au rfl) (kD.cons (.scalar .au rfl) (kD.cons (.scalar (.bool false) rfl) kD.nil)))));exact cO.2 ⟨_,_,x,rfl,by rw [jG,jY,wj],rfl,.ptr 1 0 _ _ q1 fz.len fz.rel⟩
 refine main.frozen (by simp [AV.cN,AV.pure,ew]) fun o h' ho=>?_;obtain ⟨v,cs,x,rfl,hx,hc,hf⟩:=cO.1 ho;exact ⟨v,_,rfl,hf,hK cs x hx hc⟩
theorem BA{s:eG}(hs:s.ok)(hv:dU s=true){h:ag}{K:Out->ag->Bool}(hK:∀ x:Sl iV,x.l=jY s->K (.ret (an jC 3 x)) h=true):Sem TP 57 [.agg (aB s)] h K:=by
 have main:Sem TP 57 [.agg (aB s)] ag.empty (fun o h'=>yes (∃ x:Sl iV,o = .ret (an jC 3 x)/\x.l=jY s)):=by
  refine F.tT ?_;rw [F.vA];simp only [cG (dH s),aq,ai (aD _ _),cQ (cs:=aB s) (n:=2) rfl];refine aj (jw hs hv fun cs x hx hc=>?_);simp only [gJ,show bS (.dI cs 0)=some (.dI cs 0) from rfl,aq,QA,Nat.zero_add,RN,hc];exact cO.2 ⟨x,rfl,hx⟩
 refine main.frozen (by simp [AV.cN,AV.pure,ew]) fun o h' ho=>?_;obtain ⟨x,rfl,hx⟩:=cO.1 ho;exact ⟨_,_,rfl,.dP (bI vg x),hK x hx⟩
theorem JK:∀ {a b:List Int},a.length=b.length->ji a b=false->a≠b->ji b a=true
 |[],[],_,_,h=>absurd rfl h
 |x :: a,y :: b,hl,h1,h2=>by
  rw [ji] at h1 ⊢;by_cases e:x=y
  ·subst e;rw [if_pos rfl] at h1 ⊢;exact JK (by simpa using hl) h1 (fun h=>h2 (by rw [h]))
  ·rw [if_neg e] at h1;rw [if_neg (Ne.symm e)];have:=of_decide_eq_false h1;exact ey (by omega)
 |[],_ :: _,hl,_,_=>by simp at hl
 |_ :: _,[],hl,_,_=>by simp at hl
def JL(n:Nat)(s:eG)(nm:bQ)(r:Nat):Bool:=match s.aY.l.find? (eX nm) with
 |some q=>(lY n q).bits.getD r false
 |none=>false
theorem JM{n:Nat}{s:eG}(hv:dU s=true)(hn:s.size=(n:Int)){nm:bQ}{r k:Nat}{q:Rel}(hq:s.aY.l.find? (eX nm)=some q)(hk:q.arity=(k:Int))(hr:r<n ^ k):JL n s nm r=true↔Ys n (s.aY.l.map dz) nm r:=by
 have Pv:=mem_of_find?_eq_some hq;have ve:q.name=nm:=by have:=find?_some hq;simpa [eX] using this
 unfold JL;rw [hq];simp only [lY,bitsOf,hk,Int.toNat_natCast];rw [Js _ _ (by simpa using hr)];have:(replicate (n ^ k) false).getD r false=false:=by rw [getD_eq_getElem?_getD,getElem?_replicate];split<;>rfl
 rw [this,Bool.false_or,List.any_eq_true];constructor
 ·rintro ⟨u,hu,he⟩;exact ⟨dz q,List.mem_map_of_mem Pv,ve,u,hu,by simpa using he⟩
 ·rintro ⟨d,hd,Ts,u,hu,he⟩;obtain ⟨p,hp,rfl⟩:=mem_map.1 hd;have h1:=sX (nD hv) p hp;rw [show p.name=nm from Ts,hq] at h1;cases h1;exact ⟨u,hu,by simpa using he⟩
end
end Go.AM