/- Parts of the proof. Conditions: none. -/
import Derived.Test.YthmbnnjimbjplaaGreatDoorTu18
import Derived.Test.YthmbnnjimbjplaaGreatDoorTu19
set_option linter.unusedSimpArgs false
set_option linter.unusedVariables false
set_option maxHeartbeats 2000000
namespace Go.AM
open List Nat Bool Option
open Go Go.Proofs
noncomputable section
variable {K:Out->Heap->Bool} {h:Heap} {s s':ew} {n k i j b sz:Nat} {D:bI->Option (Nat×List Bool)} {c:fG} {look:bI->Nat->Bool} {t:List Int} {nm:bI} {x:Sl (Sl Int)} {L:List (List Int)} {α:Type} {r q:Rel} {is:Bool} {a v:AV} {m:dV}
theorem Bh{n:Nat}:∀ {a b:List Int} (r:Nat),a.length=b.length->gM n a=true->gM n b=true->bO a b=true->lW n a r<lW n b r
 |[],_,r,_,_,_,h=>by simp [bO] at h
 |_ :: _,[],r,_,_,_,h=>by simp [bO] at h
 |x :: a,y :: b,r,hl,ha,hb,h=>by
  have P4:=ha;have dw:=hb;simp only [gM,all_cons,and_eq_true,not_eq_true',decide_eq_false_iff_not] at ha hb;have ia:gM n a=true:=by unfold gM;simpa using ha.2
  have ib:gM n b=true:=by unfold gM;simpa using hb.2
  have uM:a.length=b.length:=by simpa using hl
  rw [bO] at h;simp only [lW];by_cases e:x=y
  ·subst e;rw [if_pos rfl] at h;exact Bh _ uM ia ib h
  ·rw [if_neg e] at h;have LL:=of_decide_eq_true h
   have lo:∀ (l:List Int) (r:Nat),r*n ^ l.length<=lW n l r:=by
    intro l
    induction l with
    |nil=>intro r;simp [lW]
    |cons z l ih=>
     intro r;rw [lW];refine Nat.le_trans ?_ (ih _);rw [length_cons,Nat.pow_succ,Nat.mul_comm (n ^ l.length) n,<- Nat.mul_assoc];exact mul_le_mul_right _ (le_add_right _ _)
   have hi:∀ (l:List Int) (r:Nat),gM n l=true->lW n l r<(r+1)*n ^ l.length:=by
    intro l
    induction l with
    |nil=>intro r _;simp [lW]
    |cons z l ih=>
     intro r hz;simp only [gM,all_cons,and_eq_true,not_eq_true',decide_eq_false_iff_not] at hz;rw [lW];refine Nat.lt_of_lt_of_le (ih _ (by unfold gM;simpa using hz.2)) ?_;rw [length_cons,Nat.pow_succ,Nat.mul_comm (n ^ l.length) n,<- Nat.mul_assoc];refine mul_le_mul_right _ ?_;rw [succ_mul];omega
   have q1:=hi a (r*n+x.toNat) ia;have q2:=lo b (r*n+y.toNat)
   have q3:(r*n+x.toNat+1)*n ^ a.length<=(r*n+y.toNat)*n ^ b.length:=by
    rw [uM];exact mul_le_mul_right _ (by omega)
   omega
theorem Ew{a b:List Int}(hl:a.length=b.length)(ha:gM n a=true)(hb:gM n b=true)(h:bO a b=true):iw n a<iw n b:=Bh 0 hl ha hb h
def J6(n k:Nat)(l:List (List Int)):Prop:=(∀ t ∈ l,t.length=k/\gM n t=true)/\ig l
theorem wu:∀ {l:List (List Int)},(∀ i a b,l[i]?=some a->l[i+1]?=some b->bO a b=true)->ig l
 |[],_=>.nil
 |x :: l,h=>by
  have ih:ig l:=wu fun i a b ha hb=>h (i+1) a b (by simpa using ha) (by simpa using hb);refine pairwise_cons.2 ⟨fun y hy=>?_,ih⟩
  cases l with
  |nil=>cases hy
  |cons z l=>
   have hz:=h 0 x z rfl rfl;rcases mem_cons.1 hy with rfl|hy
   ·exact hz
   ·exact gW hz ((pairwise_cons.1 ih).1 y hy)
theorem wz{l:List (List Int)}(hs:ig l){a b:List Int}(ha:l[i]?=some a)(hb:l[i+1]?=some b):bO a b=true:=by
 obtain ⟨h1,rfl⟩:=fR.1 ha;obtain ⟨h2,rfl⟩:=fR.1 hb;exact pairwise_iff_getElem.1 hs i (i+1) h1 h2 (lt_succ_self i)
theorem Bi{l:List (Sl Int)}:qu n k l=true↔J6 n k (l.map Sl.l):=by
 constructor
 ·intro h;refine ⟨fun t ht=>?_,wu fun i a b ha hb=>?_⟩
  ·obtain ⟨u,hu,rfl⟩:=mem_map.1 ht;obtain ⟨i,hi⟩:=getElem?_of_mem hu;exact Gf h hi
  ·rw [getElem?_map] at ha hb;obtain ⟨p,hp,rfl⟩:=map_eq_some_iff.1 ha;obtain ⟨t,ht,rfl⟩:=map_eq_some_iff.1 hb;have:=qt h (fR.1 ht).1;unfold hU at this;rw [ht] at this;simp only [hp,and_eq_true] at this;exact this.2.2
 ·rintro ⟨h1,h2⟩;refine jl fun i hi=>?_;have ht:l[i]?=some l[i]:=fc hi;generalize l[i]=t at ht;obtain ⟨q1,q2⟩:=h1 t.l (List.mem_map_of_mem (iz ht));unfold hU;rw [ht];simp only [q1,q2,decide_true,Bool.true_and]
  cases i with
  |zero=>rfl
  |succ j=>
   have hj:j<l.length:=by omega
   have hp:l[j]?=some l[j]:=fc hj;generalize l[j]=p at hp;simp only [hp];exact wz h2 (i:=j) (by rw [getElem?_map,hp];rfl) (by rw [getElem?_map,ht];rfl)
theorem HV{l:List (List Int)}(h:J6 n k l):l.length<=n ^ k:=by
 have key:∀ i a,l[i]?=some a->i<=iw n a:=by
  intro i
  induction i with
  |zero=>intro a _;exact zero_le _
  |succ i ih=>
   intro b hb;have hi:i<l.length:=by have:=(fR.1 hb).1;omega
   have ha:l[i]?=some l[i]:=fc hi;generalize l[i]=a at ha;have:=ih a ha;obtain ⟨a1,a2⟩:=h.1 a (iz ha);obtain ⟨b1,b2⟩:=h.1 b (iz hb);have:=Ew (by omega) a2 b2 (wz h.2 ha hb);omega
 cases hl:l.length with
 |zero=>exact zero_le _
 |succ m=>
  have hm:l[m]?=some (l[m]'(by omega)):=fc _;have h1:=key m _ hm;obtain ⟨a1,a2⟩:=h.1 _ (iz hm);have h2:=vQ a2;rw [a1] at h2;omega
abbrev Gk:=bI×Int×List (List Int)
def L7(n:Nat)(d:Gk):Prop:=eU d.1=true/\∃ k:Nat,d.2.1=(k:Int)/\k<=12/\n ^ k<=4096/\J6 n k d.2.2
theorem Bj:jc n r=true↔L7 n (eE r):=by
 constructor
 ·intro h;obtain ⟨k,h1,h2,h3,h4⟩:=uh h;simp only [jc,and_eq_true] at h;exact ⟨h.1,k,h1,h2,h3,Bi.1 h4⟩
 ·rintro ⟨h0,k,h1,h2,h3,h4⟩;have Iv:r.arity=(k:Int):=h1;have hk:r.arity.toNat=k:=by omega
  simp only [jc,and_eq_true,decide_eq_true_eq,hk];exact ⟨h0,by omega,by omega,h3,Bi.2 h4⟩
structure L8 (size:Int) (ds:List Gk):Prop where
 lo:1<=size
 hi:size<=64
 P5:ds.length<=8
 rel:∀ d ∈ ds,L7 size.toNat d
 names:(ds.map (·.1)).Nodup
theorem ij:bY s=true↔L8 s.size (s.aQ.l.map eE):=by
 constructor
 ·intro h;have h':=h;simp only [bY,and_eq_true,decide_eq_true_eq] at h';refine ⟨h'.1,h'.2.1,by simpa using h'.2.2.1,fun d hd=>?_,?_⟩
  ·obtain ⟨r,hr,rfl⟩:=mem_map.1 hd;obtain ⟨i,hi⟩:=getElem?_of_mem hr;exact Bj.1 (qz h hi)
  ·have:=fA h;rw [List.map_map];exact this
 ·rintro ⟨h1,h2,h3,h4,h5⟩;rw [length_map] at h3;simp only [bY,and_eq_true,decide_eq_true_eq];refine ⟨h1,h2,h3,jl fun i hi=>?_⟩;have hr:s.aQ.l[i]?=some s.aQ.l[i]:=fc hi;have ua:=hr;generalize s.aQ.l[i]=r at hr;rw [jH,hr];simp only [and_eq_true,not_eq_true'];refine ⟨Bj.2 (h4 _ (List.mem_map_of_mem (iz hr))),?_⟩;rw [eq_false_iff];intro A7;obtain ⟨q,hq,GJ⟩:=List.any_eq_true.1 A7;obtain ⟨j,hj⟩:=getElem?_of_mem hq;have P6:j<i:=by have:=(fR.1 hj).1;rw [length_take] at this;omega
  rw [getElem?_take_of_lt P6] at hj;rw [List.map_map,List.Nodup,pairwise_iff_getElem] at h5;have DP:j<s.aQ.l.length:=by omega
  have:=h5 j i (by simpa using DP) (by simpa using hi) P6;rw [getElem_map,getElem_map] at this;rw [fc DP] at hj;rw [fc hi] at hr;cases hj;cases hr;simp only [beq_iff_eq] at GJ;exact this GJ
theorem lG(h:bY s=true):s.small/\s.ok:=by
 have hp:=ij.1 h
 have len:∀ r ∈ s.aQ.l,r.aP.l.length<=4096/\(∀ t ∈ r.aP.l,t.l.length<=12)/\r.name.length<=12:=fun r hr=>by
  obtain ⟨h0,k,h1,h2,h3,h4⟩:=hp.rel _ (List.mem_map_of_mem hr);have:=HV h4;simp only [eE,length_map] at this;refine ⟨by omega,fun t ht=>?_,?_⟩
  ·have:=(h4.1 t.l (List.mem_map_of_mem ht)).1;omega
  ·replace h0:eU r.name=true:=h0;unfold eU at h0;split at h0
   ·cases h0
   ·simp only [and_eq_true,decide_eq_true_eq] at h0;exact h0.1
 have hl:s.aQ.l.length<=8:=by have:=hp.P5;simpa using this
 exact ⟨⟨by omega,fun r hr=>by have:=(len r hr).1;omega,fun r hr t ht=>by have:=(len r hr).2.1 t ht;omega⟩,
  ⟨by unfold dx;omega,fun r hr=>⟨by have:=(len r hr).2.2;unfold dx;omega,by have:=(len r hr).1;unfold dx;omega,fun t ht=>by have:=(len r hr).2.1 t ht;unfold dx;omega⟩⟩⟩
def Gl(n:Nat)(ds:List Gk)(nm:bI)(r:Nat):Prop:=∃ d ∈ ds,d.1=nm/\∃ u ∈ d.2.2,iw n u=r
def dB(n:Nat)(s:ew)(nm:bI)(r:Nat):Bool:=match s.aQ.l.find? (cQ nm) with
 |some q=>(qy n q).bits.getD r false
 |none=>false
theorem yo{n r:Nat}:∀ (ts:List (Sl Int)) (d:List Bool),r<d.length->(jJ n ts d).getD r false=(d.getD r false||(ts.map Sl.l).any fun u=>iw n u==r)
 |[],d,_=>by simp [jJ]
 |t :: ts,d,hr=>by
  rw [jJ,yo ts _ (by simpa using hr),map_cons,any_cons];by_cases h:iw n t.l=r
  ·rw [h,getD_eq_getElem?_getD,getElem?_set_self hr];simp
  ·have:(iw n t.l==r)=false:=by simpa using h
   rw [getD_eq_getElem?_getD,getElem?_set_ne h,<- getD_eq_getElem?_getD,this,Bool.false_or]
theorem yp(hv:bY s=true)(hn:s.size=(n:Int)){r:Nat}(hq:s.aQ.l.find? (cQ nm)=some q)(hk:q.arity=(k:Int))(hr:r<n ^ k):dB n s nm r=true↔Gl n (s.aQ.l.map eE) nm r:=by
 have Ss:=mem_of_find?_eq_some hq;have GJ:q.name=nm:=by have:=find?_some hq;simpa [cQ] using this
 unfold dB;rw [hq];simp only [qy,bitsOf,hk,Int.toNat_natCast];rw [yo _ _ (by simpa using hr)];have:(replicate (n ^ k) false).getD r false=false:=by rw [getD_eq_getElem?_getD,getElem?_replicate];split<;>rfl
 rw [this,Bool.false_or,List.any_eq_true];constructor
 ·rintro ⟨u,hu,he⟩;exact ⟨eE q,List.mem_map_of_mem Ss,GJ,u,hu,by simpa using he⟩
 ·rintro ⟨d,hd,xV,u,hu,he⟩;obtain ⟨p,hp,rfl⟩:=mem_map.1 hd;have h1:=jZ (fA hv) p hp;rw [show p.name=nm from xV,hq] at h1;cases h1;exact ⟨u,hu,by simpa using he⟩
theorem yq(h0:ez c s=0)(hn:s.size=(n:Int)):Eo n (mR s) c=valueOf (dB n s) n c:=by
 obtain ⟨h1,h2,h3,h4⟩:=zK h0;obtain ⟨m,hm⟩:=isSome_iff_exists.1 (show (cE c).isSome=true from h1);unfold valueOf Eo Bc Cx;rw [CC (rU:=mR s) (look:=dB n s)];intro g hg i d;unfold zH je;split
 ·rfl
 split
 ·rename_i k1;obtain ⟨q,hq,ha⟩:=all_some hm (dW h1) h2 h4 hg k1;rw [mR,rZ (fA h2),hq,dB,hq];simp only [show s.size.toNat=n by omega]
 ·rfl
def xA(d:Gk):bI×Int:=(d.1,d.2.1)
theorem Gm(h:(s.aQ.l.map eE).map xA=(s'.aQ.l.map eE).map xA)(y:bI×Int):jd s y=jd s' y:=by
 have key:∀ l:List Rel,(match l.find? (cQ y.1) with|some r=>decide (r.arity=y.2)|none=>false)=(match ((l.map eE).map xA).find? (fun p=>p.1==y.1) with|some p=>decide (p.2=y.2)|none=>false):=by
  intro l
  induction l with
  |nil=>rfl
  |cons q l ih=>
   rw [map_cons,map_cons,find?_cons,find?_cons]
   cases hq:cQ y.1 q with
   |true=>rw [show ((xA (eE q)).1==y.1)=true from hq];rfl
   |false=>rw [show ((xA (eE q)).1==y.1)=false from hq];exact ih
 have e1:=key s.aQ.l;have e2:=key s'.aQ.l;rw [h] at e1;unfold jd;exact e1.trans e2.symm
theorem HW(hz:s'.size=s.size)(hv:bY s=true)(wE:bY s'=true)(h:(s'.aQ.l.map eE).map xA=(s.aQ.l.map eE).map xA):ez c s'=ez c s:=by
 unfold ez;rw [hv,wE,hz];have:(jd s':bI×Int->Bool)=jd s:=by funext y;exact Gm h y
 rw [this]
theorem DC(hr:s.aQ.l[j]?=some r)(hp:zF s j r t is s'):(s'.aQ.l.map eE).map xA=(s.aQ.l.map eE).map xA:=by
 obtain ⟨ts,h1,h2,h3⟩:=hp.aQ;rw [h3,map_set];apply ext_getElem?;intro i;by_cases hi:j=i
 ·subst hi;have hl:j<s.aQ.l.length:=(fR.1 hr).1;rw [getElem?_set_self (by simpa using hl)];simp only [getElem?_map,hr];rfl
 ·rw [getElem?_set_ne hi]
theorem Ey(hv:bY s=true)(hr:s.aQ.l[j]?=some r)(hk:r.arity=(k:Int))(ht:t.length=k)(hb:gM s.size.toNat t=true)(hp:zF s j r t is s'):bY s'=true:=by
 have hS:=ij.1 hv;have L9:=DC hr hp;obtain ⟨ts,h1,h2,h3⟩:=hp.aQ;have hz:=hp.size;rw [ij];have jo:∀ l:List Gk,l.map (·.1)=(l.map xA).map (·.1):=fun l=>by rw [List.map_map];rfl
 refine ⟨by rw [hz];exact hS.lo,by rw [hz];exact hS.hi,?_,fun d hd=>?_,?_⟩
 ·have:=congrArg List.length L9;simp only [length_map] at this;have:=hS.P5;simp only [length_map] at this ⊢;omega
 ·rw [hz];rw [h3] at hd;rcases mem_or_eq_of_mem_set hd with hd|rfl
  ·exact hS.rel d hd
  ·obtain ⟨q0,k',q1,q2,q3,q4⟩:=hS.rel _ (List.mem_map_of_mem (iz hr));have MQ:r.arity=(k':Int):=q1;obtain rfl:k'=k:=by omega
   refine ⟨q0,k',q1,q2,q3,fun u hu=>?_,h1⟩;rcases (h2 u).1 hu with ⟨a,_⟩|⟨_,a⟩
   ·exact q4.1 u a
   ·rw [a];exact ⟨ht,hb⟩
 ·rw [jo,L9,<- jo];exact hS.names
theorem HX(hv:bY s=true)(hn:s.size=(n:Int))(hr:s.aQ.l[j]?=some r)(hk:r.arity=(k:Int))(ht:t.length=k)(hb:gM n t=true)(hp:zF s j r t is s')(nm:bI)(q:Nat) :
  Gl n (s'.aQ.l.map eE) nm q↔if nm=r.name then ((Gl n (s.aQ.l.map eE) nm q/\q≠iw n t)\/(is=true/\q=iw n t)) else Gl n (s.aQ.l.map eE) nm q:=by
 have hS:=ij.1 hv;obtain ⟨ts,h1,h2,h3⟩:=hp.aQ;have DP:j<(s.aQ.l.map eE).length:=by have:=(fR.1 hr).1;simpa using this
 have C7:(s.aQ.l.map eE)[j]?=some (eE r):=by rw [getElem?_map,hr];rfl
 have xz:s.size.toNat=n:=by omega
 have mC:=hS.rel _ (iz C7);rw [xz] at mC;obtain ⟨_,k',q1,_,_,q4⟩:=mC;have MQ:r.arity=(k':Int):=q1;obtain rfl:k'=k:=by omega
 have Ma:∀ d ∈ s.aQ.l.map eE,d.1=r.name->d=eE r:=fun d hd xV=>by
  obtain ⟨i,hi⟩:=getElem?_of_mem hd;have hN:=hS.names;have e1:((s.aQ.l.map eE).map (·.1))[i]?=some r.name:=by rw [getElem?_map,hi,map_some,xV]
  have e2:((s.aQ.l.map eE).map (·.1))[j]?=some r.name:=by rw [getElem?_map,C7];rfl
  have:i=j:=by
   obtain ⟨l1,l2⟩:=fR.1 e1;obtain ⟨l3,l4⟩:=fR.1 e2;by_cases hlt:i<j
   ·exact absurd (l2.trans l4.symm) (pairwise_iff_getElem.1 hN i j l1 l3 hlt)
   ·by_cases GX:j<i
    ·exact absurd (l4.trans l2.symm) (pairwise_iff_getElem.1 hN j i l3 l1 GX)
    ·omega
  subst this;rw [hi] at C7;cases C7;rfl
 have jL:(r.name,r.arity,ts) ∈ s'.aQ.l.map eE:=by rw [h3];exact iz (getElem?_set_self DP)
 have hold:∀ d ∈ s.aQ.l.map eE,d.1≠r.name->d ∈ s'.aQ.l.map eE:=fun d hd xV=>by
  obtain ⟨i,hi⟩:=getElem?_of_mem hd;rw [h3];refine iz (i:=i) ?_;rw [getElem?_set_ne (fun e=>?_)]
  ·exact hi
  ·subst e;rw [hi] at C7;cases C7;exact xV rfl
 have C5:∀ d ∈ s'.aQ.l.map eE,(d=(r.name,r.arity,ts))\/(d ∈ s.aQ.l.map eE/\d.1≠r.name):=fun d hd=>by
  obtain ⟨i,hi⟩:=getElem?_of_mem hd;rw [h3] at hi;by_cases e:j=i
  ·subst e;rw [getElem?_set_self DP] at hi;cases hi;exact .inl rfl
  ·rw [getElem?_set_ne e] at hi;refine .inr ⟨iz hi,fun xV=>e ?_⟩;have e1:((s.aQ.l.map eE).map (·.1))[i]?=some r.name:=by rw [getElem?_map,hi,map_some,xV]
   have e2:((s.aQ.l.map eE).map (·.1))[j]?=some r.name:=by rw [getElem?_map,C7];rfl
   obtain ⟨l1,l2⟩:=fR.1 e1;obtain ⟨l3,l4⟩:=fR.1 e2;have hN:=hS.names;by_cases hlt:i<j
   ·exact absurd (l2.trans l4.symm) (pairwise_iff_getElem.1 hN i j l1 l3 hlt)
   ·by_cases GX:j<i
    ·exact absurd (l4.trans l2.symm) (pairwise_iff_getElem.1 hN j i l3 l1 GX)
    ·omega
 have hin:∀ u,u ∈ r.aP.l.map Sl.l->u.length=k'/\gM n u=true:=fun u hu=>q4.1 u hu;by_cases jo:nm=r.name
 ·rw [if_pos jo];subst jo;constructor
  ·rintro ⟨d,hd,xV,u,hu,he⟩;rcases C5 d hd with rfl|⟨_,h⟩
   ·rcases (h2 u).1 hu with ⟨a,b⟩|⟨a,b⟩
    ·refine .inl ⟨⟨eE r,iz C7,rfl,u,a,he⟩,fun e=>b ?_⟩;obtain ⟨u1,u2⟩:=hin u a;exact Dy (by omega) u2 hb (he.trans e)
    ·exact .inr ⟨a,by rw [<- he,b]⟩
   ·exact absurd xV h
  ·rintro (⟨⟨d,hd,xV,u,hu,he⟩,hne⟩|⟨KI,he⟩)
   ·obtain rfl:=Ma d hd xV;exact ⟨_,jL,rfl,u,(h2 u).2 (.inl ⟨hu,fun e=>hne (by rw [<- he,e])⟩),he⟩
   ·exact ⟨_,jL,rfl,t,(h2 t).2 (.inr ⟨KI,rfl⟩),he.symm⟩
 ·rw [if_neg jo];constructor
  ·rintro ⟨d,hd,xV,u,hu,he⟩;rcases C5 d hd with rfl|⟨h,_⟩
   ·exact absurd xV.symm jo
   ·exact ⟨d,h,xV,u,hu,he⟩
  ·rintro ⟨d,hd,xV,u,hu,he⟩;exact ⟨d,hold d hd (by rw [xV];exact jo),xV,u,hu,he⟩
theorem HY{a:Nat}(hb:0<b):aC .rem (I6 (a:Int)) (I6 (b:Int))=some (I6 ((a%b:Nat):Int)):=by
 have h:¬ (b:Int)=0:=by omega
 simp only [aC,if_true,if_neg h];rw [Int.tmod_eq_emod_of_nonneg (by omega)];rfl
theorem HZ{a:Nat}(hb:0<b)(ha:a<=1000000):aC .quo (I6 (a:Int)) (I6 (b:Int))=some (I6 ((a/b:Nat):Int)):=by
 have h:¬ (b:Int)=0:=by omega
 simp only [aC,if_true,if_neg h];have e:((a:Int).tdiv (b:Int))=((a/b:Nat):Int):=by rw [Int.tdiv_eq_ediv_of_nonneg (by omega)];rfl
 have:a/b<=a:=div_le_self _ _;rw [e];generalize a/b=q at this;rw [IntWalk.i64_in _ (by omega)]
theorem kL:∀ a:bI,strLt a a=false
 |[]=>rfl
 |x :: a=>by
  have:=kL a;unfold strLt at this ⊢;simp [Op.bytesLess,this]
theorem mS:∀ {a b c:bI},strLt a b=true->strLt b c=true->strLt a c=true
 |_,[],_,h,_=>by unfold strLt at h;simp [Op.bytesLess] at h
 |_,_ :: _,[],_,h=>by unfold strLt at h;simp [Op.bytesLess] at h
 |[],_ :: _,_ :: _,_,_=>rfl
 |x :: a,y :: b,z :: c,h1,h2=>by
  have ih:=@mS a b c;unfold strLt at h1 h2 ih ⊢;simp only [Op.bytesLess,or_eq_true,decide_eq_true_eq,and_eq_true,beq_iff_eq] at h1 h2 ⊢;rcases h1 with h1|⟨rfl,h1⟩<;>rcases h2 with h2|⟨rfl,h2⟩
  ·exact .inl (UInt8.lt_trans h1 h2)
  ·exact .inl h1
  ·exact .inl h2
  ·exact .inr ⟨rfl,ih h1 h2⟩
theorem r6:∀ {a b:bI},strLt a b=false->a≠b->strLt b a=true
 |[],[],_,h=>absurd rfl h
 |[],_ :: _,h,_=>by unfold strLt at h;simp [Op.bytesLess] at h
 |_ :: _,[],_,_=>rfl
 |x :: a,y :: b,h1,h2=>by
  have ih:=@r6 a b;unfold strLt at h1 ih ⊢;simp only [Op.bytesLess,or_eq_false_iff,decide_eq_false_iff_not,and_eq_false_iff,beq_eq_false_iff_ne] at h1;simp only [Op.bytesLess,or_eq_true,decide_eq_true_eq,and_eq_true,beq_iff_eq];obtain ⟨h3,h4⟩:=h1;by_cases e:x=y
  ·subst e;rcases h4 with h4|h4
   ·exact absurd rfl h4
   ·exact .inr ⟨rfl,ih h4 (fun h=>h2 (by rw [h]))⟩
  ·refine .inl ?_;rcases UInt8.lt_or_lt_of_ne e with h|h
   ·exact absurd h h3
   ·exact h
theorem J7:∀ {a b:bI},leB a b=true->a≠b->strLt a b=true:=fun {a b} h hne=>by
 cases hs:strLt a b with
 |true=>rfl
 |false=>
  exfalso
  have key:∀ {a b:bI},strLt b a=true->b<a:=by
   intro a
   induction a with
   |nil=>intro b h;unfold strLt at h;cases b<;>simp [Op.bytesLess] at h
   |cons x a ih=>
    intro b h
    cases b with
    |nil=>exact nil_lt_cons _ _
    |cons y b=>
     unfold strLt at h;simp only [Op.bytesLess,or_eq_true,decide_eq_true_eq,and_eq_true,beq_iff_eq] at h;rcases h with h|⟨rfl,h⟩
     ·exact cons_lt_cons_iff.2 (.inl h)
     ·exact cons_lt_cons_iff.2 (.inr ⟨rfl,ih h⟩)
  have h1:=key (r6 hs hne);have h2:a<=b:=of_decide_eq_true h;exact absurd h1 (List.not_lt.2 h2)
def nR(l:List bI):Prop:=l.Pairwise fun a b=>strLt a b=true
theorem nS:∀ {l m:List bI},nR l->nR m->(∀ x,x ∈ l↔x ∈ m)->l=m
 |[],[],_,_,_=>rfl
 |[],y :: m,_,_,h=>by have:=(h y).2 mem_cons_self;cases this
 |x :: l,[],_,_,h=>by have:=(h x).1 mem_cons_self;cases this
 |x :: l,y :: m,hl,hm,h=>by
  obtain ⟨l1,l2⟩:=pairwise_cons.1 hl;obtain ⟨m1,m2⟩:=pairwise_cons.1 hm
  have LL:x=y:=by
   rcases mem_cons.1 ((h x).1 mem_cons_self) with e|e
   ·exact e
   ·rcases mem_cons.1 ((h y).2 mem_cons_self) with e'|e'
    ·exact e'.symm
    ·have:=mS (m1 x e) (l1 y e');rw [kL] at this;cases this
  subst LL;rw [nS l2 m2 fun z=>?_];constructor
  ·intro hz;rcases mem_cons.1 ((h z).1 (mem_cons_of_mem _ hz)) with e|e
   ·subst e;have:=l1 z hz;rw [kL] at this;cases this
   ·exact e
  ·intro hz;rcases mem_cons.1 ((h z).2 (mem_cons_of_mem _ hz)) with e|e
   ·subst e;have:=m1 z hz;rw [kL] at this;cases this
   ·exact e
theorem nT:∀ {l:List bI},nR l->∀ s,nR (dQ l s)
 |[],_,s=>pairwise_singleton _ _
 |x :: l,h,s=>by
  obtain ⟨h1,h2⟩:=pairwise_cons.1 h;rw [dQ];split
  ·rename_i hx;refine pairwise_cons.2 ⟨fun y hy=>?_,nT h2 s⟩;rcases oQ.1 hy with hy|rfl
   ·exact h1 y hy
   ·exact hx
  ·rename_i hx;split
   ·exact h
   ·rename_i hne;have P7:strLt s x=true:=r6 (by simpa using hx) hne;refine pairwise_cons.2 ⟨fun y hy=>?_,h⟩;rcases mem_cons.1 hy with rfl|hy
    ·exact P7
    ·exact mS P7 (h1 y hy)
theorem lH:∀ {ys:List (bI×Int)} {o:List bI},nR o->nR (gv ys o)
 |[],o,h=>h
 |y :: ys,o,h=>by
  rw [gv];split
  ·exact lH h
  ·exact lH (nT h _)
theorem yt{ck:Nat}:∀ {es:List Entry},(∀ e ∈ es,(∃ s,e.1 = .str s/\s.length<=1000)/\e.2.2<ck)->(es.map keyBytes).Nodup->(es.map (·.2.2)).Nodup->lp ck es=true
 |[],_,_,_=>rfl
 |e :: es,h,h1,h2=>by
  rw [map_cons,nodup_cons] at h1 h2;obtain ⟨⟨s,hs,hl⟩,hc⟩:=h e mem_cons_self;have ih:=yt (ck:=ck) (es:=es) (fun f hf=>h f (mem_cons_of_mem _ hf)) h1.2 h2.2;have hb:ble s.length 140737488351232=true:=ble_eq_true_of_le (by omega);have zR:ble (e.2.2+1) ck=true:=ble_eq_true_of_le hc
  have kV:es.all (fun f=>!(keyBytes e==keyBytes f)&&!(Nat.beq e.2.2 f.2.2))=true:=by
   rw [List.all_eq_true];intro f hf
   have q1:(keyBytes e==keyBytes f)=false:=by
    simp only [beq_eq_false_iff_ne];exact fun q=>h1.1 (by rw [q];exact List.mem_map_of_mem hf)
   have q2:Nat.beq e.2.2 f.2.2=false:=by
    cases hq:Nat.beq e.2.2 f.2.2 with
    |false=>rfl
    |true=>exact absurd (by rw [eq_of_beq_eq_true hq];exact List.mem_map_of_mem hf) h2.1
   rw [q1,q2];rfl
  simp only [lp,hs,isStr,hb,zR,kV,ih,Bool.and_self]
theorem keys_map{M:Nat}(hK:K (.ret (.func 148 [] [.ptr h.next 0])) (h.alloc (.box (.map M)))=true):Sem TP 89 [.map M] h K:=
 kH.IE (f:=89) (g:=AE 148) rfl hK
theorem CD{M:Nat}{es:List Entry}{ck:Nat}(hb:h.get b=some (.box (.map M)))(hM:h.get M=some (.map es ck))(EL:lp ck es=true)(hlen:es.length<=1000000)
  (hK:∀ a h',aX h h'->Own encS 1 h.next h' a (kE (es.map keyBytes))->K (.ret a) h'=true):Sem TP 88 [.func 148 [] [.ptr b 0]] h K:=by
 refine kH.IE (f:=88) (g:=Ln (jV 172) (jV 148)) rfl ?_;have hl:ble (es.length*16) 140737488355328=true:=ble_eq_true_of_le (by omega)
 have h2:jV 148 [.func 148 [] [.ptr b 0]] h K=true:=by
  simp only [jV,hb,hM,EL,hl,Bool.true_and];rw [show Nat.beq 148 148=true from rfl,Bool.true_and];generalize kE (es.map keyBytes)=ns at hK ⊢
  cases ns with
  |nil=>exact hK _ _ (aX.refl _) .nil
  |cons k ks=>
   have e:(k :: ks).map AV.str=(k :: ks).flatMap encS:=by
    generalize (k :: ks)=l
    induction l with
    |nil=>rfl
    |cons x l ih=>rw [map_cons,flatMap_cons,ih];rfl
   refine hK _ _ (aX.alloc _ _) ?_;rw [e];exact .row _ (k :: ks) (dR _) (lt_succ_self _) (ay _ _)
 simp only [Ln,h2,Bool.or_true]
theorem zL{l:List bI}(hn:l.Nodup):nR (kE l)/\∀ x,x ∈ kE l↔x ∈ l:=by
 refine ⟨?_,fun x=>(iH l).mem_iff⟩;have h1:=lu l;have h2:(kE l).Nodup:=(iH l).nodup_iff.2 hn;unfold nR;unfold List.Nodup at h2;exact (h1.and h2).imp fun {a b} h=>J7 h.1 h.2
def jf(n:Nat):Nat->Nat->List Int
 |0,_=>[]
 |k+1,r=>jf n k (r/n)++[((r%n:Nat):Int)]
theorem wA(n:Nat):∀ k r,(jf n k r).length=k
 |0,_=>rfl
 |k+1,r=>by rw [jf,length_append,wA n k];rfl
theorem r7{n:Nat}(hn:1<=n):∀ (k r:Nat),r<n ^ k->(lR n k)[r]?=some (jf n k r)
 |0,r,h=>by
  obtain rfl:r=0:=by simp at h;omega
  rfl
 |k+1,r,h=>by
  have hr:r/n<n ^ k:=Nat.div_lt_of_lt_mul (by rw [Nat.mul_comm,<- Nat.pow_succ];exact h);have hx:r%n<n:=mod_lt _ hn;have:=rS (n:=n) (r7 hn k (r/n) hr) hx;rw [lR,jf]
  rwa [div_add_mod' r n] at this
theorem zM(hn:1<=n){r:Nat}(h:r<n ^ k):gM n (jf n k r)=true/\iw n (jf n k r)=r:=by
 obtain ⟨t,h1,h2,h3,h4⟩:=rT hn k r h;rw [r7 hn k r h] at h1;cases h1;exact ⟨h3,h4⟩
theorem dM{n k r:Nat}(n1:1<=n)(Cz:n<=64)(hk:k<=12)(hc:n ^ k<=4096)(hr:r<n ^ k){h:Heap}{K:Out->Heap->Bool}(hK:∀ t:Sl Int,t.l=jf n k r->K (.ret (.tuple [gr t,I6 0])) h=true):Sem TP 90 [I6 (n:Int),I6 (k:Int),I6 (r:Int)] h K:=by
 have main:Sem TP 90 [I6 (n:Int),I6 (k:Int),I6 (r:Int)] Heap.empty (fun o h'=>yes (∃ v,∃ t:Sl Int,o = .ret (.tuple [v,I6 0])/\t.l=jf n k r/\Fz true h' v (gr t))):=by
  refine F.tf ?_;rw [F.vA];refine ag (mI n1 Cz (by unfold dx;omega) ?_);rw [Eg,if_neg (by omega),if_neg (by omega)];have FY:aC .sub (I6 (k:Int)) (I6 1)=some (I6 ((k:Int)-1)):=pX (by omega) (by omega);simp only [br,reduceAdd,reduceEqDiff,reduceIte,beq_self_eq_true,Bool.not_true,fB (by omega:¬ (r:Int)<0),fB (by omega:¬ ((n ^ k:Nat):Int)<=(r:Int)),Ht (show k<=1000000 by omega),aV,FY]
  refine jC (fun j e h'=>∃ (q:Nat) (GK:List Int),j<=k/\jf n k r=jf n j q++GK/\j+GK.length=k/\q<=4096/\h'.get 0=sC ((replicate j (0:Int)++GK).map iv)/\e 0=I6 (n:Int)/\e 2=I6 (q:Int)/\e 10 = .slice 0 0 k 1/\e 11=I6 ((j:Int)-1)) k
   ⟨r,[],dR _,by simp,rfl,by omega,by rw [append_nil];exact ay _ _,rfl,rfl,rfl,rfl⟩ ?_
  rintro j e h' ⟨q,GK,hj,ht,hl,hq,g0,e0,e2,iK,sP⟩;rw [F.dM.aT]
  cases j with
  |zero=>
   simp only [sP,k8,cN,bC,fB (by omega:¬ (0:Int)<=((0:Nat):Int)-1),ax,oz];rw [F.dM.aF];simp only [lV,reduceEqDiff,reduceIte,iK];rw [replicate_zero,nil_append] at g0;refine cw.2 ⟨_,some GK,rfl,by rw [ht,jf];rfl,?_⟩;have:=FU g0
   rwa [show GK.length=k by omega] at this
  |succ j=>
   have Oa:((j+1:Nat):Int)-1=(j:Int):=by omega
   have Su:j<k:=by omega
   have kC:(replicate (j+1) (0:Int)++GK).set j ((q%n:Nat):Int)=replicate j 0++(((q%n:Nat):Int) :: GK):=by
    rw [replicate_succ',append_assoc,set_append_right _ _ (by simp)];simp
   have Sv:aC .sub (I6 (j:Int)) (I6 1)=some (I6 ((j:Int)-1)):=pX (by omega) (by omega);rw [Oa] at sP;simp only [e0,e2,iK,sP,k8,cN,bC,fS (by omega:(0:Int)<=(j:Int)),aA,HY n1,HZ n1 (show q<=1000000 by omega),kI Su,FT g0 (show j<(replicate (j+1) (0:Int)++GK).length by simp;omega),Sv];refine cw.2 ⟨j,by omega,rfl,rfl,⟨q/n,(((q%n:Nat):Int) :: GK),by omega,?_,by simp;omega,by have:=div_le_self q n;omega,by rw [Heap.aK,if_pos rfl,kC],e0,rfl,iK,rfl⟩⟩;rw [ht,jf,append_assoc];rfl
 refine main.frozen (by simp [AV.bQ,AV.pure]) fun o h' ho=>?_;obtain ⟨v,t,rfl,ht,hf⟩:=cw.1 ho;have:=kf.cons hf (kf.cons (.scalar (I6 0) rfl) kf.nil);exact ⟨_,_,rfl,.tuple _ _ this.len this.rel,hK t ht⟩
abbrev Ez:=bI×Sl Int
def mT(f:Ez):List AV:=[.str f.1,gr f.2]
theorem wB(f:Ez):(mT f).length=2:=rfl
theorem Gn(f:Ez):bw (mT f)=true:=by
 obtain ⟨a,b⟩:=f;cases b<;>rfl
def qC(f:Ez):bI×List Int:=(f.1,f.2.l)
theorem Mb(s:bI)(t:Sl Int):ko [.str [],.aE] [(0,1),(1,1)] [.str s,gr t]=some (.agg (mT (s,t))):=by cases t<;>rfl
theorem Mc(f:Ez):eY [.str [],.aE] [(0,2)] [.agg (mT f)]=some (mT f):=by
 obtain ⟨a,b⟩:=f;cases b<;>rfl
theorem Md{x:Sl Ez}{f:Ez}(hf:x.l[i]?=some f):au none (.cS (x.l.flatMap mT) (i*2)) h=some (.str f.1):=by
 have:=fK (h:=h) wB hf (k:=0) (by omega);rw [Nat.add_zero] at this;rw [this];rfl
theorem J8{x:Sl Ez}{f:Ez}(hf:x.l[i]?=some f):au none (.cS (x.l.flatMap mT) (i*2+1)) h=some (gr f.2):=by
 rw [fK wB hf (by omega)];rfl
theorem aX.both{a b:Heap}(h:aX a b)(i:Nat)(x:gh):aX (a.set i x) (b.set i x):=
 ⟨by rw [Heap.bl,Heap.bl];exact h.next,fun c hc=>by
  rw [Heap.bl] at hc
  rw [Heap.aK,Heap.aK,h.get c hc]⟩
theorem aX.back{a b:Heap}{x o:gh}(ho:a.get i=some o)(h:aX (a.set i x) b):aX a (b.set i o):=
 ⟨by have:=h.next;rw [Heap.bl] at this ⊢;exact this,fun c hc=>by
  rw [Heap.aK];by_cases e:c=i
  ·subst e;rw [if_pos rfl,ho]
  ·rw [if_neg e,h.get c (by rw [Heap.bl];exact hc),Heap.aK,if_neg e]⟩
def sS(look:bI->Nat->Bool)(nm:bI)(r:Nat):bI->Nat->Bool:=fun EN r'=>if EN=nm/\r'=r then !(look EN r') else look EN r'
theorem val_congr{look qD:bI->Nat->Bool}{n:Nat}:∀ {l:List Gate},(∀ g ∈ l,g.kind=1->look g.name (iw n g.at_.l)=qD g.name (iw n g.at_.l))->∀ (i:Nat) (d:List Bool),tK look n l i d=tK qD n l i d
 |[],_,_,_=>rfl
 |g :: l,h,i,d=>by
  have hg:je look n d g=je qD n d g:=by
   unfold je;split
   ·rfl
   split
   ·rename_i k1;exact h g mem_cons_self k1
   ·rfl
  rw [tK,tK,hg];exact val_congr (fun g' nc=>h g' (mem_cons_of_mem _ nc)) _ _
theorem ki{qD:bI->Nat->Bool}(h:∀ g ∈ c.aU.l,g.kind=1->look g.name (iw n g.at_.l)=qD g.name (iw n g.at_.l)):valueOf look n c=valueOf qD n c:=by
 unfold valueOf Bc;rw [val_congr h]
theorem EA{qD:bI->Nat->Bool}(nm:bI)(r:Nat)(h:∀ g ∈ c.aU.l,g.kind=1->look g.name (iw n g.at_.l)=qD g.name (iw n g.at_.l)):valueOf (sS look nm r) n c=valueOf (sS qD nm r) n c:=
 ki fun g hg k1=>by unfold sS;rw [h g hg k1]
def Bk(D:bI->Option (Nat×List Bool))(nm:bI)(b:Nat)(d:List Bool):bI->Option (Nat×List Bool):=fun j=>if j=nm then some (b,d) else D j
theorem kg.set{D:bI->Option (Nat×List Bool)}{h:Heap}{B lo:Nat}(H:kg D h B lo){nm:bI}{p:Nat×List Bool}(hp:D nm=some p){d:List Bool}(hd:d.length=p.2.length):kg (Bk D nm p.1 d) (h.set p.1 (.cells (d.map bv))) B lo:=by
 obtain ⟨es,ck,m,h1,h2,h3⟩:=H.ex;obtain ⟨k1,k2,k3,k4⟩:=H.BE nm p hp;refine ⟨⟨es,ck,m,by rw [Heap.aK,if_neg (Ne.symm k3)];exact h1,h2,fun j=>?_⟩,fun j q hq=>?_,fun j j' q q' hq oV EO=>?_,by rw [Heap.bl];exact H.lt⟩
 ·rw [h3];unfold Bk;by_cases e:j=nm
  ·subst e;rw [if_pos rfl,hp,map_some,map_some,hd]
  ·rw [if_neg e]
 ·unfold Bk at hq;by_cases e:j=nm
  ·rw [if_pos e] at hq;cases hq;exact ⟨k1,by rw [Heap.bl];exact k2,k3,by rw [Heap.aK,if_pos rfl]⟩
  ·rw [if_neg e] at hq;obtain ⟨q1,q2,q3,q4⟩:=H.BE j q hq;exact ⟨q1,by rw [Heap.bl];exact q2,q3,by rw [Heap.aK,if_neg (fun e'=>e (H.inj j nm q p hq hp e'))];exact q4⟩
 ·unfold Bk at hq oV;by_cases e:j=nm
  ·by_cases e':j'=nm
   ·rw [e,e']
   ·rw [if_pos e] at hq;rw [if_neg e'] at oV;cases hq;exact absurd (H.inj nm j' p q' hp oV EO).symm e'
  ·by_cases e':j'=nm
   ·rw [if_neg e] at hq;rw [if_pos e'] at oV;cases oV;exact absurd (H.inj j nm q p hq hp EO) e
   ·rw [if_neg e] at hq;rw [if_neg e'] at oV;exact H.inj j j' q q' hq oV EO
theorem EB{p:Nat×List Bool}(hp:D nm=some p){r:Nat}{v:Bool}(hv:p.2[r]?=some v):gX (Bk D nm p.1 (p.2.set r (!v)))=sS (gX D) nm r:=by
 have hr:=(fR.1 hv).1;funext j q;unfold gX Bk sS;by_cases e:j=nm
 ·subst e;rw [if_pos rfl];simp only [hp,_root_.true_and];by_cases h:q=r
  ·subst h;simp only [if_pos,getD_eq_getElem?_getD,getElem?_set_self hr,hv,getD_some]
  ·rw [if_neg h,getD_eq_getElem?_getD,getD_eq_getElem?_getD,getElem?_set_ne (Ne.symm h)]
 ·rw [if_neg e,if_neg (fun h=>e h.1)]
theorem Bd.set(h:Bd n D c){p:Nat×List Bool}(hp:D nm=some p){d:List Bool}(hd:d.length=p.2.length):Bd n (Bk D nm p.1 d) c:=
 ⟨h.len,h.pow,h.PV,fun g hg k1=>by
  obtain ⟨q,q1,q2⟩:=h.bit g hg k1;unfold Bk;by_cases e:g.name=nm
  ·rw [e,hp] at q1;cases q1;exact ⟨_,if_pos e,by rw [hd];exact q2⟩
  ·exact ⟨q,by rw [if_neg e];exact q1,q2⟩⟩
theorem Bl{es:List Entry}{ck:Nat}(hb:h.get b=some (.map es ck))(hm:gq es m)(k:bI) :
  dy .string (I6 0) false (.map b) (.str k) h=some (I6 ((m.find k).getD 0)):=by
 obtain ⟨r,hr,rf⟩:=gq.gP (k:=k) 0 hm;simp only [dy,iT,hb,lJ,lI,if_true,hr]
 cases r with
 |none=>simp at rf;simp [rf]
 |some jv=>
  obtain ⟨n,q,_,b,c,_⟩:=rf;obtain ⟨j,v⟩:=jv;simp only at c;subst c;simp [b]
theorem H6(m:dV)(k:bI)(v:Int):(m.lU k v).length<=m.length+1:=by
 induction m with
 |nil=>simp [dV.lU]
 |cons p m ih=>
  simp only [dV.lU];split
  ·simp
  ·simp only [length_cons];omega
theorem wC{n:Int}:∀ (l:List Gate) (i:Nat) (m m':dV),cI n l i m=some m'->m'.length<=m.length+l.length
 |[],i,m,m',h=>by simp only [cI,Option.some.injEq] at h;subst h;simp
 |g :: l,i,m,m',h=>by
  have hu:=H6 m g.name g.at_.l.length;simp only [cI] at h
  cases hf:ga n i g with
  |false=>rw [hf] at h;cases h
  |true=>
   rw [hf] at h;simp only [aA] at h
   have key:∀ m1:dV,m1.length<=m.length+1->cI n l (i+1) m1=some m'->m'.length<=m.length+(g :: l).length:=fun m1 h1 h2=>by
    have:=wC l (i+1) m1 m' h2;simp only [length_cons];omega
   split at h
   ·split at h
    ·split at h
     ·exact key _ hu h
     ·cases h
    ·exact key _ hu h
   ·exact key _ (by omega) h
theorem DD:∀ {es:List Entry} {m:dV},gq es m->es.map keyBytes=m.map (·.1)
 |[],[],_=>rfl
 |e :: es,p :: m,⟨h1,_,h3⟩=>by
  obtain ⟨ek,ev⟩:=e;simp only at h1;subst h1;rw [map_cons,map_cons,DD h3];rfl
def jK(look:bI->Nat->Bool)(n:Nat)(c:fG)(iR:Bool)(nm:bI)(k j:Nat):List (bI×List Int):=((List.range j).filter fun r=>valueOf (sS look nm r) n c != iR).map fun r=>(nm,jf n k r)
theorem yu(look:bI->Nat->Bool)(n:Nat)(c:fG)(iR:Bool)(nm:bI)(k j:Nat):jK look n c iR nm k (j+1)=jK look n c iR nm k j++(if (valueOf (sS look nm j) n c != iR)=true then [(nm,jf n k j)] else []):=by
 unfold jK;rw [range_succ,filter_append,map_append];congr 1;cases h:valueOf (sS look nm j) n c != iR<;>simp [h]
def oR(n:Nat)(s:ew)(c:fG):List (bI×List Int):=(fh c).flatMap fun y=>jK (dB n s) n c (valueOf (dB n s) n c) y.1 y.2.toNat (n ^ y.2.toNat)
theorem H7(hm:cE c=some m)(hf:c.fits)(hv:bY s=true)(hn:s.size=(n:Int))(hF:yl n s m D)(hA:Gg m D):∀ g ∈ c.aU.l,g.kind=1->gX D g.name (iw n g.at_.l)=dB n s g.name (iw n g.at_.l):=fun g hg k1=>by
 obtain ⟨p,r,h1,h2,h3,h4,h5⟩:=lF hm hf hv hn hF hA hg k1;unfold gX dB;rw [h1,h2];simp only [qy,h3,h4,Int.toNat_natCast]
theorem qE(c:fG):nR ((fh c).map (·.1)):=by
 have:(fh c).map (·.1)=lB (gO (eD c)):=by
  unfold fh;rw [List.map_map];exact (map_congr_left fun x _=>rfl).trans (List.map_id _)
 rw [this];exact lH .nil
theorem EC{d:List Bool}{r:Nat}{v:Bool}(hv:d[r]?=some v):(d.set r (!v)).set r v=d:=by
 rw [set_set,Ep hv]
theorem bL{c:fG}{s:ew}(hc:c.ok)(hs:s.ok){h:Heap}{K:Out->Heap->Bool}(JW:ez c s≠0->K (.ret (.tuple [.aE,I6 (ez c s)])) h=true)
  (EL:ez c s=0->∀ x:Sl Ez,x.l.map qC=oR s.size.toNat s c->K (.ret (.tuple [cp mT 2 x,I6 0])) h=true):Sem TP 38 [.agg (an c),.agg (ak s)] h K:=by
 have Sw:dg=140737488355328:=rfl
 have main:Sem TP 38 [.agg (an c),.agg (ak s)] Heap.empty (fun o h'=>yes ((ez c s≠0/\o = .ret (.tuple [.aE,I6 (ez c s)]))\/(ez c s=0/\∃ v,∃ x:Sl Ez,o = .ret (.tuple [v,I6 0])/\x.l.map qC=oR s.size.toNat s c/\Fz true h' v (cp mT 2 x)))):=by
  have bad:∀ (n:Int) (H:Heap),n=ez c s->n≠0->yes ((ez c s≠0/\Out.ret (.tuple [.aE,I6 n]) = .ret (.tuple [.aE,I6 (ez c s)]))\/(ez c s=0/\∃ v,∃ x:Sl Ez,Out.ret (.tuple [.aE,I6 n]) = .ret (.tuple [v,I6 0])/\x.l.map qC=oR s.size.toNat s c/\Fz true H v (cp mT 2 x)))=true:=fun n H hn h0=>by
   subst hn;exact cw.2 (.inl ⟨h0,rfl⟩)
  refine F.vz ?_;rw [F.w8];simp only [cc (dm c),cc (cL s),cN,aV,Heap.aR];have g0:(Heap.alloc (Heap.alloc Heap.empty (.cells (an c))) (.cells (ak s))).get 0=sC (an c):=by simp [Heap.aD,aV]
  have g1:(Heap.alloc (Heap.alloc Heap.empty (.cells (an c))) (.cells (ak s))).get 1=sC (ak s):=by simp [Heap.aD,aV]
  have gn:(Heap.alloc (Heap.alloc Heap.empty (.cells (an c))) (.cells (ak s))).next=2:=rfl
  generalize (Heap.alloc (Heap.alloc Heap.empty (.cells (an c))) (.cells (ak s)))=H at g0 g1 gn ⊢;have l0:au (some 2) (.ptr 0 0) H=some (.agg (an c)):=by rw [ai g0,bJ (cs:=an c) (n:=2) rfl]
  have l1:au (some 2) (.ptr 1 0) H=some (.agg (ak s)):=by rw [ai g1,bJ (cs:=ak s) (n:=2) rfl]
  simp only [Nat.zero_add,l0,l1,cN];refine ag (bM hc hs (fun tI h' hx=>?_) (fun hv kO hz h' hx=>?_) (fun m hm kO hz hex h' hx=>?_) (fun m hm kO hz h' B M es ck D hx hB hF hA hM hI J4 L5 Sx Tw Sy=>?_))
  ·simp only [br,reduceAdd,reduceEqDiff,reduceIte];exact bad _ _ (by rw [ez,if_pos tI]) (by decide)
  ·simp only [br,reduceAdd,reduceEqDiff,reduceIte];exact bad _ _ (by rw [ez,if_neg (by simp [hv,kO]),if_pos hz]) (by decide)
  ·have hv:cU c=true:=by rw [cU,hm];rfl
   simp only [br,reduceAdd,reduceEqDiff,reduceIte];exact bad _ _ (by rw [ez,if_neg (by simp [hv,kO]),if_neg (by simp [hz]),if_pos ((nv hm (dW hv) kO).2 hex)]) (by decide)
  have hv:cU c=true:=by rw [cU,hm];rfl
  have hf:=dW hv;obtain ⟨n,hn,n1,Cz,h8⟩:=nu kO;have xz:s.size.toNat=n:=by omega
  rw [xz] at hF;rw [gn] at hB Sx Sy;have CB:(m.map (·.1)).Nodup:=(eo hm).nodup nodup_nil
  have he:ez c s=0:=by
   have:¬ (fh c).all (jd s)=false:=fun h=>by
    obtain ⟨p,hp,tI⟩:=(nv hm hf kO).1 h;obtain ⟨q,hq⟩:=isSome_iff_exists.1 (hA p hp);obtain ⟨k,r,h1,h2,h3⟩:=hF.to _ _ hq;rw [jm CB hp] at h1;simp only [Option.some.injEq] at h1;rw [h1,h2] at tI;cases tI
   rw [ez,if_neg (by simp [hv,kO]),if_neg (by simp [hz]),if_neg this]
  have lc:∀ hh:Heap,hh.get 0=sC (an c)->au (some 2) (.ptr 0 0) hh=some (.agg (an c)):=fun hh h1=>by rw [ai h1,bJ (cs:=an c) (n:=2) rfl]
  have oU:=hx.next
  have p0:h'.get 0=sC (an c):=by rw [hx.get _ (by omega)];exact g0
  have p1:h'.get 1=sC (ak s):=by rw [hx.get _ (by omega)];exact g1
  have IV:=Bf hm hf kO hz hn hF hA;simp only [br,reduceAdd,reduceEqDiff,reduceIte,lc _ p0];refine ag (cK hc hf (hz.trans hn) n1 Cz IV hB fun h2 gY=>?_);simp only [bU];refine ag (keys_map ?_);simp only [bU];have Ei:aX h' (h2.alloc (.box (.map M))):=gY.trans (aX.alloc _ _);have b3:(h2.alloc (.box (.map M))).get h2.next=some (.box (.map M)):=ay _ _
  have n3:(h2.alloc (.box (.map M))).next=h2.next+1:=rfl
  have P8:m.length<=20000:=by
   have h1:g9 c=true:=by
    cases h:g9 c with
    |true=>rfl
    |false=>rw [cE,h] at hm;cases hm
   rw [cE,h1] at hm;have:=wC _ _ _ _ hm;have:=hf.1;simp only [length_nil] at *;omega
  have Gp:=DD hI;have Sz:es.length=m.length:=by have:=congrArg List.length Gp;simpa using this
  have Af:lp ck es=true:=yt (fun e Ar=>by
   obtain ⟨p,hp,h1,h2⟩:=hI.mem e Ar;refine ⟨⟨p.1,h1,?_⟩,J4.lt e Ar⟩;have SA:=jm CB hp;rcases (eo hm).from_ _ _ SA with h3|⟨g,hg,k1,k2,k3⟩
   ·cases h3
   ·obtain ⟨i,hi⟩:=getElem?_of_mem hg;have:=hf.2.2 i g hi;simp only [ga,if_pos k1,and_eq_true] at this;have h4:=this.2.2.2.1;rw [<- k2];unfold eU at h4;split at h4
    ·cases h4
    ·simp only [and_eq_true,decide_eq_true_eq] at h4;have:=h4.1;omega) (by rw [Gp];exact CB) J4.nodup
  refine ag (CD b3 (by rw [Ei.get _ L5];exact hM) Af (by omega) fun a hb SC oN=>?_);rw [Gp] at oN;generalize P9:kE (m.map (·.1))=N at oN;have Ob:nR N/\∀ x,x ∈ N↔x ∈ m.map (·.1):=by rw [<- P9];exact zL CB
  have Tx:N.length=m.length:=by rw [<- P9,(iH _).length_eq,length_map]
  have KJ:aX h' hb:=Ei.trans SC;have Oc:=hB.ext KJ;have KT:=KJ.next
  generalize H8:valueOf (gX D) n c=iR;obtain ⟨ED,Me⟩:∃ ED:bI->Nat,∀ nm,ED nm=((m.find nm).getD 0).toNat:=⟨_,fun _=>rfl⟩
  have hD:∀ nm ∈ N,∃ p,D nm=some p/\p.2.length=n ^ ED nm/\m.find nm=some (ED nm:Int)/\ED nm<=12/\n ^ ED nm<=4096:=fun nm jo=>by
   obtain ⟨q,hq,rfl⟩:=mem_map.1 ((Ob.2 nm).1 jo);obtain ⟨p,hp⟩:=isSome_iff_exists.1 (hA q hq);obtain ⟨k,r,h1,h2,h3⟩:=hF.to _ _ hp;have hk:ED q.1=k:=by rw [Me,h1];rfl
   have HE:=mem_of_find?_eq_some h2;obtain ⟨i,hi⟩:=getElem?_of_mem HE;have GH:=qz kO hi;rw [xz] at GH;obtain ⟨k',e1,e2,e3,e4⟩:=uh GH;have IL:=find?_some h2;simp only [ic,and_eq_true,decide_eq_true_eq] at IL;obtain rfl:k'=k:=by omega
   exact ⟨p,hp,by rw [h3,wh,hk],by rw [h1,hk],by omega,by rw [hk];exact e3⟩
  obtain ⟨rows,wD⟩:∃ rows:bI->List (bI×List Int),∀ nm,rows nm=jK (gX D) n c iR nm (ED nm) (n ^ ED nm):=⟨_,fun _=>rfl⟩
  simp only [bU,oN.len,cN];have SD:∀ hh,aX hb hh->hh.get 0=sC (an c):=fun hh hx=>by rw [hx.get _ (by omega),KJ.get _ (by omega)];exact p0
  have SE:∀ hh,aX hb hh->hh.get 1=sC (ak s):=fun hh hx=>by rw [hx.get _ (by omega),KJ.get _ (by omega)];exact p1
  refine aI 0 N.length (zero_le _) (fun i e hh=>∃ fs fa,Own mT 2 hb.next hh fa fs/\fs.map qC=(N.take i).flatMap rows/\fs.length<=i*4096/\aX hb hh /\
   e 2 = .ptr 0 0/\e 3 = .ptr 1 0/\e 6 = .map B/\e 7 = .map M/\e 9 = .bool iR/\e 10=fa/\e 32=a/\e 33=I6 (N.length:Int)/\e 34=I6 (i:Int))
   ⟨[],.aE,.nil,rfl,zero_le _,aX.refl _,rfl,rfl,rfl,rfl,by rw [<- H8];rfl,rfl,rfl,rfl,rfl⟩ ?_ ?_
  ·rintro i e hh _ hi ⟨fs,fa,oF,EE,Iw,oS,e2,e3,e6,e7,e9,iK,Bb,zS,Gq⟩ K' GY gG ua zP;have jo:N[i]?=some N[i]:=fc hi;generalize N[i]=nm at jo;obtain ⟨p,hp,EK,SF,J9,NP⟩:=hD nm (iz jo);obtain ⟨bN,_,Od,Oe⟩:=vW (oN.ext oS) jo;have KK:=Oc.ext oS;obtain ⟨MK,ML,bm,m1,m2,m3⟩:=KK.ex;obtain ⟨k1,k2,k3,k4⟩:=Oc.BE nm p hp;have J3:dy .string .aE false (.map B) (.str nm) hh=some (.slice p.1 0 p.2.length 1):=by rw [jX m1 m2,m3,hp];rfl
   have Mf:∀ h:Heap,bB .slice (.slice p.1 0 p.2.length 1) h=some (I6 (p.2.length:Int)):=fun _=>rfl;rw [F.bL.aT];simp only [e6,Bb,zS,Gq,br,reduceAdd,reduceEqDiff,reduceIte,bu hi,Od,Oe,J3,Mf]
   refine aI 0 p.2.length (zero_le _) (fun r e hh=>∃ fs fa,Own mT 2 hb.next hh fa fs/\fs.map qC=(N.take i).flatMap rows++jK (gX D) n c iR nm (ED nm) r/\fs.length<=i*4096+r/\aX hb hh /\
    e 2 = .ptr 0 0/\e 3 = .ptr 1 0/\e 6 = .map B/\e 7 = .map M/\e 9 = .bool iR/\e 10=fa/\e 12 = .str nm/\e 13 = .slice p.1 0 p.2.length 1/\e 32=a/\e 33=I6 (N.length:Int)/\e 34=I6 (i:Int)/\e 42=I6 (p.2.length:Int)/\e 43=I6 (r:Int))
    ⟨fs,fa,oF,by rw [EE];exact (append_nil _).symm,Nat.le_trans Iw (le_add_right _ _),oS,e2,e3,e6,e7,e9,iK,rfl,rfl,Bb,zS,Gq,rfl,rfl⟩ ?_ ?_
   ·clear EE Iw oF oS e2 e3 e6 e7 e9 iK Bb zS Gq J3 m1 m2 m3 KK Od Oe;rintro r e hh _ hr ⟨fs,fa,oF,EE,Iw,oS,e2,e3,e6,e7,e9,iK,EF,wG,Bb,zS,Gq,Mg,KL⟩ K2 A2 Ga zQ Hz;have KK:=Oc.ext oS;obtain ⟨_,_,_,Qa⟩:=KK.BE nm p hp;have Ev:p.2[r]?=some p.2[r]:=fc hr;generalize p.2[r]=v at Ev;have kC:=KK.set hp (d:=p.2.set r (!v)) (by simp);have xb:=oS.both p.1 (.cells ((p.2.set r (!v)).map bv));have c1:(hh.set p.1 (.cells ((p.2.set r (!v)).map bv))).get 0=sC (an c):=by rw [Heap.aK,if_neg (by omega)];exact SD _ oS
    have c2:(hh.set p.1 (.cells ((p.2.set r (!v)).map bv))).get 1=sC (ak s):=(by rw [Heap.aK,if_neg (by omega)];exact SE _ oS);have c3:(hh.set p.1 (.cells ((p.2.set r (!v)).map bv))).next=hh.next:=Heap.bl _ _ _
    have Qb:Own mT 2 hb.next (hh.set p.1 (.cells ((p.2.set r (!v)).map bv))) fa fs:=oF.lC k2 _
    have DH:hb.get p.1=sC (p.2.map bv):=k4;rw [F.bL.ff];simp only [e2,e6,wG,Mg,KL,br,reduceAdd,reduceEqDiff,reduceIte,bu hr,kI hr,lD Qa Ev,iY Qa hr,lc _ c1];refine ag (cK hc hf (hz.trans hn) n1 Cz (IV.set hp (by simp)) kC fun KA CE=>?_);rw [EB hp Ev];have Mh:=xb.trans CE;have d39:KA.get p.1=sC ((p.2.set r (!v)).map bv):=by rw [CE.get _ (by rw [c3];have:=oS.next;omega),Heap.aK,if_pos rfl]
    have LB:(p.2.set r (!v))[r]?=some (!v):=getElem?_set_self hr;have Qc:(p.2.set r (!v)).set r (!(!v))=p.2:=by rw [not_not];exact EC Ev
    have hrl:r<(p.2.set r (!v)).length:=(by simpa using hr);simp only [bU,e9,Dh,cN,bC];have mw:=yu (gX D) n c iR nm (ED nm) r;have Ka:(!(valueOf (sS (gX D) nm r) n c==iR))=(valueOf (sS (gX D) nm r) n c != iR):=rfl;rw [Ka]
    cases hq:valueOf (sS (gX D) nm r) n c != iR with
    |false=>
     rw [hq,if_neg (by decide),append_nil] at mw;simp only [ax,lV,reduceEqDiff,reduceIte,wG,KL,kI hr,lD d39 LB,gD,iY d39 hrl,Qc,cN,aN hr (show p.2.length<=dx by unfold dx;omega)];refine A2 _ _ ⟨fs,fa,(Qb.ext CE).lC k2 _,by rw [mw];exact EE,by omega,Mh.back DH,e2,e3,e6,e7,e9,iK,EF,wG,Bb,zS,Gq,Mg,rfl⟩
    |true=>
     rw [hq,if_pos rfl] at mw;have SG:au none (.ptr 1 0) KA=some (I6 (n:Int)):=by rw [ai (cs:=ak s) (by rw [CE.get _ (by rw [c3];have:=oS.next;omega)];exact c2),<- hn];rfl
     have SH:KA.get M=some (.map es ck):=by
      have SI:M≠p.1:=fun e=>by
       have h1:hb.get M=some (.map es ck):=(by rw [KJ.get _ L5];exact hM);rw [e,DH] at h1;cases h1
      rw [CE.get _ (by rw [c3];have:=oS.next;omega),Heap.aK,if_neg SI,oS.get _ (by omega),KJ.get _ L5];exact hM
     have SJ:dy .string (I6 0) false (.map M) (.str nm) KA=some (I6 (ED nm:Int)):=(by rw [Bl SH hI,SF];rfl);simp only [aA,lV,reduceEqDiff,reduceIte,e3,e7,EF,KL,oA,Nat.add_zero,cN,SG,SJ];refine ag (dM n1 Cz J9 NP (by rw [<- EK];exact hr) fun t ht=>?_)
     obtain ⟨a5,h5,p5,o5,f5,n5,x5,b5⟩:=(Qb.ext CE).push wB Gn (by have:=CE.next;have:=oS.next;omega) (bytes:=40) (by
      have:i*4096<=20000*4096:=mul_le_mul_right _ (by omega)
      rw [Sw];omega) (nm,t)
     have Qd:=x5 _ Mh (by rw [Heap.bl];omega);have d5:h5.get p.1=sC ((p.2.set r (!v)).map bv):=by rw [Qd.get _ (by rw [Heap.bl];exact k2),Heap.aK,if_pos rfl]
     simp only [bU,ni,nj,cN,lV,reduceEqDiff,reduceIte,iK,EF,wG,KL,Mb,Mc,p5,dJ,kI hr,lD d5 LB,gD,iY d5 hrl,Qc,aN hr (show p.2.length<=dx by unfold dx;omega)];refine A2 _ _ ⟨_,a5,o5.lC k2 _,?_,by simp;omega,Qd.back DH,e2,e3,e6,e7,e9,rfl,EF,wG,Bb,zS,Gq,Mg,rfl⟩;rw [mw,map_append,EE,<- append_assoc];simp [qC,ht]
   ·clear EE Iw oF oS e2 e3 e6 e7 e9 iK Bb zS Gq J3 m1 m2 m3 KK Od Oe;rintro e hh ⟨fs,fa,oF,EE,Iw,oS,e2,e3,e6,e7,e9,iK,EF,wG,Bb,zS,Gq,Mg,KL⟩ K2 Ga;rw [F.bL.ff];simp only [Mg,KL,br,reduceAdd,reduceEqDiff,reduceIte,bf];rw [Ga,F.bL.dL];simp only [br,reduceAdd,reduceEqDiff,reduceIte,Gq,aN hi (show N.length<=dx by unfold dx;omega)];refine GY _ _ ⟨fs,fa,oF,?_,by rw [succ_mul];omega,oS,e2,e3,e6,e7,e9,iK,Bb,zS,rfl⟩;rw [EE,take_add_one,jo,flatMap_append,EK,<- wD];simp
  ·rintro e hh ⟨fs,fa,oF,EE,Iw,oS,e2,e3,e6,e7,e9,iK,Bb,zS,Gq⟩ K' gG;rw [F.bL.aT];simp only [zS,Gq,br,reduceAdd,reduceEqDiff,reduceIte,bf];rw [gG,F.bL.aF];simp only [lV,reduceEqDiff,reduceIte,iK];rw [yA (dR _)] at EE
   obtain ⟨x,Cg,gY⟩:=oF.LR (fun f y hy=>by
    simp only [mT,mem_cons,not_mem_nil,_root_.or_false] at hy;rcases hy with rfl|rfl
    ·exact .scalar _ rfl
    ·exact .dF (dU gT _))
   refine cw.2 (.inr ⟨he,fa,x,rfl,?_,gY⟩)
   have Qe:N=(fh c).map (·.1):=nS Ob.1 (qE c) fun x=>by
    rw [Ob.2,mem_map,mem_map];constructor
    ·rintro ⟨p,hp,rfl⟩;exact ⟨p,(iN hm hf p).2 (jm CB hp),rfl⟩
    ·rintro ⟨y,hy,rfl⟩;exact ⟨y,rW ((iN hm hf y).1 hy),rfl⟩
   have Qf:=H7 hm hf kO hn hF hA;rw [Cg,EE,Qe,xz,oR,flatMap_map];have hw2:iR=valueOf (dB n s) n c:=by rw [<- H8];exact ki Qf
   have:∀ y ∈ fh c,rows y.1=jK (dB n s) n c (valueOf (dB n s) n c) y.1 y.2.toNat (n ^ y.2.toNat):=fun y hy=>by
    have hk:ED y.1=y.2.toNat:=(by rw [Me,(iN hm hf y).1 hy];rfl);rw [wD,hk,hw2];unfold jK;congr 1;refine filter_congr fun r _=>?_;rw [EA _ _ Qf]
   generalize fh c=l at this;clear Qe
   induction l with
   |nil=>rfl
   |cons y l ih=>rw [flatMap_cons,flatMap_cons,this y mem_cons_self,ih fun z hz=>this z (mem_cons_of_mem _ hz)]
 refine main.frozen (by simp [AV.bQ,AV.pure,dH,eO]) fun o h' ho=>?_;rcases cw.1 ho with ⟨h1,rfl⟩|⟨h1,v,x,rfl,hx,hf⟩
 ·exact ⟨_,_,rfl,.dF rfl,JW h1⟩
 ·have:=kf.cons hf (kf.cons (.scalar (I6 0) rfl) kf.nil);exact ⟨_,_,rfl,.tuple _ _ this.len this.rel,EL h1 x hx⟩
theorem mU(hm:cE c=some m)(hf:c.fits){y:bI×Int}(hy:y ∈ fh c):∃ k:Nat,y.2=(k:Int)/\k<=12:=by
 have h1:=(iN hm hf y).1 hy;rcases (eo hm).from_ _ _ h1 with h2|⟨g,hg,k1,k2,k3⟩
 ·cases h2
 ·obtain ⟨i,hi⟩:=getElem?_of_mem hg;exact ⟨_,k3,(rY (hf.2.2 i g hi) k1).2.1⟩
theorem dr{c:fG}(hc:c.ok)(hv:cU c=true){h:Heap}{K:Out->Heap->Bool}(hK:∀ x:Int,K (.ret (I6 x)) h=true):Sem TP 37 [.agg (an c)] h K:=by
 obtain ⟨m,hm⟩:=isSome_iff_exists.1 (show (cE c).isSome=true from hv);have hf:=dW hv
 have hsz:∃ n:Nat,c.size=(n:Int)/\1<=n/\n<=64:=by
  have h1:g9 c=true:=by
   cases h:g9 c with
   |true=>rfl
   |false=>rw [cE,h] at hm;cases hm
  simp only [g9,and_eq_true,not_eq_true',decide_eq_false_iff_not] at h1;exact ⟨c.size.toNat,by omega,by omega,by omega⟩
 obtain ⟨n,hn,n1,Cz⟩:=hsz
 have main:Sem TP 37 [.agg (an c)] Heap.empty (fun o h'=>yes (∃ x:Int,o = .ret (I6 x))):=by
  refine F.td ?_;rw [F.vw];have b0:(Heap.alloc Heap.empty (.cells (an c))).get 0=sC (an c):=ay _ _;simp only [cc (dm c),cN,aV];generalize (Heap.alloc Heap.empty (.cells (an c)))=H at b0 ⊢;have l0:au (some 2) (.ptr 0 0) H=some (.agg (an c)):=by rw [ai b0,bJ (cs:=an c) (n:=2) rfl]
  have lz:au none (.ptr 0 0) H=some (I6 (n:Int)):=by rw [ai b0,<- hn];rfl
  simp only [l0,cN];refine ag (b7 hc hf fun x hx=>?_);simp only [bU];have IW:=rQ hf;refine aI 0 x.l.length (zero_le _) (fun i e h'=>h'=H/\(∃ q:Int,e 4=I6 q)/\e 1 = .ptr 0 0/\e 3=cp iX 2 x/\e 5=I6 (i:Int)) ⟨rfl,⟨0,rfl⟩,rfl,rfl,rfl⟩ ?_ ?_
  ·rintro i e h' _ hi ⟨rfl,⟨q,e4⟩,e1,e3,e5⟩ K' oU gG hr hp;have hv:x.l[i]?=some x.l[i]:=fc hi;generalize x.l[i]=y at hv;obtain ⟨k,hk,MM⟩:=mU hm hf (by rw [<- hx];exact iz hv);rw [F.dr.aT];simp only [e1,e3,e5,br,reduceAdd,reduceEqDiff,reduceIte,bu hi,lz,bt x hi,Cu hv,hk];refine ag (dP n1 Cz (by unfold dx;omega) fun v _ _=>?_);obtain ⟨w,hw⟩:=oM q (v:Int);simp only [bU,e4,e5,hw,cN,aN hi (by rw [hx];exact IW)];exact oU _ _ ⟨rfl,⟨w,rfl⟩,e1,e3,rfl⟩
  ·rintro e h' ⟨rfl,⟨q,e4⟩,e1,e3,e5⟩ K' gG;rw [F.dr.aT];simp only [e3,e5,br,reduceAdd,reduceEqDiff,reduceIte,bf];rw [gG,F.dr.aF];simp only [lV,reduceEqDiff,reduceIte,e4];exact cw.2 ⟨q,rfl⟩
 refine main.frozen (by simp [AV.bQ,AV.pure,eO]) fun o h' ho=>?_;obtain ⟨x,rfl⟩:=cw.1 ho;exact ⟨_,_,rfl,.dF rfl,hK x⟩
theorem Gr(he:ez c s=0)(hn:s.size=(n:Int))(hr:s.aQ.l[j]?=some r)(hk:r.arity=(k:Int))(ht:t.length=k)(hb:gM n t=true)(hp:zF s j r t is s')
  (KI:is = !((r.aP.l.map Sl.l).any fun u=>u==t)):bY s'=true/\ez c s'=0/\s'.size=(n:Int)/\Eo n (mR s') c=valueOf (sS (dB n s) r.name (iw n t)) n c:=by
 obtain ⟨h1,h2,h3,h4⟩:=zK he;obtain ⟨m,hm⟩:=isSome_iff_exists.1 (show (cE c).isSome=true from h1);have xz:s.size.toNat=n:=by omega
 have wE:=Ey h2 hr hk ht (by rw [xz];exact hb) hp;have Gz:s'.size=(n:Int):=by rw [hp.size];exact hn
 have GV:ez c s'=0:=by rw [HW hp.size h2 wE (DC hr hp)];exact he
 refine ⟨wE,GV,Gz,?_⟩;rw [yq GV Gz];refine ki fun g hg k1=>?_;obtain ⟨e1,e2,e3,e4⟩:=zK GV;obtain ⟨q,hq,ha⟩:=all_some hm (dW h1) h2 h4 hg k1;obtain ⟨q',oV,P4⟩:=all_some hm (dW h1) e2 e4 hg k1;have HU:iw n g.at_.l<n ^ g.at_.l.length:=vQ (qB h3 hn (dW h1) hg k1).2;have i1:=yp h2 hn hq ha HU;have i2:=yp e2 Gz oV P4 HU;have i3:=HX h2 hn hr hk ht hb hp g.name (iw n g.at_.l)
 have C7:Gl n (s.aQ.l.map eE) r.name (iw n t)↔is=false:=by
  have hS:=ij.1 h2;have mC:=hS.rel _ (List.mem_map_of_mem (iz hr));rw [xz] at mC;obtain ⟨_,k',q1,_,_,q4⟩:=mC;have MQ:r.arity=(k':Int):=q1;obtain rfl:k'=k:=by omega
  constructor
  ·rintro ⟨d,hd,xV,u,hu,GG⟩;obtain ⟨p,zP,rfl⟩:=mem_map.1 hd;have f1:=jZ (fA h2) p zP;have f2:=jZ (fA h2) r (iz hr);rw [show p.name=r.name from xV,f2] at f1;cases f1;obtain ⟨u1,u2⟩:=q4.1 u hu;have:u=t:=Dy (by omega) u2 hb GG;have C0:u ∈ r.aP.l.map Sl.l:=hu;rw [KI,List.any_eq_true.2 ⟨u,C0,by rw [this];simp⟩];rfl
  ·intro h;rw [h] at KI
   have:((r.aP.l.map Sl.l).any fun u=>u==t)=true:=by
    cases hq:(r.aP.l.map Sl.l).any fun u=>u==t with
    |true=>rfl
    |false=>rw [hq] at KI;cases KI
   obtain ⟨u,hu,GG⟩:=List.any_eq_true.1 this;exact ⟨eE r,List.mem_map_of_mem (iz hr),rfl,u,hu,by rw [eq_of_beq GG]⟩
 rw [Bool.eq_iff_iff,i2,i3];unfold sS;by_cases jo:g.name=r.name
 ·rw [if_pos jo];by_cases KM:iw n g.at_.l=iw n t
  ·rw [if_pos ⟨jo,KM⟩];have:(dB n s g.name (iw n g.at_.l)=true)↔is=false:=by rw [i1,jo,KM];exact C7
   cases hl:dB n s g.name (iw n g.at_.l) with
   |true=>
    have hf:=this.1 hl;simp only [KM,hf,Bool.not_true,false_eq_true];simp
   |false=>
    have hf:is=true:=by
     cases Of:is with
     |true=>rfl
     |false=>rw [this.2 Of] at hl;cases hl
    simp [KM,hf]
  ·rw [if_neg (fun h=>KM h.2),i1];simp [KM]
 ·rw [if_neg jo,if_neg (fun h=>jo h.1),i1]
theorem Bn(h:∀ y ∈ fh c,y.2.toNat<=12){x:Sl Ez}(hx:x.l.map qC=oR n s c):∀ f ∈ x.l,f.2.l.length<=dx:=fun f hf=>by
 have:qC f ∈ oR n s c:=by rw [<- hx];exact List.mem_map_of_mem hf
 obtain ⟨y,hy,hm⟩:=mem_flatMap.1 this;unfold jK at hm;obtain ⟨r,_,hr⟩:=mem_map.1 hm;have h2:f.2.l=jf n y.2.toNat r:=(congrArg Prod.snd hr).symm;rw [h2,wA];have:=h y hy;unfold dx;omega
def sU(look:bI->Nat->Bool)(n:Nat)(c:fG)(iR:Bool)(nm:bI)(k N j:Nat):List (bI×List Int):=((range' j (N-j)).filter fun r=>valueOf (sS look nm r) n c != iR).map fun r=>(nm,jf n k r)
theorem Bo(look:bI->Nat->Bool)(n:Nat)(c:fG)(iR:Bool)(nm:bI)(k N j:Nat)(h:j<=N):jK look n c iR nm k N=jK look n c iR nm k j++sU look n c iR nm k N j:=by
 have:List.range N=List.range j++range' j (N-j):=by
  rw [range_eq_range',range_eq_range',show N=j+(N-j) by omega,<- range'_append_1,show j+(N-j)-j=N-j by omega,Nat.zero_add]
 unfold jK sU;rw [this,filter_append,map_append]
theorem CF(look:bI->Nat->Bool)(n:Nat)(c:fG)(iR:Bool)(nm:bI)(k N j:Nat)(h:j<N):sU look n c iR nm k N j=(if (valueOf (sS look nm j) n c != iR)=true then [(nm,jf n k j)] else [])++sU look n c iR nm k N (j+1):=by
 unfold sU;rw [show N-j=(N-(j+1))+1 by omega,range'_succ,filter_cons];by_cases hq:(valueOf (sS look nm j) n c != iR)=true
 ·rw [if_pos hq,if_pos hq];rfl
 ·rw [if_neg hq,if_neg hq];rfl
theorem Gs{iR:Bool}{N:Nat}(hn:1<=n)(hN:N=n ^ k)(hj:j<N){B:List (bI×List Int)}(hB:∀ f ∈ B,f.1≠nm):(nm,jf n k j) ∉ sU look n c iR nm k N (j+1)++B:=by
 intro h;rcases mem_append.1 h with h|h
 ·unfold sU at h;obtain ⟨r,hr,he⟩:=mem_map.1 h;obtain ⟨Ku,zQ⟩:=mem_range'_1.1 (mem_filter.1 hr).1;have e:jf n k r=jf n k j:=congrArg Prod.snd he;have a:=(zM hn (show r<n ^ k by omega)).2;have b:=(zM hn (show j<n ^ k by omega)).2;rw [e,b] at a;omega
 ·exact hB _ h rfl
theorem EG{iR:Bool}{l:List (bI×Int)}{f:bI×List Int}(h:f ∈ l.flatMap fun y=>jK look n c iR y.1 y.2.toNat (n ^ y.2.toNat)):∃ y ∈ l,f.1=y.1:=by
 obtain ⟨y,hy,hm⟩:=mem_flatMap.1 h;unfold jK at hm;obtain ⟨r,_,rfl⟩:=mem_map.1 hm;exact ⟨y,hy,rfl⟩
theorem H9[DecidableEq α]{A R:List α}{x:α}(h:x ∉ R):(A++R)[A.length]?≠some x:=by
 rw [getElem?_append_right (dR _),Nat.sub_self]
 cases R with
 |nil=>simp
 |cons r R=>simp only [getElem?_cons_zero,ne_eq,Option.some.injEq];intro e;subst e;exact h mem_cons_self
theorem Bp{A R:List α}{x:α}:(A++(x :: R))[A.length]?=some x:=by
 rw [getElem?_append_right (dR _),Nat.sub_self];rfl
theorem lS{α β:Type}{enc:α->List AV}{qF:β->List AV}{h:Heap}:∀ {l:List (α×β)},(∀ p ∈ l,kf true h (enc p.1) (qF p.2))->kf true h (l.flatMap fun p=>enc p.1) (l.flatMap fun p=>qF p.2)
 |[],_=>.nil
 |p :: l,hp=>by
  rw [flatMap_cons,flatMap_cons];exact kf.append (hp p mem_cons_self) (lS fun q hq=>hp q (mem_cons_of_mem _ hq))
structure Bq {α β:Type} (X:Nat->Prop) (enc:α->List AV) (qF:β->List AV) (sz k:Nat) (h:Heap) (a:AV) (l:List (α×β)):Prop where
 own:Own enc sz k h a (l.map (·.1))
 uC:∀ p ∈ l,∀ h',(∀ b,k<=b->b<h.next->¬ X b->cC a≠some b->h'.get b=h.get b)->kf true h' (enc p.1) (qF p.2)
 av:∀ b,cC a=some b->¬ X b
section
variable {α β:Type} {X:Nat->Prop} {enc:α->List AV} {qF:β->List AV} {sz k:Nat} {h h':Heap} {a:AV} {l:List (α×β)}
theorem Own.agree{enc:α->List AV}{h':Heap}{l:List α}(o:Own enc sz k h a l)(hb:∀ b,cC a=some b->h'.get b=h.get b)(hn:h.next<=h'.next):Own enc sz k h' a l:=by
 cases o with
 |nil=>exact .nil
 |row b l h1 h2 h3=>exact .row b _ h1 (Nat.lt_of_lt_of_le h2 hn) (by rw [hb b rfl];exact h3)
theorem Bq.data(o:Bq X enc qF sz k h a l):∃ x:Sl β,x.l=l.map (·.2)/\∀ h2,(∀ b,k<=b->b<h.next->¬ X b->h2.get b=h.get b)->Fz true h2 a (cp qF sz x):=by
 obtain ⟨ow,fr,av⟩:=o;generalize hm:l.map (·.1)=m at ow
 cases ow with
 |nil=>
  have:l = []:=by simpa using hm
  subst this;exact ⟨none,rfl,fun h2 _=>.dF rfl⟩
 |row b m h1 h2 h3=>
  subst hm;refine ⟨some (l.map (·.2)),rfl,fun g hg=>?_⟩;have fl:kf true g (l.flatMap fun p=>enc p.1) (l.flatMap fun p=>qF p.2):=lS fun p hp=>fr p hp g fun c c1 c2 c3 c4=>hg c c1 c2 c3;have e1:(l.map (·.1)).flatMap enc=l.flatMap fun p=>enc p.1:=by rw [flatMap_map]
  have e2:(l.map (·.2)).flatMap qF=l.flatMap fun p=>qF p.2:=by rw [flatMap_map]
  have:cp qF sz (some (l.map (·.2))) = .aL (l.flatMap fun p=>qF p.2) 0 l.length sz:=by simp only [cp,e2,length_map]
  rw [this,length_map];exact .slice b 0 l.length sz _ _ (by rw [hg b h1 h2 (av b rfl),h3,e1]) fl.len fl.rel
theorem Bq.fz(o:Bq X enc qF sz k h a l):∃ x:Sl β,x.l=l.map (·.2)/\Fz true h a (cp qF sz x):=by
 obtain ⟨x,h1,h2⟩:=o.data;exact ⟨x,h1,h2 h fun _ _ _ _=>rfl⟩
end
def Ia:={ v:AV // bw [v]=true/\v.bV = [v] }
abbrev oT:=bI×Int×Ia
def eP(r:oT):List AV:=[.str r.1,I6 r.2.1,r.2.2.1]
theorem jq(r:oT):(eP r).length=3:=rfl
theorem yw(r:oT):bw (eP r)=true:=by
 have:=r.2.2.2.1;unfold eP;simp only [bw,Bool.and_true] at this ⊢;rw [this];rfl
theorem zN{enc:α->List AV}{l:List α}(o:Own enc sz k h a l):bw [a]=true/\a.bV = [a]:=by cases o<;>exact ⟨rfl,rfl⟩
theorem Kb(r:oT):eY [.str [],I6 0,.aE] [(0,3)] [.agg (eP r)]=some (eP r):=by
 have ho:=yw r
 have hf:kj [.str [],I6 0,.aE] [(0,3)] [.agg (eP r)]=some (eP r):=by
  have hc:AV.bV (.agg (eP r))=eP r:=rfl;have hp:ct [.str [],I6 0,.aE] 0 (eP r)=eP r:=rfl;simp only [kj,hc,hp,ho,jq];rfl
 unfold eY;rw [hf];simp only [ho,if_true]
theorem Kc{k:Int}{v:Ia}(hf:Fz true h v.1 (zx x)):kf true h (eP (nm,k,v)) (bA ⟨nm,k,x⟩):=
 .cons (.scalar _ rfl) (.cons (.scalar _ rfl) (.cons hf .nil))
theorem Ib(d:TypeId){enc:α->List AV}(x:Sl α):fQ (.slice d) (cp enc sz x) .aE=some (.bool (match x with|none=>true|some _=>false)):=by cases x<;>rfl
theorem Bq.Gt{enc:α->List AV}{l:List α}(o:Own enc sz k h a l)(hf:∀ v,AV.bQ (enc v)=true):Bq (fun _=>False) enc enc sz k h a (l.map fun v=>(v,v)):=
 ⟨by rw [List.map_map];simpa [Function.comp_def] using o,fun p hp h' _=>by
  obtain ⟨v,_,rfl⟩:=mem_map.1 hp
  exact .dF (hf v),fun _ _ h=>h⟩
theorem qG{t:Sl Int}(ht:t.l.length<=1000000)(hK:∀ y:Sl Int,y.l=t.l->K (.ret (gr y)) h=true):Sem TP 95 [gr t] h K:=by
 have main:Sem TP 95 [gr t] Heap.empty (fun o h'=>yes (∃ v,∃ y:Sl Int,o = .ret v/\y.l=t.l/\Fz true h' v (gr y))):=by
  refine F.jI ?_;rw [F.jM];simp only [Ib,br,reduceAdd,reduceEqDiff,reduceIte]
  cases t with
  |none=>simp only [aA];exact cw.2 ⟨_,none,rfl,rfl,.dF rfl⟩
  |some l=>
   obtain ⟨b,h',a1,a2,_,_,_⟩:=yh (HH Az (some l) (Heap.empty.alloc (.cells []))) ht;simp only [ax,Em,cN,a1,dJ];exact cw.2 ⟨_,some l,rfl,rfl,Dx a2⟩
 refine main.frozen (by simp [AV.bQ,dU gT]) fun o h' ho=>?_;obtain ⟨v,y,rfl,hy,hf⟩:=cw.1 ho;exact ⟨v,_,rfl,hf,hK y hy⟩
theorem EH(s:St):dz TP s Tryz.f104.results.toList=(match au (some 2) (s.env 2) s.h,(some []:Option (List AV)) with|some v,some vs=>some (v :: vs)|_,_=>none):=by kernel_rfl
theorem gH{x y:Sl Int}(hx:x.l.length<=dx)(LL:x.l.length=y.l.length)(hK:∀ c:Int,(c<0↔bO x.l y.l=true)->(c=0↔x.l=y.l)->K (.ret (I6 c)) h=true):Sem TP 102 [gr x,gr y] h K:=by
 refine F.fH ?_;rw [F.fP];simp only [br,reduceAdd,reduceEqDiff,reduceIte];refine aI 0 x.l.length (zero_le _) (fun i e h'=>h'=h/\e 0=gr x/\e 1=gr y/\e 9=gr x/\e 10=I6 (x.l.length:Int)/\e 11=I6 (i:Int)/\bO x.l y.l=bO (x.l.drop i) (y.l.drop i)/\x.l.take i=y.l.take i) ⟨rfl,rfl,rfl,rfl,rfl,rfl,rfl,rfl⟩ ?_ ?_
 ·rintro i e h' _ hi ⟨rfl,e0,e1,e9,iK,sP,hl,ht⟩ K' hn gG hr hp;have Cb:i<y.l.length:=by omega
  have hv:x.l[i]?=some x.l[i]:=fc hi;have hw:y.l[i]?=some y.l[i]:=fc Cb;rw [oJ hv hw] at hl;generalize x.l[i]=a at hv hl;generalize y.l[i]=b at hw hl;rw [F.aM.aT];simp only [e0,e1,e9,iK,sP,br,reduceAdd,reduceEqDiff,reduceIte,bu hi,bt x hi,bt y Cb,eN hv,eN hw,fB (by omega:¬ (y.l.length:Int)<=(i:Int))];refine ag (sO fun c c1 c2=>?_);simp only [br,reduceAdd,reduceEqDiff,reduceIte,b9];by_cases rq:a=b
  ·rw [if_pos rq] at hl;simp only [fS (c1.2 rq),Bool.not_true,ax,aN hi hx,cN];exact hn _ _ ⟨rfl,e0,e1,e9,iK,rfl,hl,by rw [take_add_one,take_add_one,ht,hv,hw,rq]⟩
  ·rw [if_neg rq] at hl;simp only [fB (fun h=>rq (c1.1 h)),Bool.not_false,aA];rw [hr,F.aM.bh];simp only [lV,reduceEqDiff,reduceIte];refine hK c ?_ ?_
   ·rw [hl,decide_eq_true_iff];exact c2
   ·exact ⟨fun h=>absurd (c1.1 h) rq,fun h=>absurd (Option.some.inj (hv.symm.trans ((congrArg (·[i]?) h).trans hw))) rq⟩
 ·rintro e h' ⟨rfl,e0,e1,e9,iK,sP,hl,ht⟩ K' gG;rw [F.aM.aT];simp only [iK,sP,br,reduceAdd,reduceEqDiff,reduceIte,bf];rw [gG,F.aM.aF];simp only [e0,e1,br,reduceAdd,reduceEqDiff,reduceIte,fB (by omega:¬ (x.l.length:Int)<(y.l.length:Int))];rw [drop_of_length_le (dR _)] at hl;rw [yA (dR _),yA (by omega)] at ht;exact hK 0 (by rw [hl];exact ⟨fun h=>absurd h (by omega),fun h=>by cases h⟩) ⟨fun _=>ht,fun _=>rfl⟩
theorem gf:∀ t:List Int,bO t t=false
 |[]=>rfl
 |a :: t=>by rw [bO,if_pos rfl];exact gf t
theorem DE{a:Nat}(h1:a+b<=4000000):aC .add (I6 (a:Int)) (I6 (b:Int))=some (I6 ((a+b:Nat):Int))/\fC (.int .u64) (I6 ((a+b:Nat):Int)) h=some (.int .u64 ((a+b:Nat):Int),h) /\
  aC .shr (.int .u64 ((a+b:Nat):Int)) (.int .u64 1)=some (.int .u64 (((a+b)/2:Nat):Int))/\fC (.int .i64) (.int .u64 (((a+b)/2:Nat):Int)) h=some (I6 (((a+b)/2:Nat):Int),h):=by
 refine ⟨?_,?_,?_,?_⟩
 ·rw [k7 (by omega) (by omega)];rfl
 ·simp only [fC];rw [IntWalk.u64_in _ (by omega)]
 ·have:(((a+b:Nat):Int)).fdiv (2 ^ 1)=(((a+b)/2:Nat):Int):=by
   rw [Int.fdiv_eq_ediv_of_nonneg _ (by omega)];rfl
  simp only [aC,um,if_true];rw [if_neg (by omega)];exact congrArg (fun z=>some (AV.int .u64 z)) this
 ·simp only [fC];rw [IntWalk.i64_in _ (by omega)]
theorem nF{t:Sl Int}(hl:x.l.length<=1000000)(hk:∀ u ∈ x.l,u.l.length=t.l.length)(wF:t.l.length<=dx)(hs:ig (x.l.map Sl.l))
  (hK:∀ n:Int,K (.ret (.tuple [I6 n,.bool (decide (t.l ∈ x.l.map Sl.l))])) h=true):Sem TP 101 [zx x,gr t,.func 102 [] []] h K:=by
 have kF:∀ (a b:Nat) (u v:Sl Int),x.l[a]?=some u->x.l[b]?=some v->a<b->bO u.l v.l=true:=fun a b u v hu hv rq=>by
  have h1:=pairwise_iff_getElem.1 hs;obtain ⟨p1,q1⟩:=fR.1 hu;obtain ⟨p2,q2⟩:=fR.1 hv;have:=h1 a b (by simpa using p1) (by simpa using p2) rq
  rwa [getElem_map,getElem_map,q1,q2] at this
 refine F.cM ?_;rw [F.cR];simp only [br,reduceAdd,reduceEqDiff,reduceIte]
 refine jC (fun m e h'=>∃ i j:Nat,m=j-i/\i<=j/\j<=x.l.length/\h'=h/\(∀ a u,a<i->x.l[a]?=some u->bO u.l t.l=true)/\(∀ a u,j<=a->x.l[a]?=some u->bO u.l t.l=false)/\e 0=zx x/\e 1=gr t/\e 2 = .func 102 [] []/\e 8=I6 (x.l.length:Int)/\e 9=I6 (i:Int)/\e 10=I6 (j:Int)) x.l.length
  ⟨0,x.l.length,rfl,zero_le _,dR _,rfl,fun a u ha=>absurd ha (by omega),fun a u ha hu=>absurd (fR.1 hu).1 (by omega),rfl,rfl,rfl,rfl,rfl,rfl⟩ ?_
 rintro m e h' ⟨i,j,rfl,hij,hj,rfl,yQ,Bx,e0,e1,e2,e8,e9,iK⟩;rw [F.aG.aT];by_cases hlt:i<j
 ·obtain ⟨o1,o2,o3,o4⟩:=DE (a:=i) (b:=j) (by omega) (h:=h');have Mi:(i+j)/2<j:=by omega
  have Mj:i<=(i+j)/2:=by omega
  generalize (i+j)/2=q at o3 o4 Mi Mj;have hq:q<x.l.length:=by omega
  have hv:x.l[q]?=some x.l[q]:=fc hq;generalize x.l[q]=u at hv;have EI:=iz hv;simp only [e0,e1,e2,e9,iK,br,reduceAdd,reduceEqDiff,reduceIte,fS (show (i:Int)<(j:Int) by omega),o1,o2,o3,o4,bt x hq,fy hv,gL,nil_append,append_nil];refine ag (gH (by rw [hk u EI];exact wF) (hk u EI) fun c c1 c2=>?_);simp only [br,reduceAdd,reduceEqDiff,reduceIte];by_cases hc:c<0
  ·have kM:=c1.1 hc;simp only [fS hc,aA,aN hq (show x.l.length<=dx by unfold dx;omega),cN];refine cw.2 ⟨j-(q+1),by omega,rfl,rfl,q+1,j,rfl,by omega,hj,rfl,fun a w ha hw=>?_,Bx,e0,e1,e2,e8,rfl,iK⟩;by_cases Ke:a=q
   ·subst Ke;rw [hv] at hw;cases hw;exact kM
   ·exact gW (kF a q w u hw hv (by omega)) kM
  ·have kM:bO u.l t.l=false:=by cases hh:bO u.l t.l with|false=>rfl|true=>exact absurd (c1.2 hh) hc
   simp only [fB hc,ax];refine cw.2 ⟨q-i,by omega,rfl,rfl,i,q,rfl,Mj,by omega,rfl,yQ,fun a w ha hw=>?_,e0,e1,e2,e8,e9,rfl⟩;by_cases Ke:a=q
   ·subst Ke;rw [hv] at hw;cases hw;exact kM
   ·cases hh:bO w.l t.l with
    |false=>rfl
    |true=>rw [gW (kF q a u w hv hw (by omega)) hh] at kM;cases kM
 ·obtain rfl:i=j:=by omega
  simp only [e9,iK,br,reduceAdd,reduceEqDiff,reduceIte,fB (show ¬ (i:Int)<(i:Int) by omega),oz];rw [F.aG.aF];simp only [lV,reduceEqDiff,reduceIte,e0,e1,e2,e8,e9,br,reduceAdd,reduceEqDiff,reduceIte];by_cases hin:i<x.l.length
  ·have hv:x.l[i]?=some x.l[i]:=fc hin;generalize x.l[i]=u at hv;have EI:=iz hv;simp only [bu hin,aA,bt x hin,fy hv,cN,gL,nil_append,append_nil];refine ag (gH (by rw [hk u EI];exact wF) (hk u EI) fun c c1 c2=>?_);simp only [br,reduceAdd,reduceEqDiff,reduceIte,b9]
   have:decide (c=0)=decide (t.l ∈ x.l.map Sl.l):=by
    rw [decide_eq_decide,c2,mem_map];constructor
    ·intro he;exact ⟨u,EI,he⟩
    ·rintro ⟨w,hw,he⟩;obtain ⟨a,ha⟩:=getElem?_of_mem hw;by_cases h1:a<i
     ·have:=yQ a w h1 ha;rw [he,gf] at this;cases this
     ·by_cases h2:a=i
      ·subst h2;rw [hv] at ha;cases ha;exact he
      ·have h3:=kF i a u w hv ha (by omega);rw [he,Bx i u (dR _) hv] at h3;cases h3
   rw [this];exact hK _
  ·simp only [fB (show ¬ (i:Int)<(x.l.length:Int) by omega),ax]
   have:decide (t.l ∈ x.l.map Sl.l)=false:=by
    rw [decide_eq_false_iff_not,mem_map];rintro ⟨w,hw,he⟩;obtain ⟨a,ha⟩:=getElem?_of_mem hw;have:=yQ a w (by have:=(fR.1 ha).1;omega) ha;rw [he,gf] at this;cases this
   rw [this] at hK;exact hK _
theorem yx(hs:s.ok)(hv:bY s=true){t:Sl Int}(hj:fO (ic nm (t.l.length:Int)) s.aQ.l=(j:Int))(hq:s.aQ.l[j]?=some q)(Qg:q.arity=(t.l.length:Int))(wF:t.l.length<=dx)
  (hK:K (.ret (.tuple [.bool (decide (t.l ∈ q.aP.l.map Sl.l)),I6 0])) h=true):Sem TP 50 [.agg (ak s),.str nm,gr t] h K:=by
 refine Sem.data (r:=.tuple [.bool (decide (t.l ∈ q.aP.l.map Sl.l)),I6 0]) ?_ (by simp [AV.bQ,AV.pure,dH,dU gT]) hK;clear hK;refine F.xq ?_;rw [F.zA];simp only [cc (cL s),cN,aV];have g0:(Heap.empty.alloc (.cells (ak s))).get 0=sC (ak s):=ay _ _;generalize (Heap.empty.alloc (.cells (ak s)))=H at g0 ⊢;have l0:au (some 2) (.ptr 0 0) H=some (.agg (ak s)):=by rw [ai g0,bJ (cs:=ak s) (n:=2) rfl]
 have l1:au none (.ptr 0 1) H=some (BF s.aQ):=by rw [ai g0];rfl
 have DP:=(fR.1 hq).1;have mC:=(ij.1 hv).rel _ (List.mem_map_of_mem (iz hq));obtain ⟨_,k,KB,J9,SK,IU⟩:=mC;have Og:q.arity=(k:Int):=KB;have hkl:t.l.length=k:=by omega
 simp only [l0,cN];refine ag (b8 hs ?_);rw [hv];simp only [br,reduceAdd,reduceEqDiff,reduceIte,Bool.not_true,ax,l0];refine ag (oK hs ?_);rw [hj];simp only [br,reduceAdd,reduceEqDiff,reduceIte,fB (show ¬ (j:Int)<0 by omega),l1,bt s.aQ DP,mM hq];refine ag (nF (by have:=(lG hv).1.JZ q (iz hq);omega) (fun u hu=>by rw [hkl];exact (IU.1 _ (List.mem_map_of_mem hu)).1) wF IU.2 fun n=>?_);simp only [br,reduceAdd,reduceEqDiff,reduceIte];exact dO rfl
theorem Own.IX{m:List oT}(o:Own eP 3 k h a m){q:oT}(hp:m[i]?=some q)(v:Ia) :
  ∃ b cs,iZ 3 a (I6 (i:Int))=some (.ptr b (i*3))/\cC a=some b/\b<h.next/\au none (.ptr b (i*3+2)) h=some q.2.2.1/\bD 1 (.ptr b (i*3+2)) v.1 h=some (h.set b (.cells cs))/\Own eP 3 k (h.set b (.cells cs)) a (m.set i (q.1,q.2.1,v)):=by
 have hg:=o.get jq hp
 cases o with
 |nil=>simp at hp
 |row b m h1 h2 h3=>
  have Mi:=(fR.1 hp).1
  have me:((m.flatMap eP).set (i*3+2) v.1)=(m.set i (q.1,q.2.1,v)).flatMap eP:=by
   clear h3 hg
   have:∀ (m:List oT) (i:Nat) (q:oT),m[i]?=some q->(m.flatMap eP).set (i*3+2) v.1=(m.set i (q.1,q.2.1,v)).flatMap eP:=by
    intro m
    induction m with
    |nil=>intro i q hq;simp at hq
    |cons x m ih=>
     intro i q hq
     cases i with
     |zero=>
      simp at hq;subst hq;rw [set_cons_zero,flatMap_cons,flatMap_cons,set_append_left _ _ (by simp [eP])];rfl
     |succ i=>
      rw [getElem?_cons_succ] at hq;rw [set_cons_succ,flatMap_cons,flatMap_cons,set_append_right _ _ (by rw [jq];omega)];have:(i+1)*3+2-(eP x).length=i*3+2:=by rw [jq];omega
      rw [this,ih i q hq]
   exact this m i q hp
  have hlen:(m.flatMap eP).length=m.length*3:=er jq m;obtain ⟨b',_,_,i3,_,i5⟩:=hg;have Qh:∀ q:IntKind,iZ 3 (.slice b 0 m.length 3) (.int q (i:Int))=some (.ptr b (i*3)):=fun q=>by simp [iZ,asNat,Mi]
  obtain rfl:b'=b:=by have:=i3 .i64;rw [Qh .i64] at this;cases this;rfl
  have ho:=v.2;refine ⟨b',(m.flatMap eP).set (i*3+2) v.1,Qh .i64,rfl,h2,by rw [i5 2 (by omega)];rfl,?_,?_⟩
  ·rw [fL (n:=1) h3 (by rw [ho.2];rfl) (by rw [ho.2];exact ho.1) (by rw [hlen];omega),ho.2];rfl
  ·rw [me];have:m.length=(m.set i (q.1,q.2.1,v)).length:=by rw [length_set]
   rw [this];exact .row b' _ h1 (by rw [Heap.bl];exact h2) (by rw [Heap.aK,if_pos rfl])
def Br(p:oT×List (Sl Int)):bI×Int×List (List Int):=(p.1.1,p.1.2.1,p.2.map Sl.l)
structure Deep (k:Nat) (h:Heap) (a:AV) (l:List (oT×List (Sl Int))):Prop where
 own:Own eP 3 k h a (l.map (·.1))
 row:∀ p ∈ l,Own eA 1 k h p.1.2.2.1 p.2
 none:∀ p ∈ l,p.2 = []->p.1.2.2.1 = .aE
 sep:∀ p ∈ l,∀ b,cC p.1.2.2.1=some b->cC a≠some b
 Mk:l.Pairwise fun p q=>∀ b,cC p.1.2.2.1=some b->cC q.1.2.2.1≠some b
theorem Deep.nil{k:Nat}{h:Heap}:Deep k h .aE []:=⟨.nil,by simp,by simp,by simp,.nil⟩
section
variable {k:Nat} {h h':Heap} {a:AV} {l:List (oT×List (Sl Int))}
theorem Deep.ext(o:Deep k h a l)(hx:aX h h'):Deep k h' a l:=⟨o.own.ext hx,fun p hp=>(o.row p hp).ext hx,o.none,o.sep,o.Mk⟩
theorem Deep.low(o:Deep k h a l){d:Nat}(hd:d<k)(x:gh):Deep k (h.set d x) a l:=⟨o.own.lC hd x,fun p hp=>(o.row p hp).lC hd x,o.none,o.sep,o.Mk⟩
theorem Deep.zC(o:Deep k h a l){j:Nat}(hj:j<=k):Deep j h a l:=⟨o.own.zC hj,fun p hp=>(o.row p hp).zC hj,o.none,o.sep,o.Mk⟩
theorem Deep.push{m:Nat}(o:Deep k h a l)(hk:k<=h.next)(hroom:(l.length+1)*48<=dg)(v:oT)(ts:List (Sl Int))(hm:k<=m)(hlt:∀ p ∈ l,∀ b,cC p.1.2.2.1=some b->b<m)
  (ov:Own eA 1 m h v.2.2.1 ts) (SL:ts = []->v.2.2.1 = .aE) (NJ:∀ b,cC v.2.2.1=some b->cC a≠some b) :
  ∃ a' h',bP 3 48 a (.slice h.next 0 1 3) (h.alloc (.cells (eP v)))=some (a',h')/\Deep k h' a' (l++[(v,ts)])/\(∀ c,c<h.next->cC a≠some c->h'.get c=h.get c)/\h.next<=h'.next/\(∀ h0,aX h0 h->h0.next<=k->aX h0 h')/\∀ c,cC a'=some c->h.next<=c:=by
 obtain ⟨a',h',e1,o1,f1,n1,x1,b1⟩:=o.own.push jq yw hk (bytes:=48) (by simpa using hroom) v;refine ⟨a',h',e1,⟨by rw [map_append];exact o1,fun p hp=>?_,fun p hp=>?_,fun p hp b hb=>?_,?_⟩,f1,n1,x1,b1⟩
 ·rcases mem_append.1 hp with hp|hp
  ·exact (o.row p hp).agree (fun b hb=>f1 b ((o.row p hp).lt hb) (o.sep p hp b hb)) n1
  ·rw [mem_singleton] at hp;subst hp;exact (ov.agree (fun b hb=>f1 b (ov.lt hb) (NJ b hb)) n1).zC hm
 ·rcases mem_append.1 hp with hp|hp
  ·exact o.none p hp
  ·rw [mem_singleton] at hp;subst hp;exact SL
 ·intro hc;have:=b1 b hc;rcases mem_append.1 hp with hp|hp
  ·have:=(o.row p hp).lt hb;omega
  ·rw [mem_singleton] at hp;subst hp;have:=ov.lt hb;omega
 ·refine pairwise_append.2 ⟨o.Mk,pairwise_singleton _ _,fun p hp q hq b hb hc=>?_⟩;rw [mem_singleton] at hq;subst hq;have:=hlt p hp b hb;have:=ov.ge hc;omega
end
theorem Bt(hs:s.small)(hK:∀ a h' l,aX h h'->Deep h.next h' a l->l.map Br=s.aQ.l.map eE->K (.ret (.agg [I6 s.size,a])) h'=true):Sem TP 104 [.agg (ak s)] h K:=by
 have hm:dg=140737488355328:=rfl;have hbig:=hs.Sf;refine F.vS ?_;rw [F.xw];simp only [cc (cL s),cN,Heap.aR];have g0:(Heap.alloc (Heap.alloc h (.cells (ak s))) (.cells [I6 0,.aE])).get h.next=sC (ak s):=by rw [Heap.aD,Heap.aR,if_neg (by omega)];exact ay _ _
 have g1:(Heap.alloc (Heap.alloc h (.cells (ak s))) (.cells [I6 0,.aE])).get (h.next+1)=sC [I6 0,.aE]:=ay _ _;have gn:(Heap.alloc (Heap.alloc h (.cells (ak s))) (.cells [I6 0,.aE])).next=h.next+2:=rfl
 have gx:aX h (Heap.alloc (Heap.alloc h (.cells (ak s))) (.cells [I6 0,.aE])):=(aX.alloc _ _).trans (aX.alloc _ _);generalize (Heap.alloc (Heap.alloc h (.cells (ak s))) (.cells [I6 0,.aE]))=H1 at g0 g1 gn gx ⊢;have lz:au none (.ptr h.next 0) H1=some (I6 s.size):=by rw [ai g0];rfl
 have ha:ko [I6 0,.aE] [(0,1)] [I6 s.size]=some (.agg [I6 s.size,.aE]):=rfl;obtain ⟨H2,BB,p2,po,pn⟩:=eG (h:=H1) (zs:=[I6 0,.aE]) (cs:=[I6 s.size,.aE]) (n:=2) rfl rfl rfl;rw [gn] at p2 po pn BB;have p0:H2.get h.next=sC (ak s):=by rw [po _ (by omega)];exact g0
 have p1:H2.get (h.next+1)=sC [I6 0,.aE]:=by rw [po _ (by omega)];exact g1
 have px:aX h H2:=⟨by omega,fun b hb=>by rw [po _ (by omega)];exact gx.get b hb⟩
 have lr:au none (.ptr h.next 1) H2=some (BF s.aQ):=by rw [ai p0];rfl
 simp only [br,reduceAdd,reduceEqDiff,reduceIte,lz,ha,gn,BB,lr]
 refine aI 0 s.aQ.l.length (zero_le _) (fun i e h'=>∃ a l,h'.get (h.next+1)=sC [I6 0,.aE]/\h'.get (h.next+2)=sC [I6 s.size,a]/\Deep (h.next+3) h' a l/\l.map Br=(s.aQ.l.take i).map eE/\aX h h'/\h.next+3<=h'.next /\
  e 2 = .ptr (h.next+1) 0/\e 3 = .ptr (h.next+2) 0/\e 13=BF s.aQ/\e 14=I6 (s.aQ.l.length:Int)/\e 15=I6 (i:Int)) ⟨_,[],p1,p2,.nil,rfl,px,by omega,rfl,rfl,rfl,rfl,rfl⟩ ?_ ?_
 ·rintro i e h' _ hi ⟨a,l,q1,q2,o,hl,qx,qn,e2,e3,wG,IY,CA⟩ K' hn gG hr hp;have hv:s.aQ.l[i]?=some s.aQ.l[i]:=fc hi;generalize s.aQ.l[i]=r at hv;have HE:=iz hv;have Oh:l.length=i:=by have:=congrArg List.length hl;rw [length_map,length_map,length_take,Nat.min_eq_left (by omega)] at this;exact this
  obtain ⟨H3,GC,p3,KN,Oi⟩:=eG (h:=h') (zs:=[.str [],I6 0,.aE]) (cs:=bA r) (n:=3) rfl rfl (iL r);have Jn:ko [.str [],I6 0,.aE] [(0,1),(1,1)] [.str r.name,I6 r.arity]=some (.agg [.str r.name,I6 r.arity,.aE]):=rfl;have l0:au none (.ptr h'.next 0) H3=some (.str r.name):=by rw [ai p3];rfl
  have l1:au none (.ptr h'.next 1) H3=some (I6 r.arity):=by rw [ai p3];rfl
  obtain ⟨H4,Qi,p4,Oj,SM⟩:=eG (h:=H3) (zs:=[.str [],I6 0,.aE]) (cs:=[.str r.name,I6 r.arity,.aE]) (n:=3) rfl rfl rfl;rw [Oi] at Qi p4 Oj SM;have x4:aX h' H4:=⟨by omega,fun b hb=>by rw [Oj b (by omega),KN b (by omega)]⟩
  have l2:au none (.ptr h'.next 2) H4=some (zx r.aP):=by rw [ai (show H4.get h'.next=sC (bA r) by rw [Oj _ (by omega)];exact p3)];rfl
  have wF:=hs.JZ r HE;have SN:r.aP.l.length<=dx:=by unfold dx;omega
  rw [F.bR.aT];simp only [wG,IY,CA,br,reduceAdd,reduceEqDiff,reduceIte,bu hi,bt s.aQ hi,g8 fq hv,GC];simp only [br,reduceAdd,reduceEqDiff,reduceIte,l0,l1,Jn,Oi,Qi,l2]
  refine aI 0 r.aP.l.length (zero_le _) (fun j e h2=>∃ tv ts,h2.get (h'.next+1)=sC [.str r.name,I6 r.arity,tv]/\Own eA 1 (h'.next+2) h2 tv ts/\(ts = []->tv = .aE)/\ts.map Sl.l=(r.aP.l.take j).map Sl.l/\aX h' h2/\h'.next+2<=h2.next /\
   e 2 = .ptr (h.next+1) 0/\e 3 = .ptr (h.next+2) 0/\e 13=BF s.aQ/\e 14=I6 (s.aQ.l.length:Int)/\e 15=I6 (i:Int)/\e 6 = .ptr (h'.next+1) 0/\e 25=zx r.aP/\e 26=I6 (r.aP.l.length:Int)/\e 27=I6 (j:Int))
   ⟨_,[],p4,.nil,fun _=>rfl,rfl,x4,by omega,e2,e3,wG,IY,CA,rfl,rfl,rfl,rfl⟩ ?_ ?_
  ·rintro j e h2 _ hj ⟨tv,ts,q6,ot,htn,Ml,x2,Qj,e2,e3,wG,IY,CA,e6,JS,Hv,IM⟩ K2 xz gY zQ Hz;have MR:r.aP.l[j]?=some r.aP.l[j]:=fc hj;generalize r.aP.l[j]=t at MR;have SO:ts.length=j:=by have:=congrArg List.length Ml;rw [length_map,length_map,length_take,Nat.min_eq_left (by omega)] at this;exact this
   have lt:au none (.ptr (h'.next+1) 2) h2=some tv:=by rw [ai q6];rfl
   rw [F.bR.ff];simp only [e6,JS,Hv,IM,br,reduceAdd,reduceEqDiff,reduceIte,bu hj,bt r.aP hj,fy MR,lt];refine ag (qG (by have:=hs.Se r HE t (iz MR);omega) fun y hy=>?_);obtain ⟨a5,h5,c5,o5,f5,n5,w5,b5⟩:=ot.push qq Gb Qj (bytes:=24) (by rw [hm];omega) y;have hne:cC tv≠some (h'.next+1):=fun hb=>by have:=ot.ge hb;omega
   have s6:h5.get (h'.next+1)=sC [.str r.name,I6 r.arity,tv]:=by rw [f5 _ (by omega) hne];exact q6
   have c6:=o5.vY
   have st:bD 1 (.ptr (h'.next+1) 2) a5 h5=some (h5.set (h'.next+1) (.cells [.str r.name,I6 r.arity,a5])):=by
    rw [fL (n:=1) s6 c6.2.1 c6.1 (by simp),c6.2.2];rfl
   simp only [br,reduceAdd,reduceEqDiff,reduceIte,lt,AV.beq_refl,Bool.and_self,if_true,IP,c5,e6,IM,st,aN hj SN];refine xz _ _ ⟨a5,ts++[y],by rw [Heap.aK,if_pos rfl],o5.lC (by omega) _,fun h=>absurd (congrArg List.length h) (by simp),?_,(w5 h' x2 (by omega)).set (by omega) _,by rw [Heap.bl];omega,e2,e3,wG,IY,CA,e6,JS,Hv,rfl⟩;rw [map_append,Ml,take_add_one,MR,map_append];simp [hy]
  ·rintro e h2 ⟨tv,ts,q6,ot,htn,Ml,x2,Qj,e2,e3,wG,IY,CA,e6,JS,Hv,IM⟩ K2 gY;rw [yA (dR _)] at Ml;have o2:=o.ext x2;obtain ⟨KO,KP⟩:=zN ot;have lq:au (some 3) (.ptr (h'.next+1) 0) h2=some (.agg (eP (r.name,r.arity,⟨tv,KO,KP⟩))):=by rw [ai q6];rfl
   have lo:au none (.ptr (h.next+2) 1) h2=some a:=by rw [ai (show h2.get (h.next+2)=sC [I6 s.size,a] by rw [x2.get _ (by omega)];exact q2)];rfl
   obtain ⟨a5,h5,c5,o5,f5,n5,w5,b5⟩:=o2.push (m:=h'.next+2) (by omega) (by have:=hs.aQ;rw [hm];omega) (r.name,r.arity,⟨tv,KO,KP⟩) ts (by omega)
    (fun p hp b hb=>by have:=(o.row p hp).lt hb;omega) ot htn (fun b hb hc=>by have:=o.own.lt hc;have:=ot.ge hb;omega)
   have hne:cC a≠some (h.next+2):=fun hb=>by have:=o.own.ge hb;omega
   have Ol:cC a≠some (h.next+1):=fun hb=>by have:=o.own.ge hb;omega
   have s2:h5.get (h.next+2)=sC [I6 s.size,a]:=by rw [f5 _ (by omega) hne,x2.get _ (by omega)];exact q2
   have s1:h5.get (h.next+1)=sC [I6 0,.aE]:=by rw [f5 _ (by omega) Ol,x2.get _ (by omega)];exact q1
   have c6:=o5.own.vY
   have st:bD 1 (.ptr (h.next+2) 1) a5 h5=some (h5.set (h.next+2) (.cells [I6 s.size,a5])):=by
    rw [fL (n:=1) s2 c6.2.1 c6.1 (by simp),c6.2.2];rfl
   rw [F.bR.ff];simp only [Hv,IM,br,reduceAdd,reduceEqDiff,reduceIte,bf];rw [gY,F.bR.dL];simp only [br,reduceAdd,reduceEqDiff,reduceIte,e3,e6,CA,lo,lq,Kb,c5,st,aN hi hbig];refine hn _ _ ⟨a5,_,?_,?_,o5.low (by omega) _,?_,(w5 h (qx.trans x2) (by omega)).set (by omega) _,by rw [Heap.bl];omega,e2,e3,wG,IY,rfl⟩
   ·rw [Heap.aK,if_neg (by omega)];exact s1
   ·rw [Heap.aK,if_pos rfl]
   ·rw [map_append,hl,take_add_one,hv,map_append];simp [eE,Br,Ml]
 ·rintro e h' ⟨a,l,q1,q2,o,hl,qx,qn,e2,e3,wG,IY,CA⟩ K' gG;rw [yA (dR _)] at hl;have lo:au (some 2) (.ptr (h.next+2) 0) h'=some (.agg [I6 s.size,a]):=by rw [ai q2];rfl
  have c:=o.own.vY
  have Ic:bw [I6 s.size,a]=true:=by
   have:=c.1;rw [c.2.2] at this;simp only [bw,Bool.and_true] at this ⊢;rw [this];rfl
  have st:bD 2 (.ptr (h.next+1) 0) (.agg [I6 s.size,a]) h'=some (h'.set (h.next+1) (.cells [I6 s.size,a])):=by
   rw [fL (n:=2) (v:=.agg [I6 s.size,a]) q1 rfl Ic (by simp)];rfl
  have SP:au (some 2) (.ptr (h.next+1) 0) (h'.set (h.next+1) (.cells [I6 s.size,a]))=some (.agg [I6 s.size,a]):=by rw [ai (cs:=[I6 s.size,a]) (by rw [Heap.aK,if_pos rfl])];rfl
  rw [F.bR.aT];simp only [IY,CA,br,reduceAdd,reduceEqDiff,reduceIte,bf];rw [gG,F.bR.aF];simp only [lV,reduceEqDiff,reduceIte,e2,e3,lo,st,cN,EH,SP,oneOf];exact hK a _ l (qx.set (by omega) _) ((o.low (by omega) _).zC (by omega)) hl
theorem tN{t:Sl Int}(hl:x.l.length<=1000000)(hk:∀ u ∈ x.l,u.l.length=t.l.length)(wF:t.l.length<=dx)(hs:ig (x.l.map Sl.l))
  (hK:∀ n:Nat,n<=x.l.length->(∀ a u,a<n->x.l[a]?=some u->bO u.l t.l=true)->(∀ a u,n<=a->x.l[a]?=some u->bO u.l t.l=false)->K (.ret (.tuple [I6 (n:Int),.bool (decide (t.l ∈ x.l.map Sl.l))])) h=true):Sem TP 101 [zx x,gr t,.func 102 [] []] h K:=by
 have kF:∀ (a b:Nat) (u v:Sl Int),x.l[a]?=some u->x.l[b]?=some v->a<b->bO u.l v.l=true:=fun a b u v hu hv rq=>by
  have h1:=pairwise_iff_getElem.1 hs;obtain ⟨p1,q1⟩:=fR.1 hu;obtain ⟨p2,q2⟩:=fR.1 hv;have:=h1 a b (by simpa using p1) (by simpa using p2) rq
  rwa [getElem_map,getElem_map,q1,q2] at this
 refine F.cM ?_;rw [F.cR];simp only [br,reduceAdd,reduceEqDiff,reduceIte]
 refine jC (fun m e h'=>∃ i j:Nat,m=j-i/\i<=j/\j<=x.l.length/\h'=h/\(∀ a u,a<i->x.l[a]?=some u->bO u.l t.l=true)/\(∀ a u,j<=a->x.l[a]?=some u->bO u.l t.l=false)/\e 0=zx x/\e 1=gr t/\e 2 = .func 102 [] []/\e 8=I6 (x.l.length:Int)/\e 9=I6 (i:Int)/\e 10=I6 (j:Int)) x.l.length
  ⟨0,x.l.length,rfl,zero_le _,dR _,rfl,fun a u ha=>absurd ha (by omega),fun a u ha hu=>absurd (fR.1 hu).1 (by omega),rfl,rfl,rfl,rfl,rfl,rfl⟩ ?_
 rintro m e h' ⟨i,j,rfl,hij,hj,rfl,yQ,Bx,e0,e1,e2,e8,e9,iK⟩;rw [F.aG.aT];by_cases hlt:i<j
 ·obtain ⟨o1,o2,o3,o4⟩:=DE (a:=i) (b:=j) (by omega) (h:=h');have Mi:(i+j)/2<j:=by omega
  have Mj:i<=(i+j)/2:=by omega
  generalize (i+j)/2=q at o3 o4 Mi Mj;have hq:q<x.l.length:=by omega
  have hv:x.l[q]?=some x.l[q]:=fc hq;generalize x.l[q]=u at hv;have EI:=iz hv;simp only [e0,e1,e2,e9,iK,br,reduceAdd,reduceEqDiff,reduceIte,fS (show (i:Int)<(j:Int) by omega),o1,o2,o3,o4,bt x hq,fy hv,gL,nil_append,append_nil];refine ag (gH (by rw [hk u EI];exact wF) (hk u EI) fun c c1 c2=>?_);simp only [br,reduceAdd,reduceEqDiff,reduceIte];by_cases hc:c<0
  ·have kM:=c1.1 hc;simp only [fS hc,aA,aN hq (show x.l.length<=dx by unfold dx;omega),cN];refine cw.2 ⟨j-(q+1),by omega,rfl,rfl,q+1,j,rfl,by omega,hj,rfl,fun a w ha hw=>?_,Bx,e0,e1,e2,e8,rfl,iK⟩;by_cases Ke:a=q
   ·subst Ke;rw [hv] at hw;cases hw;exact kM
   ·exact gW (kF a q w u hw hv (by omega)) kM
  ·have kM:bO u.l t.l=false:=by cases hh:bO u.l t.l with|false=>rfl|true=>exact absurd (c1.2 hh) hc
   simp only [fB hc,ax];refine cw.2 ⟨q-i,by omega,rfl,rfl,i,q,rfl,Mj,by omega,rfl,yQ,fun a w ha hw=>?_,e0,e1,e2,e8,e9,rfl⟩;by_cases Ke:a=q
   ·subst Ke;rw [hv] at hw;cases hw;exact kM
   ·cases hh:bO w.l t.l with
    |false=>rfl
    |true=>rw [gW (kF q a u w hv hw (by omega)) hh] at kM;cases kM
 ·obtain rfl:i=j:=by omega
  simp only [e9,iK,br,reduceAdd,reduceEqDiff,reduceIte,fB (show ¬ (i:Int)<(i:Int) by omega),oz];rw [F.aG.aF];simp only [lV,reduceEqDiff,reduceIte,e0,e1,e2,e8,e9,br,reduceAdd,reduceEqDiff,reduceIte];by_cases hin:i<x.l.length
  ·have hv:x.l[i]?=some x.l[i]:=fc hin;generalize x.l[i]=u at hv;have EI:=iz hv;simp only [bu hin,aA,bt x hin,fy hv,cN,gL,nil_append,append_nil];refine ag (gH (by rw [hk u EI];exact wF) (hk u EI) fun c c1 c2=>?_);simp only [br,reduceAdd,reduceEqDiff,reduceIte,b9]
   have:decide (c=0)=decide (t.l ∈ x.l.map Sl.l):=by
    rw [decide_eq_decide,c2,mem_map];constructor
    ·intro he;exact ⟨u,EI,he⟩
    ·rintro ⟨w,hw,he⟩;obtain ⟨a,ha⟩:=getElem?_of_mem hw;by_cases h1:a<i
     ·have:=yQ a w h1 ha;rw [he,gf] at this;cases this
     ·by_cases h2:a=i
      ·subst h2;rw [hv] at ha;cases ha;exact he
      ·have h3:=kF i a u w hv ha (by omega);rw [he,Bx i u (dR _) hv] at h3;cases h3
   rw [this];exact hK i hj yQ Bx
  ·simp only [fB (show ¬ (i:Int)<(x.l.length:Int) by omega),ax]
   have:decide (t.l ∈ x.l.map Sl.l)=false:=by
    rw [decide_eq_false_iff_not,mem_map];rintro ⟨w,hw,he⟩;obtain ⟨a,ha⟩:=getElem?_of_mem hw;have:=yQ a w (by have:=(fR.1 ha).1;omega) ha;rw [he,gf] at this;cases this
   rw [this] at hK;exact hK i hj yQ Bx
theorem uj(ts:List (Sl Int)):ts.flatMap eA=ts.map fun t=>gr t:=by
 induction ts with
 |nil=>rfl
 |cons t ts ih=>rw [flatMap_cons,ih];rfl
theorem Bu(ts:List (Sl Int)):bw (ts.flatMap eA)=true:=by
 induction ts with
 |nil=>rfl
 |cons t ts ih=>rw [flatMap_cons];cases t<;>exact ih
theorem CG(DH:h.bk=false){ts:List (Sl Int)}(o:Own eA 1 k h v ts)(hn:ts = []->v = .aE)(hlen:ts.length<=1000000){vb:Nat}{y:Sl Int}(Qk:h.get vb=sC (eA y))(hne:cC v≠some vb)(JH:k<=h.next)(hi:i<=ts.length)
  (hK:∀ v' h',Own eA 1 k h' v' (ts.take i++y :: ts.drop i)->(∀ b,b<h.next->cC v≠some b->h'.get b=h.get b)->h.next<=h'.next->cC v'=some h.next->K (.ret v') h'=true):Sem TP 105 [v,I6 (i:Int),.slice vb 0 1 1] h K:=by
 have Cg:(gr y).one=true:=by cases y<;>rfl
 refine gK.IE kH (f:=105) rfl ?_;have hci:((i:Nat):Int)=Int.ofNat i:=rfl;rw [hci]
 cases o with
 |nil=>
  obtain rfl:i=0:=by simpa using hi
  have e:lf [.aE,I6 (Int.ofNat 0),.slice vb 0 1 1] h K=(!h.bk&&(gr y).one&&(Nat.beq 0 0&&K (.ret (.slice h.next 0 1 1)) (h.alloc (.cells [gr y])))):=by
   simp only [lf,Qk,eA]
  rw [e,DH,Cg];refine hK _ (h.alloc (.cells [gr y])) ?_ (fun b hb _=>by rw [Heap.aD,if_neg (by omega)]) (by rw [Heap.aR];omega) rfl;exact .row h.next [y] JH (by rw [Heap.aR];omega) (ay _ _)
 |row b ts h1 h2 h3=>
  have hl:(ts.flatMap eA).length=ts.length:=by rw [er qq];omega
  have Om:1<=ts.length:=by
   rcases eq_zero_or_pos ts.length with h0|h0
   ·have:=hn (length_eq_zero_iff.1 h0);cases this
   ·exact h0
  have Nv:b≠vb:=fun e=>hne (by rw [e];rfl)
  have e:lf [.slice b 0 ts.length 1,I6 (Int.ofNat i),.slice vb 0 1 1] h K=(!h.bk&&(gr y).one&&(!(Nat.beq b vb)&&(Nat.beq (ts.flatMap eA).length ts.length&&(ble 1 ts.length&&(ble i ts.length&&(ble ((ts.length+1)*24) 140737488355328&&(bw (ts.flatMap eA) &&
    K (.ret (.slice h.next 0 (ts.length+1) 1)) ((h.set b .dead).alloc (.cells ((ts.flatMap eA).take i++gr y :: (ts.flatMap eA).drop i)))))))))):=by
   simp only [lf,Qk,eA,h3]
  have c1:Nat.beq b vb=false:=by cases hh:Nat.beq b vb with|false=>rfl|true=>exact absurd (eq_of_beq_eq_true hh) Nv
  have c2:Nat.beq (ts.flatMap eA).length ts.length=true:=by rw [hl];exact Nat.beq_refl _
  have c3:ble 1 ts.length=true:=ble_eq_true_of_le Om;have c4:ble i ts.length=true:=ble_eq_true_of_le hi;have c5:ble ((ts.length+1)*24) 140737488355328=true:=ble_eq_true_of_le (by omega);rw [e,DH,Cg,c1,c2,c3,c4,c5,Bu]
  have hcs:(ts.flatMap eA).take i++gr y :: (ts.flatMap eA).drop i=(ts.take i++y :: ts.drop i).flatMap eA:=by
   rw [uj,uj,map_append,map_cons,map_take,map_drop]
  have Mf:ts.length+1=(ts.take i++y :: ts.drop i).length:=by simp;omega
  rw [hcs];show K _ _=true;rw [Mf];have oU:(h.set b .dead).next=h.next:=Heap.bl _ _ _
  refine hK _ _ ?_ (fun c hc hb=>?_) (by rw [Heap.aR,oU];omega) rfl
  ·refine .row h.next _ JH (by rw [Heap.aR,oU];omega) ?_
   rw [<- oU];exact ay _ _
  ·rw [Heap.aD,if_neg (by rw [oU];omega),Heap.aK,if_neg (fun e=>hb (by rw [e];rfl))]
theorem CH(DH:h.bk=false){ts:List (Sl Int)}(o:Own eA 1 k h v ts)(hlen:ts.length<=1000000)(JH:k<=h.next)(hi:i<ts.length)
  (hK:∀ v' h',Own eA 1 k h' v' (ts.take i++ts.drop (i+1))->(∀ b,b<h.next->cC v≠some b->h'.get b=h.get b)->h.next<=h'.next->cC v'=some h.next->K (.ret v') h'=true):Sem TP 106 [v,I6 (i:Int),I6 ((i+1:Nat):Int)] h K:=by
 refine gK.IE kH (f:=106) rfl ?_;have hci:((i:Nat):Int)=Int.ofNat i:=rfl;have On:((i+1:Nat):Int)=Int.ofNat (i+1):=rfl;rw [hci,On]
 cases o with
 |nil=>simp at hi
 |row b ts h1 h2 h3=>
  have hl:(ts.flatMap eA).length=ts.length:=by rw [er qq];omega
  have e:p7 [.slice b 0 ts.length 1,I6 (Int.ofNat i),I6 (Int.ofNat (i+1))] h K=(!h.bk&&(Nat.beq (ts.flatMap eA).length ts.length&&(ble (i+1) (i+1)&&(ble (i+1) ts.length&&(ble (ts.length*24) 140737488355328&&(bw (ts.flatMap eA) &&
    K (.ret (.slice h.next 0 (ts.length-(i+1-i)) 1)) ((h.set b .dead).alloc (.cells ((ts.flatMap eA).take i++(ts.flatMap eA).drop (i+1)))))))))):=by
   simp only [p7,h3]
  have c2:Nat.beq (ts.flatMap eA).length ts.length=true:=by rw [hl];exact Nat.beq_refl _
  have c3:ble (i+1) (i+1)=true:=ble_eq_true_of_le (dR _);have c4:ble (i+1) ts.length=true:=ble_eq_true_of_le hi;have c5:ble (ts.length*24) 140737488355328=true:=ble_eq_true_of_le (by omega);rw [e,DH,c2,c3,c4,c5,Bu]
  have hcs:(ts.flatMap eA).take i++(ts.flatMap eA).drop (i+1)=(ts.take i++ts.drop (i+1)).flatMap eA:=by
   rw [uj,uj,map_append,map_take,map_drop]
  have Mf:ts.length-(i+1-i)=(ts.take i++ts.drop (i+1)).length:=by simp;omega
  rw [hcs];show K _ _=true;rw [Mf];have oU:(h.set b .dead).next=h.next:=Heap.bl _ _ _
  refine hK _ _ ?_ (fun c hc hb=>?_) (by rw [Heap.aR,oU];omega) rfl
  ·refine .row h.next _ JH (by rw [Heap.aR,oU];omega) ?_
   rw [<- oU];exact ay _ _
  ·rw [Heap.aD,if_neg (by rw [oU];omega),Heap.aK,if_neg (fun e=>hb (by rw [e];rfl))]
theorem DF(hs:ig L){a:Nat}{u v:List Int}(hu:L[a]?=some u)(hv:L[b]?=some v)(rq:a<b):bO u v=true:=by
 have h1:=pairwise_iff_getElem.1 hs;obtain ⟨p1,q1⟩:=fR.1 hu;obtain ⟨p2,q2⟩:=fR.1 hv;have:=h1 a b p1 p2 rq
 rwa [q1,q2] at this
theorem Kf(hs:ig L)(hlen:∀ u ∈ L,u.length=t.length)(yQ:∀ a u,a<n->L[a]?=some u->bO u t=true)(Bx:∀ a u,n<=a->L[a]?=some u->bO u t=false)(ht:t ∉ L) :
  ig (L.take n++t :: L.drop n):=by
 refine Cw hs (fun y hy=>?_) (fun y hy=>?_)
 ·obtain ⟨a,ha⟩:=getElem?_of_mem hy;rw [getElem?_drop] at ha;have hm:=iz ha;exact yj (hlen y hm) (Bx _ y (by omega) ha) (fun e=>ht (e▸hm))
 ·obtain ⟨a,ha⟩:=getElem?_of_mem hy;have hal:a<n:=by have:=(fR.1 ha).1;rw [length_take] at this;omega
  rw [getElem?_take,if_pos hal] at ha;exact yQ a y hal ha
theorem Kg(hs:ig L)(yQ:∀ a u,a<n->L[a]?=some u->bO u t=true)(Bx:∀ a u,n<=a->L[a]?=some u->bO u t=false)(ht:t ∈ L) :
  L[n]?=some t/\ig (L.take n++L.drop (n+1))/\∀ u,u ∈ L.take n++L.drop (n+1)↔u ∈ L/\u≠t:=by
 obtain ⟨a,ha⟩:=getElem?_of_mem ht;have h1:¬ a<n:=fun h=>by have:=yQ a t h ha;rw [gf] at this;cases this
 have SQ:a=n:=by
  rcases Nat.lt_or_ge n a with h|h
  ·have hl:n<L.length:=by have:=(fR.1 ha).1;omega
   have:=DF hs (fc hl) ha h;rw [Bx n _ (dR _) (fc hl)] at this;cases this
  ·omega
 subst SQ;have e:L.take a++L.drop (a+1)=L.eraseIdx a:=(eraseIdx_eq_take_drop_succ L a).symm;refine ⟨ha,by rw [e];exact List.Pairwise.sublist (eraseIdx_sublist L a) hs,fun u=>?_⟩;constructor
 ·intro hu;rcases mem_append.1 hu with hu|hu
  ·refine ⟨mem_of_mem_take hu,fun he=>?_⟩;subst he;obtain ⟨b,hb⟩:=getElem?_of_mem hu;have LQ:b<a:=by have:=(fR.1 hb).1;rw [length_take] at this;omega
   rw [getElem?_take,if_pos LQ] at hb;have:=yQ b u LQ hb;rw [gf] at this;cases this
  ·refine ⟨mem_of_mem_drop hu,fun he=>?_⟩;subst he;obtain ⟨b,hb⟩:=getElem?_of_mem hu;rw [getElem?_drop] at hb;have:=DF hs ha hb (by omega);rw [gf] at this;cases this
 ·rintro ⟨hu,hne⟩;obtain ⟨b,hb⟩:=getElem?_of_mem hu;rcases Nat.lt_trichotomy b a with h|h|h
  ·exact mem_append_left _ (iz (i:=b) (by rw [getElem?_take,if_pos h];exact hb))
  ·subst h;rw [ha] at hb;cases hb;exact absurd rfl hne
  ·exact mem_append_right _ (iz (i:=b-(a+1)) (by rw [getElem?_drop,show a+1+(b-(a+1))=b by omega];exact hb))
theorem yy{k:Nat}{h:Heap}:∀ (l:List (oT×List (Sl Int))),(∀ p ∈ l,Own eA 1 k h p.1.2.2.1 p.2) ->
  ∃ zs:List Rel,zs.map eE=l.map Br/\zs.length=l.length/\kf true h ((l.map (·.1)).flatMap eP) (zs.flatMap bA)
 |[],_=>⟨[],rfl,rfl,.nil⟩
 |p :: l,hp=>by
  obtain ⟨zs,h1,h2,h3⟩:=yy l fun q hq=>hp q (mem_cons_of_mem _ hq);obtain ⟨x,x1,x2⟩:=(Bq.Gt (hp p mem_cons_self) rO).fz;have hx:x.l=p.2:=by rw [x1,List.map_map];simp [Function.comp_def]
  obtain ⟨⟨nm,k,v⟩,ts⟩:=p;refine ⟨⟨nm,k,x⟩ :: zs,?_,by simp [h2],?_⟩
  ·rw [map_cons,map_cons,h1];have hx:x.l=ts:=hx;simp [eE,Br,hx]
  ·rw [map_cons,flatMap_cons,flatMap_cons];exact kf.append (Kc x2) h3
theorem Ie{l:List (oT×List (Sl Int))}(o:Own eP 3 k h a (l.map (·.1)))(hp:∀ p ∈ l,Own eA 1 k h p.1.2.2.1 p.2):∃ z:Sl Rel,z.l.map eE=l.map Br/\Fz true h a (BF z):=by
 obtain ⟨zs,h1,h2,h3⟩:=yy l hp;generalize hm:l.map (·.1)=m at o h3
 cases o with
 |nil=>
  have:l = []:=by simpa using hm
  subst this;exact ⟨none,rfl,.dF rfl⟩
 |row b m q1 q2 q3=>
  have P8:m.length=zs.length:=by rw [<- hm,length_map,h2]
  refine ⟨some zs,h1,?_⟩;have:BF (some zs) = .aL (zs.flatMap bA) 0 zs.length 3:=rfl;rw [this,P8];exact .slice b 0 zs.length 3 _ _ q3 h3.len h3.rel
theorem qH{t:Sl Int}(hv:Fz true h v (zx x))(hl:x.l.length<=1000000)(hk:∀ u ∈ x.l,u.l.length=t.l.length)(wF:t.l.length<=dx)(hs:ig (x.l.map Sl.l))
  (hK:∀ n:Nat,n<=x.l.length->(∀ a u,a<n->x.l[a]?=some u->bO u.l t.l=true)->(∀ a u,n<=a->x.l[a]?=some u->bO u.l t.l=false)->K (.ret (.tuple [I6 (n:Int),.bool (decide (t.l ∈ x.l.map Sl.l))])) h=true) :
  Sem TP 101 [v,gr t,.func 102 [] []] h K:=
 (tN hl hk wF hs (h:=Heap.empty) (K:=fun o h'=>yes (∃ n:Nat,o = .ret (.tuple [I6 (n:Int),.bool (decide (t.l ∈ x.l.map Sl.l))])/\n<=x.l.length/\(∀ a u,a<n->x.l[a]?=some u->bO u.l t.l=true)/\(∀ a u,n<=a->x.l[a]?=some u->bO u.l t.l=false)))
  fun n a b c=>cw.2 ⟨n,rfl,a,b,c⟩).Ls (.cons hv (.cons (.dF (dU gT t)) (.cons (.dF rfl) .nil))) fun o h' ho=>by
  obtain ⟨n,rfl,a,b,c⟩:=cw.1 ho;have:=kf.cons (old:=false) (h:=h') (Fz.scalar (I6 (n:Int)) rfl) (kf.cons (Fz.scalar (.bool (decide (t.l ∈ x.l.map Sl.l))) rfl) kf.nil);exact ⟨_,_,rfl,.tuple _ _ this.len this.rel,hK n a b c⟩
theorem qI(s:St):dz TP s Tryz.f51.results.toList=(match au (some 2) (s.env 8) s.h,(some [s.env 9]:Option (List AV)) with|some v,some vs=>some (v :: vs)|_,_=>none):=by kernel_rfl
theorem EJ(EL:s.ok)(hv:bY s=true){t:Sl Int}(hj:fO (ic nm (t.l.length:Int)) s.aQ.l=(j:Int))(hr:s.aQ.l[j]?=some r)(Qg:r.arity=(t.l.length:Int))(hin:gM s.size t.l=true)
  (hK:∀ s',zF s j r t.l is s'->K (.ret (.tuple [.agg (ak s'),I6 0])) h=true):Sem TP 51 [.agg (ak s),.str nm,gr t,.bool is] h K:=by
 have hm:dg=140737488355328:=rfl;have HE:=iz hr;have DP:j<s.aQ.l.length:=(fR.1 hr).1;have mC:=(ij.1 hv).rel _ (List.mem_map_of_mem HE);obtain ⟨_,k,KB,J9,SK,IU⟩:=mC;have Og:r.arity=(k:Int):=KB;have hkl:t.l.length=k:=by omega
 have wF:t.l.length<=dx:=by unfold dx;omega
 have Oo:=(lG hv).1;have Ty:=Oo.JZ r HE
 have main:Sem TP 51 [.agg (ak s),.str nm,gr t,.bool is] Heap.plain (fun o h'=>yes (∃ v s',o = .ret (.tuple [v,I6 0])/\zF s j r t.l is s'/\Fz true h' v (.agg (ak s')))):=by
  refine F.xu ?_;rw [F.zB];simp only [cc (cL s),cN,Heap.aR,k9];have g0:(Heap.alloc (Heap.alloc Heap.plain (.cells (ak s))) (.cells [I6 0,.aE])).get 1=sC (ak s):=by simp [Heap.aD,k9]
  have g1:(Heap.alloc (Heap.alloc Heap.plain (.cells (ak s))) (.cells [I6 0,.aE])).get 2=sC [I6 0,.aE]:=by simp [Heap.aD,k9]
  have gn:(Heap.alloc (Heap.alloc Heap.plain (.cells (ak s))) (.cells [I6 0,.aE])).next=3:=rfl
  have gm:(Heap.alloc (Heap.alloc Heap.plain (.cells (ak s))) (.cells [I6 0,.aE])).get 0=some .mark:=by simp [Heap.aD,k9,Cc]
  generalize (Heap.alloc (Heap.alloc Heap.plain (.cells (ak s))) (.cells [I6 0,.aE]))=H1 at g0 g1 gn gm ⊢;have l0:au (some 2) (.ptr 1 0) H1=some (.agg (ak s)):=by rw [ai g0,bJ (cs:=ak s) (n:=2) rfl]
  have lz:au none (.ptr 1 0) H1=some (I6 s.size):=by rw [ai g0];rfl
  simp only [l0,cN];refine ag (yx EL hv hj hr Qg wF ?_);simp only [br,reduceAdd,reduceEqDiff,reduceIte,b9,decide_true,Bool.not_true,lz];refine ag (jG wF ?_);rw [hin];simp only [br,reduceAdd,reduceEqDiff,reduceIte,Bool.not_true,l0];refine ag (Bt Oo fun a H2 l hx hd hl=>?_)
  have Ic:bw [I6 s.size,a]=true:=by
   have c:=hd.own.vY;have:=c.1;rw [c.2.2] at this;simp only [bw,Bool.and_true] at this ⊢;rw [this];rfl
  obtain ⟨H3,GC,p3,KN,Oi⟩:=eG (h:=H2) (zs:=[I6 0,.aE]) (cs:=[I6 s.size,a]) (n:=2) rfl rfl Ic;have x3:aX H2 H3:=⟨by omega,fun b hb=>KN b (by omega)⟩
  have n2:=hx.next
  have d3:=hd.ext x3;rw [gn] at d3 n2;have q0:H3.get 1=sC (ak s):=by rw [KN 1 (by omega),hx.get 1 (by omega)];exact g0
  have q1:H3.get 2=sC [I6 0,.aE]:=by rw [KN 2 (by omega),hx.get 2 (by omega)];exact g1
  have Ql:H3.get 0=some .mark:=by rw [KN 0 (by omega),hx.get 0 (by omega)];exact gm
  have lr:au none (.ptr H2.next 1) H3=some a:=by rw [ai p3];rfl
  have l3:au (some 2) (.ptr 1 0) H3=some (.agg (ak s)):=by rw [ai q0,bJ (cs:=ak s) (n:=2) rfl]
  simp only [br,reduceAdd,reduceEqDiff,reduceIte,GC,lr,l3];refine ag (oK EL ?_);rw [hj];have Oh:l.length=s.aQ.l.length:=by have:=congrArg List.length hl;simpa using this
  obtain ⟨⟨q,ts⟩,hp⟩:∃ p,l[j]?=some p:=⟨l[j]'(by omega),fc (by omega)⟩
  have J5:=iz hp
  have Li:Br (q,ts)=eE r:=by
   have:=congrArg (·[j]?) hl;simp only [getElem?_map,hp,hr,map_some,Option.some.injEq] at this;exact this
  have e1:q.1=r.name:=congrArg (·.1) Li;have e2:q.2.1=r.arity:=congrArg (·.2.1) Li;have e3:ts.map Sl.l=r.aP.l.map Sl.l:=congrArg (·.2.2) Li;have Tz:ts.length=r.aP.l.length:=by have:=congrArg List.length e3;simpa using this
  have KG:(l.map (·.1))[j]?=some q:=by rw [getElem?_map,hp];rfl
  have oq:Own eA 1 3 H3 q.2.2.1 ts:=d3.row _ J5;obtain ⟨x,x1,x2⟩:=(Bq.Gt oq rO).fz;have IW:x.l=ts:=by rw [x1,List.map_map];simp [Function.comp_def]
  have hlen:∀ u ∈ ts.map Sl.l,u.length=t.l.length:=fun u hu=>by
   rw [e3] at hu;rw [hkl];exact (IU.1 u hu).1
  have kF:ig (ts.map Sl.l):=by rw [e3];exact IU.2
  have fin:∀ (hF:Heap) (l':List (oT×List (Sl Int))) (L':List (List Int)),Own eP 3 3 hF a (l'.map (·.1))->(∀ p ∈ l',Own eA 1 3 hF p.1.2.2.1 p.2)->hF.get H2.next=sC [I6 s.size,a]->hF.get 2=sC [I6 0,.aE] ->
    l'.map Br=(s.aQ.l.map eE).set j (r.name,r.arity,L')->ig L'->(∀ u,u ∈ L'↔(u ∈ r.aP.l.map Sl.l/\u≠t.l)\/(is=true/\u=t.l)) ->
    au (some 2) (.ptr H2.next 0) hF=some (.agg [I6 s.size,a])/\∃ hG,bD 2 (.ptr 2 0) (.agg [I6 s.size,a]) hF=some hG/\au (some 2) (.ptr 2 0) hG=some (.agg [I6 s.size,a])/\∃ s',zF s j r t.l is s'/\Fz true hG (.agg [I6 s.size,a]) (.agg (ak s')):=by
   intro hF l' L' o1 o2 o3 o4 o5 o6 o7;refine ⟨by rw [ai o3];rfl,hF.set 2 (.cells [I6 s.size,a]),by rw [fL (n:=2) (v:=.agg [I6 s.size,a]) o4 rfl Ic (by simp)];rfl,by rw [ai (cs:=[I6 s.size,a]) (by rw [Heap.aK,if_pos rfl])];rfl,?_⟩;obtain ⟨z,z1,z2⟩:=Ie (o1.lC (d:=2) (by omega) (.cells [I6 s.size,a])) fun p hp=>(o2 p hp).lC (d:=2) (by omega) (.cells [I6 s.size,a]);refine ⟨⟨s.size,z⟩,⟨rfl,L',o6,o7,by rw [<- o5];exact z1⟩,?_⟩;have:=kf.cons (.scalar (I6 s.size) rfl) (kf.cons z2 kf.nil);exact .agg _ _ this.len this.rel
  have wI:(∀ u,u ∈ r.aP.l.map Sl.l↔(u ∈ r.aP.l.map Sl.l/\u≠t.l)\/(is=true/\u=t.l))->au (some 2) (.ptr H2.next 0) H3=some (.agg [I6 s.size,a])/\∃ hG,bD 2 (.ptr 2 0) (.agg [I6 s.size,a]) H3=some hG/\au (some 2) (.ptr 2 0) hG=some (.agg [I6 s.size,a])/\∃ s',zF s j r t.l is s'/\Fz true hG (.agg [I6 s.size,a]) (.agg (ak s')):=fun hu=>by
   refine fin H3 l (r.aP.l.map Sl.l) d3.own d3.row p3 q1 ?_ IU.2 hu;rw [hl];refine ext_getElem? fun i=>?_;by_cases hi:i=j
   ·subst hi;rw [getElem?_set_self (by simpa using DP),getElem?_map,hr];rfl
   ·rw [getElem?_set_ne (Ne.symm hi)]
  have Qm:∀ (hF:Heap) (v':Ia) (IZ:List (Sl Int)),Own eA 1 3 hF v'.1 IZ->(∀ b,b<H3.next->cC q.2.2.1≠some b->hF.get b=H3.get b)->H3.next<=hF.next->(∀ b,cC v'.1=some b->H3.next<=b)->ig (IZ.map Sl.l)->(∀ u,u ∈ IZ.map Sl.l↔(u ∈ r.aP.l.map Sl.l/\u≠t.l)\/(is=true/\u=t.l)) ->
    ∃ b hH,iZ 3 a (I6 (j:Int))=some (.ptr b (j*3))/\bD 1 (.ptr b (j*3+2)) v'.1 hF=some hH/\au (some 2) (.ptr H2.next 0) hH=some (.agg [I6 s.size,a])/\∃ hG,bD 2 (.ptr 2 0) (.agg [I6 s.size,a]) hH=some hG/\au (some 2) (.ptr 2 0) hG=some (.agg [I6 s.size,a])/\∃ s',zF s j r t.l is s'/\Fz true hG (.agg [I6 s.size,a]) (.agg (ak s')):=by
   intro hF v' IZ ov hfr oU jL ei C0;have oF:Own eP 3 3 hF a (l.map (·.1)):=d3.own.agree (fun b hb=>hfr b (d3.own.lt hb) (fun hc=>d3.sep _ J5 b hc hb)) oU;obtain ⟨b,cs,i1,i2,i3,i4,i5,i6⟩:=oF.IX KG v';have hb2:b<H2.next:=hd.own.lt i2
   have hb3:3<=b:=d3.own.ge i2;have Mm:∀ c,cC q.2.2.1=some c->c<H2.next/\3<=c:=fun c hc=>⟨(hd.row _ J5).lt hc,oq.ge hc⟩
   refine ⟨b,hF.set b (.cells cs),i1,i5,?_⟩;have kC:(l.set j ((q.1,q.2.1,v'),IZ)).map (·.1)=(l.map (·.1)).set j (q.1,q.2.1,v'):=by rw [map_set]
   refine fin (hF.set b (.cells cs)) (l.set j ((q.1,q.2.1,v'),IZ)) (IZ.map Sl.l) (by rw [kC];exact i6) (fun p PR=>?_) ?_ ?_ ?_ ei C0
   ·obtain ⟨i,hi⟩:=getElem?_of_mem PR;by_cases hij:i=j
    ·subst hij;rw [getElem?_set_self (by omega)] at hi;cases hi;exact ov.agree (fun c hc=>by rw [Heap.aK,if_neg (fun e=>by have:=jL c hc;omega)]) (by rw [Heap.bl];omega)
    ·rw [getElem?_set_ne (Ne.symm hij)] at hi;have Jl:=iz hi;refine (d3.row p Jl).agree (fun c hc=>?_) (by rw [Heap.bl];omega);have SS:c≠b:=fun e=>d3.sep p Jl c hc (by rw [e];exact i2);rw [Heap.aK,if_neg SS];refine hfr c ((d3.row p Jl).lt hc) fun Qn=>?_;have Mn:=pairwise_iff_getElem.1 d3.Mk;obtain ⟨y1,y2⟩:=fR.1 hi;obtain ⟨y3,y4⟩:=fR.1 hp;rcases Nat.lt_or_gt_of_ne hij with hlt|GX
     ·exact Mn i j y1 y3 hlt c (by rw [y2];exact hc) (by rw [y4];exact Qn)
     ·exact Mn j i y3 y1 GX c (by rw [y4];exact Qn) (by rw [y2];exact hc)
   ·rw [Heap.aK,if_neg (by omega),hfr _ (by omega) (fun hc=>by have:=(Mm _ hc).1;omega)];exact p3
   ·rw [Heap.aK,if_neg (by omega),hfr _ (by omega) (fun hc=>by have:=(Mm _ hc).2;omega)];exact q1
   ·rw [map_set,hl];show (s.aQ.l.map eE).set j (q.1,q.2.1,IZ.map Sl.l)=_;rw [e1,e2]
  obtain ⟨b,_,i1,i2,i3,i4,_,_⟩:=d3.own.IX KG q.2.2;have hnc:∀ c o:Nat,eF (.ptr c o)=some (.ptr c o):=fun _ _=>rfl;simp only [br,reduceAdd,reduceEqDiff,reduceIte,lr,AV.beq_refl,Bool.and_self,if_true,i1,hnc,i4];refine ag (qH x2 (by rw [IW];omega) (fun u hu=>by rw [IW] at hu;exact hlen u.l (List.mem_map_of_mem hu)) wF (by rw [IW];exact kF) fun n hn yQ Bx=>?_);rw [IW] at hn yQ Bx ⊢;rw [e3]
  have Mo:∀ c u,c<n->(ts.map Sl.l)[c]?=some u->bO u t.l=true:=fun c u hc hu=>by
   rw [getElem?_map] at hu;obtain ⟨w,hw,rfl⟩:=map_eq_some_iff.1 hu;exact yQ c w hc hw
  have Mp:∀ c u,n<=c->(ts.map Sl.l)[c]?=some u->bO u t.l=false:=fun c u hc hu=>by
   rw [getElem?_map] at hu;obtain ⟨w,hw,rfl⟩:=map_eq_some_iff.1 hu;exact Bx c w hc hw
  cases is with
  |true=>
   by_cases xB:t.l ∈ r.aP.l.map Sl.l
   ·simp only [br,reduceAdd,reduceEqDiff,reduceIte,fS xB,Bool.not_true]
    obtain ⟨f1,hG,f2,f3,s',f4,f5⟩:=wI fun u=>by
     constructor
     ·intro hu;by_cases he:u=t.l
      ·exact .inr ⟨rfl,he⟩
      ·exact .inl ⟨hu,he⟩
     ·rintro (⟨hu,_⟩|⟨_,rfl⟩)
      ·exact hu
      ·exact xB
    simp only [br,reduceAdd,reduceEqDiff,reduceIte,f1,f2,qI,f3,oneOf];exact cw.2 ⟨_,s',rfl,f4,f5⟩
   ·simp only [br,reduceAdd,reduceEqDiff,reduceIte,fB xB,Bool.not_false,hnc,i4];refine ag (qG (by omega) fun y hy=>?_);have gy:=ay H3 (.cells (eA y));simp only [br,reduceAdd,reduceEqDiff,reduceIte,i4,AV.beq_refl,Bool.and_self,if_true,IP];refine ag (CG (h:=H3.alloc (.cells (eA y))) (Heap.Di (by rw [Heap.aD,if_neg (by omega)];exact Ql)) (oq.ext (aX.alloc _ _)) (d3.none _ J5) (by omega) gy (fun hc=>by have:=oq.lt hc;omega) (by rw [Heap.aR];omega) hn fun v' h' ov hfr oU Oq=>?_);obtain ⟨KO,KP⟩:=zN ov;have AF:(ts.take n++y :: ts.drop n).map Sl.l=(ts.map Sl.l).take n++t.l :: (ts.map Sl.l).drop n:=by rw [map_append,map_cons,hy,map_take,map_drop]
    obtain ⟨b',hH,c1,c2,c3,hG,c4,c5,s',c6,c7⟩:=Qm h' ⟨v',KO,KP⟩ _ ov (fun c hc hb=>by rw [hfr c (by rw [Heap.aR];omega) hb,Heap.aD,if_neg (by omega)]) (by rw [Heap.aR] at oU;omega) (fun c hc=>by
      have:v'=v':=rfl;rw [show cC v'=some (H3.alloc (.cells (eA y))).next from Oq] at hc
      rw [Heap.aR] at hc;cases hc;omega) (by rw [AF];exact Kf kF hlen Mo Mp (by rw [e3];exact xB)) (fun u=>by
      rw [AF,HN,e3];constructor
      ·rintro (hu|hu)
       ·exact .inl ⟨hu,fun e=>xB (e▸hu)⟩
       ·exact .inr ⟨rfl,hu⟩
      ·rintro (⟨hu,_⟩|⟨_,hu⟩)
       ·exact .inl hu
       ·exact .inr hu)
    obtain rfl:b'=b:=by rw [i1] at c1;cases c1;rfl
    simp only [br,reduceAdd,reduceEqDiff,reduceIte,c2,c3,c4,qI,c5,oneOf];exact cw.2 ⟨_,s',rfl,c6,c7⟩
  |false=>
   by_cases xB:t.l ∈ r.aP.l.map Sl.l
   ·obtain ⟨tH,La,yX⟩:=Kg kF Mo Mp (by rw [e3];exact xB);have K7:n<ts.length:=by have:=(fR.1 tH).1;simpa using this
    simp only [br,reduceAdd,reduceEqDiff,reduceIte,fS xB,Bool.not_false,hnc,i4,aN K7 (by unfold dx;omega)];refine ag (CH (Heap.Di Ql) oq (by omega) (by omega) K7 fun v' h' ov hfr oU Oq=>?_);obtain ⟨KO,KP⟩:=zN ov;have AF:(ts.take n++ts.drop (n+1)).map Sl.l=(ts.map Sl.l).take n++(ts.map Sl.l).drop (n+1):=by rw [map_append,map_take,map_drop]
    obtain ⟨b',hH,c1,c2,c3,hG,c4,c5,s',c6,c7⟩:=Qm h' ⟨v',KO,KP⟩ _ ov hfr oU (fun c hc=>by
      rw [show cC v'=some H3.next from Oq] at hc
      cases hc;omega) (by rw [AF];exact La) (fun u=>by
      rw [AF,yX,e3];constructor
      ·intro hu;exact .inl hu
      ·rintro (hu|⟨hu,_⟩)
       ·exact hu
       ·cases hu)
    obtain rfl:b'=b:=by rw [i1] at c1;cases c1;rfl
    simp only [br,reduceAdd,reduceEqDiff,reduceIte,c2,c3,c4,qI,c5,oneOf];exact cw.2 ⟨_,s',rfl,c6,c7⟩
   ·simp only [br,reduceAdd,reduceEqDiff,reduceIte,fB xB,Bool.not_false]
    obtain ⟨f1,hG,f2,f3,s',f4,f5⟩:=wI fun u=>by
     constructor
     ·intro hu;exact .inl ⟨hu,fun e=>xB (e▸hu)⟩
     ·rintro (⟨hu,_⟩|⟨hu,_⟩)
      ·exact hu
      ·cases hu
    simp only [br,reduceAdd,reduceEqDiff,reduceIte,f1,f2,qI,f3,oneOf];exact cw.2 ⟨_,s',rfl,f4,f5⟩
 refine main.Ho (by simp [AV.bQ,AV.pure,dH,dU gT]) fun o h' ho=>?_;obtain ⟨v,s',rfl,ei,hf⟩:=cw.1 ho;have:=kf.cons hf (kf.cons (.scalar (I6 0) rfl) kf.nil);exact ⟨_,_,rfl,.tuple _ _ this.len this.rel,hK s' ei⟩
theorem Ig(hv:bY s=true)(hq:s.aQ.l[i]?=some q)(hr:s.aQ.l[j]?=some r)(hn:q.name=r.name):i=j:=by
 have CB:=pairwise_iff_getElem.1 (fA hv);obtain ⟨y1,y2⟩:=fR.1 hq;obtain ⟨y3,y4⟩:=fR.1 hr;rcases Nat.lt_trichotomy i j with h|h|h
 ·exact absurd (by rw [getElem_map,getElem_map,y2,y4];exact hn) (CB i j (by simpa using y1) (by simpa using y3) h)
 ·exact h
 ·exact absurd (by rw [getElem_map,getElem_map,y2,y4];exact hn.symm) (CB j i (by simpa using y3) (by simpa using y1) h)
theorem Gu(hv:bY s=true){k:Int}(hq:s.aQ.l[j]?=some q)(hs:ic nm k q=true):fO (ic nm k) s.aQ.l=(j:Int):=by
 rcases mP (ic nm k) s.aQ.l with ⟨_,h⟩|⟨i,v,h1,h2,h3⟩
 ·rw [find?_eq_none] at h;exact absurd hs (h q (iz hq))
 ·have wE:=find?_some h3;simp only [ic,and_eq_true,beq_iff_eq] at hs wE;rw [h1,Ig hv h2 hq (by rw [wE.1,hs.1])]
theorem xC(hc:c.ok)(hs:s.ok):Sem TP 10 [.agg (an c),.agg (ak s)] Heap.empty FK:=by
 refine F.nD ?_;rw [F.oL];simp only [cc (dm c),cc (cL s),cN,aV,Heap.aR];have g0:(Heap.alloc (Heap.alloc Heap.empty (.cells (an c))) (.cells (ak s))).get 0=sC (an c):=by simp [Heap.aD,aV]
 have g1:(Heap.alloc (Heap.alloc Heap.empty (.cells (an c))) (.cells (ak s))).get 1=sC (ak s):=by simp [Heap.aD,aV]
 have gn:(Heap.alloc (Heap.alloc Heap.empty (.cells (an c))) (.cells (ak s))).next=2:=rfl
 generalize (Heap.alloc (Heap.alloc Heap.empty (.cells (an c))) (.cells (ak s)))=H at g0 g1 gn ⊢;have lc:∀ hh,aX H hh->au (some 2) (.ptr 0 0) hh=some (.agg (an c)):=fun hh hx=>by rw [ai (cs:=an c) (by rw [hx.get _ (by omega)];exact g0),bJ (cs:=an c) (n:=2) rfl]
 have ls:∀ hh,aX H hh->au (some 2) (.ptr 1 0) hh=some (.agg (ak s)):=fun hh hx=>by rw [ai (cs:=ak s) (by rw [hx.get _ (by omega)];exact g1),bJ (cs:=ak s) (n:=2) rfl]
 simp only [Nat.zero_add,lc _ (aX.refl _),ls _ (aX.refl _),cN];refine ag (eu hc fun b=>?_);simp only [br,reduceAdd,reduceEqDiff,reduceIte]
 cases b with
 |false=>
  simp only [Bool.not_false,aA];refine ag (kJ ?_);rfl
 |true=>
 simp only [Bool.not_true,ax,ls _ (aX.refl _),cN,Gj];have g2:(Heap.alloc H (.cells (ak s))).get H.next=sC (ak s):=ay _ _
 have x2:aX H (Heap.alloc H (.cells (ak s))):=aX.alloc _ _;generalize (Heap.alloc H (.cells (ak s)))=H2 at g2 x2 ⊢;refine ag (aY hs g2 fun b=>?_);simp only [br,reduceAdd,reduceEqDiff,reduceIte]
 cases b with
 |false=>
  simp only [Bool.not_false,aA];refine ag (kJ ?_);rfl
 |true=>
 simp only [Bool.not_true,ax,lc _ x2,ls _ x2,cN];refine ag (A9 hc hs ?_);simp only [br,reduceAdd,reduceEqDiff,reduceIte,b9];by_cases he:ez c s=0
 case neg=>
  simp only [fB he,Bool.not_false,aA];refine ag (kJ ?_);rfl
 obtain ⟨hv,kO,hz,kV⟩:=zK he;obtain ⟨m,hm⟩:=isSome_iff_exists.1 (show (cE c).isSome=true from hv);have hf:=dW hv;obtain ⟨n,hn,n1,Cz,h8⟩:=nu kO;have xz:s.size.toNat=n:=by omega
 obtain ⟨Oo,_⟩:=lG kO;simp only [fS he,Bool.not_true,ax,lc _ x2,cN];refine ag (dr hc hv fun q=>?_);simp only [br,reduceAdd,reduceEqDiff,reduceIte]
 cases decide ((150:Int)<q) with
 |true=>
  simp only [aA];refine ag (kJ ?_);rfl
 |false=>
 simp only [ax,lc _ x2,ls _ x2,cN];refine ag (bL hc hs (fun hb=>absurd he hb) fun _ x hx=>?_);simp only [br,reduceAdd,reduceEqDiff,reduceIte,lc _ x2,ls _ x2];refine ag (Bg hc hs ?_);have H8:wq c s=valueOf (dB n s) n c:=by rw [wq,fS he,Bool.true_and,xz,yq he hn]
 simp only [br,reduceAdd,reduceEqDiff,reduceIte,b9,he,decide_true,Bool.not_true,lc _ x2,H8];refine ag (b7 hc hf fun z Bz=>?_);simp only [bU];have Ot:=rQ hf;rw [<- Bz] at Ot
 have SU:z.l.length<=20001:=by
  rw [Bz];have a:=jY (gO (eD c)) [];have b:=qw c.aU.l [];have h1:=hf.1;simp only [fh,lB,length_map,length_nil] at a b ⊢;have e:(gO (eD c)).length=(eD c).length+1:=by simp [gO]
  have e2:(eD c).length<=c.aU.l.length:=by rw [eD];omega
  omega
 generalize SV:valueOf (dB n s) n c=iR;obtain ⟨rows,wD⟩:∃ rows:bI×Int->List (bI×List Int),rows=fun y=>jK (dB n s) n c iR y.1 y.2.toNat (n ^ y.2.toNat):=⟨_,rfl⟩
 have Ou:x.l.map qC=z.l.flatMap rows:=by rw [hx,xz,oR,SV,Bz,wD]
 have hrl:∀ y ∈ z.l,(rows y).length<=4096:=fun y hy=>by
  rw [Bz] at hy;rw [wD];unfold jK;rw [length_map];refine Nat.le_trans (length_filter_le _ _) ?_;rw [length_range];have hfit:=List.all_eq_true.1 kV y hy;rw [jd] at hfit;split at hfit
  ·rename_i r hr;have SW:r.arity=y.2:=by simpa using hfit
   obtain ⟨_,k',q1,_,q3,_⟩:=(ij.1 kO).rel _ (List.mem_map_of_mem (mem_of_find?_eq_some hr));rw [xz] at q3;have MQ:r.arity=(k':Int):=q1;rw [show y.2.toNat=k' by omega];exact q3
  ·cases hfit
 have IW:x.l.length<=dx:=by
  have h5:=congrArg List.length Ou;rw [length_map] at h5
  have hl:∀ l:List (bI×Int),(∀ y ∈ l,(rows y).length<=4096)->(l.flatMap rows).length<=l.length*4096:=by
   intro l hl
   induction l with
   |nil=>simp
   |cons y l ih=>
    rw [flatMap_cons,length_append,length_cons,succ_mul];have:=hl y mem_cons_self;have:=ih fun q hq=>hl q (mem_cons_of_mem _ hq);omega
  have:=hl z.l hrl;unfold dx;omega
 have MP:∀ y ∈ fh c,y.2.toNat<=12:=fun y hy=>by
  obtain ⟨k,hk,MM⟩:=mU hm hf hy;omega
 have EE:=Bn MP hx
 have CB:∀ i y,z.l[i]?=some y->∀ y' ∈ z.l.drop (i+1),y'.1≠y.1:=by
  intro i y hy y' LF e;obtain ⟨j,hj⟩:=getElem?_of_mem LF;rw [getElem?_drop] at hj;have Ov:(z.l.map (·.1)).Nodup:=by rw [Bz];exact (qE c).imp fun {a b} h e=>by rw [e,kL] at h;cases h
  have a1:(z.l.map (·.1))[i]?=some y.1:=by rw [getElem?_map,hy];rfl
  have a2:(z.l.map (·.1))[i+1+j]?=some y.1:=by rw [getElem?_map,hj,<- e];rfl
  have:=(getElem?_inj (fR.1 a1).1 Ov).1 (a1.trans a2.symm);omega
 refine aI 0 z.l.length (zero_le _) (fun i e hh=>∃ at':Nat,at'=((z.l.take i).flatMap rows).length/\aX H hh /\
  e 2 = .ptr 0 0/\e 3 = .ptr 1 0/\e 5=cp mT 2 x/\e 7 = .bool iR/\e 9=I6 (at':Int)/\e 10=cp iX 2 z/\e 11=I6 (i:Int)) ⟨0,rfl,x2,rfl,rfl,rfl,rfl,rfl,rfl,rfl⟩ ?_ ?_
 ·rintro i e hh _ hi ⟨at',tH,oS,e2,e3,e5,e7,e9,iK,sP⟩ K' GY gG ua zP;obtain ⟨y,hy⟩:=JD hi;have Qo:y ∈ fh c:=by rw [<- Bz];exact iz hy
  obtain ⟨k,hk,MM⟩:=mU hm hf Qo;have hfit:=List.all_eq_true.1 kV y Qo
  obtain ⟨r,hr,SW⟩:∃ r,s.aQ.l.find? (cQ y.1)=some r/\r.arity=y.2:=by
   rw [jd] at hfit;split at hfit
   ·rename_i r hr;exact ⟨r,hr,by simpa using hfit⟩
   ·cases hfit
  have HU:r.arity=(k:Int):=by omega
  have Qp:r.name=y.1:=by have:=find?_some hr;simpa [cQ] using this
  obtain ⟨j,hj⟩:=getElem?_of_mem (mem_of_find?_eq_some hr);have mC:=(ij.1 kO).rel _ (List.mem_map_of_mem (mem_of_find?_eq_some hr));rw [xz] at mC;obtain ⟨_,k',q1,_,q3,q4⟩:=mC;have MQ:r.arity=(k':Int):=q1;obtain rfl:k'=k:=by omega
  have SX:fO (ic y.1 (k':Int)) s.aQ.l=(j:Int):=Gu kO hj (by unfold ic;rw [Qp,HU];simp);have lz:∀ hh,aX H hh->au none (.ptr 1 0) hh=some (I6 (n:Int)):=fun hh hx=>by rw [ai (cs:=ak s) (by rw [hx.get _ (by omega)];exact g1),<- hn];rfl
  rw [F.aO.aT];simp only [e3,iK,sP,br,reduceAdd,reduceEqDiff,reduceIte,bu hi,lz _ oS,bt z hi,Cu hy,A8 hy,hk];refine ag (aS n1 MM q3 fun all ha=>?_);simp only [bU];have hal:all.l.length=n ^ k':=by have:=congrArg List.length ha;rwa [length_map,nt] at this
  obtain ⟨B,hB⟩:∃ B,B=(z.l.drop (i+1)).flatMap rows:=⟨_,rfl⟩
  obtain ⟨A,hA⟩:∃ A,A=(z.l.take i).flatMap rows:=⟨_,rfl⟩
  have pG:rows y=jK (dB n s) n c iR y.1 k' (n ^ k'):=by rw [wD];show jK _ n c iR y.1 y.2.toNat (n ^ y.2.toNat)=_;rw [hk];rfl
  have Kh:x.l.map qC=A++(jK (dB n s) n c iR y.1 k' (n ^ k')++B):=by
   rw [Ou,<- pG,hA,hB,<- flatMap_cons,<- flatMap_append];congr 1;have hlt:=hi;rw [<- (fR.1 hy).2,getElem_cons_drop,take_append_drop]
  have SY:∀ f ∈ B,f.1≠y.1:=fun f hf=>by
   rw [hB,wD] at hf;obtain ⟨y',LF,e'⟩:=EG hf;rw [e'];exact CB i y hy y' LF
  refine aI 0 all.l.length (zero_le _) (fun q e hh=>∃ a:Nat,a=(A++jK (dB n s) n c iR y.1 k' q).length/\aX H hh /\
   e 2 = .ptr 0 0/\e 3 = .ptr 1 0/\e 5=cp mT 2 x/\e 7 = .bool iR/\e 9=I6 (a:Int)/\e 10=cp iX 2 z/\e 11=I6 (i:Int)/\e 12=zx all/\e 13=I6 (q:Int))
   ⟨at',by rw [tH,hA];simp [jK],oS,e2,e3,e5,e7,e9,iK,sP,rfl,rfl⟩ ?_ ?_
  ·clear tH oS e2 e3 e5 e7 e9 iK sP;rintro q e hh _ hq ⟨a,tH,oS,e2,e3,e5,e7,e9,iK,sP,EF,wG⟩ K2 A2 gY zQ Hz;obtain ⟨t,ht⟩:=JD hq;have GJ:q<n ^ k':=by omega
   have wF:t.l=jf n k' q:=by
    have h1:(lR n k')[q]?=some t.l:=(by rw [<- ha,getElem?_map,ht];rfl);rw [r7 n1 _ _ GJ] at h1;exact (Option.some.inj h1).symm
   obtain ⟨tb,Qq⟩:=zM n1 GJ;rw [<- wF] at tb Qq;have Gv:t.l.length=k':=by rw [wF,wA]
   have Qr:fO (ic y.1 (t.l.length:Int)) s.aQ.l=(j:Int):=by rw [Gv];exact SX
   rw [F.aO.ff];simp only [e2,e3,iK,sP,EF,wG,br,reduceAdd,reduceEqDiff,reduceIte,bu hq,lc _ oS,ls _ oS,bt z hi,A8 hy,bt all hq,fy ht];refine ag (yx hs kO Qr hj (by rw [Gv];exact HU) (by rw [Gv];unfold dx;omega) ?_);simp only [br,reduceAdd,reduceEqDiff,reduceIte,ls _ oS,A8 hy,fy ht];refine ag (EJ hs kO Qr hj (by rw [Gv];exact HU) (by rw [hn];exact tb) fun s' hp=>?_)
   have Ow:decide (t.l ∈ r.aP.l.map Sl.l)=(r.aP.l.map Sl.l).any fun u=>u==t.l:=by
    rw [Bool.eq_iff_iff,decide_eq_true_iff,List.any_eq_true];exact ⟨fun h=>⟨_,h,by simp⟩,fun ⟨u,h1,h2⟩=>by rw [<- eq_of_beq h2];exact h1⟩
   obtain ⟨v1,v2,v3,v4⟩:=Gr he hn hj HU Gv tb hp (by rw [Ow]);have TA:aX hh (Heap.alloc hh (.cells [I6 0,.aE])):=aX.alloc _ _;obtain ⟨H3,GC,p3,SZ,KC⟩:=eG (h:=hh) (zs:=[I6 0,.aE]) (cs:=ak s') (n:=2) rfl rfl (cL s');have x3:aX hh H3:=⟨by omega,fun b hb=>SZ b (by omega)⟩
   have l3:au (some 2) (.ptr hh.next 0) H3=some (.agg (ak s')):=by rw [ai p3,bJ (cs:=ak s') (n:=2) rfl]
   have Ox:=oS.trans x3;simp only [br,reduceAdd,reduceEqDiff,reduceIte,GC,lc _ Ox,l3];refine ag (Bg hc (lG v1).2 ?_);have hrun:wq c s'=valueOf (sS (dB n s) y.1 q) n c:=by rw [wq,fS v2,Bool.true_and,v3,Int.toNat_natCast,v4,Qp,Qq]
   have fl:∀ f,x.l[a]?=some f->a<x.l.length:=fun f hf=>(fR.1 hf).1;have mw:=yu (dB n s) n c iR y.1 k' q
   have Ki:x.l.map qC=(A++jK (dB n s) n c iR y.1 k' q)++((if (valueOf (sS (dB n s) y.1 q) n c != iR)=true then [(y.1,jf n k' q)] else [])++(sU (dB n s) n c iR y.1 k' (n ^ k') (q+1)++B)):=by
    rw [Kh,Bo _ _ _ _ _ _ _ q (Nat.le_of_lt GJ),CF _ _ _ _ _ _ _ _ GJ];simp only [append_assoc]
   have tI:=Gs (look:=dB n s) (c:=c) (iR:=iR) (nm:=y.1) n1 rfl GJ SY
   have C6:∀ f,x.l[a]?=some f->((f.1==y.1)&&(f.2.l==t.l))=(valueOf (sS (dB n s) y.1 q) n c != iR):=by
    intro f hf;have h1:(x.l.map qC)[a]?=some (qC f):=by rw [getElem?_map,hf];rfl
    cases EO:valueOf (sS (dB n s) y.1 q) n c != iR with
    |true=>
     rw [Ki,EO,if_pos rfl,singleton_append,tH,Bp] at h1;have h2:=Option.some.inj h1;have h3:f.1=y.1:=(congrArg Prod.fst h2).symm;have h4:f.2.l=jf n k' q:=(congrArg Prod.snd h2).symm;rw [h3,h4,wF];simp
    |false=>
     rw [Ki,EO,if_neg (by decide),nil_append,tH] at h1;have h5:=H9 (A:=A++jK (dB n s) n c iR y.1 k' q) tI;rw [eq_false_iff];intro hb;rw [and_eq_true] at hb;rw [h1] at h5;refine h5 (congrArg some ?_);show (f.1,f.2.l)=_;rw [eq_of_beq hb.1,eq_of_beq hb.2,wF]
   have Ih:x.l.length<=a->(valueOf (sS (dB n s) y.1 q) n c != iR)=false:=by
    intro hle
    cases EO:valueOf (sS (dB n s) y.1 q) n c != iR with
    |false=>rfl
    |true=>
     have h6:(x.l.map qC)[a]?=some (y.1,jf n k' q):=(by rw [Ki,EO,if_pos rfl,singleton_append,tH,Bp]);rw [getElem?_eq_none (by rw [length_map];exact hle)] at h6;cases h6
   have fin:∀ (E:Env) (l:Bool),l=(valueOf (sS (dB n s) y.1 q) n c != iR)->E 2 = .ptr 0 0->E 3 = .ptr 1 0->E 5=cp mT 2 x->E 7 = .bool iR->E 9=I6 (a:Int)->E 10=cp iX 2 z->E 11=I6 (i:Int) ->
     E 12=zx all->E 13=I6 (q:Int)->E 18 = .bool (valueOf (sS (dB n s) y.1 q) n c)->E 20 = .bool l->F.aO.J0 K2 (sM E 172 H3)=true:=by
    intro E l hl E2 E3 E5 E7 E9 Qs Qt Qu S0 S1 S2;have Ka:(!(valueOf (sS (dB n s) y.1 q) n c==iR))=(valueOf (sS (dB n s) y.1 q) n c != iR):=rfl;have Oh:(!(l==l))=false:=by cases l<;>rfl
    rw [F.aO.LM];simp only [S1,E7,S2,E9,S0,br,reduceAdd,reduceEqDiff,reduceIte,Ka,<- hl,Oh];have Mm:all.l.length<=dx:=by unfold dx;omega
    cases l with
    |true=>
     have Oy:a<x.l.length:=by
      rcases Nat.lt_or_ge a x.l.length with h|h
      ·exact h
      ·rw [Ih h] at hl;cases hl
     simp only [aA,aN Oy IW,aN hq Mm,cN];refine A2 _ _ ⟨a+1,?_,Ox,E2,E3,E5,E7,rfl,Qs,Qt,Qu,rfl⟩;rw [mw,<- hl,if_pos rfl,tH];simp;omega
    |false=>
     simp only [ax,aN hq Mm,cN];refine A2 _ _ ⟨a,?_,Ox,E2,E3,E5,E7,E9,Qs,Qt,Qu,rfl⟩;rw [mw,<- hl,if_neg (by decide),tH];simp
   simp only [br,reduceAdd,reduceEqDiff,reduceIte,b9,v2,decide_true,Bool.not_true,e5,e9,hrun];by_cases hlt:a<x.l.length
   ·obtain ⟨f,xK⟩:=JD hlt;have KD:=C6 f xK;have Oz:decide ((a:Int)<(x.l.length:Int))=true:=bu hlt;simp only [Oz,aA,bt x hlt,y7,Nat.add_zero,cN,Md xK,J8 xK,iK,sP,EF,wG,bt z hi,A8 hy,bt all hq,fy ht,q9,bC]
    cases jo:f.1==y.1 with
    |true=>
     rw [jo,Bool.true_and] at KD;simp only [aA];refine ag (cx (EE f (iz xK)) ?_);simp only [bU];refine fin _ (f.2.l==t.l) KD ?_ ?_ ?_ ?_ ?_ ?_ ?_ ?_ ?_ ?_ ?_
     ·exact e2
     ·exact e3
     ·exact e5
     ·exact e7
     ·exact e9
     ·exact iK
     ·exact sP
     ·exact EF
     ·exact wG
     ·rfl
     ·rfl
    |false=>
     rw [jo,Bool.false_and] at KD;simp only [ax];refine fin _ false KD ?_ ?_ ?_ ?_ ?_ ?_ ?_ ?_ ?_ ?_ ?_
     ·exact e2
     ·exact e3
     ·exact e5
     ·exact e7
     ·exact e9
     ·exact iK
     ·exact sP
     ·exact EF
     ·exact wG
     ·rfl
     ·rfl
   ·have Oz:decide ((a:Int)<(x.l.length:Int))=false:=fB (by omega);simp only [Oz,ax];refine fin _ false (Ih (by omega)).symm ?_ ?_ ?_ ?_ ?_ ?_ ?_ ?_ ?_ ?_ ?_
    ·exact e2
    ·exact e3
    ·exact e5
    ·exact e7
    ·exact e9
    ·exact iK
    ·exact sP
    ·exact EF
    ·exact wG
    ·rfl
    ·rfl
  ·clear tH oS e2 e3 e5 e7 e9 iK sP;rintro e hh ⟨a,tH,oS,e2,e3,e5,e7,e9,iK,sP,EF,wG⟩ K2 gY;rw [F.aO.ff];simp only [EF,wG,br,reduceAdd,reduceEqDiff,reduceIte,bf];rw [gY,F.aO.dL];simp only [br,reduceAdd,reduceEqDiff,reduceIte,sP,aN hi (show z.l.length<=dx by unfold dx;omega)];refine GY _ _ ⟨a,?_,oS,e2,e3,e5,e7,e9,iK,rfl⟩;rw [tH,hal,<- pG,hA,take_add_one,hy,flatMap_append];simp
 ·rintro e hh ⟨at',tH,oS,e2,e3,e5,e7,e9,iK,sP⟩ K' gG;rw [F.aO.aT];simp only [iK,sP,br,reduceAdd,reduceEqDiff,reduceIte,bf];rw [gG,F.aO.aF]
  have Ih:at'=x.l.length:=by
   rw [tH,yA (dR _),<- Ou,length_map]
  simp only [lV,reduceEqDiff,reduceIte,e5,e9,br,reduceAdd,reduceEqDiff,reduceIte,b9,Ih,decide_true];refine ag (kJ ?_);rfl
end
end Go.AM