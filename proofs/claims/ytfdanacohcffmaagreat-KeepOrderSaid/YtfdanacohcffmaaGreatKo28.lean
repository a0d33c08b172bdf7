/- Parts of the proof. Conditions: none. -/
import Derived.Test.YtfdanacohcffmaaGreatKo18
import Derived.Test.YtfdanacohcffmaaGreatKo20
import Derived.Test.YtfdanacohcffmaaGreatKo21
import Derived.Test.YtfdanacohcffmaaGreatKo26
import Derived.Test.YtfdanacohcffmaaGreatKo27
set_option linter.unusedSimpArgs false
set_option linter.unusedVariables false
namespace Go.AM
open List Nat Bool Option
open Go Go.Proofs
noncomputable section
variable {K:Out->Heap->Bool} {h:Heap} {L:List (List Int)} {x:Sl (Sl Int)} {k j:Nat} {s:cN} {is:Bool} {r:Rel} {v:AV}
theorem zN:∀ {a b:List Int},a.length=b.length->dw a b=false->a≠b->dw b a=true
 |[],[],_,_,h=>absurd rfl h
 |x :: a,y :: b,hl,h1,h2=>by
  rw [dw] at h1 ⊢;by_cases e:x=y
  ·subst e;rw [if_pos rfl] at h1 ⊢;exact zN (by simpa using hl) h1 (fun h=>h2 (by rw [h]))
  ·rw [if_neg e] at h1;rw [if_neg (Ne.symm e)];have:=of_decide_eq_false h1;exact fC (by omega)
 |[],_ :: _,hl,_,_=>by simp at hl
 |_ :: _,[],hl,_,_=>by simp at hl
theorem K9{l:List (List Int)}(hs:iX l){x:List Int}(h1:∀ y ∈ l.drop k,dw x y=true)(h2:∀ y ∈ l.take k,dw y x=true):iX (l.take k++x :: l.drop k):=by
 have gv:iX (l.take k++l.drop k):=by rw [take_append_drop];exact hs
 obtain ⟨p1,p2,p3⟩:=pairwise_append.1 gv;refine pairwise_append.2 ⟨p1,pairwise_cons.2 ⟨h1,p2⟩,fun a ha b hb=>?_⟩;rcases mem_cons.1 hb with rfl|hb
 ·exact h2 a ha
 ·exact p3 a ha b hb
theorem TL{α:Type}{l:List α}{x u:α}:u ∈ l.take k++x :: l.drop k↔u ∈ l\/u=x:=by
 have:u ∈ l↔u ∈ l.take k\/u ∈ l.drop k:=by rw [<- mem_append,take_append_drop]
 rw [mem_append,mem_cons,this];constructor
 ·rintro (h|h|h)
  ·exact .inl (.inl h)
  ·exact .inr h
  ·exact .inl (.inr h)
 ·rintro ((h|h)|h)
  ·exact .inl h
  ·exact .inr (.inr h)
  ·exact .inr (.inl h)
structure vu (s:cN) (j:Nat) (r:Rel) (t:List Int) (is:Bool) (s':cN):Prop where
 size:s'.size=s.size
 aF:∃ ts,iX ts/\(∀ u,u ∈ ts↔(u ∈ r.aO.l.map Sl.l/\u≠t)\/(is=true/\u=t))/\s'.aF.l.map bY=(s.aF.l.map bY).set j (r.name,r.arity,ts)
theorem yE{s':cN}{t:List Int}(hr:s.aF.l[j]?=some r)(hp:vu s j r t is s'):(s'.aF.l.map bY).map m4=(s.aF.l.map bY).map m4:=by
 obtain ⟨ts,h1,h2,h3⟩:=hp.aF;rw [h3,map_set];apply ext_getElem?;intro i;by_cases hi:j=i
 ·subst hi;have hl:j<s.aF.l.length:=(ki.1 hr).1;rw [getElem?_set_self (by simpa using hl)];simp only [getElem?_map,hr];rfl
 ·rw [getElem?_set_ne hi]
theorem FQ{s':cN}{t:List Int}(hv:de s=true)(hr:s.aF.l[j]?=some r)(hk:r.arity=(k:Int))(ht:t.length=k)(hb:jy s.size.toNat t=true)(hp:vu s j r t is s'):de s'=true:=by
 have hS:=fR.1 hv;have Ju:=yE hr hp;obtain ⟨ts,h1,h2,h3⟩:=hp.aF;have hz:=hp.size;rw [fR];have vr:∀ l:List Nl,l.map (·.1)=(l.map m4).map (·.1):=fun l=>by rw [List.map_map];rfl
 refine ⟨by rw [hz];exact hS.lo,by rw [hz];exact hS.hi,?_,fun d hd=>?_,?_⟩
 ·have:=congrArg List.length Ju;simp only [length_map] at this;have:=hS.mj;simp only [length_map] at this ⊢;omega
 ·rw [hz];rw [h3] at hd;rcases mem_or_eq_of_mem_set hd with hd|rfl
  ·exact hS.rel d hd
  ·obtain ⟨q0,k',q1,q2,q3,q4⟩:=hS.rel _ (List.mem_map_of_mem (iq hr));have q1':r.arity=(k':Int):=q1;obtain rfl:k'=k:=by omega
   refine ⟨q0,k',q1,q2,q3,fun u hu=>?_,h1⟩;rcases (h2 u).1 hu with ⟨a,_⟩|⟨_,a⟩
   ·exact q4.1 u a
   ·rw [a];exact ⟨ht,hb⟩
 ·rw [vr,Ju,<- vr];exact hS.names
theorem kW{x y:Sl Int}(hx:x.l.length<=cM)(Uw:x.l.length=y.l.length)(hK:∀ c:Int,(c<0↔dw x.l y.l=true)->(c=0↔x.l=y.l)->K (.ret (.int .i64 c)) h=true):Sem TP 55 [an encI 1 x,an encI 1 y] h K:=by
 refine F.jm ?_;rw [F.jE];simp only [aS,reduceAdd,reduceEqDiff,reduceIte];refine aE 0 x.l.length (zero_le _) (fun i e h'=>h'=h/\e 0=an encI 1 x/\e 1=an encI 1 y/\e 9=an encI 1 x/\e 10 = .int .i64 (x.l.length:Int)/\e 11 = .int .i64 (i:Int)/\dw x.l y.l=dw (x.l.drop i) (y.l.drop i)/\x.l.take i=y.l.take i) ⟨rfl,rfl,rfl,rfl,rfl,rfl,rfl,rfl⟩ ?_ ?_
 ·rintro i e h' _ hi ⟨rfl,e0,e1,e9,jF,oX,hl,ht⟩ K' hn gm hr hp;have Bv:i<y.l.length:=by omega
  have hv:x.l[i]?=some x.l[i]:=ew hi;have hw:y.l[i]?=some y.l[i]:=ew Bv;rw [wV hv hw] at hl;generalize x.l[i]=a at hv hl;generalize y.l[i]=b at hw hl;rw [F.bE.aU];simp only [e0,e1,e9,jF,oX,aS,reduceAdd,reduceEqDiff,reduceIte,bp hi,aV x hi,aV y Bv,iW hv,iW hw,eV (by omega:¬ (y.l.length:Int)<=(i:Int))];refine ai (Ar fun c c1 c2=>?_);simp only [aS,reduceAdd,reduceEqDiff,reduceIte,cP];by_cases rj:a=b
  ·rw [if_pos rj] at hl;simp only [fC (c1.2 rj),Bool.not_true,aK,aJ hi hx,aq];exact hn _ _ ⟨rfl,e0,e1,e9,jF,rfl,hl,by rw [take_add_one,take_add_one,ht,hv,hw,rj]⟩
  ·rw [if_neg rj] at hl;simp only [eV (fun h=>rj (c1.1 h)),Bool.not_false,aL];rw [hr,F.bE.bz];simp only [bP,reduceEqDiff,reduceIte];refine hK c ?_ ?_
   ·rw [hl,decide_eq_true_iff];exact c2
   ·exact ⟨fun h=>absurd (c1.1 h) rj,fun h=>absurd (Option.some.inj (hv.symm.trans ((congrArg (·[i]?) h).trans hw))) rj⟩
 ·rintro e h' ⟨rfl,e0,e1,e9,jF,oX,hl,ht⟩ K' gm;rw [F.bE.aU];simp only [jF,oX,aS,reduceAdd,reduceEqDiff,reduceIte,aX];rw [gm,F.bE.aG];simp only [e0,e1,aS,reduceAdd,reduceEqDiff,reduceIte,eV (by omega:¬ (x.l.length:Int)<(y.l.length:Int))];rw [drop_of_length_le (dN _)] at hl;rw [jW (dN _),jW (by omega)] at ht;exact hK 0 (by rw [hl];exact ⟨fun h=>absurd h (by omega),fun h=>by cases h⟩) ⟨fun _=>ht,fun _=>rfl⟩
theorem ig:∀ t:List Int,dw t t=false
 |[]=>rfl
 |a :: t=>by rw [dw,if_pos rfl];exact ig t
theorem Mt{a b:Nat}(h1:a+b<=4000000):aI .add (.int .i64 (a:Int)) (.int .i64 (b:Int))=some (.int .i64 ((a+b:Nat):Int))/\jj (.int .u64) (.int .i64 ((a+b:Nat):Int)) h=some (.int .u64 ((a+b:Nat):Int),h) /\
  aI .shr (.int .u64 ((a+b:Nat):Int)) (.int .u64 1)=some (.int .u64 (((a+b)/2:Nat):Int))/\jj (.int .i64) (.int .u64 (((a+b)/2:Nat):Int)) h=some (.int .i64 (((a+b)/2:Nat):Int),h):=by
 refine ⟨?_,?_,?_,?_⟩
 ·rw [je (by omega) (by omega)];rfl
 ·simp only [jj];rw [IntWalk.u64_in _ (by omega)]
 ·have:(((a+b:Nat):Int)).fdiv (2 ^ 1)=(((a+b)/2:Nat):Int):=by
   rw [Int.fdiv_eq_ediv_of_nonneg _ (by omega)];rfl
  simp only [aI,BM,if_true];rw [if_neg (by omega)];exact congrArg (fun z=>some (AV.int .u64 z)) this
 ·simp only [jj];rw [IntWalk.i64_in _ (by omega)]
theorem vw{t:Sl Int}(hl:x.l.length<=1000000)(hk:∀ u ∈ x.l,u.l.length=t.l.length)(Dt:t.l.length<=cM)(hs:iX (x.l.map Sl.l))
  (hK:∀ n:Int,K (.ret (.tuple [.int .i64 n,.bool (decide (t.l ∈ x.l.map Sl.l))])) h=true):Sem TP 54 [an cZ 1 x,an encI 1 t,.func 55 [] []] h K:=by
 have qp:∀ (a b:Nat) (u v:Sl Int),x.l[a]?=some u->x.l[b]?=some v->a<b->dw u.l v.l=true:=fun a b u v hu hv rj=>by
  have h1:=pairwise_iff_getElem.1 hs;obtain ⟨p1,q1⟩:=ki.1 hu;obtain ⟨p2,q2⟩:=ki.1 hv;have:=h1 a b (by simpa using p1) (by simpa using p2) rj
  rwa [getElem_map,getElem_map,q1,q2] at this
 refine F.eW ?_;rw [F.fh];simp only [aS,reduceAdd,reduceEqDiff,reduceIte]
 refine k7 (fun m e h'=>∃ i j:Nat,m=j-i/\i<=j/\j<=x.l.length/\h'=h/\(∀ a u,a<i->x.l[a]?=some u->dw u.l t.l=true)/\(∀ a u,j<=a->x.l[a]?=some u->dw u.l t.l=false)/\e 0=an cZ 1 x/\e 1=an encI 1 t/\e 2 = .func 55 [] []/\e 8 = .int .i64 (x.l.length:Int)/\e 9 = .int .i64 (i:Int)/\e 10 = .int .i64 (j:Int)) x.l.length
  ⟨0,x.l.length,rfl,zero_le _,dN _,rfl,fun a u ha=>absurd ha (by omega),fun a u ha hu=>absurd (ki.1 hu).1 (by omega),rfl,rfl,rfl,rfl,rfl,rfl⟩ ?_
 rintro m e h' ⟨i,j,rfl,hij,hj,rfl,DP,JG,e0,e1,e2,e8,e9,jF⟩;rw [F.bl.aU];by_cases hlt:i<j
 ·obtain ⟨o1,o2,o3,o4⟩:=Mt (a:=i) (b:=j) (by omega) (h:=h');have hmi:(i+j)/2<j:=by omega
  have him:i<=(i+j)/2:=by omega
  generalize (i+j)/2=q at o3 o4 hmi him;have hq:q<x.l.length:=by omega
  have hv:x.l[q]?=some x.l[q]:=ew hq;generalize x.l[q]=u at hv;have NT:=iq hv;simp only [e0,e1,e2,e9,jF,aS,reduceAdd,reduceEqDiff,reduceIte,fC (show (i:Int)<(j:Int) by omega),o1,o2,o3,o4,aV x hq,ij hv,fA,nil_append,append_nil];refine ai (kW (by rw [hk u NT];exact Dt) (hk u NT) fun c c1 c2=>?_);simp only [aS,reduceAdd,reduceEqDiff,reduceIte];by_cases hc:c<0
  ·have qH:=c1.1 hc;simp only [fC hc,aL,aJ hq (show x.l.length<=cM by unfold cM;omega),aq];refine cw.2 ⟨j-(q+1),by omega,rfl,rfl,q+1,j,rfl,by omega,hj,rfl,fun a w ha hw=>?_,JG,e0,e1,e2,e8,rfl,jF⟩;by_cases Wk:a=q
   ·subst Wk;rw [hv] at hw;cases hw;exact qH
   ·exact jV (qp a q w u hw hv (by omega)) qH
  ·have qH:dw u.l t.l=false:=by cases hh:dw u.l t.l with|false=>rfl|true=>exact absurd (c1.2 hh) hc
   simp only [eV hc,aK];refine cw.2 ⟨q-i,by omega,rfl,rfl,i,q,rfl,him,by omega,rfl,DP,fun a w ha hw=>?_,e0,e1,e2,e8,e9,rfl⟩;by_cases Wk:a=q
   ·subst Wk;rw [hv] at hw;cases hw;exact qH
   ·cases hh:dw w.l t.l with
    |false=>rfl
    |true=>rw [jV (qp q a u w hv hw (by omega)) hh] at qH;cases qH
 ·obtain rfl:i=j:=by omega
  simp only [e9,jF,aS,reduceAdd,reduceEqDiff,reduceIte,eV (show ¬ (i:Int)<(i:Int) by omega),oB];rw [F.bl.aG];simp only [bP,reduceEqDiff,reduceIte,e0,e1,e2,e8,e9,aS,reduceAdd,reduceEqDiff,reduceIte];by_cases hin:i<x.l.length
  ·have hv:x.l[i]?=some x.l[i]:=ew hin;generalize x.l[i]=u at hv;have NT:=iq hv;simp only [bp hin,aL,aV x hin,ij hv,aq,fA,nil_append,append_nil];refine ai (kW (by rw [hk u NT];exact Dt) (hk u NT) fun c c1 c2=>?_);simp only [aS,reduceAdd,reduceEqDiff,reduceIte,cP]
   have:decide (c=0)=decide (t.l ∈ x.l.map Sl.l):=by
    rw [decide_eq_decide,c2,mem_map];constructor
    ·intro he;exact ⟨u,NT,he⟩
    ·rintro ⟨w,hw,he⟩;obtain ⟨a,ha⟩:=getElem?_of_mem hw;by_cases h1:a<i
     ·have:=DP a w h1 ha;rw [he,ig] at this;cases this
     ·by_cases h2:a=i
      ·subst h2;rw [hv] at ha;cases ha;exact he
      ·have h3:=qp i a u w hv ha (by omega);rw [he,JG i u (dN _) hv] at h3;cases h3
   rw [this];exact hK _
  ·simp only [eV (show ¬ (i:Int)<(x.l.length:Int) by omega),aK]
   have:decide (t.l ∈ x.l.map Sl.l)=false:=by
    rw [decide_eq_false_iff_not,mem_map];rintro ⟨w,hw,he⟩;obtain ⟨a,ha⟩:=getElem?_of_mem hw;have:=DP a w (by have:=(ki.1 ha).1;omega) ha;rw [he,ig] at this;cases this
   rw [this] at hK;exact hK _
theorem FR(hs:s.ok)(hv:de s=true){nm:cc}{t:Sl Int}{q:Rel}(hj:jA (iP nm (t.l.length:Int)) s.aF.l=(j:Int))(hq:s.aF.l[j]?=some q)(QY:q.arity=(t.l.length:Int))(Dt:t.l.length<=cM)
  (hK:K (.ret (.tuple [.bool (decide (t.l ∈ q.aO.l.map Sl.l)),.int .i64 0])) h=true):Sem TP 21 [.agg (au s),.str nm,an encI 1 t] h K:=by
 refine Sem.data (r:=.tuple [.bool (decide (t.l ∈ q.aO.l.map Sl.l)),.int .i64 0]) ?_ (by simp [AV.cO,AV.pure,eO,cp j6]) hK;clear hK;refine F.vK ?_;rw [F.yb];simp only [c8 (cA s),aq,bU];have g0:(Heap.empty.alloc (.cells (au s))).get 0=some (.cells (au s)):=aB _ _;generalize (Heap.empty.alloc (.cells (au s)))=H at g0 ⊢;have l0:ah (some 2) (.ptr 0 0) H=some (.agg (au s)):=by rw [ak g0,cV (cs:=au s) (n:=2) rfl]
 have l1:ah none (.ptr 0 1) H=some (an aR 3 s.aF):=by rw [ak g0];rfl
 have ML:=(ki.1 hq).1;have uY:=(fR.1 hv).rel _ (List.mem_map_of_mem (iq hq));obtain ⟨_,k,hk1,GV,hkp,Ty⟩:=uY;have aek:q.arity=(k:Int):=hk1;have hkl:t.l.length=k:=by omega
 simp only [l0,aq];refine ai (dJ hs ?_);rw [hv];simp only [aS,reduceAdd,reduceEqDiff,reduceIte,Bool.not_true,aK,l0];refine ai (rG hs ?_);rw [hj];simp only [aS,reduceAdd,reduceEqDiff,reduceIte,eV (show ¬ (j:Int)<0 by omega),l1,aV s.aF ML,qF hq];refine ai (vw (by have:=(gi hv).1.G1 q (iq hq);omega) (fun u hu=>by rw [hkl];exact (Ty.1 _ (List.mem_map_of_mem hu)).1) Dt Ty.2 fun n=>?_);simp only [aS,reduceAdd,reduceEqDiff,reduceIte];exact gw rfl
def Jv(p:vt×List (Sl Int)):cc×Int×List (List Int):=(p.1.1,p.1.2.1,p.2.map Sl.l)
structure Deep (k:Nat) (h:Heap) (a:AV) (l:List (vt×List (Sl Int))):Prop where
 own:Own gZ 3 k h a (l.map (·.1))
 row:∀ p ∈ l,Own cZ 1 k h p.1.2.2.1 p.2
 none:∀ p ∈ l,p.2 = []->p.1.2.2.1 = .ay
 sep:∀ p ∈ l,∀ b,cz p.1.2.2.1=some b->cz a≠some b
 dis:l.Pairwise fun p q=>∀ b,cz p.1.2.2.1=some b->cz q.1.2.2.1≠some b
theorem Deep.nil{k:Nat}{h:Heap}:Deep k h .ay []:=⟨.nil,by simp,by simp,by simp,.nil⟩
section
variable {k:Nat} {h h':Heap} {a:AV} {l:List (vt×List (Sl Int))}
theorem Deep.ext(o:Deep k h a l)(hx:bC h h'):Deep k h' a l:=⟨o.own.ext hx,fun p hp=>(o.row p hp).ext hx,o.none,o.sep,o.dis⟩
theorem Deep.low(o:Deep k h a l){d:Nat}(hd:d<k)(x:jX):Deep k (h.set d x) a l:=⟨o.own.kF hd x,fun p hp=>(o.row p hp).kF hd x,o.none,o.sep,o.dis⟩
theorem Deep.CY(o:Deep k h a l){j:Nat}(hj:j<=k):Deep j h a l:=⟨o.own.CY hj,fun p hp=>(o.row p hp).CY hj,o.none,o.sep,o.dis⟩
theorem Deep.push{m:Nat}(o:Deep k h a l)(hk:k<=h.next)(hroom:(l.length+1)*48<=cJ)(v:vt)(ts:List (Sl Int))(hm:k<=m)(hlt:∀ p ∈ l,∀ b,cz p.1.2.2.1=some b->b<m)
  (ov:Own cZ 1 m h v.2.2.1 ts) (hvn:ts = []->v.2.2.1 = .ay) (W5:∀ b,cz v.2.2.1=some b->cz a≠some b) :
  ∃ a' h',cj 3 48 a (.slice h.next 0 1 3) (h.alloc (.cells (gZ v)))=some (a',h')/\Deep k h' a' (l++[(v,ts)])/\(∀ c,c<h.next->cz a≠some c->h'.get c=h.get c)/\h.next<=h'.next/\(∀ h0,bC h0 h->h0.next<=k->bC h0 h')/\∀ c,cz a'=some c->h.next<=c:=by
 obtain ⟨a',h',e1,o1,f1,n1,x1,b1⟩:=o.own.push lF uL hk (bytes:=48) (by simpa using hroom) v;refine ⟨a',h',e1,⟨by rw [map_append];exact o1,fun p hp=>?_,fun p hp=>?_,fun p hp b hb=>?_,?_⟩,f1,n1,x1,b1⟩
 ·rcases mem_append.1 hp with hp|hp
  ·exact (o.row p hp).agree (fun b hb=>f1 b ((o.row p hp).lt hb) (o.sep p hp b hb)) n1
  ·rw [mem_singleton] at hp;subst hp;exact (ov.agree (fun b hb=>f1 b (ov.lt hb) (W5 b hb)) n1).CY hm
 ·rcases mem_append.1 hp with hp|hp
  ·exact o.none p hp
  ·rw [mem_singleton] at hp;subst hp;exact hvn
 ·intro hc;have:=b1 b hc;rcases mem_append.1 hp with hp|hp
  ·have:=(o.row p hp).lt hb;omega
  ·rw [mem_singleton] at hp;subst hp;have:=ov.lt hb;omega
 ·refine pairwise_append.2 ⟨o.dis,pairwise_singleton _ _,fun p hp q hq b hb hc=>?_⟩;rw [mem_singleton] at hq;subst hq;have:=hlt p hp b hb;have:=ov.ge hc;omega
end
set_option maxHeartbeats 2000000 in
theorem Az(hs:s.small)(hK:∀ a h' l,bC h h'->Deep h.next h' a l->l.map Jv=s.aF.l.map bY->K (.ret (.agg [.int .i64 s.size,a])) h'=true):Sem TP 46 [.agg (au s)] h K:=by
 have hm:cJ=140737488355328:=rfl;have hbig:=hs.ok';refine F.ta ?_;rw [F.vL];simp only [c8 (cA s),aq,Heap.aM];have g0:(Heap.alloc (Heap.alloc h (.cells (au s))) (.cells [.int .i64 0,.ay])).get h.next=some (.cells (au s)):=by rw [Heap.aW,Heap.aM,if_neg (by omega)];exact aB _ _
 have g1:(Heap.alloc (Heap.alloc h (.cells (au s))) (.cells [.int .i64 0,.ay])).get (h.next+1)=some (.cells [.int .i64 0,.ay]):=aB _ _;have gn:(Heap.alloc (Heap.alloc h (.cells (au s))) (.cells [.int .i64 0,.ay])).next=h.next+2:=rfl
 have gx:bC h (Heap.alloc (Heap.alloc h (.cells (au s))) (.cells [.int .i64 0,.ay])):=(bC.alloc _ _).trans (bC.alloc _ _);generalize (Heap.alloc (Heap.alloc h (.cells (au s))) (.cells [.int .i64 0,.ay]))=H1 at g0 g1 gn gx ⊢;have lz:ah none (.ptr h.next 0) H1=some (.int .i64 s.size):=by rw [ak g0];rfl
 have ha:iA [.int .i64 0,.ay] [(0,1)] [.int .i64 s.size]=some (.agg [.int .i64 s.size,.ay]):=rfl;obtain ⟨H2,qJ,p2,po,pn⟩:=cF (h:=H1) (zs:=[.int .i64 0,.ay]) (cs:=[.int .i64 s.size,.ay]) (n:=2) rfl rfl rfl;rw [gn] at p2 po pn qJ;have p0:H2.get h.next=some (.cells (au s)):=by rw [po _ (by omega)];exact g0
 have p1:H2.get (h.next+1)=some (.cells [.int .i64 0,.ay]):=by rw [po _ (by omega)];exact g1
 have px:bC h H2:=⟨by omega,fun b hb=>by rw [po _ (by omega)];exact gx.get b hb⟩
 have lr:ah none (.ptr h.next 1) H2=some (an aR 3 s.aF):=by rw [ak p0];rfl
 simp only [aS,reduceAdd,reduceEqDiff,reduceIte,lz,ha,gn,qJ,lr]
 refine aE 0 s.aF.l.length (zero_le _) (fun i e h'=>∃ a l,h'.get (h.next+1)=some (.cells [.int .i64 0,.ay])/\h'.get (h.next+2)=some (.cells [.int .i64 s.size,a])/\Deep (h.next+3) h' a l/\l.map Jv=(s.aF.l.take i).map bY/\bC h h'/\h.next+3<=h'.next /\
  e 2 = .ptr (h.next+1) 0/\e 3 = .ptr (h.next+2) 0/\e 13=an aR 3 s.aF/\e 14 = .int .i64 (s.aF.l.length:Int)/\e 15 = .int .i64 (i:Int)) ⟨_,[],p1,p2,.nil,rfl,px,by omega,rfl,rfl,rfl,rfl,rfl⟩ ?_ ?_
 ·rintro i e h' _ hi ⟨a,l,q1,q2,o,hl,qx,qn,e2,e3,pV,oK,nQ⟩ K' hn gm hr hp;have hv:s.aF.l[i]?=some s.aF.l[i]:=ew hi;generalize s.aF.l[i]=r at hv;have nR:=iq hv;have VU:l.length=i:=by have:=congrArg List.length hl;rw [length_map,length_map,length_take,Nat.min_eq_left (by omega)] at this;exact this
  obtain ⟨H3,LL,p3,Qd,Tr⟩:=cF (h:=h') (zs:=[.str [],.int .i64 0,.ay]) (cs:=aR r) (n:=3) rfl rfl (fP r);have xh:iA [.str [],.int .i64 0,.ay] [(0,1),(1,1)] [.str r.name,.int .i64 r.arity]=some (.agg [.str r.name,.int .i64 r.arity,.ay]):=rfl;have l0:ah none (.ptr h'.next 0) H3=some (.str r.name):=by rw [ak p3];rfl
  have l1:ah none (.ptr h'.next 1) H3=some (.int .i64 r.arity):=by rw [ak p3];rfl
  obtain ⟨H4,QU,p4,Ny,W8⟩:=cF (h:=H3) (zs:=[.str [],.int .i64 0,.ay]) (cs:=[.str r.name,.int .i64 r.arity,.ay]) (n:=3) rfl rfl rfl;rw [Tr] at QU p4 Ny W8;have x4:bC h' H4:=⟨by omega,fun b hb=>by rw [Ny b (by omega),Qd b (by omega)]⟩
  have l2:ah none (.ptr h'.next 2) H4=some (an cZ 1 r.aO):=by rw [ak (show H4.get h'.next=some (.cells (aR r)) by rw [Ny _ (by omega)];exact p3)];rfl
  have Dt:=hs.G1 r nR;have V3:r.aO.l.length<=cM:=by unfold cM;omega
  rw [F.cI.aU];simp only [pV,oK,nQ,aS,reduceAdd,reduceEqDiff,reduceIte,bp hi,aV s.aF hi,dx dU hv,LL];simp only [aS,reduceAdd,reduceEqDiff,reduceIte,l0,l1,xh,Tr,QU,l2]
  refine aE 0 r.aO.l.length (zero_le _) (fun j e h2=>∃ tv ts,h2.get (h'.next+1)=some (.cells [.str r.name,.int .i64 r.arity,tv])/\Own cZ 1 (h'.next+2) h2 tv ts/\(ts = []->tv = .ay)/\ts.map Sl.l=(r.aO.l.take j).map Sl.l/\bC h' h2/\h'.next+2<=h2.next /\
   e 2 = .ptr (h.next+1) 0/\e 3 = .ptr (h.next+2) 0/\e 13=an aR 3 s.aF/\e 14 = .int .i64 (s.aF.l.length:Int)/\e 15 = .int .i64 (i:Int)/\e 6 = .ptr (h'.next+1) 0/\e 25=an cZ 1 r.aO/\e 26 = .int .i64 (r.aO.l.length:Int)/\e 27 = .int .i64 (j:Int))
   ⟨_,[],p4,.nil,fun _=>rfl,rfl,x4,by omega,e2,e3,pV,oK,nQ,rfl,rfl,rfl,rfl⟩ ?_ ?_
  ·rintro j e h2 _ hj ⟨tv,ts,q6,ot,htn,Jd,x2,Qe,e2,e3,pV,oK,nQ,e6,KQ,BB,BC⟩ K2 uJ fY qi DT;have G4:r.aO.l[j]?=some r.aO.l[j]:=ew hj;generalize r.aO.l[j]=t at G4;have aaL:ts.length=j:=by have:=congrArg List.length Jd;rw [length_map,length_map,length_take,Nat.min_eq_left (by omega)] at this;exact this
   have lt:ah none (.ptr (h'.next+1) 2) h2=some tv:=by rw [ak q6];rfl
   rw [F.cI.dm];simp only [e6,KQ,BB,BC,aS,reduceAdd,reduceEqDiff,reduceIte,bp hj,aV r.aO hj,ij G4,lt];refine ai (nH (by have:=hs.W7 r nR t (iq G4);omega) fun y hy=>?_);obtain ⟨a5,h5,c5,o5,f5,n5,w5,b5⟩:=ot.push qw Du Qe (bytes:=24) (by rw [hm];omega) y;have hne:cz tv≠some (h'.next+1):=fun hb=>by have:=ot.ge hb;omega
   have s6:h5.get (h'.next+1)=some (.cells [.str r.name,.int .i64 r.arity,tv]):=by rw [f5 _ (by omega) hne];exact q6
   have c6:=o5.k9
   have st:aZ 1 (.ptr (h'.next+1) 2) a5 h5=some (h5.set (h'.next+1) (.cells [.str r.name,.int .i64 r.arity,a5])):=by
    rw [cB (n:=1) s6 c6.2.1 c6.1 (by simp),c6.2.2];rfl
   simp only [aS,reduceAdd,reduceEqDiff,reduceIte,lt,AV.beq_refl,Bool.and_self,if_true,Mo,c5,e6,BC,st,aJ hj V3];refine uJ _ _ ⟨a5,ts++[y],by rw [Heap.aN,if_pos rfl],o5.kF (by omega) _,fun h=>absurd (congrArg List.length h) (by simp),?_,(w5 h' x2 (by omega)).set (by omega) _,by rw [Heap.br];omega,e2,e3,pV,oK,nQ,e6,KQ,BB,rfl⟩;rw [map_append,Jd,take_add_one,G4,map_append];simp [hy]
  ·rintro e h2 ⟨tv,ts,q6,ot,htn,Jd,x2,Qe,e2,e3,pV,oK,nQ,e6,KQ,BB,BC⟩ K2 fY;rw [jW (dN _)] at Jd;have o2:=o.ext x2;obtain ⟨BD,JL⟩:=mT ot;have lq:ah (some 3) (.ptr (h'.next+1) 0) h2=some (.agg (gZ (r.name,r.arity,⟨tv,BD,JL⟩))):=by rw [ak q6];rfl
   have lo:ah none (.ptr (h.next+2) 1) h2=some a:=by rw [ak (show h2.get (h.next+2)=some (.cells [.int .i64 s.size,a]) by rw [x2.get _ (by omega)];exact q2)];rfl
   obtain ⟨a5,h5,c5,o5,f5,n5,w5,b5⟩:=o2.push (m:=h'.next+2) (by omega) (by have:=hs.aF;rw [hm];omega) (r.name,r.arity,⟨tv,BD,JL⟩) ts (by omega)
    (fun p hp b hb=>by have:=(o.row p hp).lt hb;omega) ot htn (fun b hb hc=>by have:=o.own.lt hc;have:=ot.ge hb;omega)
   have hne:cz a≠some (h.next+2):=fun hb=>by have:=o.own.ge hb;omega
   have V4:cz a≠some (h.next+1):=fun hb=>by have:=o.own.ge hb;omega
   have s2:h5.get (h.next+2)=some (.cells [.int .i64 s.size,a]):=by rw [f5 _ (by omega) hne,x2.get _ (by omega)];exact q2
   have s1:h5.get (h.next+1)=some (.cells [.int .i64 0,.ay]):=by rw [f5 _ (by omega) V4,x2.get _ (by omega)];exact q1
   have c6:=o5.own.k9
   have st:aZ 1 (.ptr (h.next+2) 1) a5 h5=some (h5.set (h.next+2) (.cells [.int .i64 s.size,a5])):=by
    rw [cB (n:=1) s2 c6.2.1 c6.1 (by simp),c6.2.2];rfl
   rw [F.cI.dm];simp only [BB,BC,aS,reduceAdd,reduceEqDiff,reduceIte,aX];rw [fY,F.cI.cx];simp only [aS,reduceAdd,reduceEqDiff,reduceIte,e3,e6,nQ,lo,lq,KO,c5,st,aJ hi hbig];refine hn _ _ ⟨a5,_,?_,?_,o5.low (by omega) _,?_,(w5 h (qx.trans x2) (by omega)).set (by omega) _,by rw [Heap.br];omega,e2,e3,pV,oK,rfl⟩
   ·rw [Heap.aN,if_neg (by omega)];exact s1
   ·rw [Heap.aN,if_pos rfl]
   ·rw [map_append,hl,take_add_one,hv,map_append];simp [bY,Jv,Jd]
 ·rintro e h' ⟨a,l,q1,q2,o,hl,qx,qn,e2,e3,pV,oK,nQ⟩ K' gm;rw [jW (dN _)] at hl;have lo:ah (some 2) (.ptr (h.next+2) 0) h'=some (.agg [.int .i64 s.size,a]):=by rw [ak q2];rfl
  have c:=o.own.k9
  have Be:bw [.int .i64 s.size,a]=true:=by
   have:=c.1;rw [c.2.2] at this;simp only [bw,Bool.and_true] at this ⊢;rw [this];rfl
  have st:aZ 2 (.ptr (h.next+1) 0) (.agg [.int .i64 s.size,a]) h'=some (h'.set (h.next+1) (.cells [.int .i64 s.size,a])):=by
   rw [cB (n:=2) (v:=.agg [.int .i64 s.size,a]) q1 rfl Be (by simp)];rfl
  have P9:ah (some 2) (.ptr (h.next+1) 0) (h'.set (h.next+1) (.cells [.int .i64 s.size,a]))=some (.agg [.int .i64 s.size,a]):=by rw [ak (cs:=[.int .i64 s.size,a]) (by rw [Heap.aN,if_pos rfl])];rfl
  rw [F.cI.aU];simp only [oK,nQ,aS,reduceAdd,reduceEqDiff,reduceIte,aX];rw [gm,F.cI.aG];simp only [bP,reduceEqDiff,reduceIte,e2,e3,lo,st,aq,FH,P9,oneOf];exact hK a _ l (qx.set (by omega) _) ((o.low (by omega) _).CY (by omega)) hl
theorem rT{t:Sl Int}(hl:x.l.length<=1000000)(hk:∀ u ∈ x.l,u.l.length=t.l.length)(Dt:t.l.length<=cM)(hs:iX (x.l.map Sl.l))
  (hK:∀ n:Nat,n<=x.l.length->(∀ a u,a<n->x.l[a]?=some u->dw u.l t.l=true)->(∀ a u,n<=a->x.l[a]?=some u->dw u.l t.l=false)->K (.ret (.tuple [.int .i64 (n:Int),.bool (decide (t.l ∈ x.l.map Sl.l))])) h=true):Sem TP 54 [an cZ 1 x,an encI 1 t,.func 55 [] []] h K:=by
 have qp:∀ (a b:Nat) (u v:Sl Int),x.l[a]?=some u->x.l[b]?=some v->a<b->dw u.l v.l=true:=fun a b u v hu hv rj=>by
  have h1:=pairwise_iff_getElem.1 hs;obtain ⟨p1,q1⟩:=ki.1 hu;obtain ⟨p2,q2⟩:=ki.1 hv;have:=h1 a b (by simpa using p1) (by simpa using p2) rj
  rwa [getElem_map,getElem_map,q1,q2] at this
 refine F.eW ?_;rw [F.fh];simp only [aS,reduceAdd,reduceEqDiff,reduceIte]
 refine k7 (fun m e h'=>∃ i j:Nat,m=j-i/\i<=j/\j<=x.l.length/\h'=h/\(∀ a u,a<i->x.l[a]?=some u->dw u.l t.l=true)/\(∀ a u,j<=a->x.l[a]?=some u->dw u.l t.l=false)/\e 0=an cZ 1 x/\e 1=an encI 1 t/\e 2 = .func 55 [] []/\e 8 = .int .i64 (x.l.length:Int)/\e 9 = .int .i64 (i:Int)/\e 10 = .int .i64 (j:Int)) x.l.length
  ⟨0,x.l.length,rfl,zero_le _,dN _,rfl,fun a u ha=>absurd ha (by omega),fun a u ha hu=>absurd (ki.1 hu).1 (by omega),rfl,rfl,rfl,rfl,rfl,rfl⟩ ?_
 rintro m e h' ⟨i,j,rfl,hij,hj,rfl,DP,JG,e0,e1,e2,e8,e9,jF⟩;rw [F.bl.aU];by_cases hlt:i<j
 ·obtain ⟨o1,o2,o3,o4⟩:=Mt (a:=i) (b:=j) (by omega) (h:=h');have hmi:(i+j)/2<j:=by omega
  have him:i<=(i+j)/2:=by omega
  generalize (i+j)/2=q at o3 o4 hmi him;have hq:q<x.l.length:=by omega
  have hv:x.l[q]?=some x.l[q]:=ew hq;generalize x.l[q]=u at hv;have NT:=iq hv;simp only [e0,e1,e2,e9,jF,aS,reduceAdd,reduceEqDiff,reduceIte,fC (show (i:Int)<(j:Int) by omega),o1,o2,o3,o4,aV x hq,ij hv,fA,nil_append,append_nil];refine ai (kW (by rw [hk u NT];exact Dt) (hk u NT) fun c c1 c2=>?_);simp only [aS,reduceAdd,reduceEqDiff,reduceIte];by_cases hc:c<0
  ·have qH:=c1.1 hc;simp only [fC hc,aL,aJ hq (show x.l.length<=cM by unfold cM;omega),aq];refine cw.2 ⟨j-(q+1),by omega,rfl,rfl,q+1,j,rfl,by omega,hj,rfl,fun a w ha hw=>?_,JG,e0,e1,e2,e8,rfl,jF⟩;by_cases Wk:a=q
   ·subst Wk;rw [hv] at hw;cases hw;exact qH
   ·exact jV (qp a q w u hw hv (by omega)) qH
  ·have qH:dw u.l t.l=false:=by cases hh:dw u.l t.l with|false=>rfl|true=>exact absurd (c1.2 hh) hc
   simp only [eV hc,aK];refine cw.2 ⟨q-i,by omega,rfl,rfl,i,q,rfl,him,by omega,rfl,DP,fun a w ha hw=>?_,e0,e1,e2,e8,e9,rfl⟩;by_cases Wk:a=q
   ·subst Wk;rw [hv] at hw;cases hw;exact qH
   ·cases hh:dw w.l t.l with
    |false=>rfl
    |true=>rw [jV (qp q a u w hv hw (by omega)) hh] at qH;cases qH
 ·obtain rfl:i=j:=by omega
  simp only [e9,jF,aS,reduceAdd,reduceEqDiff,reduceIte,eV (show ¬ (i:Int)<(i:Int) by omega),oB];rw [F.bl.aG];simp only [bP,reduceEqDiff,reduceIte,e0,e1,e2,e8,e9,aS,reduceAdd,reduceEqDiff,reduceIte];by_cases hin:i<x.l.length
  ·have hv:x.l[i]?=some x.l[i]:=ew hin;generalize x.l[i]=u at hv;have NT:=iq hv;simp only [bp hin,aL,aV x hin,ij hv,aq,fA,nil_append,append_nil];refine ai (kW (by rw [hk u NT];exact Dt) (hk u NT) fun c c1 c2=>?_);simp only [aS,reduceAdd,reduceEqDiff,reduceIte,cP]
   have:decide (c=0)=decide (t.l ∈ x.l.map Sl.l):=by
    rw [decide_eq_decide,c2,mem_map];constructor
    ·intro he;exact ⟨u,NT,he⟩
    ·rintro ⟨w,hw,he⟩;obtain ⟨a,ha⟩:=getElem?_of_mem hw;by_cases h1:a<i
     ·have:=DP a w h1 ha;rw [he,ig] at this;cases this
     ·by_cases h2:a=i
      ·subst h2;rw [hv] at ha;cases ha;exact he
      ·have h3:=qp i a u w hv ha (by omega);rw [he,JG i u (dN _) hv] at h3;cases h3
   rw [this];exact hK i hj DP JG
  ·simp only [eV (show ¬ (i:Int)<(x.l.length:Int) by omega),aK]
   have:decide (t.l ∈ x.l.map Sl.l)=false:=by
    rw [decide_eq_false_iff_not,mem_map];rintro ⟨w,hw,he⟩;obtain ⟨a,ha⟩:=getElem?_of_mem hw;have:=DP a w (by have:=(ki.1 ha).1;omega) ha;rw [he,ig] at this;cases this
   rw [this] at hK;exact hK i hj DP JG
structure nJ where
 kind:Int
 name:cc
 t:Sl Int
 to:Bool
def fL(a:nJ):List AV:=[.int .i64 a.kind,.str a.name,an AM.encI 1 a.t,.bool a.to]
def nJ.ok(a:nJ):Prop:=a.name.length<=cM/\a.t.l.length<=cM
theorem nW(a:nJ):(fL a).length=4:=rfl
def ael(l:List nJ):Prop:=l.length<=25/\∀ a ∈ l,a.name.length<=1000/\a.t.l.length<=60
theorem fJ{x:Sl nJ}(hx:x.l.length<=cM){h:Heap}{K:Out->Heap->Bool}(hK:∀ b:Bool,(b=true->ael x.l)->K (.ret (.bool b)) h=true):Sem TP 11 [an fL 4 x] h K:=by
 refine F.Ez ?_;rw [F.GH];refine aE 0 (min x.l.length 26) (zero_le _) (fun i e h'=>h'=h/\e 0=an fL 4 x/\e 2 = .bool false/\e 3 = .int .i64 (i:Int)/\∀ a ∈ x.l.take i,a.name.length<=1000/\a.t.l.length<=60) ⟨rfl,rfl,rfl,rfl,by simp⟩ ?_ ?_
 ·rintro i e h' _ hi ⟨rfl,e0,e2,e3,hs⟩ K' hn gm hr hp;have hil:i<x.l.length:=by omega
  have hv:x.l[i]?=some x.l[i]:=ew hil;generalize x.l[i]=a at hv;have l1:ah none (.dQ (x.l.flatMap fL) (i*4+1)) h'=some (.str a.name):=fH nW hv (by omega);have l2:ah none (.dQ (x.l.flatMap fL) (i*4+2)) h'=some (an encI 1 a.t):=fH nW hv (by omega);rw [F.fJ.aU];simp only [e0,e3,aS,reduceAdd,reduceEqDiff,reduceIte,bp hil,fC (by omega:(i:Int)<26),aV x hil,l1];by_cases h1:(1000:Int)<(a.name.length:Int)
  ·simp only [fC h1,aL];rw [hr,F.fJ.bz];simp only [aS,reduceAdd,reduceEqDiff,reduceIte,e2];exact hK false (fun h=>by cases h)
  ·simp only [eV h1,aS,reduceAdd,reduceEqDiff,reduceIte,e0,e3,aV x hil,l2];by_cases h2:(60:Int)<(a.t.l.length:Int)
   ·simp only [fC h2,aL];rw [hr,F.fJ.bz];simp only [aS,reduceAdd,reduceEqDiff,reduceIte,e2];exact hK false (fun h=>by cases h)
   ·simp only [eV h2,aS,reduceAdd,reduceEqDiff,reduceIte,e3,aJ hil hx];refine hn _ _ ⟨rfl,e0,e2,rfl,fun b hb=>?_⟩;rw [take_add_one,hv] at hb;rcases mem_append.1 hb with hb|hb
    ·exact hs b hb
    ·simp only [toList_some,mem_singleton] at hb;subst hb;omega
 ·rintro e h' ⟨rfl,e0,e2,e3,hs⟩ K' gm;rw [F.fJ.aU]
  have fin:∀ E:Env,E 0=an fL 4 x->F.fJ.cS K (.exit 0) ⟨E,33,[],h'⟩=true:=fun E hE=>by
   rw [F.fJ.aG];simp only [hE,aS,reduceAdd,reduceEqDiff,reduceIte];refine hK _ fun hb=>?_;have hb:=of_decide_eq_true hb;have hl:x.l.length<=25:=by omega
   refine ⟨hl,fun a ha=>hs a ?_⟩
   rwa [jW (by omega)]
  by_cases hl:x.l.length<=26
  ·have e3':e 3 = .int .i64 (x.l.length:Int):=by rw [e3,Nat.min_eq_left hl]
   simp only [e0,e3',aS,reduceAdd,reduceEqDiff,reduceIte,aX];rw [gm];exact fin _ (by simp [bP,e0])
  ·have e3':e 3 = .int .i64 26:=by rw [e3,Nat.min_eq_right (by omega)];rfl
   simp only [e0,e3',aS,reduceAdd,reduceEqDiff,reduceIte,fC (by omega:(26:Int)<(x.l.length:Int)),Int.lt_irrefl,decide_false];rw [gm];exact fin _ (by simp [bP,e0])
theorem BH(ts:List (Sl Int)):ts.flatMap cZ=ts.map fun t=>an encI 1 t:=by
 induction ts with
 |nil=>rfl
 |cons t ts ih=>rw [flatMap_cons,ih];rfl
theorem Jw(ts:List (Sl Int)):bw (ts.flatMap cZ)=true:=by
 induction ts with
 |nil=>rfl
 |cons t ts ih=>rw [flatMap_cons];cases t<;>exact ih
theorem Lc{ts:List (Sl Int)}(o:Own cZ 1 k h v ts)(hn:ts = []->v = .ay)(hlen:ts.length<=1000000){vb:Nat}{y:Sl Int}(UJ:h.get vb=some (.cells (cZ y)))(hne:cz v≠some vb)(Vu:k<=h.next){i:Nat}(hi:i<=ts.length)
  (hK:∀ v' h',Own cZ 1 k h' v' (ts.take i++y :: ts.drop i)->(∀ b,b<h.next->cz v≠some b->h'.get b=h.get b)->h.next<=h'.next->cz v'=some h.next->K (.ret v') h'=true):Sem TP 56 [v,.int .i64 (i:Int),.slice vb 0 1 1] h K:=by
 have jI:(an encI 1 y).one=true:=by cases y<;>rfl
 refine iJ.Uk qs (f:=56) rfl ?_;have hci:((i:Nat):Int)=Int.ofNat i:=rfl;rw [hci]
 cases o with
 |nil=>
  obtain rfl:i=0:=by simpa using hi
  have e:q8 [.ay,.int .i64 (Int.ofNat 0),.slice vb 0 1 1] h K=((an encI 1 y).one&&(Nat.beq 0 0&&K (.ret (.slice h.next 0 1 1)) (h.alloc (.cells [an encI 1 y])))):=by
   simp only [q8,UJ,cZ]
  rw [e,jI];refine hK _ (h.alloc (.cells [an encI 1 y])) ?_ (fun b hb _=>by rw [Heap.aW,if_neg (by omega)]) (by rw [Heap.aM];omega) rfl;exact .row h.next [y] Vu (by rw [Heap.aM];omega) (aB _ _)
 |row b ts h1 h2 h3=>
  have hl:(ts.flatMap cZ).length=ts.length:=by rw [fV qw];omega
  have Wl:1<=ts.length:=by
   rcases eq_zero_or_pos ts.length with h0|h0
   ·have:=hn (length_eq_zero_iff.1 h0);cases this
   ·exact h0
  have WU:b≠vb:=fun e=>hne (by rw [e];rfl)
  have e:q8 [.slice b 0 ts.length 1,.int .i64 (Int.ofNat i),.slice vb 0 1 1] h K=((an encI 1 y).one&&(!(Nat.beq b vb)&&(Nat.beq (ts.flatMap cZ).length ts.length&&(ble 1 ts.length&&(ble i ts.length&&(ble ((ts.length+1)*24) 140737488355328&&(bw (ts.flatMap cZ) &&
    K (.ret (.slice h.next 0 (ts.length+1) 1)) ((h.set b .dead).alloc (.cells ((ts.flatMap cZ).take i++an encI 1 y :: (ts.flatMap cZ).drop i)))))))))):=by
   simp only [q8,UJ,cZ,h3]
  have c1:Nat.beq b vb=false:=by cases hh:Nat.beq b vb with|false=>rfl|true=>exact absurd (eq_of_beq_eq_true hh) WU
  have c2:Nat.beq (ts.flatMap cZ).length ts.length=true:=by rw [hl];exact Nat.beq_refl _
  have c3:ble 1 ts.length=true:=ble_eq_true_of_le Wl;have c4:ble i ts.length=true:=ble_eq_true_of_le hi;have c5:ble ((ts.length+1)*24) 140737488355328=true:=ble_eq_true_of_le (by omega);rw [e,jI,c1,c2,c3,c4,c5,Jw]
  have hcs:(ts.flatMap cZ).take i++an encI 1 y :: (ts.flatMap cZ).drop i=(ts.take i++y :: ts.drop i).flatMap cZ:=by
   rw [BH,BH,map_append,map_cons,map_take,map_drop]
  have hln:ts.length+1=(ts.take i++y :: ts.drop i).length:=by simp;omega
  rw [hcs];show K _ _=true;rw [hln];have pg:(h.set b .dead).next=h.next:=Heap.br _ _ _
  refine hK _ _ ?_ (fun c hc hb=>?_) (by rw [Heap.aM,pg];omega) rfl
  ·refine .row h.next _ Vu (by rw [Heap.aM,pg];omega) ?_
   rw [<- pg];exact aB _ _
  ·rw [Heap.aW,if_neg (by rw [pg];omega),Heap.aN,if_neg (fun e=>hb (by rw [e];rfl))]
theorem Ld{ts:List (Sl Int)}(o:Own cZ 1 k h v ts)(hlen:ts.length<=1000000)(Vu:k<=h.next){i:Nat}(hi:i<ts.length)
  (hK:∀ v' h',Own cZ 1 k h' v' (ts.take i++ts.drop (i+1))->(∀ b,b<h.next->cz v≠some b->h'.get b=h.get b)->h.next<=h'.next->cz v'=some h.next->K (.ret v') h'=true):Sem TP 57 [v,.int .i64 (i:Int),.int .i64 ((i+1:Nat):Int)] h K:=by
 refine iJ.Uk qs (f:=57) rfl ?_;have hci:((i:Nat):Int)=Int.ofNat i:=rfl;have aeo:((i+1:Nat):Int)=Int.ofNat (i+1):=rfl;rw [hci,aeo]
 cases o with
 |nil=>simp at hi
 |row b ts h1 h2 h3=>
  have hl:(ts.flatMap cZ).length=ts.length:=by rw [fV qw];omega
  have e:xU [.slice b 0 ts.length 1,.int .i64 (Int.ofNat i),.int .i64 (Int.ofNat (i+1))] h K=(Nat.beq (ts.flatMap cZ).length ts.length&&(ble (i+1) (i+1)&&(ble (i+1) ts.length&&(ble (ts.length*24) 140737488355328&&(bw (ts.flatMap cZ) &&
    K (.ret (.slice h.next 0 (ts.length-(i+1-i)) 1)) ((h.set b .dead).alloc (.cells ((ts.flatMap cZ).take i++(ts.flatMap cZ).drop (i+1))))))))):=by
   simp only [xU,h3]
  have c2:Nat.beq (ts.flatMap cZ).length ts.length=true:=by rw [hl];exact Nat.beq_refl _
  have c3:ble (i+1) (i+1)=true:=ble_eq_true_of_le (dN _);have c4:ble (i+1) ts.length=true:=ble_eq_true_of_le hi;have c5:ble (ts.length*24) 140737488355328=true:=ble_eq_true_of_le (by omega);rw [e,c2,c3,c4,c5,Jw]
  have hcs:(ts.flatMap cZ).take i++(ts.flatMap cZ).drop (i+1)=(ts.take i++ts.drop (i+1)).flatMap cZ:=by
   rw [BH,BH,map_append,map_take,map_drop]
  have hln:ts.length-(i+1-i)=(ts.take i++ts.drop (i+1)).length:=by simp;omega
  rw [hcs];show K _ _=true;rw [hln];have pg:(h.set b .dead).next=h.next:=Heap.br _ _ _
  refine hK _ _ ?_ (fun c hc hb=>?_) (by rw [Heap.aM,pg];omega) rfl
  ·refine .row h.next _ Vu (by rw [Heap.aM,pg];omega) ?_
   rw [<- pg];exact aB _ _
  ·rw [Heap.aW,if_neg (by rw [pg];omega),Heap.aN,if_neg (fun e=>hb (by rw [e];rfl))]
theorem Mv(hs:iX L){a b:Nat}{u v:List Int}(hu:L[a]?=some u)(hv:L[b]?=some v)(rj:a<b):dw u v=true:=by
 have h1:=pairwise_iff_getElem.1 hs;obtain ⟨p1,q1⟩:=ki.1 hu;obtain ⟨p2,q2⟩:=ki.1 hv;have:=h1 a b p1 p2 rj
 rwa [q1,q2] at this
theorem Wm(hs:iX L){n:Nat}{t:List Int}(hlen:∀ u ∈ L,u.length=t.length)(DP:∀ a u,a<n->L[a]?=some u->dw u t=true)(JG:∀ a u,n<=a->L[a]?=some u->dw u t=false)(ht:t ∉ L) :
  iX (L.take n++t :: L.drop n):=by
 refine K9 hs (fun y hy=>?_) (fun y hy=>?_)
 ·obtain ⟨a,ha⟩:=getElem?_of_mem hy;rw [getElem?_drop] at ha;have hm:=iq ha;exact zN (hlen y hm) (JG _ y (by omega) ha) (fun e=>ht (e▸hm))
 ·obtain ⟨a,ha⟩:=getElem?_of_mem hy;have hal:a<n:=by have:=(ki.1 ha).1;rw [length_take] at this;omega
  rw [getElem?_take,if_pos hal] at ha;exact DP a y hal ha
theorem Wn(hs:iX L){n:Nat}{t:List Int}(DP:∀ a u,a<n->L[a]?=some u->dw u t=true)(JG:∀ a u,n<=a->L[a]?=some u->dw u t=false)(ht:t ∈ L) :
  L[n]?=some t/\iX (L.take n++L.drop (n+1))/\∀ u,u ∈ L.take n++L.drop (n+1)↔u ∈ L/\u≠t:=by
 obtain ⟨a,ha⟩:=getElem?_of_mem ht;have h1:¬ a<n:=fun h=>by have:=DP a t h ha;rw [ig] at this;cases this
 have han:a=n:=by
  rcases Nat.lt_or_ge n a with h|h
  ·have hl:n<L.length:=by have:=(ki.1 ha).1;omega
   have:=Mv hs (ew hl) ha h;rw [JG n _ (dN _) (ew hl)] at this;cases this
  ·omega
 subst han;have e:L.take a++L.drop (a+1)=L.eraseIdx a:=(eraseIdx_eq_take_drop_succ L a).symm;refine ⟨ha,by rw [e];exact List.Pairwise.sublist (eraseIdx_sublist L a) hs,fun u=>?_⟩;constructor
 ·intro hu;rcases mem_append.1 hu with hu|hu
  ·refine ⟨mem_of_mem_take hu,fun he=>?_⟩;subst he;obtain ⟨b,hb⟩:=getElem?_of_mem hu;have VY:b<a:=by have:=(ki.1 hb).1;rw [length_take] at this;omega
   rw [getElem?_take,if_pos VY] at hb;have:=DP b u VY hb;rw [ig] at this;cases this
  ·refine ⟨mem_of_mem_drop hu,fun he=>?_⟩;subst he;obtain ⟨b,hb⟩:=getElem?_of_mem hu;rw [getElem?_drop] at hb;have:=Mv hs ha hb (by omega);rw [ig] at this;cases this
 ·rintro ⟨hu,hne⟩;obtain ⟨b,hb⟩:=getElem?_of_mem hu;rcases Nat.lt_trichotomy b a with h|h|h
  ·exact mem_append_left _ (iq (i:=b) (by rw [getElem?_take,if_pos h];exact hb))
  ·subst h;rw [ha] at hb;cases hb;exact absurd rfl hne
  ·exact mem_append_right _ (iq (i:=b-(a+1)) (by rw [getElem?_drop,show a+1+(b-(a+1))=b by omega];exact hb))
theorem FT{k:Nat}{h:Heap}:∀ (l:List (vt×List (Sl Int))),(∀ p ∈ l,Own cZ 1 k h p.1.2.2.1 p.2) ->
  ∃ zs:List Rel,zs.map bY=l.map Jv/\zs.length=l.length/\lI true h ((l.map (·.1)).flatMap gZ) (zs.flatMap aR)
 |[],_=>⟨[],rfl,rfl,.nil⟩
 |p :: l,hp=>by
  obtain ⟨zs,h1,h2,h3⟩:=FT l fun q hq=>hp q (mem_cons_of_mem _ hq);obtain ⟨x,x1,x2⟩:=(jB.zG (hp p mem_cons_self) mN).fz;have hx:x.l=p.2:=by rw [x1,List.map_map];simp [Function.comp_def]
  obtain ⟨⟨nm,k,v⟩,ts⟩:=p;refine ⟨⟨nm,k,x⟩ :: zs,?_,by simp [h2],?_⟩
  ·rw [map_cons,map_cons,h1];have hx:x.l=ts:=hx;simp [bY,Jv,hx]
  ·rw [map_cons,flatMap_cons,flatMap_cons];exact lI.append (KP x2) h3
theorem Mw{a:AV}{l:List (vt×List (Sl Int))}(o:Own gZ 3 k h a (l.map (·.1)))(hp:∀ p ∈ l,Own cZ 1 k h p.1.2.2.1 p.2):∃ z:Sl Rel,z.l.map bY=l.map Jv/\Fz true h a (an aR 3 z):=by
 obtain ⟨zs,h1,h2,h3⟩:=FT l hp;generalize hm:l.map (·.1)=m at o h3
 cases o with
 |nil=>
  have:l = []:=by simpa using hm
  subst this;exact ⟨none,rfl,.dR rfl⟩
 |row b m q1 q2 q3=>
  have hml:m.length=zs.length:=by rw [<- hm,length_map,h2]
  refine ⟨some zs,h1,?_⟩;have:an aR 3 (some zs) = .ax (zs.flatMap aR) 0 zs.length 3:=rfl;rw [this,hml];exact .slice b 0 zs.length 3 _ _ q3 h3.len h3.rel
theorem yF{t:Sl Int}(hv:Fz true h v (an cZ 1 x))(hl:x.l.length<=1000000)(hk:∀ u ∈ x.l,u.l.length=t.l.length)(Dt:t.l.length<=cM)(hs:iX (x.l.map Sl.l))
  (hK:∀ n:Nat,n<=x.l.length->(∀ a u,a<n->x.l[a]?=some u->dw u.l t.l=true)->(∀ a u,n<=a->x.l[a]?=some u->dw u.l t.l=false)->K (.ret (.tuple [.int .i64 (n:Int),.bool (decide (t.l ∈ x.l.map Sl.l))])) h=true) :
  Sem TP 54 [v,an encI 1 t,.func 55 [] []] h K:=
 (rT hl hk Dt hs (h:=Heap.empty) (K:=fun o h'=>yes (∃ n:Nat,o = .ret (.tuple [.int .i64 (n:Int),.bool (decide (t.l ∈ x.l.map Sl.l))])/\n<=x.l.length/\(∀ a u,a<n->x.l[a]?=some u->dw u.l t.l=true)/\(∀ a u,n<=a->x.l[a]?=some u->dw u.l t.l=false)))
  fun n a b c=>cw.2 ⟨n,rfl,a,b,c⟩).Vk (.cons hv (.cons (.dR (cp j6 t)) (.cons (.dR rfl) .nil))) fun o h' ho=>by
  obtain ⟨n,rfl,a,b,c⟩:=cw.1 ho;have:=lI.cons (old:=false) (h:=h') (Fz.scalar (.int .i64 (n:Int)) rfl) (lI.cons (Fz.scalar (.bool (decide (t.l ∈ x.l.map Sl.l))) rfl) lI.nil);exact ⟨_,_,rfl,.tuple _ _ this.len this.rel,hK n a b c⟩
theorem yG(s:St):dz TP s Tryz.f18.results.toList=(match ah (some 2) (s.env 8) s.h,(some [s.env 9]:Option (List AV)) with|some v,some vs=>some (v :: vs)|_,_=>none):=by kernel_rfl
set_option maxHeartbeats 2000000 in
theorem NU(kD:s.ok)(hv:de s=true){nm:cc}{t:Sl Int}(hj:jA (iP nm (t.l.length:Int)) s.aF.l=(j:Int))(hr:s.aF.l[j]?=some r)(QY:r.arity=(t.l.length:Int))(hin:jy s.size t.l=true)
  (hK:∀ s',vu s j r t.l is s'->K (.ret (.tuple [.agg (au s'),.int .i64 0])) h=true):Sem TP 18 [.agg (au s),.str nm,an encI 1 t,.bool is] h K:=by
 have hm:cJ=140737488355328:=rfl;have nR:=iq hr;have ML:j<s.aF.l.length:=(ki.1 hr).1;have uY:=(fR.1 hv).rel _ (List.mem_map_of_mem nR);obtain ⟨_,k,hk1,GV,hkp,Ty⟩:=uY;have aek:r.arity=(k:Int):=hk1;have hkl:t.l.length=k:=by omega
 have Dt:t.l.length<=cM:=by unfold cM;omega
 have Qn:=(gi hv).1;have hrt:=Qn.G1 r nR
 have main:Sem TP 18 [.agg (au s),.str nm,an encI 1 t,.bool is] Heap.empty (fun o h'=>yes (∃ v s',o = .ret (.tuple [v,.int .i64 0])/\vu s j r t.l is s'/\Fz true h' v (.agg (au s')))):=by
  refine F.EB ?_;rw [F.GI];simp only [c8 (cA s),aq,Heap.aM,bU];have g0:(Heap.alloc (Heap.alloc Heap.empty (.cells (au s))) (.cells [.int .i64 0,.ay])).get 0=some (.cells (au s)):=by simp [Heap.aW,bU]
  have g1:(Heap.alloc (Heap.alloc Heap.empty (.cells (au s))) (.cells [.int .i64 0,.ay])).get 1=some (.cells [.int .i64 0,.ay]):=by simp [Heap.aW,bU]
  have gn:(Heap.alloc (Heap.alloc Heap.empty (.cells (au s))) (.cells [.int .i64 0,.ay])).next=2:=rfl
  generalize (Heap.alloc (Heap.alloc Heap.empty (.cells (au s))) (.cells [.int .i64 0,.ay]))=H1 at g0 g1 gn ⊢;have l0:ah (some 2) (.ptr 0 0) H1=some (.agg (au s)):=by rw [ak g0,cV (cs:=au s) (n:=2) rfl]
  have lz:ah none (.ptr 0 0) H1=some (.int .i64 s.size):=by rw [ak g0];rfl
  simp only [l0,aq];refine ai (FR kD hv hj hr QY Dt ?_);simp only [aS,reduceAdd,reduceEqDiff,reduceIte,cP,decide_true,Bool.not_true,lz];refine ai (tP Dt ?_);rw [hin];simp only [aS,reduceAdd,reduceEqDiff,reduceIte,Bool.not_true,l0];refine ai (Az Qn fun a H2 l hx hd hl=>?_)
  have Be:bw [.int .i64 s.size,a]=true:=by
   have c:=hd.own.k9;have:=c.1;rw [c.2.2] at this;simp only [bw,Bool.and_true] at this ⊢;rw [this];rfl
  obtain ⟨H3,LL,p3,Qd,Tr⟩:=cF (h:=H2) (zs:=[.int .i64 0,.ay]) (cs:=[.int .i64 s.size,a]) (n:=2) rfl rfl Be;have x3:bC H2 H3:=⟨by omega,fun b hb=>Qd b (by omega)⟩
  have n2:=hx.next
  have d3:=hd.ext x3;rw [gn] at d3 n2;have q0:H3.get 0=some (.cells (au s)):=by rw [Qd 0 (by omega),hx.get 0 (by omega)];exact g0
  have q1:H3.get 1=some (.cells [.int .i64 0,.ay]):=by rw [Qd 1 (by omega),hx.get 1 (by omega)];exact g1
  have lr:ah none (.ptr H2.next 1) H3=some a:=by rw [ak p3];rfl
  have l3:ah (some 2) (.ptr 0 0) H3=some (.agg (au s)):=by rw [ak q0,cV (cs:=au s) (n:=2) rfl]
  simp only [aS,reduceAdd,reduceEqDiff,reduceIte,LL,lr,l3];refine ai (rG kD ?_);rw [hj];have VU:l.length=s.aF.l.length:=by have:=congrArg List.length hl;simpa using this
  obtain ⟨⟨q,ts⟩,hp⟩:∃ p,l[j]?=some p:=⟨l[j]'(by omega),ew (by omega)⟩
  have Fy:=iq hp
  have XC:Jv (q,ts)=bY r:=by
   have:=congrArg (·[j]?) hl;simp only [getElem?_map,hp,hr,map_some,Option.some.injEq] at this;exact this
  have e1:q.1=r.name:=congrArg (·.1) XC;have e2:q.2.1=r.arity:=congrArg (·.2.1) XC;have e3:ts.map Sl.l=r.aO.l.map Sl.l:=congrArg (·.2.2) XC;have ht3:ts.length=r.aO.l.length:=by have:=congrArg List.length e3;simpa using this
  have W4:(l.map (·.1))[j]?=some q:=by rw [getElem?_map,hp];rfl
  have oq:Own cZ 1 2 H3 q.2.2.1 ts:=d3.row _ Fy;obtain ⟨x,x1,x2⟩:=(jB.zG oq mN).fz;have IS:x.l=ts:=by rw [x1,List.map_map];simp [Function.comp_def]
  have hlen:∀ u ∈ ts.map Sl.l,u.length=t.l.length:=fun u hu=>by
   rw [e3] at hu;rw [hkl];exact (Ty.1 u hu).1
  have qp:iX (ts.map Sl.l):=by rw [e3];exact Ty.2
  have fin:∀ (hF:Heap) (l':List (vt×List (Sl Int))) (L':List (List Int)),Own gZ 3 2 hF a (l'.map (·.1))->(∀ p ∈ l',Own cZ 1 2 hF p.1.2.2.1 p.2)->hF.get H2.next=some (.cells [.int .i64 s.size,a])->hF.get 1=some (.cells [.int .i64 0,.ay]) ->
    l'.map Jv=(s.aF.l.map bY).set j (r.name,r.arity,L')->iX L'->(∀ u,u ∈ L'↔(u ∈ r.aO.l.map Sl.l/\u≠t.l)\/(is=true/\u=t.l)) ->
    ah (some 2) (.ptr H2.next 0) hF=some (.agg [.int .i64 s.size,a])/\∃ hG,aZ 2 (.ptr 1 0) (.agg [.int .i64 s.size,a]) hF=some hG/\ah (some 2) (.ptr 1 0) hG=some (.agg [.int .i64 s.size,a])/\∃ s',vu s j r t.l is s'/\Fz true hG (.agg [.int .i64 s.size,a]) (.agg (au s')):=by
   intro hF l' L' o1 o2 o3 o4 o5 o6 o7;refine ⟨by rw [ak o3];rfl,hF.set 1 (.cells [.int .i64 s.size,a]),by rw [cB (n:=2) (v:=.agg [.int .i64 s.size,a]) o4 rfl Be (by simp)];rfl,by rw [ak (cs:=[.int .i64 s.size,a]) (by rw [Heap.aN,if_pos rfl])];rfl,?_⟩;obtain ⟨z,z1,z2⟩:=Mw (o1.kF (d:=1) (by omega) (.cells [.int .i64 s.size,a])) fun p hp=>(o2 p hp).kF (d:=1) (by omega) (.cells [.int .i64 s.size,a]);refine ⟨⟨s.size,z⟩,⟨rfl,L',o6,o7,by rw [<- o5];exact z1⟩,?_⟩;have:=lI.cons (.scalar (.int .i64 s.size) rfl) (lI.cons z2 lI.nil);exact .agg _ _ this.len this.rel
  have gd:(∀ u,u ∈ r.aO.l.map Sl.l↔(u ∈ r.aO.l.map Sl.l/\u≠t.l)\/(is=true/\u=t.l))->ah (some 2) (.ptr H2.next 0) H3=some (.agg [.int .i64 s.size,a])/\∃ hG,aZ 2 (.ptr 1 0) (.agg [.int .i64 s.size,a]) H3=some hG/\ah (some 2) (.ptr 1 0) hG=some (.agg [.int .i64 s.size,a])/\∃ s',vu s j r t.l is s'/\Fz true hG (.agg [.int .i64 s.size,a]) (.agg (au s')):=fun hu=>by
   refine fin H3 l (r.aO.l.map Sl.l) d3.own d3.row p3 q1 ?_ Ty.2 hu;rw [hl];refine ext_getElem? fun i=>?_;by_cases hi:i=j
   ·subst hi;rw [getElem?_set_self (by simpa using ML),getElem?_map,hr];rfl
   ·rw [getElem?_set_ne (Ne.symm hi)]
  have chg:∀ (hF:Heap) (v':Nx) (UR:List (Sl Int)),Own cZ 1 2 hF v'.1 UR->(∀ b,b<H3.next->cz q.2.2.1≠some b->hF.get b=H3.get b)->H3.next<=hF.next->(∀ b,cz v'.1=some b->H3.next<=b)->iX (UR.map Sl.l)->(∀ u,u ∈ UR.map Sl.l↔(u ∈ r.aO.l.map Sl.l/\u≠t.l)\/(is=true/\u=t.l)) ->
    ∃ b hH,dM 3 a (.int .i64 (j:Int))=some (.ptr b (j*3))/\aZ 1 (.ptr b (j*3+2)) v'.1 hF=some hH/\ah (some 2) (.ptr H2.next 0) hH=some (.agg [.int .i64 s.size,a])/\∃ hG,aZ 2 (.ptr 1 0) (.agg [.int .i64 s.size,a]) hH=some hG/\ah (some 2) (.ptr 1 0) hG=some (.agg [.int .i64 s.size,a])/\∃ s',vu s j r t.l is s'/\Fz true hG (.agg [.int .i64 s.size,a]) (.agg (au s')):=by
   intro hF v' UR ov hfr pg oU gv Oc;have oF:Own gZ 3 2 hF a (l.map (·.1)):=d3.own.agree (fun b hb=>hfr b (d3.own.lt hb) (fun hc=>d3.sep _ Fy b hc hb)) pg;obtain ⟨b,cs,i1,i2,i3,i4,i5,i6⟩:=oF.UQ W4 v';have hb2:b<H2.next:=hd.own.lt i2
   have hb3:2<=b:=d3.own.ge i2;have hqb:∀ c,cz q.2.2.1=some c->c<H2.next/\2<=c:=fun c hc=>⟨(hd.row _ Fy).lt hc,oq.ge hc⟩
   refine ⟨b,hF.set b (.cells cs),i1,i5,?_⟩;have lR:(l.set j ((q.1,q.2.1,v'),UR)).map (·.1)=(l.map (·.1)).set j (q.1,q.2.1,v'):=by rw [map_set]
   refine fin (hF.set b (.cells cs)) (l.set j ((q.1,q.2.1,v'),UR)) (UR.map Sl.l) (by rw [lR];exact i6) (fun p hpp=>?_) ?_ ?_ ?_ gv Oc
   ·obtain ⟨i,hi⟩:=getElem?_of_mem hpp;by_cases hij:i=j
    ·subst hij;rw [getElem?_set_self (by omega)] at hi;cases hi;exact ov.agree (fun c hc=>by rw [Heap.aN,if_neg (fun e=>by have:=oU c hc;omega)]) (by rw [Heap.br];omega)
    ·rw [getElem?_set_ne (Ne.symm hij)] at hi;have Rx:=iq hi;refine (d3.row p Rx).agree (fun c hc=>?_) (by rw [Heap.br];omega);have TA:c≠b:=fun e=>d3.sep p Rx c hc (by rw [e];exact i2);rw [Heap.aN,if_neg TA];refine hfr c ((d3.row p Rx).lt hc) fun hqc=>?_;have abp:=pairwise_iff_getElem.1 d3.dis;obtain ⟨y1,y2⟩:=ki.1 hi;obtain ⟨y3,y4⟩:=ki.1 hp;rcases Nat.lt_or_gt_of_ne hij with hlt|OI
     ·exact abp i j y1 y3 hlt c (by rw [y2];exact hc) (by rw [y4];exact hqc)
     ·exact abp j i y3 y1 OI c (by rw [y4];exact hqc) (by rw [y2];exact hc)
   ·rw [Heap.aN,if_neg (by omega),hfr _ (by omega) (fun hc=>by have:=(hqb _ hc).1;omega)];exact p3
   ·rw [Heap.aN,if_neg (by omega),hfr _ (by omega) (fun hc=>by have:=(hqb _ hc).2;omega)];exact q1
   ·rw [map_set,hl];show (s.aF.l.map bY).set j (q.1,q.2.1,UR.map Sl.l)=_;rw [e1,e2]
  obtain ⟨b,_,i1,i2,i3,i4,_,_⟩:=d3.own.UQ W4 q.2.2;have hnc:∀ c o:Nat,bx (.ptr c o)=some (.ptr c o):=fun _ _=>rfl;simp only [aS,reduceAdd,reduceEqDiff,reduceIte,lr,AV.beq_refl,Bool.and_self,if_true,i1,hnc,i4];refine ai (yF x2 (by rw [IS];omega) (fun u hu=>by rw [IS] at hu;exact hlen u.l (List.mem_map_of_mem hu)) Dt (by rw [IS];exact qp) fun n hn DP JG=>?_);rw [IS] at hn DP JG ⊢;rw [e3]
  have abq:∀ c u,c<n->(ts.map Sl.l)[c]?=some u->dw u t.l=true:=fun c u hc hu=>by
   rw [getElem?_map] at hu;obtain ⟨w,hw,rfl⟩:=map_eq_some_iff.1 hu;exact DP c w hc hw
  have abr:∀ c u,n<=c->(ts.map Sl.l)[c]?=some u->dw u t.l=false:=fun c u hc hu=>by
   rw [getElem?_map] at hu;obtain ⟨w,hw,rfl⟩:=map_eq_some_iff.1 hu;exact JG c w hc hw
  cases is with
  |true=>
   by_cases vq:t.l ∈ r.aO.l.map Sl.l
   ·simp only [aS,reduceAdd,reduceEqDiff,reduceIte,fC vq,Bool.not_true]
    obtain ⟨f1,hG,f2,f3,s',f4,f5⟩:=gd fun u=>by
     constructor
     ·intro hu;by_cases he:u=t.l
      ·exact .inr ⟨rfl,he⟩
      ·exact .inl ⟨hu,he⟩
     ·rintro (⟨hu,_⟩|⟨_,rfl⟩)
      ·exact hu
      ·exact vq
    simp only [aS,reduceAdd,reduceEqDiff,reduceIte,f1,f2,yG,f3,oneOf];exact cw.2 ⟨_,s',rfl,f4,f5⟩
   ·simp only [aS,reduceAdd,reduceEqDiff,reduceIte,eV vq,Bool.not_false,hnc,i4];refine ai (nH (by omega) fun y hy=>?_);have gy:=aB H3 (.cells (cZ y));simp only [aS,reduceAdd,reduceEqDiff,reduceIte,i4,AV.beq_refl,Bool.and_self,if_true,Mo];refine ai (Lc (h:=H3.alloc (.cells (cZ y))) (oq.ext (bC.alloc _ _)) (d3.none _ Fy) (by omega) gy (fun hc=>by have:=oq.lt hc;omega) (by rw [Heap.aM];omega) hn fun v' h' ov hfr pg hnb=>?_);obtain ⟨BD,JL⟩:=mT ov;have Ie:(ts.take n++y :: ts.drop n).map Sl.l=(ts.map Sl.l).take n++t.l :: (ts.map Sl.l).drop n:=by rw [map_append,map_cons,hy,map_take,map_drop]
    obtain ⟨b',hH,c1,c2,c3,hG,c4,c5,s',c6,c7⟩:=chg h' ⟨v',BD,JL⟩ _ ov (fun c hc hb=>by rw [hfr c (by rw [Heap.aM];omega) hb,Heap.aW,if_neg (by omega)]) (by rw [Heap.aM] at pg;omega) (fun c hc=>by
      have:v'=v':=rfl;rw [show cz v'=some (H3.alloc (.cells (cZ y))).next from hnb] at hc
      rw [Heap.aM] at hc;cases hc;omega) (by rw [Ie];exact Wm qp hlen abq abr (by rw [e3];exact vq)) (fun u=>by
      rw [Ie,TL,e3];constructor
      ·rintro (hu|hu)
       ·exact .inl ⟨hu,fun e=>vq (e▸hu)⟩
       ·exact .inr ⟨rfl,hu⟩
      ·rintro (⟨hu,_⟩|⟨_,hu⟩)
       ·exact .inl hu
       ·exact .inr hu)
    obtain rfl:b'=b:=by rw [i1] at c1;cases c1;rfl
    simp only [aS,reduceAdd,reduceEqDiff,reduceIte,c2,c3,c4,yG,c5,oneOf];exact cw.2 ⟨_,s',rfl,c6,c7⟩
  |false=>
   by_cases vq:t.l ∈ r.aO.l.map Sl.l
   ·obtain ⟨GZ,Xw,MW⟩:=Wn qp abq abr (by rw [e3];exact vq);have Xs:n<ts.length:=by have:=(ki.1 GZ).1;simpa using this
    simp only [aS,reduceAdd,reduceEqDiff,reduceIte,fC vq,Bool.not_false,hnc,i4,aJ Xs (by unfold cM;omega)];refine ai (Ld oq (by omega) (by omega) Xs fun v' h' ov hfr pg hnb=>?_);obtain ⟨BD,JL⟩:=mT ov;have Ie:(ts.take n++ts.drop (n+1)).map Sl.l=(ts.map Sl.l).take n++(ts.map Sl.l).drop (n+1):=by rw [map_append,map_take,map_drop]
    obtain ⟨b',hH,c1,c2,c3,hG,c4,c5,s',c6,c7⟩:=chg h' ⟨v',BD,JL⟩ _ ov hfr pg (fun c hc=>by
      rw [show cz v'=some H3.next from hnb] at hc
      cases hc;omega) (by rw [Ie];exact Xw) (fun u=>by
      rw [Ie,MW,e3];constructor
      ·intro hu;exact .inl hu
      ·rintro (hu|⟨hu,_⟩)
       ·exact hu
       ·cases hu)
    obtain rfl:b'=b:=by rw [i1] at c1;cases c1;rfl
    simp only [aS,reduceAdd,reduceEqDiff,reduceIte,c2,c3,c4,yG,c5,oneOf];exact cw.2 ⟨_,s',rfl,c6,c7⟩
   ·simp only [aS,reduceAdd,reduceEqDiff,reduceIte,eV vq,Bool.not_false]
    obtain ⟨f1,hG,f2,f3,s',f4,f5⟩:=gd fun u=>by
     constructor
     ·intro hu;exact .inl ⟨hu,fun e=>vq (e▸hu)⟩
     ·rintro (⟨hu,_⟩|⟨hu,_⟩)
      ·exact hu
      ·cases hu
    simp only [aS,reduceAdd,reduceEqDiff,reduceIte,f1,f2,yG,f3,oneOf];exact cw.2 ⟨_,s',rfl,f4,f5⟩
 refine main.frozen (by simp [AV.cO,AV.pure,eO,cp j6]) fun o h' ho=>?_;obtain ⟨v,s',rfl,gv,hf⟩:=cw.1 ho;have:=lI.cons hf (lI.cons (.scalar (.int .i64 0) rfl) lI.nil);exact ⟨_,_,rfl,.tuple _ _ this.len this.rel,hK s' gv⟩
structure EN where
 name:cc
 tuple:Sl Int
def nx(f:EN):List AV:=[.str f.name,an encI 1 f.tuple]
theorem NV(f:EN):(nx f).length=2:=rfl
theorem Le(f:EN):AV.cO (nx f)=true:=by simp [nx,AV.cO,AV.pure,cp j6]
theorem NW(f:EN):bw (nx f)=true:=by unfold nx;simp only [bw,fT,Bool.and_true];rfl
def He(f:EN):cc×List Int:=(f.name,f.tuple.l)
def FU(p q:cc×Int×List (List Int)):List (cc×List Int):=(p.2.2.filter fun t=>!decide (t ∈ q.2.2)).map fun t=>(p.1,t)
def vU(la lb:List (cc×Int×List (List Int))):List (cc×List Int):=(la.zip lb).flatMap fun x=>FU x.1 x.2
theorem Jx{α β:Type}:∀ {la:List α} {lb:List β} {i:Nat} {p:α} {q:β},la[i]?=some p->lb[i]?=some q->(la.take (i+1)).zip lb=(la.take i).zip lb++[(p,q)]
 |a :: la,b :: lb,0,p,q,h1,h2=>by simp at h1 h2;subst h1;subst h2;simp
 |a :: la,b :: lb,i+1,p,q,h1,h2=>by
  rw [getElem?_cons_succ] at h1 h2;rw [take_succ_cons,take_succ_cons,zip_cons_cons,zip_cons_cons,Jx h1 h2];rfl
 |[],_,_,_,_,h1,_=>by simp at h1
 |_ :: _,[],_,_,_,_,h2=>by simp at h2
theorem Wo(nm:cc)(y:Sl Int):iA [.str [],.ay] [(0,1),(1,1)] [.str nm,an encI 1 y]=some (.agg (nx ⟨nm,y⟩)):=by cases y<;>rfl
theorem Wp(f:EN):fZ [.str [],.ay] [(0,2)] [.agg (nx f)]=some (nx f):=by
 obtain ⟨nm,y⟩:=f;cases y<;>rfl
set_option maxHeartbeats 1000000 in
theorem dH{a b:cN}(ha:a.small)(hb:b.small)(hlen:a.aF.l.length<=b.aF.l.length)(hkk:∀ (i:Nat) (q u:Rel),a.aF.l[i]?=some q->b.aF.l[i]?=some u->(∀ t ∈ q.aO.l,∀ w ∈ u.aO.l,w.l.length=t.l.length)/\iX (u.aO.l.map Sl.l))
  {h:Heap} {K:Out->Heap->Bool} (hK:∀ x:Sl EN,x.l.map He=vU (a.aF.l.map bY) (b.aF.l.map bY)->K (.ret (an nx 2 x)) h=true):Sem TP 92 [.agg (au a),.agg (au b)] h K:=by
 have hm:cJ=140737488355328:=rfl;have rj:=ha.ok';have ha8:=ha.aF
 have main:Sem TP 92 [.agg (au a),.agg (au b)] Heap.empty (fun o h'=>yes (∃ v,∃ x:Sl EN,o = .ret v/\x.l.map He=vU (a.aF.l.map bY) (b.aF.l.map bY)/\Fz true h' v (an nx 2 x))):=by
  refine F.EC ?_;rw [F.GK];simp only [c8 (cA a),c8 (cA b),aq,Heap.aM,bU];have g0:(Heap.alloc (Heap.alloc Heap.empty (.cells (au a))) (.cells (au b))).get 0=some (.cells (au a)):=by simp [Heap.aW,bU]
  have g1:(Heap.alloc (Heap.alloc Heap.empty (.cells (au a))) (.cells (au b))).get 1=some (.cells (au b)):=by simp [Heap.aW,bU]
  have gn:(Heap.alloc (Heap.alloc Heap.empty (.cells (au a))) (.cells (au b))).next=2:=rfl
  generalize (Heap.alloc (Heap.alloc Heap.empty (.cells (au a))) (.cells (au b)))=H at g0 g1 gn ⊢;have lr:ah none (.ptr 0 1) H=some (an aR 3 a.aF):=by rw [ak g0];rfl
  simp only [aS,reduceAdd,reduceEqDiff,reduceIte,lr]
  refine aE 0 a.aF.l.length (zero_le _) (fun i e h'=>∃ av l,Own nx 2 2 h' av l/\l.map He=vU ((a.aF.l.map bY).take i) (b.aF.l.map bY)/\l.length<=i*100000/\bC H h'/\e 3 = .ptr 1 0/\e 5=av/\e 13=an aR 3 a.aF/\e 14 = .int .i64 (a.aF.l.length:Int)/\e 15 = .int .i64 (i:Int))
   ⟨_,[],.nil,by simp [vU],by simp,bC.refl _,rfl,rfl,rfl,rfl,rfl⟩ ?_ ?_
  ·rintro i e h' _ hi ⟨av,l,o,hl,hcn,hx,e3,e5,pV,oK,nQ⟩ K' hn gm hr hp;have hv:a.aF.l[i]?=some a.aF.l[i]:=ew hi;generalize a.aF.l[i]=r at hv;have Bv:i<b.aF.l.length:=by omega
   have hw:b.aF.l[i]?=some b.aF.l[i]:=ew Bv;generalize b.aF.l[i]=u at hw;have nR:=iq hv;obtain ⟨hk1,Ve⟩:=hkk i r u hv hw;have hrt:=ha.G1 r nR;have hut:=hb.G1 u (iq hw);obtain ⟨H3,LL,p3,Qd,Tr⟩:=cF (h:=h') (zs:=[.str [],.int .i64 0,.ay]) (cs:=aR r) (n:=3) rfl rfl (fP r);have x3:bC h' H3:=⟨by omega,fun c hc=>Qd c (by omega)⟩
   have lt3:ah none (.ptr h'.next 2) H3=some (an cZ 1 r.aO):=by rw [ak p3];rfl
   have pg:=hx.next
   rw [F.dH.aU];simp only [pV,oK,nQ,aS,reduceAdd,reduceEqDiff,reduceIte,bp hi,aV a.aF hi,dx dU hv,LL,lt3];have V3:r.aO.l.length<=cM:=by unfold cM;omega
   refine aE 0 r.aO.l.length (zero_le _) (fun j e h2=>∃ av l,Own nx 2 2 h2 av l/\l.map He=vU ((a.aF.l.map bY).take i) (b.aF.l.map bY)++FU (r.name,r.arity,(r.aO.l.map Sl.l).take j) (bY u)/\l.length<=i*100000+j/\bC H h2/\h2.get h'.next=some (.cells (aR r))/\h'.next<h2.next/\(∀ c,cz av=some c->c≠h'.next) /\
    e 3 = .ptr 1 0/\e 5=av/\e 13=an aR 3 a.aF/\e 14 = .int .i64 (a.aF.l.length:Int)/\e 15 = .int .i64 (i:Int)/\e 7 = .ptr h'.next 0/\e 6 = .int .i64 (i:Int)/\e 21=an cZ 1 r.aO/\e 22 = .int .i64 (r.aO.l.length:Int)/\e 23 = .int .i64 (j:Int))
    ⟨av,l,o.ext x3,by simpa [FU] using hl,by simpa using hcn,hx.trans x3,p3,by omega,fun c hc=>by have:=o.lt hc;omega,e3,e5,pV,oK,nQ,rfl,rfl,rfl,rfl,rfl⟩ ?_ ?_
   ·rintro j e h2 _ hj ⟨av,l,o,hl,hcn,hx,p3,q3,hne,e3,e5,pV,oK,nQ,e7,e6,Al,A9,UK⟩ K2 oW fY qi DT;have G4:r.aO.l[j]?=some r.aO.l[j]:=ew hj;generalize r.aO.l[j]=t at G4;have htm:=iq G4;have Dt:=ha.W7 r nR t htm;have gb:h2.get 1=some (.cells (au b)):=by rw [hx.get 1 (by omega)];exact g1
    have lb:ah none (.ptr 1 1) h2=some (an aR 3 b.aF):=by rw [ak gb];rfl
    have US:FU (r.name,r.arity,(r.aO.l.map Sl.l).take (j+1)) (bY u)=FU (r.name,r.arity,(r.aO.l.map Sl.l).take j) (bY u)++if t.l ∈ u.aO.l.map Sl.l then [] else [(r.name,t.l)]:=by
     have hg:(r.aO.l.map Sl.l)[j]?=some t.l:=(by rw [getElem?_map,G4];rfl);simp only [FU,bY];rw [take_add_one,hg,filter_append,map_append];congr 1;by_cases hin:t.l ∈ u.aO.l.map Sl.l
     ·rw [if_pos hin,toList_some,filter_cons,if_neg (by simp only [not_eq_true'];intro hh;exact absurd hin (of_decide_eq_false hh))];rfl
     ·rw [if_neg hin,toList_some,filter_cons,if_pos (by simp only [not_eq_true'];exact eV hin)];rfl
    rw [F.dH.dm];simp only [e3,e6,Al,A9,UK,aS,reduceAdd,reduceEqDiff,reduceIte,bp hj,aV r.aO hj,ij G4,lb,aV b.aF Bv,qF hw];refine ai (rT (by omega) (fun w hw2=>hk1 t htm w hw2) (by unfold cM;omega) Ve fun n _ _ _=>?_);by_cases hin:t.l ∈ u.aO.l.map Sl.l
    ·simp only [aS,reduceAdd,reduceEqDiff,reduceIte,fC hin,Bool.not_true,UK,aJ hj V3];refine oW _ _ ⟨av,l,o,by rw [hl,US,if_pos hin,append_nil],by omega,hx,p3,q3,hne,e3,e5,pV,oK,nQ,e7,e6,Al,A9,rfl⟩
    ·have ln:ah none (.ptr h'.next 0) h2=some (.str r.name):=(by rw [ak p3];rfl);simp only [aS,reduceAdd,reduceEqDiff,reduceIte,eV hin,Bool.not_false,e7,ln];refine ai (nH (by omega) fun y hy=>?_)
     have hroom:(l.length+1)*40<=cJ:=by
      rw [hm];have:i*100000<=a.aF.l.length*100000:=mul_le_mul_right _ (by omega);omega
     obtain ⟨a5,h5,c5,o5,f5,n5,x5,b5⟩:=o.push NV NW (by have:=hx.next;omega) (bytes:=40) hroom ⟨r.name,y⟩;simp only [aS,reduceAdd,reduceEqDiff,reduceIte,e5,e7,UK,ln,AV.beq_refl,Bool.and_self,if_true,Wo,Wp,c5,aJ hj V3];refine oW _ _ ⟨a5,_,o5,?_,by rw [length_append,length_singleton];omega,x5 H hx (by omega),by rw [f5 _ q3 (fun hc=>hne _ hc rfl)];exact p3,by omega,fun c hc=>by have:=b5 c hc;omega,e3,rfl,pV,oK,nQ,e7,e6,Al,A9,rfl⟩;rw [map_append,hl,US,if_neg hin,append_assoc];simp [He,hy]
   ·rintro e h2 ⟨av,l,o,hl,hcn,hx,p3,q3,hne,e3,e5,pV,oK,nQ,e7,e6,Al,A9,UK⟩ K2 fY;rw [F.dH.dm];simp only [A9,UK,aS,reduceAdd,reduceEqDiff,reduceIte,aX];rw [fY,F.dH.cx];simp only [aS,reduceAdd,reduceEqDiff,reduceIte,nQ,aJ hi rj];refine hn _ _ ⟨av,l,o,?_,by have:=Nat.add_mul i 1 100000;omega,hx,e3,e5,pV,oK,rfl⟩;have htk:(r.aO.l.map Sl.l).take r.aO.l.length=r.aO.l.map Sl.l:=jW (by simp);rw [hl,htk];have h1:(a.aF.l.map bY)[i]?=some (bY r):=by rw [getElem?_map,hv];rfl
    have h2:(b.aF.l.map bY)[i]?=some (bY u):=(by rw [getElem?_map,hw];rfl);unfold vU;rw [Jx h1 h2,flatMap_append];simp only [flatMap_cons,flatMap_nil,append_nil];rfl
  ·rintro e h' ⟨av,l,o,hl,hcn,hx,e3,e5,pV,oK,nQ⟩ K' gm;rw [F.dH.aU];simp only [oK,nQ,aS,reduceAdd,reduceEqDiff,reduceIte,aX];rw [gm,F.dH.aG];simp only [bP,reduceEqDiff,reduceIte,e5];rw [jW (by simp)] at hl;obtain ⟨x,x1,x2⟩:=(jB.zG o Le).fz;exact cw.2 ⟨av,x,rfl,by rw [<- hl,x1,List.map_map];simp [Function.comp_def],x2⟩
 refine main.frozen (by simp [AV.cO,AV.pure,eO]) fun o h' ho=>?_;obtain ⟨v,x,rfl,h1,h2⟩:=cw.1 ho;exact ⟨_,_,rfl,h2,hK x h1⟩
end
end Go.AM