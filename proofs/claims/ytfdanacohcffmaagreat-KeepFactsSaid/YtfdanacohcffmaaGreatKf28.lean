/- Parts of the proof. Conditions: none. -/
import Derived.Test.YtfdanacohcffmaaGreatKf18
import Derived.Test.YtfdanacohcffmaaGreatKf20
import Derived.Test.YtfdanacohcffmaaGreatKf21
import Derived.Test.YtfdanacohcffmaaGreatKf26
import Derived.Test.YtfdanacohcffmaaGreatKf27
set_option linter.unusedSimpArgs false
set_option linter.unusedVariables false
namespace Go.AM
open List Nat Bool Option
open Go Go.Proofs
noncomputable section
variable {K:Out->Heap->Bool} {h:Heap} {L:List (List Int)} {x:Sl (Sl Int)} {k j:Nat} {s:cM} {is:Bool} {r:Rel} {v:AV}
theorem Ab:∀ {a b:List Int},a.length=b.length->dg a b=false->a≠b->dg b a=true
 |[],[],_,_,h=>absurd rfl h
 |x :: a,y :: b,hl,h1,h2=>by
  rw [dg] at h1 ⊢;by_cases e:x=y
  ·subst e;rw [if_pos rfl] at h1 ⊢;exact Ab (by simpa using hl) h1 (fun h=>h2 (by rw [h]))
  ·rw [if_neg e] at h1;rw [if_neg (Ne.symm e)];have:=of_decide_eq_false h1;exact fE (by omega)
 |[],_ :: _,hl,_,_=>by simp at hl
 |_ :: _,[],hl,_,_=>by simp at hl
theorem LN{l:List (List Int)}(hs:iR l){x:List Int}(h1:∀ y ∈ l.drop k,dg x y=true)(h2:∀ y ∈ l.take k,dg y x=true):iR (l.take k++x :: l.drop k):=by
 have gC:iR (l.take k++l.drop k):=by rw [take_append_drop];exact hs
 obtain ⟨p1,p2,p3⟩:=pairwise_append.1 gC;refine pairwise_append.2 ⟨p1,pairwise_cons.2 ⟨h1,p2⟩,fun a ha b hb=>?_⟩;rcases mem_cons.1 hb with rfl|hb
 ·exact h2 a ha
 ·exact p3 a ha b hb
theorem Ut{α:Type}{l:List α}{x u:α}:u ∈ l.take k++x :: l.drop k↔u ∈ l\/u=x:=by
 have:u ∈ l↔u ∈ l.take k\/u ∈ l.drop k:=by rw [<- mem_append,take_append_drop]
 rw [mem_append,mem_cons,this];constructor
 ·rintro (h|h|h)
  ·exact .inl (.inl h)
  ·exact .inr h
  ·exact .inl (.inr h)
 ·rintro ((h|h)|h)
  ·exact .inl h
  ·exact .inr (.inr h)
  ·exact .inr (.inl h)
structure pK (s:cM) (j:Nat) (r:Rel) (t:List Int) (is:Bool) (s':cM):Prop where
 size:s'.size=s.size
 aC:∃ ts,iR ts/\(∀ u,u ∈ ts↔(u ∈ r.aN.l.map Sl.l/\u≠t)\/(is=true/\u=t))/\s'.aC.l.map bH=(s.aC.l.map bH).set j (r.name,r.arity,ts)
theorem vi{s':cM}{t:List Int}(hr:s.aC.l[j]?=some r)(hp:pK s j r t is s'):(s'.aC.l.map bH).map ku=(s.aC.l.map bH).map ku:=by
 obtain ⟨ts,h1,h2,h3⟩:=hp.aC;rw [h3,map_set];apply ext_getElem?;intro i;by_cases hi:j=i
 ·subst hi;have hl:j<s.aC.l.length:=(jJ.1 hr).1;rw [getElem?_set_self (by simpa using hl)];simp only [getElem?_map,hr];rfl
 ·rw [getElem?_set_ne hi]
theorem Gv{s':cM}{t:List Int}(hv:cG s=true)(hr:s.aC.l[j]?=some r)(hk:r.arity=(k:Int))(ht:t.length=k)(hb:jC s.size.toNat t=true)(hp:pK s j r t is s'):cG s'=true:=by
 have hS:=eS.1 hv;have DY:=vi hr hp;obtain ⟨ts,h1,h2,h3⟩:=hp.aC;have hz:=hp.size;rw [eS];have xI:∀ l:List NU,l.map (·.1)=(l.map ku).map (·.1):=fun l=>by rw [List.map_map];rfl
 refine ⟨by rw [hz];exact hS.lo,by rw [hz];exact hS.hi,?_,fun d hd=>?_,?_⟩
 ·have:=congrArg List.length DY;simp only [length_map] at this;have:=hS.mC;simp only [length_map] at this ⊢;omega
 ·rw [hz];rw [h3] at hd;rcases mem_or_eq_of_mem_set hd with hd|rfl
  ·exact hS.rel d hd
  ·obtain ⟨q0,k',q1,q2,q3,q4⟩:=hS.rel _ (List.mem_map_of_mem (ig hr));have q1':r.arity=(k':Int):=q1;obtain rfl:k'=k:=by omega
   refine ⟨q0,k',q1,q2,q3,fun u hu=>?_,h1⟩;rcases (h2 u).1 hu with ⟨a,_⟩|⟨_,a⟩
   ·exact q4.1 u a
   ·rw [a];exact ⟨ht,hb⟩
 ·rw [xI,DY,<- xI];exact hS.names
theorem k8{x y:Sl Int}(hx:x.l.length<=cN)(Vh:x.l.length=y.l.length)(hK:∀ c:Int,(c<0↔dg x.l y.l=true)->(c=0↔x.l=y.l)->K (.ret (.int .i64 c)) h=true):Sem TP 55 [an encI 1 x,an encI 1 y] h K:=by
 refine F.jr ?_;rw [F.jH];simp only [aR,reduceAdd,reduceEqDiff,reduceIte];refine aE 0 x.l.length (zero_le _) (fun i e h'=>h'=h/\e 0=an encI 1 x/\e 1=an encI 1 y/\e 9=an encI 1 x/\e 10 = .int .i64 (x.l.length:Int)/\e 11 = .int .i64 (i:Int)/\dg x.l y.l=dg (x.l.drop i) (y.l.drop i)/\x.l.take i=y.l.take i) ⟨rfl,rfl,rfl,rfl,rfl,rfl,rfl,rfl⟩ ?_ ?_
 ·rintro i e h' _ hi ⟨rfl,e0,e1,e9,kM,qY,hl,ht⟩ K' hn fK hr hp;have BR:i<y.l.length:=by omega
  have hv:x.l[i]?=some x.l[i]:=ep hi;have hw:y.l[i]?=some y.l[i]:=ep BR;rw [xu hv hw] at hl;generalize x.l[i]=a at hv hl;generalize y.l[i]=b at hw hl;rw [F.bD.aT];simp only [e0,e1,e9,kM,qY,aR,reduceAdd,reduceEqDiff,reduceIte,bh hi,aW x hi,aW y BR,ja hv,ja hw,eT (by omega:¬ (y.l.length:Int)<=(i:Int))];refine ah (AS fun c c1 c2=>?_);simp only [aR,reduceAdd,reduceEqDiff,reduceIte,cA];by_cases pG:a=b
  ·rw [if_pos pG] at hl;simp only [fE (c1.2 pG),Bool.not_true,aJ,aI hi hx,aq];exact hn _ _ ⟨rfl,e0,e1,e9,kM,rfl,hl,by rw [take_add_one,take_add_one,ht,hv,hw,pG]⟩
  ·rw [if_neg pG] at hl;simp only [eT (fun h=>pG (c1.1 h)),Bool.not_false,aL];rw [hr,F.bD.bB];simp only [bO,reduceEqDiff,reduceIte];refine hK c ?_ ?_
   ·rw [hl,decide_eq_true_iff];exact c2
   ·exact ⟨fun h=>absurd (c1.1 h) pG,fun h=>absurd (Option.some.inj (hv.symm.trans ((congrArg (·[i]?) h).trans hw))) pG⟩
 ·rintro e h' ⟨rfl,e0,e1,e9,kM,qY,hl,ht⟩ K' fK;rw [F.bD.aT];simp only [kM,qY,aR,reduceAdd,reduceEqDiff,reduceIte,aX];rw [fK,F.bD.aF];simp only [e0,e1,aR,reduceAdd,reduceEqDiff,reduceIte,eT (by omega:¬ (x.l.length:Int)<(y.l.length:Int))];rw [drop_of_length_le (dL _)] at hl;rw [kC (dL _),kC (by omega)] at ht;exact hK 0 (by rw [hl];exact ⟨fun h=>absurd h (by omega),fun h=>by cases h⟩) ⟨fun _=>ht,fun _=>rfl⟩
theorem gL:∀ t:List Int,dg t t=false
 |[]=>rfl
 |a :: t=>by rw [dg,if_pos rfl];exact gL t
theorem M3{a b:Nat}(h1:a+b<=4000000):aG .add (.int .i64 (a:Int)) (.int .i64 (b:Int))=some (.int .i64 ((a+b:Nat):Int))/\jm (.int .u64) (.int .i64 ((a+b:Nat):Int)) h=some (.int .u64 ((a+b:Nat):Int),h) /\
  aG .shr (.int .u64 ((a+b:Nat):Int)) (.int .u64 1)=some (.int .u64 (((a+b)/2:Nat):Int))/\jm (.int .i64) (.int .u64 (((a+b)/2:Nat):Int)) h=some (.int .i64 (((a+b)/2:Nat):Int),h):=by
 refine ⟨?_,?_,?_,?_⟩
 ·rw [iF (by omega) (by omega)];rfl
 ·simp only [jm];rw [IntWalk.u64_in _ (by omega)]
 ·have:(((a+b:Nat):Int)).fdiv (2 ^ 1)=(((a+b)/2:Nat):Int):=by
   rw [Int.fdiv_eq_ediv_of_nonneg _ (by omega)];rfl
  simp only [aG,B6,if_true];rw [if_neg (by omega)];exact congrArg (fun z=>some (AV.int .u64 z)) this
 ·simp only [jm];rw [IntWalk.i64_in _ (by omega)]
theorem vS{t:Sl Int}(hl:x.l.length<=1000000)(hk:∀ u ∈ x.l,u.l.length=t.l.length)(DN:t.l.length<=cN)(hs:iR (x.l.map Sl.l))
  (hK:∀ n:Int,K (.ret (.tuple [.int .i64 n,.bool (decide (t.l ∈ x.l.map Sl.l))])) h=true):Sem TP 54 [an cX 1 x,an encI 1 t,.func 55 [] []] h K:=by
 have qC:∀ (a b:Nat) (u v:Sl Int),x.l[a]?=some u->x.l[b]?=some v->a<b->dg u.l v.l=true:=fun a b u v hu hv pG=>by
  have h1:=pairwise_iff_getElem.1 hs;obtain ⟨p1,q1⟩:=jJ.1 hu;obtain ⟨p2,q2⟩:=jJ.1 hv;have:=h1 a b (by simpa using p1) (by simpa using p2) pG
  rwa [getElem_map,getElem_map,q1,q2] at this
 refine F.eY ?_;rw [F.fy];simp only [aR,reduceAdd,reduceEqDiff,reduceIte]
 refine lp (fun m e h'=>∃ i j:Nat,m=j-i/\i<=j/\j<=x.l.length/\h'=h/\(∀ a u,a<i->x.l[a]?=some u->dg u.l t.l=true)/\(∀ a u,j<=a->x.l[a]?=some u->dg u.l t.l=false)/\e 0=an cX 1 x/\e 1=an encI 1 t/\e 2 = .func 55 [] []/\e 8 = .int .i64 (x.l.length:Int)/\e 9 = .int .i64 (i:Int)/\e 10 = .int .i64 (j:Int)) x.l.length
  ⟨0,x.l.length,rfl,zero_le _,dL _,rfl,fun a u ha=>absurd ha (by omega),fun a u ha hu=>absurd (jJ.1 hu).1 (by omega),rfl,rfl,rfl,rfl,rfl,rfl⟩ ?_
 rintro m e h' ⟨i,j,rfl,hij,hj,rfl,Eg,Ka,e0,e1,e2,e8,e9,kM⟩;rw [F.bg.aT];by_cases hlt:i<j
 ·obtain ⟨o1,o2,o3,o4⟩:=M3 (a:=i) (b:=j) (by omega) (h:=h');have hmi:(i+j)/2<j:=by omega
  have him:i<=(i+j)/2:=by omega
  generalize (i+j)/2=q at o3 o4 hmi him;have hq:q<x.l.length:=by omega
  have hv:x.l[q]?=some x.l[q]:=ep hq;generalize x.l[q]=u at hv;have Oz:=ig hv;simp only [e0,e1,e2,e9,kM,aR,reduceAdd,reduceEqDiff,reduceIte,fE (show (i:Int)<(j:Int) by omega),o1,o2,o3,o4,aW x hq,ir hv,fF,nil_append,append_nil];refine ah (k8 (by rw [hk u Oz];exact DN) (hk u Oz) fun c c1 c2=>?_);simp only [aR,reduceAdd,reduceEqDiff,reduceIte];by_cases hc:c<0
  ·have qS:=c1.1 hc;simp only [fE hc,aL,aI hq (show x.l.length<=cN by unfold cN;omega),aq];refine cw.2 ⟨j-(q+1),by omega,rfl,rfl,q+1,j,rfl,by omega,hj,rfl,fun a w ha hw=>?_,Ka,e0,e1,e2,e8,rfl,kM⟩;by_cases Xf:a=q
   ·subst Xf;rw [hv] at hw;cases hw;exact qS
   ·exact j4 (qC a q w u hw hv (by omega)) qS
  ·have qS:dg u.l t.l=false:=by cases hh:dg u.l t.l with|false=>rfl|true=>exact absurd (c1.2 hh) hc
   simp only [eT hc,aJ];refine cw.2 ⟨q-i,by omega,rfl,rfl,i,q,rfl,him,by omega,rfl,Eg,fun a w ha hw=>?_,e0,e1,e2,e8,e9,rfl⟩;by_cases Xf:a=q
   ·subst Xf;rw [hv] at hw;cases hw;exact qS
   ·cases hh:dg w.l t.l with
    |false=>rfl
    |true=>rw [j4 (qC q a u w hv hw (by omega)) hh] at qS;cases qS
 ·obtain rfl:i=j:=by omega
  simp only [e9,kM,aR,reduceAdd,reduceEqDiff,reduceIte,eT (show ¬ (i:Int)<(i:Int) by omega),oM];rw [F.bg.aF];simp only [bO,reduceEqDiff,reduceIte,e0,e1,e2,e8,e9,aR,reduceAdd,reduceEqDiff,reduceIte];by_cases hin:i<x.l.length
  ·have hv:x.l[i]?=some x.l[i]:=ep hin;generalize x.l[i]=u at hv;have Oz:=ig hv;simp only [bh hin,aL,aW x hin,ir hv,aq,fF,nil_append,append_nil];refine ah (k8 (by rw [hk u Oz];exact DN) (hk u Oz) fun c c1 c2=>?_);simp only [aR,reduceAdd,reduceEqDiff,reduceIte,cA]
   have:decide (c=0)=decide (t.l ∈ x.l.map Sl.l):=by
    rw [decide_eq_decide,c2,mem_map];constructor
    ·intro he;exact ⟨u,Oz,he⟩
    ·rintro ⟨w,hw,he⟩;obtain ⟨a,ha⟩:=getElem?_of_mem hw;by_cases h1:a<i
     ·have:=Eg a w h1 ha;rw [he,gL] at this;cases this
     ·by_cases h2:a=i
      ·subst h2;rw [hv] at ha;cases ha;exact he
      ·have h3:=qC i a u w hv ha (by omega);rw [he,Ka i u (dL _) hv] at h3;cases h3
   rw [this];exact hK _
  ·simp only [eT (show ¬ (i:Int)<(x.l.length:Int) by omega),aJ]
   have:decide (t.l ∈ x.l.map Sl.l)=false:=by
    rw [decide_eq_false_iff_not,mem_map];rintro ⟨w,hw,he⟩;obtain ⟨a,ha⟩:=getElem?_of_mem hw;have:=Eg a w (by have:=(jJ.1 ha).1;omega) ha;rw [he,gL] at this;cases this
   rw [this] at hK;exact hK _
theorem Ac(hs:s.ok)(hv:cG s=true){nm:b6}{t:Sl Int}{q:Rel}(hj:jb (gv nm (t.l.length:Int)) s.aC.l=(j:Int))(hq:s.aC.l[j]?=some q)(OT:q.arity=(t.l.length:Int))(DN:t.l.length<=cN)
  (hK:K (.ret (.tuple [.bool (decide (t.l ∈ q.aN.l.map Sl.l)),.int .i64 0])) h=true):Sem TP 21 [.agg (ak s),.str nm,an encI 1 t] h K:=by
 refine Sem.data (r:=.tuple [.bool (decide (t.l ∈ q.aN.l.map Sl.l)),.int .i64 0]) ?_ (by simp [AV.cL,AV.pure,eu,cj kf]) hK;clear hK;refine F.wg ?_;rw [F.yA];simp only [cT (bS s),aq,bU];have g0:(Heap.empty.alloc (.cells (ak s))).get 0=some (.cells (ak s)):=aA _ _;generalize (Heap.empty.alloc (.cells (ak s)))=H at g0 ⊢;have l0:ag (some 2) (.ptr 0 0) H=some (.agg (ak s)):=by rw [aj g0,bV (cs:=ak s) (n:=2) rfl]
 have l1:ag none (.ptr 0 1) H=some (an aQ 3 s.aC):=by rw [aj g0];rfl
 have Nn:=(jJ.1 hq).1;have vz:=(eS.1 hv).rel _ (List.mem_map_of_mem (ig hq));obtain ⟨_,k,hk1,HA,hkp,Uf⟩:=vz;have afp:q.arity=(k:Int):=hk1;have hkl:t.l.length=k:=by omega
 simp only [l0,aq];refine ah (dG hs ?_);rw [hv];simp only [aR,reduceAdd,reduceEqDiff,reduceIte,Bool.not_true,aJ,l0];refine ah (rS hs ?_);rw [hj];simp only [aR,reduceAdd,reduceEqDiff,reduceIte,eT (show ¬ (j:Int)<0 by omega),l1,aW s.aC Nn,qQ hq];refine ah (vS (by have:=(eo hv).1.Fj q (ig hq);omega) (fun u hu=>by rw [hkl];exact (Uf.1 _ (List.mem_map_of_mem hu)).1) DN Uf.2 fun n=>?_);simp only [aR,reduceAdd,reduceEqDiff,reduceIte];exact gh rfl
def JX(p:vR×List (Sl Int)):b6×Int×List (List Int):=(p.1.1,p.1.2.1,p.2.map Sl.l)
structure Deep (k:Nat) (h:Heap) (a:AV) (l:List (vR×List (Sl Int))):Prop where
 own:Own ic 3 k h a (l.map (·.1))
 row:∀ p ∈ l,Own cX 1 k h p.1.2.2.1 p.2
 none:∀ p ∈ l,p.2 = []->p.1.2.2.1 = .ax
 sep:∀ p ∈ l,∀ b,cD p.1.2.2.1=some b->cD a≠some b
 dis:l.Pairwise fun p q=>∀ b,cD p.1.2.2.1=some b->cD q.1.2.2.1≠some b
theorem Deep.nil{k:Nat}{h:Heap}:Deep k h .ax []:=⟨.nil,by simp,by simp,by simp,.nil⟩
section
variable {k:Nat} {h h':Heap} {a:AV} {l:List (vR×List (Sl Int))}
theorem Deep.ext(o:Deep k h a l)(hx:bu h h'):Deep k h' a l:=⟨o.own.ext hx,fun p hp=>(o.row p hp).ext hx,o.none,o.sep,o.dis⟩
theorem Deep.low(o:Deep k h a l){d:Nat}(hd:d<k)(x:j5):Deep k (h.set d x) a l:=⟨o.own.kL hd x,fun p hp=>(o.row p hp).kL hd x,o.none,o.sep,o.dis⟩
theorem Deep.Dl(o:Deep k h a l){j:Nat}(hj:j<=k):Deep j h a l:=⟨o.own.Dl hj,fun p hp=>(o.row p hp).Dl hj,o.none,o.sep,o.dis⟩
theorem Deep.push{m:Nat}(o:Deep k h a l)(hk:k<=h.next)(hroom:(l.length+1)*48<=cI)(v:vR)(ts:List (Sl Int))(hm:k<=m)(hlt:∀ p ∈ l,∀ b,cD p.1.2.2.1=some b->b<m)
  (ov:Own cX 1 m h v.2.2.1 ts) (hvn:ts = []->v.2.2.1 = .ax) (X3:∀ b,cD v.2.2.1=some b->cD a≠some b) :
  ∃ a' h',b7 3 48 a (.slice h.next 0 1 3) (h.alloc (.cells (ic v)))=some (a',h')/\Deep k h' a' (l++[(v,ts)])/\(∀ c,c<h.next->cD a≠some c->h'.get c=h.get c)/\h.next<=h'.next/\(∀ h0,bu h0 h->h0.next<=k->bu h0 h')/\∀ c,cD a'=some c->h.next<=c:=by
 obtain ⟨a',h',e1,o1,f1,n1,x1,b1⟩:=o.own.push lM u9 hk (bytes:=48) (by simpa using hroom) v;refine ⟨a',h',e1,⟨by rw [map_append];exact o1,fun p hp=>?_,fun p hp=>?_,fun p hp b hb=>?_,?_⟩,f1,n1,x1,b1⟩
 ·rcases mem_append.1 hp with hp|hp
  ·exact (o.row p hp).agree (fun b hb=>f1 b ((o.row p hp).lt hb) (o.sep p hp b hb)) n1
  ·rw [mem_singleton] at hp;subst hp;exact (ov.agree (fun b hb=>f1 b (ov.lt hb) (X3 b hb)) n1).Dl hm
 ·rcases mem_append.1 hp with hp|hp
  ·exact o.none p hp
  ·rw [mem_singleton] at hp;subst hp;exact hvn
 ·intro hc;have:=b1 b hc;rcases mem_append.1 hp with hp|hp
  ·have:=(o.row p hp).lt hb;omega
  ·rw [mem_singleton] at hp;subst hp;have:=ov.lt hb;omega
 ·refine pairwise_append.2 ⟨o.dis,pairwise_singleton _ _,fun p hp q hq b hb hc=>?_⟩;rw [mem_singleton] at hq;subst hq;have:=hlt p hp b hb;have:=ov.ge hc;omega
end
set_option maxHeartbeats 2000000 in
theorem A1(hs:s.small)(hK:∀ a h' l,bu h h'->Deep h.next h' a l->l.map JX=s.aC.l.map bH->K (.ret (.agg [.int .i64 s.size,a])) h'=true):Sem TP 46 [.agg (ak s)] h K:=by
 have hm:cI=140737488355328:=rfl;have hbig:=hs.ok';refine F.tK ?_;rw [F.wh];simp only [cT (bS s),aq,Heap.aM];have g0:(Heap.alloc (Heap.alloc h (.cells (ak s))) (.cells [.int .i64 0,.ax])).get h.next=some (.cells (ak s)):=by rw [Heap.aV,Heap.aM,if_neg (by omega)];exact aA _ _
 have g1:(Heap.alloc (Heap.alloc h (.cells (ak s))) (.cells [.int .i64 0,.ax])).get (h.next+1)=some (.cells [.int .i64 0,.ax]):=aA _ _;have gn:(Heap.alloc (Heap.alloc h (.cells (ak s))) (.cells [.int .i64 0,.ax])).next=h.next+2:=rfl
 have gx:bu h (Heap.alloc (Heap.alloc h (.cells (ak s))) (.cells [.int .i64 0,.ax])):=(bu.alloc _ _).trans (bu.alloc _ _);generalize (Heap.alloc (Heap.alloc h (.cells (ak s))) (.cells [.int .i64 0,.ax]))=H1 at g0 g1 gn gx ⊢;have lz:ag none (.ptr h.next 0) H1=some (.int .i64 s.size):=by rw [aj g0];rfl
 have ha:iw [.int .i64 0,.ax] [(0,1)] [.int .i64 s.size]=some (.agg [.int .i64 s.size,.ax]):=rfl;obtain ⟨H2,qX,p2,po,pn⟩:=cr (h:=H1) (zs:=[.int .i64 0,.ax]) (cs:=[.int .i64 s.size,.ax]) (n:=2) rfl rfl rfl;rw [gn] at p2 po pn qX;have p0:H2.get h.next=some (.cells (ak s)):=by rw [po _ (by omega)];exact g0
 have p1:H2.get (h.next+1)=some (.cells [.int .i64 0,.ax]):=by rw [po _ (by omega)];exact g1
 have px:bu h H2:=⟨by omega,fun b hb=>by rw [po _ (by omega)];exact gx.get b hb⟩
 have lr:ag none (.ptr h.next 1) H2=some (an aQ 3 s.aC):=by rw [aj p0];rfl
 simp only [aR,reduceAdd,reduceEqDiff,reduceIte,lz,ha,gn,qX,lr]
 refine aE 0 s.aC.l.length (zero_le _) (fun i e h'=>∃ a l,h'.get (h.next+1)=some (.cells [.int .i64 0,.ax])/\h'.get (h.next+2)=some (.cells [.int .i64 s.size,a])/\Deep (h.next+3) h' a l/\l.map JX=(s.aC.l.take i).map bH/\bu h h'/\h.next+3<=h'.next /\
  e 2 = .ptr (h.next+1) 0/\e 3 = .ptr (h.next+2) 0/\e 13=an aQ 3 s.aC/\e 14 = .int .i64 (s.aC.l.length:Int)/\e 15 = .int .i64 (i:Int)) ⟨_,[],p1,p2,.nil,rfl,px,by omega,rfl,rfl,rfl,rfl,rfl⟩ ?_ ?_
 ·rintro i e h' _ hi ⟨a,l,q1,q2,o,hl,qx,qn,e2,e3,qi,oT,nZ⟩ K' hn fK hr hp;have hv:s.aC.l[i]?=some s.aC.l[i]:=ep hi;generalize s.aC.l[i]=r at hv;have og:=ig hv;have WJ:l.length=i:=by have:=congrArg List.length hl;rw [length_map,length_map,length_take,Nat.min_eq_left (by omega)] at this;exact this
  obtain ⟨H3,Mr,p3,QL,T8⟩:=cr (h:=h') (zs:=[.str [],.int .i64 0,.ax]) (cs:=aQ r) (n:=3) rfl rfl (fT r);have xF:iw [.str [],.int .i64 0,.ax] [(0,1),(1,1)] [.str r.name,.int .i64 r.arity]=some (.agg [.str r.name,.int .i64 r.arity,.ax]):=rfl;have l0:ag none (.ptr h'.next 0) H3=some (.str r.name):=by rw [aj p3];rfl
  have l1:ag none (.ptr h'.next 1) H3=some (.int .i64 r.arity):=by rw [aj p3];rfl
  obtain ⟨H4,OS,p4,Lt,WT⟩:=cr (h:=H3) (zs:=[.str [],.int .i64 0,.ax]) (cs:=[.str r.name,.int .i64 r.arity,.ax]) (n:=3) rfl rfl rfl;rw [T8] at OS p4 Lt WT;have x4:bu h' H4:=⟨by omega,fun b hb=>by rw [Lt b (by omega),QL b (by omega)]⟩
  have l2:ag none (.ptr h'.next 2) H4=some (an cX 1 r.aN):=by rw [aj (show H4.get h'.next=some (.cells (aQ r)) by rw [Lt _ (by omega)];exact p3)];rfl
  have DN:=hs.Fj r og;have X6:r.aN.l.length<=cN:=by unfold cN;omega
  rw [F.cF.aT];simp only [qi,oT,nZ,aR,reduceAdd,reduceEqDiff,reduceIte,bh hi,aW s.aC hi,dm dQ hv,Mr];simp only [aR,reduceAdd,reduceEqDiff,reduceIte,l0,l1,xF,T8,OS,l2]
  refine aE 0 r.aN.l.length (zero_le _) (fun j e h2=>∃ tv ts,h2.get (h'.next+1)=some (.cells [.str r.name,.int .i64 r.arity,tv])/\Own cX 1 (h'.next+2) h2 tv ts/\(ts = []->tv = .ax)/\ts.map Sl.l=(r.aN.l.take j).map Sl.l/\bu h' h2/\h'.next+2<=h2.next /\
   e 2 = .ptr (h.next+1) 0/\e 3 = .ptr (h.next+2) 0/\e 13=an aQ 3 s.aC/\e 14 = .int .i64 (s.aC.l.length:Int)/\e 15 = .int .i64 (i:Int)/\e 6 = .ptr (h'.next+1) 0/\e 25=an cX 1 r.aN/\e 26 = .int .i64 (r.aN.l.length:Int)/\e 27 = .int .i64 (j:Int))
   ⟨_,[],p4,.nil,fun _=>rfl,rfl,x4,by omega,e2,e3,qi,oT,nZ,rfl,rfl,rfl,rfl⟩ ?_ ?_
  ·rintro j e h2 _ hj ⟨tv,ts,q6,ot,htn,JG,x2,QM,e2,e3,qi,oT,nZ,e6,Lu,BX,BY⟩ K2 u6 gm rY F5;have HI:r.aN.l[j]?=some r.aN.l[j]:=ep hj;generalize r.aN.l[j]=t at HI;have abL:ts.length=j:=by have:=congrArg List.length JG;rw [length_map,length_map,length_take,Nat.min_eq_left (by omega)] at this;exact this
   have lt:ag none (.ptr (h'.next+1) 2) h2=some tv:=by rw [aj q6];rfl
   rw [F.cF.dr];simp only [e6,Lu,BX,BY,aR,reduceAdd,reduceEqDiff,reduceIte,bh hj,aW r.aN hj,ir HI,lt];refine ah (nQ (by have:=hs.X5 r og t (ig HI);omega) fun y hy=>?_);obtain ⟨a5,h5,c5,o5,f5,n5,w5,b5⟩:=ot.push qI DO QM (bytes:=24) (by rw [hm];omega) y;have hne:cD tv≠some (h'.next+1):=fun hb=>by have:=ot.ge hb;omega
   have s6:h5.get (h'.next+1)=some (.cells [.str r.name,.int .i64 r.arity,tv]):=by rw [f5 _ (by omega) hne];exact q6
   have c6:=o5.lC
   have st:aS 1 (.ptr (h'.next+1) 2) a5 h5=some (h5.set (h'.next+1) (.cells [.str r.name,.int .i64 r.arity,a5])):=by
    rw [cq (n:=1) s6 c6.2.1 c6.1 (by simp),c6.2.2];rfl
   simp only [aR,reduceAdd,reduceEqDiff,reduceIte,lt,AV.beq_refl,Bool.and_self,if_true,MX,c5,e6,BY,st,aI hj X6];refine u6 _ _ ⟨a5,ts++[y],by rw [Heap.aK,if_pos rfl],o5.kL (by omega) _,fun h=>absurd (congrArg List.length h) (by simp),?_,(w5 h' x2 (by omega)).set (by omega) _,by rw [Heap.bl];omega,e2,e3,qi,oT,nZ,e6,Lu,BX,rfl⟩;rw [map_append,JG,take_add_one,HI,map_append];simp [hy]
  ·rintro e h2 ⟨tv,ts,q6,ot,htn,JG,x2,QM,e2,e3,qi,oT,nZ,e6,Lu,BX,BY⟩ K2 gm;rw [kC (dL _)] at JG;have o2:=o.ext x2;obtain ⟨BZ,Kh⟩:=nc ot;have lq:ag (some 3) (.ptr (h'.next+1) 0) h2=some (.agg (ic (r.name,r.arity,⟨tv,BZ,Kh⟩))):=by rw [aj q6];rfl
   have lo:ag none (.ptr (h.next+2) 1) h2=some a:=by rw [aj (show h2.get (h.next+2)=some (.cells [.int .i64 s.size,a]) by rw [x2.get _ (by omega)];exact q2)];rfl
   obtain ⟨a5,h5,c5,o5,f5,n5,w5,b5⟩:=o2.push (m:=h'.next+2) (by omega) (by have:=hs.aC;rw [hm];omega) (r.name,r.arity,⟨tv,BZ,Kh⟩) ts (by omega)
    (fun p hp b hb=>by have:=(o.row p hp).lt hb;omega) ot htn (fun b hb hc=>by have:=o.own.lt hc;have:=ot.ge hb;omega)
   have hne:cD a≠some (h.next+2):=fun hb=>by have:=o.own.ge hb;omega
   have WU:cD a≠some (h.next+1):=fun hb=>by have:=o.own.ge hb;omega
   have s2:h5.get (h.next+2)=some (.cells [.int .i64 s.size,a]):=by rw [f5 _ (by omega) hne,x2.get _ (by omega)];exact q2
   have s1:h5.get (h.next+1)=some (.cells [.int .i64 0,.ax]):=by rw [f5 _ (by omega) WU,x2.get _ (by omega)];exact q1
   have c6:=o5.own.lC
   have st:aS 1 (.ptr (h.next+2) 1) a5 h5=some (h5.set (h.next+2) (.cells [.int .i64 s.size,a5])):=by
    rw [cq (n:=1) s2 c6.2.1 c6.1 (by simp),c6.2.2];rfl
   rw [F.cF.dr];simp only [BX,BY,aR,reduceAdd,reduceEqDiff,reduceIte,aX];rw [gm,F.cF.cz];simp only [aR,reduceAdd,reduceEqDiff,reduceIte,e3,e6,nZ,lo,lq,Lr,c5,st,aI hi hbig];refine hn _ _ ⟨a5,_,?_,?_,o5.low (by omega) _,?_,(w5 h (qx.trans x2) (by omega)).set (by omega) _,by rw [Heap.bl];omega,e2,e3,qi,oT,rfl⟩
   ·rw [Heap.aK,if_neg (by omega)];exact s1
   ·rw [Heap.aK,if_pos rfl]
   ·rw [map_append,hl,take_add_one,hv,map_append];simp [bH,JX,JG]
 ·rintro e h' ⟨a,l,q1,q2,o,hl,qx,qn,e2,e3,qi,oT,nZ⟩ K' fK;rw [kC (dL _)] at hl;have lo:ag (some 2) (.ptr (h.next+2) 0) h'=some (.agg [.int .i64 s.size,a]):=by rw [aj q2];rfl
  have c:=o.own.lC
  have BD:bw [.int .i64 s.size,a]=true:=by
   have:=c.1;rw [c.2.2] at this;simp only [bw,Bool.and_true] at this ⊢;rw [this];rfl
  have st:aS 2 (.ptr (h.next+1) 0) (.agg [.int .i64 s.size,a]) h'=some (h'.set (h.next+1) (.cells [.int .i64 s.size,a])):=by
   rw [cq (n:=2) (v:=.agg [.int .i64 s.size,a]) q1 rfl BD (by simp)];rfl
  have QH:ag (some 2) (.ptr (h.next+1) 0) (h'.set (h.next+1) (.cells [.int .i64 s.size,a]))=some (.agg [.int .i64 s.size,a]):=by rw [aj (cs:=[.int .i64 s.size,a]) (by rw [Heap.aK,if_pos rfl])];rfl
  rw [F.cF.aT];simp only [oT,nZ,aR,reduceAdd,reduceEqDiff,reduceIte,aX];rw [fK,F.cF.aF];simp only [bO,reduceEqDiff,reduceIte,e2,e3,lo,st,aq,Gl,QH,oneOf];exact hK a _ l (qx.set (by omega) _) ((o.low (by omega) _).Dl (by omega)) hl
theorem sj{t:Sl Int}(hl:x.l.length<=1000000)(hk:∀ u ∈ x.l,u.l.length=t.l.length)(DN:t.l.length<=cN)(hs:iR (x.l.map Sl.l))
  (hK:∀ n:Nat,n<=x.l.length->(∀ a u,a<n->x.l[a]?=some u->dg u.l t.l=true)->(∀ a u,n<=a->x.l[a]?=some u->dg u.l t.l=false)->K (.ret (.tuple [.int .i64 (n:Int),.bool (decide (t.l ∈ x.l.map Sl.l))])) h=true):Sem TP 54 [an cX 1 x,an encI 1 t,.func 55 [] []] h K:=by
 have qC:∀ (a b:Nat) (u v:Sl Int),x.l[a]?=some u->x.l[b]?=some v->a<b->dg u.l v.l=true:=fun a b u v hu hv pG=>by
  have h1:=pairwise_iff_getElem.1 hs;obtain ⟨p1,q1⟩:=jJ.1 hu;obtain ⟨p2,q2⟩:=jJ.1 hv;have:=h1 a b (by simpa using p1) (by simpa using p2) pG
  rwa [getElem_map,getElem_map,q1,q2] at this
 refine F.eY ?_;rw [F.fy];simp only [aR,reduceAdd,reduceEqDiff,reduceIte]
 refine lp (fun m e h'=>∃ i j:Nat,m=j-i/\i<=j/\j<=x.l.length/\h'=h/\(∀ a u,a<i->x.l[a]?=some u->dg u.l t.l=true)/\(∀ a u,j<=a->x.l[a]?=some u->dg u.l t.l=false)/\e 0=an cX 1 x/\e 1=an encI 1 t/\e 2 = .func 55 [] []/\e 8 = .int .i64 (x.l.length:Int)/\e 9 = .int .i64 (i:Int)/\e 10 = .int .i64 (j:Int)) x.l.length
  ⟨0,x.l.length,rfl,zero_le _,dL _,rfl,fun a u ha=>absurd ha (by omega),fun a u ha hu=>absurd (jJ.1 hu).1 (by omega),rfl,rfl,rfl,rfl,rfl,rfl⟩ ?_
 rintro m e h' ⟨i,j,rfl,hij,hj,rfl,Eg,Ka,e0,e1,e2,e8,e9,kM⟩;rw [F.bg.aT];by_cases hlt:i<j
 ·obtain ⟨o1,o2,o3,o4⟩:=M3 (a:=i) (b:=j) (by omega) (h:=h');have hmi:(i+j)/2<j:=by omega
  have him:i<=(i+j)/2:=by omega
  generalize (i+j)/2=q at o3 o4 hmi him;have hq:q<x.l.length:=by omega
  have hv:x.l[q]?=some x.l[q]:=ep hq;generalize x.l[q]=u at hv;have Oz:=ig hv;simp only [e0,e1,e2,e9,kM,aR,reduceAdd,reduceEqDiff,reduceIte,fE (show (i:Int)<(j:Int) by omega),o1,o2,o3,o4,aW x hq,ir hv,fF,nil_append,append_nil];refine ah (k8 (by rw [hk u Oz];exact DN) (hk u Oz) fun c c1 c2=>?_);simp only [aR,reduceAdd,reduceEqDiff,reduceIte];by_cases hc:c<0
  ·have qS:=c1.1 hc;simp only [fE hc,aL,aI hq (show x.l.length<=cN by unfold cN;omega),aq];refine cw.2 ⟨j-(q+1),by omega,rfl,rfl,q+1,j,rfl,by omega,hj,rfl,fun a w ha hw=>?_,Ka,e0,e1,e2,e8,rfl,kM⟩;by_cases Xf:a=q
   ·subst Xf;rw [hv] at hw;cases hw;exact qS
   ·exact j4 (qC a q w u hw hv (by omega)) qS
  ·have qS:dg u.l t.l=false:=by cases hh:dg u.l t.l with|false=>rfl|true=>exact absurd (c1.2 hh) hc
   simp only [eT hc,aJ];refine cw.2 ⟨q-i,by omega,rfl,rfl,i,q,rfl,him,by omega,rfl,Eg,fun a w ha hw=>?_,e0,e1,e2,e8,e9,rfl⟩;by_cases Xf:a=q
   ·subst Xf;rw [hv] at hw;cases hw;exact qS
   ·cases hh:dg w.l t.l with
    |false=>rfl
    |true=>rw [j4 (qC q a u w hv hw (by omega)) hh] at qS;cases qS
 ·obtain rfl:i=j:=by omega
  simp only [e9,kM,aR,reduceAdd,reduceEqDiff,reduceIte,eT (show ¬ (i:Int)<(i:Int) by omega),oM];rw [F.bg.aF];simp only [bO,reduceEqDiff,reduceIte,e0,e1,e2,e8,e9,aR,reduceAdd,reduceEqDiff,reduceIte];by_cases hin:i<x.l.length
  ·have hv:x.l[i]?=some x.l[i]:=ep hin;generalize x.l[i]=u at hv;have Oz:=ig hv;simp only [bh hin,aL,aW x hin,ir hv,aq,fF,nil_append,append_nil];refine ah (k8 (by rw [hk u Oz];exact DN) (hk u Oz) fun c c1 c2=>?_);simp only [aR,reduceAdd,reduceEqDiff,reduceIte,cA]
   have:decide (c=0)=decide (t.l ∈ x.l.map Sl.l):=by
    rw [decide_eq_decide,c2,mem_map];constructor
    ·intro he;exact ⟨u,Oz,he⟩
    ·rintro ⟨w,hw,he⟩;obtain ⟨a,ha⟩:=getElem?_of_mem hw;by_cases h1:a<i
     ·have:=Eg a w h1 ha;rw [he,gL] at this;cases this
     ·by_cases h2:a=i
      ·subst h2;rw [hv] at ha;cases ha;exact he
      ·have h3:=qC i a u w hv ha (by omega);rw [he,Ka i u (dL _) hv] at h3;cases h3
   rw [this];exact hK i hj Eg Ka
  ·simp only [eT (show ¬ (i:Int)<(x.l.length:Int) by omega),aJ]
   have:decide (t.l ∈ x.l.map Sl.l)=false:=by
    rw [decide_eq_false_iff_not,mem_map];rintro ⟨w,hw,he⟩;obtain ⟨a,ha⟩:=getElem?_of_mem hw;have:=Eg a w (by have:=(jJ.1 ha).1;omega) ha;rw [he,gL] at this;cases this
   rw [this] at hK;exact hK i hj Eg Ka
structure lE where
 kind:Int
 name:b6
 t:Sl Int
 to:Bool
def pz(a:lE):List AV:=[.int .i64 a.kind,.str a.name,an AM.encI 1 a.t,.bool a.to]
def lE.ok(a:lE):Prop:=a.name.length<=cN/\a.t.l.length<=cN
theorem Ad(a:lE):(pz a).length=4:=rfl
def afq(l:List lE):Prop:=l.length<=25/\∀ a ∈ l,a.name.length<=1000/\a.t.l.length<=60
theorem fN{x:Sl lE}(hx:x.l.length<=cN){h:Heap}{K:Out->Heap->Bool}(hK:∀ b:Bool,(b=true->afq x.l)->K (.ret (.bool b)) h=true):Sem TP 11 [an pz 4 x] h K:=by
 refine F.EX ?_;rw [F.Hl];refine aE 0 (min x.l.length 26) (zero_le _) (fun i e h'=>h'=h/\e 0=an pz 4 x/\e 2 = .bool false/\e 3 = .int .i64 (i:Int)/\∀ a ∈ x.l.take i,a.name.length<=1000/\a.t.l.length<=60) ⟨rfl,rfl,rfl,rfl,by simp⟩ ?_ ?_
 ·rintro i e h' _ hi ⟨rfl,e0,e2,e3,hs⟩ K' hn fK hr hp;have hil:i<x.l.length:=by omega
  have hv:x.l[i]?=some x.l[i]:=ep hil;generalize x.l[i]=a at hv;have l1:ag none (.dN (x.l.flatMap pz) (i*4+1)) h'=some (.str a.name):=fL Ad hv (by omega);have l2:ag none (.dN (x.l.flatMap pz) (i*4+2)) h'=some (an encI 1 a.t):=fL Ad hv (by omega);rw [F.fN.aT];simp only [e0,e3,aR,reduceAdd,reduceEqDiff,reduceIte,bh hil,fE (by omega:(i:Int)<26),aW x hil,l1];by_cases h1:(1000:Int)<(a.name.length:Int)
  ·simp only [fE h1,aL];rw [hr,F.fN.bB];simp only [aR,reduceAdd,reduceEqDiff,reduceIte,e2];exact hK false (fun h=>by cases h)
  ·simp only [eT h1,aR,reduceAdd,reduceEqDiff,reduceIte,e0,e3,aW x hil,l2];by_cases h2:(60:Int)<(a.t.l.length:Int)
   ·simp only [fE h2,aL];rw [hr,F.fN.bB];simp only [aR,reduceAdd,reduceEqDiff,reduceIte,e2];exact hK false (fun h=>by cases h)
   ·simp only [eT h2,aR,reduceAdd,reduceEqDiff,reduceIte,e3,aI hil hx];refine hn _ _ ⟨rfl,e0,e2,rfl,fun b hb=>?_⟩;rw [take_add_one,hv] at hb;rcases mem_append.1 hb with hb|hb
    ·exact hs b hb
    ·simp only [toList_some,mem_singleton] at hb;subst hb;omega
 ·rintro e h' ⟨rfl,e0,e2,e3,hs⟩ K' fK;rw [F.fN.aT]
  have fin:∀ E:Env,E 0=an pz 4 x->F.fN.cQ K (.exit 0) ⟨E,33,[],h'⟩=true:=fun E hE=>by
   rw [F.fN.aF];simp only [hE,aR,reduceAdd,reduceEqDiff,reduceIte];refine hK _ fun hb=>?_;have hb:=of_decide_eq_true hb;have hl:x.l.length<=25:=by omega
   refine ⟨hl,fun a ha=>hs a ?_⟩
   rwa [kC (by omega)]
  by_cases hl:x.l.length<=26
  ·have e3':e 3 = .int .i64 (x.l.length:Int):=by rw [e3,Nat.min_eq_left hl]
   simp only [e0,e3',aR,reduceAdd,reduceEqDiff,reduceIte,aX];rw [fK];exact fin _ (by simp [bO,e0])
  ·have e3':e 3 = .int .i64 26:=by rw [e3,Nat.min_eq_right (by omega)];rfl
   simp only [e0,e3',aR,reduceAdd,reduceEqDiff,reduceIte,fE (by omega:(26:Int)<(x.l.length:Int)),Int.lt_irrefl,decide_false];rw [fK];exact fin _ (by simp [bO,e0])
theorem B3(ts:List (Sl Int)):ts.flatMap cX=ts.map fun t=>an encI 1 t:=by
 induction ts with
 |nil=>rfl
 |cons t ts ih=>rw [flatMap_cons,ih];rfl
theorem JY(ts:List (Sl Int)):bw (ts.flatMap cX)=true:=by
 induction ts with
 |nil=>rfl
 |cons t ts ih=>rw [flatMap_cons];cases t<;>exact ih
theorem LO{ts:List (Sl Int)}(o:Own cX 1 k h v ts)(hn:ts = []->v = .ax)(hlen:ts.length<=1000000){vb:Nat}{y:Sl Int}(Vu:h.get vb=some (.cells (cX y)))(hne:cD v≠some vb)(Wi:k<=h.next){i:Nat}(hi:i<=ts.length)
  (hK:∀ v' h',Own cX 1 k h' v' (ts.take i++y :: ts.drop i)->(∀ b,b<h.next->cD v≠some b->h'.get b=h.get b)->h.next<=h'.next->cD v'=some h.next->K (.ret v') h'=true):Sem TP 56 [v,.int .i64 (i:Int),.slice vb 0 1 1] h K:=by
 have jO:(an encI 1 y).one=true:=by cases y<;>rfl
 refine iM.U5 qE (f:=56) rfl ?_;have hci:((i:Nat):Int)=Int.ofNat i:=rfl;rw [hci]
 cases o with
 |nil=>
  obtain rfl:i=0:=by simpa using hi
  have e:rF [.ax,.int .i64 (Int.ofNat 0),.slice vb 0 1 1] h K=((an encI 1 y).one&&(Nat.beq 0 0&&K (.ret (.slice h.next 0 1 1)) (h.alloc (.cells [an encI 1 y])))):=by
   simp only [rF,Vu,cX]
  rw [e,jO];refine hK _ (h.alloc (.cells [an encI 1 y])) ?_ (fun b hb _=>by rw [Heap.aV,if_neg (by omega)]) (by rw [Heap.aM];omega) rfl;exact .row h.next [y] Wi (by rw [Heap.aM];omega) (aA _ _)
 |row b ts h1 h2 h3=>
  have hl:(ts.flatMap cX).length=ts.length:=by rw [fX qI];omega
  have Xg:1<=ts.length:=by
   rcases eq_zero_or_pos ts.length with h0|h0
   ·have:=hn (length_eq_zero_iff.1 h0);cases this
   ·exact h0
  have XT:b≠vb:=fun e=>hne (by rw [e];rfl)
  have e:rF [.slice b 0 ts.length 1,.int .i64 (Int.ofNat i),.slice vb 0 1 1] h K=((an encI 1 y).one&&(!(Nat.beq b vb)&&(Nat.beq (ts.flatMap cX).length ts.length&&(ble 1 ts.length&&(ble i ts.length&&(ble ((ts.length+1)*24) 140737488355328&&(bw (ts.flatMap cX) &&
    K (.ret (.slice h.next 0 (ts.length+1) 1)) ((h.set b .dead).alloc (.cells ((ts.flatMap cX).take i++an encI 1 y :: (ts.flatMap cX).drop i)))))))))):=by
   simp only [rF,Vu,cX,h3]
  have c1:Nat.beq b vb=false:=by cases hh:Nat.beq b vb with|false=>rfl|true=>exact absurd (eq_of_beq_eq_true hh) XT
  have c2:Nat.beq (ts.flatMap cX).length ts.length=true:=by rw [hl];exact Nat.beq_refl _
  have c3:ble 1 ts.length=true:=ble_eq_true_of_le Xg;have c4:ble i ts.length=true:=ble_eq_true_of_le hi;have c5:ble ((ts.length+1)*24) 140737488355328=true:=ble_eq_true_of_le (by omega);rw [e,jO,c1,c2,c3,c4,c5,JY]
  have hcs:(ts.flatMap cX).take i++an encI 1 y :: (ts.flatMap cX).drop i=(ts.take i++y :: ts.drop i).flatMap cX:=by
   rw [B3,B3,map_append,map_cons,map_take,map_drop]
  have hln:ts.length+1=(ts.take i++y :: ts.drop i).length:=by simp;omega
  rw [hcs];show K _ _=true;rw [hln];have pF:(h.set b .dead).next=h.next:=Heap.bl _ _ _
  refine hK _ _ ?_ (fun c hc hb=>?_) (by rw [Heap.aM,pF];omega) rfl
  ·refine .row h.next _ Wi (by rw [Heap.aM,pF];omega) ?_
   rw [<- pF];exact aA _ _
  ·rw [Heap.aV,if_neg (by rw [pF];omega),Heap.aK,if_neg (fun e=>hb (by rw [e];rfl))]
theorem LP{ts:List (Sl Int)}(o:Own cX 1 k h v ts)(hlen:ts.length<=1000000)(Wi:k<=h.next){i:Nat}(hi:i<ts.length)
  (hK:∀ v' h',Own cX 1 k h' v' (ts.take i++ts.drop (i+1))->(∀ b,b<h.next->cD v≠some b->h'.get b=h.get b)->h.next<=h'.next->cD v'=some h.next->K (.ret v') h'=true):Sem TP 57 [v,.int .i64 (i:Int),.int .i64 ((i+1:Nat):Int)] h K:=by
 refine iM.U5 qE (f:=57) rfl ?_;have hci:((i:Nat):Int)=Int.ofNat i:=rfl;have afu:((i+1:Nat):Int)=Int.ofNat (i+1):=rfl;rw [hci,afu]
 cases o with
 |nil=>simp at hi
 |row b ts h1 h2 h3=>
  have hl:(ts.flatMap cX).length=ts.length:=by rw [fX qI];omega
  have e:yo [.slice b 0 ts.length 1,.int .i64 (Int.ofNat i),.int .i64 (Int.ofNat (i+1))] h K=(Nat.beq (ts.flatMap cX).length ts.length&&(ble (i+1) (i+1)&&(ble (i+1) ts.length&&(ble (ts.length*24) 140737488355328&&(bw (ts.flatMap cX) &&
    K (.ret (.slice h.next 0 (ts.length-(i+1-i)) 1)) ((h.set b .dead).alloc (.cells ((ts.flatMap cX).take i++(ts.flatMap cX).drop (i+1))))))))):=by
   simp only [yo,h3]
  have c2:Nat.beq (ts.flatMap cX).length ts.length=true:=by rw [hl];exact Nat.beq_refl _
  have c3:ble (i+1) (i+1)=true:=ble_eq_true_of_le (dL _);have c4:ble (i+1) ts.length=true:=ble_eq_true_of_le hi;have c5:ble (ts.length*24) 140737488355328=true:=ble_eq_true_of_le (by omega);rw [e,c2,c3,c4,c5,JY]
  have hcs:(ts.flatMap cX).take i++(ts.flatMap cX).drop (i+1)=(ts.take i++ts.drop (i+1)).flatMap cX:=by
   rw [B3,B3,map_append,map_take,map_drop]
  have hln:ts.length-(i+1-i)=(ts.take i++ts.drop (i+1)).length:=by simp;omega
  rw [hcs];show K _ _=true;rw [hln];have pF:(h.set b .dead).next=h.next:=Heap.bl _ _ _
  refine hK _ _ ?_ (fun c hc hb=>?_) (by rw [Heap.aM,pF];omega) rfl
  ·refine .row h.next _ Wi (by rw [Heap.aM,pF];omega) ?_
   rw [<- pF];exact aA _ _
  ·rw [Heap.aV,if_neg (by rw [pF];omega),Heap.aK,if_neg (fun e=>hb (by rw [e];rfl))]
theorem M4(hs:iR L){a b:Nat}{u v:List Int}(hu:L[a]?=some u)(hv:L[b]?=some v)(pG:a<b):dg u v=true:=by
 have h1:=pairwise_iff_getElem.1 hs;obtain ⟨p1,q1⟩:=jJ.1 hu;obtain ⟨p2,q2⟩:=jJ.1 hv;have:=h1 a b p1 p2 pG
 rwa [q1,q2] at this
theorem Xh(hs:iR L){n:Nat}{t:List Int}(hlen:∀ u ∈ L,u.length=t.length)(Eg:∀ a u,a<n->L[a]?=some u->dg u t=true)(Ka:∀ a u,n<=a->L[a]?=some u->dg u t=false)(ht:t ∉ L) :
  iR (L.take n++t :: L.drop n):=by
 refine LN hs (fun y hy=>?_) (fun y hy=>?_)
 ·obtain ⟨a,ha⟩:=getElem?_of_mem hy;rw [getElem?_drop] at ha;have hm:=ig ha;exact Ab (hlen y hm) (Ka _ y (by omega) ha) (fun e=>ht (e▸hm))
 ·obtain ⟨a,ha⟩:=getElem?_of_mem hy;have hal:a<n:=by have:=(jJ.1 ha).1;rw [length_take] at this;omega
  rw [getElem?_take,if_pos hal] at ha;exact Eg a y hal ha
theorem Xi(hs:iR L){n:Nat}{t:List Int}(Eg:∀ a u,a<n->L[a]?=some u->dg u t=true)(Ka:∀ a u,n<=a->L[a]?=some u->dg u t=false)(ht:t ∈ L) :
  L[n]?=some t/\iR (L.take n++L.drop (n+1))/\∀ u,u ∈ L.take n++L.drop (n+1)↔u ∈ L/\u≠t:=by
 obtain ⟨a,ha⟩:=getElem?_of_mem ht;have h1:¬ a<n:=fun h=>by have:=Eg a t h ha;rw [gL] at this;cases this
 have han:a=n:=by
  rcases Nat.lt_or_ge n a with h|h
  ·have hl:n<L.length:=by have:=(jJ.1 ha).1;omega
   have:=M4 hs (ep hl) ha h;rw [Ka n _ (dL _) (ep hl)] at this;cases this
  ·omega
 subst han;have e:L.take a++L.drop (a+1)=L.eraseIdx a:=(eraseIdx_eq_take_drop_succ L a).symm;refine ⟨ha,by rw [e];exact List.Pairwise.sublist (eraseIdx_sublist L a) hs,fun u=>?_⟩;constructor
 ·intro hu;rcases mem_append.1 hu with hu|hu
  ·refine ⟨mem_of_mem_take hu,fun he=>?_⟩;subst he;obtain ⟨b,hb⟩:=getElem?_of_mem hu;have WO:b<a:=by have:=(jJ.1 hb).1;rw [length_take] at this;omega
   rw [getElem?_take,if_pos WO] at hb;have:=Eg b u WO hb;rw [gL] at this;cases this
  ·refine ⟨mem_of_mem_drop hu,fun he=>?_⟩;subst he;obtain ⟨b,hb⟩:=getElem?_of_mem hu;rw [getElem?_drop] at hb;have:=M4 hs ha hb (by omega);rw [gL] at this;cases this
 ·rintro ⟨hu,hne⟩;obtain ⟨b,hb⟩:=getElem?_of_mem hu;rcases Nat.lt_trichotomy b a with h|h|h
  ·exact mem_append_left _ (ig (i:=b) (by rw [getElem?_take,if_pos h];exact hb))
  ·subst h;rw [ha] at hb;cases hb;exact absurd rfl hne
  ·exact mem_append_right _ (ig (i:=b-(a+1)) (by rw [getElem?_drop,show a+1+(b-(a+1))=b by omega];exact hb))
theorem Gw{k:Nat}{h:Heap}:∀ (l:List (vR×List (Sl Int))),(∀ p ∈ l,Own cX 1 k h p.1.2.2.1 p.2) ->
  ∃ zs:List Rel,zs.map bH=l.map JX/\zs.length=l.length/\lQ true h ((l.map (·.1)).flatMap ic) (zs.flatMap aQ)
 |[],_=>⟨[],rfl,rfl,.nil⟩
 |p :: l,hp=>by
  obtain ⟨zs,h1,h2,h3⟩:=Gw l fun q hq=>hp q (mem_cons_of_mem _ hq);obtain ⟨x,x1,x2⟩:=(jE.zX (hp p mem_cons_self) mW).fz;have hx:x.l=p.2:=by rw [x1,List.map_map];simp [Function.comp_def]
  obtain ⟨⟨nm,k,v⟩,ts⟩:=p;refine ⟨⟨nm,k,x⟩ :: zs,?_,by simp [h2],?_⟩
  ·rw [map_cons,map_cons,h1];have hx:x.l=ts:=hx;simp [bH,JX,hx]
  ·rw [map_cons,flatMap_cons,flatMap_cons];exact lQ.append (Ls x2) h3
theorem M5{a:AV}{l:List (vR×List (Sl Int))}(o:Own ic 3 k h a (l.map (·.1)))(hp:∀ p ∈ l,Own cX 1 k h p.1.2.2.1 p.2):∃ z:Sl Rel,z.l.map bH=l.map JX/\Fz true h a (an aQ 3 z):=by
 obtain ⟨zs,h1,h2,h3⟩:=Gw l hp;generalize hm:l.map (·.1)=m at o h3
 cases o with
 |nil=>
  have:l = []:=by simpa using hm
  subst this;exact ⟨none,rfl,.dO rfl⟩
 |row b m q1 q2 q3=>
  have hml:m.length=zs.length:=by rw [<- hm,length_map,h2]
  refine ⟨some zs,h1,?_⟩;have:an aQ 3 (some zs) = .au (zs.flatMap aQ) 0 zs.length 3:=rfl;rw [this,hml];exact .slice b 0 zs.length 3 _ _ q3 h3.len h3.rel
theorem yW{t:Sl Int}(hv:Fz true h v (an cX 1 x))(hl:x.l.length<=1000000)(hk:∀ u ∈ x.l,u.l.length=t.l.length)(DN:t.l.length<=cN)(hs:iR (x.l.map Sl.l))
  (hK:∀ n:Nat,n<=x.l.length->(∀ a u,a<n->x.l[a]?=some u->dg u.l t.l=true)->(∀ a u,n<=a->x.l[a]?=some u->dg u.l t.l=false)->K (.ret (.tuple [.int .i64 (n:Int),.bool (decide (t.l ∈ x.l.map Sl.l))])) h=true) :
  Sem TP 54 [v,an encI 1 t,.func 55 [] []] h K:=
 (sj hl hk DN hs (h:=Heap.empty) (K:=fun o h'=>yes (∃ n:Nat,o = .ret (.tuple [.int .i64 (n:Int),.bool (decide (t.l ∈ x.l.map Sl.l))])/\n<=x.l.length/\(∀ a u,a<n->x.l[a]?=some u->dg u.l t.l=true)/\(∀ a u,n<=a->x.l[a]?=some u->dg u.l t.l=false)))
  fun n a b c=>cw.2 ⟨n,rfl,a,b,c⟩).V8 (.cons hv (.cons (.dO (cj kf t)) (.cons (.dO rfl) .nil))) fun o h' ho=>by
  obtain ⟨n,rfl,a,b,c⟩:=cw.1 ho;have:=lQ.cons (old:=false) (h:=h') (Fz.scalar (.int .i64 (n:Int)) rfl) (lQ.cons (Fz.scalar (.bool (decide (t.l ∈ x.l.map Sl.l))) rfl) lQ.nil);exact ⟨_,_,rfl,.tuple _ _ this.len this.rel,hK n a b c⟩
theorem yX(s:St):dh TP s Tryz.f18.results.toList=(match ag (some 2) (s.env 8) s.h,(some [s.env 9]:Option (List AV)) with|some v,some vs=>some (v :: vs)|_,_=>none):=by kernel_rfl
set_option maxHeartbeats 2000000 in
theorem Ae(lu:s.ok)(hv:cG s=true){nm:b6}{t:Sl Int}(hj:jb (gv nm (t.l.length:Int)) s.aC.l=(j:Int))(hr:s.aC.l[j]?=some r)(OT:r.arity=(t.l.length:Int))(hin:jC s.size t.l=true)
  (hK:∀ s',pK s j r t.l is s'->K (.ret (.tuple [.agg (ak s'),.int .i64 0])) h=true):Sem TP 18 [.agg (ak s),.str nm,an encI 1 t,.bool is] h K:=by
 have hm:cI=140737488355328:=rfl;have og:=ig hr;have Nn:j<s.aC.l.length:=(jJ.1 hr).1;have vz:=(eS.1 hv).rel _ (List.mem_map_of_mem og);obtain ⟨_,k,hk1,HA,hkp,Uf⟩:=vz;have afp:r.arity=(k:Int):=hk1;have hkl:t.l.length=k:=by omega
 have DN:t.l.length<=cN:=by unfold cN;omega
 have RO:=(eo hv).1;have hrt:=RO.Fj r og
 have main:Sem TP 18 [.agg (ak s),.str nm,an encI 1 t,.bool is] Heap.empty (fun o h'=>yes (∃ v s',o = .ret (.tuple [v,.int .i64 0])/\pK s j r t.l is s'/\Fz true h' v (.agg (ak s')))):=by
  refine F.EZ ?_;rw [F.Ho];simp only [cT (bS s),aq,Heap.aM,bU];have g0:(Heap.alloc (Heap.alloc Heap.empty (.cells (ak s))) (.cells [.int .i64 0,.ax])).get 0=some (.cells (ak s)):=by simp [Heap.aV,bU]
  have g1:(Heap.alloc (Heap.alloc Heap.empty (.cells (ak s))) (.cells [.int .i64 0,.ax])).get 1=some (.cells [.int .i64 0,.ax]):=by simp [Heap.aV,bU]
  have gn:(Heap.alloc (Heap.alloc Heap.empty (.cells (ak s))) (.cells [.int .i64 0,.ax])).next=2:=rfl
  generalize (Heap.alloc (Heap.alloc Heap.empty (.cells (ak s))) (.cells [.int .i64 0,.ax]))=H1 at g0 g1 gn ⊢;have l0:ag (some 2) (.ptr 0 0) H1=some (.agg (ak s)):=by rw [aj g0,bV (cs:=ak s) (n:=2) rfl]
  have lz:ag none (.ptr 0 0) H1=some (.int .i64 s.size):=by rw [aj g0];rfl
  simp only [l0,aq];refine ah (Ac lu hv hj hr OT DN ?_);simp only [aR,reduceAdd,reduceEqDiff,reduceIte,cA,decide_true,Bool.not_true,lz];refine ah (uh DN ?_);rw [hin];simp only [aR,reduceAdd,reduceEqDiff,reduceIte,Bool.not_true,l0];refine ah (A1 RO fun a H2 l hx hd hl=>?_)
  have BD:bw [.int .i64 s.size,a]=true:=by
   have c:=hd.own.lC;have:=c.1;rw [c.2.2] at this;simp only [bw,Bool.and_true] at this ⊢;rw [this];rfl
  obtain ⟨H3,Mr,p3,QL,T8⟩:=cr (h:=H2) (zs:=[.int .i64 0,.ax]) (cs:=[.int .i64 s.size,a]) (n:=2) rfl rfl BD;have x3:bu H2 H3:=⟨by omega,fun b hb=>QL b (by omega)⟩
  have n2:=hx.next
  have d3:=hd.ext x3;rw [gn] at d3 n2;have q0:H3.get 0=some (.cells (ak s)):=by rw [QL 0 (by omega),hx.get 0 (by omega)];exact g0
  have q1:H3.get 1=some (.cells [.int .i64 0,.ax]):=by rw [QL 1 (by omega),hx.get 1 (by omega)];exact g1
  have lr:ag none (.ptr H2.next 1) H3=some a:=by rw [aj p3];rfl
  have l3:ag (some 2) (.ptr 0 0) H3=some (.agg (ak s)):=by rw [aj q0,bV (cs:=ak s) (n:=2) rfl]
  simp only [aR,reduceAdd,reduceEqDiff,reduceIte,Mr,lr,l3];refine ah (rS lu ?_);rw [hj];have WJ:l.length=s.aC.l.length:=by have:=congrArg List.length hl;simpa using this
  obtain ⟨⟨q,ts⟩,hp⟩:∃ p,l[j]?=some p:=⟨l[j]'(by omega),ep (by omega)⟩
  have Gd:=ig hp
  have YC:JX (q,ts)=bH r:=by
   have:=congrArg (·[j]?) hl;simp only [getElem?_map,hp,hr,map_some,Option.some.injEq] at this;exact this
  have e1:q.1=r.name:=congrArg (·.1) YC;have e2:q.2.1=r.arity:=congrArg (·.2.1) YC;have e3:ts.map Sl.l=r.aN.l.map Sl.l:=congrArg (·.2.2) YC;have ht3:ts.length=r.aN.l.length:=by have:=congrArg List.length e3;simpa using this
  have X1:(l.map (·.1))[j]?=some q:=by rw [getElem?_map,hp];rfl
  have oq:Own cX 1 2 H3 q.2.2.1 ts:=d3.row _ Gd;obtain ⟨x,x1,x2⟩:=(jE.zX oq mW).fz;have Jn:x.l=ts:=by rw [x1,List.map_map];simp [Function.comp_def]
  have hlen:∀ u ∈ ts.map Sl.l,u.length=t.l.length:=fun u hu=>by
   rw [e3] at hu;rw [hkl];exact (Uf.1 u hu).1
  have qC:iR (ts.map Sl.l):=by rw [e3];exact Uf.2
  have fin:∀ (hF:Heap) (l':List (vR×List (Sl Int))) (L':List (List Int)),Own ic 3 2 hF a (l'.map (·.1))->(∀ p ∈ l',Own cX 1 2 hF p.1.2.2.1 p.2)->hF.get H2.next=some (.cells [.int .i64 s.size,a])->hF.get 1=some (.cells [.int .i64 0,.ax]) ->
    l'.map JX=(s.aC.l.map bH).set j (r.name,r.arity,L')->iR L'->(∀ u,u ∈ L'↔(u ∈ r.aN.l.map Sl.l/\u≠t.l)\/(is=true/\u=t.l)) ->
    ag (some 2) (.ptr H2.next 0) hF=some (.agg [.int .i64 s.size,a])/\∃ hG,aS 2 (.ptr 1 0) (.agg [.int .i64 s.size,a]) hF=some hG/\ag (some 2) (.ptr 1 0) hG=some (.agg [.int .i64 s.size,a])/\∃ s',pK s j r t.l is s'/\Fz true hG (.agg [.int .i64 s.size,a]) (.agg (ak s')):=by
   intro hF l' L' o1 o2 o3 o4 o5 o6 o7;refine ⟨by rw [aj o3];rfl,hF.set 1 (.cells [.int .i64 s.size,a]),by rw [cq (n:=2) (v:=.agg [.int .i64 s.size,a]) o4 rfl BD (by simp)];rfl,by rw [aj (cs:=[.int .i64 s.size,a]) (by rw [Heap.aK,if_pos rfl])];rfl,?_⟩;obtain ⟨z,z1,z2⟩:=M5 (o1.kL (d:=1) (by omega) (.cells [.int .i64 s.size,a])) fun p hp=>(o2 p hp).kL (d:=1) (by omega) (.cells [.int .i64 s.size,a]);refine ⟨⟨s.size,z⟩,⟨rfl,L',o6,o7,by rw [<- o5];exact z1⟩,?_⟩;have:=lQ.cons (.scalar (.int .i64 s.size) rfl) (lQ.cons z2 lQ.nil);exact .agg _ _ this.len this.rel
  have gr:(∀ u,u ∈ r.aN.l.map Sl.l↔(u ∈ r.aN.l.map Sl.l/\u≠t.l)\/(is=true/\u=t.l))->ag (some 2) (.ptr H2.next 0) H3=some (.agg [.int .i64 s.size,a])/\∃ hG,aS 2 (.ptr 1 0) (.agg [.int .i64 s.size,a]) H3=some hG/\ag (some 2) (.ptr 1 0) hG=some (.agg [.int .i64 s.size,a])/\∃ s',pK s j r t.l is s'/\Fz true hG (.agg [.int .i64 s.size,a]) (.agg (ak s')):=fun hu=>by
   refine fin H3 l (r.aN.l.map Sl.l) d3.own d3.row p3 q1 ?_ Uf.2 hu;rw [hl];refine ext_getElem? fun i=>?_;by_cases hi:i=j
   ·subst hi;rw [getElem?_set_self (by simpa using Nn),getElem?_map,hr];rfl
   ·rw [getElem?_set_ne (Ne.symm hi)]
  have chg:∀ (hF:Heap) (v':Ob) (VB:List (Sl Int)),Own cX 1 2 hF v'.1 VB->(∀ b,b<H3.next->cD q.2.2.1≠some b->hF.get b=H3.get b)->H3.next<=hF.next->(∀ b,cD v'.1=some b->H3.next<=b)->iR (VB.map Sl.l)->(∀ u,u ∈ VB.map Sl.l↔(u ∈ r.aN.l.map Sl.l/\u≠t.l)\/(is=true/\u=t.l)) ->
    ∃ b hH,dH 3 a (.int .i64 (j:Int))=some (.ptr b (j*3))/\aS 1 (.ptr b (j*3+2)) v'.1 hF=some hH/\ag (some 2) (.ptr H2.next 0) hH=some (.agg [.int .i64 s.size,a])/\∃ hG,aS 2 (.ptr 1 0) (.agg [.int .i64 s.size,a]) hH=some hG/\ag (some 2) (.ptr 1 0) hG=some (.agg [.int .i64 s.size,a])/\∃ s',pK s j r t.l is s'/\Fz true hG (.agg [.int .i64 s.size,a]) (.agg (ak s')):=by
   intro hF v' VB ov hfr pF pI gC OM;have oF:Own ic 3 2 hF a (l.map (·.1)):=d3.own.agree (fun b hb=>hfr b (d3.own.lt hb) (fun hc=>d3.sep _ Gd b hc hb)) pF;obtain ⟨b,cs,i1,i2,i3,i4,i5,i6⟩:=oF.VA X1 v';have hb2:b<H2.next:=hd.own.lt i2
   have hb3:2<=b:=d3.own.ge i2;have hqb:∀ c,cD q.2.2.1=some c->c<H2.next/\2<=c:=fun c hc=>⟨(hd.row _ Gd).lt hc,oq.ge hc⟩
   refine ⟨b,hF.set b (.cells cs),i1,i5,?_⟩;have me:(l.set j ((q.1,q.2.1,v'),VB)).map (·.1)=(l.map (·.1)).set j (q.1,q.2.1,v'):=by rw [map_set]
   refine fin (hF.set b (.cells cs)) (l.set j ((q.1,q.2.1,v'),VB)) (VB.map Sl.l) (by rw [me];exact i6) (fun p hpp=>?_) ?_ ?_ ?_ gC OM
   ·obtain ⟨i,hi⟩:=getElem?_of_mem hpp;by_cases hij:i=j
    ·subst hij;rw [getElem?_set_self (by omega)] at hi;cases hi;exact ov.agree (fun c hc=>by rw [Heap.aK,if_neg (fun e=>by have:=pI c hc;omega)]) (by rw [Heap.bl];omega)
    ·rw [getElem?_set_ne (Ne.symm hij)] at hi;have Sh:=ig hi;refine (d3.row p Sh).agree (fun c hc=>?_) (by rw [Heap.bl];omega);have Uh:c≠b:=fun e=>d3.sep p Sh c hc (by rw [e];exact i2);rw [Heap.aK,if_neg Uh];refine hfr c ((d3.row p Sh).lt hc) fun hqc=>?_;have acs:=pairwise_iff_getElem.1 d3.dis;obtain ⟨y1,y2⟩:=jJ.1 hi;obtain ⟨y3,y4⟩:=jJ.1 hp;rcases Nat.lt_or_gt_of_ne hij with hlt|Ph
     ·exact acs i j y1 y3 hlt c (by rw [y2];exact hc) (by rw [y4];exact hqc)
     ·exact acs j i y3 y1 Ph c (by rw [y4];exact hqc) (by rw [y2];exact hc)
   ·rw [Heap.aK,if_neg (by omega),hfr _ (by omega) (fun hc=>by have:=(hqb _ hc).1;omega)];exact p3
   ·rw [Heap.aK,if_neg (by omega),hfr _ (by omega) (fun hc=>by have:=(hqb _ hc).2;omega)];exact q1
   ·rw [map_set,hl];show (s.aC.l.map bH).set j (q.1,q.2.1,VB.map Sl.l)=_;rw [e1,e2]
  obtain ⟨b,_,i1,i2,i3,i4,_,_⟩:=d3.own.VA X1 q.2.2;have hnc:∀ c o:Nat,bx (.ptr c o)=some (.ptr c o):=fun _ _=>rfl;simp only [aR,reduceAdd,reduceEqDiff,reduceIte,lr,AV.beq_refl,Bool.and_self,if_true,i1,hnc,i4];refine ah (yW x2 (by rw [Jn];omega) (fun u hu=>by rw [Jn] at hu;exact hlen u.l (List.mem_map_of_mem hu)) DN (by rw [Jn];exact qC) fun n hn Eg Ka=>?_);rw [Jn] at hn Eg Ka ⊢;rw [e3]
  have acu:∀ c u,c<n->(ts.map Sl.l)[c]?=some u->dg u t.l=true:=fun c u hc hu=>by
   rw [getElem?_map] at hu;obtain ⟨w,hw,rfl⟩:=map_eq_some_iff.1 hu;exact Eg c w hc hw
  have acv:∀ c u,n<=c->(ts.map Sl.l)[c]?=some u->dg u t.l=false:=fun c u hc hu=>by
   rw [getElem?_map] at hu;obtain ⟨w,hw,rfl⟩:=map_eq_some_iff.1 hu;exact Ka c w hc hw
  cases is with
  |true=>
   by_cases vQ:t.l ∈ r.aN.l.map Sl.l
   ·simp only [aR,reduceAdd,reduceEqDiff,reduceIte,fE vQ,Bool.not_true]
    obtain ⟨f1,hG,f2,f3,s',f4,f5⟩:=gr fun u=>by
     constructor
     ·intro hu;by_cases he:u=t.l
      ·exact .inr ⟨rfl,he⟩
      ·exact .inl ⟨hu,he⟩
     ·rintro (⟨hu,_⟩|⟨_,rfl⟩)
      ·exact hu
      ·exact vQ
    simp only [aR,reduceAdd,reduceEqDiff,reduceIte,f1,f2,yX,f3,oneOf];exact cw.2 ⟨_,s',rfl,f4,f5⟩
   ·simp only [aR,reduceAdd,reduceEqDiff,reduceIte,eT vQ,Bool.not_false,hnc,i4];refine ah (nQ (by omega) fun y hy=>?_);have gy:=aA H3 (.cells (cX y));simp only [aR,reduceAdd,reduceEqDiff,reduceIte,i4,AV.beq_refl,Bool.and_self,if_true,MX];refine ah (LO (h:=H3.alloc (.cells (cX y))) (oq.ext (bu.alloc _ _)) (d3.none _ Gd) (by omega) gy (fun hc=>by have:=oq.lt hc;omega) (by rw [Heap.aM];omega) hn fun v' h' ov hfr pF hnb=>?_);obtain ⟨BZ,Kh⟩:=nc ov;have IM:(ts.take n++y :: ts.drop n).map Sl.l=(ts.map Sl.l).take n++t.l :: (ts.map Sl.l).drop n:=by rw [map_append,map_cons,hy,map_take,map_drop]
    obtain ⟨b',hH,c1,c2,c3,hG,c4,c5,s',c6,c7⟩:=chg h' ⟨v',BZ,Kh⟩ _ ov (fun c hc hb=>by rw [hfr c (by rw [Heap.aM];omega) hb,Heap.aV,if_neg (by omega)]) (by rw [Heap.aM] at pF;omega) (fun c hc=>by
      have:v'=v':=rfl;rw [show cD v'=some (H3.alloc (.cells (cX y))).next from hnb] at hc
      rw [Heap.aM] at hc;cases hc;omega) (by rw [IM];exact Xh qC hlen acu acv (by rw [e3];exact vQ)) (fun u=>by
      rw [IM,Ut,e3];constructor
      ·rintro (hu|hu)
       ·exact .inl ⟨hu,fun e=>vQ (e▸hu)⟩
       ·exact .inr ⟨rfl,hu⟩
      ·rintro (⟨hu,_⟩|⟨_,hu⟩)
       ·exact .inl hu
       ·exact .inr hu)
    obtain rfl:b'=b:=by rw [i1] at c1;cases c1;rfl
    simp only [aR,reduceAdd,reduceEqDiff,reduceIte,c2,c3,c4,yX,c5,oneOf];exact cw.2 ⟨_,s',rfl,c6,c7⟩
  |false=>
   by_cases vQ:t.l ∈ r.aN.l.map Sl.l
   ·obtain ⟨HE,Yw,Ny⟩:=Xi qC acu acv (by rw [e3];exact vQ);have Ys:n<ts.length:=by have:=(jJ.1 HE).1;simpa using this
    simp only [aR,reduceAdd,reduceEqDiff,reduceIte,fE vQ,Bool.not_false,hnc,i4,aI Ys (by unfold cN;omega)];refine ah (LP oq (by omega) (by omega) Ys fun v' h' ov hfr pF hnb=>?_);obtain ⟨BZ,Kh⟩:=nc ov;have IM:(ts.take n++ts.drop (n+1)).map Sl.l=(ts.map Sl.l).take n++(ts.map Sl.l).drop (n+1):=by rw [map_append,map_take,map_drop]
    obtain ⟨b',hH,c1,c2,c3,hG,c4,c5,s',c6,c7⟩:=chg h' ⟨v',BZ,Kh⟩ _ ov hfr pF (fun c hc=>by
      rw [show cD v'=some H3.next from hnb] at hc
      cases hc;omega) (by rw [IM];exact Yw) (fun u=>by
      rw [IM,Ny,e3];constructor
      ·intro hu;exact .inl hu
      ·rintro (hu|⟨hu,_⟩)
       ·exact hu
       ·cases hu)
    obtain rfl:b'=b:=by rw [i1] at c1;cases c1;rfl
    simp only [aR,reduceAdd,reduceEqDiff,reduceIte,c2,c3,c4,yX,c5,oneOf];exact cw.2 ⟨_,s',rfl,c6,c7⟩
   ·simp only [aR,reduceAdd,reduceEqDiff,reduceIte,eT vQ,Bool.not_false]
    obtain ⟨f1,hG,f2,f3,s',f4,f5⟩:=gr fun u=>by
     constructor
     ·intro hu;exact .inl ⟨hu,fun e=>vQ (e▸hu)⟩
     ·rintro (⟨hu,_⟩|⟨hu,_⟩)
      ·exact hu
      ·cases hu
    simp only [aR,reduceAdd,reduceEqDiff,reduceIte,f1,f2,yX,f3,oneOf];exact cw.2 ⟨_,s',rfl,f4,f5⟩
 refine main.frozen (by simp [AV.cL,AV.pure,eu,cj kf]) fun o h' ho=>?_;obtain ⟨v,s',rfl,gC,hf⟩:=cw.1 ho;have:=lQ.cons hf (lQ.cons (.scalar (.int .i64 0) rfl) lQ.nil);exact ⟨_,_,rfl,.tuple _ _ this.len this.rel,hK s' gC⟩
structure mY where
 name:b6
 tuple:Sl Int
def iS(f:mY):List AV:=[.str f.name,an encI 1 f.tuple]
theorem Af(f:mY):(iS f).length=2:=rfl
theorem LQ(f:mY):AV.cL (iS f)=true:=by simp [iS,AV.cL,AV.pure,cj kf]
theorem Ag(f:mY):bw (iS f)=true:=by unfold iS;simp only [bw,gi,Bool.and_true];rfl
def qq(f:mY):b6×List Int:=(f.name,f.tuple.l)
def qT(p q:b6×Int×List (List Int)):List (b6×List Int):=(p.2.2.filter fun t=>!decide (t ∈ q.2.2)).map fun t=>(p.1,t)
def jI(la lb:List (b6×Int×List (List Int))):List (b6×List Int):=(la.zip lb).flatMap fun x=>qT x.1 x.2
theorem JZ{α β:Type}:∀ {la:List α} {lb:List β} {i:Nat} {p:α} {q:β},la[i]?=some p->lb[i]?=some q->(la.take (i+1)).zip lb=(la.take i).zip lb++[(p,q)]
 |a :: la,b :: lb,0,p,q,h1,h2=>by simp at h1 h2;subst h1;subst h2;simp
 |a :: la,b :: lb,i+1,p,q,h1,h2=>by
  rw [getElem?_cons_succ] at h1 h2;rw [take_succ_cons,take_succ_cons,zip_cons_cons,zip_cons_cons,JZ h1 h2];rfl
 |[],_,_,_,_,h1,_=>by simp at h1
 |_ :: _,[],_,_,_,_,h2=>by simp at h2
theorem Xj(nm:b6)(y:Sl Int):iw [.str [],.ax] [(0,1),(1,1)] [.str nm,an encI 1 y]=some (.agg (iS ⟨nm,y⟩)):=by cases y<;>rfl
theorem Xk(f:mY):gd [.str [],.ax] [(0,2)] [.agg (iS f)]=some (iS f):=by
 obtain ⟨nm,y⟩:=f;cases y<;>rfl
set_option maxHeartbeats 1000000 in
theorem dD{a b:cM}(ha:a.small)(hb:b.small)(hlen:a.aC.l.length<=b.aC.l.length)(hkk:∀ (i:Nat) (q u:Rel),a.aC.l[i]?=some q->b.aC.l[i]?=some u->(∀ t ∈ q.aN.l,∀ w ∈ u.aN.l,w.l.length=t.l.length)/\iR (u.aN.l.map Sl.l))
  {h:Heap} {K:Out->Heap->Bool} (hK:∀ x:Sl mY,x.l.map qq=jI (a.aC.l.map bH) (b.aC.l.map bH)->K (.ret (an iS 2 x)) h=true):Sem TP 92 [.agg (ak a),.agg (ak b)] h K:=by
 have hm:cI=140737488355328:=rfl;have pG:=ha.ok';have ha8:=ha.aC
 have main:Sem TP 92 [.agg (ak a),.agg (ak b)] Heap.empty (fun o h'=>yes (∃ v,∃ x:Sl mY,o = .ret v/\x.l.map qq=jI (a.aC.l.map bH) (b.aC.l.map bH)/\Fz true h' v (an iS 2 x))):=by
  refine F.E5 ?_;rw [F.Hq];simp only [cT (bS a),cT (bS b),aq,Heap.aM,bU];have g0:(Heap.alloc (Heap.alloc Heap.empty (.cells (ak a))) (.cells (ak b))).get 0=some (.cells (ak a)):=by simp [Heap.aV,bU]
  have g1:(Heap.alloc (Heap.alloc Heap.empty (.cells (ak a))) (.cells (ak b))).get 1=some (.cells (ak b)):=by simp [Heap.aV,bU]
  have gn:(Heap.alloc (Heap.alloc Heap.empty (.cells (ak a))) (.cells (ak b))).next=2:=rfl
  generalize (Heap.alloc (Heap.alloc Heap.empty (.cells (ak a))) (.cells (ak b)))=H at g0 g1 gn ⊢;have lr:ag none (.ptr 0 1) H=some (an aQ 3 a.aC):=by rw [aj g0];rfl
  simp only [aR,reduceAdd,reduceEqDiff,reduceIte,lr]
  refine aE 0 a.aC.l.length (zero_le _) (fun i e h'=>∃ av l,Own iS 2 2 h' av l/\l.map qq=jI ((a.aC.l.map bH).take i) (b.aC.l.map bH)/\l.length<=i*100000/\bu H h'/\e 3 = .ptr 1 0/\e 5=av/\e 13=an aQ 3 a.aC/\e 14 = .int .i64 (a.aC.l.length:Int)/\e 15 = .int .i64 (i:Int))
   ⟨_,[],.nil,by simp [jI],by simp,bu.refl _,rfl,rfl,rfl,rfl,rfl⟩ ?_ ?_
  ·rintro i e h' _ hi ⟨av,l,o,hl,hcn,hx,e3,e5,qi,oT,nZ⟩ K' hn fK hr hp;have hv:a.aC.l[i]?=some a.aC.l[i]:=ep hi;generalize a.aC.l[i]=r at hv;have BR:i<b.aC.l.length:=by omega
   have hw:b.aC.l[i]?=some b.aC.l[i]:=ep BR;generalize b.aC.l[i]=u at hw;have og:=ig hv;obtain ⟨hk1,V2⟩:=hkk i r u hv hw;have hrt:=ha.Fj r og;have hut:=hb.Fj u (ig hw);obtain ⟨H3,Mr,p3,QL,T8⟩:=cr (h:=h') (zs:=[.str [],.int .i64 0,.ax]) (cs:=aQ r) (n:=3) rfl rfl (fT r);have x3:bu h' H3:=⟨by omega,fun c hc=>QL c (by omega)⟩
   have lt3:ag none (.ptr h'.next 2) H3=some (an cX 1 r.aN):=by rw [aj p3];rfl
   have pF:=hx.next
   rw [F.dD.aT];simp only [qi,oT,nZ,aR,reduceAdd,reduceEqDiff,reduceIte,bh hi,aW a.aC hi,dm dQ hv,Mr,lt3];have X6:r.aN.l.length<=cN:=by unfold cN;omega
   refine aE 0 r.aN.l.length (zero_le _) (fun j e h2=>∃ av l,Own iS 2 2 h2 av l/\l.map qq=jI ((a.aC.l.map bH).take i) (b.aC.l.map bH)++qT (r.name,r.arity,(r.aN.l.map Sl.l).take j) (bH u)/\l.length<=i*100000+j/\bu H h2/\h2.get h'.next=some (.cells (aQ r))/\h'.next<h2.next/\(∀ c,cD av=some c->c≠h'.next) /\
    e 3 = .ptr 1 0/\e 5=av/\e 13=an aQ 3 a.aC/\e 14 = .int .i64 (a.aC.l.length:Int)/\e 15 = .int .i64 (i:Int)/\e 7 = .ptr h'.next 0/\e 6 = .int .i64 (i:Int)/\e 21=an cX 1 r.aN/\e 22 = .int .i64 (r.aN.l.length:Int)/\e 23 = .int .i64 (j:Int))
    ⟨av,l,o.ext x3,by simpa [qT] using hl,by simpa using hcn,hx.trans x3,p3,by omega,fun c hc=>by have:=o.lt hc;omega,e3,e5,qi,oT,nZ,rfl,rfl,rfl,rfl,rfl⟩ ?_ ?_
   ·rintro j e h2 _ hj ⟨av,l,o,hl,hcn,hx,p3,q3,hne,e3,e5,qi,oT,nZ,e7,e6,AL,Bz,Vv⟩ K2 pH gm rY F5;have HI:r.aN.l[j]?=some r.aN.l[j]:=ep hj;generalize r.aN.l[j]=t at HI;have htm:=ig HI;have DN:=ha.X5 r og t htm;have gb:h2.get 1=some (.cells (ak b)):=by rw [hx.get 1 (by omega)];exact g1
    have lb:ag none (.ptr 1 1) h2=some (an aQ 3 b.aC):=by rw [aj gb];rfl
    have VC:qT (r.name,r.arity,(r.aN.l.map Sl.l).take (j+1)) (bH u)=qT (r.name,r.arity,(r.aN.l.map Sl.l).take j) (bH u)++if t.l ∈ u.aN.l.map Sl.l then [] else [(r.name,t.l)]:=by
     have hg:(r.aN.l.map Sl.l)[j]?=some t.l:=(by rw [getElem?_map,HI];rfl);simp only [qT,bH];rw [take_add_one,hg,filter_append,map_append];congr 1;by_cases hin:t.l ∈ u.aN.l.map Sl.l
     ·rw [if_pos hin,toList_some,filter_cons,if_neg (by simp only [not_eq_true'];intro hh;exact absurd hin (of_decide_eq_false hh))];rfl
     ·rw [if_neg hin,toList_some,filter_cons,if_pos (by simp only [not_eq_true'];exact eT hin)];rfl
    rw [F.dD.dr];simp only [e3,e6,AL,Bz,Vv,aR,reduceAdd,reduceEqDiff,reduceIte,bh hj,aW r.aN hj,ir HI,lb,aW b.aC BR,qQ hw];refine ah (sj (by omega) (fun w hw2=>hk1 t htm w hw2) (by unfold cN;omega) V2 fun n _ _ _=>?_);by_cases hin:t.l ∈ u.aN.l.map Sl.l
    ·simp only [aR,reduceAdd,reduceEqDiff,reduceIte,fE hin,Bool.not_true,Vv,aI hj X6];refine pH _ _ ⟨av,l,o,by rw [hl,VC,if_pos hin,append_nil],by omega,hx,p3,q3,hne,e3,e5,qi,oT,nZ,e7,e6,AL,Bz,rfl⟩
    ·have ln:ag none (.ptr h'.next 0) h2=some (.str r.name):=(by rw [aj p3];rfl);simp only [aR,reduceAdd,reduceEqDiff,reduceIte,eT hin,Bool.not_false,e7,ln];refine ah (nQ (by omega) fun y hy=>?_)
     have hroom:(l.length+1)*40<=cI:=by
      rw [hm];have:i*100000<=a.aC.l.length*100000:=mul_le_mul_right _ (by omega);omega
     obtain ⟨a5,h5,c5,o5,f5,n5,x5,b5⟩:=o.push Af Ag (by have:=hx.next;omega) (bytes:=40) hroom ⟨r.name,y⟩;simp only [aR,reduceAdd,reduceEqDiff,reduceIte,e5,e7,Vv,ln,AV.beq_refl,Bool.and_self,if_true,Xj,Xk,c5,aI hj X6];refine pH _ _ ⟨a5,_,o5,?_,by rw [length_append,length_singleton];omega,x5 H hx (by omega),by rw [f5 _ q3 (fun hc=>hne _ hc rfl)];exact p3,by omega,fun c hc=>by have:=b5 c hc;omega,e3,rfl,qi,oT,nZ,e7,e6,AL,Bz,rfl⟩;rw [map_append,hl,VC,if_neg hin,append_assoc];simp [qq,hy]
   ·rintro e h2 ⟨av,l,o,hl,hcn,hx,p3,q3,hne,e3,e5,qi,oT,nZ,e7,e6,AL,Bz,Vv⟩ K2 gm;rw [F.dD.dr];simp only [Bz,Vv,aR,reduceAdd,reduceEqDiff,reduceIte,aX];rw [gm,F.dD.cz];simp only [aR,reduceAdd,reduceEqDiff,reduceIte,nZ,aI hi pG];refine hn _ _ ⟨av,l,o,?_,by have:=Nat.add_mul i 1 100000;omega,hx,e3,e5,qi,oT,rfl⟩;have htk:(r.aN.l.map Sl.l).take r.aN.l.length=r.aN.l.map Sl.l:=kC (by simp);rw [hl,htk];have h1:(a.aC.l.map bH)[i]?=some (bH r):=by rw [getElem?_map,hv];rfl
    have h2:(b.aC.l.map bH)[i]?=some (bH u):=(by rw [getElem?_map,hw];rfl);unfold jI;rw [JZ h1 h2,flatMap_append];simp only [flatMap_cons,flatMap_nil,append_nil];rfl
  ·rintro e h' ⟨av,l,o,hl,hcn,hx,e3,e5,qi,oT,nZ⟩ K' fK;rw [F.dD.aT];simp only [oT,nZ,aR,reduceAdd,reduceEqDiff,reduceIte,aX];rw [fK,F.dD.aF];simp only [bO,reduceEqDiff,reduceIte,e5];rw [kC (by simp)] at hl;obtain ⟨x,x1,x2⟩:=(jE.zX o LQ).fz;exact cw.2 ⟨av,x,rfl,by rw [<- hl,x1,List.map_map];simp [Function.comp_def],x2⟩
 refine main.frozen (by simp [AV.cL,AV.pure,eu]) fun o h' ho=>?_;obtain ⟨v,x,rfl,h1,h2⟩:=cw.1 ho;exact ⟨_,_,rfl,h2,hK x h1⟩
end
end Go.AM