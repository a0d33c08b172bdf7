/- Parts of the proof. Conditions: none. -/
import Derived.Test.YtfdanacohcffmaaGreatKd18
import Derived.Test.YtfdanacohcffmaaGreatKd20
import Derived.Test.YtfdanacohcffmaaGreatKd21
import Derived.Test.YtfdanacohcffmaaGreatKd26
import Derived.Test.YtfdanacohcffmaaGreatKd27
set_option linter.unusedSimpArgs false
set_option linter.unusedVariables false
namespace Go.AM
open List Nat Bool Option
open Go Go.Proofs
noncomputable section
variable {K:Out->Heap->Bool} {h:Heap} {L:List (List Int)} {k n j i:Nat} {x:Sl (Sl Int)} {s:di} {nm:b8} {is:Bool} {r:Rel} {v:AV}
theorem AJ:∀ {a b:List Int},a.length=b.length->dy a b=false->a≠b->dy b a=true
 |[],[],_,_,h=>absurd rfl h
 |x :: a,y :: b,hl,h1,h2=>by
  rw [dy] at h1 ⊢;by_cases e:x=y
  ·subst e;rw [if_pos rfl] at h1 ⊢;exact AJ (by simpa using hl) h1 (fun h=>h2 (by rw [h]))
  ·rw [if_neg e] at h1;rw [if_neg (Ne.symm e)];have:=of_decide_eq_false h1;exact fh (by omega)
 |[],_ :: _,hl,_,_=>by simp at hl
 |_ :: _,[],hl,_,_=>by simp at hl
theorem MD{l:List (List Int)}(hs:kG l){x:List Int}(h1:∀ y ∈ l.drop k,dy x y=true)(h2:∀ y ∈ l.take k,dy y x=true):kG (l.take k++x :: l.drop k):=by
 have gI:kG (l.take k++l.drop k):=by rw [take_append_drop];exact hs
 obtain ⟨p1,p2,p3⟩:=pairwise_append.1 gI;refine pairwise_append.2 ⟨p1,pairwise_cons.2 ⟨h1,p2⟩,fun a ha b hb=>?_⟩;rcases mem_cons.1 hb with rfl|hb
 ·exact h2 a ha
 ·exact p3 a ha b hb
theorem Vv{α:Type}{l:List α}{x u:α}:u ∈ l.take k++x :: l.drop k↔u ∈ l\/u=x:=by
 have:u ∈ l↔u ∈ l.take k\/u ∈ l.drop k:=by rw [<- mem_append,take_append_drop]
 rw [mem_append,mem_cons,this];constructor
 ·rintro (h|h|h)
  ·exact .inl (.inl h)
  ·exact .inr h
  ·exact .inl (.inr h)
 ·rintro ((h|h)|h)
  ·exact .inl h
  ·exact .inr (.inr h)
  ·exact .inr (.inl h)
structure FN (s:di) (j:Nat) (r:Rel) (t:List Int) (is:Bool) (s':di):Prop where
 size:s'.size=s.size
 aC:∃ ts,kG ts/\(∀ u,u ∈ ts↔(u ∈ r.aM.l.map Sl.l/\u≠t)\/(is=true/\u=t))/\s'.aC.l.map bZ=(s.aC.l.map bZ).set j (r.name,r.arity,ts)
def NU(n:Nat)(s:di)(nm:b8)(r:Nat):Bool:=match s.aC.l.find? (dD nm) with
 |some q=>(RI n q).bits.getD r false
 |none=>false
theorem GZ(hv:cY s=true)(hn:s.size=(n:Int)){r:Nat}{q:Rel}(hq:s.aC.l.find? (dD nm)=some q)(hk:q.arity=(k:Int))(hr:r<n ^ k):NU n s nm r=true↔UQ n (s.aC.l.map bZ) nm r:=by
 have hqm:=mem_of_find?_eq_some hq;have rQ:q.name=nm:=by have:=find?_some hq;simpa [dD] using this
 unfold NU;rw [hq];simp only [RI,bitsOf,hk,Int.toNat_natCast];rw [GI _ _ (by simpa using hr)];have:(replicate (n ^ k) false).getD r false=false:=by rw [getD_eq_getElem?_getD,getElem?_replicate];split<;>rfl
 rw [this,Bool.false_or,List.any_eq_true];constructor
 ·rintro ⟨u,hu,he⟩;exact ⟨bZ q,List.mem_map_of_mem hqm,rQ,u,hu,by simpa using he⟩
 ·rintro ⟨d,hd,Oz,u,hu,he⟩;obtain ⟨p,hp,rfl⟩:=mem_map.1 hd;have h1:=u0 (lP hv) p hp;rw [show p.name=nm from Oz,hq] at h1;cases h1;exact ⟨u,hu,by simpa using he⟩
theorem zC{s':di}{t:List Int}(hr:s.aC.l[j]?=some r)(hp:FN s j r t is s'):(s'.aC.l.map bZ).map mS=(s.aC.l.map bZ).map mS:=by
 obtain ⟨ts,h1,h2,h3⟩:=hp.aC;rw [h3,map_set];apply ext_getElem?;intro i;by_cases hi:j=i
 ·subst hi;have hl:j<s.aC.l.length:=(kT.1 hr).1;rw [getElem?_set_self (by simpa using hl)];simp only [getElem?_map,hr];rfl
 ·rw [getElem?_set_ne hi]
theorem Pk{s':di}{t:List Int}(hv:cY s=true)(hr:s.aC.l[j]?=some r)(hk:r.arity=(k:Int))(ht:t.length=k)(hb:iY s.size.toNat t=true)(hp:FN s j r t is s'):cY s'=true:=by
 have hS:=gE.1 hv;have Sg:=zC hr hp;obtain ⟨ts,h1,h2,h3⟩:=hp.aC;have hz:=hp.size;rw [gE];have pU:∀ l:List L7,l.map (·.1)=(l.map mS).map (·.1):=fun l=>by rw [List.map_map];rfl
 refine ⟨by rw [hz];exact hS.lo,by rw [hz];exact hS.hi,?_,fun d hd=>?_,?_⟩
 ·have:=congrArg List.length Sg;simp only [length_map] at this;have:=hS.lJ;simp only [length_map] at this ⊢;omega
 ·rw [hz];rw [h3] at hd;rcases mem_or_eq_of_mem_set hd with hd|rfl
  ·exact hS.rel d hd
  ·obtain ⟨q0,k',q1,q2,q3,q4⟩:=hS.rel _ (List.mem_map_of_mem (iz hr));have q1':r.arity=(k':Int):=q1;obtain rfl:k'=k:=by omega
   refine ⟨q0,k',q1,q2,q3,fun u hu=>?_,h1⟩;rcases (h2 u).1 hu with ⟨a,_⟩|⟨_,a⟩
   ·exact q4.1 u a
   ·rw [a];exact ⟨ht,hb⟩
 ·rw [pU,Sg,<- pU];exact hS.names
theorem lC{x y:Sl Int}(hx:x.l.length<=cE)(hxy:x.l.length=y.l.length)(hK:∀ c:Int,(c<0↔dy x.l y.l=true)->(c=0↔x.l=y.l)->K (.ret (.int .i64 c)) h=true):Sem TP 55 [ak encI 1 x,ak encI 1 y] h K:=by
 refine F.jz ?_;rw [F.jQ];simp only [aR,reduceAdd,reduceEqDiff,reduceIte];refine aD 0 x.l.length (zero_le _) (fun i e h'=>h'=h/\e 0=ak encI 1 x/\e 1=ak encI 1 y/\e 9=ak encI 1 x/\e 10 = .int .i64 (x.l.length:Int)/\e 11 = .int .i64 (i:Int)/\dy x.l y.l=dy (x.l.drop i) (y.l.drop i)/\x.l.take i=y.l.take i) ⟨rfl,rfl,rfl,rfl,rfl,rfl,rfl,rfl⟩ ?_ ?_
 ·rintro i e h' _ hi ⟨rfl,e0,e1,e9,jm,nU,hl,ht⟩ K' hn gi hr hp;have IE:i<y.l.length:=by omega
  have hv:x.l[i]?=some x.l[i]:=ez hi;have hw:y.l[i]?=some y.l[i]:=ez IE;rw [yg hv hw] at hl;generalize x.l[i]=a at hv hl;generalize y.l[i]=b at hw hl;rw [F.bF.aT];simp only [e0,e1,e9,jm,nU,aR,reduceAdd,reduceEqDiff,reduceIte,aZ hi,aV x hi,aV y IE,iB hv,iB hw,eT (by omega:¬ (y.l.length:Int)<=(i:Int))];refine ai (Bo fun c c1 c2=>?_);simp only [aR,reduceAdd,reduceEqDiff,reduceIte,cI];by_cases qX:a=b
  ·rw [if_pos qX] at hl;simp only [fh (c1.2 qX),Bool.not_true,aK,aI hi hx,an];exact hn _ _ ⟨rfl,e0,e1,e9,jm,rfl,hl,by rw [take_add_one,take_add_one,ht,hv,hw,qX]⟩
  ·rw [if_neg qX] at hl;simp only [eT (fun h=>qX (c1.1 h)),Bool.not_false,aL];rw [hr,F.bF.bz];simp only [bL,reduceEqDiff,reduceIte];refine hK c ?_ ?_
   ·rw [hl,decide_eq_true_iff];exact c2
   ·exact ⟨fun h=>absurd (c1.1 h) qX,fun h=>absurd (Option.some.inj (hv.symm.trans ((congrArg (·[i]?) h).trans hw))) qX⟩
 ·rintro e h' ⟨rfl,e0,e1,e9,jm,nU,hl,ht⟩ K' gi;rw [F.bF.aT];simp only [jm,nU,aR,reduceAdd,reduceEqDiff,reduceIte,aS];rw [gi,F.bF.aF];simp only [e0,e1,aR,reduceAdd,reduceEqDiff,reduceIte,eT (by omega:¬ (x.l.length:Int)<(y.l.length:Int))];rw [drop_of_length_le (dK _)] at hl;rw [jD (dK _),jD (by omega)] at ht;exact hK 0 (by rw [hl];exact ⟨fun h=>absurd h (by omega),fun h=>by cases h⟩) ⟨fun _=>ht,fun _=>rfl⟩
theorem j8:∀ t:List Int,dy t t=false
 |[]=>rfl
 |a :: t=>by rw [dy,if_pos rfl];exact j8 t
theorem NV{a b:Nat}(h1:a+b<=4000000):aG .add (.int .i64 (a:Int)) (.int .i64 (b:Int))=some (.int .i64 ((a+b:Nat):Int))/\jw (.int .u64) (.int .i64 ((a+b:Nat):Int)) h=some (.int .u64 ((a+b:Nat):Int),h) /\
  aG .shr (.int .u64 ((a+b:Nat):Int)) (.int .u64 1)=some (.int .u64 (((a+b)/2:Nat):Int))/\jw (.int .i64) (.int .u64 (((a+b)/2:Nat):Int)) h=some (.int .i64 (((a+b)/2:Nat):Int),h):=by
 refine ⟨?_,?_,?_,?_⟩
 ·rw [iX (by omega) (by omega)];rfl
 ·simp only [jw];rw [IntWalk.u64_in _ (by omega)]
 ·have:(((a+b:Nat):Int)).fdiv (2 ^ 1)=(((a+b)/2:Nat):Int):=by
   rw [Int.fdiv_eq_ediv_of_nonneg _ (by omega)];rfl
  simp only [aG,Cz,if_true];rw [if_neg (by omega)];exact congrArg (fun z=>some (AV.int .u64 z)) this
 ·simp only [jw];rw [IntWalk.i64_in _ (by omega)]
theorem wO{t:Sl Int}(hl:x.l.length<=1000000)(hk:∀ u ∈ x.l,u.l.length=t.l.length)(vZ:t.l.length<=cE)(hs:kG (x.l.map Sl.l))
  (hK:∀ n:Int,K (.ret (.tuple [.int .i64 n,.bool (decide (t.l ∈ x.l.map Sl.l))])) h=true):Sem TP 54 [ak cU 1 x,ak encI 1 t,.func 55 [] []] h K:=by
 have ry:∀ (a b:Nat) (u v:Sl Int),x.l[a]?=some u->x.l[b]?=some v->a<b->dy u.l v.l=true:=fun a b u v hu hv qX=>by
  have h1:=pairwise_iff_getElem.1 hs;obtain ⟨p1,q1⟩:=kT.1 hu;obtain ⟨p2,q2⟩:=kT.1 hv;have:=h1 a b (by simpa using p1) (by simpa using p2) qX
  rwa [getElem_map,getElem_map,q1,q2] at this
 refine F.fm ?_;rw [F.fG];simp only [aR,reduceAdd,reduceEqDiff,reduceIte]
 refine lG (fun m e h'=>∃ i j:Nat,m=j-i/\i<=j/\j<=x.l.length/\h'=h/\(∀ a u,a<i->x.l[a]?=some u->dy u.l t.l=true)/\(∀ a u,j<=a->x.l[a]?=some u->dy u.l t.l=false)/\e 0=ak cU 1 x/\e 1=ak encI 1 t/\e 2 = .func 55 [] []/\e 8 = .int .i64 (x.l.length:Int)/\e 9 = .int .i64 (i:Int)/\e 10 = .int .i64 (j:Int)) x.l.length
  ⟨0,x.l.length,rfl,zero_le _,dK _,rfl,fun a u ha=>absurd ha (by omega),fun a u ha hu=>absurd (kT.1 hu).1 (by omega),rfl,rfl,rfl,rfl,rfl,rfl⟩ ?_
 rintro m e h' ⟨i,j,rfl,hij,hj,rfl,CQ,KP,e0,e1,e2,e8,e9,jm⟩;rw [F.bl.aT];by_cases hlt:i<j
 ·obtain ⟨o1,o2,o3,o4⟩:=NV (a:=i) (b:=j) (by omega) (h:=h');have hmi:(i+j)/2<j:=by omega
  have him:i<=(i+j)/2:=by omega
  generalize (i+j)/2=q at o3 o4 hmi him;have hq:q<x.l.length:=by omega
  have hv:x.l[q]?=some x.l[q]:=ez hq;generalize x.l[q]=u at hv;have Pm:=iz hv;simp only [e0,e1,e2,e9,jm,aR,reduceAdd,reduceEqDiff,reduceIte,fh (show (i:Int)<(j:Int) by omega),o1,o2,o3,o4,aV x hq,gK hv,fL,nil_append,append_nil];refine ai (lC (by rw [hk u Pm];exact vZ) (hk u Pm) fun c c1 c2=>?_);simp only [aR,reduceAdd,reduceEqDiff,reduceIte];by_cases hc:c<0
  ·have rO:=c1.1 hc;simp only [fh hc,aL,aI hq (show x.l.length<=cE by unfold cE;omega),an];refine cu.2 ⟨j-(q+1),by omega,rfl,rfl,q+1,j,rfl,by omega,hj,rfl,fun a w ha hw=>?_,KP,e0,e1,e2,e8,rfl,jm⟩;by_cases Yf:a=q
   ·subst Yf;rw [hv] at hw;cases hw;exact rO
   ·exact mo (ry a q w u hw hv (by omega)) rO
  ·have rO:dy u.l t.l=false:=by cases hh:dy u.l t.l with|false=>rfl|true=>exact absurd (c1.2 hh) hc
   simp only [eT hc,aK];refine cu.2 ⟨q-i,by omega,rfl,rfl,i,q,rfl,him,by omega,rfl,CQ,fun a w ha hw=>?_,e0,e1,e2,e8,e9,rfl⟩;by_cases Yf:a=q
   ·subst Yf;rw [hv] at hw;cases hw;exact rO
   ·cases hh:dy w.l t.l with
    |false=>rfl
    |true=>rw [mo (ry q a u w hv hw (by omega)) hh] at rO;cases rO
 ·obtain rfl:i=j:=by omega
  simp only [e9,jm,aR,reduceAdd,reduceEqDiff,reduceIte,eT (show ¬ (i:Int)<(i:Int) by omega),pG];rw [F.bl.aF];simp only [bL,reduceEqDiff,reduceIte,e0,e1,e2,e8,e9,aR,reduceAdd,reduceEqDiff,reduceIte];by_cases hin:i<x.l.length
  ·have hv:x.l[i]?=some x.l[i]:=ez hin;generalize x.l[i]=u at hv;have Pm:=iz hv;simp only [aZ hin,aL,aV x hin,gK hv,an,fL,nil_append,append_nil];refine ai (lC (by rw [hk u Pm];exact vZ) (hk u Pm) fun c c1 c2=>?_);simp only [aR,reduceAdd,reduceEqDiff,reduceIte,cI]
   have:decide (c=0)=decide (t.l ∈ x.l.map Sl.l):=by
    rw [decide_eq_decide,c2,mem_map];constructor
    ·intro he;exact ⟨u,Pm,he⟩
    ·rintro ⟨w,hw,he⟩;obtain ⟨a,ha⟩:=getElem?_of_mem hw;by_cases h1:a<i
     ·have:=CQ a w h1 ha;rw [he,j8] at this;cases this
     ·by_cases h2:a=i
      ·subst h2;rw [hv] at ha;cases ha;exact he
      ·have h3:=ry i a u w hv ha (by omega);rw [he,KP i u (dK _) hv] at h3;cases h3
   rw [this];exact hK _
  ·simp only [eT (show ¬ (i:Int)<(x.l.length:Int) by omega),aK]
   have:decide (t.l ∈ x.l.map Sl.l)=false:=by
    rw [decide_eq_false_iff_not,mem_map];rintro ⟨w,hw,he⟩;obtain ⟨a,ha⟩:=getElem?_of_mem hw;have:=CQ a w (by have:=(kT.1 ha).1;omega) ha;rw [he,j8] at this;cases this
   rw [this] at hK;exact hK _
theorem G0(hs:s.ok)(hv:cY s=true){t:Sl Int}{q:Rel}(hj:iC (gY nm (t.l.length:Int)) s.aC.l=(j:Int))(hq:s.aC.l[j]?=some q)(Pe:q.arity=(t.l.length:Int))(vZ:t.l.length<=cE)
  (hK:K (.ret (.tuple [.bool (decide (t.l ∈ q.aM.l.map Sl.l)),.int .i64 0])) h=true):Sem TP 21 [.agg (aq s),.str nm,ak encI 1 t] h K:=by
 refine Sem.data (r:=.tuple [.bool (decide (t.l ∈ q.aM.l.map Sl.l)),.int .i64 0]) ?_ (by simp [AV.cN,AV.pure,eG,b7 jd]) hK;clear hK;refine F.xd ?_;rw [F.zb];simp only [dg (cA s),an,bJ];have g0:(Heap.empty.alloc (.cells (aq s))).get 0=some (.cells (aq s)):=aA _ _;generalize (Heap.empty.alloc (.cells (aq s)))=H at g0 ⊢;have l0:ag (some 2) (.ptr 0 0) H=some (.agg (aq s)):=by rw [aj g0,cV (cs:=aq s) (n:=2) rfl]
 have l1:ag none (.ptr 0 1) H=some (ak aW 3 s.aC):=by rw [aj g0];rfl
 have Ht:=(kT.1 hq).1;have mF:=(gE.1 hv).rel _ (List.mem_map_of_mem (iz hq));obtain ⟨_,k,hk1,Ii,hkp,NQ⟩:=mF;have agj:q.arity=(k:Int):=hk1;have hkl:t.l.length=k:=by omega
 simp only [l0,an];refine ai (dQ hs ?_);rw [hv];simp only [aR,reduceAdd,reduceEqDiff,reduceIte,Bool.not_true,aK,l0];refine ai (sK hs ?_);rw [hj];simp only [aR,reduceAdd,reduceEqDiff,reduceIte,eT (show ¬ (j:Int)<0 by omega),l1,aV s.aC Ht,pX hq];refine ai (wO (by have:=(ff hv).1.Io q (iz hq);omega) (fun u hu=>by rw [hkl];exact (NQ.1 _ (List.mem_map_of_mem hu)).1) vZ NQ.2 fun n=>?_);simp only [aR,reduceAdd,reduceEqDiff,reduceIte];exact gd rfl
def KB(p:wM×List (Sl Int)):b8×Int×List (List Int):=(p.1.1,p.1.2.1,p.2.map Sl.l)
structure Deep (k:Nat) (h:Heap) (a:AV) (l:List (wM×List (Sl Int))):Prop where
 own:Own iw 3 k h a (l.map (·.1))
 row:∀ p ∈ l,Own cU 1 k h p.1.2.2.1 p.2
 none:∀ p ∈ l,p.2 = []->p.1.2.2.1 = .ax
 sep:∀ p ∈ l,∀ b,cL p.1.2.2.1=some b->cL a≠some b
 dis:l.Pairwise fun p q=>∀ b,cL p.1.2.2.1=some b->cL q.1.2.2.1≠some b
theorem Deep.nil{k:Nat}{h:Heap}:Deep k h .ax []:=⟨.nil,by simp,by simp,by simp,.nil⟩
section
variable {k:Nat} {h h':Heap} {a:AV} {l:List (wM×List (Sl Int))}
theorem Deep.ext(o:Deep k h a l)(hx:bu h h'):Deep k h' a l:=⟨o.own.ext hx,fun p hp=>(o.row p hp).ext hx,o.none,o.sep,o.dis⟩
theorem Deep.low(o:Deep k h a l){d:Nat}(hd:d<k)(x:j9):Deep k (h.set d x) a l:=⟨o.own.kM hd x,fun p hp=>(o.row p hp).kM hd x,o.none,o.sep,o.dis⟩
theorem Deep.B3(o:Deep k h a l){j:Nat}(hj:j<=k):Deep j h a l:=⟨o.own.B3 hj,fun p hp=>(o.row p hp).B3 hj,o.none,o.sep,o.dis⟩
theorem Deep.push{m:Nat}(o:Deep k h a l)(hk:k<=h.next)(hroom:(l.length+1)*48<=cG)(v:wM)(ts:List (Sl Int))(hm:k<=m)(hlt:∀ p ∈ l,∀ b,cL p.1.2.2.1=some b->b<m)
  (ov:Own cU 1 m h v.2.2.1 ts) (hvn:ts = []->v.2.2.1 = .ax) (U2:∀ b,cL v.2.2.1=some b->cL a≠some b) :
  ∃ a' h',bY 3 48 a (.slice h.next 0 1 3) (h.alloc (.cells (iw v)))=some (a',h')/\Deep k h' a' (l++[(v,ts)])/\(∀ c,c<h.next->cL a≠some c->h'.get c=h.get c)/\h.next<=h'.next/\(∀ h0,bu h0 h->h0.next<=k->bu h0 h')/\∀ c,cL a'=some c->h.next<=c:=by
 obtain ⟨a',h',e1,o1,f1,n1,x1,b1⟩:=o.own.push me v7 hk (bytes:=48) (by simpa using hroom) v;refine ⟨a',h',e1,⟨by rw [map_append];exact o1,fun p hp=>?_,fun p hp=>?_,fun p hp b hb=>?_,?_⟩,f1,n1,x1,b1⟩
 ·rcases mem_append.1 hp with hp|hp
  ·exact (o.row p hp).agree (fun b hb=>f1 b ((o.row p hp).lt hb) (o.sep p hp b hb)) n1
  ·rw [mem_singleton] at hp;subst hp;exact (ov.agree (fun b hb=>f1 b (ov.lt hb) (U2 b hb)) n1).B3 hm
 ·rcases mem_append.1 hp with hp|hp
  ·exact o.none p hp
  ·rw [mem_singleton] at hp;subst hp;exact hvn
 ·intro hc;have:=b1 b hc;rcases mem_append.1 hp with hp|hp
  ·have:=(o.row p hp).lt hb;omega
  ·rw [mem_singleton] at hp;subst hp;have:=ov.lt hb;omega
 ·refine pairwise_append.2 ⟨o.dis,pairwise_singleton _ _,fun p hp q hq b hb hc=>?_⟩;rw [mem_singleton] at hq;subst hq;have:=hlt p hp b hb;have:=ov.ge hc;omega
end
set_option maxHeartbeats 2000000 in
theorem Bu(hs:s.small)(hK:∀ a h' l,bu h h'->Deep h.next h' a l->l.map KB=s.aC.l.map bZ->K (.ret (.agg [.int .i64 s.size,a])) h'=true):Sem TP 46 [.agg (aq s)] h K:=by
 have hm:cG=140737488355328:=rfl;have hbig:=hs.ok';refine F.uA ?_;rw [F.xg];simp only [dg (cA s),an,Heap.aJ];have g0:(Heap.alloc (Heap.alloc h (.cells (aq s))) (.cells [.int .i64 0,.ax])).get h.next=some (.cells (aq s)):=by rw [Heap.aQ,Heap.aJ,if_neg (by omega)];exact aA _ _
 have g1:(Heap.alloc (Heap.alloc h (.cells (aq s))) (.cells [.int .i64 0,.ax])).get (h.next+1)=some (.cells [.int .i64 0,.ax]):=aA _ _;have gn:(Heap.alloc (Heap.alloc h (.cells (aq s))) (.cells [.int .i64 0,.ax])).next=h.next+2:=rfl
 have gx:bu h (Heap.alloc (Heap.alloc h (.cells (aq s))) (.cells [.int .i64 0,.ax])):=(bu.alloc _ _).trans (bu.alloc _ _);generalize (Heap.alloc (Heap.alloc h (.cells (aq s))) (.cells [.int .i64 0,.ax]))=H1 at g0 g1 gn gx ⊢;have lz:ag none (.ptr h.next 0) H1=some (.int .i64 s.size):=by rw [aj g0];rfl
 have ha:iD [.int .i64 0,.ax] [(0,1)] [.int .i64 s.size]=some (.agg [.int .i64 s.size,.ax]):=rfl;obtain ⟨H2,qW,p2,po,pn⟩:=cx (h:=H1) (zs:=[.int .i64 0,.ax]) (cs:=[.int .i64 s.size,.ax]) (n:=2) rfl rfl rfl;rw [gn] at p2 po pn qW;have p0:H2.get h.next=some (.cells (aq s)):=by rw [po _ (by omega)];exact g0
 have p1:H2.get (h.next+1)=some (.cells [.int .i64 0,.ax]):=by rw [po _ (by omega)];exact g1
 have px:bu h H2:=⟨by omega,fun b hb=>by rw [po _ (by omega)];exact gx.get b hb⟩
 have lr:ag none (.ptr h.next 1) H2=some (ak aW 3 s.aC):=by rw [aj p0];rfl
 simp only [aR,reduceAdd,reduceEqDiff,reduceIte,lz,ha,gn,qW,lr]
 refine aD 0 s.aC.l.length (zero_le _) (fun i e h'=>∃ a l,h'.get (h.next+1)=some (.cells [.int .i64 0,.ax])/\h'.get (h.next+2)=some (.cells [.int .i64 s.size,a])/\Deep (h.next+3) h' a l/\l.map KB=(s.aC.l.take i).map bZ/\bu h h'/\h.next+3<=h'.next /\
  e 2 = .ptr (h.next+1) 0/\e 3 = .ptr (h.next+2) 0/\e 13=ak aW 3 s.aC/\e 14 = .int .i64 (s.aC.l.length:Int)/\e 15 = .int .i64 (i:Int)) ⟨_,[],p1,p2,.nil,rfl,px,by omega,rfl,rfl,rfl,rfl,rfl⟩ ?_ ?_
 ·rintro i e h' _ hi ⟨a,l,q1,q2,o,hl,qx,qn,e2,e3,oQ,pO,oP⟩ K' hn gi hr hp;have hv:s.aC.l[i]?=some s.aC.l[i]:=ez hi;generalize s.aC.l[i]=r at hv;have nV:=iz hv;have XO:l.length=i:=by have:=congrArg List.length hl;rw [length_map,length_map,length_take,Nat.min_eq_left (by omega)] at this;exact this
  obtain ⟨H3,Nb,p3,RP,Vb⟩:=cx (h:=h') (zs:=[.str [],.int .i64 0,.ax]) (cs:=aW r) (n:=3) rfl rfl (fY r);have uj:iD [.str [],.int .i64 0,.ax] [(0,1),(1,1)] [.str r.name,.int .i64 r.arity]=some (.agg [.str r.name,.int .i64 r.arity,.ax]):=rfl;have l0:ag none (.ptr h'.next 0) H3=some (.str r.name):=by rw [aj p3];rfl
  have l1:ag none (.ptr h'.next 1) H3=some (.int .i64 r.arity):=by rw [aj p3];rfl
  obtain ⟨H4,PS,p4,Mj,XY⟩:=cx (h:=H3) (zs:=[.str [],.int .i64 0,.ax]) (cs:=[.str r.name,.int .i64 r.arity,.ax]) (n:=3) rfl rfl rfl;rw [Vb] at PS p4 Mj XY;have x4:bu h' H4:=⟨by omega,fun b hb=>by rw [Mj b (by omega),RP b (by omega)]⟩
  have l2:ag none (.ptr h'.next 2) H4=some (ak cU 1 r.aM):=by rw [aj (show H4.get h'.next=some (.cells (aW r)) by rw [Mj _ (by omega)];exact p3)];rfl
  have vZ:=hs.Io r nV;have Wu:r.aM.l.length<=cE:=by unfold cE;omega
  rw [F.cJ.aT];simp only [oQ,pO,oP,aR,reduceAdd,reduceEqDiff,reduceIte,aZ hi,aV s.aC hi,dO eC hv,Nb];simp only [aR,reduceAdd,reduceEqDiff,reduceIte,l0,l1,uj,Vb,PS,l2]
  refine aD 0 r.aM.l.length (zero_le _) (fun j e h2=>∃ tv ts,h2.get (h'.next+1)=some (.cells [.str r.name,.int .i64 r.arity,tv])/\Own cU 1 (h'.next+2) h2 tv ts/\(ts = []->tv = .ax)/\ts.map Sl.l=(r.aM.l.take j).map Sl.l/\bu h' h2/\h'.next+2<=h2.next /\
   e 2 = .ptr (h.next+1) 0/\e 3 = .ptr (h.next+2) 0/\e 13=ak aW 3 s.aC/\e 14 = .int .i64 (s.aC.l.length:Int)/\e 15 = .int .i64 (i:Int)/\e 6 = .ptr (h'.next+1) 0/\e 25=ak cU 1 r.aM/\e 26 = .int .i64 (r.aM.l.length:Int)/\e 27 = .int .i64 (j:Int))
   ⟨_,[],p4,.nil,fun _=>rfl,rfl,x4,by omega,e2,e3,oQ,pO,oP,rfl,rfl,rfl,rfl⟩ ?_ ?_
  ·rintro j e h2 _ hj ⟨tv,ts,q6,ot,htn,Kj,x2,RQ,e2,e3,oQ,pO,oP,e6,Mk,xq,wL⟩ K2 qR fo qL DY;have zx:r.aM.l[j]?=some r.aM.l[j]:=ez hj;generalize r.aM.l[j]=t at zx;have acJ:ts.length=j:=by have:=congrArg List.length Kj;rw [length_map,length_map,length_take,Nat.min_eq_left (by omega)] at this;exact this
   have lt:ag none (.ptr (h'.next+1) 2) h2=some tv:=by rw [aj q6];rfl
   rw [F.cJ.dm];simp only [e6,Mk,xq,wL,aR,reduceAdd,reduceEqDiff,reduceIte,aZ hj,aV r.aM hj,gK zx,lt];refine ai (oC (by have:=hs.YZ r nV t (iz zx);omega) fun y hy=>?_);obtain ⟨a5,h5,c5,o5,f5,n5,w5,b5⟩:=ot.push rF Er RQ (bytes:=24) (by rw [hm];omega) y;have hne:cL tv≠some (h'.next+1):=fun hb=>by have:=ot.ge hb;omega
   have s6:h5.get (h'.next+1)=some (.cells [.str r.name,.int .i64 r.arity,tv]):=by rw [f5 _ (by omega) hne];exact q6
   have c6:=o5.lM
   have st:bf 1 (.ptr (h'.next+1) 2) a5 h5=some (h5.set (h'.next+1) (.cells [.str r.name,.int .i64 r.arity,a5])):=by
    rw [cK (n:=1) s6 c6.2.1 c6.1 (by simp),c6.2.2];rfl
   simp only [aR,reduceAdd,reduceEqDiff,reduceIte,lt,AV.beq_refl,Bool.and_self,if_true,NL,c5,e6,wL,st,aI hj Wu];refine qR _ _ ⟨a5,ts++[y],by rw [Heap.aP,if_pos rfl],o5.kM (by omega) _,fun h=>absurd (congrArg List.length h) (by simp),?_,(w5 h' x2 (by omega)).set (by omega) _,by rw [Heap.bp];omega,e2,e3,oQ,pO,oP,e6,Mk,xq,rfl⟩;rw [map_append,Kj,take_add_one,zx,map_append];simp [hy]
  ·rintro e h2 ⟨tv,ts,q6,ot,htn,Kj,x2,RQ,e2,e3,oQ,pO,oP,e6,Mk,xq,wL⟩ K2 fo;rw [jD (dK _)] at Kj;have o2:=o.ext x2;obtain ⟨Cu,KW⟩:=nD ot;have lq:ag (some 3) (.ptr (h'.next+1) 0) h2=some (.agg (iw (r.name,r.arity,⟨tv,Cu,KW⟩))):=by rw [aj q6];rfl
   have lo:ag none (.ptr (h.next+2) 1) h2=some a:=by rw [aj (show h2.get (h.next+2)=some (.cells [.int .i64 s.size,a]) by rw [x2.get _ (by omega)];exact q2)];rfl
   obtain ⟨a5,h5,c5,o5,f5,n5,w5,b5⟩:=o2.push (m:=h'.next+2) (by omega) (by have:=hs.aC;rw [hm];omega) (r.name,r.arity,⟨tv,Cu,KW⟩) ts (by omega)
    (fun p hp b hb=>by have:=(o.row p hp).lt hb;omega) ot htn (fun b hb hc=>by have:=o.own.lt hc;have:=ot.ge hb;omega)
   have hne:cL a≠some (h.next+2):=fun hb=>by have:=o.own.ge hb;omega
   have XZ:cL a≠some (h.next+1):=fun hb=>by have:=o.own.ge hb;omega
   have s2:h5.get (h.next+2)=some (.cells [.int .i64 s.size,a]):=by rw [f5 _ (by omega) hne,x2.get _ (by omega)];exact q2
   have s1:h5.get (h.next+1)=some (.cells [.int .i64 0,.ax]):=by rw [f5 _ (by omega) XZ,x2.get _ (by omega)];exact q1
   have c6:=o5.own.lM
   have st:bf 1 (.ptr (h.next+2) 1) a5 h5=some (h5.set (h.next+2) (.cells [.int .i64 s.size,a5])):=by
    rw [cK (n:=1) s2 c6.2.1 c6.1 (by simp),c6.2.2];rfl
   rw [F.cJ.dm];simp only [xq,wL,aR,reduceAdd,reduceEqDiff,reduceIte,aS];rw [fo,F.cJ.cq];simp only [aR,reduceAdd,reduceEqDiff,reduceIte,e3,e6,oP,lo,lq,Mh,c5,st,aI hi hbig];refine hn _ _ ⟨a5,_,?_,?_,o5.low (by omega) _,?_,(w5 h (qx.trans x2) (by omega)).set (by omega) _,by rw [Heap.bp];omega,e2,e3,oQ,pO,rfl⟩
   ·rw [Heap.aP,if_neg (by omega)];exact s1
   ·rw [Heap.aP,if_pos rfl]
   ·rw [map_append,hl,take_add_one,hv,map_append];simp [bZ,KB,Kj]
 ·rintro e h' ⟨a,l,q1,q2,o,hl,qx,qn,e2,e3,oQ,pO,oP⟩ K' gi;rw [jD (dK _)] at hl;have lo:ag (some 2) (.ptr (h.next+2) 0) h'=some (.agg [.int .i64 s.size,a]):=by rw [aj q2];rfl
  have c:=o.own.lM
  have B8:bx [.int .i64 s.size,a]=true:=by
   have:=c.1;rw [c.2.2] at this;simp only [bx,Bool.and_true] at this ⊢;rw [this];rfl
  have st:bf 2 (.ptr (h.next+1) 0) (.agg [.int .i64 s.size,a]) h'=some (h'.set (h.next+1) (.cells [.int .i64 s.size,a])):=by
   rw [cK (n:=2) (v:=.agg [.int .i64 s.size,a]) q1 rfl B8 (by simp)];rfl
  have RM:ag (some 2) (.ptr (h.next+1) 0) (h'.set (h.next+1) (.cells [.int .i64 s.size,a]))=some (.agg [.int .i64 s.size,a]):=by rw [aj (cs:=[.int .i64 s.size,a]) (by rw [Heap.aP,if_pos rfl])];rfl
  rw [F.cJ.aT];simp only [pO,oP,aR,reduceAdd,reduceEqDiff,reduceIte,aS];rw [gi,F.cJ.aF];simp only [bL,reduceEqDiff,reduceIte,e2,e3,lo,st,an,GJ,RM,oneOf];exact hK a _ l (qx.set (by omega) _) ((o.low (by omega) _).B3 (by omega)) hl
theorem tq{t:Sl Int}(hl:x.l.length<=1000000)(hk:∀ u ∈ x.l,u.l.length=t.l.length)(vZ:t.l.length<=cE)(hs:kG (x.l.map Sl.l))
  (hK:∀ n:Nat,n<=x.l.length->(∀ a u,a<n->x.l[a]?=some u->dy u.l t.l=true)->(∀ a u,n<=a->x.l[a]?=some u->dy u.l t.l=false)->K (.ret (.tuple [.int .i64 (n:Int),.bool (decide (t.l ∈ x.l.map Sl.l))])) h=true):Sem TP 54 [ak cU 1 x,ak encI 1 t,.func 55 [] []] h K:=by
 have ry:∀ (a b:Nat) (u v:Sl Int),x.l[a]?=some u->x.l[b]?=some v->a<b->dy u.l v.l=true:=fun a b u v hu hv qX=>by
  have h1:=pairwise_iff_getElem.1 hs;obtain ⟨p1,q1⟩:=kT.1 hu;obtain ⟨p2,q2⟩:=kT.1 hv;have:=h1 a b (by simpa using p1) (by simpa using p2) qX
  rwa [getElem_map,getElem_map,q1,q2] at this
 refine F.fm ?_;rw [F.fG];simp only [aR,reduceAdd,reduceEqDiff,reduceIte]
 refine lG (fun m e h'=>∃ i j:Nat,m=j-i/\i<=j/\j<=x.l.length/\h'=h/\(∀ a u,a<i->x.l[a]?=some u->dy u.l t.l=true)/\(∀ a u,j<=a->x.l[a]?=some u->dy u.l t.l=false)/\e 0=ak cU 1 x/\e 1=ak encI 1 t/\e 2 = .func 55 [] []/\e 8 = .int .i64 (x.l.length:Int)/\e 9 = .int .i64 (i:Int)/\e 10 = .int .i64 (j:Int)) x.l.length
  ⟨0,x.l.length,rfl,zero_le _,dK _,rfl,fun a u ha=>absurd ha (by omega),fun a u ha hu=>absurd (kT.1 hu).1 (by omega),rfl,rfl,rfl,rfl,rfl,rfl⟩ ?_
 rintro m e h' ⟨i,j,rfl,hij,hj,rfl,CQ,KP,e0,e1,e2,e8,e9,jm⟩;rw [F.bl.aT];by_cases hlt:i<j
 ·obtain ⟨o1,o2,o3,o4⟩:=NV (a:=i) (b:=j) (by omega) (h:=h');have hmi:(i+j)/2<j:=by omega
  have him:i<=(i+j)/2:=by omega
  generalize (i+j)/2=q at o3 o4 hmi him;have hq:q<x.l.length:=by omega
  have hv:x.l[q]?=some x.l[q]:=ez hq;generalize x.l[q]=u at hv;have Pm:=iz hv;simp only [e0,e1,e2,e9,jm,aR,reduceAdd,reduceEqDiff,reduceIte,fh (show (i:Int)<(j:Int) by omega),o1,o2,o3,o4,aV x hq,gK hv,fL,nil_append,append_nil];refine ai (lC (by rw [hk u Pm];exact vZ) (hk u Pm) fun c c1 c2=>?_);simp only [aR,reduceAdd,reduceEqDiff,reduceIte];by_cases hc:c<0
  ·have rO:=c1.1 hc;simp only [fh hc,aL,aI hq (show x.l.length<=cE by unfold cE;omega),an];refine cu.2 ⟨j-(q+1),by omega,rfl,rfl,q+1,j,rfl,by omega,hj,rfl,fun a w ha hw=>?_,KP,e0,e1,e2,e8,rfl,jm⟩;by_cases Yf:a=q
   ·subst Yf;rw [hv] at hw;cases hw;exact rO
   ·exact mo (ry a q w u hw hv (by omega)) rO
  ·have rO:dy u.l t.l=false:=by cases hh:dy u.l t.l with|false=>rfl|true=>exact absurd (c1.2 hh) hc
   simp only [eT hc,aK];refine cu.2 ⟨q-i,by omega,rfl,rfl,i,q,rfl,him,by omega,rfl,CQ,fun a w ha hw=>?_,e0,e1,e2,e8,e9,rfl⟩;by_cases Yf:a=q
   ·subst Yf;rw [hv] at hw;cases hw;exact rO
   ·cases hh:dy w.l t.l with
    |false=>rfl
    |true=>rw [mo (ry q a u w hv hw (by omega)) hh] at rO;cases rO
 ·obtain rfl:i=j:=by omega
  simp only [e9,jm,aR,reduceAdd,reduceEqDiff,reduceIte,eT (show ¬ (i:Int)<(i:Int) by omega),pG];rw [F.bl.aF];simp only [bL,reduceEqDiff,reduceIte,e0,e1,e2,e8,e9,aR,reduceAdd,reduceEqDiff,reduceIte];by_cases hin:i<x.l.length
  ·have hv:x.l[i]?=some x.l[i]:=ez hin;generalize x.l[i]=u at hv;have Pm:=iz hv;simp only [aZ hin,aL,aV x hin,gK hv,an,fL,nil_append,append_nil];refine ai (lC (by rw [hk u Pm];exact vZ) (hk u Pm) fun c c1 c2=>?_);simp only [aR,reduceAdd,reduceEqDiff,reduceIte,cI]
   have:decide (c=0)=decide (t.l ∈ x.l.map Sl.l):=by
    rw [decide_eq_decide,c2,mem_map];constructor
    ·intro he;exact ⟨u,Pm,he⟩
    ·rintro ⟨w,hw,he⟩;obtain ⟨a,ha⟩:=getElem?_of_mem hw;by_cases h1:a<i
     ·have:=CQ a w h1 ha;rw [he,j8] at this;cases this
     ·by_cases h2:a=i
      ·subst h2;rw [hv] at ha;cases ha;exact he
      ·have h3:=ry i a u w hv ha (by omega);rw [he,KP i u (dK _) hv] at h3;cases h3
   rw [this];exact hK i hj CQ KP
  ·simp only [eT (show ¬ (i:Int)<(x.l.length:Int) by omega),aK]
   have:decide (t.l ∈ x.l.map Sl.l)=false:=by
    rw [decide_eq_false_iff_not,mem_map];rintro ⟨w,hw,he⟩;obtain ⟨a,ha⟩:=getElem?_of_mem hw;have:=CQ a w (by have:=(kT.1 ha).1;omega) ha;rw [he,j8] at this;cases this
   rw [this] at hK;exact hK i hj CQ KP
structure FO where
 kind:Int
 name:b8
 t:Sl Int
 to:Bool
def rP(a:FO):List AV:=[.int .i64 a.kind,.str a.name,ak AM.encI 1 a.t,.bool a.to]
def FO.ok(a:FO):Prop:=a.name.length<=cE/\a.t.l.length<=cE
theorem AL(a:FO):(rP a).length=4:=rfl
def agk(l:List FO):Prop:=l.length<=25/\∀ a ∈ l,a.name.length<=1000/\a.t.l.length<=60
theorem fT{x:Sl FO}(hx:x.l.length<=cE){h:Heap}{K:Out->Heap->Bool}(hK:∀ b:Bool,(b=true->agk x.l)->K (.ret (.bool b)) h=true):Sem TP 11 [ak rP 4 x] h K:=by
 refine F.Fy ?_;rw [F.HS];refine aD 0 (min x.l.length 26) (zero_le _) (fun i e h'=>h'=h/\e 0=ak rP 4 x/\e 2 = .bool false/\e 3 = .int .i64 (i:Int)/\∀ a ∈ x.l.take i,a.name.length<=1000/\a.t.l.length<=60) ⟨rfl,rfl,rfl,rfl,by simp⟩ ?_ ?_
 ·rintro i e h' _ hi ⟨rfl,e0,e2,e3,hs⟩ K' hn gi hr hp;have hil:i<x.l.length:=by omega
  have hv:x.l[i]?=some x.l[i]:=ez hil;generalize x.l[i]=a at hv;have l1:ag none (.ef (x.l.flatMap rP) (i*4+1)) h'=some (.str a.name):=fy AL hv (by omega);have l2:ag none (.ef (x.l.flatMap rP) (i*4+2)) h'=some (ak encI 1 a.t):=fy AL hv (by omega);rw [F.fT.aT];simp only [e0,e3,aR,reduceAdd,reduceEqDiff,reduceIte,aZ hil,fh (by omega:(i:Int)<26),aV x hil,l1];by_cases h1:(1000:Int)<(a.name.length:Int)
  ·simp only [fh h1,aL];rw [hr,F.fT.bz];simp only [aR,reduceAdd,reduceEqDiff,reduceIte,e2];exact hK false (fun h=>by cases h)
  ·simp only [eT h1,aR,reduceAdd,reduceEqDiff,reduceIte,e0,e3,aV x hil,l2];by_cases h2:(60:Int)<(a.t.l.length:Int)
   ·simp only [fh h2,aL];rw [hr,F.fT.bz];simp only [aR,reduceAdd,reduceEqDiff,reduceIte,e2];exact hK false (fun h=>by cases h)
   ·simp only [eT h2,aR,reduceAdd,reduceEqDiff,reduceIte,e3,aI hil hx];refine hn _ _ ⟨rfl,e0,e2,rfl,fun b hb=>?_⟩;rw [take_add_one,hv] at hb;rcases mem_append.1 hb with hb|hb
    ·exact hs b hb
    ·simp only [toList_some,mem_singleton] at hb;subst hb;omega
 ·rintro e h' ⟨rfl,e0,e2,e3,hs⟩ K' gi;rw [F.fT.aT]
  have fin:∀ E:Env,E 0=ak rP 4 x->F.fT.cR K (.exit 0) ⟨E,33,[],h'⟩=true:=fun E hE=>by
   rw [F.fT.aF];simp only [hE,aR,reduceAdd,reduceEqDiff,reduceIte];refine hK _ fun hb=>?_;have hb:=of_decide_eq_true hb;have hl:x.l.length<=25:=by omega
   refine ⟨hl,fun a ha=>hs a ?_⟩
   rwa [jD (by omega)]
  by_cases hl:x.l.length<=26
  ·have e3':e 3 = .int .i64 (x.l.length:Int):=by rw [e3,Nat.min_eq_left hl]
   simp only [e0,e3',aR,reduceAdd,reduceEqDiff,reduceIte,aS];rw [gi];exact fin _ (by simp [bL,e0])
  ·have e3':e 3 = .int .i64 26:=by rw [e3,Nat.min_eq_right (by omega)];rfl
   simp only [e0,e3',aR,reduceAdd,reduceEqDiff,reduceIte,fh (by omega:(26:Int)<(x.l.length:Int)),Int.lt_irrefl,decide_false];rw [gi];exact fin _ (by simp [bL,e0])
theorem Pn{D:DB}{t:List Int}{rs:List aN}{r:aN}(hr:rs[i]?=some r)(c:Int):AH n D nm t (rs.take (i+1)) c=if r.name=nm then Vt n D r t (AH n D nm t (rs.take i) c) else AH n D nm t (rs.take i) c:=by
 unfold AH;rw [take_add_one,hr,foldl_append];rfl
theorem Po{Z:di}{D:DB}(qC:cY Z=true)(mF:∀ q ∈ Z.aC.l,∃ b,D q.name=some (b,bitsOf n q.arity.toNat q.aM.l))(AD:∀ nm,(∀ q ∈ Z.aC.l,q.name≠nm)->D nm=none):dz D=iG n Z:=by
 funext nm k;unfold iG
 cases hf:Z.aC.l.find? (dD nm) with
 |some r=>
  have hr:=mem_of_find?_eq_some hf;have hn:=find?_some hf;simp only [dD,beq_iff_eq] at hn;obtain ⟨b,hb⟩:=mF r hr;rw [hn] at hb;unfold dz;rw [hb]
 |none=>
  rw [find?_eq_none] at hf;unfold dz;rw [AD nm fun q hq e=>hf q hq (by simp [dD,e])]
set_option maxHeartbeats 2000000 in
theorem bS{rules:Sl aN}{Z:di}{nm:b8}{t:Sl Int}{n:Nat}(iV:∀ r ∈ rules.l,r.lJ)(H7:∀ r ∈ rules.l,(varsOf r).length<=12)(adl:∀ r ∈ rules.l,r.args.l.length<=1500)(k9:Z.ok)(qC:cY Z=true)(hn:Z.size=(n:Int))(hlen:rules.l.length<=60)(h64:∀ r ∈ rules.l,n ^ (varsOf r).length<=65536)(vZ:t.l.length<=cE)
  (ask:∀ D:DB,(∀ q ∈ Z.aC.l,∃ b,D q.name=some (b,bitsOf n q.arity.toNat q.aM.l))->∀ r ∈ rules.l,zq n D r)
  {h:Heap} {K:Out->Heap->Bool} (hK:K (.ret (.int .i64 ((kQ n (iG n Z) nm t.l rules.l:Nat):Int))) h=true):Sem TP 78 [ak aO 3 rules,.agg (aq Z),.str nm,ak encI 1 t] h K:=by
 refine Sem.data (r:=.int .i64 ((kQ n (iG n Z) nm t.l rules.l:Nat):Int)) ?_ (by simp [AV.cN,AV.pure,b7 fN,eG,b7 jd]) hK;clear hK;obtain ⟨n',yF,n1,sI,_⟩:=jI qC;obtain rfl:n'=n:=by omega
 have hbig:rules.l.length<=cE:=by unfold cE;omega
 refine F.B1 ?_;rw [F.DS];simp only [dg (cA Z),mE (fR t),an,Heap.aJ,bJ,LJ,Nat.zero_add,reduceAdd];have g0:((Heap.empty.alloc (.cells (aq Z))).alloc (.cells [ak encI 1 t])).get 0=some (.cells (aq Z)):=by rw [Heap.aQ,Heap.aJ,bJ,if_neg (by omega)];exact aA _ _
 have g1:((Heap.empty.alloc (.cells (aq Z))).alloc (.cells [ak encI 1 t])).get 1=some (.cells [ak encI 1 t]):=aA (Heap.empty.alloc (.cells (aq Z))) _;have n2:((Heap.empty.alloc (.cells (aq Z))).alloc (.cells [ak encI 1 t])).next=2:=rfl
 generalize ((Heap.empty.alloc (.cells (aq Z))).alloc (.cells [ak encI 1 t]))=A at g0 g1 n2 ⊢;have lz:ag none (.ptr 0 0) A=some (.int .i64 (n':Int)):=by rw [aj g0,<- hn];rfl
 simp only [lz,an,show iD [.int .i64 0,.jJ] [(0,1),(1,1)] [.int .i64 (n':Int),.map 2]=some (.agg [.int .i64 (n':Int),.map 2]) from rfl,dg (show bx [.int .i64 (n':Int),.map 2]=true from rfl)];have m0:((A.alloc (.map [] 0)).alloc (.cells [.int .i64 (n':Int),.map 2])).get 0=some (.cells (aq Z)):=by rw [Heap.aQ,Heap.aJ,if_neg (by omega),Heap.aQ,if_neg (by omega)];exact g0
 have m1:((A.alloc (.map [] 0)).alloc (.cells [.int .i64 (n':Int),.map 2])).get 1=some (.cells [ak encI 1 t]):=by rw [Heap.aQ,Heap.aJ,if_neg (by omega),Heap.aQ,if_neg (by omega)];exact g1
 have m2:((A.alloc (.map [] 0)).alloc (.cells [.int .i64 (n':Int),.map 2])).get 2=some (.map [] 0):=by rw [Heap.aQ,Heap.aJ,if_neg (by omega),<- n2];exact aA _ _
 have m3:((A.alloc (.map [] 0)).alloc (.cells [.int .i64 (n':Int),.map 2])).get 3=some (.cells [.int .i64 (n':Int),.map 2]):=by
  have h3:3=(A.alloc (.map [] 0)).next:=by rw [Heap.aJ,n2]
  rw [h3];exact aA _ _
 have mn:((A.alloc (.map [] 0)).alloc (.cells [.int .i64 (n':Int),.map 2])).next=4:=by rw [Heap.aJ,Heap.aJ,n2]
 generalize ((A.alloc (.map [] 0)).alloc (.cells [.int .i64 (n':Int),.map 2]))=M at m0 m1 m2 m3 mn ⊢;have lr:ag none (.ptr 0 1) M=some (ak aW 3 Z.aC):=by rw [aj m0];rfl
 simp only [aR,reduceAdd,reduceEqDiff,reduceIte,lr];have hD0:dB (fun _=>none) M 2 4:=⟨⟨[],0,[],m2,trivial,fun nm=>rfl⟩,fun nm p hp=>(by cases hp),fun nm nm' p p' hp=>(by cases hp),by omega⟩
 refine MA (n:=n') (B:=2) (S:=3) (SB:=0) (P:=1) (lo:=4) (D1:=fun _=>none) (a0:=ak aO 3 rules) (a2:=.str nm) k9 qC hn n1 sI m3 m0 hD0 (by omega) (by omega) (by omega) (by omega) (by omega) rfl rfl rfl rfl rfl rfl rfl rfl ?_;intro h' D E hD mF AD hfr oK E0 E2 E7 E9;have WG:∀ q ∈ Z.aC.l,∃ b,D q.name=some (b,bitsOf n' q.arity.toNat q.aM.l):=fun q hq=>by obtain ⟨b,_,hb⟩:=mF q hq;exact ⟨b,hb⟩
 have adm:=Po qC WG AD;rw [F.bS.aF];obtain ⟨Hs,s1,s2,s3,s4⟩:=lI (h:=h') (z:=.int .i64 0) (v:=.int .i64 0) rfl rfl;have xs:bu h' Hs:=⟨by omega,fun c hc=>s3 c (by omega)⟩
 simp only [s1,E0,aR,reduceAdd,reduceEqDiff,reduceIte];have t1:Hs.get 1=some (.cells [ak encI 1 t]):=by rw [xs.get _ (by omega),hfr 1 (by omega) (by omega)];exact m1
 have t3:Hs.get 3=some (.cells [.int .i64 (n':Int),.map 2]):=by rw [xs.get _ (by omega),hfr 3 (by omega) (by omega)];exact m3
 have hDs:=hD.ext xs;have WH:∀ nm p,D nm=some p->p.1≠h'.next:=fun nm p hp=>by have:=(hD.Df nm p hp).2.1;omega
 refine aD 0 rules.l.length (zero_le _) (fun i e h=>h.get h'.next=some (.cells [.int .i64 (AH n' D nm t.l (rules.l.take i) 0)])/\(∀ b,b<Hs.next->b≠h'.next->h.get b=Hs.get b)/\Hs.next<=h.next/\e 2 = .str nm/\e 7 = .ptr 1 0/\e 9 = .ptr 3 0/\e 16 = .ptr h'.next 0/\e 68=ak aO 3 rules/\e 69 = .int .i64 (rules.l.length:Int)/\e 70 = .int .i64 (i:Int))
  ⟨s2,fun _ _ _=>rfl,dK _,E2,E7,E9,rfl,rfl,rfl,rfl⟩ ?_ ?_
 ·rintro i e h _ hi ⟨hc,hfb,Y5,e2,e7,e9,SL,e68,e69,Y6⟩ K' yF hx hr hp;have hv:rules.l[i]?=some rules.l[i]:=ez hi;generalize rules.l[i]=r at hv;have nV:=iz hv;obtain ⟨H1,DX,p1,Y7,pn1⟩:=cx (h:=h) (zs:=[.str [],.ax,.ax]) (cs:=aO r) (n:=3) rfl rfl (jG r);have x1:bu h H1:=⟨by omega,fun b hb=>Y7 b (by omega)⟩
  have ln:ag none (.ptr h.next 0) H1=some (.str r.name):=by rw [aj p1];rfl
  have lru:ag (some 3) (.ptr h.next 0) H1=some (.agg (aO r)):=by rw [aj p1,cV (cs:=aO r) (n:=3) rfl]
  have jb:=Pn (n:=n') (D:=D) (nm:=nm) (t:=t.l) hv 0;rw [F.bS.jf];simp only [e2,e9,e7,SL,e68,e69,Y6,aR,reduceAdd,reduceEqDiff,reduceIte,aZ hi,aV rules hi,dO gu hv,DX,ln]
  cases pU:(r.name==nm) with
  |false=>
   have hne:r.name≠nm:=fun e=>by rw [e] at pU;simp at pU
   rw [if_neg hne] at jb;simp only [Bool.not_false,aL,Y6,aI hi hbig,an];refine yF _ _ ⟨by rw [jb,x1.get _ (by omega)];exact hc,fun b b1 b2=>by rw [x1.get _ (by omega)];exact hfb b b1 b2,by omega,e2,e7,e9,SL,e68,e69,rfl⟩
  |true=>
   have rY:r.name=nm:=by simpa using pU
   rw [if_pos rY] at jb;simp only [Bool.not_true,aK,lru,Y6,an];refine ai (cC (i0:=(i:Int)) (r:=r) (iV r nV) fun hd cs ls q1 q2 q3=>?_);obtain ⟨H2,qW,p2,po2,pn2⟩:=cx (h:=H1) (zs:=[.int .i64 0,.str [],.ax,.ax,.int .i64 0,.ax,.ax,.ax]) (cs:=bI (i:Int) r (varsOf r).length (ak encI 1 hd) (ak cU 1 cs) (ak encI 1 ls)) (n:=8) rfl rfl (vS _ _ _ _ _ _);have x2:bu H1 H2:=⟨by omega,fun b hb=>po2 b (by omega)⟩
   have lp:ag (some 8) (.ptr H1.next 0) H2=some (.agg (bI (i:Int) r (varsOf r).length (ak encI 1 hd) (ak cU 1 cs) (ak encI 1 ls))):=by rw [aj p2,cV (n:=8) rfl]
   have xh:bu h H2:=x1.trans x2;have fH:∀ b,b<Hs.next->b≠h'.next->H2.get b=Hs.get b:=fun b b1 b2=>by rw [xh.get _ (by omega)];exact hfb b b1 b2
   have o:Sd 3 2 n' 4 H1.next 1 h'.next D r (i:Int) (varsOf r).length hd cs ls t H2:=
    ⟨n1,sI,by rw [fH 3 (by omega) (by omega)];exact t3,hDs.gJ (by omega) WH fH (by omega),p2,by rw [fH 1 (by omega) (by omega)];exact t1,⟨by omega,by omega,by omega,by omega,by omega⟩,⟨by omega,by omega,by omega,by omega⟩,WH,ask D WG r nV,adl r nV,vZ,rfl,q1⟩
   have ab:EB h'.next H2 (AH n' D nm t.l (rules.l.take i) 0) H2:=⟨by rw [xh.get _ (by omega)];exact hc,dK _,fun _ _ _=>rfl⟩
   simp only [aR,reduceAdd,reduceEqDiff,reduceIte,qW,lp,e7,e9,SL];refine ai (Ec (fun V hV=>MB o V hV) (iV r nV) rfl (H7 r nV) q2 q3 ab (dK _) fun h3 a3 f3 n3=>?_);simp only [aR,reduceAdd,reduceEqDiff,reduceIte,Y6,aI hi hbig];refine yF _ _ ⟨by rw [jb];exact a3.hN,fun b b1 b2=>by rw [a3.gJ b (by omega) b2];exact fH b b1 b2,by omega,e2,e7,e9,SL,e68,e69,rfl⟩
 ·rintro e h ⟨hc,hfb,Y5,e2,e7,e9,SL,e68,e69,Y6⟩ K' hx;rw [F.bS.jf];simp only [e69,Y6,aR,reduceAdd,reduceEqDiff,reduceIte,aS];rw [hx,F.bS.fX];rw [jD (dK _)] at hc;have lc:ag none (.ptr h'.next 0) h=some (.int .i64 (AH n' D nm t.l rules.l 0)):=by rw [aj hc];rfl
  simp only [bL,reduceEqDiff,reduceIte,SL,lc,an];have hle:=GY (n:=n') (L:=iG n' Z) (nm:=nm) (t:=t.l) h64;have h0:zH 0=0:=Sb (by omega) (by omega)
  have SZ:AH n' D nm t.l rules.l 0=((kQ n' (iG n' Z) nm t.l rules.l:Nat):Int):=by
   have:=Iz n1 (D:=D) (nm:=nm) (t:=t.l) rules.l 0;rw [h0,adm] at this;rw [this,Sb (by omega) (by omega)];omega
  rw [SZ];exact gd rfl
theorem Cw(ts:List (Sl Int)):ts.flatMap cU=ts.map fun t=>ak encI 1 t:=by
 induction ts with
 |nil=>rfl
 |cons t ts ih=>rw [flatMap_cons,ih];rfl
theorem KC(ts:List (Sl Int)):bx (ts.flatMap cU)=true:=by
 induction ts with
 |nil=>rfl
 |cons t ts ih=>rw [flatMap_cons];cases t<;>exact ih
theorem ME{ts:List (Sl Int)}(o:Own cU 1 k h v ts)(hn:ts = []->v = .ax)(hlen:ts.length<=1000000){vb:Nat}{y:Sl Int}(Wx:h.get vb=some (.cells (cU y)))(hne:cL v≠some vb)(Xq:k<=h.next)(hi:i<=ts.length)
  (hK:∀ v' h',Own cU 1 k h' v' (ts.take i++y :: ts.drop i)->(∀ b,b<h.next->cL v≠some b->h'.get b=h.get b)->h.next<=h'.next->cL v'=some h.next->K (.ret v') h'=true):Sem TP 56 [v,.int .i64 (i:Int),.slice vb 0 1 1] h K:=by
 have jO:(ak encI 1 y).one=true:=by cases y<;>rfl
 refine iR.Wb rA (f:=56) rfl ?_;have hci:((i:Nat):Int)=Int.ofNat i:=rfl;rw [hci]
 cases o with
 |nil=>
  obtain rfl:i=0:=by simpa using hi
  have e:sg [.ax,.int .i64 (Int.ofNat 0),.slice vb 0 1 1] h K=((ak encI 1 y).one&&(Nat.beq 0 0&&K (.ret (.slice h.next 0 1 1)) (h.alloc (.cells [ak encI 1 y])))):=by
   simp only [sg,Wx,cU]
  rw [e,jO];refine hK _ (h.alloc (.cells [ak encI 1 y])) ?_ (fun b hb _=>by rw [Heap.aQ,if_neg (by omega)]) (by rw [Heap.aJ];omega) rfl;exact .row h.next [y] Xq (by rw [Heap.aJ];omega) (aA _ _)
 |row b ts h1 h2 h3=>
  have hl:(ts.flatMap cU).length=ts.length:=by rw [gj rF];omega
  have Sh:1<=ts.length:=by
   rcases eq_zero_or_pos ts.length with h0|h0
   ·have:=hn (length_eq_zero_iff.1 h0);cases this
   ·exact h0
  have YQ:b≠vb:=fun e=>hne (by rw [e];rfl)
  have e:sg [.slice b 0 ts.length 1,.int .i64 (Int.ofNat i),.slice vb 0 1 1] h K=((ak encI 1 y).one&&(!(Nat.beq b vb)&&(Nat.beq (ts.flatMap cU).length ts.length&&(ble 1 ts.length&&(ble i ts.length&&(ble ((ts.length+1)*24) 140737488355328&&(bx (ts.flatMap cU) &&
    K (.ret (.slice h.next 0 (ts.length+1) 1)) ((h.set b .dead).alloc (.cells ((ts.flatMap cU).take i++ak encI 1 y :: (ts.flatMap cU).drop i)))))))))):=by
   simp only [sg,Wx,cU,h3]
  have c1:Nat.beq b vb=false:=by cases hh:Nat.beq b vb with|false=>rfl|true=>exact absurd (eq_of_beq_eq_true hh) YQ
  have c2:Nat.beq (ts.flatMap cU).length ts.length=true:=by rw [hl];exact Nat.beq_refl _
  have c3:ble 1 ts.length=true:=ble_eq_true_of_le Sh;have c4:ble i ts.length=true:=ble_eq_true_of_le hi;have c5:ble ((ts.length+1)*24) 140737488355328=true:=ble_eq_true_of_le (by omega);rw [e,jO,c1,c2,c3,c4,c5,KC]
  have hcs:(ts.flatMap cU).take i++ak encI 1 y :: (ts.flatMap cU).drop i=(ts.take i++y :: ts.drop i).flatMap cU:=by
   rw [Cw,Cw,map_append,map_cons,map_take,map_drop]
  have hln:ts.length+1=(ts.take i++y :: ts.drop i).length:=by simp;omega
  rw [hcs];show K _ _=true;rw [hln];have oK:(h.set b .dead).next=h.next:=Heap.bp _ _ _
  refine hK _ _ ?_ (fun c hc hb=>?_) (by rw [Heap.aJ,oK];omega) rfl
  ·refine .row h.next _ Xq (by rw [Heap.aJ,oK];omega) ?_
   rw [<- oK];exact aA _ _
  ·rw [Heap.aQ,if_neg (by rw [oK];omega),Heap.aP,if_neg (fun e=>hb (by rw [e];rfl))]
theorem MF{ts:List (Sl Int)}(o:Own cU 1 k h v ts)(hlen:ts.length<=1000000)(Xq:k<=h.next)(hi:i<ts.length)
  (hK:∀ v' h',Own cU 1 k h' v' (ts.take i++ts.drop (i+1))->(∀ b,b<h.next->cL v≠some b->h'.get b=h.get b)->h.next<=h'.next->cL v'=some h.next->K (.ret v') h'=true):Sem TP 57 [v,.int .i64 (i:Int),.int .i64 ((i+1:Nat):Int)] h K:=by
 refine iR.Wb rA (f:=57) rfl ?_;have hci:((i:Nat):Int)=Int.ofNat i:=rfl;have ago:((i+1:Nat):Int)=Int.ofNat (i+1):=rfl;rw [hci,ago]
 cases o with
 |nil=>simp at hi
 |row b ts h1 h2 h3=>
  have hl:(ts.flatMap cU).length=ts.length:=by rw [gj rF];omega
  have e:yX [.slice b 0 ts.length 1,.int .i64 (Int.ofNat i),.int .i64 (Int.ofNat (i+1))] h K=(Nat.beq (ts.flatMap cU).length ts.length&&(ble (i+1) (i+1)&&(ble (i+1) ts.length&&(ble (ts.length*24) 140737488355328&&(bx (ts.flatMap cU) &&
    K (.ret (.slice h.next 0 (ts.length-(i+1-i)) 1)) ((h.set b .dead).alloc (.cells ((ts.flatMap cU).take i++(ts.flatMap cU).drop (i+1))))))))):=by
   simp only [yX,h3]
  have c2:Nat.beq (ts.flatMap cU).length ts.length=true:=by rw [hl];exact Nat.beq_refl _
  have c3:ble (i+1) (i+1)=true:=ble_eq_true_of_le (dK _);have c4:ble (i+1) ts.length=true:=ble_eq_true_of_le hi;have c5:ble (ts.length*24) 140737488355328=true:=ble_eq_true_of_le (by omega);rw [e,c2,c3,c4,c5,KC]
  have hcs:(ts.flatMap cU).take i++(ts.flatMap cU).drop (i+1)=(ts.take i++ts.drop (i+1)).flatMap cU:=by
   rw [Cw,Cw,map_append,map_take,map_drop]
  have hln:ts.length-(i+1-i)=(ts.take i++ts.drop (i+1)).length:=by simp;omega
  rw [hcs];show K _ _=true;rw [hln];have oK:(h.set b .dead).next=h.next:=Heap.bp _ _ _
  refine hK _ _ ?_ (fun c hc hb=>?_) (by rw [Heap.aJ,oK];omega) rfl
  ·refine .row h.next _ Xq (by rw [Heap.aJ,oK];omega) ?_
   rw [<- oK];exact aA _ _
  ·rw [Heap.aQ,if_neg (by rw [oK];omega),Heap.aP,if_neg (fun e=>hb (by rw [e];rfl))]
theorem NW(hs:kG L){a b:Nat}{u v:List Int}(hu:L[a]?=some u)(hv:L[b]?=some v)(qX:a<b):dy u v=true:=by
 have h1:=pairwise_iff_getElem.1 hs;obtain ⟨p1,q1⟩:=kT.1 hu;obtain ⟨p2,q2⟩:=kT.1 hv;have:=h1 a b p1 p2 qX
 rwa [q1,q2] at this
theorem Yg(hs:kG L){t:List Int}(hlen:∀ u ∈ L,u.length=t.length)(CQ:∀ a u,a<n->L[a]?=some u->dy u t=true)(KP:∀ a u,n<=a->L[a]?=some u->dy u t=false)(ht:t ∉ L) :
  kG (L.take n++t :: L.drop n):=by
 refine MD hs (fun y hy=>?_) (fun y hy=>?_)
 ·obtain ⟨a,ha⟩:=getElem?_of_mem hy;rw [getElem?_drop] at ha;have hm:=iz ha;exact AJ (hlen y hm) (KP _ y (by omega) ha) (fun e=>ht (e▸hm))
 ·obtain ⟨a,ha⟩:=getElem?_of_mem hy;have hal:a<n:=by have:=(kT.1 ha).1;rw [length_take] at this;omega
  rw [getElem?_take,if_pos hal] at ha;exact CQ a y hal ha
theorem Yh(hs:kG L){t:List Int}(CQ:∀ a u,a<n->L[a]?=some u->dy u t=true)(KP:∀ a u,n<=a->L[a]?=some u->dy u t=false)(ht:t ∈ L) :
  L[n]?=some t/\kG (L.take n++L.drop (n+1))/\∀ u,u ∈ L.take n++L.drop (n+1)↔u ∈ L/\u≠t:=by
 obtain ⟨a,ha⟩:=getElem?_of_mem ht;have h1:¬ a<n:=fun h=>by have:=CQ a t h ha;rw [j8] at this;cases this
 have han:a=n:=by
  rcases Nat.lt_or_ge n a with h|h
  ·have hl:n<L.length:=by have:=(kT.1 ha).1;omega
   have:=NW hs (ez hl) ha h;rw [KP n _ (dK _) (ez hl)] at this;cases this
  ·omega
 subst han;have e:L.take a++L.drop (a+1)=L.eraseIdx a:=(eraseIdx_eq_take_drop_succ L a).symm;refine ⟨ha,by rw [e];exact List.Pairwise.sublist (eraseIdx_sublist L a) hs,fun u=>?_⟩;constructor
 ·intro hu;rcases mem_append.1 hu with hu|hu
  ·refine ⟨mem_of_mem_take hu,fun he=>?_⟩;subst he;obtain ⟨b,hb⟩:=getElem?_of_mem hu;have XT:b<a:=by have:=(kT.1 hb).1;rw [length_take] at this;omega
   rw [getElem?_take,if_pos XT] at hb;have:=CQ b u XT hb;rw [j8] at this;cases this
  ·refine ⟨mem_of_mem_drop hu,fun he=>?_⟩;subst he;obtain ⟨b,hb⟩:=getElem?_of_mem hu;rw [getElem?_drop] at hb;have:=NW hs ha hb (by omega);rw [j8] at this;cases this
 ·rintro ⟨hu,hne⟩;obtain ⟨b,hb⟩:=getElem?_of_mem hu;rcases Nat.lt_trichotomy b a with h|h|h
  ·exact mem_append_left _ (iz (i:=b) (by rw [getElem?_take,if_pos h];exact hb))
  ·subst h;rw [ha] at hb;cases hb;exact absurd rfl hne
  ·exact mem_append_right _ (iz (i:=b-(a+1)) (by rw [getElem?_drop,show a+1+(b-(a+1))=b by omega];exact hb))
theorem G1{k:Nat}{h:Heap}:∀ (l:List (wM×List (Sl Int))),(∀ p ∈ l,Own cU 1 k h p.1.2.2.1 p.2) ->
  ∃ zs:List Rel,zs.map bZ=l.map KB/\zs.length=l.length/\mu true h ((l.map (·.1)).flatMap iw) (zs.flatMap aW)
 |[],_=>⟨[],rfl,rfl,.nil⟩
 |p :: l,hp=>by
  obtain ⟨zs,h1,h2,h3⟩:=G1 l fun q hq=>hp q (mem_cons_of_mem _ hq);obtain ⟨x,x1,x2⟩:=(jM.AA (hp p mem_cons_self) nj).fz;have hx:x.l=p.2:=by rw [x1,List.map_map];simp [Function.comp_def]
  obtain ⟨⟨nm,k,v⟩,ts⟩:=p;refine ⟨⟨nm,k,x⟩ :: zs,?_,by simp [h2],?_⟩
  ·rw [map_cons,map_cons,h1];have hx:x.l=ts:=hx;simp [bZ,KB,hx]
  ·rw [map_cons,flatMap_cons,flatMap_cons];exact mu.append (Mi x2) h3
theorem NX{a:AV}{l:List (wM×List (Sl Int))}(o:Own iw 3 k h a (l.map (·.1)))(hp:∀ p ∈ l,Own cU 1 k h p.1.2.2.1 p.2):∃ z:Sl Rel,z.l.map bZ=l.map KB/\Fz true h a (ak aW 3 z):=by
 obtain ⟨zs,h1,h2,h3⟩:=G1 l hp;generalize hm:l.map (·.1)=m at o h3
 cases o with
 |nil=>
  have:l = []:=by simpa using hm
  subst this;exact ⟨none,rfl,.dX rfl⟩
 |row b m q1 q2 q3=>
  have hml:m.length=zs.length:=by rw [<- hm,length_map,h2]
  refine ⟨some zs,h1,?_⟩;have:ak aW 3 (some zs) = .au (zs.flatMap aW) 0 zs.length 3:=rfl;rw [this,hml];exact .slice b 0 zs.length 3 _ _ q3 h3.len h3.rel
theorem zD{t:Sl Int}(hv:Fz true h v (ak cU 1 x))(hl:x.l.length<=1000000)(hk:∀ u ∈ x.l,u.l.length=t.l.length)(vZ:t.l.length<=cE)(hs:kG (x.l.map Sl.l))
  (hK:∀ n:Nat,n<=x.l.length->(∀ a u,a<n->x.l[a]?=some u->dy u.l t.l=true)->(∀ a u,n<=a->x.l[a]?=some u->dy u.l t.l=false)->K (.ret (.tuple [.int .i64 (n:Int),.bool (decide (t.l ∈ x.l.map Sl.l))])) h=true) :
  Sem TP 54 [v,ak encI 1 t,.func 55 [] []] h K:=
 (tq hl hk vZ hs (h:=Heap.empty) (K:=fun o h'=>yes (∃ n:Nat,o = .ret (.tuple [.int .i64 (n:Int),.bool (decide (t.l ∈ x.l.map Sl.l))])/\n<=x.l.length/\(∀ a u,a<n->x.l[a]?=some u->dy u.l t.l=true)/\(∀ a u,n<=a->x.l[a]?=some u->dy u.l t.l=false)))
  fun n a b c=>cu.2 ⟨n,rfl,a,b,c⟩).Xg (.cons hv (.cons (.dX (b7 jd t)) (.cons (.dX rfl) .nil))) fun o h' ho=>by
  obtain ⟨n,rfl,a,b,c⟩:=cu.1 ho;have:=mu.cons (gJ:=false) (h:=h') (Fz.scalar (.int .i64 (n:Int)) rfl) (mu.cons (Fz.scalar (.bool (decide (t.l ∈ x.l.map Sl.l))) rfl) mu.nil);exact ⟨_,_,rfl,.tuple _ _ this.len this.rel,hK n a b c⟩
theorem zE(s:St):dG TP s Tryz.f18.results.toList=(match ag (some 2) (s.env 8) s.h,(some [s.env 9]:Option (List AV)) with|some v,some vs=>some (v :: vs)|_,_=>none):=by kernel_rfl
set_option maxHeartbeats 2000000 in
theorem Pp(l9:s.ok)(hv:cY s=true){t:Sl Int}(hj:iC (gY nm (t.l.length:Int)) s.aC.l=(j:Int))(hr:s.aC.l[j]?=some r)(Pe:r.arity=(t.l.length:Int))(hin:iY s.size t.l=true)
  (hK:∀ s',FN s j r t.l is s'->K (.ret (.tuple [.agg (aq s'),.int .i64 0])) h=true):Sem TP 18 [.agg (aq s),.str nm,ak encI 1 t,.bool is] h K:=by
 have hm:cG=140737488355328:=rfl;have nV:=iz hr;have Ht:j<s.aC.l.length:=(kT.1 hr).1;have mF:=(gE.1 hv).rel _ (List.mem_map_of_mem nV);obtain ⟨_,k,hk1,Ii,hkp,NQ⟩:=mF;have agj:r.arity=(k:Int):=hk1;have hkl:t.l.length=k:=by omega
 have vZ:t.l.length<=cE:=by unfold cE;omega
 have SW:=(ff hv).1;have hrt:=SW.Io r nV
 have main:Sem TP 18 [.agg (aq s),.str nm,ak encI 1 t,.bool is] Heap.empty (fun o h'=>yes (∃ v s',o = .ret (.tuple [v,.int .i64 0])/\FN s j r t.l is s'/\Fz true h' v (.agg (aq s')))):=by
  refine F.FB ?_;rw [F.HT];simp only [dg (cA s),an,Heap.aJ,bJ];have g0:(Heap.alloc (Heap.alloc Heap.empty (.cells (aq s))) (.cells [.int .i64 0,.ax])).get 0=some (.cells (aq s)):=by simp [Heap.aQ,bJ]
  have g1:(Heap.alloc (Heap.alloc Heap.empty (.cells (aq s))) (.cells [.int .i64 0,.ax])).get 1=some (.cells [.int .i64 0,.ax]):=by simp [Heap.aQ,bJ]
  have gn:(Heap.alloc (Heap.alloc Heap.empty (.cells (aq s))) (.cells [.int .i64 0,.ax])).next=2:=rfl
  generalize (Heap.alloc (Heap.alloc Heap.empty (.cells (aq s))) (.cells [.int .i64 0,.ax]))=H1 at g0 g1 gn ⊢;have l0:ag (some 2) (.ptr 0 0) H1=some (.agg (aq s)):=by rw [aj g0,cV (cs:=aq s) (n:=2) rfl]
  have lz:ag none (.ptr 0 0) H1=some (.int .i64 s.size):=by rw [aj g0];rfl
  simp only [l0,an];refine ai (G0 l9 hv hj hr Pe vZ ?_);simp only [aR,reduceAdd,reduceEqDiff,reduceIte,cI,decide_true,Bool.not_true,lz];refine ai (uX vZ ?_);rw [hin];simp only [aR,reduceAdd,reduceEqDiff,reduceIte,Bool.not_true,l0];refine ai (Bu SW fun a H2 l hx hd hl=>?_)
  have B8:bx [.int .i64 s.size,a]=true:=by
   have c:=hd.own.lM;have:=c.1;rw [c.2.2] at this;simp only [bx,Bool.and_true] at this ⊢;rw [this];rfl
  obtain ⟨H3,Nb,p3,RP,Vb⟩:=cx (h:=H2) (zs:=[.int .i64 0,.ax]) (cs:=[.int .i64 s.size,a]) (n:=2) rfl rfl B8;have x3:bu H2 H3:=⟨by omega,fun b hb=>RP b (by omega)⟩
  have n2:=hx.next
  have d3:=hd.ext x3;rw [gn] at d3 n2;have q0:H3.get 0=some (.cells (aq s)):=by rw [RP 0 (by omega),hx.get 0 (by omega)];exact g0
  have q1:H3.get 1=some (.cells [.int .i64 0,.ax]):=by rw [RP 1 (by omega),hx.get 1 (by omega)];exact g1
  have lr:ag none (.ptr H2.next 1) H3=some a:=by rw [aj p3];rfl
  have l3:ag (some 2) (.ptr 0 0) H3=some (.agg (aq s)):=by rw [aj q0,cV (cs:=aq s) (n:=2) rfl]
  simp only [aR,reduceAdd,reduceEqDiff,reduceIte,Nb,lr,l3];refine ai (sK l9 ?_);rw [hj];have XO:l.length=s.aC.l.length:=by have:=congrArg List.length hl;simpa using this
  obtain ⟨⟨q,ts⟩,hp⟩:∃ p,l[j]?=some p:=⟨l[j]'(by omega),ez (by omega)⟩
  have GB:=iz hp
  have Zv:KB (q,ts)=bZ r:=by
   have:=congrArg (·[j]?) hl;simp only [getElem?_map,hp,hr,map_some,Option.some.injEq] at this;exact this
  have e1:q.1=r.name:=congrArg (·.1) Zv;have e2:q.2.1=r.arity:=congrArg (·.2.1) Zv;have e3:ts.map Sl.l=r.aM.l.map Sl.l:=congrArg (·.2.2) Zv;have ht3:ts.length=r.aM.l.length:=by have:=congrArg List.length e3;simpa using this
  have YX:(l.map (·.1))[j]?=some q:=by rw [getElem?_map,hp];rfl
  have oq:Own cU 1 2 H3 q.2.2.1 ts:=d3.row _ GB;obtain ⟨x,x1,x2⟩:=(jM.AA oq nj).fz;have Gx:x.l=ts:=by rw [x1,List.map_map];simp [Function.comp_def]
  have hlen:∀ u ∈ ts.map Sl.l,u.length=t.l.length:=fun u hu=>by
   rw [e3] at hu;rw [hkl];exact (NQ.1 u hu).1
  have ry:kG (ts.map Sl.l):=by rw [e3];exact NQ.2
  have fin:∀ (hF:Heap) (l':List (wM×List (Sl Int))) (L':List (List Int)),Own iw 3 2 hF a (l'.map (·.1))->(∀ p ∈ l',Own cU 1 2 hF p.1.2.2.1 p.2)->hF.get H2.next=some (.cells [.int .i64 s.size,a])->hF.get 1=some (.cells [.int .i64 0,.ax]) ->
    l'.map KB=(s.aC.l.map bZ).set j (r.name,r.arity,L')->kG L'->(∀ u,u ∈ L'↔(u ∈ r.aM.l.map Sl.l/\u≠t.l)\/(is=true/\u=t.l)) ->
    ag (some 2) (.ptr H2.next 0) hF=some (.agg [.int .i64 s.size,a])/\∃ hG,bf 2 (.ptr 1 0) (.agg [.int .i64 s.size,a]) hF=some hG/\ag (some 2) (.ptr 1 0) hG=some (.agg [.int .i64 s.size,a])/\∃ s',FN s j r t.l is s'/\Fz true hG (.agg [.int .i64 s.size,a]) (.agg (aq s')):=by
   intro hF l' L' o1 o2 o3 o4 o5 o6 o7;refine ⟨by rw [aj o3];rfl,hF.set 1 (.cells [.int .i64 s.size,a]),by rw [cK (n:=2) (v:=.agg [.int .i64 s.size,a]) o4 rfl B8 (by simp)];rfl,by rw [aj (cs:=[.int .i64 s.size,a]) (by rw [Heap.aP,if_pos rfl])];rfl,?_⟩;obtain ⟨z,z1,z2⟩:=NX (o1.kM (d:=1) (by omega) (.cells [.int .i64 s.size,a])) fun p hp=>(o2 p hp).kM (d:=1) (by omega) (.cells [.int .i64 s.size,a]);refine ⟨⟨s.size,z⟩,⟨rfl,L',o6,o7,by rw [<- o5];exact z1⟩,?_⟩;have:=mu.cons (.scalar (.int .i64 s.size) rfl) (mu.cons z2 mu.nil);exact .agg _ _ this.len this.rel
  have gz:(∀ u,u ∈ r.aM.l.map Sl.l↔(u ∈ r.aM.l.map Sl.l/\u≠t.l)\/(is=true/\u=t.l))->ag (some 2) (.ptr H2.next 0) H3=some (.agg [.int .i64 s.size,a])/\∃ hG,bf 2 (.ptr 1 0) (.agg [.int .i64 s.size,a]) H3=some hG/\ag (some 2) (.ptr 1 0) hG=some (.agg [.int .i64 s.size,a])/\∃ s',FN s j r t.l is s'/\Fz true hG (.agg [.int .i64 s.size,a]) (.agg (aq s')):=fun hu=>by
   refine fin H3 l (r.aM.l.map Sl.l) d3.own d3.row p3 q1 ?_ NQ.2 hu;rw [hl];refine ext_getElem? fun i=>?_;by_cases hi:i=j
   ·subst hi;rw [getElem?_set_self (by simpa using Ht),getElem?_map,hr];rfl
   ·rw [getElem?_set_ne (Ne.symm hi)]
  have chg:∀ (hF:Heap) (v':O2) (WI:List (Sl Int)),Own cU 1 2 hF v'.1 WI->(∀ b,b<H3.next->cL q.2.2.1≠some b->hF.get b=H3.get b)->H3.next<=hF.next->(∀ b,cL v'.1=some b->H3.next<=b)->kG (WI.map Sl.l)->(∀ u,u ∈ WI.map Sl.l↔(u ∈ r.aM.l.map Sl.l/\u≠t.l)\/(is=true/\u=t.l)) ->
    ∃ b hH,dN 3 a (.int .i64 (j:Int))=some (.ptr b (j*3))/\bf 1 (.ptr b (j*3+2)) v'.1 hF=some hH/\ag (some 2) (.ptr H2.next 0) hH=some (.agg [.int .i64 s.size,a])/\∃ hG,bf 2 (.ptr 1 0) (.agg [.int .i64 s.size,a]) hH=some hG/\ag (some 2) (.ptr 1 0) hG=some (.agg [.int .i64 s.size,a])/\∃ s',FN s j r t.l is s'/\Fz true hG (.agg [.int .i64 s.size,a]) (.agg (aq s')):=by
   intro hF v' WI ov hfr oK qd gI PJ;have oF:Own iw 3 2 hF a (l.map (·.1)):=d3.own.agree (fun b hb=>hfr b (d3.own.lt hb) (fun hc=>d3.sep _ GB b hc hb)) oK;obtain ⟨b,cs,i1,i2,i3,i4,i5,i6⟩:=oF.WE YX v';have hb2:b<H2.next:=hd.own.lt i2
   have hb3:2<=b:=d3.own.ge i2;have hqb:∀ c,cL q.2.2.1=some c->c<H2.next/\2<=c:=fun c hc=>⟨(hd.row _ GB).lt hc,oq.ge hc⟩
   refine ⟨b,hF.set b (.cells cs),i1,i5,?_⟩;have kK:(l.set j ((q.1,q.2.1,v'),WI)).map (·.1)=(l.map (·.1)).set j (q.1,q.2.1,v'):=by rw [map_set]
   refine fin (hF.set b (.cells cs)) (l.set j ((q.1,q.2.1,v'),WI)) (WI.map Sl.l) (by rw [kK];exact i6) (fun p hpp=>?_) ?_ ?_ ?_ gI PJ
   ·obtain ⟨i,hi⟩:=getElem?_of_mem hpp;by_cases hij:i=j
    ·subst hij;rw [getElem?_set_self (by omega)] at hi;cases hi;exact ov.agree (fun c hc=>by rw [Heap.aP,if_neg (fun e=>by have:=qd c hc;omega)]) (by rw [Heap.bp];omega)
    ·rw [getElem?_set_ne (Ne.symm hij)] at hi;have Tn:=iz hi;refine (d3.row p Tn).agree (fun c hc=>?_) (by rw [Heap.bp];omega);have Vh:c≠b:=fun e=>d3.sep p Tn c hc (by rw [e];exact i2);rw [Heap.aP,if_neg Vh];refine hfr c ((d3.row p Tn).lt hc) fun hqc=>?_;have ado:=pairwise_iff_getElem.1 d3.dis;obtain ⟨y1,y2⟩:=kT.1 hi;obtain ⟨y3,y4⟩:=kT.1 hp;rcases Nat.lt_or_gt_of_ne hij with hlt|Qj
     ·exact ado i j y1 y3 hlt c (by rw [y2];exact hc) (by rw [y4];exact hqc)
     ·exact ado j i y3 y1 Qj c (by rw [y4];exact hqc) (by rw [y2];exact hc)
   ·rw [Heap.aP,if_neg (by omega),hfr _ (by omega) (fun hc=>by have:=(hqb _ hc).1;omega)];exact p3
   ·rw [Heap.aP,if_neg (by omega),hfr _ (by omega) (fun hc=>by have:=(hqb _ hc).2;omega)];exact q1
   ·rw [map_set,hl];show (s.aC.l.map bZ).set j (q.1,q.2.1,WI.map Sl.l)=_;rw [e1,e2]
  obtain ⟨b,_,i1,i2,i3,i4,_,_⟩:=d3.own.WE YX q.2.2;have hnc:∀ c o:Nat,br (.ptr c o)=some (.ptr c o):=fun _ _=>rfl;simp only [aR,reduceAdd,reduceEqDiff,reduceIte,lr,AV.beq_refl,Bool.and_self,if_true,i1,hnc,i4];refine ai (zD x2 (by rw [Gx];omega) (fun u hu=>by rw [Gx] at hu;exact hlen u.l (List.mem_map_of_mem hu)) vZ (by rw [Gx];exact ry) fun n hn CQ KP=>?_);rw [Gx] at hn CQ KP ⊢;rw [e3]
  have adp:∀ c u,c<n->(ts.map Sl.l)[c]?=some u->dy u t.l=true:=fun c u hc hu=>by
   rw [getElem?_map] at hu;obtain ⟨w,hw,rfl⟩:=map_eq_some_iff.1 hu;exact CQ c w hc hw
  have adq:∀ c u,n<=c->(ts.map Sl.l)[c]?=some u->dy u t.l=false:=fun c u hc hu=>by
   rw [getElem?_map] at hu;obtain ⟨w,hw,rfl⟩:=map_eq_some_iff.1 hu;exact KP c w hc hw
  cases is with
  |true=>
   by_cases wK:t.l ∈ r.aM.l.map Sl.l
   ·simp only [aR,reduceAdd,reduceEqDiff,reduceIte,fh wK,Bool.not_true]
    obtain ⟨f1,hG,f2,f3,s',f4,f5⟩:=gz fun u=>by
     constructor
     ·intro hu;by_cases he:u=t.l
      ·exact .inr ⟨rfl,he⟩
      ·exact .inl ⟨hu,he⟩
     ·rintro (⟨hu,_⟩|⟨_,rfl⟩)
      ·exact hu
      ·exact wK
    simp only [aR,reduceAdd,reduceEqDiff,reduceIte,f1,f2,zE,f3,oneOf];exact cu.2 ⟨_,s',rfl,f4,f5⟩
   ·simp only [aR,reduceAdd,reduceEqDiff,reduceIte,eT wK,Bool.not_false,hnc,i4];refine ai (oC (by omega) fun y hy=>?_);have gy:=aA H3 (.cells (cU y));simp only [aR,reduceAdd,reduceEqDiff,reduceIte,i4,AV.beq_refl,Bool.and_self,if_true,NL];refine ai (ME (h:=H3.alloc (.cells (cU y))) (oq.ext (bu.alloc _ _)) (d3.none _ GB) (by omega) gy (fun hc=>by have:=oq.lt hc;omega) (by rw [Heap.aJ];omega) hn fun v' h' ov hfr oK Y5=>?_);obtain ⟨Cu,KW⟩:=nD ov;have Js:(ts.take n++y :: ts.drop n).map Sl.l=(ts.map Sl.l).take n++t.l :: (ts.map Sl.l).drop n:=by rw [map_append,map_cons,hy,map_take,map_drop]
    obtain ⟨b',hH,c1,c2,c3,hG,c4,c5,s',c6,c7⟩:=chg h' ⟨v',Cu,KW⟩ _ ov (fun c hc hb=>by rw [hfr c (by rw [Heap.aJ];omega) hb,Heap.aQ,if_neg (by omega)]) (by rw [Heap.aJ] at oK;omega) (fun c hc=>by
      have:v'=v':=rfl;rw [show cL v'=some (H3.alloc (.cells (cU y))).next from Y5] at hc
      rw [Heap.aJ] at hc;cases hc;omega) (by rw [Js];exact Yg ry hlen adp adq (by rw [e3];exact wK)) (fun u=>by
      rw [Js,Vv,e3];constructor
      ·rintro (hu|hu)
       ·exact .inl ⟨hu,fun e=>wK (e▸hu)⟩
       ·exact .inr ⟨rfl,hu⟩
      ·rintro (⟨hu,_⟩|⟨_,hu⟩)
       ·exact .inl hu
       ·exact .inr hu)
    obtain rfl:b'=b:=by rw [i1] at c1;cases c1;rfl
    simp only [aR,reduceAdd,reduceEqDiff,reduceIte,c2,c3,c4,zE,c5,oneOf];exact cu.2 ⟨_,s',rfl,c6,c7⟩
  |false=>
   by_cases wK:t.l ∈ r.aM.l.map Sl.l
   ·obtain ⟨B6,Zp,Jd⟩:=Yh ry adp adq (by rw [e3];exact wK);have W3:n<ts.length:=by have:=(kT.1 B6).1;simpa using this
    simp only [aR,reduceAdd,reduceEqDiff,reduceIte,fh wK,Bool.not_false,hnc,i4,aI W3 (by unfold cE;omega)];refine ai (MF oq (by omega) (by omega) W3 fun v' h' ov hfr oK Y5=>?_);obtain ⟨Cu,KW⟩:=nD ov;have Js:(ts.take n++ts.drop (n+1)).map Sl.l=(ts.map Sl.l).take n++(ts.map Sl.l).drop (n+1):=by rw [map_append,map_take,map_drop]
    obtain ⟨b',hH,c1,c2,c3,hG,c4,c5,s',c6,c7⟩:=chg h' ⟨v',Cu,KW⟩ _ ov hfr oK (fun c hc=>by
      rw [show cL v'=some H3.next from Y5] at hc
      cases hc;omega) (by rw [Js];exact Zp) (fun u=>by
      rw [Js,Jd,e3];constructor
      ·intro hu;exact .inl hu
      ·rintro (hu|⟨hu,_⟩)
       ·exact hu
       ·cases hu)
    obtain rfl:b'=b:=by rw [i1] at c1;cases c1;rfl
    simp only [aR,reduceAdd,reduceEqDiff,reduceIte,c2,c3,c4,zE,c5,oneOf];exact cu.2 ⟨_,s',rfl,c6,c7⟩
   ·simp only [aR,reduceAdd,reduceEqDiff,reduceIte,eT wK,Bool.not_false]
    obtain ⟨f1,hG,f2,f3,s',f4,f5⟩:=gz fun u=>by
     constructor
     ·intro hu;exact .inl ⟨hu,fun e=>wK (e▸hu)⟩
     ·rintro (⟨hu,_⟩|⟨hu,_⟩)
      ·exact hu
      ·cases hu
    simp only [aR,reduceAdd,reduceEqDiff,reduceIte,f1,f2,zE,f3,oneOf];exact cu.2 ⟨_,s',rfl,f4,f5⟩
 refine main.frozen (by simp [AV.cN,AV.pure,eG,b7 jd]) fun o h' ho=>?_;obtain ⟨v,s',rfl,gI,hf⟩:=cu.1 ho;have:=mu.cons hf (mu.cons (.scalar (.int .i64 0) rfl) mu.nil);exact ⟨_,_,rfl,.tuple _ _ this.len this.rel,hK s' gI⟩
structure FP where
 name:b8
 tuple:Sl Int
def oh(f:FP):List AV:=[.str f.name,ak encI 1 f.tuple]
theorem Pq(f:FP):(oh f).length=2:=rfl
theorem MG(f:FP):AV.cN (oh f)=true:=by simp [oh,AV.cN,AV.pure,b7 jd]
theorem Pr(f:FP):bx (oh f)=true:=by unfold oh;simp only [bx,fR,Bool.and_true];rfl
def IA(f:FP):b8×List Int:=(f.name,f.tuple.l)
def G2(p q:b8×Int×List (List Int)):List (b8×List Int):=(p.2.2.filter fun t=>!decide (t ∈ q.2.2)).map fun t=>(p.1,t)
def xy(la lb:List (b8×Int×List (List Int))):List (b8×List Int):=(la.zip lb).flatMap fun x=>G2 x.1 x.2
theorem KD{α β:Type}:∀ {la:List α} {lb:List β} {i:Nat} {p:α} {q:β},la[i]?=some p->lb[i]?=some q->(la.take (i+1)).zip lb=(la.take i).zip lb++[(p,q)]
 |a :: la,b :: lb,0,p,q,h1,h2=>by simp at h1 h2;subst h1;subst h2;simp
 |a :: la,b :: lb,i+1,p,q,h1,h2=>by
  rw [getElem?_cons_succ] at h1 h2;rw [take_succ_cons,take_succ_cons,zip_cons_cons,zip_cons_cons,KD h1 h2];rfl
 |[],_,_,_,_,h1,_=>by simp at h1
 |_ :: _,[],_,_,_,_,h2=>by simp at h2
theorem Yi(nm:b8)(y:Sl Int):iD [.str [],.ax] [(0,1),(1,1)] [.str nm,ak encI 1 y]=some (.agg (oh ⟨nm,y⟩)):=by cases y<;>rfl
theorem Yj(f:FP):fB [.str [],.ax] [(0,2)] [.agg (oh f)]=some (oh f):=by
 obtain ⟨nm,y⟩:=f;cases y<;>rfl
set_option maxHeartbeats 1000000 in
theorem dM{a b:di}(ha:a.small)(hb:b.small)(hlen:a.aC.l.length<=b.aC.l.length)(hkk:∀ (i:Nat) (q u:Rel),a.aC.l[i]?=some q->b.aC.l[i]?=some u->(∀ t ∈ q.aM.l,∀ w ∈ u.aM.l,w.l.length=t.l.length)/\kG (u.aM.l.map Sl.l))
  {h:Heap} {K:Out->Heap->Bool} (hK:∀ x:Sl FP,x.l.map IA=xy (a.aC.l.map bZ) (b.aC.l.map bZ)->K (.ret (ak oh 2 x)) h=true):Sem TP 92 [.agg (aq a),.agg (aq b)] h K:=by
 have hm:cG=140737488355328:=rfl;have qX:=ha.ok';have ha8:=ha.aC
 have main:Sem TP 92 [.agg (aq a),.agg (aq b)] Heap.empty (fun o h'=>yes (∃ v,∃ x:Sl FP,o = .ret v/\x.l.map IA=xy (a.aC.l.map bZ) (b.aC.l.map bZ)/\Fz true h' v (ak oh 2 x))):=by
  refine F.FC ?_;rw [F.HV];simp only [dg (cA a),dg (cA b),an,Heap.aJ,bJ];have g0:(Heap.alloc (Heap.alloc Heap.empty (.cells (aq a))) (.cells (aq b))).get 0=some (.cells (aq a)):=by simp [Heap.aQ,bJ]
  have g1:(Heap.alloc (Heap.alloc Heap.empty (.cells (aq a))) (.cells (aq b))).get 1=some (.cells (aq b)):=by simp [Heap.aQ,bJ]
  have gn:(Heap.alloc (Heap.alloc Heap.empty (.cells (aq a))) (.cells (aq b))).next=2:=rfl
  generalize (Heap.alloc (Heap.alloc Heap.empty (.cells (aq a))) (.cells (aq b)))=H at g0 g1 gn ⊢;have lr:ag none (.ptr 0 1) H=some (ak aW 3 a.aC):=by rw [aj g0];rfl
  simp only [aR,reduceAdd,reduceEqDiff,reduceIte,lr]
  refine aD 0 a.aC.l.length (zero_le _) (fun i e h'=>∃ av l,Own oh 2 2 h' av l/\l.map IA=xy ((a.aC.l.map bZ).take i) (b.aC.l.map bZ)/\l.length<=i*100000/\bu H h'/\e 3 = .ptr 1 0/\e 5=av/\e 13=ak aW 3 a.aC/\e 14 = .int .i64 (a.aC.l.length:Int)/\e 15 = .int .i64 (i:Int))
   ⟨_,[],.nil,by simp [xy],by simp,bu.refl _,rfl,rfl,rfl,rfl,rfl⟩ ?_ ?_
  ·rintro i e h' _ hi ⟨av,l,o,hl,WJ,hx,e3,e5,oQ,pO,oP⟩ K' hn gi hr hp;have hv:a.aC.l[i]?=some a.aC.l[i]:=ez hi;generalize a.aC.l[i]=r at hv;have IE:i<b.aC.l.length:=by omega
   have hw:b.aC.l[i]?=some b.aC.l[i]:=ez IE;generalize b.aC.l[i]=u at hw;have nV:=iz hv;obtain ⟨hk1,Xa⟩:=hkk i r u hv hw;have hrt:=ha.Io r nV;have hut:=hb.Io u (iz hw);obtain ⟨H3,Nb,p3,RP,Vb⟩:=cx (h:=h') (zs:=[.str [],.int .i64 0,.ax]) (cs:=aW r) (n:=3) rfl rfl (fY r);have x3:bu h' H3:=⟨by omega,fun c hc=>RP c (by omega)⟩
   have lt3:ag none (.ptr h'.next 2) H3=some (ak cU 1 r.aM):=by rw [aj p3];rfl
   have oK:=hx.next
   rw [F.dM.aT];simp only [oQ,pO,oP,aR,reduceAdd,reduceEqDiff,reduceIte,aZ hi,aV a.aC hi,dO eC hv,Nb,lt3];have Wu:r.aM.l.length<=cE:=by unfold cE;omega
   refine aD 0 r.aM.l.length (zero_le _) (fun j e h2=>∃ av l,Own oh 2 2 h2 av l/\l.map IA=xy ((a.aC.l.map bZ).take i) (b.aC.l.map bZ)++G2 (r.name,r.arity,(r.aM.l.map Sl.l).take j) (bZ u)/\l.length<=i*100000+j/\bu H h2/\h2.get h'.next=some (.cells (aW r))/\h'.next<h2.next/\(∀ c,cL av=some c->c≠h'.next) /\
    e 3 = .ptr 1 0/\e 5=av/\e 13=ak aW 3 a.aC/\e 14 = .int .i64 (a.aC.l.length:Int)/\e 15 = .int .i64 (i:Int)/\e 7 = .ptr h'.next 0/\e 6 = .int .i64 (i:Int)/\e 21=ak cU 1 r.aM/\e 22 = .int .i64 (r.aM.l.length:Int)/\e 23 = .int .i64 (j:Int))
    ⟨av,l,o.ext x3,by simpa [G2] using hl,by simpa using WJ,hx.trans x3,p3,by omega,fun c hc=>by have:=o.lt hc;omega,e3,e5,oQ,pO,oP,rfl,rfl,rfl,rfl,rfl⟩ ?_ ?_
   ·rintro j e h2 _ hj ⟨av,l,o,hl,WJ,hx,p3,q3,hne,e3,e5,oQ,pO,oP,e7,e6,Bh,B2,Wy⟩ K2 qj fo qL DY;have zx:r.aM.l[j]?=some r.aM.l[j]:=ez hj;generalize r.aM.l[j]=t at zx;have htm:=iz zx;have vZ:=ha.YZ r nV t htm;have gb:h2.get 1=some (.cells (aq b)):=by rw [hx.get 1 (by omega)];exact g1
    have lb:ag none (.ptr 1 1) h2=some (ak aW 3 b.aC):=by rw [aj gb];rfl
    have WK:G2 (r.name,r.arity,(r.aM.l.map Sl.l).take (j+1)) (bZ u)=G2 (r.name,r.arity,(r.aM.l.map Sl.l).take j) (bZ u)++if t.l ∈ u.aM.l.map Sl.l then [] else [(r.name,t.l)]:=by
     have hg:(r.aM.l.map Sl.l)[j]?=some t.l:=(by rw [getElem?_map,zx];rfl);simp only [G2,bZ];rw [take_add_one,hg,filter_append,map_append];congr 1;by_cases hin:t.l ∈ u.aM.l.map Sl.l
     ·rw [if_pos hin,toList_some,filter_cons,if_neg (by simp only [not_eq_true'];intro hh;exact absurd hin (of_decide_eq_false hh))];rfl
     ·rw [if_neg hin,toList_some,filter_cons,if_pos (by simp only [not_eq_true'];exact eT hin)];rfl
    rw [F.dM.dm];simp only [e3,e6,Bh,B2,Wy,aR,reduceAdd,reduceEqDiff,reduceIte,aZ hj,aV r.aM hj,gK zx,lb,aV b.aC IE,pX hw];refine ai (tq (by omega) (fun w hw2=>hk1 t htm w hw2) (by unfold cE;omega) Xa fun n _ _ _=>?_);by_cases hin:t.l ∈ u.aM.l.map Sl.l
    ·simp only [aR,reduceAdd,reduceEqDiff,reduceIte,fh hin,Bool.not_true,Wy,aI hj Wu];refine qj _ _ ⟨av,l,o,by rw [hl,WK,if_pos hin,append_nil],by omega,hx,p3,q3,hne,e3,e5,oQ,pO,oP,e7,e6,Bh,B2,rfl⟩
    ·have ln:ag none (.ptr h'.next 0) h2=some (.str r.name):=(by rw [aj p3];rfl);simp only [aR,reduceAdd,reduceEqDiff,reduceIte,eT hin,Bool.not_false,e7,ln];refine ai (oC (by omega) fun y hy=>?_)
     have hroom:(l.length+1)*40<=cG:=by
      rw [hm];have:i*100000<=a.aC.l.length*100000:=mul_le_mul_right _ (by omega);omega
     obtain ⟨a5,h5,c5,o5,f5,n5,x5,b5⟩:=o.push Pq Pr (by have:=hx.next;omega) (bytes:=40) hroom ⟨r.name,y⟩;simp only [aR,reduceAdd,reduceEqDiff,reduceIte,e5,e7,Wy,ln,AV.beq_refl,Bool.and_self,if_true,Yi,Yj,c5,aI hj Wu];refine qj _ _ ⟨a5,_,o5,?_,by rw [length_append,length_singleton];omega,x5 H hx (by omega),by rw [f5 _ q3 (fun hc=>hne _ hc rfl)];exact p3,by omega,fun c hc=>by have:=b5 c hc;omega,e3,rfl,oQ,pO,oP,e7,e6,Bh,B2,rfl⟩;rw [map_append,hl,WK,if_neg hin,append_assoc];simp [IA,hy]
   ·rintro e h2 ⟨av,l,o,hl,WJ,hx,p3,q3,hne,e3,e5,oQ,pO,oP,e7,e6,Bh,B2,Wy⟩ K2 fo;rw [F.dM.dm];simp only [B2,Wy,aR,reduceAdd,reduceEqDiff,reduceIte,aS];rw [fo,F.dM.cq];simp only [aR,reduceAdd,reduceEqDiff,reduceIte,oP,aI hi qX];refine hn _ _ ⟨av,l,o,?_,by have:=Nat.add_mul i 1 100000;omega,hx,e3,e5,oQ,pO,rfl⟩;have htk:(r.aM.l.map Sl.l).take r.aM.l.length=r.aM.l.map Sl.l:=jD (by simp);rw [hl,htk];have h1:(a.aC.l.map bZ)[i]?=some (bZ r):=by rw [getElem?_map,hv];rfl
    have h2:(b.aC.l.map bZ)[i]?=some (bZ u):=(by rw [getElem?_map,hw];rfl);unfold xy;rw [KD h1 h2,flatMap_append];simp only [flatMap_cons,flatMap_nil,append_nil];rfl
  ·rintro e h' ⟨av,l,o,hl,WJ,hx,e3,e5,oQ,pO,oP⟩ K' gi;rw [F.dM.aT];simp only [pO,oP,aR,reduceAdd,reduceEqDiff,reduceIte,aS];rw [gi,F.dM.aF];simp only [bL,reduceEqDiff,reduceIte,e5];rw [jD (by simp)] at hl;obtain ⟨x,x1,x2⟩:=(jM.AA o MG).fz;exact cu.2 ⟨av,x,rfl,by rw [<- hl,x1,List.map_map];simp [Function.comp_def],x2⟩
 refine main.frozen (by simp [AV.cN,AV.pure,eG]) fun o h' ho=>?_;obtain ⟨v,x,rfl,h1,h2⟩:=cu.1 ho;exact ⟨_,_,rfl,h2,hK x h1⟩
end
end Go.AM