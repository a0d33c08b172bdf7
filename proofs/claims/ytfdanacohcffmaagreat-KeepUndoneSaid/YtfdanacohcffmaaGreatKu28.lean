/- Parts of the proof. Conditions: none. -/
import Derived.Test.YtfdanacohcffmaaGreatKu18
import Derived.Test.YtfdanacohcffmaaGreatKu20
import Derived.Test.YtfdanacohcffmaaGreatKu21
import Derived.Test.YtfdanacohcffmaaGreatKu26
import Derived.Test.YtfdanacohcffmaaGreatKu27
set_option linter.unusedSimpArgs false
set_option linter.unusedVariables false
namespace Go.AM
open List Nat Bool Option
open Go Go.Proofs
noncomputable section
variable {K:Out->Heap->Bool} {h:Heap} {L:List (List Int)} {x:Sl (Sl Int)} {k j:Nat} {s:cD} {is:Bool} {r:Rel} {v:AV}
theorem zQ:∀ {a b:List Int},a.length=b.length->dm a b=false->a≠b->dm b a=true
 |[],[],_,_,h=>absurd rfl h
 |x :: a,y :: b,hl,h1,h2=>by
  rw [dm] at h1 ⊢;by_cases e:x=y
  ·subst e;rw [if_pos rfl] at h1 ⊢;exact zQ (by simpa using hl) h1 (fun h=>h2 (by rw [h]))
  ·rw [if_neg e] at h1;rw [if_neg (Ne.symm e)];have:=of_decide_eq_false h1;exact fy (by omega)
 |[],_ :: _,hl,_,_=>by simp at hl
 |_ :: _,[],hl,_,_=>by simp at hl
theorem Lj{l:List (List Int)}(hs:iF l){x:List Int}(h1:∀ y ∈ l.drop k,dm x y=true)(h2:∀ y ∈ l.take k,dm y x=true):iF (l.take k++x :: l.drop k):=by
 have gu:iF (l.take k++l.drop k):=by rw [take_append_drop];exact hs
 obtain ⟨p1,p2,p3⟩:=pairwise_append.1 gu;refine pairwise_append.2 ⟨p1,pairwise_cons.2 ⟨h1,p2⟩,fun a ha b hb=>?_⟩;rcases mem_cons.1 hb with rfl|hb
 ·exact h2 a ha
 ·exact p3 a ha b hb
theorem T2{α:Type}{l:List α}{x u:α}:u ∈ l.take k++x :: l.drop k↔u ∈ l\/u=x:=by
 have:u ∈ l↔u ∈ l.take k\/u ∈ l.drop k:=by rw [<- mem_append,take_append_drop]
 rw [mem_append,mem_cons,this];constructor
 ·rintro (h|h|h)
  ·exact .inl (.inl h)
  ·exact .inr h
  ·exact .inl (.inr h)
 ·rintro ((h|h)|h)
  ·exact .inl h
  ·exact .inr (.inr h)
  ·exact .inr (.inl h)
structure mW (s:cD) (j:Nat) (r:Rel) (t:List Int) (is:Bool) (s':cD):Prop where
 size:s'.size=s.size
 aE:∃ ts,iF ts/\(∀ u,u ∈ ts↔(u ∈ r.aM.l.map Sl.l/\u≠t)\/(is=true/\u=t))/\s'.aE.l.map bX=(s.aE.l.map bX).set j (r.name,r.arity,ts)
theorem BL{s':cD}{t:List Int}(hr:s.aE.l[j]?=some r)(hp:mW s j r t is s'):(s'.aE.l.map bX).map nk=(s.aE.l.map bX).map nk:=by
 obtain ⟨ts,h1,h2,h3⟩:=hp.aE;rw [h3,map_set];apply ext_getElem?;intro i;by_cases hi:j=i
 ·subst hi;have hl:j<s.aE.l.length:=(kg.1 hr).1;rw [getElem?_set_self (by simpa using hl)];simp only [getElem?_map,hr];rfl
 ·rw [getElem?_set_ne hi]
theorem F9{s':cD}{t:List Int}(hv:cV s=true)(hr:s.aE.l[j]?=some r)(hk:r.arity=(k:Int))(ht:t.length=k)(hb:jo s.size.toNat t=true)(hp:mW s j r t is s'):cV s'=true:=by
 have hS:=fX.1 hv;have QB:=BL hr hp;obtain ⟨ts,h1,h2,h3⟩:=hp.aE;have hz:=hp.size;rw [fX];have xj:∀ l:List Nz,l.map (·.1)=(l.map nk).map (·.1):=fun l=>by rw [List.map_map];rfl
 refine ⟨by rw [hz];exact hS.lo,by rw [hz];exact hS.hi,?_,fun d hd=>?_,?_⟩
 ·have:=congrArg List.length QB;simp only [length_map] at this;have:=hS.mc;simp only [length_map] at this ⊢;omega
 ·rw [hz];rw [h3] at hd;rcases mem_or_eq_of_mem_set hd with hd|rfl
  ·exact hS.rel d hd
  ·obtain ⟨q0,k',q1,q2,q3,q4⟩:=hS.rel _ (List.mem_map_of_mem (ig hr));have q1':r.arity=(k':Int):=q1;obtain rfl:k'=k:=by omega
   refine ⟨q0,k',q1,q2,q3,fun u hu=>?_,h1⟩;rcases (h2 u).1 hu with ⟨a,_⟩|⟨_,a⟩
   ·exact q4.1 u a
   ·rw [a];exact ⟨ht,hb⟩
 ·rw [xj,QB,<- xj];exact hS.names
theorem kW{x y:Sl Int}(hx:x.l.length<=cM)(UO:x.l.length=y.l.length)(hK:∀ c:Int,(c<0↔dm x.l y.l=true)->(c=0↔x.l=y.l)->K (.ret (.int .i64 c)) h=true):Sem TP 55 [ak encI 1 x,ak encI 1 y] h K:=by
 refine F.jk ?_;rw [F.jD];simp only [aR,reduceAdd,reduceEqDiff,reduceIte];refine aD 0 x.l.length (zero_le _) (fun i e h'=>h'=h/\e 0=ak encI 1 x/\e 1=ak encI 1 y/\e 9=ak encI 1 x/\e 10 = .int .i64 (x.l.length:Int)/\e 11 = .int .i64 (i:Int)/\dm x.l y.l=dm (x.l.drop i) (y.l.drop i)/\x.l.take i=y.l.take i) ⟨rfl,rfl,rfl,rfl,rfl,rfl,rfl,rfl⟩ ?_ ?_
 ·rintro i e h' _ hi ⟨rfl,e0,e1,e9,kF,qI,hl,ht⟩ K' hn fW hr hp;have Bz:i<y.l.length:=by omega
  have hv:x.l[i]?=some x.l[i]:=eA hi;have hw:y.l[i]?=some y.l[i]:=eA Bz;rw [wV hv hw] at hl;generalize x.l[i]=a at hv hl;generalize y.l[i]=b at hw hl;rw [F.bE.aT];simp only [e0,e1,e9,kF,qI,aR,reduceAdd,reduceEqDiff,reduceIte,bh hi,aV x hi,aV y Bz,iV hv,iV hw,eR (by omega:¬ (y.l.length:Int)<=(i:Int))];refine ah (Ay fun c c1 c2=>?_);simp only [aR,reduceAdd,reduceEqDiff,reduceIte,cw];by_cases rj:a=b
  ·rw [if_pos rj] at hl;simp only [fy (c1.2 rj),Bool.not_true,aJ,aI hi hx,aq];exact hn _ _ ⟨rfl,e0,e1,e9,kF,rfl,hl,by rw [take_add_one,take_add_one,ht,hv,hw,rj]⟩
  ·rw [if_neg rj] at hl;simp only [eR (fun h=>rj (c1.1 h)),Bool.not_false,aK];rw [hr,F.bE.bC];simp only [bK,reduceEqDiff,reduceIte];refine hK c ?_ ?_
   ·rw [hl,decide_eq_true_iff];exact c2
   ·exact ⟨fun h=>absurd (c1.1 h) rj,fun h=>absurd (Option.some.inj (hv.symm.trans ((congrArg (·[i]?) h).trans hw))) rj⟩
 ·rintro e h' ⟨rfl,e0,e1,e9,kF,qI,hl,ht⟩ K' fW;rw [F.bE.aT];simp only [kF,qI,aR,reduceAdd,reduceEqDiff,reduceIte,aW];rw [fW,F.bE.aG];simp only [e0,e1,aR,reduceAdd,reduceEqDiff,reduceIte,eR (by omega:¬ (x.l.length:Int)<(y.l.length:Int))];rw [drop_of_length_le (dM _)] at hl;rw [kf (dM _),kf (by omega)] at ht;exact hK 0 (by rw [hl];exact ⟨fun h=>absurd h (by omega),fun h=>by cases h⟩) ⟨fun _=>ht,fun _=>rfl⟩
theorem g9:∀ t:List Int,dm t t=false
 |[]=>rfl
 |a :: t=>by rw [dm,if_pos rfl];exact g9 t
theorem ME{a b:Nat}(h1:a+b<=4000000):aF .add (.int .i64 (a:Int)) (.int .i64 (b:Int))=some (.int .i64 ((a+b:Nat):Int))/\jh (.int .u64) (.int .i64 ((a+b:Nat):Int)) h=some (.int .u64 ((a+b:Nat):Int),h) /\
  aF .shr (.int .u64 ((a+b:Nat):Int)) (.int .u64 1)=some (.int .u64 (((a+b)/2:Nat):Int))/\jh (.int .i64) (.int .u64 (((a+b)/2:Nat):Int)) h=some (.int .i64 (((a+b)/2:Nat):Int),h):=by
 refine ⟨?_,?_,?_,?_⟩
 ·rw [jd (by omega) (by omega)];rfl
 ·simp only [jh];rw [IntWalk.u64_in _ (by omega)]
 ·have:(((a+b:Nat):Int)).fdiv (2 ^ 1)=(((a+b)/2:Nat):Int):=by
   rw [Int.fdiv_eq_ediv_of_nonneg _ (by omega)];rfl
  simp only [aF,BQ,if_true];rw [if_neg (by omega)];exact congrArg (fun z=>some (AV.int .u64 z)) this
 ·simp only [jh];rw [IntWalk.i64_in _ (by omega)]
theorem vw{t:Sl Int}(hl:x.l.length<=1000000)(hk:∀ u ∈ x.l,u.l.length=t.l.length)(Dz:t.l.length<=cM)(hs:iF (x.l.map Sl.l))
  (hK:∀ n:Int,K (.ret (.tuple [.int .i64 n,.bool (decide (t.l ∈ x.l.map Sl.l))])) h=true):Sem TP 54 [ak cU 1 x,ak encI 1 t,.func 55 [] []] h K:=by
 have qh:∀ (a b:Nat) (u v:Sl Int),x.l[a]?=some u->x.l[b]?=some v->a<b->dm u.l v.l=true:=fun a b u v hu hv rj=>by
  have h1:=pairwise_iff_getElem.1 hs;obtain ⟨p1,q1⟩:=kg.1 hu;obtain ⟨p2,q2⟩:=kg.1 hv;have:=h1 a b (by simpa using p1) (by simpa using p2) rj
  rwa [getElem_map,getElem_map,q1,q2] at this
 refine F.eV ?_;rw [F.ff];simp only [aR,reduceAdd,reduceEqDiff,reduceIte]
 refine k7 (fun m e h'=>∃ i j:Nat,m=j-i/\i<=j/\j<=x.l.length/\h'=h/\(∀ a u,a<i->x.l[a]?=some u->dm u.l t.l=true)/\(∀ a u,j<=a->x.l[a]?=some u->dm u.l t.l=false)/\e 0=ak cU 1 x/\e 1=ak encI 1 t/\e 2 = .func 55 [] []/\e 8 = .int .i64 (x.l.length:Int)/\e 9 = .int .i64 (i:Int)/\e 10 = .int .i64 (j:Int)) x.l.length
  ⟨0,x.l.length,rfl,zero_le _,dM _,rfl,fun a u ha=>absurd ha (by omega),fun a u ha hu=>absurd (kg.1 hu).1 (by omega),rfl,rfl,rfl,rfl,rfl,rfl⟩ ?_
 rintro m e h' ⟨i,j,rfl,hij,hj,rfl,DY,JP,e0,e1,e2,e8,e9,kF⟩;rw [F.bf.aT];by_cases hlt:i<j
 ·obtain ⟨o1,o2,o3,o4⟩:=ME (a:=i) (b:=j) (by omega) (h:=h');have hmi:(i+j)/2<j:=by omega
  have him:i<=(i+j)/2:=by omega
  generalize (i+j)/2=q at o3 o4 hmi him;have hq:q<x.l.length:=by omega
  have hv:x.l[q]?=some x.l[q]:=eA hq;generalize x.l[q]=u at hv;have Ob:=ig hv;simp only [e0,e1,e2,e9,kF,aR,reduceAdd,reduceEqDiff,reduceIte,fy (show (i:Int)<(j:Int) by omega),o1,o2,o3,o4,aV x hq,ic hv,fA,nil_append,append_nil];refine ah (kW (by rw [hk u Ob];exact Dz) (hk u Ob) fun c c1 c2=>?_);simp only [aR,reduceAdd,reduceEqDiff,reduceIte];by_cases hc:c<0
  ·have qE:=c1.1 hc;simp only [fy hc,aK,aI hq (show x.l.length<=cM by unfold cM;omega),aq];refine ct.2 ⟨j-(q+1),by omega,rfl,rfl,q+1,j,rfl,by omega,hj,rfl,fun a w ha hw=>?_,JP,e0,e1,e2,e8,rfl,kF⟩;by_cases WL:a=q
   ·subst WL;rw [hv] at hw;cases hw;exact qE
   ·exact jS (qh a q w u hw hv (by omega)) qE
  ·have qE:dm u.l t.l=false:=by cases hh:dm u.l t.l with|false=>rfl|true=>exact absurd (c1.2 hh) hc
   simp only [eR hc,aJ];refine ct.2 ⟨q-i,by omega,rfl,rfl,i,q,rfl,him,by omega,rfl,DY,fun a w ha hw=>?_,e0,e1,e2,e8,e9,rfl⟩;by_cases WL:a=q
   ·subst WL;rw [hv] at hw;cases hw;exact qE
   ·cases hh:dm w.l t.l with
    |false=>rfl
    |true=>rw [jS (qh q a u w hv hw (by omega)) hh] at qE;cases qE
 ·obtain rfl:i=j:=by omega
  simp only [e9,kF,aR,reduceAdd,reduceEqDiff,reduceIte,eR (show ¬ (i:Int)<(i:Int) by omega),oB];rw [F.bf.aG];simp only [bK,reduceEqDiff,reduceIte,e0,e1,e2,e8,e9,aR,reduceAdd,reduceEqDiff,reduceIte];by_cases hin:i<x.l.length
  ·have hv:x.l[i]?=some x.l[i]:=eA hin;generalize x.l[i]=u at hv;have Ob:=ig hv;simp only [bh hin,aK,aV x hin,ic hv,aq,fA,nil_append,append_nil];refine ah (kW (by rw [hk u Ob];exact Dz) (hk u Ob) fun c c1 c2=>?_);simp only [aR,reduceAdd,reduceEqDiff,reduceIte,cw]
   have:decide (c=0)=decide (t.l ∈ x.l.map Sl.l):=by
    rw [decide_eq_decide,c2,mem_map];constructor
    ·intro he;exact ⟨u,Ob,he⟩
    ·rintro ⟨w,hw,he⟩;obtain ⟨a,ha⟩:=getElem?_of_mem hw;by_cases h1:a<i
     ·have:=DY a w h1 ha;rw [he,g9] at this;cases this
     ·by_cases h2:a=i
      ·subst h2;rw [hv] at ha;cases ha;exact he
      ·have h3:=qh i a u w hv ha (by omega);rw [he,JP i u (dM _) hv] at h3;cases h3
   rw [this];exact hK _
  ·simp only [eR (show ¬ (i:Int)<(x.l.length:Int) by omega),aJ]
   have:decide (t.l ∈ x.l.map Sl.l)=false:=by
    rw [decide_eq_false_iff_not,mem_map];rintro ⟨w,hw,he⟩;obtain ⟨a,ha⟩:=getElem?_of_mem hw;have:=DY a w (by have:=(kg.1 ha).1;omega) ha;rw [he,g9] at this;cases this
   rw [this] at hK;exact hK _
theorem zR(hs:s.ok)(hv:cV s=true){nm:b7}{t:Sl Int}{q:Rel}(hj:iM (gm nm (t.l.length:Int)) s.aE.l=(j:Int))(hq:s.aE.l[j]?=some q)(MC:q.arity=(t.l.length:Int))(Dz:t.l.length<=cM)
  (hK:K (.ret (.tuple [.bool (decide (t.l ∈ q.aM.l.map Sl.l)),.int .i64 0])) h=true):Sem TP 21 [.agg (an s),.str nm,ak encI 1 t] h K:=by
 refine Sem.data (r:=.tuple [.bool (decide (t.l ∈ q.aM.l.map Sl.l)),.int .i64 0]) ?_ (by simp [AV.cN,AV.pure,eu,cc j4]) hK;clear hK;refine F.vM ?_;rw [F.yb];simp only [cY (cp s),aq,bT];have g0:(Heap.empty.alloc (.cells (an s))).get 0=some (.cells (an s)):=aB _ _;generalize (Heap.empty.alloc (.cells (an s)))=H at g0 ⊢;have l0:ag (some 2) (.ptr 0 0) H=some (.agg (an s)):=by rw [aj g0,cE (cs:=an s) (n:=2) rfl]
 have l1:ag none (.ptr 0 1) H=some (ak aQ 3 s.aE):=by rw [aj g0];rfl
 have MX:=(kg.1 hq).1;have u0:=(fX.1 hv).rel _ (List.mem_map_of_mem (ig hq));obtain ⟨_,k,hk1,G6,hkp,TO⟩:=u0;have afh:q.arity=(k:Int):=hk1;have hkl:t.l.length=k:=by omega
 simp only [l0,aq];refine ah (dI hs ?_);rw [hv];simp only [aR,reduceAdd,reduceEqDiff,reduceIte,Bool.not_true,aJ,l0];refine ah (rG hs ?_);rw [hj];simp only [aR,reduceAdd,reduceEqDiff,reduceIte,eR (show ¬ (j:Int)<0 by omega),l1,aV s.aE MX,qC hq];refine ah (vw (by have:=(fC hv).1.Hg q (ig hq);omega) (fun u hu=>by rw [hkl];exact (TO.1 _ (List.mem_map_of_mem hu)).1) Dz TO.2 fun n=>?_);simp only [aR,reduceAdd,reduceEqDiff,reduceIte];exact fY rfl
def JC(p:vu×List (Sl Int)):b7×Int×List (List Int):=(p.1.1,p.1.2.1,p.2.map Sl.l)
structure Deep (k:Nat) (h:Heap) (a:AV) (l:List (vu×List (Sl Int))):Prop where
 own:Own gX 3 k h a (l.map (·.1))
 row:∀ p ∈ l,Own cU 1 k h p.1.2.2.1 p.2
 none:∀ p ∈ l,p.2 = []->p.1.2.2.1 = .ax
 sep:∀ p ∈ l,∀ b,cz p.1.2.2.1=some b->cz a≠some b
 dis:l.Pairwise fun p q=>∀ b,cz p.1.2.2.1=some b->cz q.1.2.2.1≠some b
theorem Deep.nil{k:Nat}{h:Heap}:Deep k h .ax []:=⟨.nil,by simp,by simp,by simp,.nil⟩
section
variable {k:Nat} {h h':Heap} {a:AV} {l:List (vu×List (Sl Int))}
theorem Deep.ext(o:Deep k h a l)(hx:bA h h'):Deep k h' a l:=⟨o.own.ext hx,fun p hp=>(o.row p hp).ext hx,o.none,o.sep,o.dis⟩
theorem Deep.low(o:Deep k h a l){d:Nat}(hd:d<k)(x:jV):Deep k (h.set d x) a l:=⟨o.own.kE hd x,fun p hp=>(o.row p hp).kE hd x,o.none,o.sep,o.dis⟩
theorem Deep.C6(o:Deep k h a l){j:Nat}(hj:j<=k):Deep j h a l:=⟨o.own.C6 hj,fun p hp=>(o.row p hp).C6 hj,o.none,o.sep,o.dis⟩
theorem Deep.push{m:Nat}(o:Deep k h a l)(hk:k<=h.next)(hroom:(l.length+1)*48<=cG)(v:vu)(ts:List (Sl Int))(hm:k<=m)(hlt:∀ p ∈ l,∀ b,cz p.1.2.2.1=some b->b<m)
  (ov:Own cU 1 m h v.2.2.1 ts) (hvn:ts = []->v.2.2.1 = .ax) (XB:∀ b,cz v.2.2.1=some b->cz a≠some b) :
  ∃ a' h',b6 3 48 a (.slice h.next 0 1 3) (h.alloc (.cells (gX v)))=some (a',h')/\Deep k h' a' (l++[(v,ts)])/\(∀ c,c<h.next->cz a≠some c->h'.get c=h.get c)/\h.next<=h'.next/\(∀ h0,bA h0 h->h0.next<=k->bA h0 h')/\∀ c,cz a'=some c->h.next<=c:=by
 obtain ⟨a',h',e1,o1,f1,n1,x1,b1⟩:=o.own.push lE uR hk (bytes:=48) (by simpa using hroom) v;refine ⟨a',h',e1,⟨by rw [map_append];exact o1,fun p hp=>?_,fun p hp=>?_,fun p hp b hb=>?_,?_⟩,f1,n1,x1,b1⟩
 ·rcases mem_append.1 hp with hp|hp
  ·exact (o.row p hp).agree (fun b hb=>f1 b ((o.row p hp).lt hb) (o.sep p hp b hb)) n1
  ·rw [mem_singleton] at hp;subst hp;exact (ov.agree (fun b hb=>f1 b (ov.lt hb) (XB b hb)) n1).C6 hm
 ·rcases mem_append.1 hp with hp|hp
  ·exact o.none p hp
  ·rw [mem_singleton] at hp;subst hp;exact hvn
 ·intro hc;have:=b1 b hc;rcases mem_append.1 hp with hp|hp
  ·have:=(o.row p hp).lt hb;omega
  ·rw [mem_singleton] at hp;subst hp;have:=ov.lt hb;omega
 ·refine pairwise_append.2 ⟨o.dis,pairwise_singleton _ _,fun p hp q hq b hb hc=>?_⟩;rw [mem_singleton] at hq;subst hq;have:=hlt p hp b hb;have:=ov.ge hc;omega
end
set_option maxHeartbeats 2000000 in
theorem AG(hs:s.small)(hK:∀ a h' l,bA h h'->Deep h.next h' a l->l.map JC=s.aE.l.map bX->K (.ret (.agg [.int .i64 s.size,a])) h'=true):Sem TP 46 [.agg (an s)] h K:=by
 have hm:cG=140737488355328:=rfl;have hbig:=hs.Ws;refine F.tj ?_;rw [F.vN];simp only [cY (cp s),aq,Heap.aL];have g0:(Heap.alloc (Heap.alloc h (.cells (an s))) (.cells [.int .i64 0,.ax])).get h.next=some (.cells (an s)):=by rw [Heap.aU,Heap.aL,if_neg (by omega)];exact aB _ _
 have g1:(Heap.alloc (Heap.alloc h (.cells (an s))) (.cells [.int .i64 0,.ax])).get (h.next+1)=some (.cells [.int .i64 0,.ax]):=aB _ _;have gn:(Heap.alloc (Heap.alloc h (.cells (an s))) (.cells [.int .i64 0,.ax])).next=h.next+2:=rfl
 have gx:bA h (Heap.alloc (Heap.alloc h (.cells (an s))) (.cells [.int .i64 0,.ax])):=(bA.alloc _ _).trans (bA.alloc _ _);generalize (Heap.alloc (Heap.alloc h (.cells (an s))) (.cells [.int .i64 0,.ax]))=H1 at g0 g1 gn gx ⊢;have lz:ag none (.ptr h.next 0) H1=some (.int .i64 s.size):=by rw [aj g0];rfl
 have ha:iy [.int .i64 0,.ax] [(0,1)] [.int .i64 s.size]=some (.agg [.int .i64 s.size,.ax]):=rfl;obtain ⟨H2,qH,p2,po,pn⟩:=cu (h:=H1) (zs:=[.int .i64 0,.ax]) (cs:=[.int .i64 s.size,.ax]) (n:=2) rfl rfl rfl;rw [gn] at p2 po pn qH;have p0:H2.get h.next=some (.cells (an s)):=by rw [po _ (by omega)];exact g0
 have p1:H2.get (h.next+1)=some (.cells [.int .i64 0,.ax]):=by rw [po _ (by omega)];exact g1
 have px:bA h H2:=⟨by omega,fun b hb=>by rw [po _ (by omega)];exact gx.get b hb⟩
 have lr:ag none (.ptr h.next 1) H2=some (ak aQ 3 s.aE):=by rw [aj p0];rfl
 simp only [aR,reduceAdd,reduceEqDiff,reduceIte,lz,ha,gn,qH,lr]
 refine aD 0 s.aE.l.length (zero_le _) (fun i e h'=>∃ a l,h'.get (h.next+1)=some (.cells [.int .i64 0,.ax])/\h'.get (h.next+2)=some (.cells [.int .i64 s.size,a])/\Deep (h.next+3) h' a l/\l.map JC=(s.aE.l.take i).map bX/\bA h h'/\h.next+3<=h'.next /\
  e 2 = .ptr (h.next+1) 0/\e 3 = .ptr (h.next+2) 0/\e 13=ak aQ 3 s.aE/\e 14 = .int .i64 (s.aE.l.length:Int)/\e 15 = .int .i64 (i:Int)) ⟨_,[],p1,p2,.nil,rfl,px,by omega,rfl,rfl,rfl,rfl,rfl⟩ ?_ ?_
 ·rintro i e h' _ hi ⟨a,l,q1,q2,o,hl,qx,qn,e2,e3,pQ,oK,nQ⟩ K' hn fW hr hp;have hv:s.aE.l[i]?=some s.aE.l[i]:=eA hi;generalize s.aE.l[i]=r at hv;have nR:=ig hv;have PW:l.length=i:=by have:=congrArg List.length hl;rw [length_map,length_map,length_take,Nat.min_eq_left (by omega)] at this;exact this
  obtain ⟨H3,LV,p3,Qo,TH⟩:=cu (h:=h') (zs:=[.str [],.int .i64 0,.ax]) (cs:=aQ r) (n:=3) rfl rfl (fP r);have xg:iy [.str [],.int .i64 0,.ax] [(0,1),(1,1)] [.str r.name,.int .i64 r.arity]=some (.agg [.str r.name,.int .i64 r.arity,.ax]):=rfl;have l0:ag none (.ptr h'.next 0) H3=some (.str r.name):=by rw [aj p3];rfl
  have l1:ag none (.ptr h'.next 1) H3=some (.int .i64 r.arity):=by rw [aj p3];rfl
  obtain ⟨H4,Oy,p4,KX,Wt⟩:=cu (h:=H3) (zs:=[.str [],.int .i64 0,.ax]) (cs:=[.str r.name,.int .i64 r.arity,.ax]) (n:=3) rfl rfl rfl;rw [TH] at Oy p4 KX Wt;have x4:bA h' H4:=⟨by omega,fun b hb=>by rw [KX b (by omega),Qo b (by omega)]⟩
  have l2:ag none (.ptr h'.next 2) H4=some (ak cU 1 r.aM):=by rw [aj (show H4.get h'.next=some (.cells (aQ r)) by rw [KX _ (by omega)];exact p3)];rfl
  have Dz:=hs.Hg r nR;have XE:r.aM.l.length<=cM:=by unfold cM;omega
  rw [F.cJ.aT];simp only [pQ,oK,nQ,aR,reduceAdd,reduceEqDiff,reduceIte,bh hi,aV s.aE hi,dF dR hv,LV];simp only [aR,reduceAdd,reduceEqDiff,reduceIte,l0,l1,xg,TH,Oy,l2]
  refine aD 0 r.aM.l.length (zero_le _) (fun j e h2=>∃ tv ts,h2.get (h'.next+1)=some (.cells [.str r.name,.int .i64 r.arity,tv])/\Own cU 1 (h'.next+2) h2 tv ts/\(ts = []->tv = .ax)/\ts.map Sl.l=(r.aM.l.take j).map Sl.l/\bA h' h2/\h'.next+2<=h2.next /\
   e 2 = .ptr (h.next+1) 0/\e 3 = .ptr (h.next+2) 0/\e 13=ak aQ 3 s.aE/\e 14 = .int .i64 (s.aE.l.length:Int)/\e 15 = .int .i64 (i:Int)/\e 6 = .ptr (h'.next+1) 0/\e 25=ak cU 1 r.aM/\e 26 = .int .i64 (r.aM.l.length:Int)/\e 27 = .int .i64 (j:Int))
   ⟨_,[],p4,.nil,fun _=>rfl,rfl,x4,by omega,e2,e3,pQ,oK,nQ,rfl,rfl,rfl,rfl⟩ ?_ ?_
  ·rintro j e h2 _ hj ⟨tv,ts,q6,ot,htn,DC,x2,Qp,e2,e3,pQ,oK,nQ,e6,KY,BF,BG⟩ K2 uO gi rN FD;have Hj:r.aM.l[j]?=some r.aM.l[j]:=eA hj;generalize r.aM.l[j]=t at Hj;have abq:ts.length=j:=by have:=congrArg List.length DC;rw [length_map,length_map,length_take,Nat.min_eq_left (by omega)] at this;exact this
   have lt:ag none (.ptr (h'.next+1) 2) h2=some tv:=by rw [aj q6];rfl
   rw [F.cJ.dh];simp only [e6,KY,BF,BG,aR,reduceAdd,reduceEqDiff,reduceIte,bh hj,aV r.aM hj,ic Hj,lt];refine ah (nJ (by have:=hs.XD r nR t (ig Hj);omega) fun y hy=>?_);obtain ⟨a5,h5,c5,o5,f5,n5,w5,b5⟩:=ot.push qt DA Qp (bytes:=24) (by rw [hm];omega) y;have hne:cz tv≠some (h'.next+1):=fun hb=>by have:=ot.ge hb;omega
   have s6:h5.get (h'.next+1)=some (.cells [.str r.name,.int .i64 r.arity,tv]):=by rw [f5 _ (by omega) hne];exact q6
   have c6:=o5.kH
   have st:aY 1 (.ptr (h'.next+1) 2) a5 h5=some (h5.set (h'.next+1) (.cells [.str r.name,.int .i64 r.arity,a5])):=by
    rw [cF (n:=1) s6 c6.2.1 c6.1 (by simp),c6.2.2];rfl
   simp only [aR,reduceAdd,reduceEqDiff,reduceIte,lt,AV.beq_refl,Bool.and_self,if_true,Mx,c5,e6,BG,st,aI hj XE];refine uO _ _ ⟨a5,ts++[y],by rw [Heap.aN,if_pos rfl],o5.kE (by omega) _,fun h=>absurd (congrArg List.length h) (by simp),?_,(w5 h' x2 (by omega)).set (by omega) _,by rw [Heap.bt];omega,e2,e3,pQ,oK,nQ,e6,KY,BF,rfl⟩;rw [map_append,DC,take_add_one,Hj,map_append];simp [hy]
  ·rintro e h2 ⟨tv,ts,q6,ot,htn,DC,x2,Qp,e2,e3,pQ,oK,nQ,e6,KY,BF,BG⟩ K2 gi;rw [kf (dM _)] at DC;have o2:=o.ext x2;obtain ⟨BH,JT⟩:=mP ot;have lq:ag (some 3) (.ptr (h'.next+1) 0) h2=some (.agg (gX (r.name,r.arity,⟨tv,BH,JT⟩))):=by rw [aj q6];rfl
   have lo:ag none (.ptr (h.next+2) 1) h2=some a:=by rw [aj (show h2.get (h.next+2)=some (.cells [.int .i64 s.size,a]) by rw [x2.get _ (by omega)];exact q2)];rfl
   obtain ⟨a5,h5,c5,o5,f5,n5,w5,b5⟩:=o2.push (m:=h'.next+2) (by omega) (by have:=hs.aE;rw [hm];omega) (r.name,r.arity,⟨tv,BH,JT⟩) ts (by omega)
    (fun p hp b hb=>by have:=(o.row p hp).lt hb;omega) ot htn (fun b hb hc=>by have:=o.own.lt hc;have:=ot.ge hb;omega)
   have hne:cz a≠some (h.next+2):=fun hb=>by have:=o.own.ge hb;omega
   have Wu:cz a≠some (h.next+1):=fun hb=>by have:=o.own.ge hb;omega
   have s2:h5.get (h.next+2)=some (.cells [.int .i64 s.size,a]):=by rw [f5 _ (by omega) hne,x2.get _ (by omega)];exact q2
   have s1:h5.get (h.next+1)=some (.cells [.int .i64 0,.ax]):=by rw [f5 _ (by omega) Wu,x2.get _ (by omega)];exact q1
   have c6:=o5.own.kH
   have st:aY 1 (.ptr (h.next+2) 1) a5 h5=some (h5.set (h.next+2) (.cells [.int .i64 s.size,a5])):=by
    rw [cF (n:=1) s2 c6.2.1 c6.1 (by simp),c6.2.2];rfl
   rw [F.cJ.dh];simp only [BF,BG,aR,reduceAdd,reduceEqDiff,reduceIte,aW];rw [gi,F.cJ.cx];simp only [aR,reduceAdd,reduceEqDiff,reduceIte,e3,e6,nQ,lo,lq,KV,c5,st,aI hi hbig];refine hn _ _ ⟨a5,_,?_,?_,o5.low (by omega) _,?_,(w5 h (qx.trans x2) (by omega)).set (by omega) _,by rw [Heap.bt];omega,e2,e3,pQ,oK,rfl⟩
   ·rw [Heap.aN,if_neg (by omega)];exact s1
   ·rw [Heap.aN,if_pos rfl]
   ·rw [map_append,hl,take_add_one,hv,map_append];simp [bX,JC,DC]
 ·rintro e h' ⟨a,l,q1,q2,o,hl,qx,qn,e2,e3,pQ,oK,nQ⟩ K' fW;rw [kf (dM _)] at hl;have lo:ag (some 2) (.ptr (h.next+2) 0) h'=some (.agg [.int .i64 s.size,a]):=by rw [aj q2];rfl
  have c:=o.own.kH
  have Bi:bw [.int .i64 s.size,a]=true:=by
   have:=c.1;rw [c.2.2] at this;simp only [bw,Bool.and_true] at this ⊢;rw [this];rfl
  have st:aY 2 (.ptr (h.next+1) 0) (.agg [.int .i64 s.size,a]) h'=some (h'.set (h.next+1) (.cells [.int .i64 s.size,a])):=by
   rw [cF (n:=2) (v:=.agg [.int .i64 s.size,a]) q1 rfl Bi (by simp)];rfl
  have Qk:ag (some 2) (.ptr (h.next+1) 0) (h'.set (h.next+1) (.cells [.int .i64 s.size,a]))=some (.agg [.int .i64 s.size,a]):=by rw [aj (cs:=[.int .i64 s.size,a]) (by rw [Heap.aN,if_pos rfl])];rfl
  rw [F.cJ.aT];simp only [oK,nQ,aR,reduceAdd,reduceEqDiff,reduceIte,aW];rw [fW,F.cJ.aG];simp only [bK,reduceEqDiff,reduceIte,e2,e3,lo,st,aq,FV,Qk,oneOf];exact hK a _ l (qx.set (by omega) _) ((o.low (by omega) _).C6 (by omega)) hl
theorem rW{t:Sl Int}(hl:x.l.length<=1000000)(hk:∀ u ∈ x.l,u.l.length=t.l.length)(Dz:t.l.length<=cM)(hs:iF (x.l.map Sl.l))
  (hK:∀ n:Nat,n<=x.l.length->(∀ a u,a<n->x.l[a]?=some u->dm u.l t.l=true)->(∀ a u,n<=a->x.l[a]?=some u->dm u.l t.l=false)->K (.ret (.tuple [.int .i64 (n:Int),.bool (decide (t.l ∈ x.l.map Sl.l))])) h=true):Sem TP 54 [ak cU 1 x,ak encI 1 t,.func 55 [] []] h K:=by
 have qh:∀ (a b:Nat) (u v:Sl Int),x.l[a]?=some u->x.l[b]?=some v->a<b->dm u.l v.l=true:=fun a b u v hu hv rj=>by
  have h1:=pairwise_iff_getElem.1 hs;obtain ⟨p1,q1⟩:=kg.1 hu;obtain ⟨p2,q2⟩:=kg.1 hv;have:=h1 a b (by simpa using p1) (by simpa using p2) rj
  rwa [getElem_map,getElem_map,q1,q2] at this
 refine F.eV ?_;rw [F.ff];simp only [aR,reduceAdd,reduceEqDiff,reduceIte]
 refine k7 (fun m e h'=>∃ i j:Nat,m=j-i/\i<=j/\j<=x.l.length/\h'=h/\(∀ a u,a<i->x.l[a]?=some u->dm u.l t.l=true)/\(∀ a u,j<=a->x.l[a]?=some u->dm u.l t.l=false)/\e 0=ak cU 1 x/\e 1=ak encI 1 t/\e 2 = .func 55 [] []/\e 8 = .int .i64 (x.l.length:Int)/\e 9 = .int .i64 (i:Int)/\e 10 = .int .i64 (j:Int)) x.l.length
  ⟨0,x.l.length,rfl,zero_le _,dM _,rfl,fun a u ha=>absurd ha (by omega),fun a u ha hu=>absurd (kg.1 hu).1 (by omega),rfl,rfl,rfl,rfl,rfl,rfl⟩ ?_
 rintro m e h' ⟨i,j,rfl,hij,hj,rfl,DY,JP,e0,e1,e2,e8,e9,kF⟩;rw [F.bf.aT];by_cases hlt:i<j
 ·obtain ⟨o1,o2,o3,o4⟩:=ME (a:=i) (b:=j) (by omega) (h:=h');have hmi:(i+j)/2<j:=by omega
  have him:i<=(i+j)/2:=by omega
  generalize (i+j)/2=q at o3 o4 hmi him;have hq:q<x.l.length:=by omega
  have hv:x.l[q]?=some x.l[q]:=eA hq;generalize x.l[q]=u at hv;have Ob:=ig hv;simp only [e0,e1,e2,e9,kF,aR,reduceAdd,reduceEqDiff,reduceIte,fy (show (i:Int)<(j:Int) by omega),o1,o2,o3,o4,aV x hq,ic hv,fA,nil_append,append_nil];refine ah (kW (by rw [hk u Ob];exact Dz) (hk u Ob) fun c c1 c2=>?_);simp only [aR,reduceAdd,reduceEqDiff,reduceIte];by_cases hc:c<0
  ·have qE:=c1.1 hc;simp only [fy hc,aK,aI hq (show x.l.length<=cM by unfold cM;omega),aq];refine ct.2 ⟨j-(q+1),by omega,rfl,rfl,q+1,j,rfl,by omega,hj,rfl,fun a w ha hw=>?_,JP,e0,e1,e2,e8,rfl,kF⟩;by_cases WL:a=q
   ·subst WL;rw [hv] at hw;cases hw;exact qE
   ·exact jS (qh a q w u hw hv (by omega)) qE
  ·have qE:dm u.l t.l=false:=by cases hh:dm u.l t.l with|false=>rfl|true=>exact absurd (c1.2 hh) hc
   simp only [eR hc,aJ];refine ct.2 ⟨q-i,by omega,rfl,rfl,i,q,rfl,him,by omega,rfl,DY,fun a w ha hw=>?_,e0,e1,e2,e8,e9,rfl⟩;by_cases WL:a=q
   ·subst WL;rw [hv] at hw;cases hw;exact qE
   ·cases hh:dm w.l t.l with
    |false=>rfl
    |true=>rw [jS (qh q a u w hv hw (by omega)) hh] at qE;cases qE
 ·obtain rfl:i=j:=by omega
  simp only [e9,kF,aR,reduceAdd,reduceEqDiff,reduceIte,eR (show ¬ (i:Int)<(i:Int) by omega),oB];rw [F.bf.aG];simp only [bK,reduceEqDiff,reduceIte,e0,e1,e2,e8,e9,aR,reduceAdd,reduceEqDiff,reduceIte];by_cases hin:i<x.l.length
  ·have hv:x.l[i]?=some x.l[i]:=eA hin;generalize x.l[i]=u at hv;have Ob:=ig hv;simp only [bh hin,aK,aV x hin,ic hv,aq,fA,nil_append,append_nil];refine ah (kW (by rw [hk u Ob];exact Dz) (hk u Ob) fun c c1 c2=>?_);simp only [aR,reduceAdd,reduceEqDiff,reduceIte,cw]
   have:decide (c=0)=decide (t.l ∈ x.l.map Sl.l):=by
    rw [decide_eq_decide,c2,mem_map];constructor
    ·intro he;exact ⟨u,Ob,he⟩
    ·rintro ⟨w,hw,he⟩;obtain ⟨a,ha⟩:=getElem?_of_mem hw;by_cases h1:a<i
     ·have:=DY a w h1 ha;rw [he,g9] at this;cases this
     ·by_cases h2:a=i
      ·subst h2;rw [hv] at ha;cases ha;exact he
      ·have h3:=qh i a u w hv ha (by omega);rw [he,JP i u (dM _) hv] at h3;cases h3
   rw [this];exact hK i hj DY JP
  ·simp only [eR (show ¬ (i:Int)<(x.l.length:Int) by omega),aJ]
   have:decide (t.l ∈ x.l.map Sl.l)=false:=by
    rw [decide_eq_false_iff_not,mem_map];rintro ⟨w,hw,he⟩;obtain ⟨a,ha⟩:=getElem?_of_mem hw;have:=DY a w (by have:=(kg.1 ha).1;omega) ha;rw [he,g9] at this;cases this
   rw [this] at hK;exact hK i hj DY JP
structure EX where
 kind:Int
 name:b7
 t:Sl Int
 to:Bool
def nw(a:EX):List AV:=[.int .i64 a.kind,.str a.name,ak AM.encI 1 a.t,.bool a.to]
def EX.ok(a:EX):Prop:=a.name.length<=cM/\a.t.l.length<=cM
theorem zS(a:EX):(nw a).length=4:=rfl
def afi(l:List EX):Prop:=l.length<=25/\∀ a ∈ l,a.name.length<=1000/\a.t.l.length<=60
theorem fK{x:Sl EX}(hx:x.l.length<=cM){h:Heap}{K:Out->Heap->Bool}(hK:∀ b:Bool,(b=true->afi x.l)->K (.ret (.bool b)) h=true):Sem TP 11 [ak nw 4 x] h K:=by
 refine F.EH ?_;rw [F.GV];refine aD 0 (min x.l.length 26) (zero_le _) (fun i e h'=>h'=h/\e 0=ak nw 4 x/\e 2 = .bool false/\e 3 = .int .i64 (i:Int)/\∀ a ∈ x.l.take i,a.name.length<=1000/\a.t.l.length<=60) ⟨rfl,rfl,rfl,rfl,by simp⟩ ?_ ?_
 ·rintro i e h' _ hi ⟨rfl,e0,e2,e3,hs⟩ K' hn fW hr hp;have hil:i<x.l.length:=by omega
  have hv:x.l[i]?=some x.l[i]:=eA hil;generalize x.l[i]=a at hv;have l1:ag none (.dO (x.l.flatMap nw) (i*4+1)) h'=some (.str a.name):=fI zS hv (by omega);have l2:ag none (.dO (x.l.flatMap nw) (i*4+2)) h'=some (ak encI 1 a.t):=fI zS hv (by omega);rw [F.fK.aT];simp only [e0,e3,aR,reduceAdd,reduceEqDiff,reduceIte,bh hil,fy (by omega:(i:Int)<26),aV x hil,l1];by_cases h1:(1000:Int)<(a.name.length:Int)
  ·simp only [fy h1,aK];rw [hr,F.fK.bC];simp only [aR,reduceAdd,reduceEqDiff,reduceIte,e2];exact hK false (fun h=>by cases h)
  ·simp only [eR h1,aR,reduceAdd,reduceEqDiff,reduceIte,e0,e3,aV x hil,l2];by_cases h2:(60:Int)<(a.t.l.length:Int)
   ·simp only [fy h2,aK];rw [hr,F.fK.bC];simp only [aR,reduceAdd,reduceEqDiff,reduceIte,e2];exact hK false (fun h=>by cases h)
   ·simp only [eR h2,aR,reduceAdd,reduceEqDiff,reduceIte,e3,aI hil hx];refine hn _ _ ⟨rfl,e0,e2,rfl,fun b hb=>?_⟩;rw [take_add_one,hv] at hb;rcases mem_append.1 hb with hb|hb
    ·exact hs b hb
    ·simp only [toList_some,mem_singleton] at hb;subst hb;omega
 ·rintro e h' ⟨rfl,e0,e2,e3,hs⟩ K' fW;rw [F.fK.aT]
  have fin:∀ E:Env,E 0=ak nw 4 x->F.fK.cQ K (.exit 0) ⟨E,33,[],h'⟩=true:=fun E hE=>by
   rw [F.fK.aG];simp only [hE,aR,reduceAdd,reduceEqDiff,reduceIte];refine hK _ fun hb=>?_;have hb:=of_decide_eq_true hb;have hl:x.l.length<=25:=by omega
   refine ⟨hl,fun a ha=>hs a ?_⟩
   rwa [kf (by omega)]
  by_cases hl:x.l.length<=26
  ·have e3':e 3 = .int .i64 (x.l.length:Int):=by rw [e3,Nat.min_eq_left hl]
   simp only [e0,e3',aR,reduceAdd,reduceEqDiff,reduceIte,aW];rw [fW];exact fin _ (by simp [bK,e0])
  ·have e3':e 3 = .int .i64 26:=by rw [e3,Nat.min_eq_right (by omega)];rfl
   simp only [e0,e3',aR,reduceAdd,reduceEqDiff,reduceIte,fy (by omega:(26:Int)<(x.l.length:Int)),Int.lt_irrefl,decide_false];rw [fW];exact fin _ (by simp [bK,e0])
theorem BM(ts:List (Sl Int)):ts.flatMap cU=ts.map fun t=>ak encI 1 t:=by
 induction ts with
 |nil=>rfl
 |cons t ts ih=>rw [flatMap_cons,ih];rfl
theorem JD(ts:List (Sl Int)):bw (ts.flatMap cU)=true:=by
 induction ts with
 |nil=>rfl
 |cons t ts ih=>rw [flatMap_cons];cases t<;>exact ih
theorem Ll{ts:List (Sl Int)}(o:Own cU 1 k h v ts)(hn:ts = []->v = .ax)(hlen:ts.length<=1000000){vb:Nat}{y:Sl Int}(U2:h.get vb=some (.cells (cU y)))(hne:cz v≠some vb)(VU:k<=h.next){i:Nat}(hi:i<=ts.length)
  (hK:∀ v' h',Own cU 1 k h' v' (ts.take i++y :: ts.drop i)->(∀ b,b<h.next->cz v≠some b->h'.get b=h.get b)->h.next<=h'.next->cz v'=some h.next->K (.ret v') h'=true):Sem TP 56 [v,.int .i64 (i:Int),.slice vb 0 1 1] h K:=by
 have jG:(ak encI 1 y).one=true:=by cases y<;>rfl
 refine iJ.UD qj (f:=56) rfl ?_;have hci:((i:Nat):Int)=Int.ofNat i:=rfl;rw [hci]
 cases o with
 |nil=>
  obtain rfl:i=0:=by simpa using hi
  have e:qZ [.ax,.int .i64 (Int.ofNat 0),.slice vb 0 1 1] h K=((ak encI 1 y).one&&(Nat.beq 0 0&&K (.ret (.slice h.next 0 1 1)) (h.alloc (.cells [ak encI 1 y])))):=by
   simp only [qZ,U2,cU]
  rw [e,jG];refine hK _ (h.alloc (.cells [ak encI 1 y])) ?_ (fun b hb _=>by rw [Heap.aU,if_neg (by omega)]) (by rw [Heap.aL];omega) rfl;exact .row h.next [y] VU (by rw [Heap.aL];omega) (aB _ _)
 |row b ts h1 h2 h3=>
  have hl:(ts.flatMap cU).length=ts.length:=by rw [fH qt];omega
  have QC:1<=ts.length:=by
   rcases eq_zero_or_pos ts.length with h0|h0
   ·have:=hn (length_eq_zero_iff.1 h0);cases this
   ·exact h0
  have Xr:b≠vb:=fun e=>hne (by rw [e];rfl)
  have e:qZ [.slice b 0 ts.length 1,.int .i64 (Int.ofNat i),.slice vb 0 1 1] h K=((ak encI 1 y).one&&(!(Nat.beq b vb)&&(Nat.beq (ts.flatMap cU).length ts.length&&(ble 1 ts.length&&(ble i ts.length&&(ble ((ts.length+1)*24) 140737488355328&&(bw (ts.flatMap cU) &&
    K (.ret (.slice h.next 0 (ts.length+1) 1)) ((h.set b .dead).alloc (.cells ((ts.flatMap cU).take i++ak encI 1 y :: (ts.flatMap cU).drop i)))))))))):=by
   simp only [qZ,U2,cU,h3]
  have c1:Nat.beq b vb=false:=by cases hh:Nat.beq b vb with|false=>rfl|true=>exact absurd (eq_of_beq_eq_true hh) Xr
  have c2:Nat.beq (ts.flatMap cU).length ts.length=true:=by rw [hl];exact Nat.beq_refl _
  have c3:ble 1 ts.length=true:=ble_eq_true_of_le QC;have c4:ble i ts.length=true:=ble_eq_true_of_le hi;have c5:ble ((ts.length+1)*24) 140737488355328=true:=ble_eq_true_of_le (by omega);rw [e,jG,c1,c2,c3,c4,c5,JD]
  have hcs:(ts.flatMap cU).take i++ak encI 1 y :: (ts.flatMap cU).drop i=(ts.take i++y :: ts.drop i).flatMap cU:=by
   rw [BM,BM,map_append,map_cons,map_take,map_drop]
  have hln:ts.length+1=(ts.take i++y :: ts.drop i).length:=by simp;omega
  rw [hcs];show K _ _=true;rw [hln];have oZ:(h.set b .dead).next=h.next:=Heap.bt _ _ _
  refine hK _ _ ?_ (fun c hc hb=>?_) (by rw [Heap.aL,oZ];omega) rfl
  ·refine .row h.next _ VU (by rw [Heap.aL,oZ];omega) ?_
   rw [<- oZ];exact aB _ _
  ·rw [Heap.aU,if_neg (by rw [oZ];omega),Heap.aN,if_neg (fun e=>hb (by rw [e];rfl))]
theorem Lm{ts:List (Sl Int)}(o:Own cU 1 k h v ts)(hlen:ts.length<=1000000)(VU:k<=h.next){i:Nat}(hi:i<ts.length)
  (hK:∀ v' h',Own cU 1 k h' v' (ts.take i++ts.drop (i+1))->(∀ b,b<h.next->cz v≠some b->h'.get b=h.get b)->h.next<=h'.next->cz v'=some h.next->K (.ret v') h'=true):Sem TP 57 [v,.int .i64 (i:Int),.int .i64 ((i+1:Nat):Int)] h K:=by
 refine iJ.UD qj (f:=57) rfl ?_;have hci:((i:Nat):Int)=Int.ofNat i:=rfl;have afl:((i+1:Nat):Int)=Int.ofNat (i+1):=rfl;rw [hci,afl]
 cases o with
 |nil=>simp at hi
 |row b ts h1 h2 h3=>
  have hl:(ts.flatMap cU).length=ts.length:=by rw [fH qt];omega
  have e:xU [.slice b 0 ts.length 1,.int .i64 (Int.ofNat i),.int .i64 (Int.ofNat (i+1))] h K=(Nat.beq (ts.flatMap cU).length ts.length&&(ble (i+1) (i+1)&&(ble (i+1) ts.length&&(ble (ts.length*24) 140737488355328&&(bw (ts.flatMap cU) &&
    K (.ret (.slice h.next 0 (ts.length-(i+1-i)) 1)) ((h.set b .dead).alloc (.cells ((ts.flatMap cU).take i++(ts.flatMap cU).drop (i+1))))))))):=by
   simp only [xU,h3]
  have c2:Nat.beq (ts.flatMap cU).length ts.length=true:=by rw [hl];exact Nat.beq_refl _
  have c3:ble (i+1) (i+1)=true:=ble_eq_true_of_le (dM _);have c4:ble (i+1) ts.length=true:=ble_eq_true_of_le hi;have c5:ble (ts.length*24) 140737488355328=true:=ble_eq_true_of_le (by omega);rw [e,c2,c3,c4,c5,JD]
  have hcs:(ts.flatMap cU).take i++(ts.flatMap cU).drop (i+1)=(ts.take i++ts.drop (i+1)).flatMap cU:=by
   rw [BM,BM,map_append,map_take,map_drop]
  have hln:ts.length-(i+1-i)=(ts.take i++ts.drop (i+1)).length:=by simp;omega
  rw [hcs];show K _ _=true;rw [hln];have oZ:(h.set b .dead).next=h.next:=Heap.bt _ _ _
  refine hK _ _ ?_ (fun c hc hb=>?_) (by rw [Heap.aL,oZ];omega) rfl
  ·refine .row h.next _ VU (by rw [Heap.aL,oZ];omega) ?_
   rw [<- oZ];exact aB _ _
  ·rw [Heap.aU,if_neg (by rw [oZ];omega),Heap.aN,if_neg (fun e=>hb (by rw [e];rfl))]
theorem MF(hs:iF L){a b:Nat}{u v:List Int}(hu:L[a]?=some u)(hv:L[b]?=some v)(rj:a<b):dm u v=true:=by
 have h1:=pairwise_iff_getElem.1 hs;obtain ⟨p1,q1⟩:=kg.1 hu;obtain ⟨p2,q2⟩:=kg.1 hv;have:=h1 a b p1 p2 rj
 rwa [q1,q2] at this
theorem WM(hs:iF L){n:Nat}{t:List Int}(hlen:∀ u ∈ L,u.length=t.length)(DY:∀ a u,a<n->L[a]?=some u->dm u t=true)(JP:∀ a u,n<=a->L[a]?=some u->dm u t=false)(ht:t ∉ L) :
  iF (L.take n++t :: L.drop n):=by
 refine Lj hs (fun y hy=>?_) (fun y hy=>?_)
 ·obtain ⟨a,ha⟩:=getElem?_of_mem hy;rw [getElem?_drop] at ha;have hm:=ig ha;exact zQ (hlen y hm) (JP _ y (by omega) ha) (fun e=>ht (e▸hm))
 ·obtain ⟨a,ha⟩:=getElem?_of_mem hy;have hal:a<n:=by have:=(kg.1 ha).1;rw [length_take] at this;omega
  rw [getElem?_take,if_pos hal] at ha;exact DY a y hal ha
theorem WN(hs:iF L){n:Nat}{t:List Int}(DY:∀ a u,a<n->L[a]?=some u->dm u t=true)(JP:∀ a u,n<=a->L[a]?=some u->dm u t=false)(ht:t ∈ L) :
  L[n]?=some t/\iF (L.take n++L.drop (n+1))/\∀ u,u ∈ L.take n++L.drop (n+1)↔u ∈ L/\u≠t:=by
 obtain ⟨a,ha⟩:=getElem?_of_mem ht;have h1:¬ a<n:=fun h=>by have:=DY a t h ha;rw [g9] at this;cases this
 have han:a=n:=by
  rcases Nat.lt_or_ge n a with h|h
  ·have hl:n<L.length:=by have:=(kg.1 ha).1;omega
   have:=MF hs (eA hl) ha h;rw [JP n _ (dM _) (eA hl)] at this;cases this
  ·omega
 subst han;have e:L.take a++L.drop (a+1)=L.eraseIdx a:=(eraseIdx_eq_take_drop_succ L a).symm;refine ⟨ha,by rw [e];exact List.Pairwise.sublist (eraseIdx_sublist L a) hs,fun u=>?_⟩;constructor
 ·intro hu;rcases mem_append.1 hu with hu|hu
  ·refine ⟨mem_of_mem_take hu,fun he=>?_⟩;subst he;obtain ⟨b,hb⟩:=getElem?_of_mem hu;have Wo:b<a:=by have:=(kg.1 hb).1;rw [length_take] at this;omega
   rw [getElem?_take,if_pos Wo] at hb;have:=DY b u Wo hb;rw [g9] at this;cases this
  ·refine ⟨mem_of_mem_drop hu,fun he=>?_⟩;subst he;obtain ⟨b,hb⟩:=getElem?_of_mem hu;rw [getElem?_drop] at hb;have:=MF hs ha hb (by omega);rw [g9] at this;cases this
 ·rintro ⟨hu,hne⟩;obtain ⟨b,hb⟩:=getElem?_of_mem hu;rcases Nat.lt_trichotomy b a with h|h|h
  ·exact mem_append_left _ (ig (i:=b) (by rw [getElem?_take,if_pos h];exact hb))
  ·subst h;rw [ha] at hb;cases hb;exact absurd rfl hne
  ·exact mem_append_right _ (ig (i:=b-(a+1)) (by rw [getElem?_drop,show a+1+(b-(a+1))=b by omega];exact hb))
theorem Ga{k:Nat}{h:Heap}:∀ (l:List (vu×List (Sl Int))),(∀ p ∈ l,Own cU 1 k h p.1.2.2.1 p.2) ->
  ∃ zs:List Rel,zs.map bX=l.map JC/\zs.length=l.length/\lF true h ((l.map (·.1)).flatMap gX) (zs.flatMap aQ)
 |[],_=>⟨[],rfl,rfl,.nil⟩
 |p :: l,hp=>by
  obtain ⟨zs,h1,h2,h3⟩:=Ga l fun q hq=>hp q (mem_cons_of_mem _ hq);obtain ⟨x,x1,x2⟩:=(jy.zJ (hp p mem_cons_self) mH).fz;have hx:x.l=p.2:=by rw [x1,List.map_map];simp [Function.comp_def]
  obtain ⟨⟨nm,k,v⟩,ts⟩:=p;refine ⟨⟨nm,k,x⟩ :: zs,?_,by simp [h2],?_⟩
  ·rw [map_cons,map_cons,h1];have hx:x.l=ts:=hx;simp [bX,JC,hx]
  ·rw [map_cons,flatMap_cons,flatMap_cons];exact lF.append (KW x2) h3
theorem MG{a:AV}{l:List (vu×List (Sl Int))}(o:Own gX 3 k h a (l.map (·.1)))(hp:∀ p ∈ l,Own cU 1 k h p.1.2.2.1 p.2):∃ z:Sl Rel,z.l.map bX=l.map JC/\Fz true h a (ak aQ 3 z):=by
 obtain ⟨zs,h1,h2,h3⟩:=Ga l hp;generalize hm:l.map (·.1)=m at o h3
 cases o with
 |nil=>
  have:l = []:=by simpa using hm
  subst this;exact ⟨none,rfl,.dP rfl⟩
 |row b m q1 q2 q3=>
  have U9:m.length=zs.length:=by rw [<- hm,length_map,h2]
  refine ⟨some zs,h1,?_⟩;have:ak aQ 3 (some zs) = .au (zs.flatMap aQ) 0 zs.length 3:=rfl;rw [this,U9];exact .slice b 0 zs.length 3 _ _ q3 h3.len h3.rel
theorem yE{t:Sl Int}(hv:Fz true h v (ak cU 1 x))(hl:x.l.length<=1000000)(hk:∀ u ∈ x.l,u.l.length=t.l.length)(Dz:t.l.length<=cM)(hs:iF (x.l.map Sl.l))
  (hK:∀ n:Nat,n<=x.l.length->(∀ a u,a<n->x.l[a]?=some u->dm u.l t.l=true)->(∀ a u,n<=a->x.l[a]?=some u->dm u.l t.l=false)->K (.ret (.tuple [.int .i64 (n:Int),.bool (decide (t.l ∈ x.l.map Sl.l))])) h=true) :
  Sem TP 54 [v,ak encI 1 t,.func 55 [] []] h K:=
 (rW hl hk Dz hs (h:=Heap.empty) (K:=fun o h'=>yes (∃ n:Nat,o = .ret (.tuple [.int .i64 (n:Int),.bool (decide (t.l ∈ x.l.map Sl.l))])/\n<=x.l.length/\(∀ a u,a<n->x.l[a]?=some u->dm u.l t.l=true)/\(∀ a u,n<=a->x.l[a]?=some u->dm u.l t.l=false)))
  fun n a b c=>ct.2 ⟨n,rfl,a,b,c⟩).VJ (.cons hv (.cons (.dP (cc j4 t)) (.cons (.dP rfl) .nil))) fun o h' ho=>by
  obtain ⟨n,rfl,a,b,c⟩:=ct.1 ho;have:=lF.cons (old:=false) (h:=h') (Fz.scalar (.int .i64 (n:Int)) rfl) (lF.cons (Fz.scalar (.bool (decide (t.l ∈ x.l.map Sl.l))) rfl) lF.nil);exact ⟨_,_,rfl,.tuple _ _ this.len this.rel,hK n a b c⟩
theorem yF(s:St):dw TP s Tryz.f18.results.toList=(match ag (some 2) (s.env 8) s.h,(some [s.env 9]:Option (List AV)) with|some v,some vs=>some (v :: vs)|_,_=>none):=by kernel_rfl
set_option maxHeartbeats 2000000 in
theorem Oc(kV:s.ok)(hv:cV s=true){nm:b7}{t:Sl Int}(hj:iM (gm nm (t.l.length:Int)) s.aE.l=(j:Int))(hr:s.aE.l[j]?=some r)(MC:r.arity=(t.l.length:Int))(hin:jo s.size t.l=true)
  (hK:∀ s',mW s j r t.l is s'->K (.ret (.tuple [.agg (an s'),.int .i64 0])) h=true):Sem TP 18 [.agg (an s),.str nm,ak encI 1 t,.bool is] h K:=by
 have hm:cG=140737488355328:=rfl;have nR:=ig hr;have MX:j<s.aE.l.length:=(kg.1 hr).1;have u0:=(fX.1 hv).rel _ (List.mem_map_of_mem nR);obtain ⟨_,k,hk1,G6,hkp,TO⟩:=u0;have afh:r.arity=(k:Int):=hk1;have hkl:t.l.length=k:=by omega
 have Dz:t.l.length<=cM:=by unfold cM;omega
 have Ro:=(fC hv).1;have hrt:=Ro.Hg r nR
 have main:Sem TP 18 [.agg (an s),.str nm,ak encI 1 t,.bool is] Heap.empty (fun o h'=>yes (∃ v s',o = .ret (.tuple [v,.int .i64 0])/\mW s j r t.l is s'/\Fz true h' v (.agg (an s')))):=by
  refine F.EJ ?_;rw [F.GW];simp only [cY (cp s),aq,Heap.aL,bT];have g0:(Heap.alloc (Heap.alloc Heap.empty (.cells (an s))) (.cells [.int .i64 0,.ax])).get 0=some (.cells (an s)):=by simp [Heap.aU,bT]
  have g1:(Heap.alloc (Heap.alloc Heap.empty (.cells (an s))) (.cells [.int .i64 0,.ax])).get 1=some (.cells [.int .i64 0,.ax]):=by simp [Heap.aU,bT]
  have gn:(Heap.alloc (Heap.alloc Heap.empty (.cells (an s))) (.cells [.int .i64 0,.ax])).next=2:=rfl
  generalize (Heap.alloc (Heap.alloc Heap.empty (.cells (an s))) (.cells [.int .i64 0,.ax]))=H1 at g0 g1 gn ⊢;have l0:ag (some 2) (.ptr 0 0) H1=some (.agg (an s)):=by rw [aj g0,cE (cs:=an s) (n:=2) rfl]
  have lz:ag none (.ptr 0 0) H1=some (.int .i64 s.size):=by rw [aj g0];rfl
  simp only [l0,aq];refine ah (zR kV hv hj hr MC Dz ?_);simp only [aR,reduceAdd,reduceEqDiff,reduceIte,cw,decide_true,Bool.not_true,lz];refine ah (tX Dz ?_);rw [hin];simp only [aR,reduceAdd,reduceEqDiff,reduceIte,Bool.not_true,l0];refine ah (AG Ro fun a H2 l hx hd hl=>?_)
  have Bi:bw [.int .i64 s.size,a]=true:=by
   have c:=hd.own.kH;have:=c.1;rw [c.2.2] at this;simp only [bw,Bool.and_true] at this ⊢;rw [this];rfl
  obtain ⟨H3,LV,p3,Qo,TH⟩:=cu (h:=H2) (zs:=[.int .i64 0,.ax]) (cs:=[.int .i64 s.size,a]) (n:=2) rfl rfl Bi;have x3:bA H2 H3:=⟨by omega,fun b hb=>Qo b (by omega)⟩
  have n2:=hx.next
  have d3:=hd.ext x3;rw [gn] at d3 n2;have q0:H3.get 0=some (.cells (an s)):=by rw [Qo 0 (by omega),hx.get 0 (by omega)];exact g0
  have q1:H3.get 1=some (.cells [.int .i64 0,.ax]):=by rw [Qo 1 (by omega),hx.get 1 (by omega)];exact g1
  have lr:ag none (.ptr H2.next 1) H3=some a:=by rw [aj p3];rfl
  have l3:ag (some 2) (.ptr 0 0) H3=some (.agg (an s)):=by rw [aj q0,cE (cs:=an s) (n:=2) rfl]
  simp only [aR,reduceAdd,reduceEqDiff,reduceIte,LV,lr,l3];refine ah (rG kV ?_);rw [hj];have PW:l.length=s.aE.l.length:=by have:=congrArg List.length hl;simpa using this
  obtain ⟨⟨q,ts⟩,hp⟩:∃ p,l[j]?=some p:=⟨l[j]'(by omega),eA (by omega)⟩
  have FM:=ig hp
  have X9:JC (q,ts)=bX r:=by
   have:=congrArg (·[j]?) hl;simp only [getElem?_map,hp,hr,map_some,Option.some.injEq] at this;exact this
  have e1:q.1=r.name:=congrArg (·.1) X9;have e2:q.2.1=r.arity:=congrArg (·.2.1) X9;have e3:ts.map Sl.l=r.aM.l.map Sl.l:=congrArg (·.2.2) X9;have ht3:ts.length=r.aM.l.length:=by have:=congrArg List.length e3;simpa using this
  have Rj:(l.map (·.1))[j]?=some q:=by rw [getElem?_map,hp];rfl
  have oq:Own cU 1 2 H3 q.2.2.1 ts:=d3.row _ FM;obtain ⟨x,x1,x2⟩:=(jy.zJ oq mH).fz;have I2:x.l=ts:=by rw [x1,List.map_map];simp [Function.comp_def]
  have hlen:∀ u ∈ ts.map Sl.l,u.length=t.l.length:=fun u hu=>by
   rw [e3] at hu;rw [hkl];exact (TO.1 u hu).1
  have qh:iF (ts.map Sl.l):=by rw [e3];exact TO.2
  have fin:∀ (hF:Heap) (l':List (vu×List (Sl Int))) (L':List (List Int)),Own gX 3 2 hF a (l'.map (·.1))->(∀ p ∈ l',Own cU 1 2 hF p.1.2.2.1 p.2)->hF.get H2.next=some (.cells [.int .i64 s.size,a])->hF.get 1=some (.cells [.int .i64 0,.ax]) ->
    l'.map JC=(s.aE.l.map bX).set j (r.name,r.arity,L')->iF L'->(∀ u,u ∈ L'↔(u ∈ r.aM.l.map Sl.l/\u≠t.l)\/(is=true/\u=t.l)) ->
    ag (some 2) (.ptr H2.next 0) hF=some (.agg [.int .i64 s.size,a])/\∃ hG,aY 2 (.ptr 1 0) (.agg [.int .i64 s.size,a]) hF=some hG/\ag (some 2) (.ptr 1 0) hG=some (.agg [.int .i64 s.size,a])/\∃ s',mW s j r t.l is s'/\Fz true hG (.agg [.int .i64 s.size,a]) (.agg (an s')):=by
   intro hF l' L' o1 o2 o3 o4 o5 o6 o7;refine ⟨by rw [aj o3];rfl,hF.set 1 (.cells [.int .i64 s.size,a]),by rw [cF (n:=2) (v:=.agg [.int .i64 s.size,a]) o4 rfl Bi (by simp)];rfl,by rw [aj (cs:=[.int .i64 s.size,a]) (by rw [Heap.aN,if_pos rfl])];rfl,?_⟩;obtain ⟨z,z1,z2⟩:=MG (o1.kE (d:=1) (by omega) (.cells [.int .i64 s.size,a])) fun p hp=>(o2 p hp).kE (d:=1) (by omega) (.cells [.int .i64 s.size,a]);refine ⟨⟨s.size,z⟩,⟨rfl,L',o6,o7,by rw [<- o5];exact z1⟩,?_⟩;have:=lF.cons (.scalar (.int .i64 s.size) rfl) (lF.cons z2 lF.nil);exact .agg _ _ this.len this.rel
  have gj:(∀ u,u ∈ r.aM.l.map Sl.l↔(u ∈ r.aM.l.map Sl.l/\u≠t.l)\/(is=true/\u=t.l))->ag (some 2) (.ptr H2.next 0) H3=some (.agg [.int .i64 s.size,a])/\∃ hG,aY 2 (.ptr 1 0) (.agg [.int .i64 s.size,a]) H3=some hG/\ag (some 2) (.ptr 1 0) hG=some (.agg [.int .i64 s.size,a])/\∃ s',mW s j r t.l is s'/\Fz true hG (.agg [.int .i64 s.size,a]) (.agg (an s')):=fun hu=>by
   refine fin H3 l (r.aM.l.map Sl.l) d3.own d3.row p3 q1 ?_ TO.2 hu;rw [hl];refine ext_getElem? fun i=>?_;by_cases hi:i=j
   ·subst hi;rw [getElem?_set_self (by simpa using MX),getElem?_map,hr];rfl
   ·rw [getElem?_set_ne (Ne.symm hi)]
  have chg:∀ (hF:Heap) (v':NL) (Va:List (Sl Int)),Own cU 1 2 hF v'.1 Va->(∀ b,b<H3.next->cz q.2.2.1≠some b->hF.get b=H3.get b)->H3.next<=hF.next->(∀ b,cz v'.1=some b->H3.next<=b)->iF (Va.map Sl.l)->(∀ u,u ∈ Va.map Sl.l↔(u ∈ r.aM.l.map Sl.l/\u≠t.l)\/(is=true/\u=t.l)) ->
    ∃ b hH,dG 3 a (.int .i64 (j:Int))=some (.ptr b (j*3))/\aY 1 (.ptr b (j*3+2)) v'.1 hF=some hH/\ag (some 2) (.ptr H2.next 0) hH=some (.agg [.int .i64 s.size,a])/\∃ hG,aY 2 (.ptr 1 0) (.agg [.int .i64 s.size,a]) hH=some hG/\ag (some 2) (.ptr 1 0) hG=some (.agg [.int .i64 s.size,a])/\∃ s',mW s j r t.l is s'/\Fz true hG (.agg [.int .i64 s.size,a]) (.agg (an s')):=by
   intro hF v' Va ov hfr oZ oU gu Oo;have oF:Own gX 3 2 hF a (l.map (·.1)):=d3.own.agree (fun b hb=>hfr b (d3.own.lt hb) (fun hc=>d3.sep _ FM b hc hb)) oZ;obtain ⟨b,cs,i1,i2,i3,i4,i5,i6⟩:=oF.U8 Rj v';have hb2:b<H2.next:=hd.own.lt i2
   have hb3:2<=b:=d3.own.ge i2;have hqb:∀ c,cz q.2.2.1=some c->c<H2.next/\2<=c:=fun c hc=>⟨(hd.row _ FM).lt hc,oq.ge hc⟩
   refine ⟨b,hF.set b (.cells cs),i1,i5,?_⟩;have lN:(l.set j ((q.1,q.2.1,v'),Va)).map (·.1)=(l.map (·.1)).set j (q.1,q.2.1,v'):=by rw [map_set]
   refine fin (hF.set b (.cells cs)) (l.set j ((q.1,q.2.1,v'),Va)) (Va.map Sl.l) (by rw [lN];exact i6) (fun p hpp=>?_) ?_ ?_ ?_ gu Oo
   ·obtain ⟨i,hi⟩:=getElem?_of_mem hpp;by_cases hij:i=j
    ·subst hij;rw [getElem?_set_self (by omega)] at hi;cases hi;exact ov.agree (fun c hc=>by rw [Heap.aN,if_neg (fun e=>by have:=oU c hc;omega)]) (by rw [Heap.bt];omega)
    ·rw [getElem?_set_ne (Ne.symm hij)] at hi;have RP:=ig hi;refine (d3.row p RP).agree (fun c hc=>?_) (by rw [Heap.bt];omega);have TR:c≠b:=fun e=>d3.sep p RP c hc (by rw [e];exact i2);rw [Heap.aN,if_neg TR];refine hfr c ((d3.row p RP).lt hc) fun hqc=>?_;have ab5:=pairwise_iff_getElem.1 d3.dis;obtain ⟨y1,y2⟩:=kg.1 hi;obtain ⟨y3,y4⟩:=kg.1 hp;rcases Nat.lt_or_gt_of_ne hij with hlt|OT
     ·exact ab5 i j y1 y3 hlt c (by rw [y2];exact hc) (by rw [y4];exact hqc)
     ·exact ab5 j i y3 y1 OT c (by rw [y4];exact hqc) (by rw [y2];exact hc)
   ·rw [Heap.aN,if_neg (by omega),hfr _ (by omega) (fun hc=>by have:=(hqb _ hc).1;omega)];exact p3
   ·rw [Heap.aN,if_neg (by omega),hfr _ (by omega) (fun hc=>by have:=(hqb _ hc).2;omega)];exact q1
   ·rw [map_set,hl];show (s.aE.l.map bX).set j (q.1,q.2.1,Va.map Sl.l)=_;rw [e1,e2]
  obtain ⟨b,_,i1,i2,i3,i4,_,_⟩:=d3.own.U8 Rj q.2.2;have hnc:∀ c o:Nat,bq (.ptr c o)=some (.ptr c o):=fun _ _=>rfl;simp only [aR,reduceAdd,reduceEqDiff,reduceIte,lr,AV.beq_refl,Bool.and_self,if_true,i1,hnc,i4];refine ah (yE x2 (by rw [I2];omega) (fun u hu=>by rw [I2] at hu;exact hlen u.l (List.mem_map_of_mem hu)) Dz (by rw [I2];exact qh) fun n hn DY JP=>?_);rw [I2] at hn DY JP ⊢;rw [e3]
  have ab6:∀ c u,c<n->(ts.map Sl.l)[c]?=some u->dm u t.l=true:=fun c u hc hu=>by
   rw [getElem?_map] at hu;obtain ⟨w,hw,rfl⟩:=map_eq_some_iff.1 hu;exact DY c w hc hw
  have ab7:∀ c u,n<=c->(ts.map Sl.l)[c]?=some u->dm u t.l=false:=fun c u hc hu=>by
   rw [getElem?_map] at hu;obtain ⟨w,hw,rfl⟩:=map_eq_some_iff.1 hu;exact JP c w hc hw
  cases is with
  |true=>
   by_cases vt:t.l ∈ r.aM.l.map Sl.l
   ·simp only [aR,reduceAdd,reduceEqDiff,reduceIte,fy vt,Bool.not_true]
    obtain ⟨f1,hG,f2,f3,s',f4,f5⟩:=gj fun u=>by
     constructor
     ·intro hu;by_cases he:u=t.l
      ·exact .inr ⟨rfl,he⟩
      ·exact .inl ⟨hu,he⟩
     ·rintro (⟨hu,_⟩|⟨_,rfl⟩)
      ·exact hu
      ·exact vt
    simp only [aR,reduceAdd,reduceEqDiff,reduceIte,f1,f2,yF,f3,oneOf];exact ct.2 ⟨_,s',rfl,f4,f5⟩
   ·simp only [aR,reduceAdd,reduceEqDiff,reduceIte,eR vt,Bool.not_false,hnc,i4];refine ah (nJ (by omega) fun y hy=>?_);have gy:=aB H3 (.cells (cU y));simp only [aR,reduceAdd,reduceEqDiff,reduceIte,i4,AV.beq_refl,Bool.and_self,if_true,Mx];refine ah (Ll (h:=H3.alloc (.cells (cU y))) (oq.ext (bA.alloc _ _)) (d3.none _ FM) (by omega) gy (fun hc=>by have:=oq.lt hc;omega) (by rw [Heap.aL];omega) hn fun v' h' ov hfr oZ hnb=>?_);obtain ⟨BH,JT⟩:=mP ov;have Io:(ts.take n++y :: ts.drop n).map Sl.l=(ts.map Sl.l).take n++t.l :: (ts.map Sl.l).drop n:=by rw [map_append,map_cons,hy,map_take,map_drop]
    obtain ⟨b',hH,c1,c2,c3,hG,c4,c5,s',c6,c7⟩:=chg h' ⟨v',BH,JT⟩ _ ov (fun c hc hb=>by rw [hfr c (by rw [Heap.aL];omega) hb,Heap.aU,if_neg (by omega)]) (by rw [Heap.aL] at oZ;omega) (fun c hc=>by
      have:v'=v':=rfl;rw [show cz v'=some (H3.alloc (.cells (cU y))).next from hnb] at hc
      rw [Heap.aL] at hc;cases hc;omega) (by rw [Io];exact WM qh hlen ab6 ab7 (by rw [e3];exact vt)) (fun u=>by
      rw [Io,T2,e3];constructor
      ·rintro (hu|hu)
       ·exact .inl ⟨hu,fun e=>vt (e▸hu)⟩
       ·exact .inr ⟨rfl,hu⟩
      ·rintro (⟨hu,_⟩|⟨_,hu⟩)
       ·exact .inl hu
       ·exact .inr hu)
    obtain rfl:b'=b:=by rw [i1] at c1;cases c1;rfl
    simp only [aR,reduceAdd,reduceEqDiff,reduceIte,c2,c3,c4,yF,c5,oneOf];exact ct.2 ⟨_,s',rfl,c6,c7⟩
  |false=>
   by_cases vt:t.l ∈ r.aM.l.map Sl.l
   ·obtain ⟨He,Vx,M9⟩:=WN qh ab6 ab7 (by rw [e3];exact vt);have X0:n<ts.length:=by have:=(kg.1 He).1;simpa using this
    simp only [aR,reduceAdd,reduceEqDiff,reduceIte,fy vt,Bool.not_false,hnc,i4,aI X0 (by unfold cM;omega)];refine ah (Lm oq (by omega) (by omega) X0 fun v' h' ov hfr oZ hnb=>?_);obtain ⟨BH,JT⟩:=mP ov;have Io:(ts.take n++ts.drop (n+1)).map Sl.l=(ts.map Sl.l).take n++(ts.map Sl.l).drop (n+1):=by rw [map_append,map_take,map_drop]
    obtain ⟨b',hH,c1,c2,c3,hG,c4,c5,s',c6,c7⟩:=chg h' ⟨v',BH,JT⟩ _ ov hfr oZ (fun c hc=>by
      rw [show cz v'=some H3.next from hnb] at hc
      cases hc;omega) (by rw [Io];exact Vx) (fun u=>by
      rw [Io,M9,e3];constructor
      ·intro hu;exact .inl hu
      ·rintro (hu|⟨hu,_⟩)
       ·exact hu
       ·cases hu)
    obtain rfl:b'=b:=by rw [i1] at c1;cases c1;rfl
    simp only [aR,reduceAdd,reduceEqDiff,reduceIte,c2,c3,c4,yF,c5,oneOf];exact ct.2 ⟨_,s',rfl,c6,c7⟩
   ·simp only [aR,reduceAdd,reduceEqDiff,reduceIte,eR vt,Bool.not_false]
    obtain ⟨f1,hG,f2,f3,s',f4,f5⟩:=gj fun u=>by
     constructor
     ·intro hu;exact .inl ⟨hu,fun e=>vt (e▸hu)⟩
     ·rintro (⟨hu,_⟩|⟨hu,_⟩)
      ·exact hu
      ·cases hu
    simp only [aR,reduceAdd,reduceEqDiff,reduceIte,f1,f2,yF,f3,oneOf];exact ct.2 ⟨_,s',rfl,f4,f5⟩
 refine main.frozen (by simp [AV.cN,AV.pure,eu,cc j4]) fun o h' ho=>?_;obtain ⟨v,s',rfl,gu,hf⟩:=ct.1 ho;have:=lF.cons hf (lF.cons (.scalar (.int .i64 0) rfl) lF.nil);exact ⟨_,_,rfl,.tuple _ _ this.len this.rel,hK s' gu⟩
structure EY where
 name:b7
 tuple:Sl Int
def ny(f:EY):List AV:=[.str f.name,ak encI 1 f.tuple]
theorem Od(f:EY):(ny f).length=2:=rfl
theorem Ln(f:EY):AV.cN (ny f)=true:=by simp [ny,AV.cN,AV.pure,cc j4]
theorem Oe(f:EY):bw (ny f)=true:=by unfold ny;simp only [bw,fZ,Bool.and_true];rfl
def Hs(f:EY):b7×List Int:=(f.name,f.tuple.l)
def Gb(p q:b7×Int×List (List Int)):List (b7×List Int):=(p.2.2.filter fun t=>!decide (t ∈ q.2.2)).map fun t=>(p.1,t)
def vW(la lb:List (b7×Int×List (List Int))):List (b7×List Int):=(la.zip lb).flatMap fun x=>Gb x.1 x.2
theorem JE{α β:Type}:∀ {la:List α} {lb:List β} {i:Nat} {p:α} {q:β},la[i]?=some p->lb[i]?=some q->(la.take (i+1)).zip lb=(la.take i).zip lb++[(p,q)]
 |a :: la,b :: lb,0,p,q,h1,h2=>by simp at h1 h2;subst h1;subst h2;simp
 |a :: la,b :: lb,i+1,p,q,h1,h2=>by
  rw [getElem?_cons_succ] at h1 h2;rw [take_succ_cons,take_succ_cons,zip_cons_cons,zip_cons_cons,JE h1 h2];rfl
 |[],_,_,_,_,h1,_=>by simp at h1
 |_ :: _,[],_,_,_,_,h2=>by simp at h2
theorem WO(nm:b7)(y:Sl Int):iy [.str [],.ax] [(0,1),(1,1)] [.str nm,ak encI 1 y]=some (.agg (ny ⟨nm,y⟩)):=by cases y<;>rfl
theorem WQ(f:EY):fS [.str [],.ax] [(0,2)] [.agg (ny f)]=some (ny f):=by
 obtain ⟨nm,y⟩:=f;cases y<;>rfl
set_option maxHeartbeats 1000000 in
theorem dD{a b:cD}(ha:a.small)(hb:b.small)(hlen:a.aE.l.length<=b.aE.l.length)(hkk:∀ (i:Nat) (q u:Rel),a.aE.l[i]?=some q->b.aE.l[i]?=some u->(∀ t ∈ q.aM.l,∀ w ∈ u.aM.l,w.l.length=t.l.length)/\iF (u.aM.l.map Sl.l))
  {h:Heap} {K:Out->Heap->Bool} (hK:∀ x:Sl EY,x.l.map Hs=vW (a.aE.l.map bX) (b.aE.l.map bX)->K (.ret (ak ny 2 x)) h=true):Sem TP 92 [.agg (an a),.agg (an b)] h K:=by
 have hm:cG=140737488355328:=rfl;have rj:=ha.Ws;have ha8:=ha.aE
 have main:Sem TP 92 [.agg (an a),.agg (an b)] Heap.empty (fun o h'=>yes (∃ v,∃ x:Sl EY,o = .ret v/\x.l.map Hs=vW (a.aE.l.map bX) (b.aE.l.map bX)/\Fz true h' v (ak ny 2 x))):=by
  refine F.EK ?_;rw [F.GY];simp only [cY (cp a),cY (cp b),aq,Heap.aL,bT];have g0:(Heap.alloc (Heap.alloc Heap.empty (.cells (an a))) (.cells (an b))).get 0=some (.cells (an a)):=by simp [Heap.aU,bT]
  have g1:(Heap.alloc (Heap.alloc Heap.empty (.cells (an a))) (.cells (an b))).get 1=some (.cells (an b)):=by simp [Heap.aU,bT]
  have gn:(Heap.alloc (Heap.alloc Heap.empty (.cells (an a))) (.cells (an b))).next=2:=rfl
  generalize (Heap.alloc (Heap.alloc Heap.empty (.cells (an a))) (.cells (an b)))=H at g0 g1 gn ⊢;have lr:ag none (.ptr 0 1) H=some (ak aQ 3 a.aE):=by rw [aj g0];rfl
  simp only [aR,reduceAdd,reduceEqDiff,reduceIte,lr]
  refine aD 0 a.aE.l.length (zero_le _) (fun i e h'=>∃ av l,Own ny 2 2 h' av l/\l.map Hs=vW ((a.aE.l.map bX).take i) (b.aE.l.map bX)/\l.length<=i*100000/\bA H h'/\e 3 = .ptr 1 0/\e 5=av/\e 13=ak aQ 3 a.aE/\e 14 = .int .i64 (a.aE.l.length:Int)/\e 15 = .int .i64 (i:Int))
   ⟨_,[],.nil,by simp [vW],by simp,bA.refl _,rfl,rfl,rfl,rfl,rfl⟩ ?_ ?_
  ·rintro i e h' _ hi ⟨av,l,o,hl,hcn,hx,e3,e5,pQ,oK,nQ⟩ K' hn fW hr hp;have hv:a.aE.l[i]?=some a.aE.l[i]:=eA hi;generalize a.aE.l[i]=r at hv;have Bz:i<b.aE.l.length:=by omega
   have hw:b.aE.l[i]?=some b.aE.l[i]:=eA Bz;generalize b.aE.l[i]=u at hw;have nR:=ig hv;obtain ⟨hk1,VD⟩:=hkk i r u hv hw;have hrt:=ha.Hg r nR;have hut:=hb.Hg u (ig hw);obtain ⟨H3,LV,p3,Qo,TH⟩:=cu (h:=h') (zs:=[.str [],.int .i64 0,.ax]) (cs:=aQ r) (n:=3) rfl rfl (fP r);have x3:bA h' H3:=⟨by omega,fun c hc=>Qo c (by omega)⟩
   have lt3:ag none (.ptr h'.next 2) H3=some (ak cU 1 r.aM):=by rw [aj p3];rfl
   have oZ:=hx.next
   rw [F.dD.aT];simp only [pQ,oK,nQ,aR,reduceAdd,reduceEqDiff,reduceIte,bh hi,aV a.aE hi,dF dR hv,LV,lt3];have XE:r.aM.l.length<=cM:=by unfold cM;omega
   refine aD 0 r.aM.l.length (zero_le _) (fun j e h2=>∃ av l,Own ny 2 2 h2 av l/\l.map Hs=vW ((a.aE.l.map bX).take i) (b.aE.l.map bX)++Gb (r.name,r.arity,(r.aM.l.map Sl.l).take j) (bX u)/\l.length<=i*100000+j/\bA H h2/\h2.get h'.next=some (.cells (aQ r))/\h'.next<h2.next/\(∀ c,cz av=some c->c≠h'.next) /\
    e 3 = .ptr 1 0/\e 5=av/\e 13=ak aQ 3 a.aE/\e 14 = .int .i64 (a.aE.l.length:Int)/\e 15 = .int .i64 (i:Int)/\e 7 = .ptr h'.next 0/\e 6 = .int .i64 (i:Int)/\e 21=ak cU 1 r.aM/\e 22 = .int .i64 (r.aM.l.length:Int)/\e 23 = .int .i64 (j:Int))
    ⟨av,l,o.ext x3,by simpa [Gb] using hl,by simpa using hcn,hx.trans x3,p3,by omega,fun c hc=>by have:=o.lt hc;omega,e3,e5,pQ,oK,nQ,rfl,rfl,rfl,rfl,rfl⟩ ?_ ?_
   ·rintro j e h2 _ hj ⟨av,l,o,hl,hcn,hx,p3,q3,hne,e3,e5,pQ,oK,nQ,e7,e6,Ar,Be,U3⟩ K2 pV gi rN FD;have Hj:r.aM.l[j]?=some r.aM.l[j]:=eA hj;generalize r.aM.l[j]=t at Hj;have htm:=ig Hj;have Dz:=ha.XD r nR t htm;have gb:h2.get 1=some (.cells (an b)):=by rw [hx.get 1 (by omega)];exact g1
    have lb:ag none (.ptr 1 1) h2=some (ak aQ 3 b.aE):=by rw [aj gb];rfl
    have Vb:Gb (r.name,r.arity,(r.aM.l.map Sl.l).take (j+1)) (bX u)=Gb (r.name,r.arity,(r.aM.l.map Sl.l).take j) (bX u)++if t.l ∈ u.aM.l.map Sl.l then [] else [(r.name,t.l)]:=by
     have hg:(r.aM.l.map Sl.l)[j]?=some t.l:=(by rw [getElem?_map,Hj];rfl);simp only [Gb,bX];rw [take_add_one,hg,filter_append,map_append];congr 1;by_cases hin:t.l ∈ u.aM.l.map Sl.l
     ·rw [if_pos hin,toList_some,filter_cons,if_neg (by simp only [not_eq_true'];intro hh;exact absurd hin (of_decide_eq_false hh))];rfl
     ·rw [if_neg hin,toList_some,filter_cons,if_pos (by simp only [not_eq_true'];exact eR hin)];rfl
    rw [F.dD.dh];simp only [e3,e6,Ar,Be,U3,aR,reduceAdd,reduceEqDiff,reduceIte,bh hj,aV r.aM hj,ic Hj,lb,aV b.aE Bz,qC hw];refine ah (rW (by omega) (fun w hw2=>hk1 t htm w hw2) (by unfold cM;omega) VD fun n _ _ _=>?_);by_cases hin:t.l ∈ u.aM.l.map Sl.l
    ·simp only [aR,reduceAdd,reduceEqDiff,reduceIte,fy hin,Bool.not_true,U3,aI hj XE];refine pV _ _ ⟨av,l,o,by rw [hl,Vb,if_pos hin,append_nil],by omega,hx,p3,q3,hne,e3,e5,pQ,oK,nQ,e7,e6,Ar,Be,rfl⟩
    ·have ln:ag none (.ptr h'.next 0) h2=some (.str r.name):=(by rw [aj p3];rfl);simp only [aR,reduceAdd,reduceEqDiff,reduceIte,eR hin,Bool.not_false,e7,ln];refine ah (nJ (by omega) fun y hy=>?_)
     have hroom:(l.length+1)*40<=cG:=by
      rw [hm];have:i*100000<=a.aE.l.length*100000:=mul_le_mul_right _ (by omega);omega
     obtain ⟨a5,h5,c5,o5,f5,n5,x5,b5⟩:=o.push Od Oe (by have:=hx.next;omega) (bytes:=40) hroom ⟨r.name,y⟩;simp only [aR,reduceAdd,reduceEqDiff,reduceIte,e5,e7,U3,ln,AV.beq_refl,Bool.and_self,if_true,WO,WQ,c5,aI hj XE];refine pV _ _ ⟨a5,_,o5,?_,by rw [length_append,length_singleton];omega,x5 H hx (by omega),by rw [f5 _ q3 (fun hc=>hne _ hc rfl)];exact p3,by omega,fun c hc=>by have:=b5 c hc;omega,e3,rfl,pQ,oK,nQ,e7,e6,Ar,Be,rfl⟩;rw [map_append,hl,Vb,if_neg hin,append_assoc];simp [Hs,hy]
   ·rintro e h2 ⟨av,l,o,hl,hcn,hx,p3,q3,hne,e3,e5,pQ,oK,nQ,e7,e6,Ar,Be,U3⟩ K2 gi;rw [F.dD.dh];simp only [Be,U3,aR,reduceAdd,reduceEqDiff,reduceIte,aW];rw [gi,F.dD.cx];simp only [aR,reduceAdd,reduceEqDiff,reduceIte,nQ,aI hi rj];refine hn _ _ ⟨av,l,o,?_,by have:=Nat.add_mul i 1 100000;omega,hx,e3,e5,pQ,oK,rfl⟩;have htk:(r.aM.l.map Sl.l).take r.aM.l.length=r.aM.l.map Sl.l:=kf (by simp);rw [hl,htk];have h1:(a.aE.l.map bX)[i]?=some (bX r):=by rw [getElem?_map,hv];rfl
    have h2:(b.aE.l.map bX)[i]?=some (bX u):=(by rw [getElem?_map,hw];rfl);unfold vW;rw [JE h1 h2,flatMap_append];simp only [flatMap_cons,flatMap_nil,append_nil];rfl
  ·rintro e h' ⟨av,l,o,hl,hcn,hx,e3,e5,pQ,oK,nQ⟩ K' fW;rw [F.dD.aT];simp only [oK,nQ,aR,reduceAdd,reduceEqDiff,reduceIte,aW];rw [fW,F.dD.aG];simp only [bK,reduceEqDiff,reduceIte,e5];rw [kf (by simp)] at hl;obtain ⟨x,x1,x2⟩:=(jy.zJ o Ln).fz;exact ct.2 ⟨av,x,rfl,by rw [<- hl,x1,List.map_map];simp [Function.comp_def],x2⟩
 refine main.frozen (by simp [AV.cN,AV.pure,eu]) fun o h' ho=>?_;obtain ⟨v,x,rfl,h1,h2⟩:=ct.1 ho;exact ⟨_,_,rfl,h2,hK x h1⟩
end
end Go.AM