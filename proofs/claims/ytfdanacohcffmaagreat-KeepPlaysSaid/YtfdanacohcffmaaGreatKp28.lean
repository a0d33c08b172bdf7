/- Parts of the proof. Conditions: none. -/
import Derived.Test.YtfdanacohcffmaaGreatKp20
import Derived.Test.YtfdanacohcffmaaGreatKp21
import Derived.Test.YtfdanacohcffmaaGreatKp27
set_option linter.unusedSimpArgs false
set_option linter.unusedVariables false
set_option maxHeartbeats 2000000
namespace Go.AM
open List Nat Bool Option
open Go Go.Proofs
noncomputable section
variable {K:Out->Heap->Bool} {h h0:Heap} {L:List (List Int)} {n k i lo B NN S:Nat} {D:DB} {r:aI} {s:ct} {v:AV}
def PI(p:y8×List (Sl Int)):cc×Int×List (List Int):=(p.1.1,p.1.2.1,p.2.map Sl.l)
structure Deep (k:Nat) (h:Heap) (a:AV) (l:List (y8×List (Sl Int))):Prop where
 own:Own jt 3 k h a (l.map (·.1))
 row:∀ p ∈ l,Own jl 1 k h p.1.2.2.1 p.2
 none:∀ p ∈ l,p.2 = []->p.1.2.2.1 = .ai
 sep:∀ p ∈ l,∀ b,bR p.1.2.2.1=some b->bR a≠some b
 dis:l.Pairwise fun p q=>∀ b,bR p.1.2.2.1=some b->bR q.1.2.2.1≠some b
theorem Deep.nil{k:Nat}{h:Heap}:Deep k h .ai []:=⟨.nil,by simp,by simp,by simp,.nil⟩
section
variable {k:Nat} {h h':Heap} {a:AV} {l:List (y8×List (Sl Int))}
theorem Deep.ext(o:Deep k h a l)(hx:aV h h'):Deep k h' a l:=⟨o.own.ext hx,fun p hp=>(o.row p hp).ext hx,o.none,o.sep,o.dis⟩
theorem Deep.low(o:Deep k h a l){d:Nat}(hd:d<k)(x:mI):Deep k (h.set d x) a l:=⟨o.own.mK hd x,fun p hp=>(o.row p hp).mK hd x,o.none,o.sep,o.dis⟩
theorem Deep.CL(o:Deep k h a l){j:Nat}(hj:j<=k):Deep j h a l:=⟨o.own.CL hj,fun p hp=>(o.row p hp).CL hj,o.none,o.sep,o.dis⟩
theorem Deep.push{m:Nat}(o:Deep k h a l)(hk:k<=h.next)(hroom:(l.length+1)*48<=cz)(v:y8)(ts:List (Sl Int))(hm:k<=m)(hlt:∀ p ∈ l,∀ b,bR p.1.2.2.1=some b->b<m)
  (ov:Own jl 1 m h v.2.2.1 ts) (hvn:ts = []->v.2.2.1 = .ai) (hva:∀ b,bR v.2.2.1=some b->bR a≠some b) :
  ∃ a' h',bB 3 48 a (.slice h.next 0 1 3) (h.alloc (.cells (jt v)))=some (a',h')/\Deep k h' a' (l++[(v,ts)])/\(∀ c,c<h.next->bR a≠some c->h'.get c=h.get c)/\h.next<=h'.next/\(∀ h0,aV h0 h->h0.next<=k->aV h0 h')/\∀ c,bR a'=some c->h.next<=c:=by
 obtain ⟨a',h',e1,o1,f1,n1,x1,b1⟩:=o.own.push nL zV hk (bytes:=48) (by simpa using hroom) v;refine ⟨a',h',e1,⟨by rw [map_append];exact o1,fun p hp=>?_,fun p hp=>?_,fun p hp b hb=>?_,?_⟩,f1,n1,x1,b1⟩
 ·rcases mem_append.1 hp with hp|hp
  ·exact (o.row p hp).agree (fun b hb=>f1 b ((o.row p hp).lt hb) (o.sep p hp b hb)) n1
  ·rw [mem_singleton] at hp;subst hp;exact (ov.agree (fun b hb=>f1 b (ov.lt hb) (hva b hb)) n1).CL hm
 ·rcases mem_append.1 hp with hp|hp
  ·exact o.none p hp
  ·rw [mem_singleton] at hp;subst hp;exact hvn
 ·intro hc;have:=b1 b hc;rcases mem_append.1 hp with hp|hp
  ·have:=(o.row p hp).lt hb;omega
  ·rw [mem_singleton] at hp;subst hp;have:=ov.lt hb;omega
 ·refine pairwise_append.2 ⟨o.dis,pairwise_singleton _ _,fun p hp q hq b hb hc=>?_⟩;rw [mem_singleton] at hq;subst hq;have:=hlt p hp b hb;have:=ov.ge hc;omega
end
theorem Fl(hs:s.small)(hK:∀ a h' l,aV h h'->Deep h.next h' a l->l.map PI=s.aA.l.map bp->K (.ret (.agg [I6 s.size,a])) h'=true):Sem TP 46 [.agg (ah s)] h K:=by
 have hm:cz=140737488355328:=rfl;have hbig:=hs.U4;refine F.yy ?_;rw [F.AW];simp only [cD (bU s),dr,Heap.aD];have g0:(Heap.alloc (Heap.alloc h (.cells (ah s))) (.cells [I6 0,.ai])).get h.next=sC (ah s):=by rw [Heap.aN,Heap.aD,if_neg (by omega)];exact ak _ _
 have g1:(Heap.alloc (Heap.alloc h (.cells (ah s))) (.cells [I6 0,.ai])).get (h.next+1)=sC [I6 0,.ai]:=ak _ _;have gn:(Heap.alloc (Heap.alloc h (.cells (ah s))) (.cells [I6 0,.ai])).next=h.next+2:=rfl
 have gx:aV h (Heap.alloc (Heap.alloc h (.cells (ah s))) (.cells [I6 0,.ai])):=(aV.alloc _ _).trans (aV.alloc _ _);generalize (Heap.alloc (Heap.alloc h (.cells (ah s))) (.cells [I6 0,.ai]))=H1 at g0 g1 gn gx ⊢;have lz:=lA g0 0 rfl;have ha:iP [I6 0,.ai] [(0,1)] [I6 s.size]=some (.agg [I6 s.size,.ai]):=rfl;obtain ⟨H2,se,p2,po,pn⟩:=cA (h:=H1) (zs:=[I6 0,.ai]) (cs:=[I6 s.size,.ai]) (n:=2) rfl rfl rfl;rw [gn] at p2 po pn se;have p0:H2.get h.next=sC (ah s):=by rw [po _ (by omega)];exact g0
 have p1:H2.get (h.next+1)=sC [I6 0,.ai]:=by rw [po _ (by omega)];exact g1
 have px:aV h H2:=⟨by omega,fun b hb=>by rw [po _ (by omega)];exact gx.get b hb⟩
 have lr:=lA p0 1 rfl;simp only [aO,lz,ha,se,lr]
 refine aB 0 s.aA.l.length (zero_le _) (fun i e h'=>∃ a l,h'.get (h.next+1)=sC [I6 0,.ai]/\h'.get (h.next+2)=sC [I6 s.size,a]/\Deep (h.next+3) h' a l/\l.map PI=(s.aA.l.take i).map bp/\aV h h'/\h.next+3<=h'.next /\
  e 2 = .ptr (h.next+1) 0/\e 3 = .ptr (h.next+2) 0/\e 13=qm s.aA/\e 14=I6 (s.aA.l.length:Int)/\e 15=I6 (i:Int)) ⟨_,[],p1,p2,.nil,rfl,px,by omega,rfl,rfl,rfl,rfl,rfl⟩ ?_ ?_
 ·rintro i e h' _ hi ⟨a,l,q1,q2,o,hl,qx,qn,e2,e3,qC,qt,rD⟩ K' hn gl hr hp;obtain ⟨r,hv⟩:=dM hi;have kW:=ij hv;have Nq:l.length=i:=by have:=congrArg List.length hl;rw [length_map,length_map,length_take,Nat.min_eq_left (by omega)] at this;exact this
  obtain ⟨H3,S5,p3,XF,pn3⟩:=cA (h:=h') (zs:=[.str [],I6 0,.ai]) (cs:=aY r) (n:=3) rfl rfl (gJ r);have ye:iP [.str [],I6 0,.ai] [(0,1),(1,1)] [.str r.name,I6 r.arity]=some (.agg [.str r.name,I6 r.arity,.ai]):=rfl;have l0:=lA p3 0 rfl;have l1:=lA p3 1 rfl;obtain ⟨H4,VY,p4,RV,pn4⟩:=cA (h:=H3) (zs:=[.str [],I6 0,.ai]) (cs:=[.str r.name,I6 r.arity,.ai]) (n:=3) rfl rfl rfl;rw [pn3] at VY p4 RV pn4;have x4:aV h' H4:=⟨by omega,fun b hb=>by rw [RV b (by omega),XF b (by omega)]⟩
  have l2:au none (.ptr h'.next 2) H4=some (kM r.aM):=by rw [aj (show H4.get h'.next=sC (aY r) by rw [RV _ (by omega)];exact p3)];rfl
  have qv:=hs.CV r kW;have hbt:r.aM.l.length<=cw:=by unfold cw;omega
  rw [F.cX.aP];simp only [qC,qt,rD,aO,aU hi,aQ s.aA hi,dB dY hv,S5];simp only [aO,l0,l1,ye,pn3,VY,l2]
  refine aB 0 r.aM.l.length (zero_le _) (fun j e h2=>∃ tv ts,h2.get (h'.next+1)=sC [.str r.name,I6 r.arity,tv]/\Own jl 1 (h'.next+2) h2 tv ts/\(ts = []->tv = .ai)/\ts.map Sl.l=(r.aM.l.take j).map Sl.l/\aV h' h2/\h'.next+2<=h2.next /\
   e 2 = .ptr (h.next+1) 0/\e 3 = .ptr (h.next+2) 0/\e 13=qm s.aA/\e 14=I6 (s.aA.l.length:Int)/\e 15=I6 (i:Int)/\e 6 = .ptr (h'.next+1) 0/\e 25=kM r.aM/\e 26=I6 (r.aM.l.length:Int)/\e 27=I6 (j:Int))
   ⟨_,[],p4,.nil,fun _=>rfl,rfl,x4,by omega,e2,e3,qC,qt,rD,rfl,rfl,rfl,rfl⟩ ?_ ?_
  ·rintro j e h2 _ hj ⟨tv,ts,q6,ot,htn,tY,x2,XG,e2,e3,qC,qt,rD,e6,RX,A4,BX⟩ K2 uR fK r7 Ay;obtain ⟨t,D9⟩:=dM hj;have aeg:ts.length=j:=by have:=congrArg List.length tY;rw [length_map,length_map,length_take,Nat.min_eq_left (by omega)] at this;exact this
   have lt:=lA q6 2 rfl;rw [F.cX.cU];simp only [e6,RX,A4,BX,aO,aU hj,aQ r.aM hj,eY D9,lt];refine af (sw (by have:=hs.YL r kW t (ij D9);omega) fun y hy=>?_);obtain ⟨a5,h5,c5,o5,f5,n5,w5,b5⟩:=ot.push pV vw XG (bytes:=24) (by rw [hm];omega) y;have hne:bR tv≠some (h'.next+1):=fun hb=>by have:=ot.ge hb;omega
   have s6:h5.get (h'.next+1)=sC [.str r.name,I6 r.arity,tv]:=by rw [f5 _ (by omega) hne];exact q6
   have c6:=o5.ki
   have st:aS 1 (.ptr (h'.next+1) 2) a5 h5=some (h5.set (h'.next+1) (.cells [.str r.name,I6 r.arity,a5])):=by
    rw [cj (n:=1) s6 c6.2.1 c6.1 (by simp),c6.2.2];rfl
   simp only [aO,lt,AV.beq_refl,Bool.and_self,if_true,IM,c5,st,aE hj hbt];refine uR _ _ ⟨a5,ts++[y],by rw [Heap.aG,if_pos rfl],o5.mK (by omega) _,fun h=>absurd (congrArg List.length h) (by simp),?_,(w5 h' x2 (by omega)).set (by omega) _,by rw [Heap.aT];omega,e2,e3,qC,qt,rD,e6,RX,A4,rfl⟩;rw [map_append,tY,take_add_one,D9,map_append];simp [hy]
  ·rintro e h2 ⟨tv,ts,q6,ot,htn,tY,x2,XG,e2,e3,qC,qt,rD,e6,RX,A4,BX⟩ K2 fK;rw [jD (dK _)] at tY;have o2:=o.ext x2;obtain ⟨AB,MU⟩:=mR ot;have lq:au (some 3) (.ptr (h'.next+1) 0) h2=some (.agg (jt (r.name,r.arity,⟨tv,AB,MU⟩))):=by rw [aj q6];rfl
   have lo:au none (.ptr (h.next+2) 1) h2=some a:=by rw [aj (show h2.get (h.next+2)=sC [I6 s.size,a] by rw [x2.get _ (by omega)];exact q2)];rfl
   obtain ⟨a5,h5,c5,o5,f5,n5,w5,b5⟩:=o2.push (m:=h'.next+2) (by omega) (by have:=hs.aA;rw [hm];omega) (r.name,r.arity,⟨tv,AB,MU⟩) ts (by omega)
    (fun p hp b hb=>by have:=(o.row p hp).lt hb;omega) ot htn (fun b hb hc=>by have:=o.own.lt hc;have:=ot.ge hb;omega)
   have hne:bR a≠some (h.next+2):=fun hb=>by have:=o.own.ge hb;omega
   have aeh:bR a≠some (h.next+1):=fun hb=>by have:=o.own.ge hb;omega
   have s2:h5.get (h.next+2)=sC [I6 s.size,a]:=by rw [f5 _ (by omega) hne,x2.get _ (by omega)];exact q2
   have s1:h5.get (h.next+1)=sC [I6 0,.ai]:=by rw [f5 _ (by omega) aeh,x2.get _ (by omega)];exact q1
   have c6:=o5.own.ki
   have st:aS 1 (.ptr (h.next+2) 1) a5 h5=some (h5.set (h.next+2) (.cells [I6 s.size,a5])):=by
    rw [cj (n:=1) s2 c6.2.1 c6.1 (by simp),c6.2.2];rfl
   rw [F.cX.cU];simp only [A4,BX,aO,aR];rw [fK,F.cX.cm];simp only [aO,reduceEqDiff,reduceIte,e3,e6,rD,lo,lq,RU,c5,st,aE hi hbig];refine hn _ _ ⟨a5,_,?_,?_,o5.low (by omega) _,?_,(w5 h (qx.trans x2) (by omega)).set (by omega) _,by rw [Heap.aT];omega,e2,e3,qC,qt,rfl⟩
   ·rw [Heap.aG,if_neg (by omega)];exact s1
   ·rw [Heap.aG,if_pos rfl]
   ·rw [map_append,hl,take_add_one,hv,map_append];simp [bp,PI,tY]
 ·rintro e h' ⟨a,l,q1,q2,o,hl,qx,qn,e2,e3,qC,qt,rD⟩ K' gl;rw [jD (dK _)] at hl;have lo:au (some 2) (.ptr (h.next+2) 0) h'=some (.agg [I6 s.size,a]):=by rw [aj q2];rfl
  have c:=o.own.ki
  have tX:aW [I6 s.size,a]=true:=by
   have:=c.1;rw [c.2.2] at this;simp only [aW,Bool.and_true] at this ⊢;rw [this];rfl
  have st:aS 2 (.ptr (h.next+1) 0) (.agg [I6 s.size,a]) h'=some (h'.set (h.next+1) (.cells [I6 s.size,a])):=by
   rw [cj (n:=2) (v:=.agg [I6 s.size,a]) q1 rfl tX (by simp)];rfl
  have RT:au (some 2) (.ptr (h.next+1) 0) (h'.set (h.next+1) (.cells [I6 s.size,a]))=some (.agg [I6 s.size,a]):=by rw [aj (cs:=[I6 s.size,a]) (by rw [Heap.aG,if_pos rfl])];rfl
  rw [F.cX.aP];simp only [qt,rD,aO,aR];rw [gl,F.cX.aC];simp only [kC,reduceEqDiff,reduceIte,e2,e3,lo,st,dr,Lc,RT,oneOf];exact hK a _ l (qx.set (by omega) _) ((o.low (by omega) _).CL (by omega)) hl
theorem wZ{x:Sl (Sl Int)}{t:Sl Int}(hl:x.l.length<=1000000)(hk:∀ u ∈ x.l,u.l.length=t.l.length)(qv:t.l.length<=cw)(hs:ji (x.l.map Sl.l))
  (hK:∀ n:Nat,n<=x.l.length->(∀ a u,a<n->x.l[a]?=some u->dA u.l t.l=true)->(∀ a u,n<=a->x.l[a]?=some u->dA u.l t.l=false)->K (.ret (.tuple [I6 (n:Int),.bool (decide (t.l ∈ x.l.map Sl.l))])) h=true):Sem TP 54 [kM x,dH t,.func 55 [] []] h K:=by
 have u7:∀ (a b:Nat) (u v:Sl Int),x.l[a]?=some u->x.l[b]?=some v->a<b->dA u.l v.l=true:=fun a b u v hu hv rO=>by
  have h1:=pairwise_iff_getElem.1 hs;obtain ⟨p1,q1⟩:=lR.1 hu;obtain ⟨p2,q2⟩:=lR.1 hv;have:=h1 a b (by simpa using p1) (by simpa using p2) rO
  rwa [getElem_map,getElem_map,q1,q2] at this
 refine F.gQ ?_;rw [F.g9];simp only [aO]
 refine jU (fun m e h'=>∃ i j:Nat,m=j-i/\i<=j/\j<=x.l.length/\h'=h/\(∀ a u,a<i->x.l[a]?=some u->dA u.l t.l=true)/\(∀ a u,j<=a->x.l[a]?=some u->dA u.l t.l=false)/\e 0=kM x/\e 1=dH t/\e 2 = .func 55 [] []/\e 8=I6 (x.l.length:Int)/\e 9=I6 (i:Int)/\e 10=I6 (j:Int)) x.l.length
  ⟨0,x.l.length,rfl,zero_le _,dK _,rfl,fun a u ha=>absurd ha (by omega),fun a u ha hu=>absurd (lR.1 hu).1 (by omega),rfl,rfl,rfl,rfl,rfl,rfl⟩ ?_
 rintro m e h' ⟨i,j,rfl,hij,hj,rfl,GX,Qi,e0,e1,e2,e8,e9,iJ⟩;rw [F.bl.aP];by_cases hlt:i<j
 ·obtain ⟨o1,o2,o3,o4⟩:=TQ (a:=i) (b:=j) (by omega) (h:=h');have hmi:(i+j)/2<j:=by omega
  have him:i<=(i+j)/2:=by omega
  generalize (i+j)/2=q at o3 o4 hmi him;have hq:q<x.l.length:=by omega
  obtain ⟨u,hv⟩:=dM hq;have Qx:=ij hv;simp only [e0,e1,e2,e9,iJ,aO,fh (show (i:Int)<(j:Int) by omega),o1,o2,o3,o4,aQ x hq,eY hv,iy,nil_append,append_nil];refine af (oI (by rw [hk u Qx];exact qv) (hk u Qx) fun c c1 c2=>?_);simp only [aO];by_cases hc:c<0
  ·have vA:=c1.1 hc;simp only [fh hc,aL,aE hq (show x.l.length<=cw by unfold cw;omega),dr];refine bO.2 ⟨j-(q+1),by omega,rfl,rfl,q+1,j,rfl,by omega,hj,rfl,fun a w ha hw=>?_,Qi,e0,e1,e2,e8,rfl,iJ⟩;by_cases haq:a=q
   ·subst haq;rw [hv] at hw;cases hw;exact vA
   ·exact lQ (u7 a q w u hw hv (by omega)) vA
  ·have vA:dA u.l t.l=false:=by cases hh:dA u.l t.l with|false=>rfl|true=>exact absurd (c1.2 hh) hc
   simp only [eR hc,aK];refine bO.2 ⟨q-i,by omega,rfl,rfl,i,q,rfl,him,by omega,rfl,GX,fun a w ha hw=>?_,e0,e1,e2,e8,e9,rfl⟩;by_cases haq:a=q
   ·subst haq;rw [hv] at hw;cases hw;exact vA
   ·cases hh:dA w.l t.l with
    |false=>rfl
    |true=>rw [lQ (u7 q a u w hv hw (by omega)) hh] at vA;cases vA
 ·obtain rfl:i=j:=by omega
  simp only [e9,iJ,aO,eR (show ¬ (i:Int)<(i:Int) by omega),lZ];rw [F.bl.aC];simp only [kC,reduceEqDiff,reduceIte,e0,e1,e2,e8,e9,aO,reduceEqDiff,reduceIte];by_cases hin:i<x.l.length
  ·have hv:x.l[i]?=some x.l[i]:=jQ hin;generalize x.l[i]=u at hv;have Qx:=ij hv;simp only [aU hin,aL,aQ x hin,eY hv,dr,iy,nil_append,append_nil];refine af (oI (by rw [hk u Qx];exact qv) (hk u Qx) fun c c1 c2=>?_);simp only [aO,cy]
   have:decide (c=0)=decide (t.l ∈ x.l.map Sl.l):=by
    rw [decide_eq_decide,c2,mem_map];constructor
    ·intro he;exact ⟨u,Qx,he⟩
    ·rintro ⟨w,hw,he⟩;obtain ⟨a,ha⟩:=getElem?_of_mem hw;by_cases h1:a<i
     ·have:=GX a w h1 ha;rw [he,j5] at this;cases this
     ·by_cases h2:a=i
      ·subst h2;rw [hv] at ha;cases ha;exact he
      ·have h3:=u7 i a u w hv ha (by omega);rw [he,Qi i u (dK _) hv] at h3;cases h3
   rw [this];exact hK i hj GX Qi
  ·simp only [eR (show ¬ (i:Int)<(x.l.length:Int) by omega),aK]
   have:decide (t.l ∈ x.l.map Sl.l)=false:=by
    rw [decide_eq_false_iff_not,mem_map];rintro ⟨w,hw,he⟩;obtain ⟨a,ha⟩:=getElem?_of_mem hw;have:=GX a w (by have:=(lR.1 ha).1;omega) ha;rw [he,j5] at this;cases this
   rw [this] at hK;exact hK i hj GX Qi
structure Ge where
 kind:Int
 name:cc
 t:Sl Int
 to:Bool
def qh(a:Ge):List AV:=[I6 a.kind,.str a.name,dH a.t,.bool a.to]
abbrev eAc(x:Sl Ge):AV:=dR qh 4 x
def Ge.ok(a:Ge):Prop:=a.name.length<=cw/\a.t.l.length<=cw
theorem z8(a:Ge):(qh a).length=4:=rfl
def anF(l:List Ge):Prop:=l.length<=25/\∀ a ∈ l,a.name.length<=1000/\a.t.l.length<=60
theorem iI{x:Sl Ge}(hx:x.l.length<=cw){h:Heap}{K:Out->Heap->Bool}(hK:∀ b:Bool,(b=true->anF x.l)->K (.ret (.bool b)) h=true):Sem TP 11 [eAc x] h K:=by
 refine F.J1 ?_;rw [F.Mz];refine aB 0 (min x.l.length 26) (zero_le _) (fun i e h'=>h'=h/\e 0=eAc x/\e 2=bF/\e 3=I6 (i:Int)/\∀ a ∈ x.l.take i,a.name.length<=1000/\a.t.l.length<=60) ⟨rfl,rfl,rfl,rfl,by simp⟩ ?_ ?_
 ·rintro i e h' _ hi ⟨rfl,e0,e2,e3,hs⟩ K' hn gl hr hp;have hil:i<x.l.length:=by omega
  obtain ⟨a,hv⟩:=dM hil;have l1:au none (.dL (x.l.flatMap qh) (i*4+1)) h'=some (.str a.name):=dU z8 hv (by omega);have l2:au none (.dL (x.l.flatMap qh) (i*4+2)) h'=some (dH a.t):=dU z8 hv (by omega);rw [F.iI.aP];simp only [e0,e3,aO,aU hil,fh (by omega:(i:Int)<26),aQ x hil,l1];by_cases h1:(1000:Int)<(a.name.length:Int)
  ·simp only [fh h1,aL];rw [hr,F.iI.bg];simp only [aO,reduceEqDiff,reduceIte,e2];exact hK false (fun h=>by cases h)
  ·simp only [eR h1,aO,l2];by_cases h2:(60:Int)<(a.t.l.length:Int)
   ·simp only [fh h2,aL];rw [hr,F.iI.bg];simp only [aO,reduceEqDiff,reduceIte,e2];exact hK false (fun h=>by cases h)
   ·simp only [eR h2,aO,aE hil hx];refine hn _ _ ⟨rfl,e0,e2,rfl,fun b hb=>?_⟩;rw [take_add_one,hv] at hb;rcases mem_append.1 hb with hb|hb
    ·exact hs b hb
    ·simp only [toList_some,mem_singleton] at hb;subst hb;omega
 ·rintro e h' ⟨rfl,e0,e2,e3,hs⟩ K' gl;rw [F.iI.aP]
  have fin:∀ E:Env,E 0=eAc x->F.iI.cK K (.exit 0) (sM E 33 h')=true:=fun E hE=>by
   rw [F.iI.aC];simp only [hE,aO];refine hK _ fun hb=>?_;have hb:=of_decide_eq_true hb;have hl:x.l.length<=25:=by omega
   refine ⟨hl,fun a ha=>hs a ?_⟩
   rwa [jD (by omega)]
  by_cases hl:x.l.length<=26
  ·have e3':e 3=I6 (x.l.length:Int):=by rw [e3,Nat.min_eq_left hl]
   simp only [e0,e3',aO,aR];rw [gl];exact fin _ (by simp [r8,e0])
  ·have e3':e 3=I6 26:=by rw [e3,Nat.min_eq_right (by omega)];rfl
   simp only [e0,e3',aO,fh (by omega:(26:Int)<(x.l.length:Int)),Int.lt_irrefl,decide_false];rw [gl];exact fin _ (by simp [r8,e0])
theorem Nb{x y:Sl Int}(hx:x.l.length<=cw)(hK:K (.ret (.bool (decide (x.l=y.l)))) h=true):Sem TP 120 [dH x,dH y] h K:=by
 refine F.tD ?_;rw [F.tW];simp only [aO,cy];by_cases hl:x.l.length=y.l.length
 ·simp only [fh (show ((x.l.length:Nat):Int)=((y.l.length:Nat):Int) by omega),Bool.not_true,aK];refine aB 0 x.l.length (zero_le _) (fun i e h'=>h'=h/\e 0=dH x/\e 1=dH y/\e 12=I6 (x.l.length:Int)/\e 13=I6 (i:Int)/\x.l.take i=y.l.take i) ⟨rfl,rfl,rfl,rfl,rfl,rfl⟩ ?_ ?_
  ·rintro i e h' _ hi ⟨rfl,e0,e1,uq,qC,ht⟩ K' hn gl hr hp;have hv:x.l[i]?=some x.l[i]:=jQ hi;have hw:y.l[i]?=some (y.l[i]'(by omega)):=jQ _;generalize x.l[i]=a at hv;generalize y.l[i]'(by omega)=b at hw;rw [F.cL.aP];simp only [e0,e1,uq,qC,aO,aU hi,aQ x hi,aQ y (show i<y.l.length by omega),gh hv,gh hw,cy];by_cases rO:a=b
   ·simp only [fh rO,Bool.not_true,aK,aE hi hx,dr];exact hn _ _ ⟨rfl,e0,e1,uq,rfl,by rw [take_add_one,take_add_one,ht,hv,hw,rO]⟩
   ·simp only [eR rO,Bool.not_false,aL];rw [hr,F.cL.bg];simp only [kC,reduceEqDiff,reduceIte];rw [eR (fun h5=>rO (by rw [h5,hw] at hv;exact (Option.some.inj hv).symm))] at hK;exact hK
  ·rintro e h' ⟨rfl,e0,e1,uq,qC,ht⟩ K' gl;rw [F.cL.aP];simp only [uq,qC,aO,aR];rw [gl,F.cL.aC];rw [jD (dK _),jD (by omega)] at ht;rw [fh ht] at hK;exact hK
 ·simp only [eR (show ¬ ((x.l.length:Nat):Int)=((y.l.length:Nat):Int) by omega),Bool.not_false,aL];rw [eR (fun h5=>hl (by rw [h5]))] at hK;exact hK
theorem Sw{SB P:Nat}{D1:DB}(oP:s.ok)(sQ:cY s=true)(hn:s.size=(n:Int))(n1:1<=n)(sK:n<=64){a0 a2:AV}{e0:Env}
  (hS:h.get S=sC [I6 (n:Int),.map B]) (hSB:h.get SB=sC (ah s)) (hD:ei D1 h B lo) (XO:S≠B) (XP:SB≠B) (Xe:S<h.next) (XQ:SB<h.next) (GX:lo<=h.next)
  (q5:e0 5 = .ptr SB 0) (qa:e0 0=a0) (qc:e0 2=a2) (q7:e0 7 = .ptr P 0) (q9:e0 9 = .ptr S 0) (q26:e0 26=qm s.aA) (q27:e0 27=I6 (s.aA.l.length:Int)) (q28:e0 28=I6 0)
  (done:∀ h' D' (E:Env),ei D' h' B lo->(∀ r ∈ s.aA.l,∃ b,h.next<=b/\D' r.name=some (b,bitsOf n r.arity.toNat r.aM.l))->(∀ nm,(∀ r ∈ s.aA.l,r.name≠nm)->D' nm=D1 nm)->(∀ c,c<h.next->c≠B->h'.get c=h.get c)->h.next<=h'.next->E 0=a0->E 2=a2->E 7 = .ptr P 0->E 9 = .ptr S 0->F.cp.cK K (.exit 0) (sM E 89 h')=true) :
  bJ (EV F.cp.L0) (sM e0 89 h) (F.cp.cK K)=true:=by
 have hbig:=oP.1;have hBn:=hD.lt
 refine aB 0 s.aA.l.length (zero_le _) (fun i e h'=>∃ D,ei D h' B lo/\(∀ r ∈ s.aA.l.take i,∃ b,h.next<=b/\D r.name=some (b,bitsOf n r.arity.toNat r.aM.l))/\(∀ nm,(∀ r ∈ s.aA.l.take i,r.name≠nm)->D nm=D1 nm)/\(∀ c,c<h.next->c≠B->h'.get c=h.get c)/\h.next<=h'.next /\
  e 5 = .ptr SB 0/\e 0=a0/\e 2=a2/\e 7 = .ptr P 0/\e 9 = .ptr S 0/\e 26=qm s.aA/\e 27=I6 (s.aA.l.length:Int)/\e 28=I6 (i:Int))
  ⟨D1,hD,fun r hr=>(by cases hr),fun _ _=>rfl,fun _ _ _=>rfl,dK _,q5,qa,qc,q7,q9,q26,q27,q28⟩ ?_ ?_
 ·rintro i e h' _ hi ⟨D,hDa,mZ,Ef,hfr,mS,e5,ea,ec,e7,e9,A4,BX,Qq⟩ K' vE hx hr hp;obtain ⟨r,hv⟩:=dM hi;have XA:r.ok:=oP.2 r (ij hv);have F9:=vt sQ hv;rw [show s.size.toNat=n by omega] at F9;obtain ⟨k,hk,Kc,Ve,Qr⟩:=wB F9;have hkn:r.arity.toNat=k:=by omega
  obtain ⟨H,BB,g1,go,gn⟩:=cA (h:=h') (zs:=[.str [],I6 0,.ai]) (cs:=aY r) (n:=3) rfl rfl (gJ r);have xH:aV h' H:=⟨by omega,fun b hb=>go b (by omega)⟩
  have pSB:H.get SB=sC (ah s):=by rw [xH.get _ (by omega),hfr _ XQ XP];exact hSB
  have pS:H.get S=sC [I6 (n:Int),.map B]:=by rw [xH.get _ (by omega),hfr _ Xe XO];exact hS
  have hDH:=hDa.ext xH;have lz:au none (.ptr SB 0) H=some (I6 (n:Int)):=by rw [aj pSB,<- hn];rfl
  have la:au none (.ptr h'.next 1) H=some (I6 (k:Int)):=by rw [aj g1,<- hk];rfl
  have ln:=lA g1 0 rfl;obtain ⟨h2,hu,hD2,S3,qj⟩:=hDH.add (by omega) (n ^ k) r.name;have lt:au none (.ptr h'.next 2) h2=some (kM r.aM):=by rw [aj (show h2.get h'.next=sC (aY r) by rw [S3 _ (by omega) (by omega)];exact g1)];rfl
  rw [F.cp.aP];simp only [A4,BX,Qq,e5,e9,aO,aU hi,aQ s.aA hi,dB dY hv,BB];simp only [aO,lz,la];refine af (uu n1 sK (by unfold cw;omega) ?_);rw [TD Kc Ve];simp only [aO,cM,aj pS,ln,CO (show n ^ k<=1000000 by omega),hu,lt]
  refine aB 0 r.aM.l.length (zero_le _) (fun j e h3=>∃ d,bitsOf n k r.aM.l=kN n (r.aM.l.drop j) d/\d.length=n ^ k/\ei (nG D r.name H.next d) h3 B lo/\(∀ c,c<H.next->c≠B->h3.get c=H.get c)/\h3.next=h2.next /\
   e 5 = .ptr SB 0/\e 0=a0/\e 2=a2/\e 7 = .ptr P 0/\e 9 = .ptr S 0/\e 26=qm s.aA/\e 27=I6 (s.aA.l.length:Int)/\e 28=I6 (i:Int)/\e 11 = .ptr h'.next 0/\e 49=kM r.aM/\e 50=I6 (r.aM.l.length:Int)/\e 51=I6 (j:Int))
   ⟨_,rfl,by simp,hD2,S3,rfl,e5,ea,ec,e7,e9,A4,BX,Qq,rfl,rfl,rfl,rfl⟩ ?_ ?_
  ·rintro j e h3 _ hj ⟨d,hd,hdl,XR,XS,RP,e5,ea,ec,e7,e9,A4,BX,Qq,l9,e49,e50,e51⟩ K2 uR fK r7 Ay;obtain ⟨t,D9⟩:=dM hj;obtain ⟨qv,Qo⟩:=MR Qr D9;rw [zR D9] at hd;have uQ:mg n t.l<d.length:=by have:=pW Qo;rw [qv] at this;omega
   have wS:h3.get S=sC [I6 (n:Int),.map B]:=by rw [XS _ (by omega) XO];exact pS
   have wR:h3.get h'.next=sC (aY r):=by rw [XS _ (by omega) (by omega)];exact g1
   have lnm:=lA wR 0 rfl;have M0:=XR.look (nM D r.name H.next d);obtain ⟨_,_,_,pE⟩:=XR.nO r.name _ (nM D r.name H.next d);simp only at M0 pE;have mu:=XR.set (nM D r.name H.next d) (d:=d.set (mg n t.l) true) (by simp);rw [Lh] at mu;simp only at mu;rw [F.cp.cU];simp only [e9,l9,e49,e50,e51,aO,aU hj,aQ r.aM hj,eY D9,cM,aj wS,lnm,M0];refine af (XN wS n1 qv Kc Ve Qo ?_);simp only [aO,aj wS,lnm,M0,AV.beq_refl,Bool.and_self,Bool.and_true,if_true,nh uQ,vm pE uQ,aE hj XA.2.1];exact uR _ _ ⟨_,hd,by simpa using hdl,mu,fun c hc Ns=>by rw [Heap.aG,if_neg (by omega)];exact XS c hc Ns,by rw [Heap.aT];exact RP,e5,ea,ec,e7,e9,A4,BX,Qq,l9,e49,e50,rfl⟩
  ·rintro e h3 ⟨d,hd,hdl,XR,XS,RP,e5,ea,ec,e7,e9,A4,BX,Qq,l9,e49,e50,e51⟩ K2 fK;rw [drop_of_length_le (dK _)] at hd;simp only [kN] at hd;rw [F.cp.cU];simp only [e50,e51,aO,aR];rw [fK,F.cp.cm];simp only [aO,reduceEqDiff,reduceIte,Qq,aE hi hbig];refine vE _ _ ⟨nG D r.name H.next d,XR,fun q hq=>?_,fun nm rF=>?_,fun c hc Ns=>by rw [XS c (by omega) Ns,xH.get c (by omega)];exact hfr c hc Ns,by omega,e5,ea,ec,e7,e9,A4,BX,rfl⟩
   ·rw [take_add_one,hv] at hq;rcases mem_append.1 hq with rV|rV
    ·by_cases e:q.name=r.name
     ·obtain ⟨a,ha⟩:=mem_iff_getElem?.1 rV
      have YM:s.aA.l[a]?=some q:=by
       rw [getElem?_take] at ha;split at ha
       ·exact ha
       ·cases ha
      have hai:a<i:=by
       rw [getElem?_take] at ha;split at ha
       ·assumption
       ·cases ha
      have:=oX (qR sQ) (i:=a) (j:=i) (s:=q.name) (by rw [getElem?_map,YM];rfl) (by rw [getElem?_map,hv,e];rfl);omega
     ·obtain ⟨b,b1,b2⟩:=mZ q rV;exact ⟨b,b1,by rw [zX e];exact b2⟩
    ·simp only [toList_some,mem_singleton] at rV;subst rV;exact ⟨H.next,by omega,by rw [nM,hkn,hd]⟩
   ·have h1:nm≠r.name:=fun e=>rF r (by rw [take_add_one,hv];simp) e.symm;rw [zX h1];exact Ef nm fun q hq=>rF q (by rw [take_add_one,hv];exact mem_append_left _ hq)
 ·rintro e h' ⟨D,hDa,mZ,Ef,hfr,mS,e5,ea,ec,e7,e9,A4,BX,Qq⟩ K' hx;rw [jD (dK _)] at mZ Ef;rw [F.cp.aP];simp only [BX,Qq,aO,aR];rw [hx];exact done h' D _ hDa mZ Ef hfr mS ea ec e7 e9
def Db(x:Int):Int:=IntKind.i64.wrap x
theorem X8{x:Int}(h1:-9223372036854775808<=x)(h2:x<=9223372036854775807):Db x=x:=IntWalk.i64_in _ ⟨h1,h2⟩
theorem X9(x:Int):Db (Db x+1)=Db (x+1):=by
 have e:∀ y:Int,Db y=if (y%18446744073709551616)>=9223372036854775808 then y%18446744073709551616-18446744073709551616 else y%18446744073709551616:=fun y=>by
  have p1:(2:Int) ^ IntKind.i64.bits=18446744073709551616:=rfl;have p2:(2:Int) ^ (IntKind.i64.bits-1)=9223372036854775808:=rfl;unfold Db IntKind.wrap;simp only [p1,p2,show IntKind.i64.signed=true from rfl,Bool.true_and];by_cases h:y%18446744073709551616>=9223372036854775808
  ·rw [if_pos h,if_pos (by rw [fh h])]
  ·rw [if_neg h,if_neg (by rw [eR h];exact Bool.false_ne_true)]
 rw [e (Db x+1),e (x+1),e x];omega
def vB(r:aI)(t vs:List Int):Bool:=decide (bL vs (placesOf (varsOf r) r.args.l)=t)
def zj(r:aI)(t vs:List Int)(c:Int):Int:=if vB r t vs=true then Db (c+1) else c
structure Ya (S B n lo PL T NN:Nat) (D:DB) (r:aI) (i0:Int) (k:Nat) (hd:Sl Int) (cs:Sl (Sl Int)) (ls:Sl Int) (t:Sl Int) (h0:Heap):Prop where
 n1:1<=n
 sK:n<=64
 hS:h0.get S=sC [I6 (n:Int),.map B]
 hD:ei D h0 B lo
 hL:h0.get PL=sC (bZ i0 r k (dH hd) (kM cs) (dH ls))
 hT:h0.get T=sC [dH t]
 low:S<h0.next/\B<h0.next/\PL<h0.next/\T<h0.next/\NN<h0.next
 ne:S≠NN/\B≠NN/\PL≠NN/\T≠NN
 rows:∀ nm p,D nm=some p->p.1≠NN
 ask:CQ n D r
 k8:r.args.l.length<=1500
 tl:t.l.length<=cw
 hkk:k=(varsOf r).length
 hhd:hd.l=k9 (varsOf r) r.args.l
structure I7 (NN:Nat) (h0:Heap) (c:Int) (h:Heap):Prop where
 hN:h.get NN=sC [I6 c]
 lt:h0.next<=h.next
 jm:∀ b,b<h0.next->b≠NN->h.get b=h0.get b
theorem ei.jm(b:ei D h0 B lo)(hB:B≠NN)(hr:∀ nm p,D nm=some p->p.1≠NN)(ho:∀ c,c<h0.next->c≠NN->h.get c=h0.get c)(hn:h0.next<=h.next):ei D h B lo:=by
 obtain ⟨es,ck,m,e1,e2,e3⟩:=b.ex;have hlt:=b.lt;refine ⟨⟨es,ck,m,by rw [ho _ (by omega) hB];exact e1,e2,e3⟩,fun nm p hp=>?_,b.inj,by omega⟩;obtain ⟨q1,q2,q3,q4⟩:=b.nO nm p hp;exact ⟨q1,by omega,q3,by rw [ho _ q2 (hr nm p hp)];exact q4⟩
theorem Yb{PL T:Nat}{i0:Int}{hd:Sl Int}{cs:Sl (Sl Int)}{ls:Sl Int}{t:Sl Int}(o:Ya S B n lo PL T NN D r i0 k hd cs ls t h0){c:Int}{V:Nat}{vs:List Int}
  (a:I7 NN h0 c h) (hVb:h0.next<=V) (hVn:V<h.next) (hV:h.get V=sC (vs.map iv)) (BU:vs.length=k)
  (hK:∀ h',I7 NN h0 (zj r t.l vs c) h'->(∀ b,h0.next<=b->b<h.next->h'.get b=h.get b)->h.next<=h'.next->K (.ret bT) h'=true) :
  Sem TP 119 ([]++([.slice V 0 vs.length 1]++[.ptr PL 0,.ptr T 0,.ptr NN 0])) h K:=by
 obtain ⟨l1,l2,l3,l4,l5⟩:=o.low;obtain ⟨n1,n2,n3,n4⟩:=o.ne;have hL:h.get PL=sC (bZ i0 r k (dH hd) (kM cs) (dH ls)):=by rw [a.jm _ l3 n3];exact o.hL
 have hT:h.get T=sC [dH t]:=by rw [a.jm _ l4 n4];exact o.hT
 simp only [bZ] at hL;have lT:=lA hT 0 rfl;simp only [nil_append,cons_append];refine F.CI ?_;rw [F.DT];simp only [aO,aj hL,lT];have sF:∀ p ∈ placesOf (varsOf r) r.args.l,p<vs.length:=by rw [BU,o.hkk];exact nI nH
 have nr:(placesOf (varsOf r) r.args.l).length=r.args.l.length:=by unfold placesOf;simp
 have iX:=o.k8;refine af (MN (ps:=placesOf (varsOf r) r.args.l) hV hVn rfl o.hhd sF (by rw [nr];omega) fun h3 t1 x3 t2=>?_);have ur:=mc vs (placesOf (varsOf r) r.args.l);have hlt:=a.lt;have n3x:=x3.next
 have lT3:au none (.ptr T 0) h3=some (dH t):=by rw [aj (cs:=[dH t]) (x3.at hT (by omega))];rfl
 have a3:I7 NN h0 c h3:=⟨by rw [x3.get _ (by omega)];exact a.hN,by omega,fun b h1 h2=>by rw [x3.get _ (by omega)];exact a.jm b h1 h2⟩
 simp only [aO,lT3,AV.beq_refl,Bool.and_self,if_true];rw [<- ur];refine af (Sem.OK (r:=.bool (vB r t.l vs)) rfl (Nb (x:=some (bL vs (placesOf (varsOf r) r.args.l))) (y:=t) (by simp only [Sl.Dt];rw [ur,nr];unfold cw;omega) (eB rfl)) (.cons (pT t1) (.cons (.de (br iE t)) .nil)) ?_)
 cases hb:vB r t.l vs with
 |false=>
  have:zj r t.l vs c=c:=by unfold zj;rw [hb];rfl
  rw [this] at hK;simp only [aO];exact hK h3 a3 (fun b _ b2=>x3.get b b2) n3x
 |true=>
  have:zj r t.l vs c=Db (c+1):=by unfold zj;rw [hb];rfl
  rw [this] at hK;have lN:au none (.ptr NN 0) h3=some (I6 c):=by rw [aj a3.hN];rfl
  have st:aS 1 (.ptr NN 0) (I6 (Db (c+1))) h3=some (h3.set NN (.cells [I6 (Db (c+1))])):=by
   rw [cj (n:=1) a3.hN rfl rfl (by simp)];rfl
  simp only [aO,lN,Te,show IntKind.i64.wrap (c+1)=Db (c+1) from rfl,st];exact hK _ ⟨by rw [Heap.aG,if_pos rfl],by rw [Heap.aT];omega,fun b h1 h2=>by rw [Heap.aG,if_neg h2];exact a3.jm b h1 h2⟩ (fun b b1 b2=>by rw [Heap.aG,if_neg (by omega),x3.get b b2]) (by rw [Heap.aT];exact n3x)
theorem Sx{PL T:Nat}{i0:Int}{hd:Sl Int}{cs:Sl (Sl Int)}{ls:Sl Int}{t:Sl Int}(o:Ya S B n lo PL T NN D r i0 k hd cs ls t h0)(V0:Nat)(hV0:h0.next<=V0) :
  Xo Int (I7 NN h0) (fun _=>D) (zj r t.l) S B n lo h0.next k r 119 [] [.ptr PL 0,.ptr T 0,.ptr NN 0] V0:=
 ⟨o.n1,o.sK,o.low.1,fun s h a=>⟨by rw [a.jm _ o.low.1 o.ne.1];exact o.hS,o.hD.jm o.ne.2.1 o.rows a.jm a.lt,o.ask⟩,
  fun s h h' a QO hb hn=>⟨by rw [hb _ (by have:=o.low.2.2.2.2;omega) (by have:=o.low.2.2.2.2;omega)];exact a.hN,by omega,fun b h1 h2=>by rw [hb b (by omega) (by omega)];exact a.jm b h1 h2⟩,
  fun s h vs K a h1 h2 h3 h4 h5 hK=>Yb o a h1 h2 h3 h4 hK⟩
def abo(n:Nat)(D:DB)(r:aI)(t:List Int)(c:Int):Int:=wU (fun _=>D) (zj r t) n r (varsOf r).length c
def Gf(n:Nat)(D:DB)(nm:cc)(t:List Int)(rs:List aI)(c:Int):Int:=rs.foldl (fun c r=>if r.name=nm then abo n D r t c else c) c
def qw(n:Nat)(L:Lk)(r:aI)(t:List Int):Nat->Nat->List Int->Nat
 |0,_,vs=>if (lK n L r vs&&vB r t vs)=true then 1 else 0
 |m+1,v,vs=>((List.range n).map fun (x:Nat)=>qw n L r t m (v+1) (vs.set v (x:Int))).sum
theorem Yc(l:List Nat)(x:Nat):(l++[x]).sum=l.sum+x:=by
 induction l with
 |nil=>simp
 |cons a l ih=>rw [cons_append,sum_cons,sum_cons,ih];omega
theorem PJ{α:Type}{f:α->Nat}:∀ {l:List α},(∀ a ∈ l,f a=0)->(l.map f).sum=0
 |[],_=>rfl
 |a :: l,h=>by rw [map_cons,sum_cons,h a mem_cons_self,PJ fun b hb=>h b (mem_cons_of_mem _ hb)]
theorem Dc{α:Type}{f:α->Nat}{B:Nat}:∀ {l:List α},(∀ a ∈ l,f a<=B)->(l.map f).sum<=l.length*B
 |[],_=>by simp
 |a :: l,h=>by
  have h1:=h a mem_cons_self;have h2:=Dc (l:=l) fun b hb=>h b (mem_cons_of_mem _ hb);rw [map_cons,sum_cons,length_cons,Nat.add_mul];omega
theorem PK{a b:List Int}(hl:a.length=b.length)(h:∀ i,i<a.length->a.getD i 0=b.getD i 0):a=b:=by
 refine ext_getElem hl fun i h1 h2=>?_;have:=h i h1
 rwa [getD_eq_getElem?_getD,getD_eq_getElem?_getD,jQ h1,jQ h2] at this
theorem I8{n:Nat}{L:Lk}{r:aI}{t:List Int}:∀ (m v:Nat) (a b:List Int),a.length=v+m->b.length=v+m->(∀ i,i<v->a.getD i 0=b.getD i 0)->qw n L r t m v a=qw n L r t m v b
 |0,v,a,b,ha,hb,h=>by rw [PK (a:=a) (b:=b) (by omega) fun i hi=>h i (by omega)]
 |m+1,v,a,b,ha,hb,h=>by
  unfold qw;congr 1;refine map_congr_left fun x _=>?_;refine I8 m (v+1) _ _ (by rw [length_set];omega) (by rw [length_set];omega) fun i hi=>?_;by_cases e:i=v
  ·subst e;rw [nt (by omega),nt (by omega)]
  ·rw [getD_set_ne e,getD_set_ne e];exact h i (by omega)
theorem Er{n:Nat}{L:Lk}{r:aI}{t:List Int}{c:fT}(hc:c ∈ r.body.l):∀ (m v:Nat) (vs:List Int),jJ (bH r c)<(v:Int)->fQ n L c (bL vs (bH r c))=false->qw n L r t m v vs=0
 |0,v,vs,h1,h2=>by
  unfold qw
  have:lK n L r vs=false:=by
   obtain ⟨i,hi⟩:=getElem?_of_mem hc;unfold lK;exact all_false hi h2
  rw [this];rfl
 |m+1,v,vs,h1,h2=>by
  unfold qw;refine PJ fun x _=>?_;refine Er hc m (v+1) _ (by omega) ?_;rw [sx (b:=vs) fun p hp=>getD_set_ne (by have:=zb hp;omega) _];exact h2
theorem TR{n:Nat}{L:Lk}{r:aI}{t:List Int}:∀ (m v:Nat) (vs:List Int),qw n L r t m v vs<=n ^ m
 |0,v,vs=>by unfold qw;split<;>simp
 |m+1,v,vs=>by
  unfold qw;have:=Dc (l:=List.range n) (f:=fun (x:Nat)=>qw n L r t m (v+1) (vs.set v (x:Int))) (B:=n ^ m) fun x _=>TR m (v+1) _;rw [length_range] at this;rw [Nat.pow_succ,Nat.mul_comm];exact this
theorem LA{n:Nat}{D:DB}{r:aI}{t:List Int}:∀ (m v:Nat) (vs:List Int) (x:Int),v+m=(varsOf r).length->AD n r vs->(∀ c ∈ r.body.l,jJ (bH r c)<(v:Int)->fQ n (ee D) c (bL vs (bH r c))=true) ->
  (iV (fun _=>D) (zj r t) n r m v vs (Db x)).2=Db (x+(qw n (ee D) r t m v vs:Nat))/\AD n r (iV (fun _=>D) (zj r t) n r m v vs (Db x)).1/\∀ i,i<v->(iV (fun _=>D) (zj r t) n r m v vs (Db x)).1.getD i 0=vs.getD i 0
 |0,v,vs,x,hv,ha,hc=>by
  refine ⟨?_,ha,fun _ _=>rfl⟩
  have qb:lK n (ee D) r vs=true:=by
   unfold lK;rw [List.all_eq_true];intro c xN;refine hc c xN ?_;have:=TB xN;omega
  show zj r t vs (Db x)=_;unfold zj qw;rw [qb,Bool.true_and]
  cases vB r t vs with
  |true=>simp only [if_true];exact X9 x
  |false=>simp
 |m+1,v,vs,x,hv,ha,hc=>by
  have key:∀ j,j<=n->((List.range j).foldl (lH (fun _=>D) n r v (iV (fun _=>D) (zj r t) n r m (v+1))) (vs,Db x)).2=Db (x+(((List.range j).map fun (y:Nat)=>qw n (ee D) r t m (v+1) (vs.set v (y:Int))).sum:Nat)) /\
    AD n r ((List.range j).foldl (lH (fun _=>D) n r v (iV (fun _=>D) (zj r t) n r m (v+1))) (vs,Db x)).1/\∀ i,i<v->((List.range j).foldl (lH (fun _=>D) n r v (iV (fun _=>D) (zj r t) n r m (v+1))) (vs,Db x)).1.getD i 0=vs.getD i 0:=by
   intro j
   induction j with
   |zero=>exact fun _=>⟨by simp,ha,fun _ _=>rfl⟩
   |succ j ih=>
    intro hj;obtain ⟨p1,p2,p3⟩:=ih (by omega);rw [range_succ,foldl_append,foldl_cons,foldl_nil,map_append,map_cons,map_nil,Yc];generalize (List.range j).foldl (lH (fun _=>D) n r v (iV (fun _=>D) (zj r t) n r m (v+1))) (vs,Db x)=acc at p1 p2 p3 ⊢;generalize ((List.range j).map fun (y:Nat)=>qw n (ee D) r t m (v+1) (vs.set v (y:Int))).sum=S at p1 ⊢;have Tx:AD n r (acc.1.set v (j:Int)):=⟨by rw [length_set];exact p2.1,nJ p2.2 v (by omega)⟩
    have ye:∀ i,i<v->(acc.1.set v (j:Int)).getD i 0=vs.getD i 0:=fun i hi=>by rw [getD_set_ne (by omega)];exact p3 i hi
    have ED:qw n (ee D) r t m (v+1) (acc.1.set v (j:Int))=qw n (ee D) r t m (v+1) (vs.set v (j:Int)):=by
     have q1:=p2.1;have q2:=ha.1;refine I8 m (v+1) _ _ (by rw [length_set];omega) (by rw [length_set];omega) fun i hi=>?_;by_cases e:i=v
     ·subst e;rw [nt (by omega),nt (by omega)]
     ·rw [ye i (by omega),getD_set_ne e]
    unfold lH;split
    ·rename_i qQ;rw [oY] at qQ;rw [p1]
     obtain ⟨q1,q2,q3⟩:=LA m (v+1) (acc.1.set v (j:Int)) (x+(S:Nat)) (by omega) Tx fun c xN hlt=>by
      by_cases e:jJ (bH r c)=(v:Int)
      ·exact qQ c xN e
      ·rw [sx (b:=vs) fun p hp=>ye p (by have:=zb hp;omega)];exact hc c xN (by omega)
     refine ⟨by rw [q1,ED];congr 1;omega,q2,fun i hi=>by rw [q3 i (by omega)];exact ye i hi⟩
    ·rename_i qQ;rw [oY] at qQ
     have h0:qw n (ee D) r t m (v+1) (vs.set v (j:Int))=0:=by
      rw [<- ED];refine Classical.byContradiction fun uI=>qQ fun c xN e=>?_
      cases hcv:fQ n (ee D) c (bL (acc.1.set v (j:Int)) (bH r c)) with
      |true=>rfl
      |false=>exact absurd (Er xN m (v+1) _ (by omega) hcv) uI
     refine ⟨by rw [p1,h0];simp,Tx,ye⟩
  have:=key n (dK _);show ((List.range n).foldl (lH (fun _=>D) n r v (iV (fun _=>D) (zj r t) n r m (v+1))) (vs,Db x)).2=_/\_;unfold qw;exact this
def Gg(n:Nat)(L:Lk)(r:aI)(t:List Int):Nat:=qw n L r t (varsOf r).length 0 (replicate (varsOf r).length 0)
theorem abp(n1:1<=n){t:List Int}(x:Int):abo n D r t (Db x)=Db (x+(Gg n (ee D) r t:Nat)):=by
 have ha:AD n r (replicate (varsOf r).length 0):=⟨by simp,wo n1 _⟩
 unfold abo wU Gg;split
 ·rename_i qQ;rw [oY] at qQ;exact (LA (varsOf r).length 0 _ x (by omega) ha fun c xN hlt=>qQ c xN (by have:=Ld (bH r c);omega)).1
 ·rename_i qQ;rw [oY] at qQ
  have h0:qw n (ee D) r t (varsOf r).length 0 (replicate (varsOf r).length 0)=0:=by
   refine Classical.byContradiction fun uI=>qQ fun c xN e=>?_
   cases hcv:fQ n (ee D) c (bL (replicate (varsOf r).length 0) (bH r c)) with
   |true=>rfl
   |false=>exact absurd (Er xN _ 0 _ (by omega) hcv) uI
  rw [h0];simp
def iY(n:Nat)(L:Lk)(nm:cc)(t:List Int):List aI->Nat
 |[]=>0
 |r :: rs=>(if r.name=nm then Gg n L r t else 0)+iY n L nm t rs
theorem Nc{n:Nat}(n1:1<=n){D:DB}{nm:cc}{t:List Int}:∀ (rs:List aI) (x:Int),Gf n D nm t rs (Db x)=Db (x+(iY n (ee D) nm t rs:Nat))
 |[],x=>by simp [Gf,iY]
 |r :: rs,x=>by
  unfold Gf iY;rw [foldl_cons];by_cases h:r.name=nm
  ·rw [if_pos h,if_pos h,abp n1];have:=Nc (n:=n) n1 (D:=D) (nm:=nm) (t:=t) rs (x+(Gg n (ee D) r t:Nat));unfold Gf at this;rw [this];congr 1;omega
  ·rw [if_neg h,if_neg h];have:=Nc (n:=n) n1 (D:=D) (nm:=nm) (t:=t) rs x;unfold Gf at this;rw [this];congr 1;omega
theorem Es{n:Nat}{L:Lk}{nm:cc}{t:List Int}{B:Nat}:∀ {rs:List aI},(∀ r ∈ rs,n ^ (varsOf r).length<=B)->iY n L nm t rs<=rs.length*B
 |[],_=>by simp [iY]
 |r :: rs,h=>by
  have h1:=h r mem_cons_self;have h2:=Es (n:=n) (L:=L) (nm:=nm) (t:=t) (rs:=rs) fun b hb=>h b (mem_cons_of_mem _ hb);have h3:Gg n L r t<=n ^ (varsOf r).length:=TR _ _ _;unfold iY;rw [length_cons,Nat.add_mul];split<;>omega
theorem Vu{nm:cc}{t:List Int}{rs:List aI}(hr:rs[i]?=some r)(c:Int):Gf n D nm t (rs.take (i+1)) c=if r.name=nm then abo n D r t (Gf n D nm t (rs.take i) c) else Gf n D nm t (rs.take i) c:=by
 unfold Gf;rw [take_add_one,hr,foldl_append];rfl
theorem Vv{Z:ct}(sQ:cY Z=true)(mZ:∀ q ∈ Z.aA.l,∃ b,D q.name=some (b,bitsOf n q.arity.toNat q.aM.l))(Ef:∀ nm,(∀ q ∈ Z.aA.l,q.name≠nm)->D nm=none):ee D=ff n Z:=by
 funext nm k;unfold ff
 cases hf:Z.aA.l.find? (dN nm) with
 |some r=>
  have hr:=mem_of_find?_eq_some hf;have hn:=find?_some hf;simp only [dN,beq_iff_eq] at hn;obtain ⟨b,hb⟩:=mZ r hr;rw [hn] at hb;unfold ee;rw [hb]
 |none=>
  rw [find?_eq_none] at hf;unfold ee;rw [Ef nm fun q hq e=>hf q hq (by simp [dN,e])]
theorem cp{rules:Sl aI}{Z:ct}{nm:cc}{t:Sl Int}{n:Nat}(iX:∀ r ∈ rules.l,r.k8)(J9:∀ r ∈ rules.l,(varsOf r).length<=12)(ajW:∀ r ∈ rules.l,r.args.l.length<=1500)(oP:Z.ok)(sQ:cY Z=true)(hn:Z.size=(n:Int))(hlen:rules.l.length<=60)(h64:∀ r ∈ rules.l,n ^ (varsOf r).length<=65536)(qv:t.l.length<=cw)
  (ask:∀ D:DB,(∀ q ∈ Z.aA.l,∃ b,D q.name=some (b,bitsOf n q.arity.toNat q.aM.l))->∀ r ∈ rules.l,CQ n D r)
  {h:Heap} {K:Out->Heap->Bool} (hK:K (.ret (I6 ((iY n (ff n Z) nm t.l rules.l:Nat):Int))) h=true):Sem TP 78 [gm rules,.agg (ah Z),.str nm,dH t] h K:=by
 refine Sem.data (r:=I6 ((iY n (ff n Z) nm t.l rules.l:Nat):Int)) ?_ (by simp [AV.cP,AV.pure,br fN,dI,br iE]) hK;clear hK;obtain ⟨n',vE,n1,sK,_⟩:=iL sQ;obtain rfl:n'=n:=by omega
 have hbig:rules.l.length<=cw:=by unfold cw;omega
 refine F.F6 ?_;rw [F.Il];simp only [cD (bU Z),pM (fS t),dr,Heap.aD,aZ,Du,Nat.zero_add,reduceAdd];have g0:((Heap.empty.alloc (.cells (ah Z))).alloc (.cells [dH t])).get 0=sC (ah Z):=by rw [Heap.aN,Heap.aD,aZ,if_neg (by omega)];exact ak _ _
 have g1:((Heap.empty.alloc (.cells (ah Z))).alloc (.cells [dH t])).get 1=sC [dH t]:=ak (Heap.empty.alloc (.cells (ah Z))) _;have n2:((Heap.empty.alloc (.cells (ah Z))).alloc (.cells [dH t])).next=2:=rfl
 generalize ((Heap.empty.alloc (.cells (ah Z))).alloc (.cells [dH t]))=A at g0 g1 n2 ⊢;have lz:au none (.ptr 0 0) A=some (I6 (n':Int)):=by rw [aj g0,<- hn];rfl
 simp only [lz,dr,show iP [I6 0,.mH] [(0,1),(1,1)] [I6 (n':Int),.map 2]=some (.agg [I6 (n':Int),.map 2]) from rfl,cD (show aW [I6 (n':Int),.map 2]=true from rfl)];have m0:((A.alloc (.map [] 0)).alloc (.cells [I6 (n':Int),.map 2])).get 0=sC (ah Z):=by rw [Heap.aN,Heap.aD,if_neg (by omega),Heap.aN,if_neg (by omega)];exact g0
 have m1:((A.alloc (.map [] 0)).alloc (.cells [I6 (n':Int),.map 2])).get 1=sC [dH t]:=by rw [Heap.aN,Heap.aD,if_neg (by omega),Heap.aN,if_neg (by omega)];exact g1
 have m2:((A.alloc (.map [] 0)).alloc (.cells [I6 (n':Int),.map 2])).get 2=some (.map [] 0):=by rw [Heap.aN,Heap.aD,if_neg (by omega),<- n2];exact ak _ _
 have m3:((A.alloc (.map [] 0)).alloc (.cells [I6 (n':Int),.map 2])).get 3=sC [I6 (n':Int),.map 2]:=by
  have h3:3=(A.alloc (.map [] 0)).next:=by rw [Heap.aD,n2]
  rw [h3];exact ak _ _
 have mn:((A.alloc (.map [] 0)).alloc (.cells [I6 (n':Int),.map 2])).next=4:=by rw [Heap.aD,Heap.aD,n2]
 generalize ((A.alloc (.map [] 0)).alloc (.cells [I6 (n':Int),.map 2]))=M at m0 m1 m2 m3 mn ⊢;have lr:=lA m0 1 rfl;simp only [aO,lr];have hD0:ei (fun _=>none) M 2 4:=⟨⟨[],0,[],m2,trivial,fun nm=>rfl⟩,fun nm p hp=>(by cases hp),fun nm nm' p p' hp=>(by cases hp),by omega⟩
 refine Sw (n:=n') (B:=2) (S:=3) (SB:=0) (P:=1) (lo:=4) (D1:=fun _=>none) (a0:=gm rules) (a2:=.str nm) oP sQ hn n1 sK m3 m0 hD0 (by omega) (by omega) (by omega) (by omega) (by omega) rfl rfl rfl rfl rfl rfl rfl rfl ?_;intro h' D E hD mZ Ef hfr mS E0 E2 E7 E9;have ac0:∀ q ∈ Z.aA.l,∃ b,D q.name=some (b,bitsOf n' q.arity.toNat q.aM.l):=fun q hq=>by obtain ⟨b,_,hb⟩:=mZ q hq;exact ⟨b,hb⟩
 have Yd:=Vv sQ ac0 Ef;rw [F.cp.aC];obtain ⟨Hs,s1,s2,s3,s4⟩:=oM (h:=h') (z:=I6 0) (v:=I6 0) rfl rfl;have xs:aV h' Hs:=⟨by omega,fun c hc=>s3 c (by omega)⟩
 simp only [s1,E0,aO];have t1:Hs.get 1=sC [dH t]:=by rw [xs.get _ (by omega),hfr 1 (by omega) (by omega)];exact m1
 have t3:Hs.get 3=sC [I6 (n':Int),.map 2]:=by rw [xs.get _ (by omega),hfr 3 (by omega) (by omega)];exact m3
 have hDs:=hD.ext xs;have ac1:∀ nm p,D nm=some p->p.1≠h'.next:=fun nm p hp=>by have:=(hD.nO nm p hp).2.1;omega
 refine aB 0 rules.l.length (zero_le _) (fun i e h=>h.get h'.next=sC [I6 (Gf n' D nm t.l (rules.l.take i) 0)]/\(∀ b,b<Hs.next->b≠h'.next->h.get b=Hs.get b)/\Hs.next<=h.next/\e 2 = .str nm/\e 7 = .ptr 1 0/\e 9 = .ptr 3 0/\e 16 = .ptr h'.next 0/\e 68=gm rules/\e 69=I6 (rules.l.length:Int)/\e 70=I6 (i:Int))
  ⟨s2,fun _ _ _=>rfl,dK _,E2,E7,E9,rfl,rfl,rfl,rfl⟩ ?_ ?_
 ·rintro i e h _ hi ⟨hc,hfb,hnb,e2,e7,e9,UL,e68,e69,e70⟩ K' vE hx hr hp;obtain ⟨r,hv⟩:=dM hi;have kW:=ij hv;obtain ⟨H1,BB,p1,po1,pn1⟩:=cA (h:=h) (zs:=[.str [],.ai,.ai]) (cs:=bY r) (n:=3) rfl rfl (kr r);have x1:aV h H1:=⟨by omega,fun b hb=>po1 b (by omega)⟩
  have ln:=lA p1 0 rfl;have lru:au (some 3) (.ptr h.next 0) H1=some (.agg (bY r)):=by rw [aj p1,jZ (cs:=bY r) (n:=3) rfl]
  have gw:=Vu (n:=n') (D:=D) (nm:=nm) (t:=t.l) hv 0;rw [F.cp.lD];simp only [e2,e9,e7,UL,e68,e69,e70,aO,aU hi,aQ rules hi,dB fo hv,BB,ln]
  cases rF:(r.name==nm) with
  |false=>
   have hne:r.name≠nm:=fun e=>by rw [e] at rF;simp at rF
   rw [if_neg hne] at gw;simp only [Bool.not_false,aL,aE hi hbig,dr];refine vE _ _ ⟨by rw [gw,x1.get _ (by omega)];exact hc,fun b b1 b2=>by rw [x1.get _ (by omega)];exact hfb b b1 b2,by omega,e2,e7,e9,UL,e68,e69,rfl⟩
  |true=>
   have uO:r.name=nm:=by simpa using rF
   rw [if_pos uO] at gw;simp only [Bool.not_true,aK,lru,dr];refine af (cS (i0:=(i:Int)) (r:=r) (iX r kW) fun hd cs ls q1 q2 q3=>?_);obtain ⟨H2,se,p2,po2,pn2⟩:=cA (h:=H1) (zs:=[I6 0,.str [],.ai,.ai,I6 0,.ai,.ai,.ai]) (cs:=bZ (i:Int) r (varsOf r).length (dH hd) (kM cs) (dH ls)) (n:=8) rfl rfl (zS _ _ _ _ _ _);have x2:aV H1 H2:=⟨by omega,fun b hb=>po2 b (by omega)⟩
   have lp:au (some 8) (.ptr H1.next 0) H2=some (.agg (bZ (i:Int) r (varsOf r).length (dH hd) (kM cs) (dH ls))):=by rw [aj p2,jZ (n:=8) rfl]
   have xh:=x1.trans x2;have fH:∀ b,b<Hs.next->b≠h'.next->H2.get b=Hs.get b:=fun b b1 b2=>by rw [xh.get _ (by omega)];exact hfb b b1 b2
   have o:Ya 3 2 n' 4 H1.next 1 h'.next D r (i:Int) (varsOf r).length hd cs ls t H2:=
    ⟨n1,sK,by rw [fH 3 (by omega) (by omega)];exact t3,hDs.jm (by omega) ac1 fH (by omega),p2,by rw [fH 1 (by omega) (by omega)];exact t1,⟨by omega,by omega,by omega,by omega,by omega⟩,⟨by omega,by omega,by omega,by omega⟩,ac1,ask D ac0 r kW,ajW r kW,qv,rfl,q1⟩
   have ab:I7 h'.next H2 (Gf n' D nm t.l (rules.l.take i) 0) H2:=⟨xh.at hc (by omega),dK _,fun _ _ _=>rfl⟩
   simp only [aO,se,lp];refine af (Iz (fun V hV=>Sx o V hV) (iX r kW) rfl (J9 r kW) q2 q3 ab (dK _) fun h3 a3 f3 n3=>?_);simp only [aO,aE hi hbig];refine vE _ _ ⟨by rw [gw];exact a3.hN,fun b b1 b2=>by rw [a3.jm b (by omega) b2];exact fH b b1 b2,by omega,e2,e7,e9,UL,e68,e69,rfl⟩
 ·rintro e h ⟨hc,hfb,hnb,e2,e7,e9,UL,e68,e69,e70⟩ K' hx;rw [F.cp.lD];simp only [e69,e70,aO,aR];rw [hx,F.cp.jo];rw [jD (dK _)] at hc;have lc:=lA hc 0 rfl;simp only [kC,reduceEqDiff,reduceIte,UL,lc,dr];have hle:=Es (n:=n') (L:=ff n' Z) (nm:=nm) (t:=t.l) h64;have h0:Db 0=0:=X8 (by omega) (by omega)
  have QA:Gf n' D nm t.l rules.l 0=((iY n' (ff n' Z) nm t.l rules.l:Nat):Int):=by
   have:=Nc n1 (D:=D) (nm:=nm) (t:=t.l) rules.l 0;rw [h0,Yd] at this;rw [this,X8 (by omega) (by omega)];omega
  rw [QA];exact eB rfl
theorem GB(ts:List (Sl Int)):ts.flatMap jl=ts.map fun t=>dH t:=by
 induction ts with
 |nil=>rfl
 |cons t ts ih=>rw [flatMap_cons,ih];rfl
theorem PM(ts:List (Sl Int)):aW (ts.flatMap jl)=true:=by
 induction ts with
 |nil=>rfl
 |cons t ts ih=>rw [flatMap_cons];cases t<;>exact ih
theorem Sy{ts:List (Sl Int)}(o:Own jl 1 k h v ts)(hn:ts = []->v = .ai)(hlen:ts.length<=1000000){vb:Nat}{y:Sl Int}(hvb:h.get vb=sC (jl y))(hne:bR v≠some vb)(YE:k<=h.next)(hi:i<=ts.length)
  (hK:∀ v' h',Own jl 1 k h' v' (ts.take i++y :: ts.drop i)->(∀ b,b<h.next->bR v≠some b->h'.get b=h.get b)->h.next<=h'.next->bR v'=some h.next->K (.ret v') h'=true):Sem TP 56 [v,I6 (i:Int),.slice vb 0 1 1] h K:=by
 have jM:(dH y).one=true:=by cases y<;>rfl
 refine kJ.sem va (f:=56) rfl ?_;have hci:((i:Nat):Int)=Int.ofNat i:=rfl;rw [hci]
 cases o with
 |nil=>
  obtain rfl:i=0:=by simpa using hi
  have e:vU [.ai,I6 (Int.ofNat 0),.slice vb 0 1 1] h K=((dH y).one&&(Nat.beq 0 0&&K (.ret (.slice h.next 0 1 1)) (h.alloc (.cells [dH y])))):=by
   simp only [vU,hvb,jl]
  rw [e,jM];refine hK _ (h.alloc (.cells [dH y])) ?_ (fun b hb _=>by rw [Heap.aN,if_neg (by omega)]) (by rw [Heap.aD];omega) rfl;exact .row h.next [y] YE (by rw [Heap.aD];omega) (ak _ _)
 |row b ts h1 h2 h3=>
  have hl:(ts.flatMap jl).length=ts.length:=by rw [eS pV];omega
  have AE:1<=ts.length:=by
   rcases eq_zero_or_pos ts.length with h0|h0
   ·have:=hn (length_eq_zero_iff.1 h0);cases this
   ·exact h0
  have hbv:b≠vb:=fun e=>hne (by rw [e];rfl)
  have e:vU [.slice b 0 ts.length 1,I6 (Int.ofNat i),.slice vb 0 1 1] h K=((dH y).one&&(!(Nat.beq b vb)&&(Nat.beq (ts.flatMap jl).length ts.length&&(ble 1 ts.length&&(ble i ts.length&&(ble ((ts.length+1)*24) 140737488355328&&(aW (ts.flatMap jl) &&
    K (.ret (.slice h.next 0 (ts.length+1) 1)) ((h.set b .dead).alloc (.cells ((ts.flatMap jl).take i++dH y :: (ts.flatMap jl).drop i)))))))))):=by
   simp only [vU,hvb,jl,h3]
  have c1:Nat.beq b vb=false:=by cases hh:Nat.beq b vb with|false=>rfl|true=>exact absurd (eq_of_beq_eq_true hh) hbv
  have c2:Nat.beq (ts.flatMap jl).length ts.length=true:=by rw [hl];exact Nat.beq_refl _
  have c3:ble 1 ts.length=true:=ble_eq_true_of_le AE;have c4:ble i ts.length=true:=ble_eq_true_of_le hi;have c5:ble ((ts.length+1)*24) 140737488355328=true:=ble_eq_true_of_le (by omega);rw [e,jM,c1,c2,c3,c4,c5,PM]
  have hcs:(ts.flatMap jl).take i++dH y :: (ts.flatMap jl).drop i=(ts.take i++y :: ts.drop i).flatMap jl:=by
   rw [GB,GB,map_append,map_cons,map_take,map_drop]
  have hln:ts.length+1=(ts.take i++y :: ts.drop i).length:=by simp;omega
  rw [hcs];show K _ _=true;rw [hln];have mS:(h.set b .dead).next=h.next:=Heap.aT _ _ _
  refine hK _ _ ?_ (fun c hc hb=>?_) (by rw [Heap.aD,mS];omega) rfl
  ·refine .row h.next _ YE (by rw [Heap.aD,mS];omega) ?_
   rw [<- mS];exact ak _ _
  ·rw [Heap.aN,if_neg (by rw [mS];omega),Heap.aG,if_neg (fun e=>hb (by rw [e];rfl))]
theorem Sz{ts:List (Sl Int)}(o:Own jl 1 k h v ts)(hlen:ts.length<=1000000)(YE:k<=h.next)(hi:i<ts.length)
  (hK:∀ v' h',Own jl 1 k h' v' (ts.take i++ts.drop (i+1))->(∀ b,b<h.next->bR v≠some b->h'.get b=h.get b)->h.next<=h'.next->bR v'=some h.next->K (.ret v') h'=true):Sem TP 57 [v,I6 (i:Int),I6 ((i+1:Nat):Int)] h K:=by
 refine kJ.sem va (f:=57) rfl ?_;have hci:((i:Nat):Int)=Int.ofNat i:=rfl;have anN:((i+1:Nat):Int)=Int.ofNat (i+1):=rfl;rw [hci,anN]
 cases o with
 |nil=>simp at hi
 |row b ts h1 h2 h3=>
  have hl:(ts.flatMap jl).length=ts.length:=by rw [eS pV];omega
  have e:Ct [.slice b 0 ts.length 1,I6 (Int.ofNat i),I6 (Int.ofNat (i+1))] h K=(Nat.beq (ts.flatMap jl).length ts.length&&(ble (i+1) (i+1)&&(ble (i+1) ts.length&&(ble (ts.length*24) 140737488355328&&(aW (ts.flatMap jl) &&
    K (.ret (.slice h.next 0 (ts.length-(i+1-i)) 1)) ((h.set b .dead).alloc (.cells ((ts.flatMap jl).take i++(ts.flatMap jl).drop (i+1))))))))):=by
   simp only [Ct,h3]
  have c2:Nat.beq (ts.flatMap jl).length ts.length=true:=by rw [hl];exact Nat.beq_refl _
  have c3:ble (i+1) (i+1)=true:=ble_eq_true_of_le (dK _);have c4:ble (i+1) ts.length=true:=ble_eq_true_of_le hi;have c5:ble (ts.length*24) 140737488355328=true:=ble_eq_true_of_le (by omega);rw [e,c2,c3,c4,c5,PM]
  have hcs:(ts.flatMap jl).take i++(ts.flatMap jl).drop (i+1)=(ts.take i++ts.drop (i+1)).flatMap jl:=by
   rw [GB,GB,map_append,map_take,map_drop]
  have hln:ts.length-(i+1-i)=(ts.take i++ts.drop (i+1)).length:=by simp;omega
  rw [hcs];show K _ _=true;rw [hln];have mS:(h.set b .dead).next=h.next:=Heap.aT _ _ _
  refine hK _ _ ?_ (fun c hc hb=>?_) (by rw [Heap.aD,mS];omega) rfl
  ·refine .row h.next _ YE (by rw [Heap.aD,mS];omega) ?_
   rw [<- mS];exact ak _ _
  ·rw [Heap.aN,if_neg (by rw [mS];omega),Heap.aG,if_neg (fun e=>hb (by rw [e];rfl))]
theorem TS(hs:ji L){a b:Nat}{u v:List Int}(hu:L[a]?=some u)(hv:L[b]?=some v)(rO:a<b):dA u v=true:=by
 have h1:=pairwise_iff_getElem.1 hs;obtain ⟨p1,q1⟩:=lR.1 hu;obtain ⟨p2,q2⟩:=lR.1 hv;have:=h1 a b p1 p2 rO
 rwa [q1,q2] at this
theorem aeG(hs:ji L){t:List Int}(hlen:∀ u ∈ L,u.length=t.length)(GX:∀ a u,a<n->L[a]?=some u->dA u t=true)(Qi:∀ a u,n<=a->L[a]?=some u->dA u t=false)(ht:t ∉ L) :
  ji (L.take n++t :: L.drop n):=by
 refine I5 hs (fun y hy=>?_) (fun y hy=>?_)
 ·obtain ⟨a,ha⟩:=getElem?_of_mem hy;rw [getElem?_drop] at ha;have hm:=ij ha;exact z7 (hlen y hm) (Qi _ y (by omega) ha) (fun e=>ht (e▸hm))
 ·obtain ⟨a,ha⟩:=getElem?_of_mem hy;have hal:a<n:=by have:=(lR.1 ha).1;rw [length_take] at this;omega
  rw [getElem?_take,if_pos hal] at ha;exact GX a y hal ha
theorem aeH(hs:ji L){t:List Int}(GX:∀ a u,a<n->L[a]?=some u->dA u t=true)(Qi:∀ a u,n<=a->L[a]?=some u->dA u t=false)(ht:t ∈ L) :
  L[n]?=some t/\ji (L.take n++L.drop (n+1))/\∀ u,u ∈ L.take n++L.drop (n+1)↔u ∈ L/\u≠t:=by
 obtain ⟨a,ha⟩:=getElem?_of_mem ht;have h1:¬ a<n:=fun h=>by have:=GX a t h ha;rw [j5] at this;cases this
 have han:a=n:=by
  rcases Nat.lt_or_ge n a with h|h
  ·have hl:n<L.length:=by have:=(lR.1 ha).1;omega
   have:=TS hs (jQ hl) ha h;rw [Qi n _ (dK _) (jQ hl)] at this;cases this
  ·omega
 subst han;have e:L.take a++L.drop (a+1)=L.eraseIdx a:=(eraseIdx_eq_take_drop_succ L a).symm;refine ⟨ha,by rw [e];exact List.Pairwise.sublist (eraseIdx_sublist L a) hs,fun u=>?_⟩;constructor
 ·intro hu;rcases mem_append.1 hu with hu|hu
  ·refine ⟨mem_of_mem_take hu,fun he=>?_⟩;subst he;obtain ⟨b,hb⟩:=getElem?_of_mem hu;have YK:b<a:=by have:=(lR.1 hb).1;rw [length_take] at this;omega
   rw [getElem?_take,if_pos YK] at hb;have:=GX b u YK hb;rw [j5] at this;cases this
  ·refine ⟨mem_of_mem_drop hu,fun he=>?_⟩;subst he;obtain ⟨b,hb⟩:=getElem?_of_mem hu;rw [getElem?_drop] at hb;have:=TS hs ha hb (by omega);rw [j5] at this;cases this
 ·rintro ⟨hu,hne⟩;obtain ⟨b,hb⟩:=getElem?_of_mem hu;rcases Nat.lt_trichotomy b a with h|h|h
  ·exact mem_append_left _ (ij (i:=b) (by rw [getElem?_take,if_pos h];exact hb))
  ·subst h;rw [ha] at hb;cases hb;exact absurd rfl hne
  ·exact mem_append_right _ (ij (i:=b-(a+1)) (by rw [getElem?_drop,show a+1+(b-(a+1))=b by omega];exact hb))
theorem LB{k:Nat}{h:Heap}:∀ (l:List (y8×List (Sl Int))),(∀ p ∈ l,Own jl 1 k h p.1.2.2.1 p.2) ->
  ∃ zs:List Rel,zs.map bp=l.map PI/\zs.length=l.length/\j8 true h ((l.map (·.1)).flatMap jt) (zs.flatMap aY)
 |[],_=>⟨[],rfl,rfl,.nil⟩
 |p :: l,hp=>by
  obtain ⟨zs,h1,h2,h3⟩:=LB l fun q hq=>hp q (mem_cons_of_mem _ hq);obtain ⟨x,x1,x2⟩:=(kX.y9 (hp p mem_cons_self) mG).fz;have hx:x.l=p.2:=by rw [x1,List.map_map];simp [Function.comp_def]
  obtain ⟨⟨nm,k,v⟩,ts⟩:=p;refine ⟨⟨nm,k,x⟩ :: zs,?_,by simp [h2],?_⟩
  ·rw [map_cons,map_cons,h1];have hx:x.l=ts:=hx;simp [bp,PI,hx]
  ·rw [map_cons,flatMap_cons,flatMap_cons];exact j8.append (MS x2) h3
theorem TT{a:AV}{l:List (y8×List (Sl Int))}(o:Own jt 3 k h a (l.map (·.1)))(hp:∀ p ∈ l,Own jl 1 k h p.1.2.2.1 p.2):∃ z:Sl Rel,z.l.map bp=l.map PI/\Fz true h a (qm z):=by
 obtain ⟨zs,h1,h2,h3⟩:=LB l hp;generalize hm:l.map (·.1)=m at o h3
 cases o with
 |nil=>
  have:l = []:=by simpa using hm
  subst this;exact ⟨none,rfl,.de rfl⟩
 |row b m q1 q2 q3=>
  have Vw:m.length=zs.length:=by rw [<- hm,length_map,h2]
  refine ⟨some zs,h1,?_⟩;have:qm (some zs) = .ax (zs.flatMap aY) 0 zs.length 3:=rfl;rw [this,Vw];exact .slice b 0 zs.length 3 _ _ q3 h3.len h3.rel
theorem C5{x:Sl (Sl Int)}{t:Sl Int}(hv:Fz true h v (kM x))(hl:x.l.length<=1000000)(hk:∀ u ∈ x.l,u.l.length=t.l.length)(qv:t.l.length<=cw)(hs:ji (x.l.map Sl.l))
  (hK:∀ n:Nat,n<=x.l.length->(∀ a u,a<n->x.l[a]?=some u->dA u.l t.l=true)->(∀ a u,n<=a->x.l[a]?=some u->dA u.l t.l=false)->K (.ret (.tuple [I6 (n:Int),.bool (decide (t.l ∈ x.l.map Sl.l))])) h=true) :
  Sem TP 54 [v,dH t,.func 55 [] []] h K:=
 (wZ hl hk qv hs (h:=Heap.empty) (K:=fun o h'=>yes (∃ n:Nat,o = .ret (.tuple [I6 (n:Int),.bool (decide (t.l ∈ x.l.map Sl.l))])/\n<=x.l.length/\(∀ a u,a<n->x.l[a]?=some u->dA u.l t.l=true)/\(∀ a u,n<=a->x.l[a]?=some u->dA u.l t.l=false)))
  fun n a b c=>bO.2 ⟨n,rfl,a,b,c⟩).Ut (.cons hv (.cons (.de (br iE t)) (.cons (.de rfl) .nil))) fun o h' ho=>by
  obtain ⟨n,rfl,a,b,c⟩:=bO.1 ho;have:=j8.cons (jm:=false) (h:=h') (Fz.scalar (I6 (n:Int)) rfl) (j8.cons (Fz.scalar (.bool (decide (t.l ∈ x.l.map Sl.l))) rfl) j8.nil);exact ⟨_,_,rfl,.tuple _ _ this.len this.rel,hK n a b c⟩
theorem C6(s:St):dz TP s Tryz.f18.results.toList=(match au (some 2) (s.env 8) s.h,(some [s.env 9]:Option (List AV)) with|some v,some vs=>some (v :: vs)|_,_=>none):=by kernel_rfl
theorem Vx(mP:s.ok)(hv:cY s=true){nm:cc}{t:Sl Int}{is:Bool}{j:Nat}{r:Rel}(hj:jh (fe nm (t.l.length:Int)) s.aA.l=(j:Int))(hr:s.aA.l[j]?=some r)(Sd:r.arity=(t.l.length:Int))(hin:jN s.size t.l=true)
  (hK:∀ s',mN s j r t.l is s'->K (.ret (.tuple [.agg (ah s'),I6 0])) h=true):Sem TP 18 [.agg (ah s),.str nm,dH t,.bool is] h K:=by
 have hm:cz=140737488355328:=rfl;have kW:=ij hr;have L9:j<s.aA.l.length:=(lR.1 hr).1;have mZ:=(iM.1 hv).rel _ (List.mem_map_of_mem kW);obtain ⟨_,k,hk1,Iy,hkp,Qr⟩:=mZ;have anE:r.arity=(k:Int):=hk1;have hkl:t.l.length=k:=by omega
 have qv:t.l.length<=cw:=by unfold cw;omega
 have Nu:=(fO hv).1;have hrt:=Nu.CV r kW
 have main:Sem TP 18 [.agg (ah s),.str nm,dH t,.bool is] Heap.empty (fun o h'=>yes (∃ v s',o = .ret (.tuple [v,I6 0])/\mN s j r t.l is s'/\Fz true h' v (.agg (ah s')))):=by
  refine F.J2 ?_;rw [F.MA];simp only [cD (bU s),dr,Heap.aD,aZ];have g0:(Heap.alloc (Heap.alloc Heap.empty (.cells (ah s))) (.cells [I6 0,.ai])).get 0=sC (ah s):=by simp [Heap.aN,aZ]
  have g1:(Heap.alloc (Heap.alloc Heap.empty (.cells (ah s))) (.cells [I6 0,.ai])).get 1=sC [I6 0,.ai]:=by simp [Heap.aN,aZ]
  have gn:(Heap.alloc (Heap.alloc Heap.empty (.cells (ah s))) (.cells [I6 0,.ai])).next=2:=rfl
  generalize (Heap.alloc (Heap.alloc Heap.empty (.cells (ah s))) (.cells [I6 0,.ai]))=H1 at g0 g1 gn ⊢;have l0:=eM g0;have lz:=lA g0 0 rfl;simp only [l0,dr];refine af (Lx mP hv hj hr Sd qv ?_);simp only [aO,cy,decide_true,Bool.not_true,lz];refine af (yX qv ?_);rw [hin];simp only [aO,Bool.not_true,l0];refine af (Fl Nu fun a H2 l hx hd hl=>?_)
  have tX:aW [I6 s.size,a]=true:=by
   have c:=hd.own.ki;have:=c.1;rw [c.2.2] at this;simp only [aW,Bool.and_true] at this ⊢;rw [this];rfl
  obtain ⟨H3,S5,p3,XF,pn3⟩:=cA (h:=H2) (zs:=[I6 0,.ai]) (cs:=[I6 s.size,a]) (n:=2) rfl rfl tX;have x3:aV H2 H3:=⟨by omega,fun b hb=>XF b (by omega)⟩
  have n2:=hx.next
  have d3:=hd.ext x3;rw [gn] at d3 n2;have q0:H3.get 0=sC (ah s):=by rw [XF 0 (by omega),hx.get 0 (by omega)];exact g0
  have q1:H3.get 1=sC [I6 0,.ai]:=by rw [XF 1 (by omega),hx.get 1 (by omega)];exact g1
  have lr:=lA p3 1 rfl;have l3:=eM q0;simp only [aO,S5,lr,l3];refine af (wz mP ?_);rw [hj];have Nq:l.length=s.aA.l.length:=by have:=congrArg List.length hl;simpa using this
  obtain ⟨⟨q,ts⟩,hp⟩:∃ p,l[j]?=some p:=⟨l[j]'(by omega),jQ (by omega)⟩
  have Jo:=ij hp
  have hpd:PI (q,ts)=bp r:=by
   have:=congrArg (·[j]?) hl;simp only [getElem?_map,hp,hr,map_some,Option.some.injEq] at this;exact this
  have e1:q.1=r.name:=congrArg (·.1) hpd;have e2:q.2.1=r.arity:=congrArg (·.2.1) hpd;have e3:ts.map Sl.l=r.aM.l.map Sl.l:=congrArg (·.2.2) hpd;have ht3:ts.length=r.aM.l.length:=by have:=congrArg List.length e3;simpa using this
  have YJ:(l.map (·.1))[j]?=some q:=by rw [getElem?_map,hp];rfl
  have oq:Own jl 1 2 H3 q.2.2.1 ts:=d3.row _ Jo;obtain ⟨x,x1,x2⟩:=(kX.y9 oq mG).fz;have BV:x.l=ts:=by rw [x1,List.map_map];simp [Function.comp_def]
  have hlen:∀ u ∈ ts.map Sl.l,u.length=t.l.length:=fun u hu=>by
   rw [e3] at hu;rw [hkl];exact (Qr.1 u hu).1
  have u7:ji (ts.map Sl.l):=by rw [e3];exact Qr.2
  have fin:∀ (hF:Heap) (l':List (y8×List (Sl Int))) (L':List (List Int)),Own jt 3 2 hF a (l'.map (·.1))->(∀ p ∈ l',Own jl 1 2 hF p.1.2.2.1 p.2)->hF.get H2.next=sC [I6 s.size,a]->hF.get 1=sC [I6 0,.ai] ->
    l'.map PI=(s.aA.l.map bp).set j (r.name,r.arity,L')->ji L'->(∀ u,u ∈ L'↔(u ∈ r.aM.l.map Sl.l/\u≠t.l)\/(is=true/\u=t.l)) ->
    au (some 2) (.ptr H2.next 0) hF=some (.agg [I6 s.size,a])/\∃ hG,aS 2 (.ptr 1 0) (.agg [I6 s.size,a]) hF=some hG/\au (some 2) (.ptr 1 0) hG=some (.agg [I6 s.size,a])/\∃ s',mN s j r t.l is s'/\Fz true hG (.agg [I6 s.size,a]) (.agg (ah s')):=by
   intro hF l' L' o1 o2 o3 o4 o5 o6 o7;refine ⟨by rw [aj o3];rfl,hF.set 1 (.cells [I6 s.size,a]),by rw [cj (n:=2) (v:=.agg [I6 s.size,a]) o4 rfl tX (by simp)];rfl,by rw [aj (cs:=[I6 s.size,a]) (by rw [Heap.aG,if_pos rfl])];rfl,?_⟩;obtain ⟨z,z1,z2⟩:=TT (o1.mK (d:=1) (by omega) (.cells [I6 s.size,a])) fun p hp=>(o2 p hp).mK (d:=1) (by omega) (.cells [I6 s.size,a]);refine ⟨⟨s.size,z⟩,⟨rfl,L',o6,o7,by rw [<- o5];exact z1⟩,?_⟩;have:=j8.cons (.scalar (I6 s.size) rfl) (j8.cons z2 j8.nil);exact .agg _ _ this.len this.rel
  have gG:(∀ u,u ∈ r.aM.l.map Sl.l↔(u ∈ r.aM.l.map Sl.l/\u≠t.l)\/(is=true/\u=t.l))->au (some 2) (.ptr H2.next 0) H3=some (.agg [I6 s.size,a])/\∃ hG,aS 2 (.ptr 1 0) (.agg [I6 s.size,a]) H3=some hG/\au (some 2) (.ptr 1 0) hG=some (.agg [I6 s.size,a])/\∃ s',mN s j r t.l is s'/\Fz true hG (.agg [I6 s.size,a]) (.agg (ah s')):=fun hu=>by
   refine fin H3 l (r.aM.l.map Sl.l) d3.own d3.row p3 q1 ?_ Qr.2 hu;rw [hl];refine ext_getElem? fun i=>?_;by_cases hi:i=j
   ·subst hi;rw [getElem?_set_self (by simpa using L9),getElem?_map,hr];rfl
   ·rw [getElem?_set_ne (Ne.symm hi)]
  have chg:∀ (hF:Heap) (v':Ph) (nu:List (Sl Int)),Own jl 1 2 hF v'.1 nu->(∀ b,b<H3.next->bR q.2.2.1≠some b->hF.get b=H3.get b)->H3.next<=hF.next->(∀ b,bR v'.1=some b->H3.next<=b)->ji (nu.map Sl.l)->(∀ u,u ∈ nu.map Sl.l↔(u ∈ r.aM.l.map Sl.l/\u≠t.l)\/(is=true/\u=t.l)) ->
    ∃ b hH,jw 3 a (I6 (j:Int))=some (.ptr b (j*3))/\aS 1 (.ptr b (j*3+2)) v'.1 hF=some hH/\au (some 2) (.ptr H2.next 0) hH=some (.agg [I6 s.size,a])/\∃ hG,aS 2 (.ptr 1 0) (.agg [I6 s.size,a]) hH=some hG/\au (some 2) (.ptr 1 0) hG=some (.agg [I6 s.size,a])/\∃ s',mN s j r t.l is s'/\Fz true hG (.agg [I6 s.size,a]) (.agg (ah s')):=by
   intro hF v' nu ov hfr mS rY iZ VP;have oF:Own jt 3 2 hF a (l.map (·.1)):=d3.own.agree (fun b hb=>hfr b (d3.own.lt hb) (fun hc=>d3.sep _ Jo b hc hb)) mS;obtain ⟨b,cs,i1,i2,i3,i4,i5,i6⟩:=oF.TK YJ v';have hb2:b<H2.next:=hd.own.lt i2
   have hb3:2<=b:=d3.own.ge i2;have hqb:∀ c,bR q.2.2.1=some c->c<H2.next/\2<=c:=fun c hc=>⟨(hd.row _ Jo).lt hc,oq.ge hc⟩
   refine ⟨b,hF.set b (.cells cs),i1,i5,?_⟩;have mu:(l.set j ((q.1,q.2.1,v'),nu)).map (·.1)=(l.map (·.1)).set j (q.1,q.2.1,v'):=by rw [map_set]
   refine fin (hF.set b (.cells cs)) (l.set j ((q.1,q.2.1,v'),nu)) (nu.map Sl.l) (by rw [mu];exact i6) (fun p hpp=>?_) ?_ ?_ ?_ iZ VP
   ·obtain ⟨i,hi⟩:=getElem?_of_mem hpp;by_cases hij:i=j
    ·subst hij;rw [getElem?_set_self (by omega)] at hi;cases hi;exact ov.agree (fun c hc=>by rw [Heap.aG,if_neg (fun e=>by have:=rY c hc;omega)]) (by rw [Heap.aT];omega)
    ·rw [getElem?_set_ne (Ne.symm hij)] at hi;have Ze:=ij hi;refine (d3.row p Ze).agree (fun c hc=>?_) (by rw [Heap.aT];omega);have hca:c≠b:=fun e=>d3.sep p Ze c hc (by rw [e];exact i2);rw [Heap.aG,if_neg hca];refine hfr c ((d3.row p Ze).lt hc) fun hqc=>?_;have ajZ:=pairwise_iff_getElem.1 d3.dis;obtain ⟨y1,y2⟩:=lR.1 hi;obtain ⟨y3,y4⟩:=lR.1 hp;rcases Nat.lt_or_gt_of_ne hij with hlt|Wl
     ·exact ajZ i j y1 y3 hlt c (by rw [y2];exact hc) (by rw [y4];exact hqc)
     ·exact ajZ j i y3 y1 Wl c (by rw [y4];exact hqc) (by rw [y2];exact hc)
   ·rw [Heap.aG,if_neg (by omega),hfr _ (by omega) (fun hc=>by have:=(hqb _ hc).1;omega)];exact p3
   ·rw [Heap.aG,if_neg (by omega),hfr _ (by omega) (fun hc=>by have:=(hqb _ hc).2;omega)];exact q1
   ·rw [map_set,hl];show (s.aA.l.map bp).set j (q.1,q.2.1,nu.map Sl.l)=_;rw [e1,e2]
  obtain ⟨b,_,i1,i2,i3,i4,_,_⟩:=d3.own.TK YJ q.2.2;have hnc:∀ c o:Nat,aJ (.ptr c o)=some (.ptr c o):=fun _ _=>rfl;simp only [aO,lr,AV.beq_refl,Bool.and_self,if_true,i1,hnc,i4];refine af (C5 x2 (by rw [BV];omega) (fun u hu=>by rw [BV] at hu;exact hlen u.l (List.mem_map_of_mem hu)) qv (by rw [BV];exact u7) fun n hn GX Qi=>?_);rw [BV] at hn GX Qi ⊢;rw [e3]
  have aj0:∀ c u,c<n->(ts.map Sl.l)[c]?=some u->dA u t.l=true:=fun c u hc hu=>by
   rw [getElem?_map] at hu;obtain ⟨w,hw,rfl⟩:=map_eq_some_iff.1 hu;exact GX c w hc hw
  have aj1:∀ c u,n<=c->(ts.map Sl.l)[c]?=some u->dA u t.l=false:=fun c u hc hu=>by
   rw [getElem?_map] at hu;obtain ⟨w,hw,rfl⟩:=map_eq_some_iff.1 hu;exact Qi c w hc hw
  cases is with
  |true=>
   by_cases vp:t.l ∈ r.aM.l.map Sl.l
   ·simp only [aO,fh vp,Bool.not_true]
    obtain ⟨f1,hG,f2,f3,s',f4,f5⟩:=gG fun u=>by
     constructor
     ·intro hu;by_cases he:u=t.l
      ·exact .inr ⟨rfl,he⟩
      ·exact .inl ⟨hu,he⟩
     ·rintro (⟨hu,_⟩|⟨_,rfl⟩)
      ·exact hu
      ·exact vp
    simp only [aO,reduceEqDiff,reduceIte,f1,f2,C6,f3,oneOf];exact bO.2 ⟨_,s',rfl,f4,f5⟩
   ·simp only [aO,eR vp,Bool.not_false,i4];refine af (sw (by omega) fun y hy=>?_);have gy:=ak H3 (.cells (jl y));simp only [aO,i4,AV.beq_refl,Bool.and_self,if_true,IM];refine af (Sy (h:=H3.alloc (.cells (jl y))) (oq.ext (aV.alloc _ _)) (d3.none _ Jo) (by omega) gy (fun hc=>by have:=oq.lt hc;omega) (by rw [Heap.aD];omega) hn fun v' h' ov hfr mS hnb=>?_);obtain ⟨AB,MU⟩:=mR ov;have Oh:(ts.take n++y :: ts.drop n).map Sl.l=(ts.map Sl.l).take n++t.l :: (ts.map Sl.l).drop n:=by rw [map_append,map_cons,hy,map_take,map_drop]
    obtain ⟨b',hH,c1,c2,c3,hG,c4,c5,s',c6,c7⟩:=chg h' ⟨v',AB,MU⟩ _ ov (fun c hc hb=>by rw [hfr c (by rw [Heap.aD];omega) hb,Heap.aN,if_neg (by omega)]) (by rw [Heap.aD] at mS;omega) (fun c hc=>by
      have:v'=v':=rfl;rw [show bR v'=some (H3.alloc (.cells (jl y))).next from hnb] at hc
      rw [Heap.aD] at hc;cases hc;omega) (by rw [Oh];exact aeG u7 hlen aj0 aj1 (by rw [e3];exact vp)) (fun u=>by
      rw [Oh,TM,e3];constructor
      ·rintro (hu|hu)
       ·exact .inl ⟨hu,fun e=>vp (e▸hu)⟩
       ·exact .inr ⟨rfl,hu⟩
      ·rintro (⟨hu,_⟩|⟨_,hu⟩)
       ·exact .inl hu
       ·exact .inr hu)
    obtain rfl:b'=b:=by rw [i1] at c1;cases c1;rfl
    simp only [aO,reduceEqDiff,reduceIte,c2,c3,c4,C6,c5,oneOf];exact bO.2 ⟨_,s',rfl,c6,c7⟩
  |false=>
   by_cases vp:t.l ∈ r.aM.l.map Sl.l
   ·obtain ⟨wu,Uk,Bi⟩:=aeH u7 aj0 aj1 (by rw [e3];exact vp);have hnl:n<ts.length:=by have:=(lR.1 wu).1;simpa using this
    simp only [aO,fh vp,Bool.not_false,i4,aE hnl (by unfold cw;omega)];refine af (Sz oq (by omega) (by omega) hnl fun v' h' ov hfr mS hnb=>?_);obtain ⟨AB,MU⟩:=mR ov;have Oh:(ts.take n++ts.drop (n+1)).map Sl.l=(ts.map Sl.l).take n++(ts.map Sl.l).drop (n+1):=by rw [map_append,map_take,map_drop]
    obtain ⟨b',hH,c1,c2,c3,hG,c4,c5,s',c6,c7⟩:=chg h' ⟨v',AB,MU⟩ _ ov hfr mS (fun c hc=>by
      rw [show bR v'=some H3.next from hnb] at hc
      cases hc;omega) (by rw [Oh];exact Uk) (fun u=>by
      rw [Oh,Bi,e3];constructor
      ·intro hu;exact .inl hu
      ·rintro (hu|⟨hu,_⟩)
       ·exact hu
       ·cases hu)
    obtain rfl:b'=b:=by rw [i1] at c1;cases c1;rfl
    simp only [aO,reduceEqDiff,reduceIte,c2,c3,c4,C6,c5,oneOf];exact bO.2 ⟨_,s',rfl,c6,c7⟩
   ·simp only [aO,eR vp,Bool.not_false]
    obtain ⟨f1,hG,f2,f3,s',f4,f5⟩:=gG fun u=>by
     constructor
     ·intro hu;exact .inl ⟨hu,fun e=>vp (e▸hu)⟩
     ·rintro (⟨hu,_⟩|⟨hu,_⟩)
      ·exact hu
      ·cases hu
    simp only [aO,reduceEqDiff,reduceIte,f1,f2,C6,f3,oneOf];exact bO.2 ⟨_,s',rfl,f4,f5⟩
 refine main.frozen (by simp [AV.cP,AV.pure,dI,br iE]) fun o h' ho=>?_;obtain ⟨v,s',rfl,iZ,hf⟩:=bO.1 ho;have:=j8.cons hf (j8.cons (.scalar (I6 0) rfl) j8.nil);exact ⟨_,_,rfl,.tuple _ _ this.len this.rel,hK s' iZ⟩
structure AG where
 name:cc
 tuple:Sl Int
def rJ(f:AG):List AV:=[.str f.name,dH f.tuple]
abbrev TU(x:Sl AG):AV:=dR rJ 2 x
theorem sR(f:AG):(rJ f).length=2:=rfl
theorem I9(f:AG):AV.cP (rJ f)=true:=by simp [rJ,AV.cP,AV.pure,br iE]
theorem LC(f:AG):aW (rJ f)=true:=by unfold rJ;simp only [aW,fS,Bool.and_true];rfl
def rL(f:AG):cc×List Int:=(f.name,f.tuple.l)
def uw(p q:cc×Int×List (List Int)):List (cc×List Int):=(p.2.2.filter fun t=>!decide (t ∈ q.2.2)).map fun t=>(p.1,t)
def mC(la lb:List (cc×Int×List (List Int))):List (cc×List Int):=(la.zip lb).flatMap fun x=>uw x.1 x.2
theorem Ja{α β:Type}:∀ {la:List α} {lb:List β} {i:Nat} {p:α} {q:β},la[i]?=some p->lb[i]?=some q->(la.take (i+1)).zip lb=(la.take i).zip lb++[(p,q)]
 |a :: la,b :: lb,0,p,q,h1,h2=>by simp at h1 h2;subst h1;subst h2;simp
 |a :: la,b :: lb,i+1,p,q,h1,h2=>by
  rw [getElem?_cons_succ] at h1 h2;rw [take_succ_cons,take_succ_cons,zip_cons_cons,zip_cons_cons,Ja h1 h2];rfl
 |[],_,_,_,_,h1,_=>by simp at h1
 |_ :: _,[],_,_,_,_,h2=>by simp at h2
theorem Ye(nm:cc)(y:Sl Int):iP [.str [],.ai] [(0,1),(1,1)] [.str nm,dH y]=some (.agg (rJ ⟨nm,y⟩)):=by cases y<;>rfl
theorem Yf(f:AG):eN [.str [],.ai] [(0,2)] [.agg (rJ f)]=some (rJ f):=by
 obtain ⟨nm,y⟩:=f;cases y<;>rfl
theorem eD{a b:ct}(ha:a.small)(hb:b.small)(hlen:a.aA.l.length<=b.aA.l.length)(hkk:∀ (i:Nat) (q u:Rel),a.aA.l[i]?=some q->b.aA.l[i]?=some u->(∀ t ∈ q.aM.l,∀ w ∈ u.aM.l,w.l.length=t.l.length)/\ji (u.aM.l.map Sl.l))
  {h:Heap} {K:Out->Heap->Bool} (hK:∀ x:Sl AG,x.l.map rL=mC (a.aA.l.map bp) (b.aA.l.map bp)->K (.ret (TU x)) h=true):Sem TP 92 [.agg (ah a),.agg (ah b)] h K:=by
 have hm:cz=140737488355328:=rfl;have rO:=ha.U4;have ha8:=ha.aA
 have main:Sem TP 92 [.agg (ah a),.agg (ah b)] Heap.empty (fun o h'=>yes (∃ v,∃ x:Sl AG,o = .ret v/\x.l.map rL=mC (a.aA.l.map bp) (b.aA.l.map bp)/\Fz true h' v (TU x))):=by
  refine F.J5 ?_;rw [F.ME];simp only [cD (bU a),cD (bU b),dr,Heap.aD,aZ];have g0:(Heap.alloc (Heap.alloc Heap.empty (.cells (ah a))) (.cells (ah b))).get 0=sC (ah a):=by simp [Heap.aN,aZ]
  have g1:(Heap.alloc (Heap.alloc Heap.empty (.cells (ah a))) (.cells (ah b))).get 1=sC (ah b):=by simp [Heap.aN,aZ]
  have gn:(Heap.alloc (Heap.alloc Heap.empty (.cells (ah a))) (.cells (ah b))).next=2:=rfl
  generalize (Heap.alloc (Heap.alloc Heap.empty (.cells (ah a))) (.cells (ah b)))=H at g0 g1 gn ⊢;have lr:=lA g0 1 rfl;simp only [aO,lr]
  refine aB 0 a.aA.l.length (zero_le _) (fun i e h'=>∃ av l,Own rJ 2 2 h' av l/\l.map rL=mC ((a.aA.l.map bp).take i) (b.aA.l.map bp)/\l.length<=i*100000/\aV H h'/\e 3 = .ptr 1 0/\e 5=av/\e 13=qm a.aA/\e 14=I6 (a.aA.l.length:Int)/\e 15=I6 (i:Int))
   ⟨_,[],.nil,by simp [mC],by simp,aV.refl _,rfl,rfl,rfl,rfl,rfl⟩ ?_ ?_
  ·rintro i e h' _ hi ⟨av,l,o,hl,hcn,hx,e3,e5,qC,qt,rD⟩ K' hn gl hr hp;obtain ⟨r,hv⟩:=dM hi;have wO:i<b.aA.l.length:=by omega
   obtain ⟨u,hw⟩:=dM wO;have kW:=ij hv;obtain ⟨hk1,hk2⟩:=hkk i r u hv hw;have hrt:=ha.CV r kW;have hut:=hb.CV u (ij hw);obtain ⟨H3,S5,p3,XF,pn3⟩:=cA (h:=h') (zs:=[.str [],I6 0,.ai]) (cs:=aY r) (n:=3) rfl rfl (gJ r);have x3:aV h' H3:=⟨by omega,fun c hc=>XF c (by omega)⟩
   have lt3:=lA p3 2 rfl;have mS:=hx.next
   rw [F.eD.aP];simp only [qC,qt,rD,aO,aU hi,aQ a.aA hi,dB dY hv,S5,lt3];have hbt:r.aM.l.length<=cw:=by unfold cw;omega
   refine aB 0 r.aM.l.length (zero_le _) (fun j e h2=>∃ av l,Own rJ 2 2 h2 av l/\l.map rL=mC ((a.aA.l.map bp).take i) (b.aA.l.map bp)++uw (r.name,r.arity,(r.aM.l.map Sl.l).take j) (bp u)/\l.length<=i*100000+j/\aV H h2/\h2.get h'.next=sC (aY r)/\h'.next<h2.next/\(∀ c,bR av=some c->c≠h'.next) /\
    e 3 = .ptr 1 0/\e 5=av/\e 13=qm a.aA/\e 14=I6 (a.aA.l.length:Int)/\e 15=I6 (i:Int)/\e 7 = .ptr h'.next 0/\e 6=I6 (i:Int)/\e 21=kM r.aM/\e 22=I6 (r.aM.l.length:Int)/\e 23=I6 (j:Int))
    ⟨av,l,o.ext x3,by simpa [uw] using hl,by simpa using hcn,hx.trans x3,p3,by omega,fun c hc=>by have:=o.lt hc;omega,e3,e5,qC,qt,rD,rfl,rfl,rfl,rfl,rfl⟩ ?_ ?_
   ·rintro j e h2 _ hj ⟨av,l,o,hl,hcn,hx,p3,q3,hne,e3,e5,qC,qt,rD,e7,e6,Gx,Gw,e23⟩ K2 qj fK r7 Ay;obtain ⟨t,D9⟩:=dM hj;have htm:=ij D9;have qv:=ha.YL r kW t htm;have gb:h2.get 1=sC (ah b):=by rw [hx.get 1 (by omega)];exact g1
    have lb:=lA gb 1 rfl
    have PN:uw (r.name,r.arity,(r.aM.l.map Sl.l).take (j+1)) (bp u)=uw (r.name,r.arity,(r.aM.l.map Sl.l).take j) (bp u)++if t.l ∈ u.aM.l.map Sl.l then [] else [(r.name,t.l)]:=by
     have hg:(r.aM.l.map Sl.l)[j]?=some t.l:=(by rw [getElem?_map,D9];rfl);simp only [uw,bp];rw [take_add_one,hg,filter_append,map_append];congr 1;by_cases hin:t.l ∈ u.aM.l.map Sl.l
     ·rw [if_pos hin,toList_some,filter_cons,if_neg (by simp only [not_eq_true'];intro hh;exact absurd hin (of_decide_eq_false hh))];rfl
     ·rw [if_neg hin,toList_some,filter_cons,if_pos (by simp only [not_eq_true'];exact eR hin)];rfl
    rw [F.eD.cU];simp only [e3,e6,Gx,Gw,e23,aO,aU hj,aQ r.aM hj,eY D9,lb,aQ b.aA wO,kF hw];refine af (wZ (by omega) (fun w hw2=>hk1 t htm w hw2) (by unfold cw;omega) hk2 fun n _ _ _=>?_);by_cases hin:t.l ∈ u.aM.l.map Sl.l
    ·simp only [aO,fh hin,Bool.not_true,aE hj hbt];refine qj _ _ ⟨av,l,o,by rw [hl,PN,if_pos hin,append_nil],by omega,hx,p3,q3,hne,e3,e5,qC,qt,rD,e7,e6,Gx,Gw,rfl⟩
    ·have ln:=lA p3 0 rfl;simp only [aO,eR hin,Bool.not_false,e7,ln];refine af (sw (by omega) fun y hy=>?_)
     have hroom:(l.length+1)*40<=cz:=by
      rw [hm];have:i*100000<=a.aA.l.length*100000:=mul_le_mul_right _ (by omega);omega
     obtain ⟨a5,h5,c5,o5,f5,n5,x5,b5⟩:=o.push sR LC (by have:=hx.next;omega) (bytes:=40) hroom ⟨r.name,y⟩;simp only [aO,e5,ln,AV.beq_refl,Bool.and_self,if_true,Ye,Yf,c5,aE hj hbt];refine qj _ _ ⟨a5,_,o5,?_,by rw [length_append,length_singleton];omega,x5 H hx (by omega),by rw [f5 _ q3 (fun hc=>hne _ hc rfl)];exact p3,by omega,fun c hc=>by have:=b5 c hc;omega,e3,rfl,qC,qt,rD,e7,e6,Gx,Gw,rfl⟩;rw [map_append,hl,PN,if_neg hin,append_assoc];simp [rL,hy]
   ·rintro e h2 ⟨av,l,o,hl,hcn,hx,p3,q3,hne,e3,e5,qC,qt,rD,e7,e6,Gx,Gw,e23⟩ K2 fK;rw [F.eD.cU];simp only [Gw,e23,aO,aR];rw [fK,F.eD.cm];simp only [aO,reduceEqDiff,reduceIte,rD,aE hi rO];refine hn _ _ ⟨av,l,o,?_,by have:=Nat.add_mul i 1 100000;omega,hx,e3,e5,qC,qt,rfl⟩;have htk:(r.aM.l.map Sl.l).take r.aM.l.length=r.aM.l.map Sl.l:=jD (by simp);rw [hl,htk];have h1:(a.aA.l.map bp)[i]?=some (bp r):=by rw [getElem?_map,hv];rfl
    have h2:(b.aA.l.map bp)[i]?=some (bp u):=(by rw [getElem?_map,hw];rfl);unfold mC;rw [Ja h1 h2,flatMap_append];simp only [flatMap_cons,flatMap_nil,append_nil];rfl
  ·rintro e h' ⟨av,l,o,hl,hcn,hx,e3,e5,qC,qt,rD⟩ K' gl;rw [F.eD.aP];simp only [qt,rD,aO,aR];rw [gl,F.eD.aC];simp only [kC,reduceEqDiff,reduceIte,e5];rw [jD (by simp)] at hl;obtain ⟨x,x1,x2⟩:=(kX.y9 o I9).fz;exact bO.2 ⟨av,x,rfl,by rw [<- hl,x1,List.map_map];simp [Function.comp_def],x2⟩
 refine main.frozen (by simp [AV.cP,AV.pure,dI]) fun o h' ho=>?_;obtain ⟨v,x,rfl,h1,h2⟩:=bO.1 ho;exact ⟨_,_,rfl,h2,hK x h1⟩
end
end Go.AM