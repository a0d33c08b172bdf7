/- Parts of the proof. Conditions: none. -/
import Derived.Test.YthmbnnjimbjplaaGreatDoorTu13
import Derived.Test.YthmbnnjimbjplaaGreatDoorTu17
set_option linter.unusedSimpArgs false
set_option linter.unusedVariables false
namespace Go.AM
open List Nat Bool Option
open Go Go.Proofs
noncomputable section
theorem F2{n:Nat}(h1:1<=n)(h2:n<=dx):aC .sub (I6 (n:Int)) (I6 1)=some (I6 ((n-1:Nat):Int)):=by
 unfold dx at h2;rw [pX (by omega) (by omega)];congr 2;omega
theorem oM(a b:Int):∃ v,aC .add (I6 a) (I6 b)=some (I6 v):=⟨_,Hi a b⟩
theorem JV(a:Int){b:Int}(hb:b≠0):∃ v,aC .quo (I6 a) (I6 b)=some (I6 v):=⟨_,Hj a hb⟩
theorem eu{c:fG}(hc:c.ok){n:Int}{h:Heap}{K:Out->Heap->Bool}(hK:∀ b,K (.ret (.bool b)) h=true):Sem TP 11 [.agg (an c),I6 n] h K:=by
 have main:Sem TP 11 [.agg (an c),I6 n] Heap.empty (fun o h'=>yes (∃ b,o = .ret (.bool b))):=by
  refine F.wY ?_;rw [F.zi];have b0:(Heap.alloc Heap.empty (.cells (an c))).get 0=sC (an c):=ay _ _;simp only [cc (dm c),cN,aV];generalize (Heap.alloc Heap.empty (.cells (an c)))=H at b0 ⊢;refine aI 0 c.aU.l.length (zero_le _) (fun i e h'=>h'=H/\(∃ k:Int,e 5=I6 k)/\e 1=I6 n/\e 2 = .ptr 0 0/\e 6=I6 (i:Int)) ⟨rfl,⟨0,rfl⟩,rfl,rfl,rfl⟩ ?_ ?_
  ·rintro i e h' _ hi ⟨rfl,⟨k,e5⟩,e1,e2,e6⟩ K' hn hx hr hp;have hg:c.aU.l[i]?=some c.aU.l[i]:=fc hi;generalize c.aU.l[i]=g at hg;have xJ:g.ok:=hc.2 g (iz hg);have ld:∀ j,j<4->∀ h,au none (.cS (c.aU.l.flatMap bz) (i*4+j)) h=(bz g)[j]?:=fun j hj h=>fK fZ hg hj;rw [F.eu.aT];simp only [e1,e2,e5,e6,ai b0,an,br,reduceAdd,reduceEqDiff,reduceIte];simp only [br,reduceAdd,reduceEqDiff,reduceIte,bu hi];obtain ⟨k1,KB⟩:=oM k 1;obtain ⟨k2,Jp⟩:=oM k1 (g.kids.l.length:Int);obtain ⟨k3,RP⟩:=oM k2 (g.at_.l.length:Int);obtain ⟨q,hq⟩:=JV (g.name.length:Int) (b:=20) (by omega);obtain ⟨k4,NP⟩:=oM k3 q
   cases decide (k<=n) with
   |true=>
    simp only [aA,br,reduceAdd,reduceEqDiff,reduceIte,bt c.aU hi,ld 3 (by omega),ld 2 (by omega),ld 1 (by omega),bz,KB,Jp,RP,hq,NP,aN hi hc.1];exact hn _ _ ⟨rfl,⟨_,rfl⟩,e1,e2,rfl⟩
   |false=>
    simp only [ax];rw [hx,F.eu.aF];simp only [br,reduceAdd,reduceEqDiff,reduceIte,e1,e5];exact cw.2 ⟨_,rfl⟩
  ·rintro e h' ⟨rfl,⟨k,e5⟩,e1,e2,e6⟩ K' hx;rw [F.eu.aT];simp only [e2,e6,ai b0,an,br,reduceAdd,reduceEqDiff,reduceIte];simp only [br,reduceAdd,reduceEqDiff,reduceIte,bf];rw [hx,F.eu.aF];simp only [br,reduceAdd,reduceEqDiff,reduceIte,e1,e5];exact cw.2 ⟨_,rfl⟩
 refine main.frozen (by simp [AV.bQ,AV.pure,eO]) fun o h' ho=>?_;obtain ⟨b,rfl⟩:=cw.1 ho;exact ⟨_,_,rfl,.scalar _ rfl,hK b⟩
theorem mM{s:ew}{i:Nat}{r:Rel}(hr:s.aQ.l[i]?=some r){h:Heap}:au none (.cS (s.aQ.l.flatMap bA) (i*3+2)) h=some (zx r.aP):=by
 rw [fK fq hr (by omega)];rfl
theorem aY{s:ew}(hs:s.ok){b:Nat}{h:Heap}(hb:h.get b=sC (ak s)){K:Out->Heap->Bool}(hK:∀ x,K (.ret (.bool x)) h=true):Sem TP 17 [.slice b 0 1 2] h K:=by
 refine F.w9 ?_;rw [F.zm];have lr:au none (.ptr b 1) h=some (BF s.aQ):=by rw [ai hb];rfl
 have ia:iZ 2 (.slice b 0 1 2) (I6 ((0:Nat):Int))=some (.ptr b 0):=rfl;have hl:∀ h:Heap,bB .slice (.slice b 0 1 2) h=some (I6 ((1:Nat):Int)):=fun _=>rfl
 have num:∀ e:Env,(∃ x:Int,e 4=I6 x)->F.aY.cB K (.exit 0) (sM e 89 h)=true:=fun e ⟨x,hx⟩=>by
  rw [F.aY.aF];simp only [hx,br,reduceAdd,reduceEqDiff,reduceIte];exact hK _
 refine aI 0 1 (zero_le _) (fun i e h'=>h'=h/\e 0 = .slice b 0 1 2/\(∃ x:Int,e 3=I6 x)/\(∃ x:Int,e 4=I6 x)/\e 5=I6 (i:Int)) ⟨rfl,rfl,⟨0,rfl⟩,⟨0,rfl⟩,rfl⟩ ?_ ?_
 ·rintro i e h' _ hi ⟨rfl,e0,e3,e4,e5⟩ K' hn hx hr hp;obtain rfl:i=0:=by omega
  rw [F.aY.aT];simp only [e0,e5,hl,ia,lr,br,reduceAdd,reduceEqDiff,reduceIte,bu hi];by_cases q1:12<s.aQ.l.length
  ·simp only [fS (by omega:(12:Int)<(s.aQ.l.length:Int)),aA];rw [hr,F.aY.bh];simp only [lV,reduceEqDiff,reduceIte];exact hK _
  simp only [fB (by omega:¬ (12:Int)<(s.aQ.l.length:Int)),ax];refine aI 0 s.aQ.l.length (zero_le _) (fun k e h2=>h2=h'/\e 0 = .slice b 0 1 2/\(∃ x:Int,e 3=I6 x)/\(∃ x:Int,e 4=I6 x)/\e 5=I6 ((0:Nat):Int)/\e 6=I6 (k:Int)) ⟨rfl,e0,e3,e4,e5,rfl⟩ ?_ ?_
  ·rintro k e h2 _ hk ⟨rfl,e0,⟨x3,e3⟩,e4,e5,e6⟩ K2 A2 gY zQ Hz;have hv:s.aQ.l[k]?=some s.aQ.l[k]:=fc hk;generalize s.aQ.l[k]=r at hv;have JT:r.ok:=hs.2 r (iz hv);obtain ⟨y,hy⟩:=oM x3 (r.aP.l.length:Int)
   have ret:∀ e:Env,e 2=bF->F.aY.oW K' .ret (sM e 89 h2)=true:=fun e he=>by
    rw [F.aY.zl,hr,F.aY.bh,he];exact hK _
   rw [F.aY.ff];simp only [e0,e3,e5,e6,ia,lr,br,reduceAdd,reduceEqDiff,reduceIte,bu hk,bt s.aQ hk,mM hv,qv hv,hy]
   cases decide ((1500:Int)<y) with
   |true=>
    simp only [aA];rw [zQ];exact ret _ rfl
   |false=>
   simp only [ax]
   cases decide ((1000:Int)<(r.name.length:Int)) with
   |true=>
    simp only [aA];rw [zQ];exact ret _ rfl
   |false=>
   simp only [ax];refine aI 0 r.aP.l.length (zero_le _) (fun j e h3=>h3=h2/\e 0 = .slice b 0 1 2/\(∃ x:Int,e 3=I6 x)/\(∃ x:Int,e 4=I6 x)/\e 5=I6 ((0:Nat):Int)/\e 6=I6 (k:Int)/\e 7=I6 (j:Int)) ⟨rfl,e0,⟨y,rfl⟩,e4,e5,e6,rfl⟩ ?_ ?_
   ·rintro j e h3 _ hj ⟨rfl,e0,e3,⟨x4,e4⟩,e5,e6,e7⟩ K3 KC Ei Jg RQ;have ht:r.aP.l[j]?=some r.aP.l[j]:=fc hj;generalize r.aP.l[j]=t at ht;obtain ⟨z,hz⟩:=oM x4 (t.l.length:Int);rw [F.aY.AW];simp only [e0,e4,e5,e6,e7,ia,lr,br,reduceAdd,reduceEqDiff,reduceIte,bt s.aQ hk,mM hv,bu hj,bt r.aP hj,fy ht,hz,aN hj JT.2.1];exact KC _ _ ⟨rfl,e0,e3,⟨z,rfl⟩,e5,e6,rfl⟩
   ·rintro e h3 ⟨rfl,e0,e3,e4,e5,e6,e7⟩ K3 Ei;rw [F.aY.AW];simp only [e0,e5,e6,e7,ia,lr,br,reduceAdd,reduceEqDiff,reduceIte,bt s.aQ hk,mM hv,bf];rw [Ei,F.aY.vt];simp only [br,reduceAdd,reduceEqDiff,reduceIte,e6,aN hk hs.1];exact A2 _ _ ⟨rfl,e0,e3,e4,e5,rfl⟩
  ·rintro e h2 ⟨rfl,e0,e3,e4,e5,e6⟩ K2 gY;rw [F.aY.ff];simp only [e0,e5,e6,ia,lr,br,reduceAdd,reduceEqDiff,reduceIte,bf];rw [gY,F.aY.dL];simp only [br,reduceAdd,reduceEqDiff,reduceIte,e5,aN hi (show (1:Nat)<=dx by unfold dx;omega)];exact hn _ _ ⟨rfl,e0,e3,e4,rfl⟩
 ·rintro e h' ⟨rfl,e0,e3,e4,e5⟩ K' hx;rw [F.aY.aT];simp only [e0,e5,hl,br,reduceAdd,reduceEqDiff,reduceIte,bf];rw [hx];exact num _ e4
inductive Own {α:Type} (enc:α->List AV) (sz k:Nat) (h:Heap):AV->List α->Prop
 |nil:Own enc sz k h .aE []
 |row (b:Nat) (l:List α):k<=b->b<h.next->h.get b=sC (l.flatMap enc)->Own enc sz k h (.slice b 0 l.length sz) l
variable {α:Type} {enc:α->List AV} {sz k:Nat}
theorem Own.len{h h':Heap}{a:AV}{l:List α}(o:Own enc sz k h a l):bB .slice a h'=some (I6 (l.length:Int)):=by
 cases o<;>rfl
theorem Own.ext{h h':Heap}{a:AV}{l:List α}(o:Own enc sz k h a l)(hx:aX h h'):Own enc sz k h' a l:=by
 cases o with
 |nil=>exact .nil
 |row b l h1 h2 h3=>exact .row b l h1 (Nat.lt_of_lt_of_le h2 hx.next) (by rw [hx.get b h2];exact h3)
theorem Own.get{h:Heap}{a:AV}{l:List α}(o:Own enc sz k h a l)(he:∀ x,(enc x).length=sz){i:Nat}{v:α}(hv:l[i]?=some v) :
  ∃ b,k<=b/\b<h.next/\(∀ q:IntKind,iZ sz a (.int q (i:Int))=some (.ptr b (i*sz)))/\au (some sz) (.ptr b (i*sz)) h=some (.agg (enc v))/\∀ m,m<sz->au none (.ptr b (i*sz+m)) h=(enc v)[m]?:=by
 cases o with
 |nil=>simp at hv
 |row b l h1 h2 h3=>
  have hi:=(fR.1 hv).1;refine ⟨b,h1,h2,fun q=>by simp [iZ,asNat,hi],?_,fun m hm=>by rw [ai h3,qZ,jS he l i m v hv hm]⟩;rw [ai h3];have hp:=kZ he l i v hv;simp only [ir]
  have hlen:i*sz+sz<=(l.flatMap enc).length:=by
   rw [er he];have:(i+1)*sz<=l.length*sz:=mul_le_mul_right sz hi;rw [succ_mul] at this;exact this
  rw [if_pos (by simpa using hlen),hp]
end
end Go.AM
namespace Go.AM
open List Nat Bool Option
open Go Go.Proofs
noncomputable section
variable {h:Heap} {i b ck sz:Nat} {D:bI->Option (Nat×List Bool)} {es:List Entry} {K:Out->Heap->Bool} {c:fG} {α:Type} {a:AV} {m:dV} {y:bI×Int} {d:List Bool} {g:Gate} {t:List Int} {v:Bool} {r:Rel}
section
variable {α:Type} {enc:α->List AV} {sz k:Nat}
structure Row (enc:α->List AV) (sz:Nat) (h:Heap) (x:AV) (l:List α):Prop where
 len:iB x=some l.length
 cells:fM sz l.length x h=some (l.flatMap enc)
theorem yf(he:∀ x,(enc x).length=sz):∀ (l:List α) (i:Nat),(l.flatMap enc).take (i*sz)=(l.take i).flatMap enc
 |[],i=>by simp
 |x :: l,0=>by simp
 |x :: l,i+1=>by
  rw [flatMap_cons,take_succ_cons,flatMap_cons,take_append,he,succ_mul,Nat.add_sub_cancel,yf he l i,yA (by rw [he];omega)]
theorem yg(he:∀ x,(enc x).length=sz):∀ (l:List α) (i:Nat),(l.flatMap enc).drop (i*sz)=(l.drop i).flatMap enc
 |[],i=>by simp
 |x :: l,0=>by simp
 |x :: l,i+1=>by
  rw [flatMap_cons,drop_succ_cons,drop_append,he,succ_mul,Nat.add_sub_cancel,yg he l i,drop_of_length_le (by rw [he];omega),nil_append]
theorem Own.HA{l:List α}(o:Own enc sz k h a l)(he:∀ x,(enc x).length=sz)(hi:i<=l.length) :
  ∃ x,(∀ q:IntKind,eX (some sz) a none (some (.int q (i:Int)))=some x)/\∀ h',aX h h'->Row enc sz h' x (l.take i):=by
 cases o with
 |nil=>simp at hi;subst hi;exact ⟨.aE,fun q=>by simp [eX,iB,j5,asNat],fun h' _=>⟨rfl,rfl⟩⟩
 |row b l h1 h2 h3=>
  refine ⟨.slice b 0 i sz,fun q=>by simp [eX,iB,j5,asNat,hi],fun h' hx=>⟨by simp [iB,Nat.min_eq_left hi],?_⟩⟩;have NQ:h'.get b=sC (l.flatMap enc):=by rw [hx.get b h2];exact h3
  have hl:(l.flatMap enc).length=l.length*sz:=er he l;have hm:(l.take i).length=i:=by rw [length_take,Nat.min_eq_left hi]
  simp only [fM,NQ,if_true,Nat.zero_add,hl,hm,drop_zero];rw [if_pos (mul_le_mul_right sz hi),yf he]
theorem Own.HB{l:List α}(o:Own enc sz k h a l)(he:∀ x,(enc x).length=sz)(hi:i<=l.length) :
  ∃ x,(∀ q:IntKind,eX (some sz) a (some (.int q (i:Int))) none=some x)/\∀ h',aX h h'->Row enc sz h' x (l.drop i):=by
 cases o with
 |nil=>simp at hi;subst hi;exact ⟨.aE,fun q=>by simp [eX,iB,j5,asNat],fun h' _=>⟨rfl,rfl⟩⟩
 |row b l h1 h2 h3=>
  refine ⟨.slice b (i*sz) (l.length-i) sz,fun q=>by simp [eX,iB,j5,asNat,hi],fun h' hx=>⟨by simp [iB],?_⟩⟩;have NQ:h'.get b=sC (l.flatMap enc):=by rw [hx.get b h2];exact h3
  have hl:(l.flatMap enc).length=l.length*sz:=er he l;have hm:(l.drop i).length=l.length-i:=by rw [length_drop]
  simp only [fM,NQ,if_true,hl,hm];have hle:i*sz+(l.length-i)*sz<=l.length*sz:=by rw [<- Nat.add_mul];exact mul_le_mul_right sz (by omega)
  rw [if_pos hle,yg he,yA];rw [er he,hm];exact dR _
theorem mN(h1:∀ x,bw (enc x)=true):∀ l:List α,bw (l.flatMap enc)=true
 |[]=>rfl
 |x :: l=>by
  have app:∀ a b:List AV,bw a=true->bw b=true->bw (a++b)=true:=by
   intro a b ha hb
   induction a with
   |nil=>exact hb
   |cons y a ih=>
    simp only [bw,cons_append,and_eq_true] at ha ⊢;exact ⟨ha.1,ih ha.2⟩
  rw [flatMap_cons];exact app _ _ (h1 x) (mN h1 l)
def cC:AV->Option Nat
 |.slice b _ _ _=>some b
 |_=>none
theorem Own.append{x:AV}{l m:List α}(o:Own enc sz k h a l)(he:∀ x,(enc x).length=sz)(h1:∀ x,bw (enc x)=true)(r:Row enc sz h x m)(hk:k<=h.next){bytes:Nat}(hroom:(l.length+m.length)*bytes<=dg) :
  ∃ a' h',bP sz bytes a x h=some (a',h')/\Own enc sz k h' a' (l++m)/\(∀ c,c<h.next->cC a≠some c->h'.get c=h.get c)/\h.next<=h'.next/\(m≠[]->∀ c,cC a'=some c->h.next<=c):=by
 cases o with
 |nil=>
  rw [length_nil,Nat.zero_add] at hroom
  cases m with
  |nil=>
   refine ⟨.aE,h,?_,.nil,fun _ _ _=>rfl,dR _,fun h=>absurd rfl h⟩;have hc:=r.cells;have hl:=r.len;simp only [length_nil] at hc hl;simp [bP,hl,hc]
  |cons y m=>
   refine ⟨.slice h.next 0 (y :: m).length sz,h.alloc (.cells ((y :: m).flatMap enc)),?_,.row _ _ hk (lt_succ_self _) (ay _ _),fun c hc _=>by rw [Heap.aD,if_neg (by omega)],le_succ _,fun _ c hc=>by cases hc;exact dR _⟩;have h0:¬ (y :: m).length=0:=by simp
   simp only [bP,r.len,r.cells,if_neg h0];rw [if_pos (by rw [and_eq_true];exact ⟨fS hroom,mN h1 _⟩)]
 |row b l hb1 hb2 hb3=>
  cases m with
  |nil=>
   rw [append_nil];refine ⟨.slice b 0 l.length sz,h,?_,.row b l hb1 hb2 hb3,fun _ _ _=>rfl,dR _,fun h=>absurd rfl h⟩;have hc:=r.cells;have hl:=r.len;simp only [length_nil] at hc hl;simp [bP,hl,hc]
  |cons y m=>
   have h0:¬ (y :: m).length=0:=by simp
   have hl:(l.flatMap enc).length=l.length*sz:=er he l;refine ⟨.slice h.next 0 (l++y :: m).length sz,(h.set b .dead).alloc (.cells ((l++y :: m).flatMap enc)),?_,.row _ _ hk ?_ ?_,fun c hc hne=>?_,?_,fun _ c hc=>by cases hc;exact dR _⟩
   ·simp only [bP,r.len,r.cells,if_neg h0,if_true,hb3,drop_zero,Nat.zero_add];rw [if_pos (by rw [and_eq_true,and_eq_true];exact ⟨⟨fS hroom,mN h1 _⟩,fS (by omega)⟩),<- hl,take_length,flatMap_append,length_append]
   ·rw [Heap.aR,Heap.bl];omega
   ·have:=ay (h.set b .dead) (.cells ((l++y :: m).flatMap enc))
    rwa [Heap.bl] at this
   ·rw [Heap.aD,Heap.bl,if_neg (by omega),Heap.aK,if_neg (fun e=>hne (by rw [e];rfl))]
   ·rw [Heap.aR,Heap.bl];omega
end
theorem vT(s:bI):bw (encS s)=true:=rfl
def strLt(a b:bI):Bool:=Op.bytesLess a b
def dQ:List bI->bI->List bI
 |[],s=>[s]
 |x :: l,s=>if strLt x s=true then x :: dQ l s else if x=s then x :: l else s :: x :: l
theorem HC(a b:bI):aC .lss (.str a) (.str b)=some (.bool (strLt a b)):=by simp [aC,strLt]
theorem HD(a b:bI):(a==b)=decide (a=b):=by
 by_cases h:a=b
 ·subst h;simp
 ·rw [fB h];simp [h]
theorem A3{l:List bI}{x s:bI}(hx:l[i]?=some x):l.take i++dQ (l.drop i) s=if strLt x s=true then l.take (i+1)++dQ (l.drop (i+1)) s else if x=s then l else l.take i++(s :: l.drop i):=by
 have h1:=(fR.1 hx).1
 have hd:l.drop i=x :: l.drop (i+1):=by
  rw [drop_eq_getElem_cons h1];rw [fc h1] at hx;cases hx;rfl
 rw [hd,dQ];split
 ·rw [take_add_one,hx];simp
 ·split
  ·rw [<- hd,take_append_drop]
  ·rfl
theorem Own.ge{enc:α->List AV}{k:Nat}{l:List α}(o:Own enc sz k h a l){c:Nat}(hc:cC a=some c):k<=c:=by
 cases o with
 |nil=>cases hc
 |row b l h1 _ _=>cases hc;exact h1
theorem Own.zC{enc:α->List AV}{k j:Nat}{l:List α}(o:Own enc sz k h a l)(hj:j<=k):Own enc sz j h a l:=by
 cases o with
 |nil=>exact .nil
 |row b l h1 h2 h3=>exact .row b l (Nat.le_trans hj h1) h2 h3
theorem oO:∀ (l:List bI) (s:bI),(dQ l s).length<=l.length+1
 |[],s=>dR _
 |x :: l,s=>by
  rw [dQ];split
  ·simp only [length_cons];have:=oO l s;omega
  ·split<;>simp
theorem cr{k:Nat}{h:Heap}{a:AV}{l:List bI}{s:bI}(o:Own encS 1 k h a l)(hk:k<=h.next)(hl:l.length<=100000){K:Out->Heap->Bool}
  (hK:∀ a' h',aX h h'->Own encS 1 k h' a' (dQ l s)->K (.ret a') h'=true):Sem TP 139 [a,.str s] h K:=by
 have hbig:l.length<=dx:=by unfold dx;omega
 refine F.rI ?_;rw [F.tC]
 have app:∀ i,i<=l.length->dQ l s=l.take i++(s :: l.drop i)->∀ e:Env,e 0=a->e 1 = .str s->e 5=I6 (i:Int) ->
   (af (eY [] [] []) fun PL=>
    af (eX (some 1) (e 0) none (some (e 5))) fun LN=>
    af (eY [(.str [])] [(0,1)] [(e 1)]) fun RR=>
    af (eX (some 1) (e 0) (some (e 5)) none) fun PM=>
    cT (bP 1 16 (.slice (Heap.next h) 0 0 1) LN (Heap.alloc (Heap.alloc h (.cells PL)) (.cells RR))) fun O4 RT=>
    cT (bP 1 16 O4 (.slice (Heap.next (Heap.alloc h (.cells PL))) 0 1 1) RT) fun RU RV=>
    cT (bP 1 16 RU PM RV) fun RW RX=>
    K (.ret RW) RX)=true:=by
  intro i hi he e e0 e1 e5;obtain ⟨LN,NR,RY⟩:=o.HA jE hi;obtain ⟨PM,NS,RZ⟩:=o.HB jE hi;rw [show eY [] [] []=some [] from rfl];simp only [cN,e0,e1,e5,NR,NS];rw [show eY [(.str [])] [(0,1)] [.str s]=some [.str s] from rfl];simp only [cN];have Cg:aX h (Heap.alloc (Heap.alloc h (.cells [])) (.cells [.str s])):=(aX.alloc _ _).trans (aX.alloc _ _)
  have g0:(Heap.alloc (Heap.alloc h (.cells [])) (.cells [.str s])).get h.next=sC []:=by
   rw [Heap.aD,Heap.aR,if_neg (by omega)];exact ay _ _
  have g1:(Heap.alloc (Heap.alloc h (.cells [])) (.cells [.str s])).get (h.next+1)=sC [.str s]:=ay _ _;have gn:(Heap.alloc (Heap.alloc h (.cells [])) (.cells [.str s])).next=h.next+2:=rfl
  rw [Heap.aR];generalize (Heap.alloc (Heap.alloc h (.cells [])) (.cells [.str s]))=H at Cg g0 g1 gn ⊢;have o0:Own encS 1 h.next H (.slice h.next 0 0 1) ([]:List bI):=.row h.next [] (dR _) (by omega) g0
  have hm:dg=140737488355328:=rfl;have lt:(l.take i).length=i:=by rw [length_take,Nat.min_eq_left hi]
  have ld:(l.drop i).length=l.length-i:=length_drop;obtain ⟨a1,h1,p1,o1,f1,n1,_⟩:=o0.append jE vT (RY H Cg) (by omega) (bytes:=16) (by rw [hm,lt,length_nil];omega);simp only [p1,dJ];have q1:h1.get (h.next+1)=sC [.str s]:=by rw [f1 _ (by omega) (by simp [cC])];exact g1
  have rs:Row encS 1 h1 (.slice (h.next+1) 0 1 1) [s]:=⟨rfl,by simp [fM,q1,encS]⟩
  have NT:aX h h1:=⟨by have:=Cg.next;omega,fun c hc=>by rw [f1 c (by omega) (by simp [cC];omega)];exact Cg.get c hc⟩
  obtain ⟨a2,h2,p2,o2,f2,n2,_⟩:=o1.append jE vT rs (by omega) (bytes:=16) (by rw [hm,nil_append,lt];simp;omega);simp only [p2,dJ];have LO:aX h h2:=⟨by have:=NT.next;omega,fun c hc=>by rw [f2 c (by have:=NT.next;omega) (fun hb=>by have:=o1.ge hb;omega)];exact NT.get c hc⟩
  obtain ⟨a3,h3,p3,o3,f3,n3,_⟩:=o2.append jE vT (RZ h2 LO) (by have:=LO.next;omega) (bytes:=16) (by rw [hm,ld,nil_append,length_append,lt];simp;omega);simp only [p3,dJ];have R2:aX h h3:=⟨by have:=LO.next;omega,fun c hc=>by rw [f3 c (by have:=LO.next;omega) (fun hb=>by have:=o2.ge hb;omega)];exact LO.get c hc⟩
  refine hK a3 h3 R2 ?_;rw [he];have:=o3.zC hk;rw [nil_append,append_assoc] at this;exact this
 have get:∀ (i:Nat) (x:bI),l[i]?=some x->∃ b,(∀ q:IntKind,iZ 1 a (.int q (i:Int))=some (.ptr b (i*1)))/\au none (.ptr b (i*1)) h=some (.str x):=fun i x hx=>by
  obtain ⟨b,_,_,h3,_,h5⟩:=o.get jE hx;exact ⟨b,h3,by have:=h5 0 (by omega);rw [Nat.add_zero] at this;rw [this];rfl⟩
 refine aI 0 l.length (zero_le _) (fun i e h'=>h'=h/\e 0=a/\e 1 = .str s/\e 5=I6 (i:Int)/\dQ l s=l.take i++dQ (l.drop i) s) ⟨rfl,rfl,rfl,rfl,rfl⟩ ?_ ?_
 ·rintro i e h' _ hi ⟨rfl,e0,e1,e5,ht⟩ K' hn hx hr hp;have hv:l[i]?=some l[i]:=fc hi;generalize l[i]=x at hv;obtain ⟨b,g1,g2⟩:=get i x hv;rw [A3 hv] at ht;rw [F.cr.aT];simp only [e0,e1,e5,o.len,br,reduceAdd,reduceEqDiff,reduceIte,bu hi,g1,g2,HC]
  cases hlt:strLt x s with
  |true=>
   rw [if_pos hlt] at ht;simp only [aA,aN hi hbig,cN];exact hn _ _ ⟨rfl,e0,e1,rfl,ht⟩
  |false=>
   rw [if_neg (by rw [hlt];decide)] at ht;simp only [ax];rw [hx,F.cr.aF];simp only [br,reduceAdd,reduceEqDiff,reduceIte,e0,e1,e5,o.len,bu hi,g1,g2,aA,HD];by_cases GA:x=s
   ·rw [if_pos GA] at ht;simp only [fS GA,aA];exact hK _ _ (aX.refl _) (by rw [ht];exact o)
   ·rw [if_neg GA] at ht;simp only [fB GA,ax];have:=app i (Nat.le_of_lt hi) ht e e0 e1 e5;simp only [e0,e1,e5] at this;exact this
 ·rintro e h' ⟨rfl,e0,e1,e5,ht⟩ K' hx;rw [F.cr.aT];simp only [e0,e5,o.len,br,reduceAdd,reduceEqDiff,reduceIte,bf];rw [hx,F.cr.aF];simp only [br,reduceAdd,reduceEqDiff,reduceIte,e0,e1,e5,o.len,bf,ax];have:=app l.length (dR _) (by rw [ht,drop_of_length_le (dR _)];rfl) e e0 e1 e5;simp only [e0,e1,e5] at this;exact this
structure gN (es:List Entry) (ck:Nat):Prop where
 nodup:(es.map (·.2.2)).Nodup
 lt:∀ e ∈ es,e.2.2<ck
theorem gN.nil(ck:Nat):gN [] ck:=⟨nodup_nil,fun _ h=>by cases h⟩
theorem gN.push(b:gN es ck)(k v:AV):gN (es++[(k,v,ck)]) (ck+1):=by
 refine ⟨?_,fun e he=>?_⟩
 ·rw [map_append,nodup_append];refine ⟨b.nodup,by simp,fun a ha c hc=>?_⟩;rw [mem_map] at ha;obtain ⟨e,he,rfl⟩:=ha;have:=b.lt e he;simp at hc;omega
 ·rw [mem_append] at he;rcases he with he|he
  ·have:=b.lt e he;omega
  ·simp at he;rw [he];exact lt_succ_self _
theorem A4(es:List Entry)(i:Nat)(v:AV):(cX es i v).map (·.2.2)=es.map (·.2.2):=by
 unfold cX
 cases h:es[i]? with
 |none=>rfl
 |some e=>
  simp only [map_set];apply ext_getElem?;intro j;by_cases hj:i=j
  ·subst hj;have hi:=(fR.1 h).1;rw [getElem?_set_self (by simpa using hi),getElem?_map,h];rfl
  ·rw [getElem?_set_ne hj]
theorem gN.set(b:gN es ck)(i:Nat)(v:AV):gN (cX es i v) ck:=by
 refine ⟨by rw [A4];exact b.nodup,fun e he=>?_⟩;have:e.2.2 ∈ (cX es i v).map (·.2.2):=List.mem_map_of_mem he;rw [A4,mem_map] at this;obtain ⟨e',GV,h⟩:=this;rw [<- h];exact b.lt e' GV
theorem xx{d:TypeDesc}{h':Heap}{kS:List Entry}{mA:Nat}{k v:AV}(hb:h.get b=some (.map es ck))(hB:gN es ck)(hu:cF d (.map b) k v h=some h')(hg:h'.get b=some (.map kS mA)):gN kS mA:=by
 simp only [cF,hb] at hu;split at hu
 ·cases hu;rw [Heap.aK,if_pos rfl] at hg;cases hg;exact hB.set _ _
 ·cases hu;rw [Heap.aK,if_pos rfl] at hg;cases hg;exact hB.push k v
 ·cases hu
theorem mO(hn:(es.map (·.2.2)).Nodup){e:Entry}(he:e ∈ es):gQ e.2.2 es=some e:=by
 induction es with
 |nil=>cases he
 |cons a es ih=>
  rw [map_cons,nodup_cons] at hn;rw [gQ];by_cases h:a.2.2=e.2.2
  ·rw [if_pos h];rw [mem_cons] at he;rcases he with rfl|he
   ·rfl
   ·exact absurd (by rw [h];exact List.mem_map_of_mem he) hn.1
  ·rw [if_neg h];rw [mem_cons] at he;rcases he with rfl|he
   ·exact absurd rfl h
   ·exact ih hn.2 he
theorem vU{defs:List j6}{K:R->Bool}:∀ {ps:List (AV×Heap)},(∀ p ∈ ps,K (.ok p.1 defs p.2)=true)->jg defs K ps=true
 |[],_=>rfl
 |p :: ps,h=>by
  rw [jg,h p mem_cons_self,Bool.true_and];exact vU fun q hq=>h q (mem_cons_of_mem _ hq)
theorem F3{r m:Nat}{seen:List Nat}{defs:List j6}{K:R->Bool}(hr:h.get r=some (.dX (some m) ck seen ck))(hm:h.get m=some (.map es ck))(hB:gN es ck)(HE:r≠m)
  (LP:(∀ e ∈ es,e.2.2 ∈ seen)->K (.ok (.tuple [bF]) defs h)=true)
  (mw:∀ e ∈ es,e.2.2 ∉ seen->qL (.ptr r 0) (h.set r (.dX (some m) ck (seen++[e.2.2]) ck))=some (.tuple [e.1,e.2.1])->K (.ok (.tuple [bT,e.1,e.2.1]) defs (h.set r (.dX (some m) ck (seen++[e.2.2]) ck)))=true) :
  af (uq false (.ptr r 0) h) (jg defs K)=true:=by
 have hc:∀ o ∈ lZ es ck seen,(o=none/\∀ e ∈ es,e.2.2 ∈ seen)\/∃ e,o=some e/\e ∈ es/\e.2.2 ∉ seen:=by
  intro o ho;unfold lZ at ho;simp only [mem_append,mem_map] at ho;rcases ho with ho|⟨e,he,rfl⟩
  ·split at ho
   ·rename_i PN;simp only [mem_singleton] at ho;refine .inl ⟨ho,fun e he=>?_⟩;rw [isEmpty_iff,filter_eq_nil_iff] at PN;have hlt:=hB.lt e he;by_cases hs:e.2.2 ∈ seen
    ·exact hs
    ·exact absurd (fS hlt) (PN e (by rw [mem_filter];exact ⟨he,by simpa using hs⟩))
   ·cases ho
  ·refine .inr ⟨e,rfl,?_⟩
   have:e ∈ es.filter fun e=>!seen.contains e.2.2:=by
    rcases he with he|he
    ·exact (mem_filter.1 he).1
    ·exact (mem_filter.1 he).1
   rw [mem_filter] at this;exact ⟨this.1,by simpa using this.2⟩
 have hne:lZ es ck seen≠[]:=by
  unfold lZ;intro he;simp only [append_eq_nil_iff,map_eq_nil_iff] at he;obtain ⟨h1,h2,_⟩:=he;rw [h2] at h1;simp at h1
 have JW:(!seen.isEmpty&&!es.isEmpty&&es.all (fun e=>decide (e.2.2>=ck)))=false:=by
  cases es with
  |nil=>simp
  |cons e es=>
   have:=hB.lt e mem_cons_self;rw [all_cons,fB (by omega),Bool.false_and,Bool.and_false]
 unfold uq;simp only [hr,hm,JW,false_eq_true,if_false]
 cases hcs:lZ es ck seen with
 |nil=>exact absurd hcs hne
 |cons c cs=>
  rw [hcs] at hc;simp only [cN];refine vU fun p hp=>?_;rw [mem_map] at hp;obtain ⟨o,ho,rfl⟩:=hp;rcases hc o ho with ⟨rfl,kV⟩|⟨e,rfl,he,hs⟩
  ·exact LP kV
  ·refine mw e he hs ?_;unfold qL;simp only [Heap.aK,if_true,if_neg (Ne.symm HE),hm,getLast?_concat,mO hB.nodup he]
abbrev iM:=List (bI×AV)
def iM.find(m:iM)(k:bI):Option AV:=(List.find? (fun p=>k==p.1) m).map (·.2)
def iM.lU:iM->bI->AV->iM
 |[],k,v=>[(k,v)]
 |p :: m,k,v=>if k==p.1 then (p.1,v) :: m else p :: iM.lU m k v
def lX:List Entry->iM->Prop
 |[],[]=>True
 |e :: es,p :: m=>e.1 = .str p.1/\e.2.1=p.2/\lX es m
 |_,_=>False
theorem lX.gP{k:bI}:∀ {es:List Entry} {m:iM} (i:Nat),lX es m->∃ r,gP .string (.str k) es i=some r/\match r with
  |none=>m.find k=none
  |some (j,v)=>∃ n,j=i+n/\m.find k=some v/\∀ w,lX (cX es n w) (m.lU k w)
 |[],[],i,_=>⟨none,rfl,rfl⟩
 |e :: es,p :: m,i,⟨h1,h2,h3⟩=>by
  obtain ⟨ek,ev,en⟩:=e;simp only at h1 h2;subst h1;subst h2;by_cases hk:k=p.1
  ·subst hk;refine ⟨some (i,p.2),by simp [Go.AM.gP,nH],0,rfl,by simp [iM.find],fun w=>?_⟩;simp [cX,lX,iM.lU,h3]
  ·obtain ⟨r,hr,hm⟩:=lX.gP (k:=k) (i+1) h3;have Lv:(k==p.1)=false:=by simpa using hk
   refine ⟨r,by simp only [Go.AM.gP,nH,Lv,hr],?_⟩
   cases r with
   |none=>simpa [iM.find,hk] using hm
   |some jv=>
    obtain ⟨n,a,b,e⟩:=hm;refine ⟨n+1,by omega,by simpa [iM.find,hk] using b,fun w=>?_⟩;have:=e w;simp only [cX,getElem?_cons_succ,iM.lU,Lv] at this ⊢;split at this<;>simp_all [lX]
theorem lX.append{m:iM}(h:lX es m){k:bI}(hk:m.find k=none)(v:AV)(n:Nat):lX (es++[(.str k,v,n)]) (m.lU k v):=by
 induction es generalizing m with
 |nil=>cases m with
  |nil=>simp [lX,iM.lU]
  |cons p m=>exact h.elim
 |cons e es ih=>cases m with
  |nil=>exact h.elim
  |cons p m=>
   obtain ⟨h1,h2,h3⟩:=h;have hne:k≠p.1:=fun e=>by subst e;simp [iM.find] at hk
   have No:iM.find m k=none:=by simpa [iM.find,hne] using hk
   have:=ih h3 No;simp only [cons_append,iM.lU];rw [if_neg (by simpa using hne)];exact ⟨h1,h2,this⟩
theorem jX{m:iM}(hb:h.get b=some (.map es ck))(hm:lX es m)(z:AV)(k:bI) :
  dy .string z false (.map b) (.str k) h=some ((m.find k).getD z):=by
 obtain ⟨r,hr,rf⟩:=lX.gP (k:=k) 0 hm;simp only [dy,iT,hb,lJ,lI,if_true,hr]
 cases r with
 |none=>simp at rf;simp [rf]
 |some jv=>
  obtain ⟨n,_,b,_⟩:=rf;obtain ⟨j,v⟩:=jv;simp [b]
theorem sQ{m:iM}(hb:h.get b=some (.map es ck))(hm:lX es m)(k:bI)(v:AV) :
  ∃ kS mA,cF .string (.map b) (.str k) v h=some (h.set b (.map kS mA))/\lX kS (m.lU k v):=by
 obtain ⟨r,hr,rf⟩:=lX.gP (k:=k) 0 hm;simp only [cF,hb,lJ,lI,if_true,hr]
 cases r with
 |none=>simp at rf;exact ⟨_,_,rfl,hm.append rf v ck⟩
 |some jv=>
  obtain ⟨n,hj,_,e⟩:=rf;obtain ⟨j,w⟩:=jv;simp only [Nat.zero_add] at hj;subst hj;exact ⟨_,_,rfl,e v⟩
theorem vV(m:iM)(k j:bI)(v:AV):(m.lU k v).find j=if j=k then some v else m.find j:=by
 induction m with
 |nil=>
  simp only [iM.lU,iM.find,find?_cons,find?_nil];by_cases h:j=k
  ·subst h;simp
  ·have:(j==k)=false:=by simpa using h
   rw [this,if_neg h]
 |cons p m ih=>
  simp only [iM.lU];by_cases hk:k=p.1
  ·rw [if_pos (by simpa using hk)];subst hk;simp only [iM.find,find?_cons];by_cases h:j=p.1
   ·subst h;simp
   ·have:(j==p.1)=false:=by simpa using h
    rw [this,if_neg h]
  ·rw [if_neg (by simpa using hk)];simp only [iM.find,find?_cons] at ih ⊢;by_cases h:j=p.1
   ·subst h;simp only [beq_self_eq_true,map_some];rw [if_neg (Ne.symm hk)]
   ·have:(j==p.1)=false:=by simpa using h
    rw [this];exact ih
theorem vW{k:Nat}{l:List bI}(o:Own encS 1 k h a l){x:bI}(hx:l[i]?=some x) :
  ∃ b,b<h.next/\(∀ q:IntKind,iZ 1 a (.int q (i:Int))=some (.ptr b (i*1)))/\au none (.ptr b (i*1)) h=some (.str x):=by
 obtain ⟨b,_,h2,h3,_,h5⟩:=o.get jE hx;exact ⟨b,h2,h3,by have:=h5 0 (by omega);rw [Nat.add_zero] at this;rw [this];rfl⟩
theorem cy{k:Nat}{h:Heap}{a:AV}{l:List bI}{s:bI}(o:Own encS 1 k h a l)(hl:l.length<=dx){K:Out->Heap->Bool}(hK:K (.ret (.bool (l.any fun x=>x==s))) h=true):Sem TP 119 [a,.str s] h K:=by
 refine F.tu ?_;rw [F.vL];refine aI 0 l.length (zero_le _) (fun i e h'=>h'=h/\e 0=a/\e 1 = .str s/\e 5=I6 (i:Int)/\((l.take i).any fun x=>x==s)=false) ⟨rfl,rfl,rfl,rfl,rfl⟩ ?_ ?_
 ·rintro i e h' _ hi ⟨rfl,e0,e1,e5,ht⟩ K' hn hx hr hp;have hv:l[i]?=some l[i]:=fc hi;generalize l[i]=x at hv;obtain ⟨b,_,g1,g2⟩:=vW o hv;rw [F.cy.aT];simp only [e0,e1,e5,o.len,br,reduceAdd,reduceEqDiff,reduceIte,bu hi,g1,g2]
  cases hq:x==s with
  |true=>
   simp only [aA];rw [hr,F.cy.bh];simp only [lV,reduceEqDiff,reduceIte];rw [List.any_eq_true.2 ⟨x,iz hv,hq⟩] at hK;exact hK
  |false=>
   simp only [ax,aN hi hl,cN];exact hn _ _ ⟨rfl,e0,e1,rfl,A1 hv ht hq⟩
 ·rintro e h' ⟨rfl,e0,e1,e5,ht⟩ K' hx;rw [F.cy.aT];simp only [e0,e5,o.len,br,reduceAdd,reduceEqDiff,reduceIte,bf];rw [hx,F.cy.aF];rw [yA (dR _)] at ht;rw [ht] at hK;exact hK
structure iy where
 name:bI
 BE:Nat
 n:Nat
def xy(c:iy):List AV:=[I6 0,bF,.str c.name,.slice c.BE 0 c.n 1]
theorem A5(c:iy):(xy c).length=4:=rfl
theorem A6(c:iy):bw (xy c)=true:=rfl
structure sR (h:Heap) (rb:Nat) (k:Nat) (body:AV) (cs:List iy):Prop where
 get:h.get rb=sC [.str [],.aE,body]
 lt:rb<h.next
 own:Own xy 4 k h body cs
theorem sR.ext{h h':Heap}{rb k:Nat}{body:AV}{cs:List iy}(r:sR h rb k body cs)(hx:aX h h'):sR h' rb k body cs:=
 ⟨by rw [hx.get rb r.lt];exact r.get,Nat.lt_of_lt_of_le r.lt hx.next,r.own.ext hx⟩
theorem cA{h:Heap}{rb k:Nat}{body:AV}{cs:List iy}(r:sR h rb k body cs){K:Out->Heap->Bool}(hK:∀ a' h',aX h h'->Own encS 1 h.next h' a' [[]]->K (.ret a') h'=true):Sem TP 137 [.slice rb 0 1 3] h K:=by
 refine F.qm ?_;rw [F.rH];have hl:∀ h:Heap,bB .slice (.slice rb 0 1 3) h=some (I6 ((1:Nat):Int)):=fun _=>rfl;have ia:iZ 3 (.slice rb 0 1 3) (I6 ((0:Nat):Int))=some (.ptr rb 0):=rfl;have l0:au none (.ptr rb 0) h=some (.str []):=by rw [ai r.get];rfl
 refine aI 0 1 (zero_le _) (fun i e h'=>aX h h'/\e 0 = .slice rb 0 1 3/\e 4=I6 (i:Int)/\((i=0/\h'=h/\e 3 = .aE)\/(i=1/\Own encS 1 h.next h' (e 3) [[]]))) ⟨aX.refl _,rfl,rfl,.inl ⟨rfl,rfl,rfl⟩⟩ ?_ ?_
 ·rintro i e h' _ hi ⟨sK,e0,e4,hc⟩ K' hn hx hr hp;obtain rfl:i=0:=by omega
  rcases hc with ⟨_,rfl,e3⟩|⟨h1,_⟩
  ·rw [F.cA.aT];simp only [e0,e3,e4,hl,ia,l0,br,reduceAdd,reduceEqDiff,reduceIte,bu hi];refine ag (cr (k:=h'.next) (l:=[]) .nil (dR _) (by simp) fun a' h2 gY ho=>?_);simp only [br,reduceAdd,reduceEqDiff,reduceIte,aN hi (show (1:Nat)<=dx by unfold dx;omega)];exact hn _ _ ⟨gY,e0,rfl,.inr ⟨rfl,ho⟩⟩
  ·omega
 ·rintro e h' ⟨sK,e0,e4,hc⟩ K' hx;rcases hc with ⟨h1,_⟩|⟨_,ho⟩
  ·omega
  rw [F.cA.aT];simp only [e0,e4,hl,br,reduceAdd,reduceEqDiff,reduceIte,bf];rw [hx,F.cA.aF];exact hK _ _ sK ho
theorem Own.push{enc:α->List AV}{k:Nat}{l:List α}(o:Own enc sz k h a l)(he:∀ x,(enc x).length=sz)(h1:∀ x,bw (enc x)=true)(hk:k<=h.next){bytes:Nat}(hroom:(l.length+1)*bytes<=dg)(v:α) :
  ∃ a' h',bP sz bytes a (.slice h.next 0 1 sz) (h.alloc (.cells (enc v)))=some (a',h')/\Own enc sz k h' a' (l++[v])/\(∀ c,c<h.next->cC a≠some c->h'.get c=h.get c)/\h.next<=h'.next/\(∀ h0,aX h0 h->h0.next<=k->aX h0 h')/\∀ c,cC a'=some c->h.next<=c:=by
 have g:=ay h (.cells (enc v));have hn:(h.alloc (.cells (enc v))).next=h.next+1:=Heap.aR h _
 have hx:aX h (h.alloc (.cells (enc v))):=aX.alloc _ _
 have r:Row enc sz (h.alloc (.cells (enc v))) (.slice h.next 0 1 sz) [v]:=by
  refine ⟨rfl,?_⟩;have hl:(enc v).length=sz:=he v;simp only [fM,g,if_true,length_singleton,Nat.one_mul,Nat.zero_add,hl,dR,drop_zero];rw [<- hl,take_length];simp
 obtain ⟨a',h',p,o',f,n,hf⟩:=(o.ext hx).append he h1 r (by omega) (bytes:=bytes) (by simpa using hroom);have f':∀ c,c<h.next->cC a≠some c->h'.get c=h.get c:=fun c hc hb=>by rw [f c (by omega) hb];exact hx.get c hc
 refine ⟨a',h',p,o',f',by omega,fun h0 e0 Tp=>⟨by have:=e0.next;omega,fun c hc=>?_⟩,fun c hc=>by have:=hf (by simp) c hc;omega⟩;rw [f' c (by have:=e0.next;omega) (fun hb=>by have:=o.ge hb;omega)];exact e0.get c hc
def iX(y:bI×Int):List AV:=[.str y.1,I6 y.2]
theorem kK(y:bI×Int):(iX y).length=2:=rfl
theorem vX(y:bI×Int):bw (iX y)=true:=rfl
def zD(c:iy):bI×Int:=(c.name,(c.n:Int))
def dh(cs:List iy):List (bI×Int):=([],0) :: cs.map zD
theorem Cs{cs:List iy}{c:iy}(hc:cs[i]?=some c):dh (cs.take (i+1))=dh (cs.take i)++[zD c]:=by
 simp only [dh,take_add_one,hc];simp
theorem F4(s:bI)(n:Int):ko [.str [],I6 0] [(0,1),(1,1)] [.str s,I6 n]=some (.agg (iX (s,n))):=rfl
theorem F5(y:bI×Int):eY [.str [],I6 0] [(0,2)] [.agg (iX y)]=some (iX y):=rfl
theorem IN{k:Nat}{l:List (bI×Int)}(o:Own iX 2 k h a l)(hy:l[i]?=some y) :
  ∃ b,b<h.next/\(∀ q:IntKind,iZ 2 a (.int q (i:Int))=some (.ptr b (i*2)))/\au none (.ptr b (i*2)) h=some (.str y.1)/\au none (.ptr b (i*2+1)) h=some (I6 y.2):=by
 obtain ⟨b,_,h2,h3,_,h5⟩:=o.get kK hy;exact ⟨b,h2,h3,by have:=h5 0 (by omega);rw [Nat.add_zero] at this;rw [this];rfl,by rw [h5 1 (by omega)];rfl⟩
theorem bE{h:Heap}{rb k:Nat}{body:AV}{cs:List iy}(r:sR h rb k body cs)(hcs:cs.length<=100000){K:Out->Heap->Bool}(hK:∀ a' h',aX h h'->Own iX 2 h.next h' a' (dh cs)->K (.ret a') h'=true):Sem TP 138 [.slice rb 0 1 3] h K:=by
 have hbig:cs.length<=dx:=by unfold dx;omega
 have R3:(1:Nat)<=dx:=by unfold dx;omega
 have hm:dg=140737488355328:=rfl;refine F.tw ?_;rw [F.vM];have hl:∀ h:Heap,bB .slice (.slice rb 0 1 3) h=some (I6 ((1:Nat):Int)):=fun _=>rfl;have ia:iZ 3 (.slice rb 0 1 3) (I6 ((0:Nat):Int))=some (.ptr rb 0):=rfl;have NU:∀ h:Heap,bB .slice .aE h=some (I6 0):=fun _=>rfl;refine aI 0 1 (zero_le _) (fun i e h'=>aX h h'/\e 0 = .slice rb 0 1 3/\e 4=I6 (i:Int)/\((i=0/\h'=h/\e 3 = .aE)\/(i=1/\Own iX 2 h.next h' (e 3) (dh cs)))) ⟨aX.refl _,rfl,rfl,.inl ⟨rfl,rfl,rfl⟩⟩ ?_ ?_
 ·rintro i e h' _ hi ⟨sK,e0,e4,hc⟩ K' hn hx hr hp;obtain rfl:i=0:=by omega
  rcases hc with ⟨_,rfl,e3⟩|⟨h1,_⟩
  ·have l0:au none (.ptr rb 0) h'=some (.str []):=by rw [ai r.get];rfl
   have l1:au none (.ptr rb 1) h'=some .aE:=by rw [ai r.get];rfl
   rw [F.bE.aT];simp only [e0,e3,e4,hl,ia,l0,l1,NU,br,reduceAdd,reduceEqDiff,reduceIte,bu hi,F4,F5];obtain ⟨a1,h1,p1,o1,f1,n1,x1,_⟩:=(Own.nil (enc:=iX) (sz:=2) (k:=h'.next) (h:=h')).push kK vX (dR _) (bytes:=24) (by rw [hm];simp) ([],0);simp only [p1,dJ];refine aI 0 cs.length (zero_le _) (fun j e h2=>aX h' h2/\e 0 = .slice rb 0 1 3/\e 4=I6 ((0:Nat):Int)/\e 5=I6 (j:Int)/\Own iX 2 h'.next h2 (e 3) (dh (cs.take j))) ⟨x1 _ (aX.refl _) (dR _),e0,e4,rfl,o1⟩ ?_ ?_
   ·rintro j e h2 _ hj ⟨gY,e0,e4,e5,o⟩ K2 A2 PO zy PR;have hv:cs[j]?=some cs[j]:=fc hj;generalize cs[j]=c at hv;have r2:=r.ext gY;have l2:au none (.ptr rb 2) h2=some body:=by rw [ai r2.get];rfl
    obtain ⟨b,_,_,g3,g4,_⟩:=r2.own.get A5 hv;obtain ⟨H,wM,q1,go,gn⟩:=eG (h:=h2) (zs:=[I6 0,bF,.str [],.aE]) (cs:=xy c) (n:=4) rfl rfl (A6 c);have JX:aX h2 H:=⟨by omega,fun d hd=>go d (by omega)⟩
    have l3:au none (.ptr h2.next 0) H=some (I6 0):=(by rw [ai q1];rfl);have l4:au none (.ptr h2.next 2) H=some (.str c.name):=by rw [ai q1];rfl
    have l5:au none (.ptr h2.next 3) H=some (.slice c.BE 0 c.n 1):=(by rw [ai q1];rfl);have ln:bB .slice (.slice c.BE 0 c.n 1) H=some (I6 (c.n:Int)):=rfl;have oH:=o.ext JX;have hlen:(dh (cs.take j)).length<=100001:=by simp [dh];omega
    obtain ⟨a3,h3,p3,o3,f3,n3,x3,_⟩:=oH.push kK vX (by have:=gY.next;have:=JX.next;omega) (bytes:=24) (by rw [hm];omega) (zD c);rw [F.bE.ff];simp only [e0,e4,e5,ia,br,reduceAdd,reduceEqDiff,reduceIte,l2,r2.own.len,bu hj,g3,g4,wM,l3,l4,l5,ln,F4,F5,beq_self_eq_true,aA];rw [show iX (c.name,(c.n:Int))=iX (zD c) from rfl];simp only [p3,dJ,aN hj hbig,cN];exact A2 _ _ ⟨x3 h' (gY.trans JX) (dR _),e0,e4,rfl,by rw [Cs hv];exact o3⟩
   ·rintro e h2 ⟨gY,e0,e4,e5,o⟩ K2 PO;have r2:=r.ext gY;have l2:au none (.ptr rb 2) h2=some body:=by rw [ai r2.get];rfl
    rw [F.bE.ff];simp only [e0,e4,e5,ia,br,reduceAdd,reduceEqDiff,reduceIte,l2,r2.own.len,bf];rw [PO,F.bE.dL];simp only [br,reduceAdd,reduceEqDiff,reduceIte,e4,aN hi R3];rw [yA (dR _)] at o;exact hn _ _ ⟨gY,e0,rfl,.inr ⟨rfl,o⟩⟩
  ·omega
 ·rintro e h' ⟨sK,e0,e4,hc⟩ K' hx;rcases hc with ⟨h1,_⟩|⟨_,ho⟩
  ·omega
  rw [F.bE.aT];simp only [e0,e4,hl,br,reduceAdd,reduceEqDiff,reduceIte,bf];rw [hx,F.bE.aF];exact hK _ _ sK ho
def Dv(ys:List (bI×Int))(s:bI):Int:=match ys.find? (fun y=>y.1==s) with
 |some y=>y.2
 |none=>-1
theorem F6{ys:List (bI×Int)}(hy:ys[i]?=some y)(s:bI):Dv (ys.drop i) s=if (y.1==s)=true then y.2 else Dv (ys.drop (i+1)) s:=by
 have h1:=(fR.1 hy).1;rw [drop_eq_getElem_cons h1];rw [fc h1] at hy;cases hy;unfold Dv;rw [find?_cons];cases ys[i].1==s<;>rfl
theorem cz{h:Heap}{rb k:Nat}{body:AV}{cs:List iy}(r:sR h rb k body cs)(hcs:cs.length<=100000){s:bI}{K:Out->Heap->Bool}(hK:∀ h',aX h h'->K (.ret (I6 (Dv (dh cs) s))) h'=true):Sem TP 140 [.slice rb 0 1 3,.str s] h K:=by
 refine F.tD ?_;rw [F.vN];refine ag (bE r hcs fun a H hx o=>?_);have hlen:(dh cs).length<=dx:=by unfold dx;simp [dh];omega
 simp only [bU];generalize dh cs=ys at o hK hlen ⊢;refine aI 0 ys.length (zero_le _) (fun i e h'=>h'=H/\e 1 = .str s/\e 5=a/\e 6=I6 (i:Int)/\Dv ys s=Dv (ys.drop i) s) ⟨rfl,rfl,rfl,rfl,rfl⟩ ?_ ?_
 ·rintro i e h' _ hi ⟨rfl,e1,e5,e6,ht⟩ K' hn gG hr hp;have hv:ys[i]?=some ys[i]:=fc hi;generalize ys[i]=y at hv;obtain ⟨b,_,g1,g2,g3⟩:=IN o hv;rw [F6 hv] at ht;rw [F.cz.aT];simp only [e1,e5,e6,o.len,br,reduceAdd,reduceEqDiff,reduceIte,bu hi,g1,g2]
  cases hq:y.1==s with
  |true=>
   rw [if_pos hq] at ht;simp only [aA,br,reduceAdd,reduceEqDiff,reduceIte,e5,e6,g1,g3];rw [hr,F.cz.bh];simp only [lV,reduceEqDiff,reduceIte];rw [ht] at hK;exact hK _ hx
  |false=>
   rw [if_neg (by rw [hq];decide)] at ht;simp only [ax,aN hi hlen,cN];exact hn _ _ ⟨rfl,e1,e5,rfl,ht⟩
 ·rintro e h' ⟨rfl,e1,e5,e6,ht⟩ K' gG;rw [F.cz.aT];simp only [e5,e6,o.len,br,reduceAdd,reduceEqDiff,reduceIte,bf];rw [gG,F.cz.aF];rw [drop_of_length_le (dR _)] at ht;rw [ht] at hK;exact hK _ hx
def gv:List (bI×Int)->List bI->List bI
 |[],o=>o
 |y :: ys,o=>gv ys (if (([[]]:List bI).any fun x=>x==y.1)=true then o else dQ o y.1)
theorem Ct{ys:List (bI×Int)}(hy:ys[i]?=some y)(o:List bI):gv (ys.drop i) o=gv (ys.drop (i+1)) (if (([[]]:List bI).any fun x=>x==y.1)=true then o else dQ o y.1):=by
 have h1:=(fR.1 hy).1;rw [drop_eq_getElem_cons h1];rw [fc h1] at hy;cases hy;rfl
def lB(ys:List (bI×Int)):List bI:=gv ys []
def Dw(cs:List iy):List (bI×Int):=(lB (dh cs)).map fun s=>(s,Dv (dh cs) s)
theorem bg{h:Heap}{rb k:Nat}{body:AV}{cs:List iy}(r:sR h rb k body cs)(hcs:cs.length<=99000){K:Out->Heap->Bool}(hK:∀ a' h',aX h h'->Own iX 2 h.next h' a' (Dw cs)->K (.ret a') h'=true):Sem TP 77 [.slice rb 0 1 3] h K:=by
 have hm:dg=140737488355328:=rfl;refine F.qi ?_;rw [F.rF];refine ag (cA r fun ad h1 x1 od=>?_);simp only [bU];refine ag (bE (r.ext x1) (by omega) fun aa h2 x2 oa=>?_);simp only [bU];have LN:aX h h2:=x1.trans x2;have R4:=(od.ext x2)
 have NV:=oa.zC x1.next
 have Kr:(dh cs).length<=99001:=by simp [dh];omega
 have PS:(dh cs).length<=dx:=by unfold dx;omega
 have L1:∀ (e:Env) (H:Heap) (ao:AV) (os:List bI),aX h H->Own encS 1 h.next H ao os->os.length<=99001->e 0 = .slice rb 0 1 3->e 4=ao->e 7 = .aE->e 8=I6 0->lB (dh cs)=os ->
   bS (EV F.bg.L1) (sM e 55 H) (F.bg.oW K)=true:=by
  intro e H ao os JX oo PT q0 q4 q7 q8 GI;have R5:os.length<=dx:=by unfold dx;omega
  refine aI 0 os.length (zero_le _) (fun i e h'=>aX h h'/\e 0 = .slice rb 0 1 3/\e 4=ao/\Own encS 1 h.next h' ao os/\e 8=I6 (i:Int)/\(∀ c,cC ao=some c->cC (e 7)≠some c)/\Own iX 2 h.next h' (e 7) ((os.take i).map fun s=>(s,Dv (dh cs) s))) ⟨JX,q0,q4,oo,q8,fun c _=>by rw [q7];simp [cC],by rw [q7];exact .nil⟩ ?_ ?_
  ·rintro i e h' _ hi ⟨sK,e0,e4,o4,e8,hne,o7⟩ K' hn hx hr hp;have hv:os[i]?=some os[i]:=fc hi;generalize os[i]=s at hv;obtain ⟨b,LQ,g1,g2⟩:=vW o4 hv;rw [F.bg.ff];simp only [e0,e4,e8,o4.len,br,reduceAdd,reduceEqDiff,reduceIte,bu hi,g1,g2];refine ag (cz (r.ext sK) (by omega) fun h3 x3=>?_)
   have g3:au none (.ptr b (i*1)) h3=some (.str s):=by
    rw [<- g2];simp only [au,x3.get b LQ]
   have R6:=o7.ext x3;have hlen:((os.take i).map fun s=>(s,Dv (dh cs) s)).length<=99001:=by rw [length_map,length_take];omega
   obtain ⟨a5,h5,p5,o5,f5,n5,x5,b5⟩:=R6.push kK vX (by have:=sK.next;have:=x3.next;omega) (bytes:=24) (by rw [hm];omega) (s,Dv (dh cs) s);simp only [bU,g3,cN,show AV.beq (.str s) (.str s)=true by simp [AV.beq],Bool.and_self,Bool.and_true,if_true,F4,F5,p5,dJ,e8,aN hi R5];refine hn _ _ ⟨x5 h (sK.trans x3) (dR _),e0,e4,?_,rfl,?_,?_⟩
   ·cases o4 with
    |nil=>exact .nil
    |row bo _ w1 w2 w3=>exact .row bo os w1 (by have:=x3.next;omega) (by rw [f5 bo (by have:=x3.next;omega) (hne bo rfl),x3.get bo w2];exact w3)
   ·intro c hc;intro hb;have dw:cC a5=some c:=hb
    have K6:c<h'.next:=by
     cases o4 with
     |nil=>cases hc
     |row bo _ w1 w2 w3=>cases hc;exact w2
    have:=b5 c dw;have:=x3.next
    omega
   ·rw [take_add_one,hv,map_append];exact o5
  ·rintro e h' ⟨sK,e0,e4,o4,e8,hne,o7⟩ K' hx;rw [F.bg.ff];simp only [e4,e8,o4.len,br,reduceAdd,reduceEqDiff,reduceIte,bf];rw [hx,F.bg.dL];rw [yA (dR _)] at o7;exact hK _ _ sK (by rw [Dw,GI];exact o7)
 have NW:∀ (o:List bI) (s:bI),(dQ o s).length<=o.length+1:=oO;refine aI 0 (dh cs).length (zero_le _) (fun i e h'=>∃ os,aX h2 h'/\e 0 = .slice rb 0 1 3/\e 3=ad/\e 5=aa/\e 6=I6 (i:Int)/\Own encS 1 h2.next h' (e 4) os/\os.length<=i/\lB (dh cs)=gv ((dh cs).drop i) os) ⟨[],aX.refl _,rfl,rfl,rfl,rfl,.nil,dR _,rfl⟩ ?_ ?_
 ·rintro i e h' _ hi ⟨os,sK,e0,e3,e5,e6,o4,PT,GI⟩ K' hn hx hr hp;have hv:(dh cs)[i]?=some (dh cs)[i]:=fc hi;generalize (dh cs)[i]=y at hv;obtain ⟨b,LQ,g1,g2,_⟩:=IN (NV.ext sK) hv;rw [Ct hv] at GI;rw [F.bg.aT];simp only [e0,e3,e5,e6,(NV.ext sK).len,br,reduceAdd,reduceEqDiff,reduceIte,bu hi,g1,g2];refine ag (cy (R4.ext sK) (by unfold dx;simp) ?_);simp only [br,reduceAdd,reduceEqDiff,reduceIte]
  cases hq:([[]]:List bI).any fun x=>x==y.1 with
  |true=>
   rw [if_pos hq] at GI;simp only [Bool.not_true,ax,e6,aN hi PS,cN];exact hn _ _ ⟨os,sK,e0,e3,e5,rfl,o4,by omega,GI⟩
  |false=>
   rw [if_neg (by rw [hq];decide)] at GI;simp only [Bool.not_false,aA,br,reduceAdd,reduceEqDiff,reduceIte,e5,e6,g1,g2];refine ag (cr o4 sK.next (by omega) fun a' h3 x3 o3=>?_);simp only [br,reduceAdd,reduceEqDiff,reduceIte,e6,aN hi PS];exact hn _ _ ⟨dQ os y.1,sK.trans x3,e0,e3,e5,rfl,o3,by have:=NW os y.1;omega,GI⟩
 ·rintro e h' ⟨os,sK,e0,e3,e5,e6,o4,PT,GI⟩ K' hx;rw [F.bg.aT];simp only [e5,e6,(NV.ext sK).len,br,reduceAdd,reduceEqDiff,reduceIte,bf];rw [hx,F.bg.aF];rw [drop_of_length_le (dR _)] at GI;exact L1 _ h' (e 4) os (LN.trans sK) (o4.zC LN.next) (by omega) e0 rfl rfl rfl GI
theorem Own.LR{enc:α->List AV}{k:Nat}{l:List α}(o:Own enc sz k h a l)(hf:∀ v,∀ x ∈ enc v,Fz true h x x):∃ x:Sl α,x.l=l/\Fz true h a (cp enc sz x):=by
 cases o with
 |nil=>exact ⟨none,rfl,.dF rfl⟩
 |row b l h1 h2 h3=>
  refine ⟨some l,rfl,.slice b 0 l.length sz _ _ h3 rfl fun i x y hx hy=>?_⟩;rw [hx] at hy;cases hy;have:=iz hx;rw [mem_flatMap] at this;obtain ⟨v,hv,GW⟩:=this;exact hf v x GW
theorem Own.vY{enc:α->List AV}{k:Nat}{l:List α}(o:Own enc sz k h a l):bw (AV.bV a)=true/\(AV.bV a).length=1/\AV.bV a = [a]:=by cases o<;>exact ⟨rfl,rfl,rfl⟩
theorem Own.lC{enc:α->List AV}{k:Nat}{l:List α}(o:Own enc sz k h a l){d:Nat}(hd:d<k)(x:gh):Own enc sz k (h.set d x) a l:=by
 cases o with
 |nil=>exact .nil
 |row b _ w1 w2 w3=>exact .row b l w1 (by rw [Heap.bl];exact w2) (by rw [Heap.aK,if_neg (by omega)];exact w3)
def vZ:List Gate->List (bI×Nat)->List (bI×Nat)
 |[],o=>o
 |g :: gs,o=>vZ gs (if g.kind=1/\(o.any fun y=>y.1==g.name)=false then o++[(g.name,g.at_.l.length)] else o)
theorem HF{l:List Gate}(hg:l[i]?=some g)(o:List (bI×Nat)):vZ (l.drop i) o=vZ (l.drop (i+1)) (if g.kind=1/\(o.any fun y=>y.1==g.name)=false then o++[(g.name,g.at_.l.length)] else o):=by
 have h1:=(fR.1 hg).1;rw [drop_eq_getElem_cons h1];rw [fc h1] at hg;cases hg;rfl
def eD(c:fG):List (bI×Nat):=vZ c.aU.l []
def gO(o:List (bI×Nat)):List (bI×Int):=([],0) :: o.map fun y=>(y.1,(y.2:Int))
def fh(c:fG):List (bI×Int):=(lB (gO (eD c))).map fun s=>(s,Dv (gO (eD c)) s)
def oP(c:iy):bI×Nat:=(c.name,c.n)
theorem F7(cs:List iy):dh cs=gO (cs.map oP):=by
 simp only [dh,gO,List.map_map];rfl
theorem HG{cs:List iy}(h:cs.map oP=eD c):Dw cs=fh c:=by
 rw [Dw,fh,F7,h]
theorem b7{c:fG}(hc:c.ok)(hf:c.fits){h:Heap}{K:Out->Heap->Bool}(hK:∀ x:Sl (bI×Int),x.l=fh c->K (.ret (cp iX 2 x)) h=true):Sem TP 29 [.agg (an c)] h K:=by
 have main:Sem TP 29 [.agg (an c)] Heap.empty (fun o h'=>yes (∃ v,∃ x:Sl (bI×Int),o = .ret v/\x.l=fh c/\Fz true h' v (cp iX 2 x))):=by
  obtain ⟨KD,Lq,hfit⟩:=hf;have hm:dg=140737488355328:=rfl;refine F.qh ?_;rw [F.rE];simp only [cc (dm c),cN,aV,Heap.aR];have g0:(Heap.alloc (Heap.alloc (Heap.alloc Heap.empty (.cells (an c))) (.cells [.str [],.aE,.aE])) (.map [] 0)).get 0=sC (an c):=by simp [Heap.aD,aV]
  have g1:(Heap.alloc (Heap.alloc (Heap.alloc Heap.empty (.cells (an c))) (.cells [.str [],.aE,.aE])) (.map [] 0)).get 1=sC [.str [],.aE,.aE]:=by simp [Heap.aD,aV]
  have g2:(Heap.alloc (Heap.alloc (Heap.alloc Heap.empty (.cells (an c))) (.cells [.str [],.aE,.aE])) (.map [] 0)).get 2=some (.map [] 0):=by simp [Heap.aD,aV]
  have gn:(Heap.alloc (Heap.alloc (Heap.alloc Heap.empty (.cells (an c))) (.cells [.str [],.aE,.aE])) (.map [] 0)).next=3:=rfl
  generalize (Heap.alloc (Heap.alloc (Heap.alloc Heap.empty (.cells (an c))) (.cells [.str [],.aE,.aE])) (.map [] 0))=H0 at g0 g1 g2 gn ⊢
  refine aI 0 c.aU.l.length (zero_le _) (fun i e h'=>∃ body cs ms es ck,h'.get 0=sC (an c)/\h'.get 1=sC [.str [],.aE,body]/\h'.get 2=some (.map es ck)/\lX es ms/\(∀ s,ms.find s=if ((cs.map oP).any fun y=>y.1==s)=true then some bT else none) /\
   Own xy 4 3 h' body cs/\3<=h'.next/\cs.length<=i/\eD c=vZ (c.aU.l.drop i) (cs.map oP)/\e 1 = .ptr 0 0/\e 3 = .ptr 1 0/\e 4 = .map 2/\e 5=I6 (i:Int))
   ⟨.aE,[],[],[],0,g0,g1,g2,trivial,fun s=>rfl,.nil,by omega,dR _,rfl,rfl,rfl,rfl,rfl⟩ ?_ ?_
  ·rintro i e h' _ hi ⟨body,cs,ms,es,ck,q0,q1,q2,hE,KE,ob,KC,hci,hin,e1,e3,e4,e5⟩ K' hn hx hr hp;have hg:c.aU.l[i]?=some c.aU.l[i]:=fc hi;generalize c.aU.l[i]=g at hg;have xJ:g.ok:=hc.2 g (iz hg);have Hf:=hfit i g hg;rw [HF hg] at hin;obtain ⟨H,hs,p3,go,gn⟩:=eG (h:=h') (zs:=[I6 0,.str [],.aE,.aE]) (cs:=bz g) (n:=4) rfl rfl (gV g);have p0:H.get 0=sC (an c):=by rw [go _ (by omega)];exact q0
   have p1:H.get 1=sC [.str [],.aE,body]:=by rw [go _ (by omega)];exact q1
   have p2:H.get 2=some (.map es ck):=by rw [go _ (by omega)];exact q2
   have JX:aX h' H:=⟨by omega,fun d hd=>go d (by omega)⟩
   have oH:=ob.ext JX;rw [F.b7.aT];simp only [e1,e3,e4,e5,ai q0,br,reduceAdd,reduceEqDiff,reduceIte];rw [show (an c)[1]?=some (cp bz 4 c.aU) from rfl];have LS:au none (.ptr h'.next 0) H=some (I6 g.kind):=by rw [ai p3];rfl
   have MF:au none (.ptr h'.next 1) H=some (.str g.name):=by rw [ai p3];rfl
   simp only [br,reduceAdd,reduceEqDiff,reduceIte,bu hi,bt c.aU hi,g8 fZ hg,hs,LS,b9];by_cases k1:g.kind=1
   ·simp only [fS k1,aA,MF,jX p2 hE bF,cN]
    have tH:g.at_.l.length<=12:=by
     simp only [ga,if_pos k1,and_eq_true,decide_eq_true_eq] at Hf;exact Hf.2.2.2.2.1
    cases A7:(cs.map oP).any fun y=>y.1==g.name with
    |true=>
     rw [if_neg (by rw [A7];simp)] at hin;rw [KE,if_pos A7];simp only [getD_some,br,reduceAdd,reduceEqDiff,reduceIte,Bool.not_true,ax,aN hi hc.1];exact hn _ _ ⟨body,cs,ms,es,ck,p0,p1,p2,hE,KE,oH,by omega,by omega,hin,e1,e3,e4,rfl⟩
    |false=>
     rw [if_pos ⟨k1,A7⟩] at hin;rw [KE,if_neg (by rw [A7];decide)];obtain ⟨kS,mA,hu,R7⟩:=sQ p2 hE g.name bT;have r1:(H.set 2 (.map kS mA)).get 1=sC [.str [],.aE,body]:=by rw [Heap.aK,if_neg (by omega)];exact p1
     have r3:(H.set 2 (.map kS mA)).get h'.next=sC (bz g):=by rw [Heap.aK,if_neg (by omega)];exact p3
     have rb:au none (.ptr 1 2) (H.set 2 (.map kS mA))=some body:=(by rw [ai r1];rfl);have R8:au none (.ptr h'.next 1) (H.set 2 (.map kS mA))=some (.str g.name):=by rw [ai r3];rfl
     have R9:au none (.ptr h'.next 2) (H.set 2 (.map kS mA))=some (gr g.at_):=by rw [ai r3];rfl
     have mk:∀ h:Heap,dS 1 16 [(.str [])] (I6 (g.at_.l.length:Int)) (I6 (g.at_.l.length:Int)) h=some (.slice h.next 0 g.at_.l.length 1,h.alloc (.cells (ec [.str []] g.at_.l.length))):=fun h=>by
      have:(16*(g.at_.l.length:Int))<=140737488355328:=(by omega);simp [dS,nU,this]
     have o1:Own xy 4 3 ((H.set 2 (.map kS mA)).alloc (.cells (ec [.str []] g.at_.l.length))) body cs:=by
      have:Own xy 4 3 (H.set 2 (.map kS mA)) body cs:=by
       cases oH with
       |nil=>exact .nil
       |row b _ w1 w2 w3=>exact .row b cs w1 (by rw [Heap.bl];exact w2) (by rw [Heap.aK,if_neg (by omega)];exact w3)
      exact this.ext (aX.alloc _ _)
     have on:((H.set 2 (.map kS mA)).alloc (.cells (ec [.str []] g.at_.l.length))).next=h'.next+2:=by rw [Heap.aR,Heap.bl];omega
     have og:∀ d,d<3->((H.set 2 (.map kS mA)).alloc (.cells (ec [.str []] g.at_.l.length))).get d=(H.set 2 (.map kS mA)).get d:=fun d hd=>by rw [Heap.aD,Heap.bl,if_neg (by omega)]
     obtain ⟨a5,h5,p5,o5,f5,n5,_,b5⟩:=o1.push A5 A6 (by omega) (bytes:=56) (by rw [hm];omega) ⟨g.name,(H.set 2 (.map kS mA)).next,g.at_.l.length⟩;have NX:ko [(.str []),.aE] [(0,1),(1,1)] [.str g.name,.slice (H.set 2 (.map kS mA)).next 0 g.at_.l.length 1]=some (.agg [.str g.name,.slice (H.set 2 (.map kS mA)).next 0 g.at_.l.length 1]):=rfl;have NY:ko [(I6 0),bF,(.str []),.aE] [(0,1),(2,2)] [(I6 0),.agg [.str g.name,.slice (H.set 2 (.map kS mA)).next 0 g.at_.l.length 1]]=some (.agg (xy ⟨g.name,(H.set 2 (.map kS mA)).next,g.at_.l.length⟩)):=rfl;have NZ:∀ d:iy,eY [(I6 0),bF,(.str []),.aE] [(0,4)] [.agg (xy d)]=some (xy d):=fun _=>rfl;have hne:∀ d,d<3->cC body≠some d:=fun d hd hb=>by have:=o1.ge hb;omega
     have s1:h5.get 1=sC [.str [],.aE,body]:=(by rw [f5 1 (by omega) (hne 1 (by omega)),og 1 (by omega)];exact r1);have JY:bw (AV.bV a5)=true/\(AV.bV a5).length=1/\AV.bV a5 = [a5]:=o5.vY
     have st:bD 1 (.ptr 1 2) a5 h5=some (h5.set 1 (.cells [.str [],.aE,a5])):=by
      rw [fL (n:=1) s1 JY.2.1 JY.1 (by simp),JY.2.2];rfl
     simp only [getD_none,br,reduceAdd,reduceEqDiff,reduceIte,Bool.not_false,aA,MF,hu,rb,R8,R9,mk,NX,NY,NZ,p5,st,aN hi hc.1];refine hn _ _ ⟨a5,cs++[⟨g.name,(H.set 2 (.map kS mA)).next,g.at_.l.length⟩],ms.lU g.name bT,kS,mA,?_,?_,?_,R7,?_,?_,?_,?_,?_,e1,e3,e4,rfl⟩
     ·rw [Heap.aK,if_neg (by omega),f5 0 (by omega) (hne 0 (by omega)),og 0 (by omega),Heap.aK,if_neg (by omega)];exact p0
     ·rw [Heap.aK,if_pos rfl]
     ·rw [Heap.aK,if_neg (by omega),f5 2 (by omega) (hne 2 (by omega)),og 2 (by omega),Heap.aK,if_pos rfl]
     ·intro s;rw [vV,KE,map_append,any_append];by_cases BB:s=g.name
      ·subst BB;rw [if_pos rfl,if_pos (by simp [oP])]
      ·rw [if_neg BB];have:(g.name==s)=false:=by simpa using Ne.symm BB
       simp only [map_cons,map_nil,any_cons,any_nil,oP,this,Bool.or_false]
     ·exact o5.lC (by omega) _
     ·rw [Heap.bl];omega
     ·simp;omega
     ·rw [map_append];exact hin
   ·rw [if_neg (fun hh=>k1 hh.1)] at hin;simp only [fB k1,ax,aN hi hc.1,cN];exact hn _ _ ⟨body,cs,ms,es,ck,p0,p1,p2,hE,KE,oH,by omega,by omega,hin,e1,e3,e4,rfl⟩
  ·rintro e h' ⟨body,cs,ms,es,ck,q0,q1,q2,hE,KE,ob,KC,hci,hin,e1,e3,e4,e5⟩ K' hx;rw [F.b7.aT];simp only [e1,e5,ai q0,br,reduceAdd,reduceEqDiff,reduceIte];rw [show (an c)[1]?=some (cp bz 4 c.aU) from rfl];simp only [br,reduceAdd,reduceEqDiff,reduceIte,bf];rw [hx,F.b7.aF];have pG:eY [(.str []),.aE,.aE] [(0,3)] [.agg [.str [],.aE,body]]=some [.str [],.aE,body]:=by cases ob<;>rfl
   simp only [e3,ai q1,bJ (cs:=[.str [],.aE,body]) (n:=3) rfl,cN,pG,lV,reduceEqDiff,reduceIte];have r:sR (h'.alloc (.cells [.str [],.aE,body])) h'.next 3 body cs:=⟨ay _ _,by rw [Heap.aR];omega,ob.ext (aX.alloc _ _)⟩
   refine ag (bg r (by omega) fun a' h2 gY o=>?_);simp only [bU];rw [drop_of_length_le (dR _)] at hin;rw [HG hin.symm] at o
   obtain ⟨x,Cg,Ei⟩:=o.LR (fun v y hy=>by
    simp only [iX,mem_cons,not_mem_nil,_root_.or_false] at hy
    rcases hy with rfl|rfl<;>exact .scalar _ rfl)
   exact cw.2 ⟨a',x,rfl,Cg,Ei⟩
 refine main.frozen (by simp [AV.bQ,AV.pure,eO]) fun o h' ho=>?_;obtain ⟨v,x,rfl,hx,hf⟩:=cw.1 ho;exact ⟨v,_,rfl,hf,hK x hx⟩
def jd(s:ew)(y:bI×Int):Bool:=match s.aQ.l.find? (cQ y.1) with
 |some r=>decide (r.arity=y.2)
 |none=>false
theorem v7{α:Type}(p:α->Bool):∀ (l:List α) (i:Nat),(mL p l i = -1/\l.find? p=none)\/∃ (j:Nat) (v:α),mL p l i=((i+j:Nat):Int)/\l[j]?=some v/\l.find? p=some v
 |[],i=>.inl ⟨rfl,rfl⟩
 |x :: l,i=>by
  rw [mL,find?_cons]
  cases hp:p x with
  |true=>exact .inr ⟨0,x,by simp,rfl,rfl⟩
  |false=>
   simp only [false_eq_true,if_false];rcases v7 p l (i+1) with ⟨h1,h2⟩|⟨j,v,h1,h2,h3⟩
   ·exact .inl ⟨h1,h2⟩
   ·exact .inr ⟨j+1,v,by rw [h1];congr 1;omega,by simpa using h2,h3⟩
theorem mP(p:α->Bool)(l:List α):(fO p l = -1/\l.find? p=none)\/∃ (j:Nat) (v:α),fO p l=(j:Int)/\l[j]?=some v/\l.find? p=some v:=by
 rcases v7 p l 0 with h|⟨j,v,h1,h2,h3⟩
 ·exact .inl h
 ·exact .inr ⟨j,v,by rw [fO,h1,Nat.zero_add],h2,h3⟩
theorem Ej{s:ew}(hr:s.aQ.l[i]?=some r):au none (.cS (s.aQ.l.flatMap bA) (i*3+1)) h=some (I6 r.arity):=by
 rw [fK fq hr (by omega)];rfl
theorem A8{x:Sl (bI×Int)}(hy:x.l[i]?=some y):au none (.cS (x.l.flatMap iX) (i*2)) h=some (.str y.1):=by
 have:=fK (h:=h) kK hy (k:=0) (by omega);rw [Nat.add_zero] at this;rw [this];rfl
theorem Cu{x:Sl (bI×Int)}(hy:x.l[i]?=some y):au none (.cS (x.l.flatMap iX) (i*2+1)) h=some (I6 y.2):=by
 rw [fK kK hy (by omega)];rfl
theorem Ek(y:bI×Int):AV.bQ (iX y)=true:=rfl
theorem cJ{s:ew}(hs:s.ok){x:Sl (bI×Int)}(hx:x.l.length<=dx){h:Heap}{K:Out->Heap->Bool}(hK:K (.ret (.bool (x.l.all (jd s)))) h=true):Sem TP 59 [.agg (ak s),cp iX 2 x] h K:=by
 refine Sem.data (r:=.bool (x.l.all (jd s))) ?_ (by simp [AV.bQ,AV.pure,dH,dU Ek]) hK;clear hK;refine F.vF ?_;rw [F.xe];have b0:(Heap.alloc Heap.empty (.cells (ak s))).get 0=sC (ak s):=ay _ _;simp only [cc (cL s),cN,aV];generalize (Heap.alloc Heap.empty (.cells (ak s)))=H at b0 ⊢;have fin:∀ b:Bool,b=x.l.all (jd s)->jD (.bool (x.l.all (jd s))) (.ret (.bool b)) H=true:=fun b hb=>by rw [hb];exact dO rfl
 have lr:au none (.ptr 0 1) H=some (BF s.aQ):=by rw [ai b0];rfl
 have lw:au (some 2) (.ptr 0 0) H=some (.agg (ak s)):=by rw [ai b0,bJ (cs:=ak s) (n:=2) rfl]
 refine aI 0 x.l.length (zero_le _) (fun i e h'=>h'=H/\e 1=cp iX 2 x/\e 2 = .ptr 0 0/\e 5=I6 (i:Int)/\(x.l.take i).all (jd s)=true) ⟨rfl,rfl,rfl,rfl,rfl⟩ ?_ ?_
 ·rintro i e h' _ hi ⟨rfl,e1,e2,e5,ht⟩ K' hn gG hr hp;have hv:x.l[i]?=some x.l[i]:=fc hi;generalize x.l[i]=y at hv;rw [F.cJ.aT];simp only [e1,e2,e5,br,reduceAdd,reduceEqDiff,reduceIte,lw,bu hi,bt x hi,A8 hv];refine ag (cV hs ?_);simp only [br,reduceAdd,reduceEqDiff,reduceIte];rcases mP (cQ y.1) s.aQ.l with ⟨h1,h2⟩|⟨j,r,h1,h2,h3⟩
  ·rw [h1];simp only [show decide ((-1:Int)<0)=true from rfl,aA];rw [hr,F.cJ.bh];simp only [lV,reduceEqDiff,reduceIte];exact fin _ (all_false hv (by rw [jd,h2])).symm
  ·rw [h1];have hj:j<s.aQ.l.length:=(fR.1 h2).1;simp only [fB (by omega:¬ ((j:Int)<0)),ax,br,reduceAdd,reduceEqDiff,reduceIte,e1,e2,e5,lr,bt s.aQ hj,Ej h2,bt x hi,Cu hv,b9];by_cases hq:r.arity=y.2
   ·simp only [fS hq,Bool.not_true,ax,aN hi hx,cN];exact hn _ _ ⟨rfl,e1,e2,rfl,jF hv ht (by rw [jd,h3];exact fS hq)⟩
   ·simp only [fB hq,Bool.not_false,aA];rw [hr,F.cJ.bh];simp only [lV,reduceEqDiff,reduceIte];exact fin _ (all_false hv (by rw [jd,h3];exact fB hq)).symm
 ·rintro e h' ⟨rfl,e1,e2,e5,ht⟩ K' gG;rw [F.cJ.aT];simp only [e1,e5,br,reduceAdd,reduceEqDiff,reduceIte,bf];rw [gG,F.cJ.aF];rw [yA (dR _)] at ht;exact fin _ ht.symm
theorem jY:∀ (ys:List (bI×Int)) (o:List bI),(gv ys o).length<=ys.length+o.length
 |[],o=>by simp [gv]
 |y :: ys,o=>by
  rw [gv];have h2:=oO o y.1;by_cases hq:(([[]]:List bI).any fun x=>x==y.1)=true
  ·rw [if_pos hq];have:=jY ys o;simp only [length_cons];omega
  ·rw [if_neg hq];have:=jY ys (dQ o y.1);simp only [length_cons];omega
theorem qw:∀ (l:List Gate) (o:List (bI×Nat)),(vZ l o).length<=l.length+o.length
 |[],o=>by simp [vZ]
 |g :: l,o=>by
  rw [vZ];by_cases hq:g.kind=1/\(o.any fun y=>y.1==g.name)=false
  ·rw [if_pos hq];have:=qw l (o++[(g.name,g.at_.l.length)]);simp only [length_cons,length_append,length_nil] at this ⊢;omega
  ·rw [if_neg hq];have:=qw l o;simp only [length_cons];omega
theorem rQ(hf:c.fits):(fh c).length<=dx:=by
 obtain ⟨h1,_,_⟩:=hf;have a:=jY (gO (eD c)) [];have b:=qw c.aU.l [];simp only [fh,lB,length_map,length_nil] at a b ⊢;have e:(gO (eD c)).length=(eD c).length+1:=by simp [gO]
 have e2:(eD c).length<=c.aU.l.length:=by rw [eD];omega
 unfold dx;omega
def ez(c:fG)(s:ew):Int:=if cU c=false\/bY s=false then 1 else if c.size≠s.size then 2 else if (fh c).all (jd s)=false then 4 else 0
theorem A9{s:ew}(hc:c.ok)(hs:s.ok)(hK:K (.ret (I6 (ez c s))) h=true):Sem TP 19 [.agg (an c),.agg (ak s)] h K:=by
 refine Sem.data (r:=I6 (ez c s)) ?_ (by simp [AV.bQ,AV.pure,dH,eO]) hK;clear hK;have fin:∀ (n:Int) (H:Heap),n=ez c s->jD (I6 (ez c s)) (.ret (I6 n)) H=true:=fun n H hn=>by rw [hn];exact dO rfl
 generalize jD (I6 (ez c s))=K at fin ⊢;refine F.tg ?_;rw [F.vB];simp only [cc (dm c),cc (cL s),cN,aV,Heap.aR];have g0:(Heap.alloc (Heap.alloc Heap.empty (.cells (an c))) (.cells (ak s))).get 0=sC (an c):=by simp [Heap.aD,aV]
 have g1:(Heap.alloc (Heap.alloc Heap.empty (.cells (an c))) (.cells (ak s))).get 1=sC (ak s):=by simp [Heap.aD,aV]
 generalize (Heap.alloc (Heap.alloc Heap.empty (.cells (an c))) (.cells (ak s)))=H at g0 g1 ⊢;have l0:au (some 2) (.ptr 0 0) H=some (.agg (an c)):=by rw [ai g0,bJ (cs:=an c) (n:=2) rfl]
 have l1:au (some 2) (.ptr 1 0) H=some (.agg (ak s)):=by rw [ai g1,bJ (cs:=ak s) (n:=2) rfl]
 have z0:au none (.ptr 0 0) H=some (I6 c.size):=by rw [ai g0];rfl
 have z1:au none (.ptr 1 0) H=some (I6 s.size):=by rw [ai g1];rfl
 simp only [Nat.zero_add,l0,l1,cN];refine ag (cm hc ?_);simp only [br,reduceAdd,reduceEqDiff,reduceIte]
 cases hv:cU c with
 |false=>simp only [Bool.not_false,aA];exact fin _ _ (by rw [ez,if_pos (.inl hv)])
 |true=>
 simp only [Bool.not_true,ax,l1,cN];refine ag (bq hs ?_);simp only [br,reduceAdd,reduceEqDiff,reduceIte]
 cases kO:bY s with
 |false=>simp only [Bool.not_false,aA];exact fin _ _ (by rw [ez,if_pos (.inr kO)])
 |true=>
 have tI:¬ (cU c=false\/bY s=false):=by rw [hv,kO];simp
 simp only [Bool.not_true,ax,br,reduceAdd,reduceEqDiff,reduceIte,z0,z1,b9];by_cases hz:c.size=s.size
 ·simp only [fS hz,Bool.not_true,ax,l0,l1,cN];refine ag (b7 hc (dW hv) fun x hx=>?_);simp only [bU,l1,cN,AV.beq_refl,Bool.and_self,if_true];refine ag (cJ hs (by rw [hx];exact rQ (dW hv)) ?_);simp only [br,reduceAdd,reduceEqDiff,reduceIte,hx]
  cases hf:(fh c).all (jd s) with
  |false=>simp only [Bool.not_false,aA];exact fin _ _ (by rw [ez,if_neg tI,if_neg (by simp [hz]),if_pos hf])
  |true=>simp only [Bool.not_true,ax];exact fin _ _ (by rw [ez,if_neg tI,if_neg (by simp [hz]),if_neg (by rw [hf];decide)])
 ·simp only [fB hz,Bool.not_false,aA];exact fin _ _ (by rw [ez,if_neg tI,if_pos hz])
theorem Dx{old:Bool}{d:List Int}(hb:h.get b=sC (d.map iv)):Fz old h (.slice b 0 d.length 1) (gr (some d)):=by
 refine .slice b 0 d.length 1 _ _ hb (by rw [mG]) fun i x y hx hy=>?_;rw [mG,hy] at hx;cases hx;rw [<- mG,getElem?_map] at hy;obtain ⟨v,hv,rfl⟩:=map_eq_some_iff.1 hy;exact .scalar _ rfl
theorem HH{enc:α->List AV}(he:∀ a,(enc a).length=sz)(x:Sl α)(h:Heap):Row enc sz h (cp enc sz x) x.l:=by
 cases x with
 |none=>exact ⟨rfl,rfl⟩
 |some l=>
  refine ⟨rfl,?_⟩;have hl:(l.flatMap enc).length=l.length*sz:=er he l;simp only [cp,fM,Sl.FE,Nat.zero_add,hl,beq_self_eq_true,dR,decide_true,Bool.and_self,if_true,drop_zero];rw [<- hl,take_length]
abbrev PB:=Nat×List Int
def tJ(p:PB):List AV:=[.slice p.1 0 p.2.length 1]
theorem v8(p:PB):(tJ p).length=1:=rfl
theorem F8(p:PB):bw (tJ p)=true:=rfl
structure nE (k:Nat) (h:Heap) (a:AV) (ps:List PB):Prop where
 own:Own tJ 1 k h a ps
 cell:∀ p ∈ ps,k<=p.1/\p.1<h.next/\cC a≠some p.1/\h.get p.1=sC (p.2.map iv)
theorem nE.nil(k:Nat)(h:Heap):nE k h .aE []:=⟨.nil,fun p hp=>by cases hp⟩
theorem Own.lt{enc:α->List AV}{k:Nat}{l:List α}(o:Own enc sz k h a l){c:Nat}(hc:cC a=some c):c<h.next:=by
 cases o with
 |nil=>cases hc
 |row b l h1 h2 h3=>cases hc;exact h2
theorem nE.ext{k:Nat}{h h':Heap}{a:AV}{ps:List PB}(n:nE k h a ps)(hx:aX h h'):nE k h' a ps:=
 ⟨n.own.ext hx,fun p hp=>by
  obtain ⟨h1,h2,h3,h4⟩:=n.cell p hp
  exact ⟨h1,Nat.lt_of_lt_of_le h2 hx.next,h3,by rw [hx.get _ h2];exact h4⟩⟩
theorem nE.uC{old:Bool}{k:Nat}{ps:List PB}(n:nE k h a ps):∃ x:Sl (Sl Int),x.l.map Sl.l=ps.map (·.2)/\Fz old h a (zx x):=by
 obtain ⟨o,hc⟩:=n
 cases o with
 |nil=>exact ⟨none,rfl,.scalar _ rfl⟩
 |row b ps h1 h2 h3=>
  refine ⟨some (ps.map fun p=>some p.2),by simp [List.map_map,Function.comp_def],?_⟩
  have e1:ps.flatMap tJ=ps.map fun p=>AV.slice p.1 0 p.2.length 1:=by
   induction ps with
   |nil=>rfl
   |cons p ps ih=>rw [flatMap_cons,map_cons];exact congrArg _ (by
     clear ih h3 hc
     induction ps with
     |nil=>rfl
     |cons q ps ih=>rw [flatMap_cons,map_cons,ih];rfl)
  have e2:(ps.map fun p=>(some p.2:Sl Int)).flatMap eA=ps.map fun p=>gr (some p.2):=by
   clear h3 hc e1
   induction ps with
   |nil=>rfl
   |cons q ps ih=>rw [map_cons,flatMap_cons,map_cons,ih];rfl
  rw [e1] at h3
  have hf:Fz old h (.slice b 0 ps.length 1) (.aL (ps.map fun p=>gr (some p.2)) 0 ps.length 1):=by
   refine .slice b 0 ps.length 1 _ _ h3 (by simp) fun i x y hx hy=>?_;rw [getElem?_map] at hx hy;obtain ⟨p,hp,rfl⟩:=map_eq_some_iff.1 hx;rw [hp] at hy;cases hy;exact Dx (hc p (iz hp)).2.2.2
  have:zx (some (ps.map fun p=>(some p.2:Sl Int))) = .aL (ps.map fun p=>gr (some p.2)) 0 ps.length 1:=by
   simp only [cp,e2,length_map]
  rw [this];exact hf
theorem nE.push{k:Nat}{h:Heap}{a:AV}{ps:List PB}(n:nE k h a ps)(hk:k<=h.next)(hroom:(ps.length+1)*24<=dg)(p:PB)(p1:k<=p.1)(p2:p.1<h.next)(p3:cC a≠some p.1)(p4:h.get p.1=sC (p.2.map iv)) :
  ∃ a' h',bP 1 24 a (.slice h.next 0 1 1) (h.alloc (.cells (tJ p)))=some (a',h')/\nE k h' a' (ps++[p])/\h.next<=h'.next/\(∀ c,c<h.next->cC a≠some c->h'.get c=h.get c)/\(∀ h0,aX h0 h->h0.next<=k->aX h0 h')/\∀ c,cC a'=some c->h.next<=c:=by
 obtain ⟨a',h',e1,o1,f1,n1,x1,b1⟩:=n.own.push v8 F8 hk hroom p;refine ⟨a',h',e1,⟨o1,fun q hq=>?_⟩,n1,f1,x1,b1⟩
 have oV:k<=q.1/\q.1<h.next/\cC a≠some q.1/\h.get q.1=sC (q.2.map iv):=by
  rcases mem_append.1 hq with hq|hq
  ·exact n.cell q hq
  ·rw [mem_singleton] at hq;subst hq;exact ⟨p1,p2,p3,p4⟩
 obtain ⟨q1,q2,q3,q4⟩:=oV;exact ⟨q1,by omega,fun hb=>by have:=b1 _ hb;omega,by rw [f1 _ q2 q3];exact q4⟩
theorem nE.at_{k:Nat}{ps:List PB}(n:nE k h a ps){p:PB}(hp:ps[i]?=some p) :
  ∃ b,(∀ q:IntKind,iZ 1 a (.int q (i:Int))=some (.ptr b (i*1)))/\b<h.next/\(∀ h',aX h h'->au none (.ptr b (i*1)) h'=some (.slice p.1 0 p.2.length 1)):=by
 obtain ⟨b,b1,b2,b3,_,b5⟩:=n.own.get v8 hp;refine ⟨b,b3,b2,fun h' hx=>?_⟩;obtain ⟨b',_,_,c3,_,c5⟩:=(n.own.ext hx).get v8 hp;obtain rfl:b=b':=by have:=b3 .i64;rw [c3 .i64] at this;cases this;rfl
 have:=c5 0 (by omega);rw [Nat.add_zero] at this;rw [this];rfl
theorem HI(l:List Int):bw (l.map iv)=true:=by
 induction l with
 |nil=>rfl
 |cons a l ih=>simp only [map_cons,bw,ih,Bool.and_true];rfl
theorem yh{src:AV}{l:List Int}(r:Row encI 1 (h.alloc (.cells [])) src l)(hl:l.length<=1000000) :
  ∃ b h',bP 1 8 (.slice h.next 0 0 1) src (h.alloc (.cells []))=some (.slice b 0 l.length 1,h')/\h'.get b=sC (l.map iv)/\aX h h'/\h.next<=b/\b<h'.next:=by
 have hm:dg=140737488355328:=rfl;have g:(h.alloc (.cells [])).get h.next=sC []:=ay _ _
 have rc:=r.cells;rw [<- mG] at rc;by_cases hz:l.length=0
 ·have:l = []:=eq_nil_of_length_eq_zero hz;subst this;refine ⟨h.next,h.alloc (.cells []),?_,g,aX.alloc _ _,dR _,lt_succ_self _⟩;simp only [length_nil] at rc;simp [bP,r.len,rc]
 ·refine ⟨h.next+1,((h.alloc (.cells [])).set h.next .dead).alloc (.cells (l.map iv)),?_,?_,?_,by omega,?_⟩
  ·simp only [bP,r.len,rc,if_true,if_neg hz,g];rw [if_pos (by simp [HI];omega)];simp [Heap.bl,Heap.aR]
  ·have:=ay ((h.alloc (.cells [])).set h.next .dead) (.cells (l.map iv))
   rwa [Heap.bl,Heap.aR] at this
  ·exact ((aX.alloc h (.cells [])).set (dR _) _).trans (aX.alloc _ _)
  ·rw [Heap.aR,Heap.bl,Heap.aR];omega
theorem F9{l:List Int}(hb:h.get b=sC (l.map iv))(KT:b<h.next)(hl:l.length<=1000000)(x:Int) :
  ∃ b' h',bP 1 8 (.slice b 0 l.length 1) (.slice h.next 0 1 1) (h.alloc (.cells [I6 x]))=some (.slice b' 0 (l++[x]).length 1,h')/\h'.get b'=sC ((l++[x]).map iv)/\(∀ c,c<h.next->c≠b->h'.get c=h.get c)/\h.next<=b'/\b'<h'.next:=by
 have hm:dg=140737488355328:=rfl;have g:(h.alloc (.cells [I6 x])).get h.next=sC [I6 x]:=ay _ _
 have g2:(h.alloc (.cells [I6 x])).get b=sC (l.map iv):=by rw [Heap.aD,if_neg (by omega)];exact hb
 refine ⟨h.next+1,((h.alloc (.cells [I6 x])).set b .dead).alloc (.cells ((l++[x]).map iv)),?_,?_,fun c hc Sa=>?_,by omega,?_⟩
 ·have hf:fM 1 1 (.slice h.next 0 1 1) (h.alloc (.cells [I6 x]))=some [I6 x]:=by simp [fM,g]
  simp only [bP,iB,hf,if_true,g2];rw [if_neg (by decide),if_pos (by simp [bw,AV.one];omega)];simp only [Heap.bl,Heap.aR,drop_zero,Nat.mul_one];congr 2
  ·simp
  ·congr 2;rw [yA (by simp),map_append];rfl
 ·have:=ay ((h.alloc (.cells [I6 x])).set b .dead) (.cells ((l++[x]).map iv))
  rwa [Heap.bl,Heap.aR] at this
 ·rw [Heap.aD,Heap.bl,Heap.aR,if_neg (by omega),Heap.aK,if_neg Sa,Heap.aD,if_neg (by omega)]
 ·rw [Heap.aR,Heap.bl,Heap.aR];omega
def we(n:Nat)(t:List Int):List (List Int):=(List.range n).map fun (x:Nat)=>t++[(x:Int)]
def stepT(n:Nat)(out:List (List Int)):List (List Int):=out.flatMap (we n)
def lR(n:Nat):Nat->List (List Int)
 |0=>[[]]
 |k+1=>stepT n (lR n k)
theorem rR(n:Nat)(l:List (List Int)):(stepT n l).length=l.length*n:=by
 induction l with
 |nil=>simp [stepT]
 |cons t l ih=>
  rw [stepT,flatMap_cons,length_append,<- stepT,ih,length_cons,succ_mul];simp [we];omega
theorem nt(n:Nat):∀ k,(lR n k).length=n ^ k
 |0=>rfl
 |k+1=>by rw [lR,rR,nt n k,Nat.pow_succ]
theorem Cv{n:Nat}{out:List (List Int)}{j:Nat}(ht:out[j]?=some t):stepT n (out.take (j+1))=stepT n (out.take j)++we n t:=by
 rw [take_add_one,ht,stepT,flatMap_append];simp [stepT]
theorem mQ(n:Nat)(t:List Int):(we n t).length=n:=by simp [we]
theorem El{n:Nat}{x:Nat}(hx:x<n):(we n t).take (x+1)=(we n t).take x++[t++[(x:Int)]]:=by
 rw [take_add_one];congr 1;simp [we,getElem?_range hx]
theorem rS{n:Nat}:∀ {out:List (List Int)} {r x:Nat} {t:List Int},out[r]?=some t->x<n->(stepT n out)[r*n+x]?=some (t++[(x:Int)])
 |[],r,x,t,h,_=>by simp at h
 |u :: out,0,x,t,h,hx=>by
  simp at h;subst h;rw [stepT,flatMap_cons,Nat.zero_mul,Nat.zero_add,getElem?_append_left (by rw [mQ];exact hx)];simp [we,getElem?_range hx]
 |u :: out,r+1,x,t,h,hx=>by
  rw [stepT,flatMap_cons,getElem?_append_right (by rw [mQ,succ_mul];omega),mQ];have:(r+1)*n+x-n=r*n+x:=by rw [succ_mul];omega
  rw [this];exact rS (out:=out) (by simpa using h) hx
theorem HJ{n:Nat}{x:Nat}(ht:gM n t=true)(hx:x<n):gM n (t++[(x:Int)])=true:=by
 unfold gM at ht ⊢;rw [all_append,ht];simp;omega
theorem rT{n:Nat}(hn:1<=n):∀ (k r:Nat),r<n ^ k->∃ t,(lR n k)[r]?=some t/\t.length=k/\gM n t=true/\iw n t=r
 |0,r,h=>by
  obtain rfl:r=0:=by simp at h;omega
  exact ⟨[],rfl,rfl,rfl,rfl⟩
 |k+1,r,h=>by
  have hr:r/n<n ^ k:=Nat.div_lt_of_lt_mul (by rw [Nat.mul_comm,<- Nat.pow_succ];exact h);have hx:r%n<n:=mod_lt _ hn;obtain ⟨t,h1,h2,h3,h4⟩:=rT hn k (r/n) hr;refine ⟨t++[((r%n:Nat):Int)],?_,by simp [h2],HJ h3 hx,?_⟩
  ·have:=rS (n:=n) h1 hx;rw [lR]
   rwa [div_add_mod' r n] at this
  ·unfold iw at h4 ⊢;rw [mJ,h4];simp only [lW,Int.toNat_natCast];exact div_add_mod' r n
theorem Ba{n:Nat}:∀ (a b:List Int) (r s:Nat),a.length=b.length->gM n a=true->gM n b=true->lW n a r=lW n b s->a=b/\r=s
 |[],[],r,s,_,_,_,h=>⟨rfl,h⟩
 |x :: a,y :: b,r,s,hl,ha,hb,h=>by
  simp only [gM,all_cons,and_eq_true,not_eq_true',decide_eq_false_iff_not] at ha hb;obtain ⟨e1,e2⟩:=Ba a b _ _ (by simpa using hl) (by unfold gM;simpa using ha.2) (by unfold gM;simpa using hb.2) h;subst e1;have hn:0<n:=by omega
  have hx:x.toNat<n:=by omega
  have hy:y.toNat<n:=by omega
  have h1:r=s:=by
   have q1:(r*n+x.toNat)/n=r:=by rw [Nat.mul_comm,mul_add_div hn,div_eq_of_lt hx];rfl
   have q2:(s*n+y.toNat)/n=s:=by rw [Nat.mul_comm,mul_add_div hn,div_eq_of_lt hy];rfl
   rw [<- q1,<- q2,e2]
  subst h1;exact ⟨by congr 1;omega,rfl⟩
theorem Dy{n:Nat}{a b:List Int}(hl:a.length=b.length)(ha:gM n a=true)(hb:gM n b=true)(h:iw n a=iw n b):a=b:=(Ba a b 0 0 hl ha hb h).1
theorem aS{n k:Nat}(hn:1<=n)(hk:k<=12)(hc:n ^ k<=4096){h:Heap}{K:Out->Heap->Bool}(hK:∀ x:Sl (Sl Int),x.l.map Sl.l=lR n k->K (.ret (zx x)) h=true):Sem TP 35 [I6 (n:Int),I6 (k:Int)] h K:=by
 have hm:dg=140737488355328:=rfl
 have main:Sem TP 35 [I6 (n:Int),I6 (k:Int)] Heap.empty (fun o h'=>yes (∃ v,∃ x:Sl (Sl Int),o = .ret v/\x.l.map Sl.l=lR n k/\Fz true h' v (zx x))):=by
  refine F.rD ?_;rw [F.ta];have r0:eY [] [] []=some []:=rfl;have r1:∀ p:PB,eY [.aE] [(0,1)] [.slice p.1 0 p.2.length 1]=some (tJ p):=fun _=>rfl;have r2:∀ x:Int,eY [I6 0] [(0,1)] [I6 x]=some [I6 x]:=fun _=>rfl;have Sb:eY [.aE] [(0,1)] [.slice 0 0 0 1]=some (tJ (0,[])):=rfl;simp only [r0,cN,aV,Sb];have g0:(Heap.alloc (Heap.alloc Heap.empty (.cells [])) (.cells (tJ (0,[])))).get 0=sC []:=by simp [Heap.aD,aV]
  have g1:(Heap.alloc (Heap.alloc Heap.empty (.cells [])) (.cells (tJ (0,[])))).get 1=sC (tJ (0,[])):=by simp [Heap.aD,aV]
  have gn:(Heap.alloc (Heap.alloc Heap.empty (.cells [])) (.cells (tJ (0,[])))).next=2:=rfl
  have ge:(Heap.alloc Heap.empty (.cells [])).next=1:=rfl
  rw [ge];generalize (Heap.alloc (Heap.alloc Heap.empty (.cells [])) (.cells (tJ (0,[]))))=H at g0 g1 gn ⊢
  have LU:nE 0 H (.slice 1 0 1 1) [(0,[])]:=⟨.row 1 [(0,[])] (zero_le _) (by omega) (by simpa using g1),fun p hp=>by
   rw [mem_singleton] at hp;subst hp;exact ⟨dR _,by show 0<H.next;omega,by simp [cC],g0⟩⟩
  refine aI 0 k (zero_le _) (fun i e h'=>∃ a ps,nE 0 h' a ps/\ps.map (·.2)=lR n i/\e 0=I6 (n:Int)/\e 1=I6 (k:Int)/\e 5=a/\e 6=I6 (i:Int)) ⟨_,_,LU,rfl,rfl,rfl,rfl,rfl⟩ ?_ ?_
  ·rintro i e h' _ hi ⟨a,ps,KF,Jc,e0,e1,e5,e6⟩ K' NU sK Tq BA;have EK:ps.length=n ^ i:=by have:=congrArg List.length Jc;rwa [length_map,nt] at this
   have hin:n ^ i*n<=4096:=by rw [<- Nat.pow_succ];exact Nat.le_trans (zw hn hi) hc
   have N0:ps.length<=dx:=by unfold dx;have:=Nat.le_mul_of_pos_right (n ^ i) hn;omega
   rw [F.aS.aT];simp only [e0,e1,e5,e6,br,reduceAdd,reduceEqDiff,reduceIte,bu hi]
   refine aI 0 ps.length (zero_le _) (fun j e h2=>aX h' h2/\∃ c qs,nE h'.next h2 c qs/\qs.map (·.2)=stepT n ((ps.map (·.2)).take j)/\e 0=I6 (n:Int)/\e 1=I6 (k:Int)/\e 5=a/\e 6=I6 (i:Int)/\e 7=c/\e 8=I6 (j:Int))
    ⟨aX.refl _,_,_,.nil _ _,rfl,e0,e1,e5,e6,rfl,rfl⟩ ?_ ?_
   ·rintro j e h2 _ hj ⟨gY,c,qs,HK,MG,e0,e1,e5,e6,e7,e8⟩ K2 A2 Ga zQ Hz;have LV:ps[j]?=some ps[j]:=fc hj;generalize ps[j]=p at LV;have N1:(ps.map (·.2))[j]?=some p.2:=by rw [getElem?_map,LV];rfl
    have Tr:qs.length=j*n:=by
     have:=congrArg List.length MG;rw [length_map,rR,length_take,length_map,Nat.min_eq_left (by omega)] at this;exact this
    have hjn:j*n+n<=4096:=by
     have:(j+1)*n<=ps.length*n:=mul_le_mul_right n hj;rw [EK,succ_mul] at this;omega
    rw [F.aS.ff];simp only [e5,e8,KF.own.len,br,reduceAdd,reduceEqDiff,reduceIte,bu hj]
    refine aI 0 n (zero_le _) (fun x e h3=>aX h' h3/\∃ c qs,nE h'.next h3 c qs/\qs.map (·.2)=stepT n ((ps.map (·.2)).take j)++(we n p.2).take x/\e 0=I6 (n:Int)/\e 1=I6 (k:Int)/\e 5=a/\e 6=I6 (i:Int)/\e 7=c/\e 8=I6 (j:Int)/\e 9=I6 (x:Int))
     ⟨gY,c,qs,HK,by rw [take_zero,append_nil];exact MG,e0,e1,e5,e6,e7,e8,rfl⟩ ?_ ?_
    ·rintro x e h3 _ hx ⟨Ei,c,qs,HL,HM,e0,e1,e5,e6,e7,e8,e9⟩ K3 KC LW Jg RQ
     have Sc:qs.length=j*n+x:=by
      have:=congrArg List.length HM;rw [length_map,length_append,rR,length_take,length_map,Nat.min_eq_left (by omega),length_take,mQ,Nat.min_eq_left (by omega)] at this;exact this
     obtain ⟨b,b1,b2,b3⟩:=KF.at_ LV;obtain ⟨p1,p2,p3,p4⟩:=KF.cell p (iz LV);have xa:aX h' (h3.alloc (.cells [])):=Ei.trans (aX.alloc _ _)
     have pG:Row encI 1 (h3.alloc (.cells [])) (.slice p.1 0 p.2.length 1) p.2:=by
      have hg:(h3.alloc (.cells [])).get p.1=sC (p.2.map iv):=(by rw [xa.get _ p2];exact p4);refine ⟨rfl,?_⟩;simp only [fM,hg,if_true];rw [if_pos (by simp),<- mG];simp only [drop_zero,Nat.mul_one];rw [yA (by simp)]
     have LX:p.2.length<=1000000:=by
      have:p.2 ∈ lR n i:=(by rw [<- Jc];exact List.mem_map_of_mem (iz LV));obtain ⟨r,hr⟩:=getElem?_of_mem this;have hlt:r<n ^ i:=by have:=(fR.1 hr).1;rwa [nt] at this
      obtain ⟨t,q1,q2,_⟩:=rT hn i r hlt;rw [hr] at q1;cases q1;omega
     obtain ⟨b4,h4,a4,g4,x4,l4,m4⟩:=yh pG LX;obtain ⟨b5,h5,a5,g5,f5,l5,m5⟩:=F9 (h:=h4) g4 m4 LX (x:Int);have x5:aX h3 h5:=⟨by have:=x4.next;omega,fun d hd=>by rw [f5 d (by have:=x4.next;omega) (by omega),x4.get d hd]⟩
     have N2:=HL.ext x5;have PU:aX h' h5:=Ei.trans x5;obtain ⟨a6,h6,Sd,N3,n6,_,x6,_⟩:=N2.push (by have:=PU.next;omega) (by rw [hm];omega) (b5,p.2++[(x:Int)]) (by have:=x4.next;have:=Ei.next;show h'.next<=b5;omega) m5 (fun hb=>by have:=HL.own.lt hb;simp only at this;have:=x4.next;omega) g5;rw [F.aS.AW];simp only [e0,e5,e7,e8,e9,br,reduceAdd,reduceEqDiff,reduceIte,bu hx,r0,b1,b3 _ xa,a4,r2,a5,r1 (b5,p.2++[(x:Int)]),Sd,aN hx (show n<=dx by unfold dx;omega)];refine KC _ _ ⟨x6 _ PU (dR _),a6,_,N3,?_,e0,e1,e5,e6,rfl,e8,rfl⟩;rw [map_append,HM,El hx,append_assoc];rfl
    ·rintro e h3 ⟨Ei,c,qs,HL,HM,e0,e1,e5,e6,e7,e8,e9⟩ K3 LW;rw [F.aS.AW];simp only [e0,e9,br,reduceAdd,reduceEqDiff,reduceIte,bf];rw [LW,F.aS.vt];simp only [br,reduceAdd,reduceEqDiff,reduceIte,e8,aN hj N0];refine A2 _ _ ⟨Ei,c,qs,HL,?_,e0,e1,e5,e6,e7,rfl⟩;rw [HM,Cv N1,yA (l:=we n p.2) (by rw [mQ];exact dR _)]
   ·rintro e h2 ⟨gY,c,qs,HK,MG,e0,e1,e5,e6,e7,e8⟩ K2 Ga;rw [F.aS.ff];simp only [e5,e8,KF.own.len,br,reduceAdd,reduceEqDiff,reduceIte,bf];rw [Ga,F.aS.dL];simp only [br,reduceAdd,reduceEqDiff,reduceIte,e6,e7,aN hi (show k<=dx by unfold dx;omega)];refine NU _ _ ⟨c,qs,⟨HK.own.zC (zero_le _),fun p hp=>?_⟩,?_,e0,e1,rfl,rfl⟩
    ·obtain ⟨q1,q2,q3,q4⟩:=HK.cell p hp;exact ⟨zero_le _,q2,q3,q4⟩
    ·rw [MG,yA (by simp),Jc];rfl
  ·rintro e h' ⟨a,ps,KF,Jc,e0,e1,e5,e6⟩ K' sK;rw [F.aS.aT];simp only [e1,e6,br,reduceAdd,reduceEqDiff,reduceIte,bf];rw [sK,F.aS.aF];simp only [lV,reduceEqDiff,reduceIte,e5];obtain ⟨x,Cg,gY⟩:=KF.uC (old:=true);exact cw.2 ⟨a,x,rfl,Cg.trans Jc,gY⟩
 refine main.frozen (by simp [AV.bQ,AV.pure]) fun o h' ho=>?_;obtain ⟨v,x,rfl,hx,hf⟩:=cw.1 ho;exact ⟨v,_,rfl,hf,hK x hx⟩
theorem zE[BEq α][LawfulBEq α]{l m:List α}{a b:α}(ha:l[i]?=some a)(hb:m[i]?=some b):(l.drop i==m.drop i)=((a==b)&&(l.drop (i+1)==m.drop (i+1))):=by
 have h1:=(fR.1 ha).1;have h2:=(fR.1 hb).1;rw [drop_eq_getElem_cons h1,drop_eq_getElem_cons h2];rw [fc h1] at ha;rw [fc h2] at hb;cases ha;cases hb;rfl
theorem cx{x y:Sl Int}(hx:x.l.length<=dx){h:Heap}{K:Out->Heap->Bool}(hK:K (.ret (.bool (x.l==y.l))) h=true):Sem TP 52 [gr x,gr y] h K:=by
 refine F.tc ?_;rw [F.vu];simp only [br,reduceAdd,reduceEqDiff,reduceIte,b9];by_cases hl:x.l.length=y.l.length
 ·simp only [fS (by omega:(x.l.length:Int)=(y.l.length:Int)),Bool.not_true,ax];refine aI 0 x.l.length (zero_le _) (fun i e h'=>h'=h/\e 0=gr x/\e 1=gr y/\e 5=I6 (i:Int)/\(x.l==y.l)=(x.l.drop i==y.l.drop i)) ⟨rfl,rfl,rfl,rfl,rfl⟩ ?_ ?_
  ·rintro i e h' _ hi ⟨rfl,e0,e1,e5,ht⟩ K' hn gG hr hp;have Cb:i<y.l.length:=by omega
   have hv:x.l[i]?=some x.l[i]:=fc hi;have hw:y.l[i]?=some y.l[i]:=fc Cb;rw [zE hv hw] at ht;generalize x.l[i]=a at hv ht;generalize y.l[i]=b at hw ht;rw [F.cx.aT];simp only [e0,e1,e5,br,reduceAdd,reduceEqDiff,reduceIte,bu hi,bt x hi,bt y Cb,eN hv,eN hw]
   cases hq:a==b with
   |false=>
    simp only [Bool.not_false,aA];rw [hr,F.cx.bh];simp only [lV,reduceEqDiff,reduceIte];rw [ht,hq] at hK;exact hK
   |true=>
    simp only [Bool.not_true,ax,aN hi hx,cN];exact hn _ _ ⟨rfl,e0,e1,rfl,by rw [ht,hq,Bool.true_and]⟩
  ·rintro e h' ⟨rfl,e0,e1,e5,ht⟩ K' gG;rw [F.cx.aT];simp only [e0,e5,br,reduceAdd,reduceEqDiff,reduceIte,bf];rw [gG,F.cx.aF];rw [drop_of_length_le (dR _),drop_of_length_le (by omega)] at ht;rw [ht] at hK;exact hK
 ·simp only [fB (by omega:¬ (x.l.length:Int)=(y.l.length:Int)),Bool.not_false,aA]
  have:(x.l==y.l)=false:=by
   simp only [beq_eq_false_iff_ne];exact fun e=>hl (congrArg List.length e)
  rw [this] at hK;exact hK
theorem Em:eY [] [] []=some []:=rfl
theorem gW:∀ {a b c:List Int},bO a b=true->bO b c=true->bO a c=true
 |x :: a,y :: b,z :: c,h1,h2=>by
  rw [bO] at h1 h2 ⊢;by_cases e1:x=y
  ·rw [if_pos e1] at h1;subst e1;by_cases e2:x=z
   ·rw [if_pos e2] at h2 ⊢;exact gW h1 h2
   ·rw [if_neg e2] at h2 ⊢;exact h2
  ·rw [if_neg e1] at h1;have q1:=of_decide_eq_true h1;by_cases e2:y=z
   ·subst e2;rw [if_neg e1];exact h1
   ·rw [if_neg e2] at h2;have q2:=of_decide_eq_true h2;rw [if_neg (by omega)];exact fS (by omega)
 |[],_,_,h1,_=>by simp [bO] at h1
 |_ :: _,[],_,h1,_=>by simp [bO] at h1
 |_ :: _,_ :: _,[],_,h2=>by simp [bO] at h2
theorem yj:∀ {a b:List Int},a.length=b.length->bO a b=false->a≠b->bO b a=true
 |[],[],_,_,h=>absurd rfl h
 |x :: a,y :: b,hl,h1,h2=>by
  rw [bO] at h1 ⊢;by_cases e:x=y
  ·subst e;rw [if_pos rfl] at h1 ⊢;exact yj (by simpa using hl) h1 (fun h=>h2 (by rw [h]))
  ·rw [if_neg e] at h1;rw [if_neg (Ne.symm e)];have:=of_decide_eq_false h1;exact fS (by omega)
 |[],_ :: _,hl,_,_=>by simp at hl
 |_ :: _,[],hl,_,_=>by simp at hl
def ig(l:List (List Int)):Prop:=l.Pairwise fun a b=>bO a b=true
theorem Cw{l:List (List Int)}(hs:ig l){k:Nat}{x:List Int}(h1:∀ y ∈ l.drop k,bO x y=true)(h2:∀ y ∈ l.take k,bO y x=true):ig (l.take k++x :: l.drop k):=by
 have ei:ig (l.take k++l.drop k):=by rw [take_append_drop];exact hs
 obtain ⟨p1,p2,p3⟩:=pairwise_append.1 ei;refine pairwise_append.2 ⟨p1,pairwise_cons.2 ⟨h1,p2⟩,fun a ha b hb=>?_⟩;rcases mem_cons.1 hb with rfl|hb
 ·exact h2 a ha
 ·exact p3 a ha b hb
theorem HN{l:List α}{k:Nat}{x u:α}:u ∈ l.take k++x :: l.drop k↔u ∈ l\/u=x:=by
 have:u ∈ l↔u ∈ l.take k\/u ∈ l.drop k:=by rw [<- mem_append,take_append_drop]
 rw [mem_append,mem_cons,this];constructor
 ·rintro (h|h|h)
  ·exact .inl (.inl h)
  ·exact .inr h
  ·exact .inl (.inr h)
 ·rintro ((h|h)|h)
  ·exact .inl h
  ·exact .inr (.inr h)
  ·exact .inr (.inl h)
def eE(r:Rel):bI×Int×List (List Int):=(r.name,r.arity,r.aP.l.map Sl.l)
structure ew.small (s:ew):Prop where
 aQ:s.aQ.l.length<=1000
 JZ:∀ r ∈ s.aQ.l,r.aP.l.length<=10000
 Se:∀ r ∈ s.aQ.l,∀ t ∈ r.aP.l,t.l.length<=1000
theorem ew.small.Sf{s:ew}(hs:s.small):s.aQ.l.length<=dx:=by have:=hs.aQ;unfold dx;omega
structure zF (s:ew) (j:Nat) (r:Rel) (t:List Int) (is:Bool) (s':ew):Prop where
 size:s'.size=s.size
 aQ:∃ ts,ig ts/\(∀ u,u ∈ ts↔(u ∈ r.aP.l.map Sl.l/\u≠t)\/(is=true/\u=t))/\s'.aQ.l.map eE=(s.aQ.l.map eE).set j (r.name,r.arity,ts)
theorem Gb(t:Sl Int):bw (eA t)=true:=by cases t<;>rfl
theorem IP(t:Sl Int):eY [.aE] [(0,1)] [gr t]=some (eA t):=by cases t<;>rfl
def bv(b:Bool):AV:=.bool b
theorem lD(hb:h.get b=sC (d.map bv))(hv:d[i]?=some v):au none (.ptr b i) h=some (.bool v):=by
 rw [ai hb,qZ,getElem?_map,hv];rfl
theorem iY(hb:h.get b=sC (d.map bv))(hi:i<d.length):bD 1 (.ptr b i) (.bool v) h=some (h.set b (.cells ((d.set i v).map bv))):=by
 rw [fL (n:=1) hb rfl rfl (by simp;omega),map_set];rfl
theorem J1(n:Nat):ec [bF] n=(replicate n false).map bv:=by
 induction n with
 |zero=>rfl
 |succ n ih=>rw [ec,ih];rfl
theorem Dz{n:Nat}(hn:n<=1000000)(h:Heap):dS 1 1 [bF] (I6 (n:Int)) (I6 (n:Int)) h=some (.slice h.next 0 n 1,h.alloc (.cells ((replicate n false).map bv))):=by
 have:((n:Int))<=140737488355328:=by omega
 simp [dS,nU,this,J1]
def jJ(n:Nat):List (Sl Int)->List Bool->List Bool
 |[],d=>d
 |t :: ts,d=>jJ n ts (d.set (iw n t.l) true)
theorem En{n:Nat}{l:List (Sl Int)}{t:Sl Int}(ht:l[i]?=some t)(d:List Bool):jJ n (l.drop i) d=jJ n (l.drop (i+1)) (d.set (iw n t.l) true):=by
 have h1:=(fR.1 ht).1;rw [drop_eq_getElem_cons h1];rw [fc h1] at ht;cases ht;rfl
theorem wg(n:Nat):∀ (l:List (Sl Int)) (d:List Bool),(jJ n l d).length=d.length
 |[],_=>rfl
 |t :: l,d=>by rw [jJ,wg n l];simp
def bitsOf(n k:Nat)(ts:List (Sl Int)):List Bool:=jJ n ts (replicate (n ^ k) false)
theorem wh(n k:Nat)(ts:List (Sl Int)):(bitsOf n k ts).length=n ^ k:=by rw [bitsOf,wg];simp
structure IQ where
 name:bI
 k:Nat
 bits:List Bool
def qy(n:Nat)(r:Rel):IQ:=⟨r.name,r.arity.toNat,bitsOf n r.arity.toNat r.aP.l⟩
def mR(s:ew):List IQ:=s.aQ.l.map (qy s.size.toNat)
theorem qz{s:ew}(hv:bY s=true)(hr:s.aQ.l[i]?=some r):jc s.size.toNat r=true:=by
 simp only [bY,and_eq_true] at hv;have:=qt hv.2.2.2 (fR.1 hr).1;rw [jH,hr] at this;simp only [and_eq_true] at this;exact this.1
theorem nu{s:ew}(hv:bY s=true):∃ n:Nat,s.size=(n:Int)/\1<=n/\n<=64/\s.aQ.l.length<=8:=by
 simp only [bY,and_eq_true,decide_eq_true_eq] at hv;exact ⟨s.size.toNat,by omega,by omega,by omega,hv.2.2.1⟩
theorem uh{n:Nat}(h:jc n r=true):∃ k:Nat,r.arity=(k:Int)/\k<=12/\n ^ k<=4096/\qu n k r.aP.l=true:=by
 simp only [jc,and_eq_true,decide_eq_true_eq] at h;exact ⟨r.arity.toNat,by omega,by omega,h.2.2.2.1,h.2.2.2.2⟩
def zG(d:List Bool)(k:Int):Bool:=d.getD k.toNat false
def HO(nm:bI)(r:Nat):List IQ->Bool->Bool
 |[],b=>b
 |t :: ts,b=>HO nm r ts (if (t.name==nm)=true then t.bits.getD r false else b)
def DA(kind:Int)(d:List Bool)(kids:List Int):Bool:=if (kids.any fun k=>zG d k != decide (kind=3))=true then decide (kind=4) else decide (kind=3)
def zH(n:Nat)(rU:List IQ)(d:List Bool)(i:Nat)(g:Gate):Bool:=
 if g.kind=0 then true else if g.kind=1 then HO g.name (iw n g.at_.l) rU (zG d (i:Int)) else if g.kind=2 then !(zG d (g.kids.l.getD 0 0)) else DA g.kind d g.kids.l
def DB(n:Nat)(rU:List IQ):List Gate->Nat->List Bool->List Bool
 |[],_,d=>d
 |g :: gs,i,d=>DB n rU gs (i+1) (d.set i (zH n rU d i g))
def Cx(n:Nat)(rU:List IQ)(c:fG):List Bool:=DB n rU c.aU.l 0 (replicate c.aU.l.length false)
def Eo(n:Nat)(rU:List IQ)(c:fG):Bool:=zG (Cx n rU c) ((c.aU.l.length-1:Nat):Int)
theorem zI(hi:i<d.length):d[i]?=some (zG d (i:Int)):=by
 unfold zG;rw [getD_eq_getElem?_getD,Int.toNat_natCast,fc hi];rfl
theorem Ep(h:d[i]?=some v):d.set i v=d:=by
 apply ext_getElem?;intro j;by_cases e:i=j
 ·subst e;rw [getElem?_set_self (fR.1 h).1,h]
 ·rw [getElem?_set_ne e]
theorem Gc{bp gp N:Nat}{kind:Int}{rest:List AV}(hp:h.get bp=sC [.slice b 0 N 1])(hb:h.get b=sC (d.map bv))(hN:N=d.length)(hg:h.get gp=sC (I6 kind :: rest))
  (v:Int) (v0:0<=v) (v1:v<(N:Int)) (K:Out->Heap->Bool) (hK:K (.ret (.bool (zG d v==decide (kind=4)))) h=true):Sem TP 113 ([]++([I6 v]++[.ptr bp 0,.ptr gp 0])) h K:=by
 refine F.ql ?_;rw [F.rG];obtain ⟨vn,rfl⟩:∃ vn:Nat,v=(vn:Int):=⟨v.toNat,by omega⟩
 have l1:au none (.ptr bp 0) h=some (.slice b 0 N 1):=by rw [ai hp];rfl
 have l2:au none (.ptr gp 0) h=some (I6 kind):=by rw [ai hg];rfl
 simp only [br,reduceAdd,reduceEqDiff,reduceIte,l1,l2,kI (show vn<N by omega),lD hb (zI (show vn<d.length by omega)),b9];exact hK
theorem wj(hc:c.ok)(tI:cE c=none->∀ h',aX h h'->K (.ret (.tuple [.dI,bF])) h'=true)
  (LY:∀ m h' es ck,cE c=some m->aX h h'->h'.get (h.next+1)=some (.map es ck)->gq es m->gN es ck->h.next+1<h'.next->K (.ret (.tuple [.map (h.next+1),bT])) h'=true):Sem TP 54 [.agg (an c)] h K:=by
 refine F.rC ?_;rw [F.s8];simp only [cc (dm c),cN,Heap.aR]
 have b0:(Heap.alloc (Heap.alloc h (.cells (an c))) (.map [] 0)).get h.next=sC (an c):=by
  rw [Heap.aD,Heap.aR,if_neg (by omega)];exact ay _ _
 have b1:(Heap.alloc (Heap.alloc h (.cells (an c))) (.map [] 0)).get (h.next+1)=some (.map [] 0):=ay _ _;have bn:(Heap.alloc (Heap.alloc h (.cells (an c))) (.map [] 0)).next=h.next+2:=rfl
 have bx:aX h (Heap.alloc (Heap.alloc h (.cells (an c))) (.map [] 0)):=(aX.alloc _ _).trans (aX.alloc _ _);generalize (Heap.alloc (Heap.alloc h (.cells (an c))) (.map [] 0))=H0 at b0 b1 bn bx ⊢;simp only [br,reduceAdd,reduceEqDiff,reduceIte,ai b0,an]
 cases s1:decide (c.size<1) with
 |true=>simp only [aA];exact tI (by simp only [cE,g9,s1];rfl) _ bx
 |false=>
 simp only [ax]
 cases s2:decide (64<c.size) with
 |true=>simp only [aA];exact tI (by simp only [cE,g9,s1,s2];rfl) _ bx
 |false=>
 simp only [ax]
 cases s3:decide ((c.aU.l.length:Int)<1) with
 |true=>simp only [aA];exact tI (by simp only [cE,g9,s1,s2,s3];rfl) _ bx
 |false=>
 simp only [ax]
 cases s4:decide (20000<(c.aU.l.length:Int)) with
 |true=>simp only [aA];exact tI (by simp only [cE,g9,s1,s2,s3,s4];rfl) _ bx
 |false=>
 simp only [ax];have IL:cE c=cI c.size c.aU.l 0 []:=by simp only [cE,g9,s1,s2,s3,s4];rfl
 rw [IL] at tI;simp only [IL] at LY
 refine aI 0 c.aU.l.length (zero_le _) (fun i e h'=>∃ m es ck,cI c.size c.aU.l 0 []=cI c.size (c.aU.l.drop i) i m/\gq es m/\gN es ck/\h'.get h.next=sC (an c)/\h'.get (h.next+1)=some (.map es ck) /\
  aX h h'/\h.next+2<=h'.next/\e 1 = .ptr h.next 0/\e 4 = .map (h.next+1)/\e 31=cp bz 4 c.aU/\e 32=I6 (c.aU.l.length:Int)/\e 33=I6 (i:Int))
  ⟨[],[],0,rfl,trivial,.nil 0,b0,b1,bx,by omega,rfl,rfl,rfl,rfl,rfl⟩ ?_ ?_
 ·rintro i e h' _ hi ⟨m,es,ck,hm,he,hB,q0,q1,qx,qn,e1,e4,LZ,Bb,zS⟩ K' hn hx hr hp;have hg:c.aU.l[i]?=some c.aU.l[i]:=fc hi;generalize c.aU.l[i]=g at hg;have xJ:g.ok:=hc.2 g (iz hg);rw [sN hg] at hm;obtain ⟨H,hs,g1,go,gn⟩:=eG (h:=h') (zs:=[I6 0,.str [],.aE,.aE]) (cs:=bz g) (n:=4) rfl rfl (gV g);have p0:H.get h.next=sC (an c):=by rw [go _ (by omega)];exact q0
  have p1:H.get (h.next+1)=some (.map es ck):=by rw [go _ (by omega)];exact q1
  have px:aX h H:=qx.trans ⟨by omega,fun b hb=>go b (by omega)⟩;rw [F.cq.aT];simp only [e1,e4,LZ,Bb,zS,br,reduceAdd,reduceEqDiff,reduceIte,bu hi,bt c.aU hi,g8 fZ hg,hs,ai g1,ai p0,bJ (fZ g),an];refine ag (zk xJ ?_);simp only [br,reduceAdd,reduceEqDiff,reduceIte];simp only [cI] at hm
  cases hf:ga c.size i g with
  |false=>
   simp only [Bool.not_false,aA];rw [hf] at hm;rw [hr,F.cq.bh];exact tI hm _ px
  |true=>
   rw [hf] at hm;simp only [Bool.not_true,ax,aA,ai g1,bz,br,reduceAdd,reduceEqDiff,reduceIte,b9] at hm ⊢;by_cases k1:g.kind=1
   ·rw [if_pos k1] at hm;simp only [fS k1,Bool.not_true,ax,e4,u6 p1 he,br,reduceAdd,reduceEqDiff,reduceIte,b9];obtain ⟨kS,mA,hu,GG⟩:=u7 p1 he g.name g.at_.l.length
    have AT:cI c.size c.aU.l 0 []=cI c.size (c.aU.l.drop (i+1)) (i+1) (m.lU g.name g.at_.l.length)->∃ m es ck,cI c.size c.aU.l 0 []=cI c.size (c.aU.l.drop (i+1)) (i+1) m/\gq es m/\gN es ck/\(H.set (h.next+1) (.map kS mA)).get h.next=sC (an c)/\(H.set (h.next+1) (.map kS mA)).get (h.next+1)=some (.map es ck)/\aX h (H.set (h.next+1) (.map kS mA))/\h.next+2<=(H.set (h.next+1) (.map kS mA)).next:=by
     intro hh;exact ⟨_,kS,mA,hh,GG,xx p1 hB hu (by rw [Heap.aK,if_pos rfl]),by rw [Heap.aK,if_neg (by omega)];exact p0,by rw [Heap.aK,if_pos rfl],px.set (by omega) _,by rw [Heap.bl];omega⟩
    cases LI:m.find g.name with
    |none=>
     rw [LI] at hm;simp only [isSome_none,ax,ai g1,bz,br,reduceAdd,reduceEqDiff,reduceIte,e4,hu,zS,aN hi hc.1];obtain ⟨m',JK,JL,a1,a2,aB,a3,a4,a5,a6⟩:=AT hm;exact hn _ _ ⟨m',JK,JL,a1,a2,aB,a3,a4,a5,a6,e1,e4,LZ,Bb,rfl⟩
    |some k=>
     rw [LI] at hm;simp only [isSome_some,aA,getD_some,ai g1,bz,br,reduceAdd,reduceEqDiff,reduceIte,b9] at hm ⊢;by_cases hk:k=(g.at_.l.length:Int)
     ·rw [if_pos hk] at hm;simp only [fS hk,Bool.not_true,ax,ai g1,bz,br,reduceAdd,reduceEqDiff,reduceIte,e4,hu,zS,aN hi hc.1];obtain ⟨m',JK,JL,a1,a2,aB,a3,a4,a5,a6⟩:=AT hm;exact hn _ _ ⟨m',JK,JL,a1,a2,aB,a3,a4,a5,a6,e1,e4,LZ,Bb,rfl⟩
     ·rw [if_neg hk] at hm;simp only [fB hk,Bool.not_false,aA];rw [hr,F.cq.bh];exact tI hm _ px
   ·rw [if_neg k1] at hm;simp only [fB k1,Bool.not_false,aA,zS,aN hi hc.1,cN];exact hn _ _ ⟨m,es,ck,hm,he,hB,p0,p1,px,by omega,e1,e4,LZ,Bb,rfl⟩
 ·rintro e h' ⟨m,es,ck,hm,he,hB,q0,q1,qx,qn,e1,e4,LZ,Bb,zS⟩ K' hx;rw [F.cq.aT];simp only [Bb,zS,br,reduceAdd,reduceEqDiff,reduceIte,bf];rw [hx,F.cq.aF];simp only [br,reduceAdd,reduceEqDiff,reduceIte,e4];rw [drop_of_length_le (dR _)] at hm;exact LY m _ es ck hm qx q1 he hB (by omega)
theorem rV(m:dV)(k j:bI)(v:Int):(m.lU k v).find j=if j=k then some v else m.find j:=by
 induction m with
 |nil=>
  simp only [dV.lU,dV.find,find?_cons,find?_nil];by_cases h:j=k
  ·subst h;simp
  ·have:(j==k)=false:=by simpa using h
   rw [this,if_neg h]
 |cons p m ih=>
  simp only [dV.lU];by_cases hk:k=p.1
  ·rw [if_pos (by simpa using hk)];subst hk;simp only [dV.find,find?_cons];by_cases h:j=p.1
   ·subst h;simp
   ·have:(j==p.1)=false:=by simpa using h
    rw [this,if_neg h]
  ·rw [if_neg (by simpa using hk)];simp only [dV.find,find?_cons] at ih ⊢;by_cases h:j=p.1
   ·subst h;simp only [beq_self_eq_true,map_some];rw [if_neg (Ne.symm hk)]
   ·have:(j==p.1)=false:=by simpa using h
    rw [this];exact ih
theorem Gd(m:dV)(k:bI)(v:Int):(m.lU k v).map (·.1)=if k ∈ m.map (·.1) then m.map (·.1) else m.map (·.1)++[k]:=by
 induction m with
 |nil=>simp [dV.lU]
 |cons p m ih=>
  simp only [dV.lU];by_cases hk:k=p.1
  ·rw [if_pos (by simpa using hk)];subst hk;simp
  ·rw [if_neg (by simpa using hk),map_cons,ih];by_cases hm:k ∈ m.map (·.1)
   ·rw [if_pos hm,if_pos (by rw [map_cons];exact mem_cons_of_mem _ hm)];rfl
   ·rw [if_neg hm,if_neg (by rw [map_cons,mem_cons];exact fun h=>h.elim hk hm)];rfl
theorem Er(hm:(m.map (·.1)).Nodup)(k:bI)(v:Int):((m.lU k v).map (·.1)).Nodup:=by
 rw [Gd];split
 ·exact hm
 ·rename_i h;rw [nodup_append];exact ⟨hm,by simp,fun a ha b hb=>by simp at hb;subst hb;exact fun e=>h (e▸ha)⟩
theorem rW{k:bI}{v:Int}(h:m.find k=some v):(k,v) ∈ m:=by
 unfold dV.find at h;obtain ⟨p,hp,rfl⟩:=map_eq_some_iff.1 h;have h1:=mem_of_find?_eq_some hp;have h2:=find?_some hp;simp only [beq_iff_eq] at h2;subst h2;exact h1
theorem jm(hm:(m.map (·.1)).Nodup){p:bI×Int}(hp:p ∈ m):m.find p.1=some p.2:=by
 induction m with
 |nil=>cases hp
 |cons q m ih=>
  rw [map_cons,nodup_cons] at hm;simp only [dV.find,find?_cons];rcases mem_cons.1 hp with rfl|hp
  ·simp
  ·have:(p.1==q.1)=false:=by
    simp only [beq_eq_false_iff_ne];exact fun e=>hm.1 (e▸List.mem_map_of_mem hp)
   rw [this];exact ih hm.2 hp
theorem gq.mem:∀ {es:List Entry} {m:dV},gq es m->∀ e ∈ es,∃ p ∈ m,e.1 = .str p.1/\e.2.1=I6 p.2
 |[],_,_,e,he=>by cases he
 |e0 :: es,[],h,_,_=>h.elim
 |e0 :: es,p :: m,⟨h1,h2,h3⟩,e,he=>by
  rcases mem_cons.1 he with rfl|he
  ·exact ⟨p,mem_cons_self,h1,h2⟩
  ·obtain ⟨q,hq,r⟩:=gq.mem h3 e he;exact ⟨q,mem_cons_of_mem _ hq,r⟩
theorem gq.L3:∀ {es:List Entry} {m:dV},gq es m->∀ p ∈ m,∃ e ∈ es,e.1 = .str p.1/\e.2.1=I6 p.2
 |_,[],_,p,hp=>by cases hp
 |[],q :: m,h,_,_=>h.elim
 |e0 :: es,q :: m,⟨h1,h2,h3⟩,p,hp=>by
  rcases mem_cons.1 hp with rfl|hp
  ·exact ⟨e0,mem_cons_self,h1,h2⟩
  ·obtain ⟨e,he,r⟩:=gq.L3 h3 p hp;exact ⟨e,mem_cons_of_mem _ he,r⟩
structure IS (l:List Gate) (m m':dV):Prop where
 ins:∀ g ∈ l,g.kind=1->m'.find g.name=some (g.at_.l.length:Int)
 old:∀ nm k,m.find nm=some k->m'.find nm=some k
 from_:∀ nm k,m'.find nm=some k->m.find nm=some k\/∃ g ∈ l,g.kind=1/\g.name=nm/\k=(g.at_.l.length:Int)
 nodup:(m.map (·.1)).Nodup->(m'.map (·.1)).Nodup
theorem lE{n:Int}:∀ (l:List Gate) (i:Nat) (m m':dV),cI n l i m=some m'->IS l m m'
 |[],i,m,m',h=>by
  simp only [cI,Option.some.injEq] at h;subst h;exact ⟨fun g hg=>(by cases hg),fun _ _ h=>h,fun _ _ h=>.inl h,fun h=>h⟩
 |g :: l,i,m,m',h=>by
  simp only [cI] at h
  cases hf:ga n i g with
  |false=>rw [hf] at h;cases h
  |true=>
   rw [hf] at h;simp only [aA] at h;by_cases k1:g.kind=1
   ·rw [if_pos k1] at h
    have hq:(m.find g.name=none\/m.find g.name=some (g.at_.l.length:Int))/\cI n l (i+1) (m.lU g.name g.at_.l.length)=some m':=by
     cases hm:m.find g.name with
     |none=>rw [hm] at h;exact ⟨.inl rfl,h⟩
     |some k=>
      rw [hm] at h;simp only at h;split at h
      ·rename_i hk;exact ⟨.inr (by rw [hk]),h⟩
      ·cases h
    obtain ⟨hq,h⟩:=hq;have ih:=lE l (i+1) _ m' h
    have Sg:∀ nm k,m.find nm=some k->(m.lU g.name g.at_.l.length).find nm=some k:=fun nm k hk=>by
     rw [rV];by_cases e:nm=g.name
     ·subst e;rw [if_pos rfl];rcases hq with hq|hq
      ·rw [hq] at hk;cases hk
      ·rw [hq] at hk;exact hk
     ·rw [if_neg e];exact hk
    have hin:m'.find g.name=some (g.at_.l.length:Int):=ih.old _ _ (by rw [rV,if_pos rfl]);refine ⟨fun g' nc MH=>?_,fun nm k hk=>ih.old _ _ (Sg nm k hk),fun nm k hk=>?_,fun hn=>ih.nodup (Er hn _ _)⟩
    ·rcases mem_cons.1 nc with rfl|nc
     ·exact hin
     ·exact ih.ins g' nc MH
    ·rcases ih.from_ nm k hk with h1|⟨g',h1,h2⟩
     ·rw [rV] at h1;by_cases e:nm=g.name
      ·rw [if_pos e] at h1;cases h1;exact .inr ⟨g,mem_cons_self,k1,e.symm,rfl⟩
      ·rw [if_neg e] at h1;exact .inl h1
     ·exact .inr ⟨g',mem_cons_of_mem _ h1,h2⟩
   ·rw [if_neg k1] at h;have ih:=lE l (i+1) _ m' h;refine ⟨fun g' nc MH=>?_,ih.old,fun nm k hk=>?_,ih.nodup⟩
    ·rcases mem_cons.1 nc with rfl|nc
     ·exact absurd MH k1
     ·exact ih.ins g' nc MH
    ·rcases ih.from_ nm k hk with h1|⟨g',h1,h2⟩
     ·exact .inl h1
     ·exact .inr ⟨g',mem_cons_of_mem _ h1,h2⟩
theorem eo(h:cE c=some m):IS c.aU.l [] m:=by
 unfold cE at h
 cases hs:g9 c with
 |false=>rw [hs] at h;cases h
 |true=>rw [hs] at h;exact lE _ _ _ _ h
def wk(es:List Entry)(seen:List Nat):Nat:=(es.filter fun e=>!seen.contains e.2.2).length
theorem Ge{seen:List Nat}{e:Entry}(he:e ∈ es)(hs:e.2.2 ∉ seen):wk es (seen++[e.2.2])<wk es seen:=by
 have h1:(es.filter fun a=>!(seen++[e.2.2]).contains a.2.2)=(es.filter fun a=>!seen.contains a.2.2).filter fun a=>!(a.2.2==e.2.2):=by
  rw [List.filter_filter];refine filter_congr fun a _=>?_;rw [Bool.eq_iff_iff];simp;exact And.comm
 unfold wk;rw [h1];refine length_filter_lt_length_iff_exists.2 ⟨e,mem_filter.2 ⟨he,by simpa using hs⟩,by simp⟩
theorem Es{f:St->(AX->St->Bool)->Bool}{K:AX->St->Bool}{n:Nat}{defs:List j6}{e0:Env}{h0:Heap}(es:List Entry)(J:List Nat->Env->Heap->Prop)(hJ:J [] e0 h0)
  (step:∀ seen e h,J seen e h->∀ K':AX->St->Bool,(∀ en ∈ es,en.2.2 ∉ seen->∀ e' h',J (seen++[en.2.2]) e' h'->K' .normal ⟨e',n,defs,h'⟩=true)->(∀ id s,K' (.exit id) s=K (.exit id) s)->(∀ s,K' .ret s=K .ret s)->(∀ v s,K' (.panic v) s=K (.panic v) s)->f ⟨e,n,defs,h⟩ K'=true) :
  bS f ⟨e0,n,defs,h0⟩ K=true:=by
 refine jC (fun m e h=>∃ seen,m=wk es seen/\J seen e h) (wk es []) ⟨[],rfl,hJ⟩ fun m e h hi=>?_;obtain ⟨seen,rfl,hj⟩:=hi;exact step seen e h hj _ (fun en Ar hs e' h' DT=>pV (I:=fun m e h=>∃ seen,m=wk es seen/\J seen e h) (wk es (seen++[en.2.2])) (Ge Ar hs) ⟨_,rfl,DT⟩) (fun _ _=>rfl) (fun _=>rfl) (fun _ _=>rfl)
structure kg (D:bI->Option (Nat×List Bool)) (h:Heap) (B lo:Nat):Prop where
 ex:∃ es ck m,h.get B=some (.map es ck)/\lX es m/\∀ nm,m.find nm=(D nm).map fun p=>.slice p.1 0 p.2.length 1
 BE:∀ nm p,D nm=some p->lo<=p.1/\p.1<h.next/\p.1≠B/\h.get p.1=sC (p.2.map bv)
 inj:∀ nm EN p p',D nm=some p->D EN=some p'->p.1=p'.1->nm=EN
 lt:B<h.next
theorem kg.ext{h':Heap}{B lo:Nat}(b:kg D h B lo)(hx:aX h h'):kg D h' B lo:=by
 obtain ⟨es,ck,m,h1,h2,h3⟩:=b.ex;refine ⟨⟨es,ck,m,by rw [hx.get _ b.lt];exact h1,h2,h3⟩,fun nm p hp=>?_,b.inj,Nat.lt_of_lt_of_le b.lt hx.next⟩;obtain ⟨q1,q2,q3,q4⟩:=b.BE nm p hp;exact ⟨q1,Nat.lt_of_lt_of_le q2 hx.next,q3,by rw [hx.get _ q2];exact q4⟩
def gX(D:bI->Option (Nat×List Bool))(nm:bI)(r:Nat):Bool:=match D nm with
 |some p=>p.2.getD r false
 |none=>false
def je(look:bI->Nat->Bool)(n:Nat)(d:List Bool)(g:Gate):Bool:=
 if g.kind=0 then true else if g.kind=1 then look g.name (iw n g.at_.l) else if g.kind=2 then !(zG d (g.kids.l.getD 0 0)) else DA g.kind d g.kids.l
def tK(look:bI->Nat->Bool)(n:Nat):List Gate->Nat->List Bool->List Bool
 |[],_,d=>d
 |g :: gs,i,d=>tK look n gs (i+1) (d.set i (je look n d g))
theorem Et{look:bI->Nat->Bool}{n:Nat}{l:List Gate}(hg:l[i]?=some g)(d:List Bool):tK look n (l.drop i) i d=tK look n (l.drop (i+1)) (i+1) (d.set i (je look n d g)):=by
 have h1:=(fR.1 hg).1;rw [drop_eq_getElem_cons h1];rw [fc h1] at hg;cases hg;rfl
def Bc(look:bI->Nat->Bool)(n:Nat)(c:fG):List Bool:=tK look n c.aU.l 0 (replicate c.aU.l.length false)
def valueOf(look:bI->Nat->Bool)(n:Nat)(c:fG):Bool:=zG (Bc look n c) ((c.aU.l.length-1:Nat):Int)
structure Bd (n:Nat) (D:bI->Option (Nat×List Bool)) (c:fG):Prop where
 len:∀ g ∈ c.aU.l,g.kind=1->g.at_.l.length<=12
 pow:∀ g ∈ c.aU.l,g.kind=1->n ^ g.at_.l.length<=4096
 PV:∀ g ∈ c.aU.l,g.kind=1->gM n g.at_.l=true
 bit:∀ g ∈ c.aU.l,g.kind=1->∃ p,D g.name=some p/\iw n g.at_.l<p.2.length
theorem Cy{z v:AV}(h1:v.bV = [v])(hv:bw [v]=true):∃ h',bD 1 (.ptr h.next 0) v (h.alloc (.cells [z]))=some h'/\h'.get h.next=sC [v]/\(∀ b,b≠h.next->h'.get b=h.get b)/\h'.next=h.next+1:=by
 refine ⟨_,by rw [fL (n:=1) (ay _ _) (by rw [h1];rfl) (by rw [h1];exact hv) (by simp),h1],?_,fun b hb=>?_,by rw [Heap.bl,Heap.aR]⟩
 ·rw [Heap.aK,if_pos rfl];rfl
 ·rw [Heap.aK,if_neg hb,Heap.aD,if_neg hb]
theorem wm{x:Sl Int}(hx:x.l.length<=dx){g:FuncId}{a b:List AV}{p:Int->Bool}(hp:∀ v ∈ x.l,∀ (K:Out->Heap->Bool),K (.ret (.bool (p v))) h=true->Sem TP g (a++([I6 v]++b)) h K)
  (hK:∀ n:Int,decide (0<=n)=x.l.any p->K (.ret (I6 n)) h=true):Sem TP 168 [gr x,.func g a b] h K:=by
 refine F.eZ ?_;rw [F.fe];simp only [br,reduceAdd,reduceEqDiff,reduceIte];refine aI 0 x.l.length (zero_le _) (fun i e h'=>h'=h/\e 0=gr x/\e 1 = .func g a b/\e 7=I6 (x.l.length:Int)/\e 8=I6 (i:Int)/\(x.l.take i).any p=false) ⟨rfl,rfl,rfl,rfl,rfl,rfl⟩ ?_ ?_
 ·rintro i e h' _ hi ⟨rfl,e0,e1,e7,e8,ht⟩ K' hn gG hr zP;have hv:x.l[i]?=some x.l[i]:=fc hi;rw [F.aJ.aT];simp only [e0,e1,e7,e8,br,reduceAdd,reduceEqDiff,reduceIte,bu hi,bt x hi,eN hv,gL];refine ag (hp _ (iz hv) _ ?_);simp only [br,reduceAdd,reduceEqDiff,reduceIte]
  cases hq:p x.l[i] with
  |true=>
   simp only [aA];rw [hr,F.aJ.bh];refine hK (i:Int) ?_;rw [fS (by omega:(0:Int)<=(i:Int))];exact (List.any_eq_true.2 ⟨_,iz hv,hq⟩).symm
  |false=>
   simp only [ax,aN hi hx,cN];exact hn _ _ ⟨rfl,e0,e1,e7,rfl,by rw [take_add_one,hv,any_append,ht];simp [hq]⟩
 ·rintro e h' ⟨rfl,e0,e1,e7,e8,ht⟩ K' gG;rw [F.aJ.aT];simp only [e0,e1,e7,e8,br,reduceAdd,reduceEqDiff,reduceIte,bf];rw [gG,F.aJ.aF];rw [yA (dR _)] at ht;exact hK (-1) (by rw [ht];rfl)
theorem qA{x:Sl Int}(hx:x.l.length<=dx){g:FuncId}{a b:List AV}{p:Int->Bool}(hp:∀ v ∈ x.l,∀ (K:Out->Heap->Bool),K (.ret (.bool (p v))) h=true->Sem TP g (a++([I6 v]++b)) h K)
  (hK:K (.ret (.bool (x.l.any p))) h=true):Sem TP 112 [gr x,.func g a b] h K:=by
 refine F.eB ?_;rw [F.eM];refine ag (wm hx hp fun n hn=>?_);simp only [br,reduceAdd,reduceEqDiff,reduceIte];rw [hn];exact hK
theorem Eu{kind:Int}(h:kind=3\/kind=4)(d:List Bool)(kids:List Int):((kids.any fun k=>zG d k==decide (kind=4))==decide (kind=4))=DA kind d kids:=by
 unfold DA;rcases h with rfl|rfl
 ·have:(fun k=>zG d k==decide ((3:Int)=4))=fun k=>zG d k != decide ((3:Int)=3):=by
   funext k;cases zG d k<;>rfl
  rw [this];cases kids.any fun k=>zG d k != decide ((3:Int)=3)<;>rfl
 ·have:(fun k=>zG d k==decide ((4:Int)=4))=fun k=>zG d k != decide ((4:Int)=3):=by
   funext k;cases zG d k<;>rfl
  rw [this];cases kids.any fun k=>zG d k != decide ((4:Int)=3)<;>rfl
theorem cK{c:fG}{n:Nat}{D:bI->Option (Nat×List Bool)}{B lo:Nat}(hc:c.ok)(hf:c.fits)(hn:c.size=(n:Int))(n1:1<=n)(Cz:n<=64)(hr:Bd n D c){h:Heap}(hB:kg D h B lo){K:Out->Heap->Bool}
  (hK:∀ h',aX h h'->K (.ret (.bool (valueOf (gX D) n c))) h'=true):Sem TP 57 [.agg (an c),.map B] h K:=by
 obtain ⟨KD,Lq,hfit⟩:=hf;refine F.th ?_;rw [F.vC];simp only [cc (dm c),cN];have g0:(Heap.alloc h (.cells (an c))).get h.next=sC (an c):=ay _ _
 have gn:(Heap.alloc h (.cells (an c))).next=h.next+1:=rfl
 have gx:aX h (Heap.alloc h (.cells (an c))):=aX.alloc _ _;generalize (Heap.alloc h (.cells (an c)))=H1 at g0 gn gx ⊢;have l1:au none (.ptr h.next 1) H1=some (cp bz 4 c.aU):=by rw [ai g0];rfl
 simp only [br,reduceAdd,reduceEqDiff,reduceIte,l1,Dz (show c.aU.l.length<=1000000 by omega)];have q0:(H1.alloc (.cells ((replicate c.aU.l.length false).map bv))).get h.next=sC (an c):=by rw [Heap.aD,gn,if_neg (by omega)];exact g0
 have q1:(H1.alloc (.cells ((replicate c.aU.l.length false).map bv))).get (h.next+1)=sC ((replicate c.aU.l.length false).map bv):=by rw [<- gn];exact ay _ _
 have qn:(H1.alloc (.cells ((replicate c.aU.l.length false).map bv))).next=h.next+2:=by rw [Heap.aR,gn]
 have qx:aX h (H1.alloc (.cells ((replicate c.aU.l.length false).map bv))):=gx.trans (aX.alloc _ _);rw [gn];generalize (H1.alloc (.cells ((replicate c.aU.l.length false).map bv)))=H2 at q0 q1 qn qx ⊢;obtain ⟨H3,GC,s0,s1,s2⟩:=Cy (h:=H2) (z:=.aE) (v:=.slice (h.next+1) 0 c.aU.l.length 1) rfl rfl;rw [qn] at s0 s1 s2 GC;have p0:H3.get h.next=sC (an c):=by rw [s1 _ (by omega)];exact q0
 have p1:H3.get (h.next+1)=sC ((replicate c.aU.l.length false).map bv):=by rw [s1 _ (by omega)];exact q1
 have px:aX h H3:=⟨by omega,fun b hb=>by rw [s1 _ (by omega)];exact qx.get b hb⟩
 have l3:au none (.ptr h.next 1) H3=some (cp bz 4 c.aU):=by rw [ai p0];rfl
 simp only [qn,GC,l3,pW,cN]
 refine aI 0 c.aU.l.length (zero_le _) (fun i e h'=>∃ d,Bc (gX D) n c=tK (gX D) n (c.aU.l.drop i) i d/\d.length=c.aU.l.length/\h'.get h.next=sC (an c)/\h'.get (h.next+1)=sC (d.map bv)/\h'.get (h.next+2)=sC [.slice (h.next+1) 0 c.aU.l.length 1]/\aX h h'/\h.next+3<=h'.next /\
  e 1 = .map B/\e 2 = .ptr h.next 0/\e 5 = .ptr (h.next+2) 0/\e 15=cp bz 4 c.aU/\e 16=I6 (c.aU.l.length:Int)/\e 17=I6 (i:Int)) ⟨_,rfl,by simp,p0,p1,s0,px,by omega,rfl,rfl,rfl,rfl,rfl,rfl⟩ ?_ ?_
 ·rintro i e h' _ hi ⟨d,hd,hdl,q0,q1,q2,qx,qn,e1,e2,e5,CA,J2,L4⟩ K' oU gG zy hp;have hg:c.aU.l[i]?=some c.aU.l[i]:=fc hi;generalize c.aU.l[i]=g at hg;have xJ:g.ok:=hc.2 g (iz hg);have Hf:=hfit i g hg;have MI:=iz hg;rw [Et hg] at hd;have MJ:i<d.length:=by omega
  obtain ⟨H,wM,p3,go,gn⟩:=eG (h:=h') (zs:=[I6 0,.str [],.aE,.aE]) (cs:=bz g) (n:=4) rfl rfl (gV g);have p0:H.get h.next=sC (an c):=by rw [go _ (by omega)];exact q0
  have p1:H.get (h.next+1)=sC (d.map bv):=by rw [go _ (by omega)];exact q1
  have p2:H.get (h.next+2)=sC [.slice (h.next+1) 0 c.aU.l.length 1]:=by rw [go _ (by omega)];exact q2
  have px:aX h H:=qx.trans ⟨by omega,fun b hb=>go b (by omega)⟩;have ls:au none (.ptr h.next 0) H=some (I6 (n:Int)):=by rw [ai p0,<- hn];rfl
  have lv:au none (.ptr (h.next+2) 0) H=some (.slice (h.next+1) 0 c.aU.l.length 1):=by rw [ai p2];rfl
  have LS:au none (.ptr h'.next 0) H=some (I6 g.kind):=by rw [ai p3];rfl
  have MF:au none (.ptr h'.next 1) H=some (.str g.name):=by rw [ai p3];rfl
  have Sh:au none (.ptr h'.next 2) H=some (gr g.at_):=by rw [ai p3];rfl
  have PW:au none (.ptr h'.next 3) H=some (gr g.kids):=by rw [ai p3];rfl
  have HP:∀ (b:Bool),(H.set (h.next+1) (.cells ((d.set i b).map bv))).get h.next=sC (an c):=fun b=>by rw [Heap.aK,if_neg (by omega)];exact p0
  have HQ:∀ (b:Bool),(H.set (h.next+1) (.cells ((d.set i b).map bv))).get (h.next+1)=sC ((d.set i b).map bv):=fun b=>by rw [Heap.aK,if_pos rfl]
  have HR:∀ (b:Bool),(H.set (h.next+1) (.cells ((d.set i b).map bv))).get (h.next+2)=sC [.slice (h.next+1) 0 c.aU.l.length 1]:=fun b=>by rw [Heap.aK,if_neg (by omega)];exact p2
  have HS:∀ (b:Bool),aX h (H.set (h.next+1) (.cells ((d.set i b).map bv))):=fun b=>px.set (by omega) _;have HT:∀ (b:Bool),h.next+3<=(H.set (h.next+1) (.cells ((d.set i b).map bv))).next:=fun b=>by rw [Heap.bl];omega
  rw [F.cK.aT];simp only [e1,e2,e5,CA,J2,L4,br,reduceAdd,reduceEqDiff,reduceIte,bu hi,bt c.aU hi,g8 fZ hg,wM,LS,b9];by_cases c0:g.kind=0
  ·simp only [fS c0,aA,lv,kI hi,iY p1 MJ,aN hi hc.1,cN];rw [je,if_pos c0] at hd;exact oU _ _ ⟨_,hd,by simpa using hdl,HP _,HQ _,HR _,HS _,HT _,e1,e2,e5,CA,J2,rfl⟩
  simp only [fB c0,ax];by_cases c1:g.kind=1
  ·rw [je,if_neg c0,if_pos c1] at hd;obtain ⟨p,KG,Hz⟩:=hr.bit g MI c1;have PX:=hB.ext px;obtain ⟨Ts,Tt,mm,m1,m2,m3⟩:=PX.ex;obtain ⟨k1,k2,k3,k4⟩:=PX.BE _ _ KG;have J3:dy .string .aE false (.map B) (.str g.name) H=some (.slice p.1 0 p.2.length 1):=by rw [jX m1 m2,m3,KG];rfl
   have Ev:p.2[iw n g.at_.l]?=some (gX D g.name (iw n g.at_.l)):=by
    unfold gX;rw [KG];simp only;rw [getD_eq_getElem?_getD,fc Hz];rfl
   simp only [fS c1,aA,oA,Nat.zero_add,Nat.add_zero,cN,ls,Sh];refine ag (dA n1 Cz (hr.len g MI c1) (hr.pow g MI c1) (hr.PV g MI c1) ?_);simp only [br,reduceAdd,reduceEqDiff,reduceIte,e1,e5,L4,lv,MF,J3,kI Hz,lD k4 Ev,kI hi,iY p1 MJ,aN hi hc.1];exact oU _ _ ⟨_,hd,by simpa using hdl,HP _,HQ _,HR _,HS _,HT _,e1,e2,e5,CA,J2,rfl⟩
  simp only [fB c1,ax];by_cases c2:g.kind=2
  ·rw [je,if_neg c0,if_neg c1,if_pos c2] at hd
   have KB:g.kids.l.length=1:=by
    have hq:=Hf;simp only [ga,if_neg c1,and_eq_true] at hq;have h4:=hq.2.2.2.2.2;simpa [c2] using h4
   have qJ:g.kids.l[0]?=some (g.kids.l.getD 0 0):=by rw [getD_eq_getElem?_getD,fc (by omega)];rfl
   generalize g.kids.l.getD 0 0=v at qJ hd;obtain ⟨v0,v1⟩:=AU Hf qJ;obtain ⟨vn,rfl⟩:∃ vn:Nat,v=(vn:Int):=⟨v.toNat,by omega⟩
   have ik:iZ 1 (gr g.kids) (I6 0)=some (.cS (g.kids.l.flatMap encI) (0*1)):=bt g.kids (i:=0) (by omega);simp only [fS c2,aA,lv,PW,ik,eN qJ,kI (show vn<c.aU.l.length by omega),lD p1 (zI (show vn<d.length by omega)),gD,kI hi,iY p1 MJ,aN hi hc.1,cN,oA,Nat.zero_add];exact oU _ _ ⟨_,hd,by simpa using hdl,HP _,HQ _,HR _,HS _,HT _,e1,e2,e5,CA,J2,rfl⟩
  simp only [fB c2,ax];rw [je,if_neg c0,if_neg c1,if_neg c2] at hd
  have N4:g.kind=3\/g.kind=4:=by
   have hq:=Hf;simp only [ga,and_eq_true] at hq;have h1:=of_decide_eq_true hq.1;have h2:=of_decide_eq_true hq.2.1;omega
  rw [<- Eu N4] at hd;simp only [lv,PW,LS,cN,oA,Nat.zero_add,Nat.add_zero,eq_int,b9];refine ag (qA xJ.2.2 (p:=fun v=>zG d v==decide (g.kind=4)) (fun v hv K2 GD=>?_) ?_)
  ·obtain ⟨j,hj⟩:=getElem?_of_mem hv;obtain ⟨v0,v1⟩:=AU Hf hj;exact Gc p2 p1 (by omega) p3 v v0 (by omega) K2 GD
  ·simp only [bU,e5,lv,LS,cN,AV.beq_refl,Bool.and_self,if_true,Dg,L4,kI hi,iY p1 MJ,aN hi hc.1];exact oU _ _ ⟨_,hd,by simpa using hdl,HP _,HQ _,HR _,HS _,HT _,e1,e2,e5,CA,J2,rfl⟩
 ·rintro e h' ⟨d,hd,hdl,q0,q1,q2,qx,qn,e1,e2,e5,CA,J2,L4⟩ K' gG;rw [F.cK.aT];simp only [J2,L4,br,reduceAdd,reduceEqDiff,reduceIte,bf];rw [gG,F.cK.aF];rw [drop_of_length_le (dR _)] at hd;simp only [tK] at hd;have lv:au none (.ptr (h.next+2) 0) h'=some (.slice (h.next+1) 0 c.aU.l.length 1):=by rw [ai q2];rfl
  have hlen:∀ h2:Heap,bB .slice (.slice (h.next+1) 0 c.aU.l.length 1) h2=some (I6 (c.aU.l.length:Int)):=fun _=>rfl;simp only [lV,reduceEqDiff,reduceIte,e5,lv,hlen,cN,F2 Lq hc.1,kI (show c.aU.l.length-1<c.aU.l.length by omega),lD q1 (zI (show c.aU.l.length-1<d.length by omega))];have:=hK _ qx;rw [valueOf,hd] at this;exact this
theorem Gf{n k:Nat}{l:List (Sl Int)}(h:qu n k l=true){t:Sl Int}(ht:l[i]?=some t):t.l.length=k/\gM n t.l=true:=by
 have:=qt h (fR.1 ht).1;unfold hU at this;rw [ht] at this;simp only [and_eq_true,decide_eq_true_eq] at this;exact ⟨this.1,this.2.1⟩
structure yl (n:Nat) (s:ew) (m:dV) (D:bI->Option (Nat×List Bool)):Prop where
 to:∀ nm p,D nm=some p->∃ (k:Nat) (r:Rel),m.find nm=some (k:Int)/\s.aQ.l.find? (ic nm (k:Int))=some r/\p.2=bitsOf n k r.aP.l
def Gg(m:dV)(D:bI->Option (Nat×List Bool)):Prop:=∀ p ∈ m,(D p.1).isSome=true
theorem bM{c:fG}{s:ew}(hc:c.ok)(hs:s.ok){h:Heap}{K:Out->Heap->Bool}
  (h1:(cU c=false\/bY s=false)->∀ h',aX h h'->K (.ret (.tuple [.dI,.dI,I6 1])) h'=true)
  (h2:cU c=true->bY s=true->c.size≠s.size->∀ h',aX h h'->K (.ret (.tuple [.dI,.dI,I6 2])) h'=true)
  (h4:∀ m,cE c=some m->bY s=true->c.size=s.size->(∃ p ∈ m,s.aQ.l.find? (ic p.1 p.2)=none)->∀ h',aX h h'->K (.ret (.tuple [.dI,.dI,I6 4])) h'=true)
  (h0:∀ m,cE c=some m->bY s=true->c.size=s.size->∀ h' B M es ck D,aX h h'->kg D h' B h.next->yl s.size.toNat s m D->Gg m D->h'.get M=some (.map es ck)->gq es m->gN es ck->M<h'.next->h.next<=M->M≠B->h.next<=B->K (.ret (.tuple [.map B,.map M,I6 0])) h'=true) :
  Sem TP 56 [.agg (an c),.agg (ak s)] h K:=by
 refine F.xd ?_;rw [F.zo];simp only [cc (dm c),cc (cL s),cN,Heap.aR];have g0:(Heap.alloc (Heap.alloc h (.cells (an c))) (.cells (ak s))).get h.next=sC (an c):=by rw [Heap.aD,Heap.aR,if_neg (by omega)];exact ay _ _
 have g1:(Heap.alloc (Heap.alloc h (.cells (an c))) (.cells (ak s))).get (h.next+1)=sC (ak s):=ay _ _;have gn:(Heap.alloc (Heap.alloc h (.cells (an c))) (.cells (ak s))).next=h.next+2:=rfl
 have gx:aX h (Heap.alloc (Heap.alloc h (.cells (an c))) (.cells (ak s))):=(aX.alloc _ _).trans (aX.alloc _ _);generalize (Heap.alloc (Heap.alloc h (.cells (an c))) (.cells (ak s)))=H0 at g0 g1 gn gx ⊢;have l0:au (some 2) (.ptr h.next 0) H0=some (.agg (an c)):=by rw [ai g0,bJ (cs:=an c) (n:=2) rfl]
 simp only [l0,cN];refine ag (wj hc (fun tI h' hx=>?_) (fun m h' es ck hm hx hM hI J4 L5=>?_))
 ·simp only [br,reduceAdd,reduceEqDiff,reduceIte,Bool.not_false];exact h1 (.inl (by rw [cU,tI];rfl)) _ (gx.trans hx)
 have Gh:cU c=true:=by rw [cU,hm];rfl
 have p0:h'.get h.next=sC (an c):=by rw [hx.get _ (by omega)];exact g0
 have p1:h'.get (h.next+1)=sC (ak s):=by rw [hx.get _ (by omega)];exact g1
 have px:aX h h':=gx.trans hx;rw [gn] at hM L5 ⊢;have oU:=hx.next
 clear hx;have l1:au (some 2) (.ptr (h.next+1) 0) h'=some (.agg (ak s)):=by rw [ai p1,bJ (cs:=ak s) (n:=2) rfl]
 have z0:au none (.ptr h.next 0) h'=some (I6 c.size):=by rw [ai p0];rfl
 have z1:au none (.ptr (h.next+1) 0) h'=some (I6 s.size):=by rw [ai p1];rfl
 simp only [br,reduceAdd,reduceEqDiff,reduceIte,Bool.not_true,l1];refine ag (b8 hs ?_);simp only [br,reduceAdd,reduceEqDiff,reduceIte]
 cases kO:bY s with
 |false=>simp only [Bool.not_false,aA];exact h1 (.inr kO) _ px
 |true=>
 simp only [Bool.not_true,ax,z0,z1,cN,FG,b9,bC];by_cases hz:¬ (c.size=s.size)
 ·simp only [fB hz,Bool.not_false,aA];exact h2 Gh kO hz _ px
 replace hz:=Decidable.not_not.1 hz;obtain ⟨n,hn,n1,Cz,h8⟩:=nu kO;have xz:s.size.toNat=n:=by omega
 have N5:=eo hm;have CB:(m.map (·.1)).Nodup:=N5.nodup nodup_nil;specialize h4 m hm kO hz;specialize h0 m hm kO hz;rw [xz] at h0;clear h1 h2;have q0:(h'.alloc (.map [] 0)).get (h.next+2+1)=some (.map es ck):=by rw [Heap.aD,if_neg (by omega)];exact hM
 have q1:(h'.alloc (.map [] 0)).get (h.next+1)=sC (ak s):=by rw [Heap.aD,if_neg (by omega)];exact p1
 have q2:(h'.alloc (.map [] 0)).get h'.next=some (.map [] 0):=ay _ _
 have qn:(h'.alloc (.map [] 0)).next=h'.next+1:=rfl
 have qx:aX h (h'.alloc (.map [] 0)):=px.trans (aX.alloc _ _)
 have MA:nV .map (.map (h.next+2+1)) (h'.alloc (.map [] 0))=some (.ptr (h'.next+1) 0,(h'.alloc (.map [] 0)).alloc (.dX (some (h.next+2+1)) ck [] ck)):=by
  simp only [nV,q0,qn]
 simp only [fS hz,Bool.not_true,ax,MA,dJ];have r0:((h'.alloc (.map [] 0)).alloc (.dX (some (h.next+2+1)) ck [] ck)).get (h.next+2+1)=some (.map es ck):=by rw [Heap.aD,qn,if_neg (by omega)];exact q0
 have r1:((h'.alloc (.map [] 0)).alloc (.dX (some (h.next+2+1)) ck [] ck)).get (h.next+1)=sC (ak s):=by rw [Heap.aD,qn,if_neg (by omega)];exact q1
 have r2:((h'.alloc (.map [] 0)).alloc (.dX (some (h.next+2+1)) ck [] ck)).get h'.next=some (.map [] 0):=by rw [Heap.aD,qn,if_neg (by omega)];exact q2
 have r3:((h'.alloc (.map [] 0)).alloc (.dX (some (h.next+2+1)) ck [] ck)).get (h'.next+1)=some (.dX (some (h.next+2+1)) ck [] ck):=ay _ _;have rn:((h'.alloc (.map [] 0)).alloc (.dX (some (h.next+2+1)) ck [] ck)).next=h'.next+2:=rfl
 have rx:aX h ((h'.alloc (.map [] 0)).alloc (.dX (some (h.next+2+1)) ck [] ck)):=qx.trans (aX.alloc _ _);generalize ((h'.alloc (.map [] 0)).alloc (.dX (some (h.next+2+1)) ck [] ck))=H1 at r0 r1 r2 r3 rn rx ⊢;generalize Tu:h'.next=B at *
 refine Es es (fun seen e hh=>∃ D,kg D hh B h.next/\yl n s m D/\(∀ en ∈ es,en.2.2 ∈ seen->∀ nm,en.1 = .str nm->(D nm).isSome=true)/\aX h hh/\B+2<=hh.next/\(∀ nm p,D nm=some p->B+2<=p.1) /\
  hh.get (h.next+2+1)=some (.map es ck)/\hh.get (h.next+1)=sC (ak s)/\hh.get (B+1)=some (.dX (some (h.next+2+1)) ck seen ck) /\
  e 3 = .ptr (h.next+1) 0/\e 7 = .map (h.next+2+1)/\e 9 = .map B/\e 38 = .ptr (B+1) 0)
  ⟨fun _=>none,⟨⟨[],0,[],r2,trivial,fun nm=>rfl⟩,fun nm p hp=>(by cases hp),fun nm EN p p' hp=>(by cases hp),by omega⟩,⟨fun nm p hp=>(by cases hp)⟩,fun en _ Ar=>(by cases Ar),rx,by omega,fun nm p hp=>(by cases hp),r0,r1,r3,rfl,rfl,rfl,rfl⟩ ?_
 rintro seen e hh ⟨D,hD,PY,IT,PZ,Tv,P0,w0,w1,w3,e3,e7,e9,KH⟩ K' N6 hex N7 Si;rw [F.bM.aT];simp only [KH];refine F3 w3 w0 J4 (by omega) (fun kV=>?_) (fun en Ar Sj Af=>?_)
 ·simp only [Jx,br,reduceAdd,reduceEqDiff,reduceIte];rw [hex,F.bM.aF];simp only [br,reduceAdd,reduceEqDiff,reduceIte,e7,e9];refine h0 hh B (h.next+2+1) es ck D PZ hD PY (fun p hp=>?_) w0 hI J4 (by omega) (by omega) (by omega) (by omega);obtain ⟨en,Ar,N8,_⟩:=hI.L3 p hp;exact IT en Ar (kV en Ar) p.1 N8
 obtain ⟨p,J5,P3,A2⟩:=hI.mem en Ar;have v0:(hh.set (B+1) (.dX (some (h.next+2+1)) ck (seen++[en.2.2]) ck)).get (h.next+2+1)=some (.map es ck):=by rw [Heap.aK,if_neg (by omega)];exact w0
 have v1:(hh.set (B+1) (.dX (some (h.next+2+1)) ck (seen++[en.2.2]) ck)).get (h.next+1)=sC (ak s):=by rw [Heap.aK,if_neg (by omega)];exact w1
 have v3:(hh.set (B+1) (.dX (some (h.next+2+1)) ck (seen++[en.2.2]) ck)).get (B+1)=some (.dX (some (h.next+2+1)) ck (seen++[en.2.2]) ck):=by rw [Heap.aK,if_pos rfl]
 have vn:(hh.set (B+1) (.dX (some (h.next+2+1)) ck (seen++[en.2.2]) ck)).next=hh.next:=Heap.bl _ _ _
 have vx:aX h (hh.set (B+1) (.dX (some (h.next+2+1)) ck (seen++[en.2.2]) ck)):=PZ.set (by omega) _
 have vD:kg D (hh.set (B+1) (.dX (some (h.next+2+1)) ck (seen++[en.2.2]) ck)) B h.next:=by
  obtain ⟨MK,ML,bm,b1,b2,b3⟩:=hD.ex;refine ⟨⟨MK,ML,bm,by rw [Heap.aK,if_neg (by omega)];exact b1,b2,b3⟩,fun nm q hq=>?_,hD.inj,by rw [vn];exact hD.lt⟩;obtain ⟨k1,k2,k3,k4⟩:=hD.BE nm q hq;have:=P0 nm q hq;exact ⟨k1,by rw [vn];exact k2,k3,by rw [Heap.aK,if_neg (by omega)];exact k4⟩
 simp only [Jx,ni,nj,cN,bC,aA,Af,e3,e7,e9];clear Af;generalize (hh.set (B+1) (.dX (some (h.next+2+1)) ck (seen++[en.2.2]) ck))=H at v0 v1 v3 vn vx vD ⊢;have lw:au (some 2) (.ptr (h.next+1) 0) H=some (.agg (ak s)):=by rw [ai v1,bJ (cs:=ak s) (n:=2) rfl]
 have lz:au none (.ptr (h.next+1) 0) H=some (I6 (n:Int)):=by rw [ai v1,<- hn];rfl
 simp only [P3,A2,lw,cN];refine ag (oK hs ?_);simp only [bU,jT,cN,bC];rcases mP (ic p.1 p.2) s.aQ.l with ⟨f1,f2⟩|⟨j,r,f1,f2,f3⟩
 ·rw [f1];simp only [show decide ((-1:Int)<0)=true from rfl,aA];rw [N7,F.bM.bh];simp only [lV,reduceEqDiff,reduceIte];exact h4 ⟨p,J5,f2⟩ _ vx
 rw [f1];have hj:j<s.aQ.l.length:=(fR.1 f2).1;have JT:r.ok:=hs.2 r (iz f2);have GH:=qz kO f2;rw [xz] at GH;obtain ⟨k,hk,MM,Sk,IU⟩:=uh GH;have IL:=find?_some f3;simp only [ic,and_eq_true,beq_iff_eq,decide_eq_true_eq] at IL;have LX:p.2=(k:Int):=by omega
 have DH:k<=dx:=by unfold dx;omega
 have Sm:Eg n k = .tuple [I6 ((n ^ k:Nat):Int),I6 0]:=by rw [Eg,if_neg (by omega),if_neg (by omega)]
 rw [LX] at f3 ⊢;simp only [fB (by omega:¬ ((j:Int)<0)),ax,oA,Nat.add_zero,cN,lz];refine ag (mI n1 Cz DH ?_);rw [Sm];simp only [bU,ni,nj,cN,Dz (show n ^ k<=1000000 by omega),dJ];obtain ⟨MK,ML,bm,b1,b2,b3⟩:=vD.ex;have a1:(H.alloc (.cells ((replicate (n ^ k) false).map bv))).get B=some (.map MK ML):=by rw [Heap.aD,if_neg (by omega)];exact b1
 obtain ⟨tL,tM,hu,GG⟩:=sQ a1 b2 p.1 (.slice H.next 0 (n ^ k) 1);simp only [hu,cN];have u0:((H.alloc (.cells ((replicate (n ^ k) false).map bv))).set B (.map tL tM)).get (h.next+2+1)=some (.map es ck):=by rw [Heap.aK,if_neg (by omega),Heap.aD,if_neg (by omega)];exact v0
 have u1:((H.alloc (.cells ((replicate (n ^ k) false).map bv))).set B (.map tL tM)).get (h.next+1)=sC (ak s):=by rw [Heap.aK,if_neg (by omega),Heap.aD,if_neg (by omega)];exact v1
 have u3:((H.alloc (.cells ((replicate (n ^ k) false).map bv))).set B (.map tL tM)).get (B+1)=some (.dX (some (h.next+2+1)) ck (seen++[en.2.2]) ck):=by rw [Heap.aK,if_neg (by omega),Heap.aD,if_neg (by omega)];exact v3
 have u4:((H.alloc (.cells ((replicate (n ^ k) false).map bv))).set B (.map tL tM)).get B=some (.map tL tM):=by rw [Heap.aK,if_pos rfl]
 have u5:((H.alloc (.cells ((replicate (n ^ k) false).map bv))).set B (.map tL tM)).get H.next=sC ((replicate (n ^ k) false).map bv):=by rw [Heap.aK,if_neg (by omega)];exact ay _ _
 have uo:∀ b,b≠B->b<H.next->((H.alloc (.cells ((replicate (n ^ k) false).map bv))).set B (.map tL tM)).get b=H.get b:=fun b hb hl=>by rw [Heap.aK,if_neg hb,Heap.aD,if_neg (by omega)]
 have un:((H.alloc (.cells ((replicate (n ^ k) false).map bv))).set B (.map tL tM)).next=H.next+1:=by rw [Heap.bl,Heap.aR]
 have ux:aX h ((H.alloc (.cells ((replicate (n ^ k) false).map bv))).set B (.map tL tM)):=(vx.trans (aX.alloc _ _)).set (by omega) _;generalize ((H.alloc (.cells ((replicate (n ^ k) false).map bv))).set B (.map tL tM))=H2 at u0 u1 u3 u4 u5 uo un ux ⊢;have lr:au none (.ptr (h.next+1) 1) H2=some (BF s.aQ):=by rw [ai u1];rfl
 simp only [oA,Nat.zero_add,cN,lr,bt s.aQ hj,y7,mM f2,pW]
 refine aI 0 r.aP.l.length (zero_le _) (fun i e h3=>∃ d,bitsOf n k r.aP.l=jJ n (r.aP.l.drop i) d/\d.length=n ^ k/\h3.get H.next=sC (d.map bv)/\(∀ b,b≠H.next->h3.get b=H2.get b)/\h3.next=H2.next /\
  e 3 = .ptr (h.next+1) 0/\e 7 = .map (h.next+2+1)/\e 9 = .map B/\e 38 = .ptr (B+1) 0/\e 10 = .str p.1/\e 66=zx r.aP/\e 67=I6 (r.aP.l.length:Int)/\e 68=I6 (i:Int))
  ⟨_,rfl,by simp,u5,fun _ _=>rfl,rfl,e3,e7,e9,KH,rfl,rfl,rfl,rfl⟩ ?_ ?_
 ·rintro i e h3 _ hi ⟨d,hd,hdl,t5,to,tn,e3,e7,e9,KH,iK,N9,MN,MO⟩ K2 A2 gY zQ Hz;have hv:r.aP.l[i]?=some r.aP.l[i]:=fc hi;generalize r.aP.l[i]=t at hv;obtain ⟨wF,LC⟩:=Gf IU hv;rw [En hv] at hd;have HU:iw n t.l<n ^ k:=by have:=vQ LC;rwa [wF] at this
  have w1:h3.get (h.next+1)=sC (ak s):=by rw [to _ (by omega)];exact u1
  have lz:au none (.ptr (h.next+1) 0) h3=some (I6 (n:Int)):=by rw [ai w1,<- hn];rfl
  have w4:h3.get B=some (.map tL tM):=by rw [to _ (by omega)];exact u4
  have J3:dy .string .aE false (.map B) (.str p.1) h3=some (.slice H.next 0 (n ^ k) 1):=by rw [jX w4 GG,vV,if_pos rfl];rfl
  rw [F.bM.ff];simp only [e3,N9,MN,MO,br,reduceAdd,reduceEqDiff,reduceIte,bu hi,bt r.aP hi,fy hv,lz];refine ag (dA n1 Cz (by omega) (by rw [wF];exact Sk) LC ?_);simp only [br,reduceAdd,reduceEqDiff,reduceIte,e9,iK,MO,J3,kI HU,iY t5 (show iw n t.l<d.length by omega),aN hi JT.2.1];exact A2 _ _ ⟨_,hd,by simpa using hdl,by rw [Heap.aK,if_pos rfl],fun b hb=>by rw [Heap.aK,if_neg hb];exact to b hb,by rw [Heap.bl];exact tn,e3,e7,e9,KH,iK,N9,MN,rfl⟩
 ·rintro e h3 ⟨d,hd,hdl,t5,to,tn,e3,e7,e9,KH,iK,N9,MN,MO⟩ K2 gY;rw [F.bM.ff];simp only [MN,MO,br,reduceAdd,reduceEqDiff,reduceIte,bf];rw [gY,F.bM.dL];rw [drop_of_length_le (dR _)] at hd;simp only [jJ] at hd;refine N6 en Ar Sj _ _ ⟨fun nm=>if nm=p.1 then some (H.next,d) else D nm,⟨⟨tL,tM,_,by rw [to _ (by omega)];exact u4,GG,fun nm=>?_⟩,fun nm q hq=>?_,fun nm EN q q' hq oV EO=>?_,by omega⟩,⟨fun nm q hq=>?_⟩,fun Sn L6 Sp nm jo=>?_,?_,by omega,fun nm q hq=>?_,?_,?_,?_,?_,?_,?_,?_⟩
  ·rw [vV];by_cases jo:nm=p.1
   ·rw [if_pos jo,if_pos jo,map_some,hdl]
   ·rw [if_neg jo,if_neg jo,b3]
  ·skip
   by_cases jo:nm=p.1
   ·rw [if_pos jo] at hq;cases hq;exact ⟨by have:=vx.next;omega,by omega,by omega,t5⟩
   ·rw [if_neg jo] at hq;obtain ⟨k1,k2,k3,k4⟩:=vD.BE nm q hq;exact ⟨k1,by omega,k3,by rw [to _ (by omega),uo _ k3 k2];exact k4⟩
  ·skip
   by_cases jo:nm=p.1
   ·by_cases zJ:EN=p.1
    ·rw [jo,zJ]
    ·rw [if_pos jo] at hq;rw [if_neg zJ] at oV;cases hq;obtain ⟨k1,k2,k3,k4⟩:=vD.BE EN q' oV;simp only at EO;omega
   ·by_cases zJ:EN=p.1
    ·rw [if_neg jo] at hq;rw [if_pos zJ] at oV;cases oV;obtain ⟨k1,k2,k3,k4⟩:=vD.BE nm q hq;simp only at EO;omega
    ·rw [if_neg jo] at hq;rw [if_neg zJ] at oV;exact vD.inj nm EN q q' hq oV EO
  ·skip
   by_cases jo:nm=p.1
   ·rw [if_pos jo] at hq;cases hq;subst jo;exact ⟨k,r,by rw [jm CB J5,LX],f3,hd.symm⟩
   ·rw [if_neg jo] at hq;exact PY.to nm q hq
  ·simp only;by_cases zJ:nm=p.1
   ·rw [if_pos zJ];rfl
   ·rw [if_neg zJ];refine IT Sn L6 ?_ nm jo;rcases mem_append.1 Sp with h5|h5
    ·exact h5
    ·exfalso;simp only [mem_singleton] at h5;have h6:=mO J4.nodup L6;have h7:=mO J4.nodup Ar;rw [h5,h7] at h6;cases h6;rw [P3] at jo;cases jo;exact zJ rfl
  ·exact ⟨by rw [tn];exact ux.next,fun b hb=>by rw [to _ (by have:=vx.next;omega)];exact ux.get b hb⟩
  ·simp only at hq;by_cases jo:nm=p.1
   ·rw [if_pos jo] at hq;cases hq;show B+2<=H.next;omega
   ·rw [if_neg jo] at hq;exact P0 nm q hq
  ·rw [to _ (by omega)];exact u0
  ·rw [to _ (by omega)];exact u1
  ·rw [to _ (by omega)];exact u3
  ·exact e3
  ·exact e7
  ·exact e9
  ·exact KH
theorem fA{s:ew}(hv:bY s=true):(s.aQ.l.map Rel.name).Nodup:=by
 simp only [bY,and_eq_true] at hv;unfold List.Nodup;rw [pairwise_iff_getElem];intro i j hi hj hij e;rw [length_map] at hi hj;have:=qt hv.2.2.2 hj;rw [jH,fc hj] at this;simp only [and_eq_true,not_eq_true'] at this;rw [getElem_map,getElem_map] at e;have h2:=FZ (p:=fun q:Rel=>q.name==s.aQ.l[j].name) (fc hi) hij (by simpa using e);rw [h2] at this;cases this.2
theorem jZ:∀ {l:List Rel},(l.map Rel.name).Nodup->∀ r ∈ l,l.find? (cQ r.name)=some r
 |[],_,r,h=>by cases h
 |q :: l,hn,r,h=>by
  rw [map_cons,nodup_cons] at hn;rw [find?_cons];rcases mem_cons.1 h with rfl|h
  ·have:cQ r.name r=true:=by simp [cQ]
   rw [this]
  ·have:cQ r.name q=false:=by
    simp only [cQ,beq_eq_false_iff_ne];exact fun e=>hn.1 (e▸List.mem_map_of_mem h)
   rw [this];exact jZ hn.2 r h
theorem rX:∀ {l:List Rel},(l.map Rel.name).Nodup->∀ (nm:bI) (k:Int),l.find? (ic nm k)=match l.find? (cQ nm) with
  |some r=>if r.arity=k then some r else none
  |none=>none
 |[],_,nm,k=>rfl
 |q :: l,hn,nm,k=>by
  rw [map_cons,nodup_cons] at hn;rw [find?_cons,find?_cons]
  cases hq:cQ nm q with
  |true=>
   have oV:q.name==nm:=hq;simp only;by_cases ha:q.arity=k
   ·have:ic nm k q=true:=(by rw [ic,oV,fS ha];rfl);rw [this,if_pos ha]
   ·have:ic nm k q=false:=(by rw [ic,fB ha,Bool.and_false]);rw [this,if_neg ha];simp only;rw [find?_eq_none];intro r hr hs;simp only [ic,and_eq_true,beq_iff_eq] at hs oV;exact hn.1 (by rw [oV,<- hs.1];exact List.mem_map_of_mem hr)
  |false=>
   have oV:(q.name==nm)=false:=hq;have:ic nm k q=false:=by rw [ic,oV,Bool.false_and]
   rw [this];exact rX hn.2 nm k
theorem Be{s:ew}(hv:bY s=true)(y:bI×Int):jd s y=(s.aQ.l.find? (ic y.1 y.2)).isSome:=by
 rw [rX (fA hv),jd]
 cases s.aQ.l.find? (cQ y.1) with
 |none=>rfl
 |some r=>
  simp only;by_cases h:r.arity=y.2
  ·rw [if_pos h,fS h];rfl
  ·rw [if_neg h,fB h];rfl
theorem oQ{x s:bI}:∀ {l:List bI},x ∈ dQ l s↔x ∈ l\/x=s
 |[]=>by simp [dQ]
 |a :: l=>by
  rw [dQ];split
  ·rw [mem_cons,oQ (l:=l),mem_cons,_root_.or_assoc]
  ·split
   ·rename_i h;subst h;rw [mem_cons];exact ⟨fun h=>.inl h,fun h=>h.elim id .inl⟩
   ·rw [mem_cons];exact Or.comm
theorem ym{x:bI}:∀ {ys:List (bI×Int)} {o:List bI},x ∈ gv ys o↔x ∈ o\/∃ y ∈ ys,y.1=x/\x≠[]
 |[],o=>by simp [gv]
 |y :: ys,o=>by
  rw [gv,ym];by_cases hy:y.1 = []
  ·rw [if_pos (by simp [hy])];constructor
   ·rintro (h|⟨z,hz,h⟩)
    ·exact .inl h
    ·exact .inr ⟨z,mem_cons_of_mem _ hz,h⟩
   ·rintro (h|⟨z,hz,h1,h2⟩)
    ·exact .inl h
    ·rcases mem_cons.1 hz with rfl|hz
     ·exact absurd (h1.symm.trans hy) h2
     ·exact .inr ⟨z,hz,h1,h2⟩
  ·rw [if_neg (by simp [hy]),oQ];constructor
   ·rintro ((h|rfl)|⟨z,hz,h⟩)
    ·exact .inl h
    ·exact .inr ⟨y,mem_cons_self,rfl,hy⟩
    ·exact .inr ⟨z,mem_cons_of_mem _ hz,h⟩
   ·rintro (h|⟨z,hz,h1,h2⟩)
    ·exact .inl (.inl h)
    ·rcases mem_cons.1 hz with rfl|hz
     ·exact .inl (.inr h1.symm)
     ·exact .inr ⟨z,hz,h1,h2⟩
structure Sq (l:List Gate) (o o':List (bI×Nat)):Prop where
 from_:∀ y ∈ o',y ∈ o\/∃ g ∈ l,g.kind=1/\g.name=y.1/\y.2=g.at_.l.length
 old:∀ y ∈ o,y ∈ o'
 ins:∀ g ∈ l,g.kind=1->∃ y ∈ o',y.1=g.name
theorem wo:∀ (l:List Gate) (o:List (bI×Nat)),Sq l o (vZ l o)
 |[],o=>⟨fun y h=>.inl h,fun y h=>h,fun g h=>(by cases h)⟩
 |g :: l,o=>by
  rw [vZ];have ih:=wo l (if g.kind=1/\(o.any fun y=>y.1==g.name)=false then o++[(g.name,g.at_.l.length)] else o);generalize vZ l (if g.kind=1/\(o.any fun y=>y.1==g.name)=false then o++[(g.name,g.at_.l.length)] else o)=r at ih ⊢;by_cases hq:g.kind=1/\(o.any fun y=>y.1==g.name)=false
  ·rw [if_pos hq] at ih;refine ⟨fun y hy=>?_,fun y hy=>ih.old y (mem_append_left _ hy),fun g' nc k1=>?_⟩
   ·rcases ih.from_ y hy with h|⟨g',h1,h2⟩
    ·rcases mem_append.1 h with h|h
     ·exact .inl h
     ·simp only [mem_singleton] at h;subst h;exact .inr ⟨g,mem_cons_self,hq.1,rfl,rfl⟩
    ·exact .inr ⟨g',mem_cons_of_mem _ h1,h2⟩
   ·rcases mem_cons.1 nc with rfl|nc
    ·exact ⟨_,ih.old _ (mem_append_right _ (mem_singleton.2 rfl)),rfl⟩
    ·exact ih.ins g' nc k1
  ·rw [if_neg hq] at ih;refine ⟨fun y hy=>?_,ih.old,fun g' nc k1=>?_⟩
   ·rcases ih.from_ y hy with h|⟨g',h1,h2⟩
    ·exact .inl h
    ·exact .inr ⟨g',mem_cons_of_mem _ h1,h2⟩
   ·rcases mem_cons.1 nc with rfl|nc
    ·have:(o.any fun y=>y.1==g'.name)=true:=by
      cases h:o.any fun y=>y.1==g'.name with
      |true=>rfl
      |false=>exact absurd ⟨k1,h⟩ hq
     obtain ⟨y,hy,hn⟩:=List.any_eq_true.1 this;exact ⟨y,ih.old y hy,by simpa using hn⟩
    ·exact ih.ins g' nc k1
theorem rY{n:Int}(hf:ga n i g=true)(k1:g.kind=1):g.name≠[]/\g.at_.l.length<=12/\gM n g.at_.l=true:=by
 simp only [ga,if_pos k1,and_eq_true,decide_eq_true_eq] at hf;refine ⟨fun e=>?_,hf.2.2.2.2.1,hf.2.2.2.2.2.2⟩;have:=hf.2.2.2.1;rw [e] at this;simp [eU] at this
theorem iN(hm:cE c=some m)(hf:c.fits)(y:bI×Int):y ∈ fh c↔m.find y.1=some y.2:=by
 have hS:=eo hm;have hI:=wo c.aU.l []
 have hne:∀ g ∈ c.aU.l,g.kind=1->g.name≠[]:=fun g hg k1=>by
  obtain ⟨i,hi⟩:=getElem?_of_mem hg;exact (rY (hf.2.2 i g hi) k1).1
 have yX:∀ nm,nm ∈ lB (gO (eD c))↔∃ z ∈ eD c,z.1=nm/\nm≠[]:=fun nm=>by
  rw [lB,ym];constructor
  ·rintro (h|⟨z,hz,h1,h2⟩)
   ·cases h
   ·rcases mem_cons.1 hz with rfl|hz
    ·exact absurd h1.symm h2
    ·obtain ⟨w,hw,rfl⟩:=mem_map.1 hz;exact ⟨w,hw,h1,h2⟩
  ·rintro ⟨z,hz,h1,h2⟩;exact .inr ⟨(z.1,(z.2:Int)),mem_cons_of_mem _ (mem_map.2 ⟨z,hz,rfl⟩),h1,h2⟩
 have MP:∀ nm,(∃ z ∈ eD c,z.1=nm/\nm≠[])->m.find nm=some (Dv (gO (eD c)) nm):=by
  rintro nm ⟨z,hz,h1,h2⟩
  have A7:((eD c).map fun y=>(y.1,(y.2:Int))).find? (fun y=>y.1==nm)≠none:=by
   rw [Ne,find?_eq_none];intro hh;exact hh (z.1,(z.2:Int)) (mem_map.2 ⟨z,hz,rfl⟩) (by simpa using h1)
  obtain ⟨w,hw⟩:=ne_none_iff_exists'.1 A7;have hw1:=mem_of_find?_eq_some hw;have hw2:=find?_some hw;obtain ⟨v,hv,rfl⟩:=mem_map.1 hw1
  have e:Dv (gO (eD c)) nm=(v.2:Int):=by
   unfold Dv gO;rw [find?_cons];have:(([]:bI)==nm)=false:=by simpa using Ne.symm h2
   simp only [this,hw]
  rw [e];rcases hI.from_ v hv with h|⟨g,hg,k1,k2,k3⟩
  ·cases h
  ·have:=hS.ins g hg k1;simp only [beq_iff_eq] at hw2;rw [k2,hw2] at this;rw [this,k3]
 constructor
 ·intro h;obtain ⟨nm,hn,rfl⟩:=mem_map.1 h;exact MP nm ((yX nm).1 hn)
 ·intro h;rcases hS.from_ _ _ h with h0|⟨g,hg,k1,k2,k3⟩
  ·cases h0
  ·obtain ⟨z,hz,hz1⟩:=hI.ins g hg k1;have hex:∃ z ∈ eD c,z.1=y.1/\y.1≠[]:=⟨z,hz,hz1.trans k2,by rw [<- k2];exact hne g hg k1⟩
   have:=MP _ hex;rw [h] at this;refine mem_map.2 ⟨y.1,(yX _).2 hex,?_⟩;cases y;simp only [Option.some.injEq] at this ⊢;rw [<- this]
theorem nv{s:ew}(hm:cE c=some m)(hf:c.fits)(hv:bY s=true):(fh c).all (jd s)=false↔∃ p ∈ m,s.aQ.l.find? (ic p.1 p.2)=none:=by
 have CB:(m.map (·.1)).Nodup:=(eo hm).nodup nodup_nil;rw [List.all_eq_false];constructor
 ·rintro ⟨y,hy,h⟩;rw [Be hv] at h;refine ⟨y,rW ((iN hm hf y).1 hy),?_⟩;simpa using h
 ·rintro ⟨p,hp,h⟩;refine ⟨p,(iN hm hf p).2 (jm CB hp),?_⟩;rw [Be hv,h];simp
theorem rZ{n:Nat}{nm:bI}{r:Nat}:∀ {l:List Rel},(l.map Rel.name).Nodup->∀ b,HO nm r (l.map (qy n)) b=match l.find? (cQ nm) with
  |some q=>(qy n q).bits.getD r false
  |none=>b
 |[],_,b=>rfl
 |q :: l,hn,b=>by
  rw [map_cons,nodup_cons] at hn;rw [map_cons,HO,rZ hn.2,find?_cons]
  cases hq:cQ nm q with
  |true=>
   have oV:q.name==nm:=hq
   have h0:l.find? (cQ nm)=none:=by
    rw [find?_eq_none];intro r hr hs;simp only [cQ,beq_iff_eq] at hs oV;exact hn.1 (by rw [oV,<- hs];exact List.mem_map_of_mem hr)
   rw [h0];simp only;rw [if_pos (show ((qy n q).name==nm)=true from hq)]
  |false=>
   rw [if_neg (by rw [show ((qy n q).name==nm)=false from hq];decide)]
theorem CC{n:Nat}{rU:List IQ}{look:bI->Nat->Bool}:∀ {l:List Gate},(∀ g ∈ l,∀ i d,zH n rU d i g=je look n d g)->∀ i d,DB n rU l i d=tK look n l i d
 |[],_,_,_=>rfl
 |g :: l,h,i,d=>by
  rw [DB,tK,h g mem_cons_self,CC fun g' nc=>h g' (mem_cons_of_mem _ nc)]
theorem lF{s:ew}{n:Nat}(hm:cE c=some m)(hf:c.fits)(hv:bY s=true)(hn:s.size=(n:Int))(hF:yl n s m D)(hA:Gg m D)(hg:g ∈ c.aU.l)(k1:g.kind=1) :
  ∃ p r,D g.name=some p/\s.aQ.l.find? (cQ g.name)=some r/\r.arity=(g.at_.l.length:Int)/\p.2=bitsOf n g.at_.l.length r.aP.l/\n ^ g.at_.l.length<=4096:=by
 have hS:=eo hm;have hin:=hS.ins g hg k1;have hD:=hA _ (rW hin);obtain ⟨p,hp⟩:=isSome_iff_exists.1 hD;obtain ⟨k,r,h1,h2,h3⟩:=hF.to _ _ hp;simp only at h1;rw [hin] at h1;obtain rfl:k=g.at_.l.length:=by simp only [Option.some.injEq] at h1;omega
 have h4:=h2;rw [rX (fA hv)] at h4
 cases hr:s.aQ.l.find? (cQ g.name) with
 |none=>rw [hr] at h4;cases h4
 |some q=>
  rw [hr] at h4;simp only at h4;split at h4
  ·rename_i ha;cases h4;obtain ⟨i,hi⟩:=getElem?_of_mem (mem_of_find?_eq_some hr);have GH:=qz hv hi;rw [show s.size.toNat=n by omega] at GH;obtain ⟨k',e1,e2,e3,e4⟩:=uh GH;obtain rfl:k'=g.at_.l.length:=by omega
   exact ⟨p,_,hp,rfl,ha,h3,e3⟩
  ·cases h4
theorem qB{s:ew}{n:Nat}(hz:c.size=s.size)(hn:s.size=(n:Int))(hf:c.fits)(hg:g ∈ c.aU.l)(k1:g.kind=1):g.at_.l.length<=12/\gM (n:Int) g.at_.l=true:=by
 obtain ⟨i,hi⟩:=getElem?_of_mem hg;have:=rY (hf.2.2 i g hi) k1;rw [hz,hn] at this;exact this.2
theorem Bf{s:ew}{n:Nat}(hm:cE c=some m)(hf:c.fits)(hv:bY s=true)(hz:c.size=s.size)(hn:s.size=(n:Int))(hF:yl n s m D)(hA:Gg m D):Bd n D c:=by
 refine ⟨fun g hg k1=>(qB hz hn hf hg k1).1,fun g hg k1=>?_,fun g hg k1=>(qB hz hn hf hg k1).2,fun g hg k1=>?_⟩
 ·obtain ⟨p,r,h1,h2,h3,h4,h5⟩:=lF hm hf hv hn hF hA hg k1;exact h5
 ·obtain ⟨p,r,h1,h2,h3,h4,h5⟩:=lF hm hf hv hn hF hA hg k1;exact ⟨p,h1,by rw [h4,wh];exact vQ (qB hz hn hf hg k1).2⟩
theorem Gi{s:ew}{n:Nat}(hm:cE c=some m)(hf:c.fits)(hv:bY s=true)(hz:c.size=s.size)(hn:s.size=(n:Int))(hF:yl n s m D)(hA:Gg m D):valueOf (gX D) n c=Eo n (mR s) c:=by
 unfold valueOf Eo Bc Cx;rw [CC (rU:=mR s) (look:=gX D)];intro g hg i d;unfold zH je;split
 ·rfl
 split
 ·rename_i k1;obtain ⟨p,r,h1,h2,h3,h4,h5⟩:=lF hm hf hv hn hF hA hg k1;rw [mR,rZ (fA hv),h2,gX,h1];simp only [qy,h3,h4,show s.size.toNat=n by omega,Int.toNat_natCast]
 ·rfl
theorem all_some{s:ew}(hm:cE c=some m)(hf:c.fits)(hv:bY s=true)(ha:(fh c).all (jd s)=true)(hg:g ∈ c.aU.l)(k1:g.kind=1):∃ r,s.aQ.l.find? (cQ g.name)=some r/\r.arity=(g.at_.l.length:Int):=by
 have hin:=(eo hm).ins g hg k1;have hy:=(iN hm hf (g.name,(g.at_.l.length:Int))).2 hin;have:=List.all_eq_true.1 ha _ hy;rw [jd] at this;split at this
 ·rename_i r hr;exact ⟨r,hr,by simpa using this⟩
 ·cases this
def wq(c:fG)(s:ew):Bool:=decide (ez c s=0)&&Eo s.size.toNat (mR s) c
theorem Bg{s:ew}(hc:c.ok)(hs:s.ok)(hK:K (.ret (.tuple [.bool (wq c s),I6 (ez c s)])) h=true):Sem TP 18 [.agg (an c),.agg (ak s)] h K:=by
 refine Sem.data (r:=.tuple [.bool (wq c s),I6 (ez c s)]) ?_ (by simp [AV.bQ,AV.pure,dH,eO]) hK;clear hK;have fin:∀ (b:Bool) (n:Int) (H:Heap),b=wq c s->n=ez c s->jD (.tuple [.bool (wq c s),I6 (ez c s)]) (.ret (.tuple [.bool b,I6 n])) H=true:=fun b n H hb hn=>by rw [hb,hn];exact dO rfl
 generalize jD (.tuple [.bool (wq c s),I6 (ez c s)])=K at fin ⊢;have bad:∀ (n:Int) (H:Heap),n=ez c s->n≠0->K (.ret (.tuple [bF,I6 n])) H=true:=fun n H hn h0=>fin _ _ _ (by rw [wq,<- hn,fB h0];rfl) hn;refine F.zn ?_;rw [F.AY];simp only [cc (dm c),cc (cL s),cN,aV,Heap.aR];have g0:(Heap.alloc (Heap.alloc Heap.empty (.cells (an c))) (.cells (ak s))).get 0=sC (an c):=by simp [Heap.aD,aV]
 have g1:(Heap.alloc (Heap.alloc Heap.empty (.cells (an c))) (.cells (ak s))).get 1=sC (ak s):=by simp [Heap.aD,aV]
 have gn:(Heap.alloc (Heap.alloc Heap.empty (.cells (an c))) (.cells (ak s))).next=2:=rfl
 generalize (Heap.alloc (Heap.alloc Heap.empty (.cells (an c))) (.cells (ak s)))=H at g0 g1 gn ⊢;have l0:au (some 2) (.ptr 0 0) H=some (.agg (an c)):=by rw [ai g0,bJ (cs:=an c) (n:=2) rfl]
 have l1:au (some 2) (.ptr 1 0) H=some (.agg (ak s)):=by rw [ai g1,bJ (cs:=ak s) (n:=2) rfl]
 simp only [Nat.zero_add,l0,l1,cN];refine ag (bM hc hs (fun tI h' hx=>?_) (fun hv kO hz h' hx=>?_) (fun m hm kO hz hex h' hx=>?_) (fun m hm kO hz h' B M es ck D hx hB hF hA _ _ _ _ _ _ _=>?_))
 ·simp only [br,reduceAdd,reduceEqDiff,reduceIte];exact bad _ _ (by rw [ez,if_pos tI]) (by decide)
 ·simp only [br,reduceAdd,reduceEqDiff,reduceIte];exact bad _ _ (by rw [ez,if_neg (by simp [hv,kO]),if_pos hz]) (by decide)
 ·have hv:cU c=true:=by rw [cU,hm];rfl
  simp only [br,reduceAdd,reduceEqDiff,reduceIte];exact bad _ _ (by rw [ez,if_neg (by simp [hv,kO]),if_neg (by simp [hz]),if_pos ((nv hm (dW hv) kO).2 hex)]) (by decide)
 ·have hv:cU c=true:=by rw [cU,hm];rfl
  have hf:=dW hv;obtain ⟨n,hn,n1,Cz,h8⟩:=nu kO;have xz:s.size.toNat=n:=by omega
  rw [xz] at hF;have Sr:au (some 2) (.ptr 0 0) h'=some (.agg (an c)):=by rw [ai (by rw [hx.get 0 (by omega)];exact g0),bJ (cs:=an c) (n:=2) rfl]
  have he:ez c s=0:=by
   have:¬ (fh c).all (jd s)=false:=fun h=>by
    obtain ⟨p,hp,tI⟩:=(nv hm hf kO).1 h;obtain ⟨q,hq⟩:=isSome_iff_exists.1 (hA p hp);obtain ⟨k,r,h1,h2,h3⟩:=hF.to _ _ hq;rw [jm ((eo hm).nodup nodup_nil) hp] at h1;simp only [Option.some.injEq] at h1;rw [h1,h2] at tI;cases tI
   rw [ez,if_neg (by simp [hv,kO]),if_neg (by simp [hz]),if_neg this]
  simp only [br,reduceAdd,reduceEqDiff,reduceIte,Sr];refine ag (cK hc hf (hz.trans hn) n1 Cz (Bf hm hf kO hz hn hF hA) hB fun h2 gY=>?_);simp only [br,reduceAdd,reduceEqDiff,reduceIte];exact fin _ _ _ (by rw [wq,he,Gi hm hf kO hz hn hF hA,xz];rfl) he.symm
theorem zK{s:ew}(h:ez c s=0):cU c=true/\bY s=true/\c.size=s.size/\(fh c).all (jd s)=true:=by
 unfold ez at h;split at h
 ·cases h
 rename_i h1;split at h
 ·cases h
 rename_i h2;split at h
 ·cases h
 rename_i h3;simp only [_root_.not_or,not_eq_false] at h1;exact ⟨h1.1,h1.2,Decidable.not_not.1 h2,by simpa using h3⟩
theorem Gj(s:ew):eY [I6 0,.aE] [(0,2)] [.agg (ak s)]=some (ak s):=by
 obtain ⟨n,r⟩:=s;cases r<;>rfl
end
end Go.AM