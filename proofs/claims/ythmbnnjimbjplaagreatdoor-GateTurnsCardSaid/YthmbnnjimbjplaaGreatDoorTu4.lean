/- Parts of the proof. Conditions: none. -/
import Derived.Test.YthmbnnjimbjplaaGreatDoorTu2
import Derived.Below
import Derived.Laws.Sem
import Derived.Laws.Cells
import Derived.WalkKit
set_option linter.unusedSimpArgs false
set_option linter.unusedVariables false
namespace Go.AM
open List Nat Bool Option
open Go Go.RowKit
variable {vs:List Value} {xs:List AV} {v:Value} {x:AV} {α:Type}
theorem Trie.uB(n:Nat):(Trie.leaf:Trie α).get n=none:=by cases n<;>rfl
theorem Trie.pq(t:Trie α)(n:Nat):t.left.get n=t.get (2*n+1):=by
 cases t with
 |leaf=>simp [Trie.left,Trie.uB]
 |node v l r=>
  simp only [Trie.left,Trie.get];rw [if_pos (by omega),show 2*n/2=n by omega]
theorem Trie.mY(t:Trie α)(n:Nat):t.right.get n=t.get (2*n+2):=by
 cases t with
 |leaf=>simp [Trie.right,Trie.uB]
 |node v l r=>
  simp only [Trie.right,Trie.get];rw [if_neg (by omega),show (2*n+1)/2=n by omega]
theorem Trie.CT(t:Trie α):t.val=t.get 0:=by cases t<;>rfl
theorem Trie.zZ(o:α):∀ (f:Nat) (t:Trie α) (n m:Nat),n<=f->(Trie.BG o f t n).get m=if m=n then some o else t.get m:=by
 intro f
 induction f with
 |zero=>
  intro t n m h;obtain rfl:n=0:=by omega
  simp only [Trie.BG]
  cases m with
  |zero=>simp [Trie.get]
  |succ m=>
   simp only [Trie.get];split
   ·rw [Trie.pq,show 2*(m/2)+1=m+1 by omega];simp
   ·rw [Trie.mY,show 2*(m/2)+2=m+1 by omega];simp
 |succ f ih=>
  intro t n m h
  cases n with
  |zero=>
   simp only [Trie.BG]
   cases m with
   |zero=>simp [Trie.get]
   |succ m=>
    simp only [Trie.get];split
    ·rw [Trie.pq,show 2*(m/2)+1=m+1 by omega];simp
    ·rw [Trie.mY,show 2*(m/2)+2=m+1 by omega];simp
  |succ n=>
   simp only [Trie.BG];split
   ·rename_i hn
    cases m with
    |zero=>simp [Trie.get,Trie.CT]
    |succ m=>
     simp only [Trie.get];split
     ·rename_i hm;rw [ih _ _ _ (by omega),Trie.pq,show 2*(m/2)+1=m+1 by omega];by_cases e:m=n
      ·subst e;simp
      ·rw [if_neg (by omega),if_neg (by omega)]
     ·rename_i hm;rw [Trie.mY,show 2*(m/2)+2=m+1 by omega,if_neg (by omega)]
   ·rename_i hn
    cases m with
    |zero=>simp [Trie.get,Trie.CT]
    |succ m=>
     simp only [Trie.get];split
     ·rename_i hm;rw [Trie.pq,show 2*(m/2)+1=m+1 by omega,if_neg (by omega)]
     ·rename_i hm;rw [ih _ _ _ (by omega),Trie.mY,show 2*(m/2)+2=m+1 by omega];by_cases e:m=n
      ·subst e;simp
      ·rw [if_neg (by omega),if_neg (by omega)]
theorem Heap.aK(h:Heap)(b:Nat)(o:gh)(c:Nat):(h.set b o).get c=if c=b then some o else h.get c:=Trie.zZ o b h.tab b c (dR _)
theorem Heap.aD(h:Heap)(o:gh)(c:Nat):(h.alloc o).get c=if c=h.next then some o else h.get c:=Trie.zZ o h.next h.tab h.next c (dR _)
@[simp] theorem Heap.bl (h:Heap) (b:Nat) (o:gh):(h.set b o).next=h.next:=rfl
@[simp] theorem Heap.aR (h:Heap) (o:gh):(h.alloc o).next=h.next+1:=rfl
structure yM where
 c:Nat
 base:Nat
 size:Nat
structure Mu where
 m:Nat->Option yM
 z:Nat->Option (List Value)
instance:CoeFun Mu (fun _=>Nat->Option yM):=⟨Mu.m⟩
def Mu.cell(μ:Mu)(g i:Nat):Option Value:=(μ.z g).bind (·[i]?)
def Mu.zero:Mu:=⟨fun _=>.none,fun _=>.none⟩
inductive VR (w0:World) (μ:Mu):AV->Value->Prop where
 |undef (v:Value):VR w0 μ .undef v
 |bool (b:Bool):VR w0 μ (.bool b) (.bool b)
 |int (k:IntKind) (n:Int):VR w0 μ (.int k n) (.int k n)
 |str (s:ByteArray):VR w0 μ (.str s.data.toList) (.string s)
 |jt:VR w0 μ .jt (.pointer none)
 |ptr (b off:Nat) (k:yM) (hk:μ b=some k):VR w0 μ (.ptr b off) (.pointer (some ⟨k.c,k.base+off,none⟩))
 |cS (cs:List AV) (off:Nat) (g o:Nat) (vs:List Value) (hg:True) (hl:cs.length=vs.length)
   (hv:∀ (i:Nat) (v:Value),vs[i]?=some v->μ.cell g (o+i)=some v) (hr:∀ (i:Nat) (x:AV) (v:Value),cs[i]?=some x->vs[i]?=some v->VR w0 μ x v) :
   VR w0 μ (.cS cs off) (.pointer (some ⟨g,o+off,none⟩))
 |aE:VR w0 μ .aE (.slice none 0 0)
 |slice (b off len sz cap:Nat) (a:Addr) (k:yM) (hk:μ b=some k) (hc:len<=cap)
   (ha:cap≠0->a=⟨k.c,k.base+off,none⟩/\k.base+off+cap*sz<=k.size):VR w0 μ (.slice b off len sz) (.slice (some a) len cap)
 |aL (cs:List AV) (off len sz cap:Nat) (a:Addr) (g o:Nat) (vs:List Value) (hg:True) (hl:cs.length=vs.length)
   (hv:∀ (i:Nat) (v:Value),vs[i]?=some v->μ.cell g (o+i)=some v) (hr:∀ (i:Nat) (x:AV) (v:Value),cs[i]?=some x->vs[i]?=some v->VR w0 μ x v)
   (hc:len<=cap) (ha:cap≠0->a=⟨g,o+off,none⟩):VR w0 μ (.aL cs off len sz) (.slice (some a) len cap)
 |dI:VR w0 μ .dI (.map none)
 |map (b:Nat) (k:yM) (hk:μ b=some k):VR w0 μ (.map b) (.map (some k.c))
 |j0:VR w0 μ .j0 .nilFunc
 |func (f:FuncId) (xs ys:List AV) (us vs:List Value) (h1:xs.length=us.length) (h2:ys.length=vs.length)
   (r1:∀ (i:Nat) (x:AV) (v:Value),xs[i]?=some x->us[i]?=some v->VR w0 μ x v) (r2:∀ (i:Nat) (x:AV) (v:Value),ys[i]?=some x->vs[i]?=some v->VR w0 μ x v) :
   VR w0 μ (.func f xs ys) (.func (.func f) us.toArray vs.toArray)
 |j3:VR w0 μ .j3 .nilIface
 |iface (t:TypeId) (x:AV) (v:Value) (h:VR w0 μ x v):VR w0 μ (.iface t x) (.iface t v)
 |agg (cs:List AV) (vs:List Value) (hl:cs.length=vs.length) (hr:∀ (i:Nat) (x:AV) (v:Value),cs[i]?=some x->vs[i]?=some v->VR w0 μ x v):VR w0 μ (.agg cs) (.agg vs.toArray)
 |tuple (cs:List AV) (vs:List Value) (hl:cs.length=vs.length) (hr:∀ (i:Nat) (x:AV) (v:Value),cs[i]?=some x->vs[i]?=some v->VR w0 μ x v):VR w0 μ (.tuple cs) (.tuple vs.toArray)
structure cj (w0:World) (μ:Mu) (cs:List AV) (vs:List Value):Prop where
 len:cs.length=vs.length
 rel:∀ (i:Nat) (x:AV) (v:Value),cs[i]?=some x->vs[i]?=some v->VR w0 μ x v
structure Mu.le (μ μ':Mu):Prop where
 own:∀ b k,μ b=some k->μ' b=some k
 uC:∀ c vs,μ.z c=some vs->μ'.z c=some vs
theorem Mu.le.refl(μ:Mu):μ.le μ:=⟨fun _ _ h=>h,fun _ _ h=>h⟩
theorem Mu.le.trans{a b c:Mu}(h:a.le b)(k:b.le c):a.le c:=⟨fun x y e=>k.own x y (h.own x y e),fun x y e=>k.uC x y (h.uC x y e)⟩
theorem Mu.le.cell{μ μ':Mu}(h:μ.le μ'){g i:Nat}{v:Value}(hc:μ.cell g i=some v):μ'.cell g i=some v:=by
 unfold Mu.cell at hc ⊢;obtain ⟨vs,hv,hi⟩:=bind_eq_some_iff.1 hc;rw [h.uC _ _ hv];exact hi
section
variable {w0:World} {μ μ':Mu}
theorem VR.mono(hm:μ.le μ')(h:VR w0 μ x v):VR w0 μ' x v:=by
 induction h with
 |undef v=>exact .undef v
 |bool b=>exact .bool b
 |int k n=>exact .int k n
 |str s=>exact .str s
 |jt=>exact .jt
 |ptr b off k hk=>exact .ptr b off k (hm.own _ _ hk)
 |cS cs off g o vs hg hl hv hr ih=>exact .cS cs off g o vs trivial hl (fun i v h=>hm.cell (hv i v h)) ih
 |aE=>exact .aE
 |slice b off len sz cap a k hk hc ha=>exact .slice b off len sz cap a k (hm.own _ _ hk) hc ha
 |aL cs off len sz cap a g o vs hg hl hv hr hc ha ih=>exact .aL cs off len sz cap a g o vs trivial hl (fun i v h=>hm.cell (hv i v h)) ih hc ha
 |dI=>exact .dI
 |map b k hk=>exact .map b k (hm.own _ _ hk)
 |j0=>exact .j0
 |func f xs ys us vs h1 h2 r1 r2 KR KS=>exact .func f xs ys us vs h1 h2 KR KS
 |j3=>exact .j3
 |iface t x v h ih=>exact .iface t x v ih
 |agg cs vs hl hr ih=>exact .agg cs vs hl ih
 |tuple cs vs hl hr ih=>exact .tuple cs vs hl ih
theorem cj.mono(hm:μ.le μ'){xs:List AV}{vs:List Value}(h:cj w0 μ xs vs):cj w0 μ' xs vs:=⟨h.len,fun i x v a b=>(h.rel i x v a b).mono hm⟩
theorem cj.nil:cj w0 μ [] []:=⟨rfl,by simp⟩
theorem cj.cons(h:VR w0 μ x v)(t:cj w0 μ xs vs):cj w0 μ (x :: xs) (v :: vs):=
 ⟨by simp [t.len],fun i y u a b=>by
  cases i with
  |zero=>simp at a b;subst a;subst b;exact h
  |succ i=>simp at a b;exact t.rel i y u a b⟩
theorem cj.head(h:cj w0 μ (x :: xs) (v :: vs)):VR w0 μ x v:=h.rel 0 x v rfl rfl
theorem cj.tail(h:cj w0 μ (x :: xs) (v :: vs)):cj w0 μ xs vs:=
 ⟨by have:=h.len;simpa using this,fun i y u a b=>h.rel (i+1) y u (by simpa using a) (by simpa using b)⟩
theorem cj.append{ys:List AV}{us:List Value}(h:cj w0 μ xs us)(k:cj w0 μ ys vs):cj w0 μ (xs++ys) (us++vs):=by
 induction xs generalizing us with
 |nil=>cases us with
  |nil=>exact k
  |cons u us=>exact absurd h.len (by simp)
 |cons x xs ih=>cases us with
  |nil=>exact absurd h.len (by simp)
  |cons u us=>exact .cons h.head (ih h.tail)
theorem cj.map{α:Type}{f:α->AV}{g:α->Value}(l:List α)(h:∀ a,a ∈ l->VR w0 μ (f a) (g a)):cj w0 μ (l.map f) (l.map g):=by
 induction l with
 |nil=>exact .nil
 |cons a l ih=>exact .cons (h a (by simp)) (ih fun b hb=>h b (by simp [hb]))
theorem cj.get(h:cj w0 μ xs vs){i:Nat}(hx:xs[i]?=some x):∃ v,vs[i]?=some v/\VR w0 μ x v:=by
 have hi:i<xs.length:=(fR.1 hx).1;have hj:i<vs.length:=h.len▸hi;exact ⟨vs[i],by simp [hj],h.rel i x _ hx (by simp [hj])⟩
theorem cj.drop{xs:List AV}{vs:List Value}(h:cj w0 μ xs vs)(n:Nat):cj w0 μ (xs.drop n) (vs.drop n):=
 ⟨by simp [h.len],fun i x v a b=>h.rel (n+i) x v (by simpa using a) (by simpa using b)⟩
theorem cj.take{xs:List AV}{vs:List Value}(h:cj w0 μ xs vs)(n:Nat):cj w0 μ (xs.take n) (vs.take n):=
 ⟨by simp [h.len],fun i x v a b=>by
  rw [getElem?_take] at a b;split at a
  ·rename_i hi;rw [if_pos hi] at b;exact h.rel i x v a b
  ·cases a⟩
theorem cj.set{xs:List AV}{vs:List Value}(h:cj w0 μ xs vs)(n:Nat){x:AV}{v:Value}(hx:VR w0 μ x v):cj w0 μ (xs.set n x) (vs.set n v):=
 ⟨by simp [h.len],fun i y u a b=>by
  rw [getElem?_set] at a b;split at a
  ·rename_i hi;subst hi;simp only [if_true] at b;split at a
   ·rename_i hlt;rw [if_pos (h.len▸hlt)] at b;cases a;cases b;exact hx
   ·cases a
  ·rename_i hi;rw [if_neg hi] at b
   exact h.rel i y u a b⟩
theorem cj.ee(h:cj w0 μ [] vs):vs = []:=by
 have:=h.len;exact eq_nil_of_length_eq_zero (by simpa using this.symm)
theorem cj.cons_inv(h:cj w0 μ (x :: xs) vs):∃ u us,vs=u :: us/\VR w0 μ x u/\cj w0 μ xs us:=by
 cases vs with
 |nil=>exact absurd h.len (by simp)
 |cons u us=>exact ⟨u,us,rfl,h.head,h.tail⟩
theorem VR.cells{x:AV}{v:Value}(h:VR w0 μ x v)(hx:bw x.bV=true):cj w0 μ x.bV v.cells.toList:=by
 cases h with
 |agg cs vs hl hr=>exact ⟨by simpa [AV.bV,Value.cells] using hl,by simpa [AV.bV,Value.cells] using hr⟩
 |undef v=>simp [AV.bV,bw,AV.one] at hx
 |tuple cs vs hl hr=>simp [AV.bV,bw,AV.one] at hx
 |bool b=>exact .cons (.bool b) .nil
 |int k n=>exact .cons (.int k n) .nil
 |str s=>exact .cons (.str s) .nil
 |jt=>exact .cons .jt .nil
 |ptr b off k hk=>exact .cons (.ptr b off k hk) .nil
 |cS cs off g o vs hg hl hv hr=>exact .cons (.cS cs off g o vs hg hl hv hr) .nil
 |aE=>exact .cons .aE .nil
 |slice b off len sz cap a k hk hc ha=>exact .cons (.slice b off len sz cap a k hk hc ha) .nil
 |aL cs off len sz cap a g o vs hg hl hv hr hc ha=>exact .cons (.aL cs off len sz cap a g o vs hg hl hv hr hc ha) .nil
 |dI=>exact .cons .dI .nil
 |map b k hk=>exact .cons (.map b k hk) .nil
 |j0=>exact .cons .j0 .nil
 |func f xs ys us vs h1 h2 r1 r2=>exact .cons (.func f xs ys us vs h1 h2 r1 r2) .nil
 |j3=>exact .cons .j3 .nil
 |iface t x v h=>exact .cons (.iface t x v h) .nil
theorem VR.CU(h:VR w0 μ x v)(hx:x.one=true):v.oneCell'=true:=by
 cases h<;>simp_all [AV.one,Value.oneCell']
theorem BR{cs:List AV}(h:bw cs=true):∀ (i:Nat) (x:AV),cs[i]?=some x->x.one=true:=by
 induction cs with
 |nil=>intro i x hx;simp at hx
 |cons c cs ih=>
  simp only [bw,and_eq_true] at h;intro i x hx
  cases i with
  |zero=>simp at hx;subst hx;exact h.1
  |succ i=>exact ih h.2 i x (by simpa using hx)
theorem cj.l9(h:cj w0 μ xs vs)(hx:bw xs=true):∀ v ∈ vs,v.oneCell'=true:=by
 intro v hv;obtain ⟨i,hi,rfl⟩:=getElem_of_mem hv;have sW:i<xs.length:=h.len▸hi;exact (h.rel i xs[i] vs[i] (by simp [sW]) (by simp [hi])).CU (BR hx i _ (by simp [sW]))
theorem VR.iS(v:Value):VR w0 μ (iS v) v:=by
 unfold Go.AM.iS;split
 ·exact .bool _
 ·exact .int _ _
 ·exact .str _
 ·exact .jt
 ·exact .aE
 ·exact .dI
 ·exact .j0
 ·exact .j3
 ·exact .undef _
theorem VR.ofConst(v:Value):VR w0 μ (ofConst v) v:=by
 unfold Go.AM.ofConst;split
 ·rename_i cs;have h:=cj.map (w0:=w0) (μ:=μ) (f:=Go.AM.iS) (g:=fun v=>v) cs.toList (fun a _=>VR.iS a);simp only [List.map_id'] at h;have:=VR.agg (w0:=w0) (μ:=μ) _ _ h.len h.rel;simpa using this
 ·exact VR.iS _
end
end Go.AM
namespace Go.AM
open List Nat Bool Option
open Go Go.RowKit
variable {b c:Nat} {k:yM} {o:gh} {w':World}
def iV(bk:Bool)(w0:World)(μ:Mu)(o:gh)(k:yM)(ob:Option Obj):Prop:=
 match o with
 |.dead=>True
 |.mark=>False
 |.cells cs=>∃ vs e fr,ob=some (.cells vs e fr)/\vs.size=k.size/\k.base+cs.length<=k.size/\(fr.2<=fr.1\/(bk=true/\k.size<=fr.1)) /\
   ∀ (i:Nat) (x:AV),cs[i]?=some x->∃ v,vs[k.base+i]?=some v/\VR w0 μ x v
 |.map es ck=>∃ dN,ob=some (.map dN ck)/\dN.size=es.length /\
   ∀ (i:Nat) (k v:AV) (n:Nat),es[i]?=some (k,v,n)->∃ e,dN[i]?=some e/\VR w0 μ k e.key/\VR w0 μ v e.val/\e.born=n
 |.uk s pos=>k.base=0/\∃ s',ob=some (.stringIter s' pos)/\s'.data.toList=s
 |.dX m since seen st=>k.base=0/\∃ r,ob=some (.mapIter r since seen.toArray st)/\(match m with
   |none=>r=none
   |some b=>∃ k,μ b=some k/\r=some k.c)
 |.box x=>k.base=0/\∃ v e,ob=some (.cells #[v] e (0,0))/\VR w0 μ x v
structure Good (w0:World) (μ:Mu) (h:Heap) (w:World):Prop where
 below:Below w0.heap.size w0 w
 clean:∀ b,h.next<=b->h.get b=none
 fresh:∀ b k,μ b=some k->b<h.next
 own:∀ b k,μ b=some k->w0.heap.size<=k.c/\k.c<w.heap.size
 uC:∀ c vs,μ.z c=some vs->∃ arr e fr,w.heap[c]?=some (.cells arr e fr)/\arr.toList=vs
 apart:∀ b k,μ b=some k->μ.z k.c=none
 obj:∀ b k o,μ b=some k->h.get b=some o->iV h.bk w0 μ o k (w.heap[k.c]?)
 inj:∀ b b' k k' o o',μ b=some k->μ b'=some k'->h.get b=some o->h.get b'=some o'->o≠.dead->o'≠.dead->k.c=k'.c->b=b'
structure Ext (μ:Mu) (h:Heap) (w:World) (μ':Mu) (h':Heap) (w':World):Prop where
 mono:μ.le μ'
 frame:∀ k,k<w.heap.size->(∀ b kk,μ b=some kk->kk.c≠k)->w'.heap[k]?=w.heap[k]?
 new:∀ b k,μ' b=some k->μ b=some k\/w.heap.size<=k.c\/∃ b0 k0,μ b0=some k0/\k0.c=k.c
 size:w.heap.size<=w'.heap.size
 next:h.next<=h'.next
 wI:∀ b,b<h.next->(∀ k,μ b≠some k)->h'.get b=h.get b
 fresh:∀ b k,μ' b=some k->μ b=some k\/h.next<=b
 nY:∀ c vs,μ'.z c=some vs->μ.z c=some vs\/w.heap.size<=c
theorem Ext.refl(μ:Mu)(h:Heap)(w:World):Ext μ h w μ h w:=⟨Mu.le.refl μ,fun _ _ _=>rfl,fun _ _ h=>.inl h,dR _,dR _,fun _ _ _=>rfl,fun _ _ h=>.inl h,fun _ _ h=>.inl h⟩
theorem Ext.trans{a b c:Mu}{x y z:Heap}{u v w:World}(h:Ext a x u b y v)(k:Ext b y v c z w):Ext a x u c z w:=by
 refine ⟨h.mono.trans k.mono,fun i hi hn=>?_,fun x kk hx=>?_,Nat.le_trans h.size k.size,Nat.le_trans h.next k.next,fun i hi hn=>?_,fun i kk hx=>?_,fun c vs hx=>?_⟩
 ·rw [k.frame i (Nat.lt_of_lt_of_le hi h.size) ?_,h.frame i hi hn];intro b' kk dw;rcases h.new b' kk dw with h1|h1|⟨b0,k0,h1,h2⟩
  ·exact hn _ _ h1
  ·omega
  ·rw [<- h2];exact hn _ _ h1
 ·rcases k.new x kk hx with h1|h1|⟨b0,k0,h1,h2⟩
  ·exact h.new x kk h1
  ·exact .inr (.inl (Nat.le_trans h.size h1))
  ·rcases h.new b0 k0 h1 with h3|h3|⟨b1,k1,h3,h4⟩
   ·exact .inr (.inr ⟨b0,k0,h3,h2⟩)
   ·exact .inr (.inl (by omega))
   ·exact .inr (.inr ⟨b1,k1,h3,by omega⟩)
 ·rw [k.wI i (Nat.lt_of_lt_of_le hi h.next) ?_,h.wI i hi hn];intro kk hk;rcases h.fresh i kk hk with h1|h1
  ·exact hn kk h1
  ·omega
 ·rcases k.fresh i kk hx with h1|h1
  ·exact h.fresh i kk h1
  ·exact .inr (Nat.le_trans h.next h1)
 ·rcases k.nY c vs hx with h1|h1
  ·exact h.nY c vs h1
  ·exact .inr (Nat.le_trans h.size h1)
theorem Ext.of_same{μ μ':Mu}{h h':Heap}{w v:World}(e:v.heap=w.heap)(x:Ext μ h v μ' h' w'):Ext μ h w μ' h' w':=
 ⟨x.mono,fun i hi=>by rw [<- e] at hi ⊢;exact x.frame i hi,fun b kk hb=>by rw [<- e];exact x.new b kk hb,by rw [<- e];exact x.size,x.next,x.wI,x.fresh,fun c vs hc=>by rw [<- e];exact x.nY c vs hc⟩
section
variable {w0:World} {μ μ':Mu} {h:Heap} {w:World}
theorem iV.gZ{bk:Bool}{ob:Option Obj}(h:iV bk w0 μ o k ob):o≠.mark:=fun e=>by subst e;exact h
theorem iV.mono{bk:Bool}(hm:μ.le μ'){o:gh}{k:yM}{ob:Option Obj}(hr:iV bk w0 μ o k ob):iV bk w0 μ' o k ob:=by
 cases o with
 |dead=>trivial
 |cells cs=>
  obtain ⟨vs,e,fr,h1,h2,h3,h4,h5⟩:=hr;exact ⟨vs,e,fr,h1,h2,h3,h4,fun i x hx=>let ⟨v,a,b⟩:=h5 i x hx;⟨v,a,b.mono hm⟩⟩
 |map es ck=>
  obtain ⟨dN,h1,h2,h3⟩:=hr;exact ⟨dN,h1,h2,fun i k v n hx=>let ⟨e,a,b,c,d⟩:=h3 i k v n hx;⟨e,a,b.mono hm,c.mono hm,d⟩⟩
 |mark=>exact hr.elim
 |uk s pos=>exact hr
 |dX m since seen st=>
  obtain ⟨h0,r,h1,h2⟩:=hr;refine ⟨h0,r,h1,?_⟩
  cases m with
  |none=>exact h2
  |some b=>obtain ⟨k,a,b⟩:=h2;exact ⟨k,hm.own _ _ a,b⟩
 |box x=>
  obtain ⟨h0,v,e,h1,h2⟩:=hr;exact ⟨h0,v,e,h1,h2.mono hm⟩
theorem Good.same(hg:Good w0 μ h w)(hh:w'.heap=w.heap)(h1:w'.os=w.os)(h2:w'.tape=w.tape)(h3:w'.output=w.output):Good w0 μ h w':=
 ⟨⟨h1.trans hg.below.os,h2.trans hg.below.tape,h3.trans hg.below.output,by rw [hh];exact hg.below.size,fun k hk=>by rw [hh];exact hg.below.block k hk⟩,
  hg.clean,hg.fresh,fun b k hb=>by rw [hh];exact hg.own b k hb,fun c vs hc=>by rw [hh];exact hg.uC c vs hc,hg.apart,fun b k o hb ho=>by rw [hh];exact hg.obj b k o hb ho,hg.inj⟩
theorem Heap.BS{h:Heap}(h0:0<h.next)(o:gh):(h.alloc o).bk=h.bk:=by
 unfold Heap.bk;rw [Heap.aD,if_neg (by omega)]
theorem Heap.yN{h:Heap}(h0:h.get 0≠some .mark):h.bk=CJ:=by
 unfold Heap.bk;split
 ·rename_i e;exact absurd e h0
 ·exact Bool.and_true _
theorem Heap.yO{h:Heap}(h1:h.get b≠some .mark)(h2:o≠.mark):(h.set b o).bk=h.bk:=by
 by_cases e:0=b
 ·subst e;rw [Heap.yN h1,Heap.yN];rw [Heap.aK,if_pos rfl];exact fun e=>h2 (Option.some.inj e)
 ·unfold Heap.bk;rw [Heap.aK,if_neg e]
theorem Good.pz(hg:Good w0 μ h w)(ho:o≠.mark):(h.alloc o).bk=h.bk:=by
 by_cases h0:0<h.next
 ·exact Heap.BS h0 o
 ·have e:h.next=0:=by omega
  rw [Heap.yN,Heap.yN]
  ·rw [hg.clean 0 (by omega)];simp
  ·rw [Heap.aD,if_pos e.symm];exact fun e=>ho (Option.some.inj e)
theorem Good.gZ(hg:Good w0 μ h w)(hb:μ b=some k):h.get b≠some .mark:=fun e=>hg.obj b k _ hb e
theorem Good.I8(hg:Good w0 μ h w)(hb:μ b=some k)(o:gh):(h.alloc o).bk=h.bk:=Heap.BS (by have:=hg.fresh b k hb;omega) o
theorem Good.I9(hg:Good w0 μ h w)(hb:μ b=some k):b≠h.next:=fun e=>by have:=hg.fresh b k hb;omega
def Mu.add(μ:Mu)(b:Nat)(k:yM):Mu:=⟨fun x=>if x=b then some k else μ x,μ.z⟩
theorem Mu.fD(μ:Mu)(b:Nat)(k:yM)(x:Nat):(μ.add b k) x=if x=b then some k else μ x:=rfl
theorem Mu.add_same(μ:Mu)(b:Nat)(k:yM):μ.add b k b=some k:=if_pos rfl
theorem Mu.qO(hb:∀ kk,μ b≠some kk):μ.le (μ.add b k):=⟨fun x kk hx=>by
 show (if x=b then some k else μ x)=some kk;by_cases e:x=b
 ·subst e;exact absurd hx (hb kk)
 ·rw [if_neg e];exact hx,fun _ _ h=>h⟩
theorem Good.uD(hg:Good w0 μ h w){vs:List Value}(hc:μ.z c=some vs):c<w.heap.size:=by
 obtain ⟨arr,e,fr,h1,_⟩:=hg.uC c vs hc;exact (Array.getElem?_eq_some_iff.1 h1).1
theorem Good.mc(hg:Good w0 μ h w)(hk:∀ c vs,μ.z c=some vs->w'.heap[c]?=w.heap[c]?):∀ c vs,μ.z c=some vs->∃ arr e fr,w'.heap[c]?=some (.cells arr e fr)/\arr.toList=vs:=
 fun c vs hc=>by rw [hk c vs hc];exact hg.uC c vs hc
theorem Good.pE(hg:Good w0 μ h w):∀ kk,μ h.next≠some kk:=fun kk e=>by have:=hg.fresh _ _ e;omega
theorem Good.mZ(hg:Good w0 μ h w)(hk:μ.z k.c=none):∀ b' k',(μ.add b k) b'=some k'->(μ.add b k).z k'.c=none:=fun b' k' dw=>by
 rw [Mu.fD] at dw;by_cases e:b'=b
 ·rw [if_pos e] at dw;cases dw;exact hk
 ·rw [if_neg e] at dw;exact hg.apart b' k' dw
theorem Good.CV(hg:Good w0 μ h w):μ.z w.heap.size=none:=by
 cases hz:μ.z w.heap.size with
 |none=>rfl
 |some vs=>have:=hg.uD hz;omega
theorem Good.alloc(hg:Good w0 μ h w)(o:gh)(O:Obj)(n:Nat)(hr:iV h.bk w0 μ o ⟨w.heap.size,0,n⟩ (some O)) :
  Good w0 (μ.add h.next ⟨w.heap.size,0,n⟩) (h.alloc o) (w.alloc O)/\Ext μ h w (μ.add h.next ⟨w.heap.size,0,n⟩) (h.alloc o) (w.alloc O):=by
 have hm:μ.le (μ.add h.next ⟨w.heap.size,0,n⟩):=Mu.qO hg.pE;have jL:(w.alloc O).heap[w.heap.size]?=some O:=by show (w.heap.push O)[w.heap.size]?=some O;simp
 have hold:∀ k,k<w.heap.size->(w.alloc O).heap[k]?=w.heap[k]?:=fun k hk=>Below.heap_alloc w O k hk;have hsz:(w.alloc O).heap.size=w.heap.size+1:=by show (w.heap.push O).size=_;simp
 refine ⟨⟨hg.below.alloc (hg.below.size) O,fun b hb=>by rw [Heap.aD,if_neg (by simp at hb;omega)];exact hg.clean b (by simp at hb;omega),?_,?_,hg.mc (fun c vs hc=>hold c (hg.uD hc)),hg.mZ hg.CV,?_,?_⟩,⟨hm,fun k hk _=>hold k hk,?_,by omega,le_succ _,fun b hb _=>by rw [Heap.aD,if_neg (by omega)],fun b k hb=>by
   replace hb:(if b=h.next then _ else μ b)=some k:=hb;by_cases e:b=h.next
   ·exact .inr (by omega)
   ·rw [if_neg e] at hb;exact .inl hb,fun _ _ h=>.inl h⟩⟩
 ·intro b k hb;rw [Mu.fD] at hb;by_cases e:b=h.next
  ·subst e;simp
  ·rw [if_neg e] at hb;have:=hg.fresh b k hb;simp;omega
 ·intro b k hb;rw [Mu.fD] at hb;by_cases e:b=h.next
  ·rw [if_pos e] at hb;cases hb;exact ⟨hg.below.size,by rw [hsz];simp⟩
  ·rw [if_neg e] at hb;have:=hg.own b k hb;exact ⟨this.1,by rw [hsz];omega⟩
 ·intro b k o' hb ho;rw [Mu.fD] at hb;rw [Heap.aD] at ho;by_cases e:b=h.next
  ·rw [if_pos e] at hb ho;cases hb;cases ho;rw [jL,hg.pz hr.gZ];exact hr.mono hm
  ·rw [if_neg e] at hb ho;rw [hold _ (hg.own b k hb).2,hg.pz hr.gZ];exact (hg.obj b k o' hb ho).mono hm
 ·intro b b' k k' o1 o2 hb dw ho kN n1 n2 hc;rw [Mu.fD] at hb dw;rw [Heap.aD] at ho kN;by_cases e:b=h.next
  ·by_cases e':b'=h.next
   ·omega
   ·rw [if_pos e] at hb;rw [if_neg e'] at dw;cases hb;have:=(hg.own b' k' dw).2;simp at hc;omega
  ·by_cases e':b'=h.next
   ·rw [if_neg e] at hb;rw [if_pos e'] at dw;cases dw;have:=(hg.own b k hb).2;simp at hc;omega
   ·rw [if_neg e] at hb ho;rw [if_neg e'] at dw kN;exact hg.inj b b' k k' o1 o2 hb dw ho kN n1 n2 hc
 ·intro b k hb;rw [Mu.fD] at hb;by_cases e:b=h.next
  ·rw [if_pos e] at hb;cases hb;exact .inr (.inl (dR _))
  ·rw [if_neg e] at hb;exact .inl hb
def eS(w:World)(c:Nat)(O:Obj):World:={ w with heap:=w.heap.setIfInBounds c O }
theorem gR(hc:c<w.heap.size)(O:Obj):(eS w c O).heap[c]?=some O:=by simp [eS,hc]
theorem fo{k:Nat}(h:k≠c)(O:Obj):(eS w c O).heap[k]?=w.heap[k]?:=by
 simp only [eS,Array.getElem?_setIfInBounds];rw [if_neg (by omega)]
@[simp] theorem jk (c:Nat) (O:Obj):(eS w c O).heap.size=w.heap.size:=by simp [eS]
theorem Good.set(hg:Good w0 μ h w){b:Nat}{k:yM}(hb:μ b=some k){o0:gh}(ho:h.get b=some o0)(hn:o0≠.dead)(o:gh)(O:Obj)
  (hr:iV h.bk w0 μ o k (some O)):Good w0 μ (h.set b o) (eS w k.c O)/\Ext μ h w μ (h.set b o) (eS w k.c O):=by
 have hk:=hg.own b k hb
 refine ⟨⟨⟨hg.below.os,hg.below.tape,hg.below.output,by rw [jk];exact hg.below.size,fun i hi=>by
   rw [fo (by omega)];exact hg.below.block i hi⟩,fun b' dw=>by rw [Heap.aK,if_neg (fun e=>by have:=hg.fresh b k hb;simp at dw;omega)];exact hg.clean b' dw,?_,?_,hg.mc (fun c vs hc=>fo (fun e=>by rw [e,hg.apart b k hb] at hc;cases hc) O),hg.apart,?_,?_⟩,⟨Mu.le.refl μ,fun i hi hne=>?_,fun _ _ h=>.inl h,by rw [jk];exact dR _,dR _,
   fun b' _ dw=>by rw [Heap.aK,if_neg (by rintro rfl;exact dw k hb)],fun _ _ h=>.inl h,fun _ _ h=>.inl h⟩⟩
 ·intro b' k' dw;exact hg.fresh b' k' dw
 ·intro b' k' dw;rw [jk];exact hg.own b' k' dw
 ·intro b' k' o' dw kN;rw [Heap.aK] at kN;by_cases e:b'=b
  ·subst e;rw [if_pos rfl] at kN;cases kN;rw [hb] at dw;cases dw;rw [gR hk.2,Heap.yO (hg.gZ hb) hr.gZ];exact hr
  ·rw [if_neg e] at kN;by_cases hd:o' = .dead
   ·subst hd;trivial
   ·have:k'.c≠k.c:=fun hc=>e (hg.inj b' b k' k o' o0 dw hb kN ho hd hn hc);rw [fo this,Heap.yO (hg.gZ hb) hr.gZ];exact hg.obj b' k' o' dw kN
 ·intro b1 b2 k1 k2 o1 o2 h1 h2 g1 g2 n1 n2 hc;rw [Heap.aK] at g1 g2;by_cases e1:b1=b
  ·by_cases e2:b2=b
   ·omega
   ·subst e1;rw [if_neg e2] at g2;rw [hb] at h1;cases h1;exact hg.inj b1 b2 k k2 o0 o2 hb h2 ho g2 hn n2 hc
  ·by_cases e2:b2=b
   ·subst e2;rw [if_neg e1] at g1;rw [hb] at h2;cases h2;exact hg.inj b1 b2 k1 k o1 o0 h1 hb g1 ho n1 hn hc
   ·rw [if_neg e1] at g1;rw [if_neg e2] at g2;exact hg.inj b1 b2 k1 k2 o1 o2 h1 h2 g1 g2 n1 n2 hc
 ·exact fo (fun e=>hne b k hb e.symm) O
theorem Good.kill(hg:Good w0 μ h w)(hb:μ b=some k):Good w0 μ (h.set b .dead) w:=by
 refine ⟨hg.below,fun b' dw=>by rw [Heap.aK,if_neg (fun e=>by have:=hg.fresh b k hb;simp at dw;omega)];exact hg.clean b' dw,hg.fresh,hg.own,hg.uC,hg.apart,?_,?_⟩
 ·intro b' k' o' dw kN;rw [Heap.aK] at kN;by_cases e:b'=b
  ·rw [if_pos e] at kN;cases kN;trivial
  ·rw [if_neg e] at kN;rw [Heap.yO (hg.gZ hb) (by simp)];exact hg.obj b' k' o' dw kN
 ·intro b1 b2 k1 k2 o1 o2 h1 h2 g1 g2 n1 n2 hc;rw [Heap.aK] at g1 g2;by_cases e1:b1=b
  ·rw [if_pos e1] at g1;cases g1;exact absurd rfl n1
  ·by_cases e2:b2=b
   ·rw [if_pos e2] at g2;cases g2;exact absurd rfl n2
   ·rw [if_neg e1] at g1;rw [if_neg e2] at g2;exact hg.inj b1 b2 k1 k2 o1 o2 h1 h2 g1 g2 n1 n2 hc
theorem Ext.kill(hb:μ b=some k):Ext μ h w μ (h.set b .dead) w:=
 ⟨Mu.le.refl μ,fun _ _ _=>rfl,fun _ _ h=>.inl h,dR _,dR _,fun b' _ dw=>by rw [Heap.aK,if_neg (by rintro rfl;exact dw k hb)],fun _ _ h=>.inl h,fun _ _ h=>.inl h⟩
theorem Good.Ja(hg:Good w0 μ h w)(o:gh):Good w0 μ (h.alloc o) w/\Ext μ h w μ (h.alloc o) w:=by
 have hne:∀ b k,μ b=some k->b≠h.next:=fun b k hb e=>by have:=hg.fresh b k hb;omega
 refine ⟨⟨hg.below,fun b hb=>by rw [Heap.aD,if_neg (by simp at hb;omega)];exact hg.clean b (by simp at hb;omega),fun b k hb=>by have:=hg.fresh b k hb;simp;omega,hg.own,hg.uC,hg.apart,
  fun b k o' hb ho=>by rw [Heap.aD,if_neg (hne b k hb)] at ho;rw [hg.I8 hb];exact hg.obj b k o' hb ho,
  fun b1 b2 k1 k2 o1 o2 h1 h2 g1 g2 n1 n2 hc=>by
   rw [Heap.aD,if_neg (hne _ _ h1)] at g1;rw [Heap.aD,if_neg (hne _ _ h2)] at g2
   exact hg.inj b1 b2 k1 k2 o1 o2 h1 h2 g1 g2 n1 n2 hc⟩,
  ⟨Mu.le.refl μ,fun _ _ _=>rfl,fun _ _ h=>.inl h,dR _,le_succ _,fun b hb _=>by rw [Heap.aD,if_neg (by omega)],fun _ _ h=>.inl h,fun _ _ h=>.inl h⟩⟩
theorem Good.E6(hg:Good w0 μ h w)(hb:b<h.next)(hn:∀ k,μ b≠some k)(ho:h.get b=some o)(O:Obj)(n:Nat)(hr:iV h.bk w0 μ o ⟨w.heap.size,0,n⟩ (some O)) :
  Good w0 (μ.add b ⟨w.heap.size,0,n⟩) h (w.alloc O):=by
 have hm:μ.le (μ.add b ⟨w.heap.size,0,n⟩):=Mu.qO hn;have jL:(w.alloc O).heap[w.heap.size]?=some O:=by show (w.heap.push O)[w.heap.size]?=some O;simp
 have hold:∀ k,k<w.heap.size->(w.alloc O).heap[k]?=w.heap[k]?:=fun k hk=>Below.heap_alloc w O k hk;have hsz:(w.alloc O).heap.size=w.heap.size+1:=by show (w.heap.push O).size=_;simp
 refine ⟨hg.below.alloc (hg.below.size) O,hg.clean,?_,?_,hg.mc (fun c vs hc=>hold c (hg.uD hc)),hg.mZ hg.CV,?_,?_⟩
 ·intro b' k dw;rw [Mu.fD] at dw;by_cases e:b'=b
  ·subst e;exact hb
  ·rw [if_neg e] at dw;exact hg.fresh b' k dw
 ·intro b' k dw;rw [Mu.fD] at dw;by_cases e:b'=b
  ·rw [if_pos e] at dw;cases dw;exact ⟨hg.below.size,by rw [hsz];simp⟩
  ·rw [if_neg e] at dw;have:=hg.own b' k dw;exact ⟨this.1,by rw [hsz];omega⟩
 ·intro b' k o' dw kN;rw [Mu.fD] at dw;by_cases e:b'=b
  ·rw [if_pos e] at dw;subst e;rw [ho] at kN;cases dw;cases kN;rw [jL];exact hr.mono hm
  ·rw [if_neg e] at dw;rw [hold _ (hg.own b' k dw).2];exact (hg.obj b' k o' dw kN).mono hm
 ·intro b1 b2 k1 k2 o1 o2 h1 h2 g1 g2 n1 n2 hc;rw [Mu.fD] at h1 h2;by_cases e:b1=b
  ·by_cases e':b2=b
   ·omega
   ·rw [if_pos e] at h1;rw [if_neg e'] at h2;cases h1;have:=(hg.own b2 k2 h2).2;simp at hc;omega
  ·by_cases e':b2=b
   ·rw [if_neg e] at h1;rw [if_pos e'] at h2;cases h2;have:=(hg.own b1 k1 h1).2;simp at hc;omega
   ·rw [if_neg e] at h1;rw [if_neg e'] at h2;exact hg.inj b1 b2 k1 k2 o1 o2 h1 h2 g1 g2 n1 n2 hc
theorem Good.renew(hg:Good w0 μ h w)(hb:μ b=some k){o0:gh}(ho:h.get b=some o0)(hn:o0≠.dead)(base:Nat)(o:gh)(O:Obj)
  (hr:iV h.bk w0 μ o ⟨k.c,base,k.size⟩ (some O)) :
  Good w0 (μ.add h.next ⟨k.c,base,k.size⟩) ((h.set b .dead).alloc o) (eS w k.c O)/\Ext μ h w (μ.add h.next ⟨k.c,base,k.size⟩) ((h.set b .dead).alloc o) (eS w k.c O):=by
 have hk:=hg.own b k hb;have DH:((h.set b .dead).alloc o).bk=h.bk:=by rw [Heap.BS (by have:=hg.fresh b k hb;rw [Heap.bl];omega),Heap.yO (hg.gZ hb) (by simp)]
 have KT:b≠h.next:=hg.I9 hb
 have hm:μ.le (μ.add h.next ⟨k.c,base,k.size⟩):=Mu.qO hg.pE
 refine ⟨⟨⟨hg.below.os,hg.below.tape,hg.below.output,by rw [jk];exact hg.below.size,fun i hi=>by
   rw [fo (by omega)];exact hg.below.block i hi⟩,fun b' dw=>by
   have:=hg.fresh b k hb
   rw [Heap.aD,Heap.bl,if_neg (by simp at dw;omega),Heap.aK,if_neg (by simp at dw;omega)];exact hg.clean b' (by simp at dw;omega),?_,?_,hg.mc (fun c vs hc=>fo (fun e=>by rw [e,hg.apart b k hb] at hc;cases hc) O),hg.mZ (hg.apart b k hb),?_,?_⟩,⟨hm,fun i hi hne=>?_,?_,by rw [jk];exact dR _,by show h.next<=h.next+1;omega,
   fun b' hb1 hb2=>by rw [Heap.aD,Heap.bl,if_neg (by omega),Heap.aK,if_neg (by rintro rfl;exact hb2 k hb)],fun b' k' dw=>by
    rw [Mu.fD] at dw;by_cases e:b'=h.next
    ·exact .inr (by omega)
    ·rw [if_neg e] at dw;exact .inl dw,fun _ _ h=>.inl h⟩⟩
 ·intro b' k' dw;rw [Mu.fD] at dw;by_cases e:b'=h.next
  ·subst e;simp
  ·rw [if_neg e] at dw;have:=hg.fresh b' k' dw;simp;omega
 ·intro b' k' dw;rw [jk];rw [Mu.fD] at dw;by_cases e:b'=h.next
  ·rw [if_pos e] at dw;cases dw;exact hk
  ·rw [if_neg e] at dw;exact hg.own b' k' dw
 ·intro b' k' o' dw kN;rw [Heap.aD,Heap.bl] at kN;rw [Mu.fD] at dw;by_cases e:b'=h.next
  ·rw [if_pos e] at dw kN;cases dw;cases kN;rw [gR hk.2,DH];exact hr.mono hm
  ·rw [if_neg e] at dw kN;rw [Heap.aK] at kN;by_cases e':b'=b
   ·rw [if_pos e'] at kN;cases kN;trivial
   ·rw [if_neg e'] at kN;by_cases hd:o' = .dead
    ·subst hd;trivial
    ·have:k'.c≠k.c:=fun hc=>e' (hg.inj b' b k' k o' o0 dw hb kN ho hd hn hc);rw [fo this,DH];exact (hg.obj b' k' o' dw kN).mono hm
 ·intro b1 b2 k1 k2 o1 o2 h1 h2 g1 g2 n1 n2 hc;rw [Heap.aD,Heap.bl] at g1 g2;rw [Mu.fD] at h1 h2
  have key:∀ b' k' o',μ b'=some k'->(h.set b .dead).get b'=some o'->o'≠.dead->k'.c≠k.c:=by
   intro b' k' o' dw kN hd hc;rw [Heap.aK] at kN;by_cases e':b'=b
   ·rw [if_pos e'] at kN;cases kN;exact hd rfl
   ·rw [if_neg e'] at kN;exact e' (hg.inj b' b k' k o' o0 dw hb kN ho hd hn hc)
  by_cases e1:b1=h.next
  ·by_cases e2:b2=h.next
   ·omega
   ·rw [if_pos e1] at h1 g1;rw [if_neg e2] at h2 g2;cases h1;exact absurd hc.symm (key b2 k2 o2 h2 g2 n2)
  ·by_cases e2:b2=h.next
   ·rw [if_neg e1] at h1 g1;rw [if_pos e2] at h2 g2;cases h2;exact absurd hc (key b1 k1 o1 h1 g1 n1)
   ·rw [if_neg e1] at h1 g1;rw [if_neg e2] at h2 g2;rw [Heap.aK] at g1 g2;by_cases d1:b1=b
    ·rw [if_pos d1] at g1;cases g1;exact absurd rfl n1
    ·by_cases d2:b2=b
     ·rw [if_pos d2] at g2;cases g2;exact absurd rfl n2
     ·rw [if_neg d1] at g1;rw [if_neg d2] at g2;exact hg.inj b1 b2 k1 k2 o1 o2 h1 h2 g1 g2 n1 n2 hc
 ·exact fo (fun e=>hne b k hb e.symm) O
 ·intro b' k' dw;rw [Mu.fD] at dw;by_cases e:b'=h.next
  ·rw [if_pos e] at dw;cases dw;exact .inr (.inr ⟨b,k,hb,rfl⟩)
  ·rw [if_neg e] at dw;exact .inl dw
end
end Go.AM