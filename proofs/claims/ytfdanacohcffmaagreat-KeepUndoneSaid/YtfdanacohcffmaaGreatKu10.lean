/- Parts of the proof. Conditions: none. -/
import Derived.Test.YtfdanacohcffmaaGreatKu9
set_option linter.unusedSimpArgs false
set_option linter.unusedVariables false
namespace Go.AM
open List Nat Bool Option
open Go Go.RowKit
noncomputable section
variable {K:AX->St->Bool} {defs:List oV} {α:Type} {n:Nat}
def cZ(o:Option (AV×Heap))(f:AV->Heap->Bool):Bool:=af o fun p=>f p.1 p.2
def bJ(r p:AV->Heap->Bool):Out->Heap->Bool
 |.ret v,h=>r v h
 |.panic v,h=>p v h
def GG(ok:AV->Heap->Bool)(pn:AV->Heap->Bool):R->Bool
 |.ok v _ h=>ok v h
 |.panic v h=>pn v h
def pg(x:AV)(f:FuncId->List AV->List AV->Bool):Bool:=
 match x with
 |.func g a b=>f g a b
 |_=>false
def ai(fn:Func):Code:=match fn.body with|some c=>c|none=>.skip
def partOf:Code->List Nat->Code
 |c,[]=>c
 |.seq a b,n :: ns=>match n with|0=>partOf a ns|_=>partOf b ns
 |.cond _ a b,n :: ns=>match n with|0=>partOf a ns|_=>partOf b ns
 |.block _ c,_ :: ns=>partOf c ns
 |.loop c,_ :: ns=>partOf c ns
 |c,_=>c
theorem wu{a b:α}(h:a=b):a=b:=by subst h;exact Eq.refl a
@[simp] theorem aq {α:Type} (a:α) (f:α->Bool):af (some a) f=f a:=wu rfl
@[simp] theorem VK {α:Type} (f:α->Bool):af none f=false:=rfl
@[simp] theorem iZ (v:AV) (h:Heap) (f:AV->Heap->Bool):cZ (some (v,h)) f=f v h:=wu rfl
@[simp] theorem kK (r p:AV->Heap->Bool) (v:AV) (h:Heap):bJ r p (.ret v) h=r v h:=wu rfl
@[simp] theorem VL (r p:AV->Heap->Bool) (v:AV) (h:Heap):bJ r p (.panic v) h=p v h:=wu rfl
@[simp] theorem fA (g:FuncId) (a b:List AV) (f:FuncId->List AV->List AV->Bool):pg (.func g a b) f=f g a b:=wu rfl
theorem aK(a b:α):cond true a b=a:=wu rfl
theorem aJ(a b:α):cond false a b=b:=wu rfl
@[simp] theorem cC (t a b:Bool):ay (.bool t) a b=bif t then a else b:=by cases t<;>rfl
@[congr] theorem Ye {α:Type} {o o':Option α} {f:α->Bool} (h:o=o'):af o f=af o' f:=by rw [h]
@[congr] theorem Xn {o o':Option (AV×Heap)} {f:AV->Heap->Bool} (h:o=o'):cZ o f=cZ o' f:=by rw [h]
@[congr] theorem Yf {x x':AV} {a b:Bool} (h:x=x'):ay x a b=ay x' a b:=by rw [h]
@[congr] theorem acJ {α:Type} {c c':Bool} {a b:α} (h:c=c'):cond c a b=cond c' a b:=by rw [h]
@[congr] theorem VM {P:Program} {f:FuncId} {args vK:List AV} {h h':Heap} {K:Out->Heap->Bool} (e1:args=vK) (e2:h=h'):aA P f args h K=aA P f vK h' K:=by rw [e1,e2]
theorem k7{f:St->(AX->St->Bool)->Bool}{e0:Env}{h0:Heap}(I:Nat->Env->Heap->Prop)(m:Nat)(hI:I m e0 h0)
  (step:∀ m e h,I m e h->f ⟨e,n,defs,h⟩ (Fj (fun m s=>s.n=n/\s.defs=defs/\I m s.env s.h) m K)=true):bW f ⟨e0,n,defs,h0⟩ K=true:=by
 refine ct.2 ⟨fun m s=>s.n=n/\s.defs=defs/\I m s.env s.h,⟨m,rfl,rfl,hI⟩,fun m s hs=>?_⟩;obtain ⟨e,n',d,h⟩:=s;obtain ⟨h1,h2,h3⟩:=hs;simp only at h1 h2 h3;subst h1;subst h2;exact step m e h h3
theorem qS{I:Nat->Env->Heap->Prop}{m:Nat}{e:Env}{h:Heap}(m':Nat)(hm:m'<m)(hI:I m' e h) :
  Fj (fun m s=>s.n=n/\s.defs=defs/\I m s.env s.h) m K .normal ⟨e,n,defs,h⟩=true:=ct.2 ⟨m',hm,rfl,rfl,hI⟩
@[simp] theorem oB (I:Nat->St->Prop) (m:Nat) (K:AX->St->Bool) (id:Nat) (s:St):Fj I m K (.exit id) s=K (.exit id) s:=rfl
@[simp] theorem Xo (I:Nat->St->Prop) (m:Nat) (K:AX->St->Bool) (s:St):Fj I m K .ret s=K .ret s:=rfl
@[simp] theorem UE (I:Nat->St->Prop) (m:Nat) (K:AX->St->Bool) (v:AV) (s:St):Fj I m K (.panic v) s=K (.panic v) s:=rfl
theorem aD{f:St->(AX->St->Bool)->Bool}{e0:Env}{h0:Heap}(a N:Nat)(ha:a<=N)(J:Nat->Env->Heap->Prop)(hJ:J a e0 h0)
  (step:∀ i e h,a<=i->i<N->J i e h->∀ K':AX->St->Bool,(∀ e' h',J (i+1) e' h'->K' .normal ⟨e',n,defs,h'⟩=true)->(∀ id s,K' (.exit id) s=K (.exit id) s)->(∀ s,K' .ret s=K .ret s)->(∀ v s,K' (.panic v) s=K (.panic v) s)->f ⟨e,n,defs,h⟩ K'=true)
  (done:∀ e h,J N e h->∀ K':AX->St->Bool,(∀ id s,K' (.exit id) s=K (.exit id) s)->f ⟨e,n,defs,h⟩ K'=true):bW f ⟨e0,n,defs,h0⟩ K=true:=by
 refine k7 (fun m e h=>∃ i,a<=i/\i<=N/\m=N-i/\J i e h) (N-a) ⟨a,dM _,ha,rfl,hJ⟩ fun m e h hi=>?_;obtain ⟨i,hai,hi,rfl,hj⟩:=hi;by_cases hlt:i<N
 ·exact step i e h hai hlt hj _ (fun e' h' Gz=>qS (I:=fun m e h=>∃ i,a<=i/\i<=N/\m=N-i/\J i e h) (N-(i+1)) (by omega) ⟨i+1,by omega,by omega,rfl,Gz⟩) (fun _ _=>rfl) (fun _=>rfl) (fun _ _=>rfl)
 ·obtain rfl:i=N:=by omega
  exact done e h hj _ (fun _ _=>rfl)
end
end Go.AM
namespace Go.AM
open List Nat Bool Option
open Go Go.RowKit
noncomputable section
variable {k:IntKind} {h:Heap} {α:Type} {sz i n b:Nat} {es:List Entry} {cs:List AV} {a:Int} {r:AV}
abbrev b7:=List UInt8
abbrev Sl(α:Type):=Option (List α)
def Sl.l{α:Type}(x:Sl α):List α:=x.getD []
@[simp] theorem Sl.VN {α:Type}:Sl.l (none:Sl α) = []:=rfl
@[simp] theorem Sl.Ku {α:Type} (l:List α):Sl.l (some l)=l:=rfl
def ak{α:Type}(enc:α->List AV)(sz:Nat):Sl α->AV
 |none=>.ax
 |some l=>.au (l.flatMap enc) 0 l.length sz
def encI(n:Int):List AV:=[.int .i64 n]
def encS(s:b7):List AV:=[.str s]
def Yg(b:Bool):List AV:=[.bool b]
theorem fH{enc:α->List AV}(he:∀ a,(enc a).length=sz)(l:List α):(l.flatMap enc).length=l.length*sz:=by
 induction l with
 |nil=>simp
 |cons a l ih=>rw [flatMap_cons,length_append,ih,he,length_cons,Nat.add_mul];omega
theorem pq{α:Type}{enc:α->List AV}{sz:Nat}(he:∀ a,(enc a).length=sz):∀ (l:List α) (i k:Nat) (a:α),l[i]?=some a->k<sz->(l.flatMap enc)[i*sz+k]?=(enc a)[k]?
 |[],i,k,a,h,_=>by simp at h
 |b :: l,0,k,a,h,hk=>by
  simp at h;subst h;rw [flatMap_cons,Nat.zero_mul,Nat.zero_add,getElem?_append_left (by rw [he];exact hk)]
 |b :: l,i+1,k,a,h,hk=>by
  rw [flatMap_cons,getElem?_append_right (by rw [he,Nat.add_mul];omega),he,<- pq he l i k a (by simpa using h) hk];congr 1;rw [Nat.add_mul];omega
theorem nE{α:Type}{enc:α->List AV}{sz:Nat}(he:∀ a,(enc a).length=sz):∀ (l:List α) (i:Nat) (a:α),l[i]?=some a->((l.flatMap enc).drop (i*sz)).take sz=enc a
 |[],i,a,h=>by simp at h
 |b :: l,0,a,h=>by
  simp at h;subst h;rw [flatMap_cons,Nat.zero_mul,drop_zero,take_append_of_le_length (by rw [he];exact dM _),kf (by rw [he];exact dM _)]
 |b :: l,i+1,a,h=>by
  have hd:List.drop sz (enc b) = []:=drop_of_length_le (by rw [he];exact dM _);rw [flatMap_cons,Nat.add_mul,Nat.one_mul,Nat.add_comm,<- drop_drop,drop_append_of_le_length (by rw [he];exact dM _),hd,nil_append];exact nE he l i a (by simpa using h)
theorem Ij{enc:α->List AV}(x:Sl α)(h:Heap):bU .slice (ak enc sz x) h=some (.int .i64 (x.l.length:Int)):=by
 cases x<;>rfl
theorem aV{enc:α->List AV}(x:Sl α)(hi:i<x.l.length):dG sz (ak enc sz x) (.int k (i:Int))=some (.dO (x.l.flatMap enc) (i*sz)):=by
 cases x with
 |none=>simp at hi
 |some l=>
  have uX:i<l.length:=hi;simp [dG,ak,asNat,uX]
theorem fI{enc:α->List AV}(he:∀ a,(enc a).length=sz){l:List α}{a:α}(ha:l[i]?=some a){k:Nat}(hk:k<sz) :
  ag none (.dO (l.flatMap enc) (i*sz+k)) h=(enc a)[k]?:=pq he l i k a ha hk
theorem wz{enc:α->List AV}(he:∀ a,(enc a).length=1){l:List α}{a:α}(ha:l[i]?=some a) :
  ag none (.dO (l.flatMap enc) (i*1)) h=(enc a)[0]?:=pq he l i 0 a ha (by omega)
theorem dF{enc:α->List AV}(he:∀ a,(enc a).length=sz){l:List α}{a:α}(ha:l[i]?=some a) :
  ag (some sz) (.dO (l.flatMap enc) (i*sz)) h=some (.agg (enc a)):=by
 have hi:i<l.length:=(kg.1 ha).1
 have hle:i*sz+sz<=(l.flatMap enc).length:=by
  rw [fH he];have:(i+1)*sz<=l.length*sz:=mul_le_mul_right _ hi;rw [Nat.add_mul] at this;omega
 show iX (some sz) _ _=_;simp only [iX];rw [if_pos hle,nE he l i a ha]
theorem RV(n:Nat)(cs:List AV)(o:Nat):bS n (.dO cs o)=some (.dO cs (o+n)):=rfl
theorem Pd(n b o:Nat):bS n (.ptr b o)=some (.ptr b (o+n)):=rfl
theorem aj{r:Option Nat}{o:Nat}(hb:h.get b=some (.cells cs)):ag r (.ptr b o) h=iX r cs o:=by simp [ag,hb]
theorem uz(cs:List AV)(o:Nat):iX none cs o=cs[o]?:=rfl
theorem aB(h:Heap)(o:jV):(Heap.alloc h o).get h.next=some o:=by rw [Heap.aU,if_pos rfl]
theorem bT:Heap.next Heap.empty=0:=rfl
def pO(r:AV):Out->Heap->Bool:=fun o h=>yes (∃ v,o = .ret v/\Fz true h v r)
theorem Pe{v:AV}(hf:Fz true h v r):pO r (.ret v) h=true:=ct.2 ⟨v,rfl,hf⟩
theorem fY(hp:r.pure=true):pO r (.ret r) h=true:=Pe (.dP hp)
theorem Sem.data{P:Program}{f:FuncId}{args:List AV}(hs:Sem P f args Heap.empty (pO r))(hp:AV.cN args=true){K:Out->Heap->Bool}(hK:K (.ret r) h=true):Sem P f args h K:=
 hs.frozen hp fun o h' ho=>by
  obtain ⟨v,rfl,hf⟩:=ct.1 ho;exact ⟨v,r,rfl,hf,hK⟩
theorem Ef{enc:α->List AV}(he:∀ a,AV.cN (enc a)=true)(l:List α):AV.cN (l.flatMap enc)=true:=by
 induction l with
 |nil=>rfl
 |cons a l ih=>rw [flatMap_cons];exact AV.GD (he a) ih
theorem cc{enc:α->List AV}(he:∀ a,AV.cN (enc a)=true)(x:Sl α):(ak enc sz x).pure=true:=by
 cases x with
 |none=>rfl
 |some l=>exact Ef he l
theorem j4(n:Int):AV.cN (encI n)=true:=rfl
theorem j5(s:b7):AV.cN (encS s)=true:=rfl
theorem mT(n:Int):(encI n).length=1:=rfl
theorem iA(s:b7):(encS s).length=1:=rfl
theorem jd{b:Int}(h1:-9223372036854775808<=a+b)(h2:a+b<=9223372036854775807):aF .add (.int .i64 a) (.int .i64 b)=some (.int .i64 (a+b)):=by
 simp only [aF,if_true];rw [IntWalk.i64_in _ (by omega)]
theorem pz{b:Int}(h1:-9223372036854775808<=a-b)(h2:a-b<=9223372036854775807):aF .sub (.int .i64 a) (.int .i64 b)=some (.int .i64 (a-b)):=by
 simp only [aF,if_true];rw [IntWalk.i64_in _ (by omega)]
theorem uA{b:Int}(h1:-9223372036854775808<=a*b)(h2:a*b<=9223372036854775807):aF .mul (.int .i64 a) (.int .i64 b)=some (.int .i64 (a*b)):=by
 simp only [aF,if_true];rw [IntWalk.i64_in _ ⟨h1,h2⟩]
theorem qT(a b:Int):aF .lss (.int k a) (.int k b)=some (.bool (decide (a<b))):=by simp [aF]
theorem xR(a b:Int):aF .leq (.int k a) (.int k b)=some (.bool (decide (a<=b))):=by simp [aF]
theorem GH(a b:Int):aF .gtr (.int k a) (.int k b)=some (.bool (decide (b<a))):=by simp [aF]
theorem qW(a b:Int):aF .geq (.int k a) (.int k b)=some (.bool (decide (b<=a))):=by simp [aF]
theorem eq_int(d:TypeDesc)(a b:Int):jA d (.int k a) (.int k b)=some (.bool (a==b)):=by simp [jA,Ra]
theorem VO(d:TypeDesc)(a b:Int):nA d (.int k a) (.int k b)=some (.bool (!(a==b))):=by simp [nA,Ra]
theorem Cn(d:TypeDesc)(a b:b7):jA d (.str a) (.str b)=some (.bool (a==b)):=by simp [jA,Ra]
theorem VP(d:TypeDesc)(a b:b7):nA d (.str a) (.str b)=some (.bool (!(a==b))):=by simp [nA,Ra]
theorem RX(a b:Bool):jA .bool (.bool a) (.bool b)=some (.bool (a==b)):=by simp [jA,Ra]
theorem BA(a b:Bool):nA .bool (.bool a) (.bool b)=some (.bool (!(a==b))):=by simp [nA,Ra]
theorem oC(a:Bool):kr .not (.bool a)=some (.bool (!a)):=rfl
theorem nF(s:b7)(h:Heap):bU .str (.str s) h=some (.int .i64 (s.length:Int)):=rfl
theorem BB{s:b7}{b:UInt8}(hb:s[i]?=some b):kS (.str s) (.int k (i:Int))=some (.int .u8 (b.toNat:Int)):=by
 simp [kS,asNat,hb]
theorem nM(v:AV)(vs:List AV):bx (.tuple (v :: vs)) 0=some v:=rfl
theorem uB(u v:AV)(vs:List AV):bx (.tuple (u :: v :: vs)) 1=some v:=rfl
theorem Nc(u v w:AV)(vs:List AV):bx (.tuple (u :: v :: w :: vs)) 2=some w:=rfl
theorem cY(h:bw cs=true):eX (.agg cs)=some cs:=by simp [eX,AV.dy,h]
theorem pE{x:AV}(h:x.one=true):eX x=some [x]:=by
 cases x<;>simp_all [eX,AV.dy,bw,AV.one]
theorem fZ{enc:α->List AV}(x:Sl α):(ak enc sz x).one=true:=by cases x<;>rfl
theorem cF{o:Nat}{v:AV}(hb:h.get b=some (.cells cs))(hn:v.dy.length=n)(hv:bw v.dy=true)(hle:o+n<=cs.length):aY n (.ptr b o) v h=some (h.set b (.cells (ei cs o v.dy))):=by
 simp [aY,hb,hn,hv,hle]
theorem cw{b:Int}:(a==b)=decide (a=b):=by
 by_cases h:a=b<;>simp [h]
def cM:Nat:=4611686018427387904
theorem RY(a b:Int):aF .add (.int k a) (.int k b)=some (.int k (k.wrap (a+b))):=by simp [aF]
theorem aI(h:i<n)(hn:n<=cM):aF .add (.int .i64 (i:Int)) (.int .i64 1)=some (.int .i64 ((i+1:Nat):Int)):=by
 unfold cM at hn;rw [jd (by omega) (by omega)];rfl
theorem bh(h:i<n):decide ((i:Int)<(n:Int))=true:=by simp;omega
theorem aW:decide ((n:Int)<(n:Int))=false:=by simp
structure bA (h h':Heap):Prop where
 next:h.next<=h'.next
 get:∀ b,b<h.next->h'.get b=h.get b
theorem bA.refl(h:Heap):bA h h:=⟨dM _,fun _ _=>rfl⟩
theorem bA.trans{a b c:Heap}(x:bA a b)(y:bA b c):bA a c:=⟨Nat.le_trans x.next y.next,fun i hi=>by rw [y.get i (Nat.lt_of_lt_of_le hi x.next),x.get i hi]⟩
theorem bA.alloc(h:Heap)(o:jV):bA h (h.alloc o):=⟨le_succ _,fun b hb=>by rw [Heap.aU,if_neg (by omega)]⟩
theorem bA.set{h h':Heap}(x:bA h h'){b:Nat}(hb:h.next<=b)(o:jV):bA h (h'.set b o):=⟨x.next,fun c hc=>by rw [Heap.aN,if_neg (by omega)];exact x.get c hc⟩
theorem cu{zs:List AV}(hz:zs.length=n)(hc:cs.length=n)(ho:bw cs=true) :
  ∃ h',aY n (.ptr h.next 0) (.agg cs) (Heap.alloc h (.cells zs))=some h'/\h'.get h.next=some (.cells cs)/\(∀ b,b≠h.next->h'.get b=h.get b)/\h'.next=h.next+1:=by
 have Nd:∀ (cs zs pre:List AV),zs.length=cs.length->ei (pre++zs) pre.length cs=pre++cs:=by
  intro cs
  induction cs with
  |nil=>intro zs pre hl;have:zs = []:=eq_nil_of_length_eq_zero (by simpa using hl);simp [ei,this]
  |cons c cs ih=>
   intro zs pre hl
   cases zs with
   |nil=>simp at hl
   |cons z zs=>
    simp only [ei];rw [set_append_right _ _ (dM _)];simp only [Nat.sub_self,set_cons_zero];have:=ih zs (pre++[c]) (by simpa using hl);simpa using this
 refine ⟨(Heap.alloc h (.cells zs)).set h.next (.cells cs),?_,?_,fun b hb=>?_,rfl⟩
 ·rw [cF (aB h _) (by simpa [AV.dy] using hc) (by simpa [AV.dy] using ho) (by simp [AV.dy];omega)];have:=Nd cs zs [] (by omega);simp only [nil_append,length_nil] at this;simp [AV.dy,this]
 ·rw [Heap.aN,if_pos rfl]
 ·rw [Heap.aN,if_neg hb,Heap.aU,if_neg hb]
abbrev eE:=List (b7×Int)
def eE.find(m:eE)(k:b7):Option Int:=(List.find? (fun p=>k==p.1) m).map (·.2)
def eE.qX:eE->b7->Int->eE
 |[],k,v=>[(k,v)]
 |p :: m,k,v=>if k==p.1 then (p.1,v) :: m else p :: eE.qX m k v
def j6:List Entry->eE->Prop
 |[],[]=>True
 |e :: es,p :: m=>e.1 = .str p.1/\e.2.1 = .int .i64 p.2/\j6 es m
 |_,_=>False
theorem j6.jB{k:b7}:∀ {es:List Entry} {m:eE} (i:Nat),j6 es m->∃ r,jB .string (.str k) es i=some r/\match r with
  |none=>m.find k=none
  |some (j,v)=>∃ n q,j=i+n/\m.find k=some q/\v = .int .i64 q/\j6 (eY es n v) m/\∀ w,j6 (eY es n (.int .i64 w)) (m.qX k w)
 |[],[],i,_=>⟨none,rfl,rfl⟩
 |e :: es,p :: m,i,⟨h1,h2,h3⟩=>by
  obtain ⟨ek,ev,en⟩:=e;simp only at h1 h2;subst h1;subst h2;by_cases hk:k=p.1
  ·subst hk;refine ⟨some (i,.int .i64 p.2),by simp [Go.AM.jB,vB],0,p.2,rfl,by simp [eE.find],rfl,?_,fun w=>?_⟩
   ·simp [eY,j6,h3]
   ·simp [eY,j6,eE.qX,h3]
  ·obtain ⟨r,hr,hm⟩:=j6.jB (k:=k) (i+1) h3;have VQ:(k==p.1)=false:=by simpa using hk
   refine ⟨r,by simp only [Go.AM.jB,vB,VQ,hr],?_⟩
   cases r with
   |none=>simpa [eE.find,hk] using hm
   |some jv=>
    obtain ⟨n,q,a,b,c,d,e⟩:=hm;refine ⟨n+1,q,by omega,by simpa [eE.find,hk] using b,c,?_,fun w=>?_⟩
    ·have:=d;simp only [eY,getElem?_cons_succ] at this ⊢;split at this<;>simp_all [j6]
    ·have:=e w;simp only [eY,getElem?_cons_succ,eE.qX,VQ] at this ⊢;split at this<;>simp_all [j6]
theorem j6.append{m:eE}(h:j6 es m){k:b7}(hk:m.find k=none)(v:Int)(n:Nat):j6 (es++[(.str k,.int .i64 v,n)]) (m.qX k v):=by
 induction es generalizing m with
 |nil=>cases m with
  |nil=>simp [j6,eE.qX]
  |cons p m=>exact h.elim
 |cons e es ih=>cases m with
  |nil=>exact h.elim
  |cons p m=>
   obtain ⟨h1,h2,h3⟩:=h;have hne:k≠p.1:=fun e=>by subst e;simp [eE.find] at hk
   have hk':eE.find m k=none:=by simpa [eE.find,hne] using hk
   have:=ih h3 hk';simp only [cons_append,eE.qX];rw [if_neg (by simpa using hne)];exact ⟨h1,h2,this⟩
theorem qY{ck:Nat}{m:eE}(hb:h.get b=some (.map es ck))(hm:j6 es m)(k:b7) :
  dU .string (.int .i64 0) true (.map b) (.str k) h=some (.tuple [.int .i64 ((m.find k).getD 0),.bool (m.find k).isSome]):=by
 obtain ⟨r,hr,uC⟩:=j6.jB (k:=k) 0 hm;simp only [dU,lJ,hb,pY,pX,if_true,hr]
 cases r with
 |none=>simp at uC;simp [uC]
 |some jv=>
  obtain ⟨n,q,_,b,c,_⟩:=uC;obtain ⟨j,v⟩:=jv;simp only at c;subst c;simp [b]
theorem Co{ck:Nat}{m:eE}(hb:h.get b=some (.map es ck))(hm:j6 es m)(k:b7)(v:Int) :
  ∃ xA GI,eS .string (.map b) (.str k) (.int .i64 v) h=some (h.set b (.map xA GI))/\j6 xA (m.qX k v):=by
 obtain ⟨r,hr,uC⟩:=j6.jB (k:=k) 0 hm;simp only [eS,hb,pY,pX,if_true,hr]
 cases r with
 |none=>simp at uC;exact ⟨_,_,rfl,hm.append uC v ck⟩
 |some jv=>
  obtain ⟨n,q,hj,_,_,_,e⟩:=uC;obtain ⟨j,w⟩:=jv;simp only [Nat.zero_add] at hj;subst hj;exact ⟨_,_,rfl,e v⟩
theorem aR:(∀ {α:Type} (a:α) (f:α->Bool),af (some a) f=f a)/\(∀ (v:AV) (h:Heap) (f:AV->Heap->Bool),cZ (some (v,h)) f=f v h)/\(∀ (r p:AV->Heap->Bool) (v:AV) (h:Heap),bJ r p (.ret v) h=r v h) /\
  (∀ t a b:Bool,ay (.bool t) a b=bif t then a else b)/\(∀ {α:Type} (a b:α),cond true a b=a)/\(∀ {α:Type} (a b:α),cond false a b=b)/\(∀ n b o:Nat,bS n (.ptr b o)=some (.ptr b (o+n)))/\(∀ (n:Nat) (cs:List AV) (o:Nat),bS n (.dO cs o)=some (.dO cs (o+n))) /\
  (∀ (cs:List AV) (o:Nat),iX none cs o=cs[o]?)/\(∀ n:Nat,0+n=n)/\(∀ n:Nat,n+0=n)/\(∀ {α:Type} (a:α) (l:List α),(a :: l)[0]?=some a)/\(∀ {α:Type} (a:α) (l:List α) (i:Nat),(a :: l)[i+1]?=l[i]?) /\
  (∀ (s:b7) (h:Heap),bU .str (.str s) h=some (.int .i64 (s.length:Int)))/\(∀ {α:Type} {enc:α->List AV} {sz:Nat} (x:Sl α) (h:Heap),bU .slice (ak enc sz x) h=some (.int .i64 (x.l.length:Int))) /\
  (∀ {k:IntKind} (a b:Int),aF .lss (.int k a) (.int k b)=some (.bool (decide (a<b))))/\(∀ {k:IntKind} (a b:Int),aF .leq (.int k a) (.int k b)=some (.bool (decide (a<=b))))/\(∀ {k:IntKind} (a b:Int),aF .gtr (.int k a) (.int k b)=some (.bool (decide (b<a))))/\(∀ {k:IntKind} (a b:Int),aF .geq (.int k a) (.int k b)=some (.bool (decide (b<=a)))) /\
  (∀ {k:IntKind} (d:TypeDesc) (a b:Int),jA d (.int k a) (.int k b)=some (.bool (a==b)))/\(∀ {k:IntKind} (d:TypeDesc) (a b:Int),nA d (.int k a) (.int k b)=some (.bool (!(a==b))))/\(∀ (d:TypeDesc) (a b:b7),jA d (.str a) (.str b)=some (.bool (a==b)))/\(∀ (d:TypeDesc) (a b:b7),nA d (.str a) (.str b)=some (.bool (!(a==b)))) /\
  (∀ a b:Bool,jA .bool (.bool a) (.bool b)=some (.bool (a==b)))/\(∀ a b:Bool,nA .bool (.bool a) (.bool b)=some (.bool (!(a==b))))/\(∀ a:Bool,kr .not (.bool a)=some (.bool (!a))) /\
  (∀ (v:AV) (vs:List AV),bx (.tuple (v :: vs)) 0=some v)/\(∀ (u v:AV) (vs:List AV),bx (.tuple (u :: v :: vs)) 1=some v)/\(∀ (u v w:AV) (vs:List AV),bx (.tuple (u :: v :: w :: vs)) 2=some w)/\(∀ (env:Env) (d:Nat) (v:AV) (t:Nat),aa env d v t=if t=d then v else env t):=
 ⟨aq,iZ,kK,cC,aK,aJ,Pd,RV,uz,Nat.zero_add,Nat.add_zero,fun _ _=>rfl,fun _ _ _=>rfl,nF,Ij,qT,xR,GH,qW,eq_int,VO,Cn,VP,RX,BA,oC,nM,uB,Nc,bK⟩
end
end Go.AM