/- Parts of the proof. Conditions: none. -/
import Derived.Test.YtfdanacohcffmaaGreatKd9
set_option linter.unusedSimpArgs false
set_option linter.unusedVariables false
namespace Go.AM
open List Nat Bool Option
open Go Go.RowKit
noncomputable section
variable {K:AX->St->Bool} {defs:List qh} {α:Type} {n:Nat}
def cX(o:Option (AV×Heap))(f:AV->Heap->Bool):Bool:=af o fun p=>f p.1 p.2
def bK(r p:AV->Heap->Bool):Out->Heap->Bool
 |.ret v,h=>r v h
 |.panic v,h=>p v h
def HD(ok:AV->Heap->Bool)(pn:AV->Heap->Bool):R->Bool
 |.ok v _ h=>ok v h
 |.panic v h=>pn v h
def qt(x:AV)(f:FuncId->List AV->List AV->Bool):Bool:=
 match x with
 |.func g a b=>f g a b
 |_=>false
def ah(fn:Func):Code:=match fn.body with|some c=>c|none=>.skip
def partOf:Code->List Nat->Code
 |c,[]=>c
 |.seq a b,n :: ns=>match n with|0=>partOf a ns|_=>partOf b ns
 |.cond _ a b,n :: ns=>match n with|0=>partOf a ns|_=>partOf b ns
 |.block _ c,_ :: ns=>partOf c ns
 |.loop c,_ :: ns=>partOf c ns
 |c,_=>c
theorem xN{a b:α}(h:a=b):a=b:=by subst h;exact Eq.refl a
@[simp] theorem an {α:Type} (a:α) (f:α->Bool):af (some a) f=f a:=xN rfl
@[simp] theorem Xh {α:Type} (f:α->Bool):af none f=false:=rfl
@[simp] theorem ji (v:AV) (h:Heap) (f:AV->Heap->Bool):cX (some (v,h)) f=f v h:=xN rfl
@[simp] theorem kY (r p:AV->Heap->Bool) (v:AV) (h:Heap):bK r p (.ret v) h=r v h:=xN rfl
@[simp] theorem Xi (r p:AV->Heap->Bool) (v:AV) (h:Heap):bK r p (.panic v) h=p v h:=xN rfl
@[simp] theorem fL (g:FuncId) (a b:List AV) (f:FuncId->List AV->List AV->Bool):qt (.func g a b) f=f g a b:=xN rfl
theorem aL(a b:α):cond true a b=a:=xN rfl
theorem aK(a b:α):cond false a b=b:=xN rfl
@[simp] theorem cF (t a b:Bool):ay (.bool t) a b=bif t then a else b:=by cases t<;>rfl
@[congr] theorem ZA {α:Type} {o o':Option α} {f:α->Bool} (h:o=o'):af o f=af o' f:=by rw [h]
@[congr] theorem YM {o o':Option (AV×Heap)} {f:AV->Heap->Bool} (h:o=o'):cX o f=cX o' f:=by rw [h]
@[congr] theorem ZB {x x':AV} {a b:Bool} (h:x=x'):ay x a b=ay x' a b:=by rw [h]
@[congr] theorem adO {α:Type} {c c':Bool} {a b:α} (h:c=c'):cond c a b=cond c' a b:=by rw [h]
@[congr] theorem Xj {P:Program} {f:FuncId} {args w8:List AV} {h h':Heap} {K:Out->Heap->Bool} (e1:args=w8) (e2:h=h'):aB P f args h K=aB P f w8 h' K:=by rw [e1,e2]
theorem lG{f:St->(AX->St->Bool)->Bool}{e0:Env}{h0:Heap}(I:Nat->Env->Heap->Prop)(m:Nat)(hI:I m e0 h0)
  (step:∀ m e h,I m e h->f ⟨e,n,defs,h⟩ (Ge (fun m s=>s.n=n/\s.defs=defs/\I m s.env s.h) m K)=true):bV f ⟨e0,n,defs,h0⟩ K=true:=by
 refine cu.2 ⟨fun m s=>s.n=n/\s.defs=defs/\I m s.env s.h,⟨m,rfl,rfl,hI⟩,fun m s hs=>?_⟩;obtain ⟨e,n',d,h⟩:=s;obtain ⟨h1,h2,h3⟩:=hs;simp only at h1 h2 h3;subst h1;subst h2;exact step m e h h3
theorem r6{I:Nat->Env->Heap->Prop}{m:Nat}{e:Env}{h:Heap}(m':Nat)(hm:m'<m)(hI:I m' e h) :
  Ge (fun m s=>s.n=n/\s.defs=defs/\I m s.env s.h) m K .normal ⟨e,n,defs,h⟩=true:=cu.2 ⟨m',hm,rfl,rfl,hI⟩
@[simp] theorem pG (I:Nat->St->Prop) (m:Nat) (K:AX->St->Bool) (id:Nat) (s:St):Ge I m K (.exit id) s=K (.exit id) s:=rfl
@[simp] theorem YN (I:Nat->St->Prop) (m:Nat) (K:AX->St->Bool) (s:St):Ge I m K .ret s=K .ret s:=rfl
@[simp] theorem Wd (I:Nat->St->Prop) (m:Nat) (K:AX->St->Bool) (v:AV) (s:St):Ge I m K (.panic v) s=K (.panic v) s:=rfl
theorem aD{f:St->(AX->St->Bool)->Bool}{e0:Env}{h0:Heap}(a N:Nat)(ha:a<=N)(J:Nat->Env->Heap->Prop)(hJ:J a e0 h0)
  (step:∀ i e h,a<=i->i<N->J i e h->∀ K':AX->St->Bool,(∀ e' h',J (i+1) e' h'->K' .normal ⟨e',n,defs,h'⟩=true)->(∀ id s,K' (.exit id) s=K (.exit id) s)->(∀ s,K' .ret s=K .ret s)->(∀ v s,K' (.panic v) s=K (.panic v) s)->f ⟨e,n,defs,h⟩ K'=true)
  (done:∀ e h,J N e h->∀ K':AX->St->Bool,(∀ id s,K' (.exit id) s=K (.exit id) s)->f ⟨e,n,defs,h⟩ K'=true):bV f ⟨e0,n,defs,h0⟩ K=true:=by
 refine lG (fun m e h=>∃ i,a<=i/\i<=N/\m=N-i/\J i e h) (N-a) ⟨a,dK _,ha,rfl,hJ⟩ fun m e h hi=>?_;obtain ⟨i,Zn,hi,rfl,hj⟩:=hi;by_cases hlt:i<N
 ·exact step i e h Zn hlt hj _ (fun e' h' Hw=>r6 (I:=fun m e h=>∃ i,a<=i/\i<=N/\m=N-i/\J i e h) (N-(i+1)) (by omega) ⟨i+1,by omega,by omega,rfl,Hw⟩) (fun _ _=>rfl) (fun _=>rfl) (fun _ _=>rfl)
 ·obtain rfl:i=N:=by omega
  exact done e h hj _ (fun _ _=>rfl)
end
end Go.AM
namespace Go.AM
open List Nat Bool Option
open Go Go.RowKit
noncomputable section
variable {k:IntKind} {h:Heap} {α:Type} {sz i n b:Nat} {es:List Entry} {cs:List AV} {a:Int} {r:AV}
abbrev b8:=List UInt8
abbrev Sl(α:Type):=Option (List α)
def Sl.l{α:Type}(x:Sl α):List α:=x.getD []
@[simp] theorem Sl.Xk {α:Type}:Sl.l (none:Sl α) = []:=rfl
@[simp] theorem Sl.HE {α:Type} (l:List α):Sl.l (some l)=l:=rfl
def ak{α:Type}(enc:α->List AV)(sz:Nat):Sl α->AV
 |none=>.ax
 |some l=>.au (l.flatMap enc) 0 l.length sz
def encI(n:Int):List AV:=[.int .i64 n]
def encS(s:b8):List AV:=[.str s]
def ZC(b:Bool):List AV:=[.bool b]
theorem gj{enc:α->List AV}(he:∀ a,(enc a).length=sz)(l:List α):(l.flatMap enc).length=l.length*sz:=by
 induction l with
 |nil=>simp
 |cons a l ih=>rw [flatMap_cons,length_append,ih,he,length_cons,Nat.add_mul];omega
theorem qu{α:Type}{enc:α->List AV}{sz:Nat}(he:∀ a,(enc a).length=sz):∀ (l:List α) (i k:Nat) (a:α),l[i]?=some a->k<sz->(l.flatMap enc)[i*sz+k]?=(enc a)[k]?
 |[],i,k,a,h,_=>by simp at h
 |b :: l,0,k,a,h,hk=>by
  simp at h;subst h;rw [flatMap_cons,Nat.zero_mul,Nat.zero_add,getElem?_append_left (by rw [he];exact hk)]
 |b :: l,i+1,k,a,h,hk=>by
  rw [flatMap_cons,getElem?_append_right (by rw [he,Nat.add_mul];omega),he,<- qu he l i k a (by simpa using h) hk];congr 1;rw [Nat.add_mul];omega
theorem oy{α:Type}{enc:α->List AV}{sz:Nat}(he:∀ a,(enc a).length=sz):∀ (l:List α) (i:Nat) (a:α),l[i]?=some a->((l.flatMap enc).drop (i*sz)).take sz=enc a
 |[],i,a,h=>by simp at h
 |b :: l,0,a,h=>by
  simp at h;subst h;rw [flatMap_cons,Nat.zero_mul,drop_zero,take_append_of_le_length (by rw [he];exact dK _),jD (by rw [he];exact dK _)]
 |b :: l,i+1,a,h=>by
  have hd:List.drop sz (enc b) = []:=drop_of_length_le (by rw [he];exact dK _);rw [flatMap_cons,Nat.add_mul,Nat.one_mul,Nat.add_comm,<- drop_drop,drop_append_of_le_length (by rw [he];exact dK _),hd,nil_append];exact oy he l i a (by simpa using h)
theorem Jo{enc:α->List AV}(x:Sl α)(h:Heap):bX .slice (ak enc sz x) h=some (.int .i64 (x.l.length:Int)):=by
 cases x<;>rfl
theorem aV{enc:α->List AV}(x:Sl α)(hi:i<x.l.length):dN sz (ak enc sz x) (.int k (i:Int))=some (.ef (x.l.flatMap enc) (i*sz)):=by
 cases x with
 |none=>simp at hi
 |some l=>
  have wo:i<l.length:=hi;simp [dN,ak,asNat,wo]
theorem fy{enc:α->List AV}(he:∀ a,(enc a).length=sz){l:List α}{a:α}(ha:l[i]?=some a){k:Nat}(hk:k<sz) :
  ag none (.ef (l.flatMap enc) (i*sz+k)) h=(enc a)[k]?:=qu he l i k a ha hk
theorem xO{enc:α->List AV}(he:∀ a,(enc a).length=1){l:List α}{a:α}(ha:l[i]?=some a) :
  ag none (.ef (l.flatMap enc) (i*1)) h=(enc a)[0]?:=qu he l i 0 a ha (by omega)
theorem dO{enc:α->List AV}(he:∀ a,(enc a).length=sz){l:List α}{a:α}(ha:l[i]?=some a) :
  ag (some sz) (.ef (l.flatMap enc) (i*sz)) h=some (.agg (enc a)):=by
 have hi:i<l.length:=(kT.1 ha).1
 have hle:i*sz+sz<=(l.flatMap enc).length:=by
  rw [gj he];have:(i+1)*sz<=l.length*sz:=mul_le_mul_right _ hi;rw [Nat.add_mul] at this;omega
 show ju (some sz) _ _=_;simp only [ju];rw [if_pos hle,oy he l i a ha]
theorem Ts(n:Nat)(cs:List AV)(o:Nat):bT n (.ef cs o)=some (.ef cs (o+n)):=rfl
theorem LJ(n b o:Nat):bT n (.ptr b o)=some (.ptr b (o+n)):=rfl
theorem aj{r:Option Nat}{o:Nat}(hb:h.get b=some (.cells cs)):ag r (.ptr b o) h=ju r cs o:=by simp [ag,hb]
theorem vA(cs:List AV)(o:Nat):ju none cs o=cs[o]?:=rfl
theorem aA(h:Heap)(o:j9):(Heap.alloc h o).get h.next=some o:=by rw [Heap.aQ,if_pos rfl]
theorem bJ:Heap.next Heap.empty=0:=rfl
def qN(r:AV):Out->Heap->Bool:=fun o h=>yes (∃ v,o = .ret v/\Fz true h v r)
theorem QC{v:AV}(hf:Fz true h v r):qN r (.ret v) h=true:=cu.2 ⟨v,rfl,hf⟩
theorem gd(hp:r.pure=true):qN r (.ret r) h=true:=QC (.dX hp)
theorem Sem.data{P:Program}{f:FuncId}{args:List AV}(hs:Sem P f args Heap.empty (qN r))(hp:AV.cN args=true){K:Out->Heap->Bool}(hK:K (.ret r) h=true):Sem P f args h K:=
 hs.frozen hp fun o h' ho=>by
  obtain ⟨v,rfl,hf⟩:=cu.1 ho;exact ⟨v,r,rfl,hf,hK⟩
theorem E3{enc:α->List AV}(he:∀ a,AV.cN (enc a)=true)(l:List α):AV.cN (l.flatMap enc)=true:=by
 induction l with
 |nil=>rfl
 |cons a l ih=>rw [flatMap_cons];exact AV.HB (he a) ih
theorem b7{enc:α->List AV}(he:∀ a,AV.cN (enc a)=true)(x:Sl α):(ak enc sz x).pure=true:=by
 cases x with
 |none=>rfl
 |some l=>exact E3 he l
theorem jd(n:Int):AV.cN (encI n)=true:=rfl
theorem kj(s:b8):AV.cN (encS s)=true:=rfl
theorem nH(n:Int):(encI n).length=1:=rfl
theorem iL(s:b8):(encS s).length=1:=rfl
theorem iX{b:Int}(h1:-9223372036854775808<=a+b)(h2:a+b<=9223372036854775807):aG .add (.int .i64 a) (.int .i64 b)=some (.int .i64 (a+b)):=by
 simp only [aG,if_true];rw [IntWalk.i64_in _ (by omega)]
theorem Co{b:Int}(h1:-9223372036854775808<=a-b)(h2:a-b<=9223372036854775807):aG .sub (.int .i64 a) (.int .i64 b)=some (.int .i64 (a-b)):=by
 simp only [aG,if_true];rw [IntWalk.i64_in _ (by omega)]
theorem vB{b:Int}(h1:-9223372036854775808<=a*b)(h2:a*b<=9223372036854775807):aG .mul (.int .i64 a) (.int .i64 b)=some (.int .i64 (a*b)):=by
 simp only [aG,if_true];rw [IntWalk.i64_in _ ⟨h1,h2⟩]
theorem r7(a b:Int):aG .lss (.int k a) (.int k b)=some (.bool (decide (a<b))):=by simp [aG]
theorem yU(a b:Int):aG .leq (.int k a) (.int k b)=some (.bool (decide (a<=b))):=by simp [aG]
theorem HF(a b:Int):aG .gtr (.int k a) (.int k b)=some (.bool (decide (b<a))):=by simp [aG]
theorem r8(a b:Int):aG .geq (.int k a) (.int k b)=some (.bool (decide (b<=a))):=by simp [aG]
theorem eq_int(d:TypeDesc)(a b:Int):jK d (.int k a) (.int k b)=some (.bool (a==b)):=by simp [jK,SE]
theorem Xl(d:TypeDesc)(a b:Int):qF d (.int k a) (.int k b)=some (.bool (!(a==b))):=by simp [qF,SE]
theorem C9(d:TypeDesc)(a b:b8):jK d (.str a) (.str b)=some (.bool (a==b)):=by simp [jK,SE]
theorem Xm(d:TypeDesc)(a b:b8):qF d (.str a) (.str b)=some (.bool (!(a==b))):=by simp [qF,SE]
theorem Tt(a b:Bool):jK .bool (.bool a) (.bool b)=some (.bool (a==b)):=by simp [jK,SE]
theorem Cp(a b:Bool):qF .bool (.bool a) (.bool b)=some (.bool (!(a==b))):=by simp [qF,SE]
theorem pH(a:Bool):lU .not (.bool a)=some (.bool (!a)):=rfl
theorem oz(s:b8)(h:Heap):bX .str (.str s) h=some (.int .i64 (s.length:Int)):=rfl
theorem Cq{s:b8}{b:UInt8}(hb:s[i]?=some b):lf (.str s) (.int k (i:Int))=some (.int .u8 (b.toNat:Int)):=by
 simp [lf,asNat,hb]
theorem oL(v:AV)(vs:List AV):bD (.tuple (v :: vs)) 0=some v:=rfl
theorem vC(u v:AV)(vs:List AV):bD (.tuple (u :: v :: vs)) 1=some v:=rfl
theorem Ox(u v w:AV)(vs:List AV):bD (.tuple (u :: v :: w :: vs)) 2=some w:=rfl
theorem dg(h:bx cs=true):eW (.agg cs)=some cs:=by simp [eW,AV.dI,h]
theorem mE{x:AV}(h:x.one=true):eW x=some [x]:=by
 cases x<;>simp_all [eW,AV.dI,bx,AV.one]
theorem fR{enc:α->List AV}(x:Sl α):(ak enc sz x).one=true:=by cases x<;>rfl
theorem cK{o:Nat}{v:AV}(hb:h.get b=some (.cells cs))(hn:v.dI.length=n)(hv:bx v.dI=true)(hle:o+n<=cs.length):bf n (.ptr b o) v h=some (h.set b (.cells (eL cs o v.dI))):=by
 simp [bf,hb,hn,hv,hle]
theorem cI{b:Int}:(a==b)=decide (a=b):=by
 by_cases h:a=b<;>simp [h]
def cE:Nat:=4611686018427387904
theorem Nk(a b:Int):aG .add (.int k a) (.int k b)=some (.int k (k.wrap (a+b))):=by simp [aG]
theorem aI(h:i<n)(hn:n<=cE):aG .add (.int .i64 (i:Int)) (.int .i64 1)=some (.int .i64 ((i+1:Nat):Int)):=by
 unfold cE at hn;rw [iX (by omega) (by omega)];rfl
theorem aZ(h:i<n):decide ((i:Int)<(n:Int))=true:=by simp;omega
theorem aS:decide ((n:Int)<(n:Int))=false:=by simp
structure bu (h h':Heap):Prop where
 next:h.next<=h'.next
 get:∀ b,b<h.next->h'.get b=h.get b
theorem bu.refl(h:Heap):bu h h:=⟨dK _,fun _ _=>rfl⟩
theorem bu.trans{a b c:Heap}(x:bu a b)(y:bu b c):bu a c:=⟨Nat.le_trans x.next y.next,fun i hi=>by rw [y.get i (Nat.lt_of_lt_of_le hi x.next),x.get i hi]⟩
theorem bu.alloc(h:Heap)(o:j9):bu h (h.alloc o):=⟨le_succ _,fun b hb=>by rw [Heap.aQ,if_neg (by omega)]⟩
theorem bu.set{h h':Heap}(x:bu h h'){b:Nat}(hb:h.next<=b)(o:j9):bu h (h'.set b o):=⟨x.next,fun c hc=>by rw [Heap.aP,if_neg (by omega)];exact x.get c hc⟩
theorem cx{zs:List AV}(hz:zs.length=n)(hc:cs.length=n)(ho:bx cs=true) :
  ∃ h',bf n (.ptr h.next 0) (.agg cs) (Heap.alloc h (.cells zs))=some h'/\h'.get h.next=some (.cells cs)/\(∀ b,b≠h.next->h'.get b=h.get b)/\h'.next=h.next+1:=by
 have Oy:∀ (cs zs pre:List AV),zs.length=cs.length->eL (pre++zs) pre.length cs=pre++cs:=by
  intro cs
  induction cs with
  |nil=>intro zs pre hl;have:zs = []:=eq_nil_of_length_eq_zero (by simpa using hl);simp [eL,this]
  |cons c cs ih=>
   intro zs pre hl
   cases zs with
   |nil=>simp at hl
   |cons z zs=>
    simp only [eL];rw [set_append_right _ _ (dK _)];simp only [Nat.sub_self,set_cons_zero];have:=ih zs (pre++[c]) (by simpa using hl);simpa using this
 refine ⟨(Heap.alloc h (.cells zs)).set h.next (.cells cs),?_,?_,fun b hb=>?_,rfl⟩
 ·rw [cK (aA h _) (by simpa [AV.dI] using hc) (by simpa [AV.dI] using ho) (by simp [AV.dI];omega)];have:=Oy cs zs [] (by omega);simp only [nil_append,length_nil] at this;simp [AV.dI,this]
 ·rw [Heap.aP,if_pos rfl]
 ·rw [Heap.aP,if_neg hb,Heap.aQ,if_neg hb]
abbrev eP:=List (b8×Int)
def eP.find(m:eP)(k:b8):Option Int:=(List.find? (fun p=>k==p.1) m).map (·.2)
def eP.r9:eP->b8->Int->eP
 |[],k,v=>[(k,v)]
 |p :: m,k,v=>if k==p.1 then (p.1,v) :: m else p :: eP.r9 m k v
def kr:List Entry->eP->Prop
 |[],[]=>True
 |e :: es,p :: m=>e.1 = .str p.1/\e.2.1 = .int .i64 p.2/\kr es m
 |_,_=>False
theorem kr.jN{k:b8}:∀ {es:List Entry} {m:eP} (i:Nat),kr es m->∃ r,jN .string (.str k) es i=some r/\match r with
  |none=>m.find k=none
  |some (j,v)=>∃ n q,j=i+n/\m.find k=some q/\v = .int .i64 q/\kr (fA es n v) m/\∀ w,kr (fA es n (.int .i64 w)) (m.r9 k w)
 |[],[],i,_=>⟨none,rfl,rfl⟩
 |e :: es,p :: m,i,⟨h1,h2,h3⟩=>by
  obtain ⟨ek,ev,en⟩:=e;simp only at h1 h2;subst h1;subst h2;by_cases hk:k=p.1
  ·subst hk;refine ⟨some (i,.int .i64 p.2),by simp [Go.AM.jN,wQ],0,p.2,rfl,by simp [eP.find],rfl,?_,fun w=>?_⟩
   ·simp [fA,kr,h3]
   ·simp [fA,kr,eP.r9,h3]
  ·obtain ⟨r,hr,hm⟩:=kr.jN (k:=k) (i+1) h3;have Xn:(k==p.1)=false:=by simpa using hk
   refine ⟨r,by simp only [Go.AM.jN,wQ,Xn,hr],?_⟩
   cases r with
   |none=>simpa [eP.find,hk] using hm
   |some jv=>
    obtain ⟨n,q,a,b,c,d,e⟩:=hm;refine ⟨n+1,q,by omega,by simpa [eP.find,hk] using b,c,?_,fun w=>?_⟩
    ·have:=d;simp only [fA,getElem?_cons_succ] at this ⊢;split at this<;>simp_all [kr]
    ·have:=e w;simp only [fA,getElem?_cons_succ,eP.r9,Xn] at this ⊢;split at this<;>simp_all [kr]
theorem kr.append{m:eP}(h:kr es m){k:b8}(hk:m.find k=none)(v:Int)(n:Nat):kr (es++[(.str k,.int .i64 v,n)]) (m.r9 k v):=by
 induction es generalizing m with
 |nil=>cases m with
  |nil=>simp [kr,eP.r9]
  |cons p m=>exact h.elim
 |cons e es ih=>cases m with
  |nil=>exact h.elim
  |cons p m=>
   obtain ⟨h1,h2,h3⟩:=h;have hne:k≠p.1:=fun e=>by subst e;simp [eP.find] at hk
   have hk':eP.find m k=none:=by simpa [eP.find,hne] using hk
   have:=ih h3 hk';simp only [cons_append,eP.r9];rw [if_neg (by simpa using hne)];exact ⟨h1,h2,this⟩
theorem se{ck:Nat}{m:eP}(hb:h.get b=some (.map es ck))(hm:kr es m)(k:b8) :
  dW .string (.int .i64 0) true (.map b) (.str k) h=some (.tuple [.int .i64 ((m.find k).getD 0),.bool (m.find k).isSome]):=by
 obtain ⟨r,hr,vE⟩:=kr.jN (k:=k) 0 hm;simp only [dW,mB,hb,q8,qZ,if_true,hr]
 cases r with
 |none=>simp at vE;simp [vE]
 |some jv=>
  obtain ⟨n,q,_,b,c,_⟩:=vE;obtain ⟨j,v⟩:=jv;simp only at c;subst c;simp [b]
theorem Da{ck:Nat}{m:eP}(hb:h.get b=some (.map es ck))(hm:kr es m)(k:b8)(v:Int) :
  ∃ yE HG,eN .string (.map b) (.str k) (.int .i64 v) h=some (h.set b (.map yE HG))/\kr yE (m.r9 k v):=by
 obtain ⟨r,hr,vE⟩:=kr.jN (k:=k) 0 hm;simp only [eN,hb,q8,qZ,if_true,hr]
 cases r with
 |none=>simp at vE;exact ⟨_,_,rfl,hm.append vE v ck⟩
 |some jv=>
  obtain ⟨n,q,hj,_,_,_,e⟩:=vE;obtain ⟨j,w⟩:=jv;simp only [Nat.zero_add] at hj;subst hj;exact ⟨_,_,rfl,e v⟩
theorem aR:(∀ {α:Type} (a:α) (f:α->Bool),af (some a) f=f a)/\(∀ (v:AV) (h:Heap) (f:AV->Heap->Bool),cX (some (v,h)) f=f v h)/\(∀ (r p:AV->Heap->Bool) (v:AV) (h:Heap),bK r p (.ret v) h=r v h) /\
  (∀ t a b:Bool,ay (.bool t) a b=bif t then a else b)/\(∀ {α:Type} (a b:α),cond true a b=a)/\(∀ {α:Type} (a b:α),cond false a b=b)/\(∀ n b o:Nat,bT n (.ptr b o)=some (.ptr b (o+n)))/\(∀ (n:Nat) (cs:List AV) (o:Nat),bT n (.ef cs o)=some (.ef cs (o+n))) /\
  (∀ (cs:List AV) (o:Nat),ju none cs o=cs[o]?)/\(∀ n:Nat,0+n=n)/\(∀ n:Nat,n+0=n)/\(∀ {α:Type} (a:α) (l:List α),(a :: l)[0]?=some a)/\(∀ {α:Type} (a:α) (l:List α) (i:Nat),(a :: l)[i+1]?=l[i]?) /\
  (∀ (s:b8) (h:Heap),bX .str (.str s) h=some (.int .i64 (s.length:Int)))/\(∀ {α:Type} {enc:α->List AV} {sz:Nat} (x:Sl α) (h:Heap),bX .slice (ak enc sz x) h=some (.int .i64 (x.l.length:Int))) /\
  (∀ {k:IntKind} (a b:Int),aG .lss (.int k a) (.int k b)=some (.bool (decide (a<b))))/\(∀ {k:IntKind} (a b:Int),aG .leq (.int k a) (.int k b)=some (.bool (decide (a<=b))))/\(∀ {k:IntKind} (a b:Int),aG .gtr (.int k a) (.int k b)=some (.bool (decide (b<a))))/\(∀ {k:IntKind} (a b:Int),aG .geq (.int k a) (.int k b)=some (.bool (decide (b<=a)))) /\
  (∀ {k:IntKind} (d:TypeDesc) (a b:Int),jK d (.int k a) (.int k b)=some (.bool (a==b)))/\(∀ {k:IntKind} (d:TypeDesc) (a b:Int),qF d (.int k a) (.int k b)=some (.bool (!(a==b))))/\(∀ (d:TypeDesc) (a b:b8),jK d (.str a) (.str b)=some (.bool (a==b)))/\(∀ (d:TypeDesc) (a b:b8),qF d (.str a) (.str b)=some (.bool (!(a==b)))) /\
  (∀ a b:Bool,jK .bool (.bool a) (.bool b)=some (.bool (a==b)))/\(∀ a b:Bool,qF .bool (.bool a) (.bool b)=some (.bool (!(a==b))))/\(∀ a:Bool,lU .not (.bool a)=some (.bool (!a))) /\
  (∀ (v:AV) (vs:List AV),bD (.tuple (v :: vs)) 0=some v)/\(∀ (u v:AV) (vs:List AV),bD (.tuple (u :: v :: vs)) 1=some v)/\(∀ (u v w:AV) (vs:List AV),bD (.tuple (u :: v :: w :: vs)) 2=some w)/\(∀ (env:Env) (d:Nat) (v:AV) (t:Nat),aa env d v t=if t=d then v else env t):=
 ⟨an,ji,kY,cF,aL,aK,LJ,Ts,vA,Nat.zero_add,Nat.add_zero,fun _ _=>rfl,fun _ _ _=>rfl,oz,Jo,r7,yU,HF,r8,eq_int,Xl,C9,Xm,Tt,Cp,pH,oL,vC,Ox,bL⟩
end
end Go.AM