/- Parts of the proof. Conditions: none. -/
import Derived.Test.YtfdanacohcffmaaGreatKo9
set_option linter.unusedSimpArgs false
set_option linter.unusedVariables false
namespace Go.AM
open List Nat Bool Option
open Go Go.RowKit
noncomputable section
variable {K:AX->St->Bool} {defs:List oV} {α:Type} {n:Nat}
def dg(o:Option (AV×Heap))(f:AV->Heap->Bool):Bool:=ag o fun p=>f p.1 p.2
def bK(r p:AV->Heap->Bool):Out->Heap->Bool
 |.ret v,h=>r v h
 |.panic v,h=>p v h
def Gs(ok:AV->Heap->Bool)(pn:AV->Heap->Bool):R->Bool
 |.ok v _ h=>ok v h
 |.panic v h=>pn v h
def pz(x:AV)(f:FuncId->List AV->List AV->Bool):Bool:=
 match x with
 |.func g a b=>f g a b
 |_=>false
def aj(fn:Func):Code:=match fn.body with|some c=>c|none=>.skip
def partOf:Code->List Nat->Code
 |c,[]=>c
 |.seq a b,n :: ns=>match n with|0=>partOf a ns|_=>partOf b ns
 |.cond _ a b,n :: ns=>match n with|0=>partOf a ns|_=>partOf b ns
 |.block _ c,_ :: ns=>partOf c ns
 |.loop c,_ :: ns=>partOf c ns
 |c,_=>c
theorem wo{a b:α}(h:a=b):a=b:=by subst h;exact Eq.refl a
@[simp] theorem aq {α:Type} (a:α) (f:α->Bool):ag (some a) f=f a:=wo rfl
@[simp] theorem Vl {α:Type} (f:α->Bool):ag none f=false:=rfl
@[simp] theorem ja (v:AV) (h:Heap) (f:AV->Heap->Bool):dg (some (v,h)) f=f v h:=wo rfl
@[simp] theorem kJ (r p:AV->Heap->Bool) (v:AV) (h:Heap):bK r p (.ret v) h=r v h:=wo rfl
@[simp] theorem Vm (r p:AV->Heap->Bool) (v:AV) (h:Heap):bK r p (.panic v) h=p v h:=wo rfl
@[simp] theorem fA (g:FuncId) (a b:List AV) (f:FuncId->List AV->List AV->Bool):pz (.func g a b) f=f g a b:=wo rfl
theorem aL(a b:α):cond true a b=a:=wo rfl
theorem aK(a b:α):cond false a b=b:=wo rfl
@[simp] theorem cE (t a b:Bool):aA (.bool t) a b=bif t then a else b:=by cases t<;>rfl
@[congr] theorem XH {α:Type} {o o':Option α} {f:α->Bool} (h:o=o'):ag o f=ag o' f:=by rw [h]
@[congr] theorem WQ {o o':Option (AV×Heap)} {f:AV->Heap->Bool} (h:o=o'):dg o f=dg o' f:=by rw [h]
@[congr] theorem XI {x x':AV} {a b:Bool} (h:x=x'):aA x a b=aA x' a b:=by rw [h]
@[congr] theorem abO {α:Type} {c c':Bool} {a b:α} (h:c=c'):cond c a b=cond c' a b:=by rw [h]
@[congr] theorem Vn {P:Program} {f:FuncId} {args vI:List AV} {h h':Heap} {K:Out->Heap->Bool} (e1:args=vI) (e2:h=h'):aC P f args h K=aC P f vI h' K:=by rw [e1,e2]
theorem k7{f:St->(AX->St->Bool)->Bool}{e0:Env}{h0:Heap}(I:Nat->Env->Heap->Prop)(m:Nat)(hI:I m e0 h0)
  (step:∀ m e h,I m e h->f ⟨e,n,defs,h⟩ (E9 (fun m s=>s.n=n/\s.defs=defs/\I m s.env s.h) m K)=true):bV f ⟨e0,n,defs,h0⟩ K=true:=by
 refine cw.2 ⟨fun m s=>s.n=n/\s.defs=defs/\I m s.env s.h,⟨m,rfl,rfl,hI⟩,fun m s hs=>?_⟩;obtain ⟨e,n',d,h⟩:=s;obtain ⟨h1,h2,h3⟩:=hs;simp only at h1 h2 h3;subst h1;subst h2;exact step m e h h3
theorem qT{I:Nat->Env->Heap->Prop}{m:Nat}{e:Env}{h:Heap}(m':Nat)(hm:m'<m)(hI:I m' e h) :
  E9 (fun m s=>s.n=n/\s.defs=defs/\I m s.env s.h) m K .normal ⟨e,n,defs,h⟩=true:=cw.2 ⟨m',hm,rfl,rfl,hI⟩
@[simp] theorem oB (I:Nat->St->Prop) (m:Nat) (K:AX->St->Bool) (id:Nat) (s:St):E9 I m K (.exit id) s=K (.exit id) s:=rfl
@[simp] theorem WR (I:Nat->St->Prop) (m:Nat) (K:AX->St->Bool) (s:St):E9 I m K .ret s=K .ret s:=rfl
@[simp] theorem Um (I:Nat->St->Prop) (m:Nat) (K:AX->St->Bool) (v:AV) (s:St):E9 I m K (.panic v) s=K (.panic v) s:=rfl
theorem aE{f:St->(AX->St->Bool)->Bool}{e0:Env}{h0:Heap}(a N:Nat)(ha:a<=N)(J:Nat->Env->Heap->Prop)(hJ:J a e0 h0)
  (step:∀ i e h,a<=i->i<N->J i e h->∀ K':AX->St->Bool,(∀ e' h',J (i+1) e' h'->K' .normal ⟨e',n,defs,h'⟩=true)->(∀ id s,K' (.exit id) s=K (.exit id) s)->(∀ s,K' .ret s=K .ret s)->(∀ v s,K' (.panic v) s=K (.panic v) s)->f ⟨e,n,defs,h⟩ K'=true)
  (done:∀ e h,J N e h->∀ K':AX->St->Bool,(∀ id s,K' (.exit id) s=K (.exit id) s)->f ⟨e,n,defs,h⟩ K'=true):bV f ⟨e0,n,defs,h0⟩ K=true:=by
 refine k7 (fun m e h=>∃ i,a<=i/\i<=N/\m=N-i/\J i e h) (N-a) ⟨a,dN _,ha,rfl,hJ⟩ fun m e h hi=>?_;obtain ⟨i,hai,hi,rfl,hj⟩:=hi;by_cases hlt:i<N
 ·exact step i e h hai hlt hj _ (fun e' h' Gl=>qT (I:=fun m e h=>∃ i,a<=i/\i<=N/\m=N-i/\J i e h) (N-(i+1)) (by omega) ⟨i+1,by omega,by omega,rfl,Gl⟩) (fun _ _=>rfl) (fun _=>rfl) (fun _ _=>rfl)
 ·obtain rfl:i=N:=by omega
  exact done e h hj _ (fun _ _=>rfl)
end
end Go.AM
namespace Go.AM
open List Nat Bool Option
open Go Go.RowKit
noncomputable section
variable {k:IntKind} {h:Heap} {α:Type} {sz i n b:Nat} {es:List Entry} {cs:List AV} {a:Int} {r:AV}
abbrev cc:=List UInt8
abbrev Sl(α:Type):=Option (List α)
def Sl.l{α:Type}(x:Sl α):List α:=x.getD []
@[simp] theorem Sl.Vo {α:Type}:Sl.l (none:Sl α) = []:=rfl
@[simp] theorem Sl.Kn {α:Type} (l:List α):Sl.l (some l)=l:=rfl
def an{α:Type}(enc:α->List AV)(sz:Nat):Sl α->AV
 |none=>.ay
 |some l=>.ax (l.flatMap enc) 0 l.length sz
def encI(n:Int):List AV:=[.int .i64 n]
def encS(s:cc):List AV:=[.str s]
def XJ(b:Bool):List AV:=[.bool b]
theorem fV{enc:α->List AV}(he:∀ a,(enc a).length=sz)(l:List α):(l.flatMap enc).length=l.length*sz:=by
 induction l with
 |nil=>simp
 |cons a l ih=>rw [flatMap_cons,length_append,ih,he,length_cons,Nat.add_mul];omega
theorem pE{α:Type}{enc:α->List AV}{sz:Nat}(he:∀ a,(enc a).length=sz):∀ (l:List α) (i k:Nat) (a:α),l[i]?=some a->k<sz->(l.flatMap enc)[i*sz+k]?=(enc a)[k]?
 |[],i,k,a,h,_=>by simp at h
 |b :: l,0,k,a,h,hk=>by
  simp at h;subst h;rw [flatMap_cons,Nat.zero_mul,Nat.zero_add,getElem?_append_left (by rw [he];exact hk)]
 |b :: l,i+1,k,a,h,hk=>by
  rw [flatMap_cons,getElem?_append_right (by rw [he,Nat.add_mul];omega),he,<- pE he l i k a (by simpa using h) hk];congr 1;rw [Nat.add_mul];omega
theorem nC{α:Type}{enc:α->List AV}{sz:Nat}(he:∀ a,(enc a).length=sz):∀ (l:List α) (i:Nat) (a:α),l[i]?=some a->((l.flatMap enc).drop (i*sz)).take sz=enc a
 |[],i,a,h=>by simp at h
 |b :: l,0,a,h=>by
  simp at h;subst h;rw [flatMap_cons,Nat.zero_mul,drop_zero,take_append_of_le_length (by rw [he];exact dN _),jW (by rw [he];exact dN _)]
 |b :: l,i+1,a,h=>by
  have hd:List.drop sz (enc b) = []:=drop_of_length_le (by rw [he];exact dN _);rw [flatMap_cons,Nat.add_mul,Nat.one_mul,Nat.add_comm,<- drop_drop,drop_append_of_le_length (by rw [he];exact dN _),hd,nil_append];exact nC he l i a (by simpa using h)
theorem H9{enc:α->List AV}(x:Sl α)(h:Heap):bX .slice (an enc sz x) h=some (.int .i64 (x.l.length:Int)):=by
 cases x<;>rfl
theorem aV{enc:α->List AV}(x:Sl α)(hi:i<x.l.length):dM sz (an enc sz x) (.int k (i:Int))=some (.dQ (x.l.flatMap enc) (i*sz)):=by
 cases x with
 |none=>simp at hi
 |some l=>
  have uU:i<l.length:=hi;simp [dM,an,asNat,uU]
theorem fH{enc:α->List AV}(he:∀ a,(enc a).length=sz){l:List α}{a:α}(ha:l[i]?=some a){k:Nat}(hk:k<sz) :
  ah none (.dQ (l.flatMap enc) (i*sz+k)) h=(enc a)[k]?:=pE he l i k a ha hk
theorem wq{enc:α->List AV}(he:∀ a,(enc a).length=1){l:List α}{a:α}(ha:l[i]?=some a) :
  ah none (.dQ (l.flatMap enc) (i*1)) h=(enc a)[0]?:=pE he l i 0 a ha (by omega)
theorem dx{enc:α->List AV}(he:∀ a,(enc a).length=sz){l:List α}{a:α}(ha:l[i]?=some a) :
  ah (some sz) (.dQ (l.flatMap enc) (i*sz)) h=some (.agg (enc a)):=by
 have hi:i<l.length:=(ki.1 ha).1
 have hle:i*sz+sz<=(l.flatMap enc).length:=by
  rw [fV he];have:(i+1)*sz<=l.length*sz:=mul_le_mul_right _ hi;rw [Nat.add_mul] at this;omega
 show ji (some sz) _ _=_;simp only [ji];rw [if_pos hle,nC he l i a ha]
theorem RC(n:Nat)(cs:List AV)(o:Nat):bT n (.dQ cs o)=some (.dQ cs (o+n)):=rfl
theorem O0(n b o:Nat):bT n (.ptr b o)=some (.ptr b (o+n)):=rfl
theorem ak{r:Option Nat}{o:Nat}(hb:h.get b=some (.cells cs)):ah r (.ptr b o) h=ji r cs o:=by simp [ah,hb]
theorem ur(cs:List AV)(o:Nat):ji none cs o=cs[o]?:=rfl
theorem aB(h:Heap)(o:jX):(Heap.alloc h o).get h.next=some o:=by rw [Heap.aW,if_pos rfl]
theorem bU:Heap.next Heap.empty=0:=rfl
def pU(r:AV):Out->Heap->Bool:=fun o h=>yes (∃ v,o = .ret v/\Fz true h v r)
theorem O1{v:AV}(hf:Fz true h v r):pU r (.ret v) h=true:=cw.2 ⟨v,rfl,hf⟩
theorem gw(hp:r.pure=true):pU r (.ret r) h=true:=O1 (.dR hp)
theorem Sem.data{P:Program}{f:FuncId}{args:List AV}(hs:Sem P f args Heap.empty (pU r))(hp:AV.cO args=true){K:Out->Heap->Bool}(hK:K (.ret r) h=true):Sem P f args h K:=
 hs.frozen hp fun o h' ho=>by
  obtain ⟨v,rfl,hf⟩:=cw.1 ho;exact ⟨v,r,rfl,hf,hK⟩
theorem D6{enc:α->List AV}(he:∀ a,AV.cO (enc a)=true)(l:List α):AV.cO (l.flatMap enc)=true:=by
 induction l with
 |nil=>rfl
 |cons a l ih=>rw [flatMap_cons];exact AV.Gq (he a) ih
theorem cp{enc:α->List AV}(he:∀ a,AV.cO (enc a)=true)(x:Sl α):(an enc sz x).pure=true:=by
 cases x with
 |none=>rfl
 |some l=>exact D6 he l
theorem j6(n:Int):AV.cO (encI n)=true:=rfl
theorem j8(s:cc):AV.cO (encS s)=true:=rfl
theorem mX(n:Int):(encI n).length=1:=rfl
theorem iC(s:cc):(encS s).length=1:=rfl
theorem je{b:Int}(h1:-9223372036854775808<=a+b)(h2:a+b<=9223372036854775807):aI .add (.int .i64 a) (.int .i64 b)=some (.int .i64 (a+b)):=by
 simp only [aI,if_true];rw [IntWalk.i64_in _ (by omega)]
theorem uu{b:Int}(h1:-9223372036854775808<=a-b)(h2:a-b<=9223372036854775807):aI .sub (.int .i64 a) (.int .i64 b)=some (.int .i64 (a-b)):=by
 simp only [aI,if_true];rw [IntWalk.i64_in _ (by omega)]
theorem uv{b:Int}(h1:-9223372036854775808<=a*b)(h2:a*b<=9223372036854775807):aI .mul (.int .i64 a) (.int .i64 b)=some (.int .i64 (a*b)):=by
 simp only [aI,if_true];rw [IntWalk.i64_in _ ⟨h1,h2⟩]
theorem qW(a b:Int):aI .lss (.int k a) (.int k b)=some (.bool (decide (a<b))):=by simp [aI]
theorem xR(a b:Int):aI .leq (.int k a) (.int k b)=some (.bool (decide (a<=b))):=by simp [aI]
theorem Gt(a b:Int):aI .gtr (.int k a) (.int k b)=some (.bool (decide (b<a))):=by simp [aI]
theorem qX(a b:Int):aI .geq (.int k a) (.int k b)=some (.bool (decide (b<=a))):=by simp [aI]
theorem eq_int(d:TypeDesc)(a b:Int):jC d (.int k a) (.int k b)=some (.bool (a==b)):=by simp [jC,QI]
theorem Vp(d:TypeDesc)(a b:Int):pM d (.int k a) (.int k b)=some (.bool (!(a==b))):=by simp [pM,QI]
theorem Ci(d:TypeDesc)(a b:cc):jC d (.str a) (.str b)=some (.bool (a==b)):=by simp [jC,QI]
theorem Vq(d:TypeDesc)(a b:cc):pM d (.str a) (.str b)=some (.bool (!(a==b))):=by simp [pM,QI]
theorem RE(a b:Bool):jC .bool (.bool a) (.bool b)=some (.bool (a==b)):=by simp [jC,QI]
theorem Bw(a b:Bool):pM .bool (.bool a) (.bool b)=some (.bool (!(a==b))):=by simp [pM,QI]
theorem oC(a:Bool):kX .not (.bool a)=some (.bool (!a)):=rfl
theorem nD(s:cc)(h:Heap):bX .str (.str s) h=some (.int .i64 (s.length:Int)):=rfl
theorem Bx{s:cc}{b:UInt8}(hb:s[i]?=some b):kT (.str s) (.int k (i:Int))=some (.int .u8 (b.toNat:Int)):=by
 simp [kT,asNat,hb]
theorem nL(v:AV)(vs:List AV):bI (.tuple (v :: vs)) 0=some v:=rfl
theorem uw(u v:AV)(vs:List AV):bI (.tuple (u :: v :: vs)) 1=some v:=rfl
theorem MY(u v w:AV)(vs:List AV):bI (.tuple (u :: v :: w :: vs)) 2=some w:=rfl
theorem c8(h:bw cs=true):eY (.agg cs)=some cs:=by simp [eY,AV.dB,h]
theorem pF{x:AV}(h:x.one=true):eY x=some [x]:=by
 cases x<;>simp_all [eY,AV.dB,bw,AV.one]
theorem fT{enc:α->List AV}(x:Sl α):(an enc sz x).one=true:=by cases x<;>rfl
theorem cB{o:Nat}{v:AV}(hb:h.get b=some (.cells cs))(hn:v.dB.length=n)(hv:bw v.dB=true)(hle:o+n<=cs.length):aZ n (.ptr b o) v h=some (h.set b (.cells (eo cs o v.dB))):=by
 simp [aZ,hb,hn,hv,hle]
theorem cP{b:Int}:(a==b)=decide (a=b):=by
 by_cases h:a=b<;>simp [h]
def cM:Nat:=4611686018427387904
theorem RF(a b:Int):aI .add (.int k a) (.int k b)=some (.int k (k.wrap (a+b))):=by simp [aI]
theorem aJ(h:i<n)(hn:n<=cM):aI .add (.int .i64 (i:Int)) (.int .i64 1)=some (.int .i64 ((i+1:Nat):Int)):=by
 unfold cM at hn;rw [je (by omega) (by omega)];rfl
theorem bp(h:i<n):decide ((i:Int)<(n:Int))=true:=by simp;omega
theorem aX:decide ((n:Int)<(n:Int))=false:=by simp
structure bC (h h':Heap):Prop where
 next:h.next<=h'.next
 get:∀ b,b<h.next->h'.get b=h.get b
theorem bC.refl(h:Heap):bC h h:=⟨dN _,fun _ _=>rfl⟩
theorem bC.trans{a b c:Heap}(x:bC a b)(y:bC b c):bC a c:=⟨Nat.le_trans x.next y.next,fun i hi=>by rw [y.get i (Nat.lt_of_lt_of_le hi x.next),x.get i hi]⟩
theorem bC.alloc(h:Heap)(o:jX):bC h (h.alloc o):=⟨le_succ _,fun b hb=>by rw [Heap.aW,if_neg (by omega)]⟩
theorem bC.set{h h':Heap}(x:bC h h'){b:Nat}(hb:h.next<=b)(o:jX):bC h (h'.set b o):=⟨x.next,fun c hc=>by rw [Heap.aN,if_neg (by omega)];exact x.get c hc⟩
theorem cF{zs:List AV}(hz:zs.length=n)(hc:cs.length=n)(ho:bw cs=true) :
  ∃ h',aZ n (.ptr h.next 0) (.agg cs) (Heap.alloc h (.cells zs))=some h'/\h'.get h.next=some (.cells cs)/\(∀ b,b≠h.next->h'.get b=h.get b)/\h'.next=h.next+1:=by
 have MZ:∀ (cs zs pre:List AV),zs.length=cs.length->eo (pre++zs) pre.length cs=pre++cs:=by
  intro cs
  induction cs with
  |nil=>intro zs pre hl;have:zs = []:=eq_nil_of_length_eq_zero (by simpa using hl);simp [eo,this]
  |cons c cs ih=>
   intro zs pre hl
   cases zs with
   |nil=>simp at hl
   |cons z zs=>
    simp only [eo];rw [set_append_right _ _ (dN _)];simp only [Nat.sub_self,set_cons_zero];have:=ih zs (pre++[c]) (by simpa using hl);simpa using this
 refine ⟨(Heap.alloc h (.cells zs)).set h.next (.cells cs),?_,?_,fun b hb=>?_,rfl⟩
 ·rw [cB (aB h _) (by simpa [AV.dB] using hc) (by simpa [AV.dB] using ho) (by simp [AV.dB];omega)];have:=MZ cs zs [] (by omega);simp only [nil_append,length_nil] at this;simp [AV.dB,this]
 ·rw [Heap.aN,if_pos rfl]
 ·rw [Heap.aN,if_neg hb,Heap.aW,if_neg hb]
abbrev eE:=List (cc×Int)
def eE.find(m:eE)(k:cc):Option Int:=(List.find? (fun p=>k==p.1) m).map (·.2)
def eE.qY:eE->cc->Int->eE
 |[],k,v=>[(k,v)]
 |p :: m,k,v=>if k==p.1 then (p.1,v) :: m else p :: eE.qY m k v
def j9:List Entry->eE->Prop
 |[],[]=>True
 |e :: es,p :: m=>e.1 = .str p.1/\e.2.1 = .int .i64 p.2/\j9 es m
 |_,_=>False
theorem j9.jD{k:cc}:∀ {es:List Entry} {m:eE} (i:Nat),j9 es m->∃ r,jD .string (.str k) es i=some r/\match r with
  |none=>m.find k=none
  |some (j,v)=>∃ n q,j=i+n/\m.find k=some q/\v = .int .i64 q/\j9 (eZ es n v) m/\∀ w,j9 (eZ es n (.int .i64 w)) (m.qY k w)
 |[],[],i,_=>⟨none,rfl,rfl⟩
 |e :: es,p :: m,i,⟨h1,h2,h3⟩=>by
  obtain ⟨ek,ev,en⟩:=e;simp only at h1 h2;subst h1;subst h2;by_cases hk:k=p.1
  ·subst hk;refine ⟨some (i,.int .i64 p.2),by simp [Go.AM.jD,vA],0,p.2,rfl,by simp [eE.find],rfl,?_,fun w=>?_⟩
   ·simp [eZ,j9,h3]
   ·simp [eZ,j9,eE.qY,h3]
  ·obtain ⟨r,hr,hm⟩:=j9.jD (k:=k) (i+1) h3;have Vr:(k==p.1)=false:=by simpa using hk
   refine ⟨r,by simp only [Go.AM.jD,vA,Vr,hr],?_⟩
   cases r with
   |none=>simpa [eE.find,hk] using hm
   |some jv=>
    obtain ⟨n,q,a,b,c,d,e⟩:=hm;refine ⟨n+1,q,by omega,by simpa [eE.find,hk] using b,c,?_,fun w=>?_⟩
    ·have:=d;simp only [eZ,getElem?_cons_succ] at this ⊢;split at this<;>simp_all [j9]
    ·have:=e w;simp only [eZ,getElem?_cons_succ,eE.qY,Vr] at this ⊢;split at this<;>simp_all [j9]
theorem j9.append{m:eE}(h:j9 es m){k:cc}(hk:m.find k=none)(v:Int)(n:Nat):j9 (es++[(.str k,.int .i64 v,n)]) (m.qY k v):=by
 induction es generalizing m with
 |nil=>cases m with
  |nil=>simp [j9,eE.qY]
  |cons p m=>exact h.elim
 |cons e es ih=>cases m with
  |nil=>exact h.elim
  |cons p m=>
   obtain ⟨h1,h2,h3⟩:=h;have hne:k≠p.1:=fun e=>by subst e;simp [eE.find] at hk
   have XK:eE.find m k=none:=by simpa [eE.find,hne] using hk
   have:=ih h3 XK;simp only [cons_append,eE.qY];rw [if_neg (by simpa using hne)];exact ⟨h1,h2,this⟩
theorem qZ{ck:Nat}{m:eE}(hb:h.get b=some (.map es ck))(hm:j9 es m)(k:cc) :
  dV .string (.int .i64 0) true (.map b) (.str k) h=some (.tuple [.int .i64 ((m.find k).getD 0),.bool (m.find k).isSome]):=by
 obtain ⟨r,hr,uy⟩:=j9.jD (k:=k) 0 hm;simp only [dV,lN,hb,qb,p9,if_true,hr]
 cases r with
 |none=>simp at uy;simp [uy]
 |some jv=>
  obtain ⟨n,q,_,b,c,_⟩:=uy;obtain ⟨j,v⟩:=jv;simp only at c;subst c;simp [b]
theorem Cj{ck:Nat}{m:eE}(hb:h.get b=some (.map es ck))(hm:j9 es m)(k:cc)(v:Int) :
  ∃ xA Gu,eS .string (.map b) (.str k) (.int .i64 v) h=some (h.set b (.map xA Gu))/\j9 xA (m.qY k v):=by
 obtain ⟨r,hr,uy⟩:=j9.jD (k:=k) 0 hm;simp only [eS,hb,qb,p9,if_true,hr]
 cases r with
 |none=>simp at uy;exact ⟨_,_,rfl,hm.append uy v ck⟩
 |some jv=>
  obtain ⟨n,q,hj,_,_,_,e⟩:=uy;obtain ⟨j,w⟩:=jv;simp only [Nat.zero_add] at hj;subst hj;exact ⟨_,_,rfl,e v⟩
theorem aS:(∀ {α:Type} (a:α) (f:α->Bool),ag (some a) f=f a)/\(∀ (v:AV) (h:Heap) (f:AV->Heap->Bool),dg (some (v,h)) f=f v h)/\(∀ (r p:AV->Heap->Bool) (v:AV) (h:Heap),bK r p (.ret v) h=r v h) /\
  (∀ t a b:Bool,aA (.bool t) a b=bif t then a else b)/\(∀ {α:Type} (a b:α),cond true a b=a)/\(∀ {α:Type} (a b:α),cond false a b=b)/\(∀ n b o:Nat,bT n (.ptr b o)=some (.ptr b (o+n)))/\(∀ (n:Nat) (cs:List AV) (o:Nat),bT n (.dQ cs o)=some (.dQ cs (o+n))) /\
  (∀ (cs:List AV) (o:Nat),ji none cs o=cs[o]?)/\(∀ n:Nat,0+n=n)/\(∀ n:Nat,n+0=n)/\(∀ {α:Type} (a:α) (l:List α),(a :: l)[0]?=some a)/\(∀ {α:Type} (a:α) (l:List α) (i:Nat),(a :: l)[i+1]?=l[i]?) /\
  (∀ (s:cc) (h:Heap),bX .str (.str s) h=some (.int .i64 (s.length:Int)))/\(∀ {α:Type} {enc:α->List AV} {sz:Nat} (x:Sl α) (h:Heap),bX .slice (an enc sz x) h=some (.int .i64 (x.l.length:Int))) /\
  (∀ {k:IntKind} (a b:Int),aI .lss (.int k a) (.int k b)=some (.bool (decide (a<b))))/\(∀ {k:IntKind} (a b:Int),aI .leq (.int k a) (.int k b)=some (.bool (decide (a<=b))))/\(∀ {k:IntKind} (a b:Int),aI .gtr (.int k a) (.int k b)=some (.bool (decide (b<a))))/\(∀ {k:IntKind} (a b:Int),aI .geq (.int k a) (.int k b)=some (.bool (decide (b<=a)))) /\
  (∀ {k:IntKind} (d:TypeDesc) (a b:Int),jC d (.int k a) (.int k b)=some (.bool (a==b)))/\(∀ {k:IntKind} (d:TypeDesc) (a b:Int),pM d (.int k a) (.int k b)=some (.bool (!(a==b))))/\(∀ (d:TypeDesc) (a b:cc),jC d (.str a) (.str b)=some (.bool (a==b)))/\(∀ (d:TypeDesc) (a b:cc),pM d (.str a) (.str b)=some (.bool (!(a==b)))) /\
  (∀ a b:Bool,jC .bool (.bool a) (.bool b)=some (.bool (a==b)))/\(∀ a b:Bool,pM .bool (.bool a) (.bool b)=some (.bool (!(a==b))))/\(∀ a:Bool,kX .not (.bool a)=some (.bool (!a))) /\
  (∀ (v:AV) (vs:List AV),bI (.tuple (v :: vs)) 0=some v)/\(∀ (u v:AV) (vs:List AV),bI (.tuple (u :: v :: vs)) 1=some v)/\(∀ (u v w:AV) (vs:List AV),bI (.tuple (u :: v :: w :: vs)) 2=some w)/\(∀ (env:Env) (d:Nat) (v:AV) (t:Nat),af env d v t=if t=d then v else env t):=
 ⟨aq,ja,kJ,cE,aL,aK,O0,RC,ur,Nat.zero_add,Nat.add_zero,fun _ _=>rfl,fun _ _ _=>rfl,nD,H9,qW,xR,Gt,qX,eq_int,Vp,Ci,Vq,RE,Bw,oC,nL,uw,MY,bP⟩
end
end Go.AM