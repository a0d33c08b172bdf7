/- Parts of the proof. Conditions: none. -/
import Derived.Test.YtfdanacohcffmaaGreatKf9
set_option linter.unusedSimpArgs false
set_option linter.unusedVariables false
namespace Go.AM
open List Nat Bool Option
open Go Go.RowKit
noncomputable section
variable {K:AX->St->Bool} {defs:List pJ} {α:Type} {n:Nat}
def cY(o:Option (AV×Heap))(f:AV->Heap->Bool):Bool:=af o fun p=>f p.1 p.2
def bJ(r p:AV->Heap->Bool):Out->Heap->Bool
 |.ret v,h=>r v h
 |.panic v,h=>p v h
def G2(ok:AV->Heap->Bool)(pn:AV->Heap->Bool):R->Bool
 |.ok v _ h=>ok v h
 |.panic v h=>pn v h
def pO(x:AV)(f:FuncId->List AV->List AV->Bool):Bool:=
 match x with
 |.func g a b=>f g a b
 |_=>false
def ai(fn:Func):Code:=match fn.body with|some c=>c|none=>.skip
def partOf:Code->List Nat->Code
 |c,[]=>c
 |.seq a b,n :: ns=>match n with|0=>partOf a ns|_=>partOf b ns
 |.cond _ a b,n :: ns=>match n with|0=>partOf a ns|_=>partOf b ns
 |.block _ c,_ :: ns=>partOf c ns
 |.loop c,_ :: ns=>partOf c ns
 |c,_=>c
theorem wO{a b:α}(h:a=b):a=b:=by subst h;exact Eq.refl a
@[simp] theorem aq {α:Type} (a:α) (f:α->Bool):af (some a) f=f a:=wO rfl
@[simp] theorem V9 {α:Type} (f:α->Bool):af none f=false:=rfl
@[simp] theorem je (v:AV) (h:Heap) (f:AV->Heap->Bool):cY (some (v,h)) f=f v h:=wO rfl
@[simp] theorem kS (r p:AV->Heap->Bool) (v:AV) (h:Heap):bJ r p (.ret v) h=r v h:=wO rfl
@[simp] theorem Wa (r p:AV->Heap->Bool) (v:AV) (h:Heap):bJ r p (.panic v) h=p v h:=wO rfl
@[simp] theorem fF (g:FuncId) (a b:List AV) (f:FuncId->List AV->List AV->Bool):pO (.func g a b) f=f g a b:=wO rfl
theorem aL(a b:α):cond true a b=a:=wO rfl
theorem aJ(a b:α):cond false a b=b:=wO rfl
@[simp] theorem cC (t a b:Bool):az (.bool t) a b=bif t then a else b:=by cases t<;>rfl
@[congr] theorem YH {α:Type} {o o':Option α} {f:α->Bool} (h:o=o'):af o f=af o' f:=by rw [h]
@[congr] theorem XP {o o':Option (AV×Heap)} {f:AV->Heap->Bool} (h:o=o'):cY o f=cY o' f:=by rw [h]
@[congr] theorem YI {x x':AV} {a b:Bool} (h:x=x'):az x a b=az x' a b:=by rw [h]
@[congr] theorem acW {α:Type} {c c':Bool} {a b:α} (h:c=c'):cond c a b=cond c' a b:=by rw [h]
@[congr] theorem Wb {P:Program} {f:FuncId} {args v8:List AV} {h h':Heap} {K:Out->Heap->Bool} (e1:args=v8) (e2:h=h'):aB P f args h K=aB P f v8 h' K:=by rw [e1,e2]
theorem lp{f:St->(AX->St->Bool)->Bool}{e0:Env}{h0:Heap}(I:Nat->Env->Heap->Prop)(m:Nat)(hI:I m e0 h0)
  (step:∀ m e h,I m e h->f ⟨e,n,defs,h⟩ (FK (fun m s=>s.n=n/\s.defs=defs/\I m s.env s.h) m K)=true):bY f ⟨e0,n,defs,h0⟩ K=true:=by
 refine cw.2 ⟨fun m s=>s.n=n/\s.defs=defs/\I m s.env s.h,⟨m,rfl,rfl,hI⟩,fun m s hs=>?_⟩;obtain ⟨e,n',d,h⟩:=s;obtain ⟨h1,h2,h3⟩:=hs;simp only at h1 h2 h3;subst h1;subst h2;exact step m e h h3
theorem rA{I:Nat->Env->Heap->Prop}{m:Nat}{e:Env}{h:Heap}(m':Nat)(hm:m'<m)(hI:I m' e h) :
  FK (fun m s=>s.n=n/\s.defs=defs/\I m s.env s.h) m K .normal ⟨e,n,defs,h⟩=true:=cw.2 ⟨m',hm,rfl,rfl,hI⟩
@[simp] theorem oM (I:Nat->St->Prop) (m:Nat) (K:AX->St->Bool) (id:Nat) (s:St):FK I m K (.exit id) s=K (.exit id) s:=rfl
@[simp] theorem XQ (I:Nat->St->Prop) (m:Nat) (K:AX->St->Bool) (s:St):FK I m K .ret s=K .ret s:=rfl
@[simp] theorem U7 (I:Nat->St->Prop) (m:Nat) (K:AX->St->Bool) (v:AV) (s:St):FK I m K (.panic v) s=K (.panic v) s:=rfl
theorem aE{f:St->(AX->St->Bool)->Bool}{e0:Env}{h0:Heap}(a N:Nat)(ha:a<=N)(J:Nat->Env->Heap->Prop)(hJ:J a e0 h0)
  (step:∀ i e h,a<=i->i<N->J i e h->∀ K':AX->St->Bool,(∀ e' h',J (i+1) e' h'->K' .normal ⟨e',n,defs,h'⟩=true)->(∀ id s,K' (.exit id) s=K (.exit id) s)->(∀ s,K' .ret s=K .ret s)->(∀ v s,K' (.panic v) s=K (.panic v) s)->f ⟨e,n,defs,h⟩ K'=true)
  (done:∀ e h,J N e h->∀ K':AX->St->Bool,(∀ id s,K' (.exit id) s=K (.exit id) s)->f ⟨e,n,defs,h⟩ K'=true):bY f ⟨e0,n,defs,h0⟩ K=true:=by
 refine lp (fun m e h=>∃ i,a<=i/\i<=N/\m=N-i/\J i e h) (N-a) ⟨a,dL _,ha,rfl,hJ⟩ fun m e h hi=>?_;obtain ⟨i,hai,hi,rfl,hj⟩:=hi;by_cases hlt:i<N
 ·exact step i e h hai hlt hj _ (fun e' h' GW=>rA (I:=fun m e h=>∃ i,a<=i/\i<=N/\m=N-i/\J i e h) (N-(i+1)) (by omega) ⟨i+1,by omega,by omega,rfl,GW⟩) (fun _ _=>rfl) (fun _=>rfl) (fun _ _=>rfl)
 ·obtain rfl:i=N:=by omega
  exact done e h hj _ (fun _ _=>rfl)
end
end Go.AM
namespace Go.AM
open List Nat Bool Option
open Go Go.RowKit
noncomputable section
variable {k:IntKind} {h:Heap} {α:Type} {sz i n b:Nat} {es:List Entry} {cs:List AV} {a:Int} {r:AV}
abbrev b6:=List UInt8
abbrev Sl(α:Type):=Option (List α)
def Sl.l{α:Type}(x:Sl α):List α:=x.getD []
@[simp] theorem Sl.Wc {α:Type}:Sl.l (none:Sl α) = []:=rfl
@[simp] theorem Sl.KS {α:Type} (l:List α):Sl.l (some l)=l:=rfl
def an{α:Type}(enc:α->List AV)(sz:Nat):Sl α->AV
 |none=>.ax
 |some l=>.au (l.flatMap enc) 0 l.length sz
def encI(n:Int):List AV:=[.int .i64 n]
def encS(s:b6):List AV:=[.str s]
def YJ(b:Bool):List AV:=[.bool b]
theorem fX{enc:α->List AV}(he:∀ a,(enc a).length=sz)(l:List α):(l.flatMap enc).length=l.length*sz:=by
 induction l with
 |nil=>simp
 |cons a l ih=>rw [flatMap_cons,length_append,ih,he,length_cons,Nat.add_mul];omega
theorem pQ{α:Type}{enc:α->List AV}{sz:Nat}(he:∀ a,(enc a).length=sz):∀ (l:List α) (i k:Nat) (a:α),l[i]?=some a->k<sz->(l.flatMap enc)[i*sz+k]?=(enc a)[k]?
 |[],i,k,a,h,_=>by simp at h
 |b :: l,0,k,a,h,hk=>by
  simp at h;subst h;rw [flatMap_cons,Nat.zero_mul,Nat.zero_add,getElem?_append_left (by rw [he];exact hk)]
 |b :: l,i+1,k,a,h,hk=>by
  rw [flatMap_cons,getElem?_append_right (by rw [he,Nat.add_mul];omega),he,<- pQ he l i k a (by simpa using h) hk];congr 1;rw [Nat.add_mul];omega
theorem nL{α:Type}{enc:α->List AV}{sz:Nat}(he:∀ a,(enc a).length=sz):∀ (l:List α) (i:Nat) (a:α),l[i]?=some a->((l.flatMap enc).drop (i*sz)).take sz=enc a
 |[],i,a,h=>by simp at h
 |b :: l,0,a,h=>by
  simp at h;subst h;rw [flatMap_cons,Nat.zero_mul,drop_zero,take_append_of_le_length (by rw [he];exact dL _),kC (by rw [he];exact dL _)]
 |b :: l,i+1,a,h=>by
  have hd:List.drop sz (enc b) = []:=drop_of_length_le (by rw [he];exact dL _);rw [flatMap_cons,Nat.add_mul,Nat.one_mul,Nat.add_comm,<- drop_drop,drop_append_of_le_length (by rw [he];exact dL _),hd,nil_append];exact nL he l i a (by simpa using h)
theorem II{enc:α->List AV}(x:Sl α)(h:Heap):bW .slice (an enc sz x) h=some (.int .i64 (x.l.length:Int)):=by
 cases x<;>rfl
theorem aW{enc:α->List AV}(x:Sl α)(hi:i<x.l.length):dH sz (an enc sz x) (.int k (i:Int))=some (.dN (x.l.flatMap enc) (i*sz)):=by
 cases x with
 |none=>simp at hi
 |some l=>
  have vr:i<l.length:=hi;simp [dH,an,asNat,vr]
theorem fL{enc:α->List AV}(he:∀ a,(enc a).length=sz){l:List α}{a:α}(ha:l[i]?=some a){k:Nat}(hk:k<sz) :
  ag none (.dN (l.flatMap enc) (i*sz+k)) h=(enc a)[k]?:=pQ he l i k a ha hk
theorem wP{enc:α->List AV}(he:∀ a,(enc a).length=1){l:List α}{a:α}(ha:l[i]?=some a) :
  ag none (.dN (l.flatMap enc) (i*1)) h=(enc a)[0]?:=pQ he l i 0 a ha (by omega)
theorem dm{enc:α->List AV}(he:∀ a,(enc a).length=sz){l:List α}{a:α}(ha:l[i]?=some a) :
  ag (some sz) (.dN (l.flatMap enc) (i*sz)) h=some (.agg (enc a)):=by
 have hi:i<l.length:=(jJ.1 ha).1
 have hle:i*sz+sz<=(l.flatMap enc).length:=by
  rw [fX he];have:(i+1)*sz<=l.length*sz:=mul_le_mul_right _ hi;rw [Nat.add_mul] at this;omega
 show jl (some sz) _ _=_;simp only [jl];rw [if_pos hle,nL he l i a ha]
theorem Sn(n:Nat)(cs:List AV)(o:Nat):bT n (.dN cs o)=some (.dN cs (o+n)):=rfl
theorem PE(n b o:Nat):bT n (.ptr b o)=some (.ptr b (o+n)):=rfl
theorem aj{r:Option Nat}{o:Nat}(hb:h.get b=some (.cells cs)):ag r (.ptr b o) h=jl r cs o:=by simp [ag,hb]
theorem uK(cs:List AV)(o:Nat):jl none cs o=cs[o]?:=rfl
theorem aA(h:Heap)(o:j5):(Heap.alloc h o).get h.next=some o:=by rw [Heap.aV,if_pos rfl]
theorem bU:Heap.next Heap.empty=0:=rfl
def qh(r:AV):Out->Heap->Bool:=fun o h=>yes (∃ v,o = .ret v/\Fz true h v r)
theorem PF{v:AV}(hf:Fz true h v r):qh r (.ret v) h=true:=cw.2 ⟨v,rfl,hf⟩
theorem gh(hp:r.pure=true):qh r (.ret r) h=true:=PF (.dO hp)
theorem Sem.data{P:Program}{f:FuncId}{args:List AV}(hs:Sem P f args Heap.empty (qh r))(hp:AV.cL args=true){K:Out->Heap->Bool}(hK:K (.ret r) h=true):Sem P f args h K:=
 hs.frozen hp fun o h' ho=>by
  obtain ⟨v,rfl,hf⟩:=cw.1 ho;exact ⟨v,r,rfl,hf,hK⟩
theorem Eu{enc:α->List AV}(he:∀ a,AV.cL (enc a)=true)(l:List α):AV.cL (l.flatMap enc)=true:=by
 induction l with
 |nil=>rfl
 |cons a l ih=>rw [flatMap_cons];exact AV.G0 (he a) ih
theorem cj{enc:α->List AV}(he:∀ a,AV.cL (enc a)=true)(x:Sl α):(an enc sz x).pure=true:=by
 cases x with
 |none=>rfl
 |some l=>exact Eu he l
theorem kf(n:Int):AV.cL (encI n)=true:=rfl
theorem kg(s:b6):AV.cL (encS s)=true:=rfl
theorem nk(n:Int):(encI n).length=1:=rfl
theorem iE(s:b6):(encS s).length=1:=rfl
theorem iF{b:Int}(h1:-9223372036854775808<=a+b)(h2:a+b<=9223372036854775807):aG .add (.int .i64 a) (.int .i64 b)=some (.int .i64 (a+b)):=by
 simp only [aG,if_true];rw [IntWalk.i64_in _ (by omega)]
theorem yh{b:Int}(h1:-9223372036854775808<=a-b)(h2:a-b<=9223372036854775807):aG .sub (.int .i64 a) (.int .i64 b)=some (.int .i64 (a-b)):=by
 simp only [aG,if_true];rw [IntWalk.i64_in _ (by omega)]
theorem uL{b:Int}(h1:-9223372036854775808<=a*b)(h2:a*b<=9223372036854775807):aG .mul (.int .i64 a) (.int .i64 b)=some (.int .i64 (a*b)):=by
 simp only [aG,if_true];rw [IntWalk.i64_in _ ⟨h1,h2⟩]
theorem rB(a b:Int):aG .lss (.int k a) (.int k b)=some (.bool (decide (a<b))):=by simp [aG]
theorem yj(a b:Int):aG .leq (.int k a) (.int k b)=some (.bool (decide (a<=b))):=by simp [aG]
theorem G3(a b:Int):aG .gtr (.int k a) (.int k b)=some (.bool (decide (b<a))):=by simp [aG]
theorem rC(a b:Int):aG .geq (.int k a) (.int k b)=some (.bool (decide (b<=a))):=by simp [aG]
theorem eq_int(d:TypeDesc)(a b:Int):jK d (.int k a) (.int k b)=some (.bool (a==b)):=by simp [jK,Rz]
theorem Wd(d:TypeDesc)(a b:Int):oA d (.int k a) (.int k b)=some (.bool (!(a==b))):=by simp [oA,Rz]
theorem CC(d:TypeDesc)(a b:b6):jK d (.str a) (.str b)=some (.bool (a==b)):=by simp [jK,Rz]
theorem We(d:TypeDesc)(a b:b6):oA d (.str a) (.str b)=some (.bool (!(a==b))):=by simp [oA,Rz]
theorem Sp(a b:Bool):jK .bool (.bool a) (.bool b)=some (.bool (a==b)):=by simp [jK,Rz]
theorem BS(a b:Bool):oA .bool (.bool a) (.bool b)=some (.bool (!(a==b))):=by simp [oA,Rz]
theorem oN(a:Bool):kF .not (.bool a)=some (.bool (!a)):=rfl
theorem nM(s:b6)(h:Heap):bW .str (.str s) h=some (.int .i64 (s.length:Int)):=rfl
theorem BT{s:b6}{b:UInt8}(hb:s[i]?=some b):kZ (.str s) (.int k (i:Int))=some (.int .u8 (b.toNat:Int)):=by
 simp [kZ,asNat,hb]
theorem nV(v:AV)(vs:List AV):br (.tuple (v :: vs)) 0=some v:=rfl
theorem uN(u v:AV)(vs:List AV):br (.tuple (u :: v :: vs)) 1=some v:=rfl
theorem Nz(u v w:AV)(vs:List AV):br (.tuple (u :: v :: w :: vs)) 2=some w:=rfl
theorem cT(h:bw cs=true):eZ (.agg cs)=some cs:=by simp [eZ,AV.dz,h]
theorem pR{x:AV}(h:x.one=true):eZ x=some [x]:=by
 cases x<;>simp_all [eZ,AV.dz,bw,AV.one]
theorem gi{enc:α->List AV}(x:Sl α):(an enc sz x).one=true:=by cases x<;>rfl
theorem cq{o:Nat}{v:AV}(hb:h.get b=some (.cells cs))(hn:v.dz.length=n)(hv:bw v.dz=true)(hle:o+n<=cs.length):aS n (.ptr b o) v h=some (h.set b (.cells (ee cs o v.dz))):=by
 simp [aS,hb,hn,hv,hle]
theorem cA{b:Int}:(a==b)=decide (a=b):=by
 by_cases h:a=b<;>simp [h]
def cN:Nat:=4611686018427387904
theorem Sq(a b:Int):aG .add (.int k a) (.int k b)=some (.int k (k.wrap (a+b))):=by simp [aG]
theorem aI(h:i<n)(hn:n<=cN):aG .add (.int .i64 (i:Int)) (.int .i64 1)=some (.int .i64 ((i+1:Nat):Int)):=by
 unfold cN at hn;rw [iF (by omega) (by omega)];rfl
theorem bh(h:i<n):decide ((i:Int)<(n:Int))=true:=by simp;omega
theorem aX:decide ((n:Int)<(n:Int))=false:=by simp
structure bu (h h':Heap):Prop where
 next:h.next<=h'.next
 get:∀ b,b<h.next->h'.get b=h.get b
theorem bu.refl(h:Heap):bu h h:=⟨dL _,fun _ _=>rfl⟩
theorem bu.trans{a b c:Heap}(x:bu a b)(y:bu b c):bu a c:=⟨Nat.le_trans x.next y.next,fun i hi=>by rw [y.get i (Nat.lt_of_lt_of_le hi x.next),x.get i hi]⟩
theorem bu.alloc(h:Heap)(o:j5):bu h (h.alloc o):=⟨le_succ _,fun b hb=>by rw [Heap.aV,if_neg (by omega)]⟩
theorem bu.set{h h':Heap}(x:bu h h'){b:Nat}(hb:h.next<=b)(o:j5):bu h (h'.set b o):=⟨x.next,fun c hc=>by rw [Heap.aK,if_neg (by omega)];exact x.get c hc⟩
theorem cr{zs:List AV}(hz:zs.length=n)(hc:cs.length=n)(ho:bw cs=true) :
  ∃ h',aS n (.ptr h.next 0) (.agg cs) (Heap.alloc h (.cells zs))=some h'/\h'.get h.next=some (.cells cs)/\(∀ b,b≠h.next->h'.get b=h.get b)/\h'.next=h.next+1:=by
 have Ev:∀ (cs zs pre:List AV),zs.length=cs.length->ee (pre++zs) pre.length cs=pre++cs:=by
  intro cs
  induction cs with
  |nil=>intro zs pre hl;have:zs = []:=eq_nil_of_length_eq_zero (by simpa using hl);simp [ee,this]
  |cons c cs ih=>
   intro zs pre hl
   cases zs with
   |nil=>simp at hl
   |cons z zs=>
    simp only [ee];rw [set_append_right _ _ (dL _)];simp only [Nat.sub_self,set_cons_zero];have:=ih zs (pre++[c]) (by simpa using hl);simpa using this
 refine ⟨(Heap.alloc h (.cells zs)).set h.next (.cells cs),?_,?_,fun b hb=>?_,rfl⟩
 ·rw [cq (aA h _) (by simpa [AV.dz] using hc) (by simpa [AV.dz] using ho) (by simp [AV.dz];omega)];have:=Ev cs zs [] (by omega);simp only [nil_append,length_nil] at this;simp [AV.dz,this]
 ·rw [Heap.aK,if_pos rfl]
 ·rw [Heap.aK,if_neg hb,Heap.aV,if_neg hb]
abbrev eF:=List (b6×Int)
def eF.find(m:eF)(k:b6):Option Int:=(List.find? (fun p=>k==p.1) m).map (·.2)
def eF.rD:eF->b6->Int->eF
 |[],k,v=>[(k,v)]
 |p :: m,k,v=>if k==p.1 then (p.1,v) :: m else p :: eF.rD m k v
def ki:List Entry->eF->Prop
 |[],[]=>True
 |e :: es,p :: m=>e.1 = .str p.1/\e.2.1 = .int .i64 p.2/\ki es m
 |_,_=>False
theorem ki.jF{k:b6}:∀ {es:List Entry} {m:eF} (i:Nat),ki es m->∃ r,jF .string (.str k) es i=some r/\match r with
  |none=>m.find k=none
  |some (j,v)=>∃ n q,j=i+n/\m.find k=some q/\v = .int .i64 q/\ki (fh es n v) m/\∀ w,ki (fh es n (.int .i64 w)) (m.rD k w)
 |[],[],i,_=>⟨none,rfl,rfl⟩
 |e :: es,p :: m,i,⟨h1,h2,h3⟩=>by
  obtain ⟨ek,ev,en⟩:=e;simp only at h1 h2;subst h1;subst h2;by_cases hk:k=p.1
  ·subst hk;refine ⟨some (i,.int .i64 p.2),by simp [Go.AM.jF,vU],0,p.2,rfl,by simp [eF.find],rfl,?_,fun w=>?_⟩
   ·simp [fh,ki,h3]
   ·simp [fh,ki,eF.rD,h3]
  ·obtain ⟨r,hr,hm⟩:=ki.jF (k:=k) (i+1) h3;have Wf:(k==p.1)=false:=by simpa using hk
   refine ⟨r,by simp only [Go.AM.jF,vU,Wf,hr],?_⟩
   cases r with
   |none=>simpa [eF.find,hk] using hm
   |some jv=>
    obtain ⟨n,q,a,b,c,d,e⟩:=hm;refine ⟨n+1,q,by omega,by simpa [eF.find,hk] using b,c,?_,fun w=>?_⟩
    ·have:=d;simp only [fh,getElem?_cons_succ] at this ⊢;split at this<;>simp_all [ki]
    ·have:=e w;simp only [fh,getElem?_cons_succ,eF.rD,Wf] at this ⊢;split at this<;>simp_all [ki]
theorem ki.append{m:eF}(h:ki es m){k:b6}(hk:m.find k=none)(v:Int)(n:Nat):ki (es++[(.str k,.int .i64 v,n)]) (m.rD k v):=by
 induction es generalizing m with
 |nil=>cases m with
  |nil=>simp [ki,eF.rD]
  |cons p m=>exact h.elim
 |cons e es ih=>cases m with
  |nil=>exact h.elim
  |cons p m=>
   obtain ⟨h1,h2,h3⟩:=h;have hne:k≠p.1:=fun e=>by subst e;simp [eF.find] at hk
   have hk':eF.find m k=none:=by simpa [eF.find,hne] using hk
   have:=ih h3 hk';simp only [cons_append,eF.rD];rw [if_neg (by simpa using hne)];exact ⟨h1,h2,this⟩
theorem rE{ck:Nat}{m:eF}(hb:h.get b=some (.map es ck))(hm:ki es m)(k:b6) :
  dR .string (.int .i64 0) true (.map b) (.str k) h=some (.tuple [.int .i64 ((m.find k).getD 0),.bool (m.find k).isSome]):=by
 obtain ⟨r,hr,uO⟩:=ki.jF (k:=k) 0 hm;simp only [dR,lZ,hb,qu,qt,if_true,hr]
 cases r with
 |none=>simp at uO;simp [uO]
 |some jv=>
  obtain ⟨n,q,_,b,c,_⟩:=uO;obtain ⟨j,v⟩:=jv;simp only at c;subst c;simp [b]
theorem CD{ck:Nat}{m:eF}(hb:h.get b=some (.map es ck))(hm:ki es m)(k:b6)(v:Int) :
  ∃ xT G4,eU .string (.map b) (.str k) (.int .i64 v) h=some (h.set b (.map xT G4))/\ki xT (m.rD k v):=by
 obtain ⟨r,hr,uO⟩:=ki.jF (k:=k) 0 hm;simp only [eU,hb,qu,qt,if_true,hr]
 cases r with
 |none=>simp at uO;exact ⟨_,_,rfl,hm.append uO v ck⟩
 |some jv=>
  obtain ⟨n,q,hj,_,_,_,e⟩:=uO;obtain ⟨j,w⟩:=jv;simp only [Nat.zero_add] at hj;subst hj;exact ⟨_,_,rfl,e v⟩
theorem aR:(∀ {α:Type} (a:α) (f:α->Bool),af (some a) f=f a)/\(∀ (v:AV) (h:Heap) (f:AV->Heap->Bool),cY (some (v,h)) f=f v h)/\(∀ (r p:AV->Heap->Bool) (v:AV) (h:Heap),bJ r p (.ret v) h=r v h) /\
  (∀ t a b:Bool,az (.bool t) a b=bif t then a else b)/\(∀ {α:Type} (a b:α),cond true a b=a)/\(∀ {α:Type} (a b:α),cond false a b=b)/\(∀ n b o:Nat,bT n (.ptr b o)=some (.ptr b (o+n)))/\(∀ (n:Nat) (cs:List AV) (o:Nat),bT n (.dN cs o)=some (.dN cs (o+n))) /\
  (∀ (cs:List AV) (o:Nat),jl none cs o=cs[o]?)/\(∀ n:Nat,0+n=n)/\(∀ n:Nat,n+0=n)/\(∀ {α:Type} (a:α) (l:List α),(a :: l)[0]?=some a)/\(∀ {α:Type} (a:α) (l:List α) (i:Nat),(a :: l)[i+1]?=l[i]?) /\
  (∀ (s:b6) (h:Heap),bW .str (.str s) h=some (.int .i64 (s.length:Int)))/\(∀ {α:Type} {enc:α->List AV} {sz:Nat} (x:Sl α) (h:Heap),bW .slice (an enc sz x) h=some (.int .i64 (x.l.length:Int))) /\
  (∀ {k:IntKind} (a b:Int),aG .lss (.int k a) (.int k b)=some (.bool (decide (a<b))))/\(∀ {k:IntKind} (a b:Int),aG .leq (.int k a) (.int k b)=some (.bool (decide (a<=b))))/\(∀ {k:IntKind} (a b:Int),aG .gtr (.int k a) (.int k b)=some (.bool (decide (b<a))))/\(∀ {k:IntKind} (a b:Int),aG .geq (.int k a) (.int k b)=some (.bool (decide (b<=a)))) /\
  (∀ {k:IntKind} (d:TypeDesc) (a b:Int),jK d (.int k a) (.int k b)=some (.bool (a==b)))/\(∀ {k:IntKind} (d:TypeDesc) (a b:Int),oA d (.int k a) (.int k b)=some (.bool (!(a==b))))/\(∀ (d:TypeDesc) (a b:b6),jK d (.str a) (.str b)=some (.bool (a==b)))/\(∀ (d:TypeDesc) (a b:b6),oA d (.str a) (.str b)=some (.bool (!(a==b)))) /\
  (∀ a b:Bool,jK .bool (.bool a) (.bool b)=some (.bool (a==b)))/\(∀ a b:Bool,oA .bool (.bool a) (.bool b)=some (.bool (!(a==b))))/\(∀ a:Bool,kF .not (.bool a)=some (.bool (!a))) /\
  (∀ (v:AV) (vs:List AV),br (.tuple (v :: vs)) 0=some v)/\(∀ (u v:AV) (vs:List AV),br (.tuple (u :: v :: vs)) 1=some v)/\(∀ (u v w:AV) (vs:List AV),br (.tuple (u :: v :: w :: vs)) 2=some w)/\(∀ (env:Env) (d:Nat) (v:AV) (t:Nat),aa env d v t=if t=d then v else env t):=
 ⟨aq,je,kS,cC,aL,aJ,PE,Sn,uK,Nat.zero_add,Nat.add_zero,fun _ _=>rfl,fun _ _ _=>rfl,nM,II,rB,yj,G3,rC,eq_int,Wd,CC,We,Sp,BS,oN,nV,uN,Nz,bO⟩
end
end Go.AM