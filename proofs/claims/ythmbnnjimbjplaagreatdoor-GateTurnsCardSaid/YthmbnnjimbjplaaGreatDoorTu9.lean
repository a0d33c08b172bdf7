/- Parts of the proof. Conditions: none. -/
import Derived.Test.YthmbnnjimbjplaaGreatDoorTu8
set_option linter.unusedSimpArgs false
set_option linter.unusedVariables false
namespace Go.AM
open List Nat Bool Option
open Go Go.RowKit
noncomputable section
variable {K:AX->St->Bool} {defs:List j6} {α:Type} {n:Nat}
def cT(o:Option (AV×Heap))(f:AV->Heap->Bool):Bool:=af o fun p=>f p.1 p.2
def bH(r p:AV->Heap->Bool):Out->Heap->Bool
 |.ret v,h=>r v h
 |.panic v,h=>p v h
def Jx(ok:AV->Heap->Bool)(pn:AV->Heap->Bool):R->Bool
 |.ok v _ h=>ok v h
 |.panic v h=>pn v h
def Ay(x:AV)(f:FuncId->List AV->List AV->Bool):Bool:=
 match x with
 |.func g a b=>f g a b
 |_=>false
def aj(fn:Func):Code:=match fn.body with|some c=>c|none=>.skip
def partOf:Code->List Nat->Code
 |c,[]=>c
 |.seq a b,n :: ns=>match n with|0=>partOf a ns|_=>partOf b ns
 |.cond _ a b,n :: ns=>match n with|0=>partOf a ns|_=>partOf b ns
 |.block _ c,_ :: ns=>partOf c ns
 |.loop c,_ :: ns=>partOf c ns
 |c,_=>c
theorem oy{a b:α}(h:a=b):a=b:=by subst h;exact Eq.refl a
@[simp] theorem uY {α:Type} (a:α) (f:α->Bool):af (some a) f=f a:=oy rfl
@[simp] theorem Jy {α:Type} (f:α->Bool):af none f=false:=rfl
@[simp] theorem dJ (v:AV) (h:Heap) (f:AV->Heap->Bool):cT (some (v,h)) f=f v h:=oy rfl
@[simp] theorem bU (r p:AV->Heap->Bool) (v:AV) (h:Heap):bH r p (.ret v) h=r v h:=oy rfl
@[simp] theorem Jz (r p:AV->Heap->Bool) (v:AV) (h:Heap):bH r p (.panic v) h=p v h:=oy rfl
@[simp] theorem gL (g:FuncId) (a b:List AV) (f:FuncId->List AV->List AV->Bool):Ay (.func g a b) f=f g a b:=oy rfl
theorem aA(a b:α):cond true a b=a:=oy rfl
theorem ax(a b:α):cond false a b=b:=oy rfl
@[simp] theorem bC (t a b:Bool):ah (.bool t) a b=bif t then a else b:=by cases t<;>rfl
@[congr] theorem Lt {α:Type} {o o':Option α} {f:α->Bool} (h:o=o'):af o f=af o' f:=by rw [h]
@[congr] theorem OY {k:Nat} {x x':AV} {h h':Heap} {f:AV->AV->Bool} (e:x=x') (g:h=h'):fl k x h f=fl k x' h' f:=by rw [e,g]
@[congr] theorem OZ {k:Nat} {x x' i i':AV} {h h':Heap} {f:AV->AV->Bool} (e:x=x') (d:i=i') (g:h=h'):il k x i h f=il k x' i' h' f:=by rw [e,d,g]
@[congr] theorem Nm {k j:Nat} {x x' i i':AV} {h h':Heap} {f:AV->AV->AV->Bool} (e:x=x') (d:i=i') (g:h=h'):lP k x i j h f=lP k x' i' j h' f:=by rw [e,d,g]
@[congr] theorem Kx {o o':Option (AV×Heap)} {f:AV->Heap->Bool} (h:o=o'):cT o f=cT o' f:=by rw [h]
@[congr] theorem Lu {x x':AV} {a b:Bool} (h:x=x'):ah x a b=ah x' a b:=by rw [h]
@[congr] theorem My {α:Type} {c c':Bool} {a b:α} (h:c=c'):cond c a b=cond c' a b:=by rw [h]
@[congr] theorem JA {P:Program} {f:FuncId} {args uX:List AV} {h h':Heap} {K:Out->Heap->Bool} (e1:args=uX) (e2:h=h'):aq P f args h K=aq P f uX h' K:=by rw [e1,e2]
theorem jC{f:St->(AX->St->Bool)->Bool}{e0:Env}{h0:Heap}(I:Nat->Env->Heap->Prop)(m:Nat)(hI:I m e0 h0)
  (step:∀ m e h,I m e h->f ⟨e,n,defs,h⟩ (xS (fun m s=>s.n=n/\s.defs=defs/\I m s.env s.h) m K)=true):bS f ⟨e0,n,defs,h0⟩ K=true:=by
 refine cw.2 ⟨fun m s=>s.n=n/\s.defs=defs/\I m s.env s.h,⟨m,rfl,rfl,hI⟩,fun m s hs=>?_⟩;obtain ⟨e,n',d,h⟩:=s;obtain ⟨h1,h2,h3⟩:=hs;simp only at h1 h2 h3;subst h1;subst h2;exact step m e h h3
theorem pV{I:Nat->Env->Heap->Prop}{m:Nat}{e:Env}{h:Heap}(m':Nat)(hm:m'<m)(hI:I m' e h) :
  xS (fun m s=>s.n=n/\s.defs=defs/\I m s.env s.h) m K .normal ⟨e,n,defs,h⟩=true:=cw.2 ⟨m',hm,rfl,rfl,hI⟩
@[simp] theorem oz (I:Nat->St->Prop) (m:Nat) (K:AX->St->Bool) (id:Nat) (s:St):xS I m K (.exit id) s=K (.exit id) s:=rfl
@[simp] theorem Ky (I:Nat->St->Prop) (m:Nat) (K:AX->St->Bool) (s:St):xS I m K .ret s=K .ret s:=rfl
@[simp] theorem IF (I:Nat->St->Prop) (m:Nat) (K:AX->St->Bool) (v:AV) (s:St):xS I m K (.panic v) s=K (.panic v) s:=rfl
theorem aI{f:St->(AX->St->Bool)->Bool}{e0:Env}{h0:Heap}(a N:Nat)(ha:a<=N)(J:Nat->Env->Heap->Prop)(hJ:J a e0 h0)
  (step:∀ i e h,a<=i->i<N->J i e h->∀ K':AX->St->Bool,(∀ e' h',J (i+1) e' h'->K' .normal ⟨e',n,defs,h'⟩=true)->(∀ id s,K' (.exit id) s=K (.exit id) s)->(∀ s,K' .ret s=K .ret s)->(∀ v s,K' (.panic v) s=K (.panic v) s)->f ⟨e,n,defs,h⟩ K'=true)
  (done:∀ e h,J N e h->∀ K':AX->St->Bool,(∀ id s,K' (.exit id) s=K (.exit id) s)->f ⟨e,n,defs,h⟩ K'=true):bS f ⟨e0,n,defs,h0⟩ K=true:=by
 refine jC (fun m e h=>∃ i,a<=i/\i<=N/\m=N-i/\J i e h) (N-a) ⟨a,dR _,ha,rfl,hJ⟩ fun m e h hi=>?_;obtain ⟨i,M8,hi,rfl,hj⟩:=hi;by_cases hlt:i<N
 ·exact step i e h M8 hlt hj _ (fun e' h' DT=>pV (I:=fun m e h=>∃ i,a<=i/\i<=N/\m=N-i/\J i e h) (N-(i+1)) (by omega) ⟨i+1,by omega,by omega,rfl,DT⟩) (fun _ _=>rfl) (fun _=>rfl) (fun _ _=>rfl)
 ·obtain rfl:i=N:=by omega
  exact done e h hj _ (fun _ _=>rfl)
end
end Go.AM
namespace Go.AM
open List Nat Bool Option
open Go Go.RowKit
noncomputable section
variable {k:IntKind} {h:Heap} {α:Type} {sz i n:Nat} {es:List Entry} {cs:List AV} {b a:Int} {r:AV}
abbrev bI:=List UInt8
abbrev Sl(α:Type):=Option (List α)
def Sl.l{α:Type}(x:Sl α):List α:=x.getD []
@[simp] theorem Sl.JB {α:Type}:Sl.l (none:Sl α) = []:=rfl
@[simp] theorem Sl.FE {α:Type} (l:List α):Sl.l (some l)=l:=rfl
def cp{α:Type}(enc:α->List AV)(sz:Nat):Sl α->AV
 |none=>.aE
 |some l=>.aL (l.flatMap enc) 0 l.length sz
def encI(n:Int):List AV:=[.int .i64 n]
def encS(s:bI):List AV:=[.str s]
theorem er{enc:α->List AV}(he:∀ a,(enc a).length=sz)(l:List α):(l.flatMap enc).length=l.length*sz:=by
 induction l with
 |nil=>simp
 |cons a l ih=>rw [flatMap_cons,length_append,ih,he,length_cons,Nat.add_mul];omega
theorem jS{α:Type}{enc:α->List AV}{sz:Nat}(he:∀ a,(enc a).length=sz):∀ (l:List α) (i k:Nat) (a:α),l[i]?=some a->k<sz->(l.flatMap enc)[i*sz+k]?=(enc a)[k]?
 |[],i,k,a,h,_=>by simp at h
 |b :: l,0,k,a,h,hk=>by
  simp at h;subst h;rw [flatMap_cons,Nat.zero_mul,Nat.zero_add,getElem?_append_left (by rw [he];exact hk)]
 |b :: l,i+1,k,a,h,hk=>by
  rw [flatMap_cons,getElem?_append_right (by rw [he,Nat.add_mul];omega),he,<- jS he l i k a (by simpa using h) hk];congr 1;rw [Nat.add_mul];omega
theorem kZ{α:Type}{enc:α->List AV}{sz:Nat}(he:∀ a,(enc a).length=sz):∀ (l:List α) (i:Nat) (a:α),l[i]?=some a->((l.flatMap enc).drop (i*sz)).take sz=enc a
 |[],i,a,h=>by simp at h
 |b :: l,0,a,h=>by
  simp at h;subst h;rw [flatMap_cons,Nat.zero_mul,drop_zero,take_append_of_le_length (by rw [he];exact dR _),yA (by rw [he];exact dR _)]
 |b :: l,i+1,a,h=>by
  have hd:List.drop sz (enc b) = []:=drop_of_length_le (by rw [he];exact dR _);rw [flatMap_cons,Nat.add_mul,Nat.one_mul,Nat.add_comm,<- drop_drop,drop_append_of_le_length (by rw [he];exact dR _),hd,nil_append];exact kZ he l i a (by simpa using h)
theorem pW{enc:α->List AV}(x:Sl α)(h:Heap):bB .slice (cp enc sz x) h=some (.int .i64 (x.l.length:Int)):=by
 cases x<;>rfl
theorem bt{enc:α->List AV}(x:Sl α)(hi:i<x.l.length):iZ sz (cp enc sz x) (.int k (i:Int))=some (.cS (x.l.flatMap enc) (i*sz)):=by
 cases x with
 |none=>simp at hi
 |some l=>
  have sW:i<l.length:=hi;simp [iZ,cp,asNat,sW]
theorem fK{enc:α->List AV}(he:∀ a,(enc a).length=sz){l:List α}{a:α}(ha:l[i]?=some a){k:Nat}(hk:k<sz) :
  au none (.cS (l.flatMap enc) (i*sz+k)) h=(enc a)[k]?:=jS he l i k a ha hk
theorem uZ{enc:α->List AV}(he:∀ a,(enc a).length=1){l:List α}{a:α}(ha:l[i]?=some a) :
  au none (.cS (l.flatMap enc) (i*1)) h=(enc a)[0]?:=jS he l i 0 a ha (by omega)
theorem g8{enc:α->List AV}(he:∀ a,(enc a).length=sz){l:List α}{a:α}(ha:l[i]?=some a) :
  au (some sz) (.cS (l.flatMap enc) (i*sz)) h=some (.agg (enc a)):=by
 have hi:i<l.length:=(fR.1 ha).1
 have hle:i*sz+sz<=(l.flatMap enc).length:=by
  rw [er he];have:(i+1)*sz<=l.length*sz:=mul_le_mul_right _ hi;rw [Nat.add_mul] at this;omega
 show ir (some sz) _ _=_;simp only [ir];rw [if_pos hle,kZ he l i a ha]
theorem y7(n:Nat)(cs:List AV)(o:Nat):sV n (.cS cs o)=some (.cS cs (o+n)):=rfl
theorem oA(n b o:Nat):sV n (.ptr b o)=some (.ptr b (o+n)):=rfl
theorem ai{r:Option Nat}{b o:Nat}(hb:h.get b=some (.cells cs)):au r (.ptr b o) h=ir r cs o:=by simp [au,hb]
theorem qZ(cs:List AV)(o:Nat):ir none cs o=cs[o]?:=rfl
theorem ay(h:Heap)(o:gh):(Heap.alloc h o).get h.next=some o:=by rw [Heap.aD,if_pos rfl]
theorem aV:Heap.next Heap.empty=0:=rfl
def jD(r:AV):Out->Heap->Bool:=fun o h=>yes (∃ v,o = .ret v/\Fz true h v r)
theorem FF{v:AV}(hf:Fz true h v r):jD r (.ret v) h=true:=cw.2 ⟨v,rfl,hf⟩
theorem dO(hp:r.pure=true):jD r (.ret r) h=true:=FF (.dF hp)
theorem Sem.data{P:Program}{f:FuncId}{args:List AV}(hs:Sem P f args Heap.empty (jD r))(hp:AV.bQ args=true){K:Out->Heap->Bool}(hK:K (.ret r) h=true):Sem P f args h K:=
 hs.frozen hp fun o h' ho=>by
  obtain ⟨v,rfl,hf⟩:=cw.1 ho;exact ⟨v,r,rfl,hf,hK⟩
theorem wP{enc:α->List AV}(he:∀ a,AV.bQ (enc a)=true)(l:List α):AV.bQ (l.flatMap enc)=true:=by
 induction l with
 |nil=>rfl
 |cons a l ih=>rw [flatMap_cons];exact AV.yZ (he a) ih
theorem dU{enc:α->List AV}(he:∀ a,AV.bQ (enc a)=true)(x:Sl α):(cp enc sz x).pure=true:=by
 cases x with
 |none=>rfl
 |some l=>exact wP he l
theorem gT(n:Int):AV.bQ (encI n)=true:=rfl
theorem Az(n:Int):(encI n).length=1:=rfl
theorem jE(s:bI):(encS s).length=1:=rfl
theorem k7(h1:-9223372036854775808<=a+b)(h2:a+b<=9223372036854775807):aC .add (.int .i64 a) (.int .i64 b)=some (.int .i64 (a+b)):=by
 simp only [aC,if_true];rw [IntWalk.i64_in _ (by omega)]
theorem pX(h1:-9223372036854775808<=a-b)(h2:a-b<=9223372036854775807):aC .sub (.int .i64 a) (.int .i64 b)=some (.int .i64 (a-b)):=by
 simp only [aC,if_true];rw [IntWalk.i64_in _ (by omega)]
theorem y8(h1:-9223372036854775808<=a*b)(h2:a*b<=9223372036854775807):aC .mul (.int .i64 a) (.int .i64 b)=some (.int .i64 (a*b)):=by
 simp only [aC,if_true];rw [IntWalk.i64_in _ ⟨h1,h2⟩]
theorem jT(a b:Int):aC .lss (.int k a) (.int k b)=some (.bool (decide (a<b))):=by simp [aC]
theorem pY(a b:Int):aC .leq (.int k a) (.int k b)=some (.bool (decide (a<=b))):=by simp [aC]
theorem y9(a b:Int):aC .gtr (.int k a) (.int k b)=some (.bool (decide (b<a))):=by simp [aC]
theorem k8(a b:Int):aC .geq (.int k a) (.int k b)=some (.bool (decide (b<=a))):=by simp [aC]
theorem eq_int(d:TypeDesc)(a b:Int):fQ d (.int k a) (.int k b)=some (.bool (a==b)):=by simp [fQ,Gy]
theorem FG(d:TypeDesc)(a b:Int):jN d (.int k a) (.int k b)=some (.bool (!(a==b))):=by simp [jN,Gy]
theorem q9(d:TypeDesc)(a b:bI):fQ d (.str a) (.str b)=some (.bool (a==b)):=by simp [fQ,Gy]
theorem JC(d:TypeDesc)(a b:bI):jN d (.str a) (.str b)=some (.bool (!(a==b))):=by simp [jN,Gy]
theorem Dg(a b:Bool):fQ .bool (.bool a) (.bool b)=some (.bool (a==b)):=by simp [fQ,Gy]
theorem Dh(a b:Bool):jN .bool (.bool a) (.bool b)=some (.bool (!(a==b))):=by simp [jN,Gy]
theorem gD(a:Bool):j4 .not (.bool a)=some (.bool (!a)):=rfl
theorem jj(s:bI)(h:Heap):bB .str (.str s) h=some (.int .i64 (s.length:Int)):=rfl
theorem ud{s:bI}{b:UInt8}(hb:s[i]?=some b):gE (.str s) (.int k (i:Int))=some (.int .u8 (b.toNat:Int)):=by
 simp [gE,asNat,hb]
theorem ni(v:AV)(vs:List AV):aW (.tuple (v :: vs)) 0=some v:=rfl
theorem nj(u v:AV)(vs:List AV):aW (.tuple (u :: v :: vs)) 1=some v:=rfl
theorem D3(u v w:AV)(vs:List AV):aW (.tuple (u :: v :: w :: vs)) 2=some w:=rfl
theorem cc(h:bw cs=true):eR (.agg cs)=some cs:=by simp [eR,AV.bV,h]
theorem ue{x:AV}(h:x.one=true):eR x=some [x]:=by
 cases x<;>simp_all [eR,AV.bV,bw,AV.one]
theorem nk{enc:α->List AV}(x:Sl α):(cp enc sz x).one=true:=by cases x<;>rfl
theorem fL{b o:Nat}{v:AV}(hb:h.get b=some (.cells cs))(hn:v.bV.length=n)(hv:bw v.bV=true)(hle:o+n<=cs.length):bD n (.ptr b o) v h=some (h.set b (.cells (ct cs o v.bV))):=by
 simp [bD,hb,hn,hv,hle]
theorem b9:(a==b)=decide (a=b):=by
 by_cases h:a=b<;>simp [h]
def dx:Nat:=4611686018427387904
theorem Hi(a b:Int):aC .add (.int k a) (.int k b)=some (.int k (k.wrap (a+b))):=by simp [aC]
theorem Hj(a:Int)(hb:b≠0):aC .quo (.int k a) (.int k b)=some (.int k (k.wrap (a.tdiv b))):=by simp [aC,hb]
theorem aN(h:i<n)(hn:n<=dx):aC .add (.int .i64 (i:Int)) (.int .i64 1)=some (.int .i64 ((i+1:Nat):Int)):=by
 unfold dx at hn;rw [k7 (by omega) (by omega)];rfl
theorem bu(h:i<n):decide ((i:Int)<(n:Int))=true:=by simp;omega
theorem bf:decide ((n:Int)<(n:Int))=false:=by simp
structure aX (h h':Heap):Prop where
 next:h.next<=h'.next
 get:∀ b,b<h.next->h'.get b=h.get b
theorem aX.refl(h:Heap):aX h h:=⟨dR _,fun _ _=>rfl⟩
theorem JD{l:List α}(h:i<l.length):∃ a,l[i]?=some a:=⟨_,fc h⟩
theorem aX.trans{a b c:Heap}(x:aX a b)(y:aX b c):aX a c:=⟨Nat.le_trans x.next y.next,fun i hi=>by rw [y.get i (Nat.lt_of_lt_of_le hi x.next),x.get i hi]⟩
theorem aX.alloc(h:Heap)(o:gh):aX h (h.alloc o):=⟨le_succ _,fun b hb=>by rw [Heap.aD,if_neg (by omega)]⟩
theorem aX.set{h h':Heap}(x:aX h h'){b:Nat}(hb:h.next<=b)(o:gh):aX h (h'.set b o):=⟨x.next,fun c hc=>by rw [Heap.aK,if_neg (by omega)];exact x.get c hc⟩
theorem eG{zs:List AV}(hz:zs.length=n)(hc:cs.length=n)(ho:bw cs=true) :
  ∃ h',bD n (.ptr h.next 0) (.agg cs) (Heap.alloc h (.cells zs))=some h'/\h'.get h.next=some (.cells cs)/\(∀ b,b≠h.next->h'.get b=h.get b)/\h'.next=h.next+1:=by
 have Nn:∀ (cs zs pre:List AV),zs.length=cs.length->ct (pre++zs) pre.length cs=pre++cs:=by
  intro cs
  induction cs with
  |nil=>intro zs pre hl;have:zs = []:=eq_nil_of_length_eq_zero (by simpa using hl);simp [ct,this]
  |cons c cs ih=>
   intro zs pre hl
   cases zs with
   |nil=>simp at hl
   |cons z zs=>
    simp only [ct];rw [set_append_right _ _ (dR _)];simp only [Nat.sub_self,set_cons_zero];have:=ih zs (pre++[c]) (by simpa using hl);simpa using this
 refine ⟨(Heap.alloc h (.cells zs)).set h.next (.cells cs),?_,?_,fun b hb=>?_,rfl⟩
 ·rw [fL (ay h _) (by simpa [AV.bV] using hc) (by simpa [AV.bV] using ho) (by simp [AV.bV];omega)];have:=Nn cs zs [] (by omega);simp only [nil_append,length_nil] at this;simp [AV.bV,this]
 ·rw [Heap.aK,if_pos rfl]
 ·rw [Heap.aK,if_neg hb,Heap.aD,if_neg hb]
abbrev dV:=List (bI×Int)
def dV.find(m:dV)(k:bI):Option Int:=(List.find? (fun p=>k==p.1) m).map (·.2)
def dV.lU:dV->bI->Int->dV
 |[],k,v=>[(k,v)]
 |p :: m,k,v=>if k==p.1 then (p.1,v) :: m else p :: dV.lU m k v
def gq:List Entry->dV->Prop
 |[],[]=>True
 |e :: es,p :: m=>e.1 = .str p.1/\e.2.1 = .int .i64 p.2/\gq es m
 |_,_=>False
theorem gq.gP{k:bI}:∀ {es:List Entry} {m:dV} (i:Nat),gq es m->∃ r,gP .string (.str k) es i=some r/\match r with
  |none=>m.find k=none
  |some (j,v)=>∃ n q,j=i+n/\m.find k=some q/\v = .int .i64 q/\gq (cX es n v) m/\∀ w,gq (cX es n (.int .i64 w)) (m.lU k w)
 |[],[],i,_=>⟨none,rfl,rfl⟩
 |e :: es,p :: m,i,⟨h1,h2,h3⟩=>by
  obtain ⟨ek,ev,en⟩:=e;simp only at h1 h2;subst h1;subst h2;by_cases hk:k=p.1
  ·subst hk;refine ⟨some (i,.int .i64 p.2),by simp [Go.AM.gP,nH],0,p.2,rfl,by simp [dV.find],rfl,?_,fun w=>?_⟩
   ·simp [cX,gq,h3]
   ·simp [cX,gq,dV.lU,h3]
  ·obtain ⟨r,hr,hm⟩:=gq.gP (k:=k) (i+1) h3;have Lv:(k==p.1)=false:=by simpa using hk
   refine ⟨r,by simp only [Go.AM.gP,nH,Lv,hr],?_⟩
   cases r with
   |none=>simpa [dV.find,hk] using hm
   |some jv=>
    obtain ⟨n,q,a,b,c,d,e⟩:=hm;refine ⟨n+1,q,by omega,by simpa [dV.find,hk] using b,c,?_,fun w=>?_⟩
    ·have:=d;simp only [cX,getElem?_cons_succ] at this ⊢;split at this<;>simp_all [gq]
    ·have:=e w;simp only [cX,getElem?_cons_succ,dV.lU,Lv] at this ⊢;split at this<;>simp_all [gq]
theorem gq.append{m:dV}(h:gq es m){k:bI}(hk:m.find k=none)(v:Int)(n:Nat):gq (es++[(.str k,.int .i64 v,n)]) (m.lU k v):=by
 induction es generalizing m with
 |nil=>cases m with
  |nil=>simp [gq,dV.lU]
  |cons p m=>exact h.elim
 |cons e es ih=>cases m with
  |nil=>exact h.elim
  |cons p m=>
   obtain ⟨h1,h2,h3⟩:=h;have hne:k≠p.1:=fun e=>by subst e;simp [dV.find] at hk
   have No:dV.find m k=none:=by simpa [dV.find,hne] using hk
   have:=ih h3 No;simp only [cons_append,dV.lU];rw [if_neg (by simpa using hne)];exact ⟨h1,h2,this⟩
theorem u6{b:Nat}{ck:Nat}{m:dV}(hb:h.get b=some (.map es ck))(hm:gq es m)(k:bI) :
  dy .string (.int .i64 0) true (.map b) (.str k) h=some (.tuple [.int .i64 ((m.find k).getD 0),.bool (m.find k).isSome]):=by
 obtain ⟨r,hr,rf⟩:=gq.gP (k:=k) 0 hm;simp only [dy,iT,hb,lJ,lI,if_true,hr]
 cases r with
 |none=>simp at rf;simp [rf]
 |some jv=>
  obtain ⟨n,q,_,b,c,_⟩:=rf;obtain ⟨j,v⟩:=jv;simp only at c;subst c;simp [b]
theorem u7{b:Nat}{ck:Nat}{m:dV}(hb:h.get b=some (.map es ck))(hm:gq es m)(k:bI)(v:Int) :
  ∃ kS mA,cF .string (.map b) (.str k) (.int .i64 v) h=some (h.set b (.map kS mA))/\gq kS (m.lU k v):=by
 obtain ⟨r,hr,rf⟩:=gq.gP (k:=k) 0 hm;simp only [cF,hb,lJ,lI,if_true,hr]
 cases r with
 |none=>simp at rf;exact ⟨_,_,rfl,hm.append rf v ck⟩
 |some jv=>
  obtain ⟨n,q,hj,_,_,_,e⟩:=rf;obtain ⟨j,w⟩:=jv;simp only [Nat.zero_add] at hj;subst hj;exact ⟨_,_,rfl,e v⟩
theorem br:(∀ {α:Type} (a:α) (f:α->Bool),af (some a) f=f a)/\(∀ (v:AV) (h:Heap) (f:AV->Heap->Bool),cT (some (v,h)) f=f v h)/\(∀ (r p:AV->Heap->Bool) (v:AV) (h:Heap),bH r p (.ret v) h=r v h) /\
  (∀ t a b:Bool,ah (.bool t) a b=bif t then a else b)/\(∀ {α:Type} (a b:α),cond true a b=a)/\(∀ {α:Type} (a b:α),cond false a b=b)/\(∀ n b o:Nat,sV n (.ptr b o)=some (.ptr b (o+n)))/\(∀ (n:Nat) (cs:List AV) (o:Nat),sV n (.cS cs o)=some (.cS cs (o+n))) /\
  (∀ (cs:List AV) (o:Nat),ir none cs o=cs[o]?)/\(∀ n:Nat,0+n=n)/\(∀ n:Nat,n+0=n)/\(∀ {α:Type} (a:α) (l:List α),(a :: l)[0]?=some a)/\(∀ {α:Type} (a:α) (l:List α) (i:Nat),(a :: l)[i+1]?=l[i]?) /\
  (∀ (s:bI) (h:Heap),bB .str (.str s) h=some (.int .i64 (s.length:Int)))/\(∀ {α:Type} {enc:α->List AV} {sz:Nat} (x:Sl α) (h:Heap),bB .slice (cp enc sz x) h=some (.int .i64 (x.l.length:Int))) /\
  (∀ {k:IntKind} (a b:Int),aC .lss (.int k a) (.int k b)=some (.bool (decide (a<b))))/\(∀ {k:IntKind} (a b:Int),aC .leq (.int k a) (.int k b)=some (.bool (decide (a<=b))))/\(∀ {k:IntKind} (a b:Int),aC .gtr (.int k a) (.int k b)=some (.bool (decide (b<a))))/\(∀ {k:IntKind} (a b:Int),aC .geq (.int k a) (.int k b)=some (.bool (decide (b<=a)))) /\
  (∀ {k:IntKind} (d:TypeDesc) (a b:Int),fQ d (.int k a) (.int k b)=some (.bool (a==b)))/\(∀ {k:IntKind} (d:TypeDesc) (a b:Int),jN d (.int k a) (.int k b)=some (.bool (!(a==b))))/\(∀ (d:TypeDesc) (a b:bI),fQ d (.str a) (.str b)=some (.bool (a==b)))/\(∀ (d:TypeDesc) (a b:bI),jN d (.str a) (.str b)=some (.bool (!(a==b)))) /\
  (∀ a b:Bool,fQ .bool (.bool a) (.bool b)=some (.bool (a==b)))/\(∀ a b:Bool,jN .bool (.bool a) (.bool b)=some (.bool (!(a==b))))/\(∀ a:Bool,j4 .not (.bool a)=some (.bool (!a))) /\
  (∀ (v:AV) (vs:List AV),aW (.tuple (v :: vs)) 0=some v)/\(∀ (u v:AV) (vs:List AV),aW (.tuple (u :: v :: vs)) 1=some v)/\(∀ (u v w:AV) (vs:List AV),aW (.tuple (u :: v :: w :: vs)) 2=some w)/\(∀ (env:Env) (d:Nat) (v:AV) (t:Nat),bZ env d v t=if t=d then v else env t)/\(∀ e:Env,sL e []=e)/\(∀ (e:Env) (k:Nat) (v:AV) (l:List (Nat×AV)),sL e ((k,v) :: l)=sL (bZ e k v) l)/\(∀ (k:Nat) (x:AV) (h:Heap) (f:AV->AV->Bool),fl k x h f=af (sV k x) fun d=>af (au none d h) fun v=>f d v)/\(∀ (k:Nat) (x i:AV) (h:Heap) (f:AV->AV->Bool),il k x i h f=af (iZ k x i) fun d=>af (au none d h) fun v=>f d v)/\(∀ (k:Nat) (x i:AV) (j:Nat) (h:Heap) (f:AV->AV->AV->Bool),lP k x i j h f=af (iZ k x i) fun c=>af (sV j c) fun d=>af (au none d h) fun v=>f c d v)/\(∀ h:Heap,nP h = .ptr (Heap.next h) 0)/\(∀ (h:Heap) (l:List AV),hA h l=h.alloc (.cells l)):=
 ⟨uY,dJ,bU,bC,aA,ax,oA,y7,qZ,Nat.zero_add,Nat.add_zero,fun _ _=>rfl,fun _ _ _=>rfl,jj,pW,jT,pY,y9,k8,eq_int,FG,q9,JC,Dg,Dh,gD,ni,nj,D3,kW,fun _=>rfl,fun _ _ _ _=>rfl,fun _ _ _ _=>rfl,fun _ _ _ _ _=>rfl,fun _ _ _ _ _ _=>rfl,fun _=>rfl,fun _ _=>rfl⟩
theorem lV:(∀ (env:Env) (d:Nat) (v:AV) (t:Nat),bZ env d v t=if t=d then v else env t)/\(∀ e:Env,sL e []=e)/\(∀ (e:Env) (k:Nat) (v:AV) (l:List (Nat×AV)),sL e ((k,v) :: l)=sL (bZ e k v) l):=⟨kW,fun _=>rfl,fun _ _ _ _=>rfl⟩
theorem cN:(∀ {α:Type} (a:α) (f:α->Bool),af (some a) f=f a)/\(∀ (k:Nat) (x:AV) (h:Heap) (f:AV->AV->Bool),fl k x h f=af (sV k x) fun d=>af (au none d h) fun v=>f d v)/\(∀ (k:Nat) (x i:AV) (h:Heap) (f:AV->AV->Bool),il k x i h f=af (iZ k x i) fun d=>af (au none d h) fun v=>f d v)/\(∀ (k:Nat) (x i:AV) (j:Nat) (h:Heap) (f:AV->AV->AV->Bool),lP k x i j h f=af (iZ k x i) fun c=>af (sV j c) fun d=>af (au none d h) fun v=>f c d v)/\(∀ h:Heap,nP h = .ptr (Heap.next h) 0)/\(∀ (h:Heap) (l:List AV),hA h l=h.alloc (.cells l)):=⟨uY,fun _ _ _ _=>rfl,fun _ _ _ _ _=>rfl,fun _ _ _ _ _ _=>rfl,fun _=>rfl,fun _ _=>rfl⟩
end
end Go.AM
namespace Go.AM
open List Nat Bool Option
open Go Go.RowKit
noncomputable section
def Heap.plain:Heap:=Heap.empty.alloc .mark
theorem k9:Heap.next Heap.plain=1:=rfl
theorem Cc:Heap.plain.get 0=some .mark:=rfl
theorem Heap.Di{h:Heap}(h0:h.get 0=some .mark):h.bk=false:=by unfold Heap.bk;rw [h0];exact Bool.and_false _
section
variable {P:Program} {w0 w:World} {μ μ':Mu} {h h':Heap}
theorem Heap.AA:Heap.plain.Clean:=Heap.sE Heap.jR .mark
theorem Good.FH(hg:Good w0 μ h w):Good w0 μ.bare Heap.plain w:=
 ⟨hg.below,Heap.AA,by simp [Mu.bare],by simp [Mu.bare],hg.uC,by simp [Mu.bare],by simp [Mu.bare],by simp [Mu.bare]⟩
theorem Ext.Hl{ν:Mu}(hν:ν.m=fun _=>none){w':World}(hx:Ext ν Heap.plain w μ' h' w'):Ext ν Heap.empty w μ' h' w':=
 ⟨hx.mono,hx.frame,hx.new,hx.size,zero_le _,fun c hc=>absurd hc (not_lt_zero c),fun b k hb=>by
  rcases hx.fresh b k hb with h1|h1
  ·exact .inl h1
  ·exact .inr (zero_le _),hx.nY⟩
theorem Sem.Ho{f:FuncId}{args:List AV}{K0 K:Out->Heap->Bool}(hs:Sem P f args Heap.plain K0)(hp:AV.bQ args=true)
  (hk:∀ o h',K0 o h'=true->∃ v r,o = .ret v/\Fz true h' v r/\K (.ret r) h=true):Sem P f args h K:=by
 refine ⟨hs.1,fun w0 μ w vs hg hv=>?_⟩;have qJ:cj w0 μ.bare args vs:=⟨hv.len,fun i x v hx wE=>VR.Df (μ:=μ) (μ':=μ.bare) (fun _ _ h=>h) (hv.rel i x v hx wE) (AV.gj hp hx)⟩
 refine (hs.2 w0 μ.bare w vs hg.FH qJ).mono fun e w' hr=>?_
 cases e with
 |returned vc=>
  obtain ⟨v,h',μ',k1,k2,k3,k4⟩:=hr;obtain ⟨v',r,he,hf,hK⟩:=hk _ _ k1;cases he;have k5:=k4.Hl rfl;obtain ⟨g1,g2⟩:=qX rfl hg k3 k5 (fun _ _ h=>h);exact ⟨r,h,_,hK,y6 (μ:=μ) rfl k3 k5 (fun _ _ _ h=>h) hf k2,g1,g2⟩
 |panicked c=>
  obtain ⟨v,vc,h',μ',k1,_⟩:=hr;obtain ⟨v',r,he,_⟩:=hk _ _ k1;cases he
 |outgrown=>exact hr.elim
end
end
end Go.AM