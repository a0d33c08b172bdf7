/- Parts of the proof. Conditions: none. -/
import Derived.Test.YtmkffehchicgaaaGreatPf8
set_option linter.unusedSimpArgs false
set_option linter.unusedVariables false
namespace Go.AM
open List Nat Bool Option
open Go Go.RowKit
noncomputable section
variable {K:AX->St->Bool} {defs:List su} {α:Type} {n:Nat}
def de(o:Option (AV×ag))(f:AV->ag->Bool):Bool:=af o fun p=>f p.1 p.2
def bH(r p:AV->ag->Bool):Out->ag->Bool
 |.ret v,h=>r v h
 |.panic v,h=>p v h
def Kq(ok:AV->ag->Bool)(pn:AV->ag->Bool):R->Bool
 |.ok v _ h=>ok v h
 |.panic v h=>pn v h
def vw(x:AV)(f:FuncId->List AV->List AV->Bool):Bool:=
 match x with
 |.func g a b=>f g a b
 |_=>false
def ak(fn:Func):Code:=match fn.body with|some c=>c|none=>.skip
def partOf:Code->List Nat->Code
 |c,[]=>c
 |.seq a b,n :: ns=>match n with|0=>partOf a ns|_=>partOf b ns
 |.cond _ a b,n :: ns=>match n with|0=>partOf a ns|_=>partOf b ns
 |.block _ c,_ :: ns=>partOf c ns
 |.loop c,_ :: ns=>partOf c ns
 |c,_=>c
theorem zJ{a b:α}(h:a=b):a=b:=by subst h;exact Eq.refl a
@[simp] theorem aq {α:Type} (a:α) (f:α->Bool):af (some a) f=f a:=zJ rfl
@[simp] theorem aaF {α:Type} (f:α->Bool):af none f=false:=rfl
@[simp] theorem iL (v:AV) (h:ag) (f:AV->ag->Bool):de (some (v,h)) f=f v h:=zJ rfl
@[simp] theorem gJ (r p:AV->ag->Bool) (v:AV) (h:ag):bH r p (.ret v) h=r v h:=zJ rfl
@[simp] theorem aaG (r p:AV->ag->Bool) (v:AV) (h:ag):bH r p (.panic v) h=p v h:=zJ rfl
@[simp] theorem ju (g:FuncId) (a b:List AV) (f:FuncId->List AV->List AV->Bool):vw (.func g a b) f=f g a b:=zJ rfl
theorem aF(a b:α):cond true a b=a:=zJ rfl
theorem aE(a b:α):cond false a b=b:=zJ rfl
@[simp] theorem cF (t a b:Bool):az (.bool t) a b=bif t then a else b:=by cases t<;>rfl
@[congr] theorem adg {α:Type} {o o':Option α} {f:α->Bool} (h:o=o'):af o f=af o' f:=by rw [h]
@[congr] theorem acf {o o':Option (AV×ag)} {f:AV->ag->Bool} (h:o=o'):de o f=de o' f:=by rw [h]
@[congr] theorem adh {x x':AV} {a b:Bool} (h:x=x'):az x a b=az x' a b:=by rw [h]
@[congr] theorem ahN {α:Type} {c c':Bool} {a b:α} (h:c=c'):cond c a b=cond c' a b:=by rw [h]
@[congr] theorem aaH {P:Program} {f:FuncId} {args zb:List AV} {h h':ag} {K:Out->ag->Bool} (e1:args=zb) (e2:h=h'):aA P f args h K=aA P f zb h' K:=by rw [e1,e2]
theorem nq{f:St->(AX->St->Bool)->Bool}{e0:Env}{h0:ag}(I:Nat->Env->ag->Prop)(m:Nat)(hI:I m e0 h0)
  (step:∀ m e h,I m e h->f ⟨e,n,defs,h⟩ (IY (fun m s=>s.n=n/\s.defs=defs/\I m s.env s.h) m K)=true):bX f ⟨e0,n,defs,h0⟩ K=true:=by
 refine cO.2 ⟨fun m s=>s.n=n/\s.defs=defs/\I m s.env s.h,⟨m,rfl,rfl,hI⟩,fun m s hs=>?_⟩;obtain ⟨e,n',d,h⟩:=s;obtain ⟨h1,h2,h3⟩:=hs;simp only at h1 h2 h3;subst h1;subst h2;exact step m e h h3
theorem uF{I:Nat->Env->ag->Prop}{m:Nat}{e:Env}{h:ag}(m':Nat)(hm:m'<m)(hI:I m' e h) :
  IY (fun m s=>s.n=n/\s.defs=defs/\I m s.env s.h) m K .normal ⟨e,n,defs,h⟩=true:=cO.2 ⟨m',hm,rfl,rfl,hI⟩
@[simp] theorem uG (I:Nat->St->Prop) (m:Nat) (K:AX->St->Bool) (id:Nat) (s:St):IY I m K (.exit id) s=K (.exit id) s:=rfl
@[simp] theorem yg (I:Nat->St->Prop) (m:Nat) (K:AX->St->Bool) (s:St):IY I m K .ret s=K .ret s:=rfl
@[simp] theorem ZC (I:Nat->St->Prop) (m:Nat) (K:AX->St->Bool) (v:AV) (s:St):IY I m K (.panic v) s=K (.panic v) s:=rfl
theorem aG{f:St->(AX->St->Bool)->Bool}{e0:Env}{h0:ag}(a N:Nat)(ha:a<=N)(J:Nat->Env->ag->Prop)(hJ:J a e0 h0)
  (step:∀ i e h,a<=i->i<N->J i e h->∀ K':AX->St->Bool,(∀ e' h',J (i+1) e' h'->K' .normal ⟨e',n,defs,h'⟩=true)->(∀ id s,K' (.exit id) s=K (.exit id) s)->(∀ s,K' .ret s=K .ret s)->(∀ v s,K' (.panic v) s=K (.panic v) s)->f ⟨e,n,defs,h⟩ K'=true)
  (done:∀ e h,J N e h->∀ K':AX->St->Bool,(∀ id s,K' (.exit id) s=K (.exit id) s)->f ⟨e,n,defs,h⟩ K'=true):bX f ⟨e0,n,defs,h0⟩ K=true:=by
 refine nq (fun m e h=>∃ i,a<=i/\i<=N/\m=N-i/\J i e h) (N-a) ⟨a,dK _,ha,rfl,hJ⟩ fun m e h hi=>?_;obtain ⟨i,hai,hi,rfl,hj⟩:=hi;by_cases eM:i<N
 ·exact step i e h hai eM hj _ (fun e' h' Ki=>uF (I:=fun m e h=>∃ i,a<=i/\i<=N/\m=N-i/\J i e h) (N-(i+1)) (by omega) ⟨i+1,by omega,by omega,rfl,Ki⟩) (fun _ _=>rfl) (fun _=>rfl) (fun _ _=>rfl)
 ·obtain rfl:i=N:=by omega
  exact done e h hj _ (fun _ _=>rfl)
end
end Go.AM
namespace Go.AM
open List Nat Bool Option
open Go Go.RowKit
noncomputable section
variable {k:IntKind} {h:ag} {α:Type} {sz i n b:Nat} {cs:List AV} {es:List Entry} {a:Int} {r:AV}
abbrev bQ:=List UInt8
abbrev Sl(α:Type):=Option (List α)
def Sl.l{α:Type}(x:Sl α):List α:=x.getD []
@[simp] theorem Sl.aaI {α:Type}:Sl.l (none:Sl α) = []:=rfl
@[simp] theorem Sl.OL {α:Type} (l:List α):Sl.l (some l)=l:=rfl
def an{α:Type}(enc:α->List AV)(sz:Nat):Sl α->AV
 |none=>.au
 |some l=>.ay (l.flatMap enc) 0 l.length sz
def encI(n:Int):List AV:=[.int .i64 n]
def encS(s:bQ):List AV:=[.str s]
def HE(b:Bool):List AV:=[.bool b]
theorem jh{enc:α->List AV}(he:∀ a,(enc a).length=sz)(l:List α):(l.flatMap enc).length=l.length*sz:=by
 induction l with
 |nil=>simp
 |cons a l ih=>rw [flatMap_cons,length_append,ih,he,length_cons,Nat.add_mul];omega
theorem sN{α:Type}{enc:α->List AV}{sz:Nat}(he:∀ a,(enc a).length=sz):∀ (l:List α) (i k:Nat) (a:α),l[i]?=some a->k<sz->(l.flatMap enc)[i*sz+k]?=(enc a)[k]?
 |[],i,k,a,h,_=>by simp at h
 |b :: l,0,k,a,h,hk=>by
  simp at h;subst h;rw [flatMap_cons,Nat.zero_mul,Nat.zero_add,getElem?_append_left (by rw [he];exact hk)]
 |b :: l,i+1,k,a,h,hk=>by
  rw [flatMap_cons,getElem?_append_right (by rw [he,Nat.add_mul];omega),he,<- sN he l i k a (by simpa using h) hk];congr 1;rw [Nat.add_mul];omega
theorem qH{α:Type}{enc:α->List AV}{sz:Nat}(he:∀ a,(enc a).length=sz):∀ (l:List α) (i:Nat) (a:α),l[i]?=some a->((l.flatMap enc).drop (i*sz)).take sz=enc a
 |[],i,a,h=>by simp at h
 |b :: l,0,a,h=>by
  simp at h;subst h;rw [flatMap_cons,Nat.zero_mul,drop_zero,take_append_of_le_length (by rw [he];exact dK _),kB (by rw [he];exact dK _)]
 |b :: l,i+1,a,h=>by
  have hd:List.drop sz (enc b) = []:=drop_of_length_le (by rw [he];exact dK _);rw [flatMap_cons,Nat.add_mul,Nat.one_mul,Nat.add_comm,<- drop_drop,drop_append_of_le_length (by rw [he];exact dK _),hd,nil_append];exact qH he l i a (by simpa using h)
theorem Mk{enc:α->List AV}(x:Sl α)(h:ag):b6 .slice (an enc sz x) h=some (.int .i64 (x.l.length:Int)):=by
 cases x<;>rfl
theorem aU{enc:α->List AV}(x:Sl α)(hi:i<x.l.length):dg sz (an enc sz x) (.int k (i:Int))=some (.dI (x.l.flatMap enc) (i*sz)):=by
 cases x with
 |none=>simp at hi
 |some l=>
  have tj:i<l.length:=hi;simp [dg,an,asNat,tj]
theorem RN{off:Nat}:ah none (.dI cs off) h=cs[off]?:=rfl
theorem fE{enc:α->List AV}(he:∀ a,(enc a).length=sz){l:List α}{a:α}(ha:l[i]?=some a){k:Nat}(hk:k<sz) :
  ah none (.dI (l.flatMap enc) (i*sz+k)) h=(enc a)[k]?:=sN he l i k a ha hk
theorem uH{enc:α->List AV}(he:∀ a,(enc a).length=1){l:List α}{a:α}(ha:l[i]?=some a) :
  ah none (.dI (l.flatMap enc) (i*1)) h=(enc a)[0]?:=sN he l i 0 a ha (by omega)
theorem cX{enc:α->List AV}(he:∀ a,(enc a).length=sz){l:List α}{a:α}(ha:l[i]?=some a) :
  ah (some sz) (.dI (l.flatMap enc) (i*sz)) h=some (.agg (enc a)):=by
 have hi:i<l.length:=(oB.1 ha).1
 have hle:i*sz+sz<=(l.flatMap enc).length:=by
  rw [jh he];have:(i+1)*sz<=l.length*sz:=mul_le_mul_right _ hi;rw [Nat.add_mul] at this;omega
 show kC (some sz) _ _=_;simp only [kC];rw [if_pos hle,qH he l i a ha]
theorem QA(n:Nat)(cs:List AV)(o:Nat):bL n (.dI cs o)=some (.dI cs (o+n)):=rfl
theorem OM(n b o:Nat):bL n (.ptr b o)=some (.ptr b (o+n)):=rfl
theorem ai{r:Option Nat}{o:Nat}(hb:h.get b=some (.cells cs)):ah r (.ptr b o) h=kC r cs o:=by simp [ah,hb]
theorem nJ(cs:List AV)(o:Nat):kC none cs o=cs[o]?:=rfl
theorem aD(h:ag)(o:mP):(ag.alloc h o).get h.next=some o:=by rw [ag.aW,if_pos rfl]
theorem bA:ag.next ag.empty=0:=rfl
def qm(r:AV):Out->ag->Bool:=fun o h=>yes (∃ v,o = .ret v/\Fz true h v r)
theorem Ml{v:AV}(hf:Fz true h v r):qm r (.ret v) h=true:=cO.2 ⟨v,rfl,hf⟩
theorem c8(hp:r.pure=true):qm r (.ret r) h=true:=Ml (.dP hp)
theorem Sem.data{P:Program}{f:FuncId}{args:List AV}(hs:Sem P f args ag.empty (qm r))(hp:AV.cN args=true){K:Out->ag->Bool}(hK:K (.ret r) h=true):Sem P f args h K:=
 hs.frozen hp fun o h' ho=>by
  obtain ⟨v,rfl,hf⟩:=cO.1 ho;exact ⟨v,r,rfl,hf,hK⟩
theorem HF{enc:α->List AV}(he:∀ a,AV.cN (enc a)=true)(l:List α):AV.cN (l.flatMap enc)=true:=by
 induction l with
 |nil=>rfl
 |cons a l ih=>rw [flatMap_cons];exact AV.Ko (he a) ih
theorem bI{enc:α->List AV}(he:∀ a,AV.cN (enc a)=true)(x:Sl α):(an enc sz x).pure=true:=by
 cases x with
 |none=>rfl
 |some l=>exact HF he l
theorem jj(n:Int):AV.cN (encI n)=true:=rfl
theorem jk(s:bQ):AV.cN (encS s)=true:=rfl
theorem I2(b:Bool):AV.cN (HE b)=true:=rfl
theorem rJ(n:Int):(encI n).length=1:=rfl
theorem jP(s:bQ):(encS s).length=1:=rfl
theorem je{b:Int}(h1:-9223372036854775808<=a+b)(h2:a+b<=9223372036854775807):aL .add (.int .i64 a) (.int .i64 b)=some (.int .i64 (a+b)):=by
 simp only [aL,if_true];rw [IntWalk.i64_in _ (by omega)]
theorem EH{b:Int}(h1:-9223372036854775808<=a-b)(h2:a-b<=9223372036854775807):aL .sub (.int .i64 a) (.int .i64 b)=some (.int .i64 (a-b)):=by
 simp only [aL,if_true];rw [IntWalk.i64_in _ (by omega)]
theorem yh{b:Int}(h1:-9223372036854775808<=a*b)(h2:a*b<=9223372036854775807):aL .mul (.int .i64 a) (.int .i64 b)=some (.int .i64 (a*b)):=by
 simp only [aL,if_true];rw [IntWalk.i64_in _ ⟨h1,h2⟩]
theorem uI(a b:Int):aL .lss (.int k a) (.int k b)=some (.bool (decide (a<b))):=by simp [aL]
theorem AP(a b:Int):aL .leq (.int k a) (.int k b)=some (.bool (decide (a<=b))):=by simp [aL]
theorem Kr(a b:Int):aL .gtr (.int k a) (.int k b)=some (.bool (decide (b<a))):=by simp [aL]
theorem yj(a b:Int):aL .geq (.int k a) (.int k b)=some (.bool (decide (b<=a))):=by simp [aL]
theorem eq_int(d:TypeDesc)(a b:Int):jU d (.int k a) (.int k b)=some (.bool (a==b)):=by simp [jU,V9]
theorem aaJ(d:TypeDesc)(a b:Int):sG d (.int k a) (.int k b)=some (.bool (!(a==b))):=by simp [sG,V9]
theorem Fv(d:TypeDesc)(a b:bQ):jU d (.str a) (.str b)=some (.bool (a==b)):=by simp [jU,V9]
theorem aaK(d:TypeDesc)(a b:bQ):sG d (.str a) (.str b)=some (.bool (!(a==b))):=by simp [sG,V9]
theorem WW(a b:Bool):jU .bool (.bool a) (.bool b)=some (.bool (a==b)):=by simp [jU,V9]
theorem EI(a b:Bool):sG .bool (.bool a) (.bool b)=some (.bool (!(a==b))):=by simp [sG,V9]
theorem rK(a:Bool):kM .not (.bool a)=some (.bool (!a)):=rfl
theorem qI(s:bQ)(h:ag):b6 .str (.str s) h=some (.int .i64 (s.length:Int)):=rfl
theorem EJ{s:bQ}{b:UInt8}(hb:s[i]?=some b):mY (.str s) (.int k (i:Int))=some (.int .u8 (b.toNat:Int)):=by
 simp [mY,asNat,hb]
theorem qY(v:AV)(vs:List AV):bY (.tuple (v :: vs)) 0=some v:=rfl
theorem yl(u v:AV)(vs:List AV):bY (.tuple (u :: v :: vs)) 1=some v:=rfl
theorem RO(u v w:AV)(vs:List AV):bY (.tuple (u :: v :: w :: vs)) 2=some w:=rfl
theorem cG(h:bE cs=true):eR (.agg cs)=some cs:=by simp [eR,AV.eN,h]
theorem uJ{x:AV}(h:x.one=true):eR x=some [x]:=by
 cases x<;>simp_all [eR,AV.eN,bE,AV.one]
theorem mj{enc:α->List AV}(x:Sl α):(an enc sz x).one=true:=by cases x<;>rfl
theorem cJ{o:Nat}{v:AV}(hb:h.get b=some (.cells cs))(hn:v.eN.length=n)(hv:bE v.eN=true)(hle:o+n<=cs.length):bh n (.ptr b o) v h=some (h.set b (.cells (lG cs o v.eN))):=by
 simp [bh,hb,hn,hv,hle]
theorem ct{b:Int}:(a==b)=decide (a=b):=by
 by_cases h:a=b<;>simp [h]
def cu:Nat:=4611686018427387904
theorem WX(a b:Int):aL .add (.int k a) (.int k b)=some (.int k (k.wrap (a+b))):=by simp [aL]
theorem aK(h:i<n)(hn:n<=cu):aL .add (.int .i64 (i:Int)) (.int .i64 1)=some (.int .i64 ((i+1:Nat):Int)):=by
 unfold cu at hn;rw [je (by omega) (by omega)];rfl
theorem bl(h:i<n):decide ((i:Int)<(n:Int))=true:=by simp;omega
theorem aX:decide ((n:Int)<(n:Int))=false:=by simp
structure bG (h h':ag):Prop where
 next:h.next<=h'.next
 get:∀ b,b<h.next->h'.get b=h.get b
theorem bG.refl(h:ag):bG h h:=⟨dK _,fun _ _=>rfl⟩
theorem bG.trans{a b c:ag}(x:bG a b)(y:bG b c):bG a c:=⟨Nat.le_trans x.next y.next,fun i hi=>by rw [y.get i (Nat.lt_of_lt_of_le hi x.next),x.get i hi]⟩
theorem bG.alloc(h:ag)(o:mP):bG h (h.alloc o):=⟨le_succ _,fun b hb=>by rw [ag.aW,if_neg (by omega)]⟩
theorem bG.set{h h':ag}(x:bG h h'){b:Nat}(hb:h.next<=b)(o:mP):bG h (h'.set b o):=⟨x.next,fun c hc=>by rw [ag.aP,if_neg (by omega)];exact x.get c hc⟩
theorem cR{zs:List AV}(hz:zs.length=n)(hc:cs.length=n)(ho:bE cs=true) :
  ∃ h',bh n (.ptr h.next 0) (.agg cs) (ag.alloc h (.cells zs))=some h'/\h'.get h.next=some (.cells cs)/\(∀ b,b≠h.next->h'.get b=h.get b)/\h'.next=h.next+1:=by
 have RP:∀ (cs zs pre:List AV),zs.length=cs.length->lG (pre++zs) pre.length cs=pre++cs:=by
  intro cs
  induction cs with
  |nil=>intro zs pre hl;have:zs = []:=eq_nil_of_length_eq_zero (by simpa using hl);simp [lG,this]
  |cons c cs ih=>
   intro zs pre hl
   cases zs with
   |nil=>simp at hl
   |cons z zs=>
    simp only [lG];rw [set_append_right _ _ (dK _)];simp only [Nat.sub_self,set_cons_zero];have:=ih zs (pre++[c]) (by simpa using hl);simpa using this
 refine ⟨(ag.alloc h (.cells zs)).set h.next (.cells cs),?_,?_,fun b hb=>?_,rfl⟩
 ·rw [cJ (aD h _) (by simpa [AV.eN] using hc) (by simpa [AV.eN] using ho) (by simp [AV.eN];omega)];have:=RP cs zs [] (by omega);simp only [nil_append,length_nil] at this;simp [AV.eN,this]
 ·rw [ag.aP,if_pos rfl]
 ·rw [ag.aP,if_neg hb,ag.aW,if_neg hb]
abbrev fy:=List (bQ×Int)
def fy.find(m:fy)(k:bQ):Option Int:=(List.find? (fun p=>k==p.1) m).map (·.2)
def fy.tP:fy->bQ->Int->fy
 |[],k,v=>[(k,v)]
 |p :: m,k,v=>if k==p.1 then (p.1,v) :: m else p :: fy.tP m k v
def mF:List Entry->fy->Prop
 |[],[]=>True
 |e :: es,p :: m=>e.1 = .str p.1/\e.2.1 = .int .i64 p.2/\mF es m
 |_,_=>False
theorem mF.jB{k:bQ}:∀ {es:List Entry} {m:fy} (i:Nat),mF es m->∃ r,jB .string (.str k) es i=some r/\match r with
  |none=>m.find k=none
  |some (j,v)=>∃ n q,j=i+n/\m.find k=some q/\v = .int .i64 q/\mF (fG es n v) m/\∀ w,mF (fG es n (.int .i64 w)) (m.tP k w)
 |[],[],i,_=>⟨none,rfl,rfl⟩
 |e :: es,p :: m,i,⟨h1,h2,h3⟩=>by
  obtain ⟨ek,ev,en⟩:=e;simp only at h1 h2;subst h1;subst h2;by_cases hk:k=p.1
  ·subst hk;refine ⟨some (i,.int .i64 p.2),by simp [Go.AM.jB,yW],0,p.2,rfl,by simp [fy.find],rfl,?_,fun w=>?_⟩
   ·simp [fG,mF,h3]
   ·simp [fG,mF,fy.tP,h3]
  ·obtain ⟨r,hr,hm⟩:=mF.jB (k:=k) (i+1) h3;have WY:(k==p.1)=false:=by simpa using hk
   refine ⟨r,by simp only [Go.AM.jB,yW,WY,hr],?_⟩
   cases r with
   |none=>simpa [fy.find,hk] using hm
   |some jv=>
    obtain ⟨n,q,a,b,c,d,e⟩:=hm;refine ⟨n+1,q,by omega,by simpa [fy.find,hk] using b,c,?_,fun w=>?_⟩
    ·have:=d;simp only [fG,getElem?_cons_succ] at this ⊢;split at this<;>simp_all [mF]
    ·have:=e w;simp only [fG,getElem?_cons_succ,fy.tP,WY] at this ⊢;split at this<;>simp_all [mF]
theorem mF.append{m:fy}(h:mF es m){k:bQ}(hk:m.find k=none)(v:Int)(n:Nat):mF (es++[(.str k,.int .i64 v,n)]) (m.tP k v):=by
 induction es generalizing m with
 |nil=>cases m with
  |nil=>simp [mF,fy.tP]
  |cons p m=>exact h.elim
 |cons e es ih=>cases m with
  |nil=>exact h.elim
  |cons p m=>
   obtain ⟨h1,h2,h3⟩:=h;have lF:k≠p.1:=fun e=>by subst e;simp [fy.find] at hk
   have ZD:fy.find m k=none:=by simpa [fy.find,lF] using hk
   have:=ih h3 ZD;simp only [cons_append,fy.tP];rw [if_neg (by simpa using lF)];exact ⟨h1,h2,this⟩
theorem uK{ck:Nat}{m:fy}(hb:h.get b=some (.map es ck))(hm:mF es m)(k:bQ) :
  dc .string (.int .i64 0) true (.map b) (.str k) h=some (.tuple [.int .i64 ((m.find k).getD 0),.bool (m.find k).isSome]):=by
 obtain ⟨r,hr,oE⟩:=mF.jB (k:=k) 0 hm;simp only [dc,lH,hb,pK,pJ,if_true,hr]
 cases r with
 |none=>simp at oE;simp [oE]
 |some jv=>
  obtain ⟨n,q,_,b,c,_⟩:=oE;obtain ⟨j,v⟩:=jv;simp only at c;subst c;simp [b]
theorem Fw{ck:Nat}{m:fy}(hb:h.get b=some (.map es ck))(hm:mF es m)(k:bQ)(v:Int) :
  ∃ wD EK,fT .string (.map b) (.str k) (.int .i64 v) h=some (h.set b (.map wD EK))/\mF wD (m.tP k v):=by
 obtain ⟨r,hr,oE⟩:=mF.jB (k:=k) 0 hm;simp only [fT,hb,pK,pJ,if_true,hr]
 cases r with
 |none=>simp at oE;exact ⟨_,_,rfl,hm.append oE v ck⟩
 |some jv=>
  obtain ⟨n,q,hj,_,_,_,e⟩:=oE;obtain ⟨j,w⟩:=jv;simp only [Nat.zero_add] at hj;subst hj;exact ⟨_,_,rfl,e v⟩
theorem aS:(∀ {α:Type} (a:α) (f:α->Bool),af (some a) f=f a)/\(∀ (v:AV) (h:ag) (f:AV->ag->Bool),de (some (v,h)) f=f v h)/\(∀ (r p:AV->ag->Bool) (v:AV) (h:ag),bH r p (.ret v) h=r v h) /\
  (∀ t a b:Bool,az (.bool t) a b=bif t then a else b)/\(∀ {α:Type} (a b:α),cond true a b=a)/\(∀ {α:Type} (a b:α),cond false a b=b)/\(∀ n b o:Nat,bL n (.ptr b o)=some (.ptr b (o+n)))/\(∀ (n:Nat) (cs:List AV) (o:Nat),bL n (.dI cs o)=some (.dI cs (o+n))) /\
  (∀ (cs:List AV) (o:Nat),kC none cs o=cs[o]?)/\(∀ n:Nat,0+n=n)/\(∀ n:Nat,n+0=n)/\(∀ {α:Type} (a:α) (l:List α),(a :: l)[0]?=some a)/\(∀ {α:Type} (a:α) (l:List α) (i:Nat),(a :: l)[i+1]?=l[i]?) /\
  (∀ (s:bQ) (h:ag),b6 .str (.str s) h=some (.int .i64 (s.length:Int)))/\(∀ {α:Type} {enc:α->List AV} {sz:Nat} (x:Sl α) (h:ag),b6 .slice (an enc sz x) h=some (.int .i64 (x.l.length:Int))) /\
  (∀ {k:IntKind} (a b:Int),aL .lss (.int k a) (.int k b)=some (.bool (decide (a<b))))/\(∀ {k:IntKind} (a b:Int),aL .leq (.int k a) (.int k b)=some (.bool (decide (a<=b))))/\(∀ {k:IntKind} (a b:Int),aL .gtr (.int k a) (.int k b)=some (.bool (decide (b<a))))/\(∀ {k:IntKind} (a b:Int),aL .geq (.int k a) (.int k b)=some (.bool (decide (b<=a)))) /\
  (∀ {k:IntKind} (d:TypeDesc) (a b:Int),jU d (.int k a) (.int k b)=some (.bool (a==b)))/\(∀ {k:IntKind} (d:TypeDesc) (a b:Int),sG d (.int k a) (.int k b)=some (.bool (!(a==b))))/\(∀ (d:TypeDesc) (a b:bQ),jU d (.str a) (.str b)=some (.bool (a==b)))/\(∀ (d:TypeDesc) (a b:bQ),sG d (.str a) (.str b)=some (.bool (!(a==b)))) /\
  (∀ a b:Bool,jU .bool (.bool a) (.bool b)=some (.bool (a==b)))/\(∀ a b:Bool,sG .bool (.bool a) (.bool b)=some (.bool (!(a==b))))/\(∀ a:Bool,kM .not (.bool a)=some (.bool (!a))) /\
  (∀ (v:AV) (vs:List AV),bY (.tuple (v :: vs)) 0=some v)/\(∀ (u v:AV) (vs:List AV),bY (.tuple (u :: v :: vs)) 1=some v)/\(∀ (u v w:AV) (vs:List AV),bY (.tuple (u :: v :: w :: vs)) 2=some w)/\(∀ (env:Env) (d:Nat) (v:AV) (t:Nat),aa env d v t=if t=d then v else env t):=
 ⟨aq,iL,gJ,cF,aF,aE,OM,QA,nJ,Nat.zero_add,Nat.add_zero,fun _ _=>rfl,fun _ _ _=>rfl,qI,Mk,uI,AP,Kr,yj,eq_int,aaJ,Fv,aaK,WW,EI,rK,qY,yl,RO,bg⟩
end
end Go.AM