/- Parts of a proof, merged out of smaller texts: the abstract machine and what functions do. Conditions: none. -/
import Derived.Test.YtmkffehchicgaaaGreatCh8
set_option linter.unusedSimpArgs false
set_option linter.unusedVariables false
namespace Go.AM
open Go Go.RowKit
noncomputable section
def dg(o:Option (AV×ag))(f:AV→ag→Bool):Bool:=af o fun p=>f p.1 p.2
def bJ(r p:AV→ag→Bool):Out→ag→Bool
 |.ret v,h=>r v h
 |.panic v,h=>p v h
def DK(ok:AV→ag→Bool)(pn:AV→ag→Bool):R→Bool
 |.ok v _ h=>ok v h
 |.panic v h=>pn v h
def pZ(x:AV)(f:FuncId→List AV→List AV→Bool):Bool:=
 match x with
 |.func g a b=>f g a b
 |_=>false
def aj(fn:Func):Code:=match fn.body with|some c=>c|none=>.skip
def partOf:Code→List Nat→Code
 |c,[]=>c
 |.seq a b,n :: ns=>match n with|0=>partOf a ns|_=>partOf b ns
 |.cond _ a b,n :: ns=>match n with|0=>partOf a ns|_=>partOf b ns
 |.block _ c,_ :: ns=>partOf c ns
 |.loop c,_ :: ns=>partOf c ns
 |c,_=>c
theorem tS{α:Type}{a b:α}(h:a=b):a=b:=by subst h;exact Eq.refl a
@[simp] theorem bindO_some {α:Type} (a:α) (f:α→Bool):af (some a) f=f a:=tS rfl
@[simp] theorem bindO_none {α:Type} (f:α→Bool):af none f=false:=rfl
@[simp] theorem bindO2_some (v:AV) (h:ag) (f:AV→ag→Bool):dg (some (v,h)) f=f v h:=tS rfl
@[simp] theorem outK_ret (r p:AV→ag→Bool) (v:AV) (h:ag):bJ r p (.ret v) h=r v h:=tS rfl
@[simp] theorem outK_panic (r p:AV→ag→Bool) (v:AV) (h:ag):bJ r p (.panic v) h=p v h:=tS rfl
@[simp] theorem callV_func (g:FuncId) (a b:List AV) (f:FuncId→List AV→List AV→Bool):pZ (.func g a b) f=f g a b:=tS rfl
theorem aC{α:Type}(a b:α):cond true a b=a:=tS rfl
theorem aD{α:Type}(a b:α):cond false a b=b:=tS rfl
@[simp] theorem condB_bool (t a b:Bool):ax (.bool t) a b=bif t then a else b:=by cases t<;>rfl
@[congr] theorem bindO_cg {α:Type} {o o':Option α} {f:α→Bool} (h:o=o'):af o f=af o' f:=by rw [h]
@[congr] theorem bindO2_cg {o o':Option (AV×ag)} {f:AV→ag→Bool} (h:o=o'):dg o f=dg o' f:=by rw [h]
@[congr] theorem condB_cg {x x':AV} {a b:Bool} (h:x=x'):ax x a b=ax x' a b:=by rw [h]
@[congr] theorem cond_cg {α:Type} {c c':Bool} {a b:α} (h:c=c'):cond c a b=cond c' a b:=by rw [h]
@[congr] theorem semCall_cg {P:Program} {f:FuncId} {args args':List AV} {h h':ag} {K:Out→ag→Bool} (e1:args=args') (e2:h=h'):ah P f args h K=ah P f args' h' K:=by rw [e1,e2]
theorem jb{f:St→(AX→St→Bool)→Bool}{K:AX→St→Bool}{n:Nat}{defs:List mu}{e0:Env}{h0:ag}(I:Nat→Env→ag→Prop)(m:Nat)(hI:I m e0 h0)
  (step:∀ m e h,I m e h→f ⟨e,n,defs,h⟩ (Cw (fun m s=>s.n=n∧s.defs=defs∧I m s.env s.h) m K)=true):bT f ⟨e0,n,defs,h0⟩ K=true:=by
 refine cw.2 ⟨fun m s=>s.n=n∧s.defs=defs∧I m s.env s.h,⟨m,rfl,rfl,hI⟩,fun m s hs=>?_⟩
 obtain ⟨e,n',d,h⟩:=s
 obtain ⟨h1,h2,h3⟩:=hs
 simp only at h1 h2 h3
 subst h1;subst h2
 exact step m e h h3
theorem oV{I:Nat→Env→ag→Prop}{n:Nat}{defs:List mu}{m:Nat}{K:AX→St→Bool}{e:Env}{h:ag}(m':Nat)(hm:m'<m)(hI:I m' e h) :
  Cw (fun m s=>s.n=n∧s.defs=defs∧I m s.env s.h) m K .normal ⟨e,n,defs,h⟩=true:=cw.2 ⟨m',hm,rfl,rfl,hI⟩
@[simp] theorem loopK_exit (I:Nat→St→Prop) (m:Nat) (K:AX→St→Bool) (id:Nat) (s:St):Cw I m K (.exit id) s=K (.exit id) s:=rfl
@[simp] theorem loopK_ret (I:Nat→St→Prop) (m:Nat) (K:AX→St→Bool) (s:St):Cw I m K .ret s=K .ret s:=rfl
@[simp] theorem loopK_panic (I:Nat→St→Prop) (m:Nat) (K:AX→St→Bool) (v:AV) (s:St):Cw I m K (.panic v) s=K (.panic v) s:=rfl
theorem aE{f:St→(AX→St→Bool)→Bool}{K:AX→St→Bool}{n:Nat}{defs:List mu}{e0:Env}{h0:ag}(a N:Nat)(ha:a≤N)(J:Nat→Env→ag→Prop)(hJ:J a e0 h0)
  (step:∀ i e h,a≤i→i<N→J i e h→∀ K':AX→St→Bool,(∀ e' h',J (i+1) e' h'→K' .normal ⟨e',n,defs,h'⟩=true)→(∀ id s,K' (.exit id) s=K (.exit id) s)→(∀ s,K' .ret s=K .ret s)→(∀ v s,K' (.panic v) s=K (.panic v) s)→f ⟨e,n,defs,h⟩ K'=true)
  (done:∀ e h,J N e h→∀ K':AX→St→Bool,(∀ id s,K' (.exit id) s=K (.exit id) s)→f ⟨e,n,defs,h⟩ K'=true):bT f ⟨e0,n,defs,h0⟩ K=true:=by
 refine jb (fun m e h=>∃ i,a≤i∧i≤N∧m=N-i∧J i e h) (N-a) ⟨a,Nat.le_refl _,ha,rfl,hJ⟩ fun m e h hi=>?_
 obtain ⟨i,hai,hi,rfl,hj⟩:=hi
 by_cases hlt:i<N
 ·exact step i e h hai hlt hj _ (fun e' h' hj'=>oV (I:=fun m e h=>∃ i,a≤i∧i≤N∧m=N-i∧J i e h) (N-(i+1)) (by omega) ⟨i+1,by omega,by omega,rfl,hj'⟩) (fun _ _=>rfl) (fun _=>rfl) (fun _ _=>rfl)
 ·obtain rfl:i=N:=by omega
  exact done e h hj _ (fun _ _=>rfl)
end
end Go.AM
namespace Go.AM
open Go Go.RowKit
noncomputable section
abbrev bC:=List UInt8
abbrev Sl(α:Type):=Option (List α)
def Sl.l{α:Type}(x:Sl α):List α:=x.getD []
@[simp] theorem Sl.l_none {α:Type}:Sl.l (none:Sl α) = []:=rfl
@[simp] theorem Sl.l_some {α:Type} (l:List α):Sl.l (some l)=l:=rfl
def aq{α:Type}(enc:α→List AV)(sz:Nat):Sl α→AV
 |none=>.nils
 |some l=>.islice (l.flatMap enc) 0 l.length sz
def encI(n:Int):List AV:=[.int .i64 n]
def encS(s:bC):List AV:=[.str s]
def BO(b:Bool):List AV:=[.bool b]
theorem gK{α:Type}{enc:α→List AV}{sz:Nat}(he:∀ a,(enc a).length=sz)(l:List α):(l.flatMap enc).length=l.length*sz:=by
 induction l with
 |nil=>simp
 |cons a l ih=>rw [List.flatMap_cons,List.length_append,ih,he,List.length_cons,Nat.add_mul];omega
theorem ny{α:Type}{enc:α→List AV}{sz:Nat}(he:∀ a,(enc a).length=sz):∀ (l:List α) (i k:Nat) (a:α),l[i]?=some a→k<sz→(l.flatMap enc)[i*sz+k]?=(enc a)[k]?
 |[],i,k,a,h,_=>by simp at h
 |b :: l,0,k,a,h,hk=>by
  simp at h;subst h
  rw [List.flatMap_cons,Nat.zero_mul,Nat.zero_add,List.getElem?_append_left (by rw [he];exact hk)]
 |b :: l,i+1,k,a,h,hk=>by
  rw [List.flatMap_cons,List.getElem?_append_right (by rw [he,Nat.add_mul];omega),he,← ny he l i k a (by simpa using h) hk]
  congr 1
  rw [Nat.add_mul];omega
theorem mA{α:Type}{enc:α→List AV}{sz:Nat}(he:∀ a,(enc a).length=sz):∀ (l:List α) (i:Nat) (a:α),l[i]?=some a→((l.flatMap enc).drop (i*sz)).take sz=enc a
 |[],i,a,h=>by simp at h
 |b :: l,0,a,h=>by
  simp at h;subst h
  rw [List.flatMap_cons,Nat.zero_mul,List.drop_zero,List.take_append_of_le_length (by rw [he];exact Nat.le_refl _),List.take_of_length_le (by rw [he];exact Nat.le_refl _)]
 |b :: l,i+1,a,h=>by
  have hd:List.drop sz (enc b) = []:=List.drop_of_length_le (by rw [he];exact Nat.le_refl _)
  rw [List.flatMap_cons,Nat.add_mul,Nat.one_mul,Nat.add_comm,← List.drop_drop,List.drop_append_of_le_length (by rw [he];exact Nat.le_refl _),hd,List.nil_append]
  exact mA he l i a (by simpa using h)
theorem E3{α:Type}{enc:α→List AV}{sz:Nat}(x:Sl α)(h:ag):bQ .slice (aq enc sz x) h=some (.int .i64 (x.l.length:Int)):=by
 cases x<;>rfl
theorem aS{α:Type}{enc:α→List AV}{sz:Nat}{k:IntKind}(x:Sl α){i:Nat}(hi:i<x.l.length):cS sz (aq enc sz x) (.int k (i:Int))=some (.iptr (x.l.flatMap enc) (i*sz)):=by
 cases x with
 |none=>simp at hi
 |some l=>
  have hi':i<l.length:=hi
  simp [cS,aq,asNat,hi']
theorem IP{cs:List AV}{off:Nat}{h:ag}:ai none (.iptr cs off) h=cs[off]?:=rfl
theorem eM{α:Type}{enc:α→List AV}{sz:Nat}(he:∀ a,(enc a).length=sz){l:List α}{i:Nat}{a:α}(ha:l[i]?=some a){k:Nat}(hk:k<sz){h:ag} :
  ai none (.iptr (l.flatMap enc) (i*sz+k)) h=(enc a)[k]?:=ny he l i k a ha hk
theorem oW{α:Type}{enc:α→List AV}(he:∀ a,(enc a).length=1){l:List α}{i:Nat}{a:α}(ha:l[i]?=some a){h:ag} :
  ai none (.iptr (l.flatMap enc) (i*1)) h=(enc a)[0]?:=ny he l i 0 a ha (by omega)
theorem cZ{α:Type}{enc:α→List AV}{sz:Nat}(he:∀ a,(enc a).length=sz){l:List α}{i:Nat}{a:α}(ha:l[i]?=some a){h:ag} :
  ai (some sz) (.iptr (l.flatMap enc) (i*sz)) h=some (.agg (enc a)):=by
 have hi:i<l.length:=(List.getElem?_eq_some_iff.1 ha).1
 have hle:i*sz+sz≤(l.flatMap enc).length:=by
  rw [gK he]
  have:(i+1)*sz≤l.length*sz:=Nat.mul_le_mul_right _ hi
  rw [Nat.add_mul] at this;omega
 show hG (some sz) _ _=_
 simp only [hG]
 rw [if_pos hle,mA he l i a ha]
theorem H9(n:Nat)(cs:List AV)(o:Nat):bK n (.iptr cs o)=some (.iptr cs (o+n)):=rfl
theorem GX(n b o:Nat):bK n (.ptr b o)=some (.ptr b (o+n)):=rfl
theorem an{r:Option Nat}{b o:Nat}{h:ag}{cs:List AV}(hb:h.get b=some (.cells cs)):ai r (.ptr b o) h=hG r cs o:=by simp [ai,hb]
theorem nZ(cs:List AV)(o:Nat):hG none cs o=cs[o]?:=rfl
theorem aI(h:ag)(o:jG):(ag.alloc h o).get h.next=some o:=by rw [ag.aV,if_pos rfl]
theorem bp:ag.next ag.empty=0:=rfl
def mS(r:AV):Out→ag→Bool:=fun o h=>yes (∃ v,o = .ret v∧Fz true h v r)
theorem E4{r v:AV}{h:ag}(hf:Fz true h v r):mS r (.ret v) h=true:=cw.2 ⟨v,rfl,hf⟩
theorem cK{r:AV}{h:ag}(hp:r.pure=true):mS r (.ret r) h=true:=E4 (.dD hp)
theorem Sem.data{P:Program}{f:FuncId}{args:List AV}{r:AV}(hs:Sem P f args ag.empty (mS r))(hp:AV.pureL args=true){h:ag}{K:Out→ag→Bool}(hK:K (.ret r) h=true):Sem P f args h K:=
 hs.frozen hp fun o h' ho=>by
  obtain ⟨v,rfl,hf⟩:=cw.1 ho
  exact ⟨v,r,rfl,hf,hK⟩
theorem BP{α:Type}{enc:α→List AV}(he:∀ a,AV.pureL (enc a)=true)(l:List α):AV.pureL (l.flatMap enc)=true:=by
 induction l with
 |nil=>rfl
 |cons a l ih=>rw [List.flatMap_cons];exact AV.DI (he a) ih
theorem bF{α:Type}{enc:α→List AV}{sz:Nat}(he:∀ a,AV.pureL (enc a)=true)(x:Sl α):(aq enc sz x).pure=true:=by
 cases x with
 |none=>rfl
 |some l=>exact BP he l
theorem iL(n:Int):AV.pureL (encI n)=true:=rfl
theorem gH(s:bC):AV.pureL (encS s)=true:=rfl
theorem CA(b:Bool):AV.pureL (BO b)=true:=rfl
theorem od(n:Int):(encI n).length=1:=rfl
theorem gL(s:bC):(encS s).length=1:=rfl
theorem gB{a b:Int}(h1:-9223372036854775808≤a+b)(h2:a+b≤9223372036854775807):aJ .add (.int .i64 a) (.int .i64 b)=some (.int .i64 (a+b)):=by
 simp only [aJ,if_true];rw [IntWalk.i64_in _ (by omega)]
theorem zl{a b:Int}(h1:-9223372036854775808≤a-b)(h2:a-b≤9223372036854775807):aJ .sub (.int .i64 a) (.int .i64 b)=some (.int .i64 (a-b)):=by
 simp only [aJ,if_true];rw [IntWalk.i64_in _ (by omega)]
theorem r8{a b:Int}(h1:-9223372036854775808≤a*b)(h2:a*b≤9223372036854775807):aJ .mul (.int .i64 a) (.int .i64 b)=some (.int .i64 (a*b)):=by
 simp only [aJ,if_true];rw [IntWalk.i64_in _ ⟨h1,h2⟩]
theorem oX{k:IntKind}(a b:Int):aJ .lss (.int k a) (.int k b)=some (.bool (decide (a<b))):=by simp [aJ]
theorem uV{k:IntKind}(a b:Int):aJ .leq (.int k a) (.int k b)=some (.bool (decide (a≤b))):=by simp [aJ]
theorem DL{k:IntKind}(a b:Int):aJ .gtr (.int k a) (.int k b)=some (.bool (decide (b<a))):=by simp [aJ]
theorem r9{k:IntKind}(a b:Int):aJ .geq (.int k a) (.int k b)=some (.bool (decide (b≤a))):=by simp [aJ]
theorem eq_int{k:IntKind}(d:TypeDesc)(a b:Int):iF d (.int k a) (.int k b)=some (.bool (a==b)):=by simp [iF,LD]
theorem OE{k:IntKind}(d:TypeDesc)(a b:Int):nI d (.int k a) (.int k b)=some (.bool (!(a==b))):=by simp [nI,LD]
theorem Aa(d:TypeDesc)(a b:bC):iF d (.str a) (.str b)=some (.bool (a==b)):=by simp [iF,LD]
theorem OF(d:TypeDesc)(a b:bC):nI d (.str a) (.str b)=some (.bool (!(a==b))):=by simp [nI,LD]
theorem L8(a b:Bool):iF .bool (.bool a) (.bool b)=some (.bool (a==b)):=by simp [iF,LD]
theorem zm(a b:Bool):nI .bool (.bool a) (.bool b)=some (.bool (!(a==b))):=by simp [nI,LD]
theorem mT(a:Bool):ji .not (.bool a)=some (.bool (!a)):=rfl
theorem mB(s:bC)(h:ag):bQ .str (.str s) h=some (.int .i64 (s.length:Int)):=rfl
theorem zn{s:bC}{i:Nat}{k:IntKind}{b:UInt8}(hb:s[i]?=some b):jN (.str s) (.int k (i:Int))=some (.int .u8 (b.toNat:Int)):=by
 simp [jN,asNat,hb]
theorem mE(v:AV)(vs:List AV):cj (.tuple (v :: vs)) 0=some v:=rfl
theorem se(u v:AV)(vs:List AV):cj (.tuple (u :: v :: vs)) 1=some v:=rfl
theorem IQ(u v w:AV)(vs:List AV):cj (.tuple (u :: v :: w :: vs)) 2=some w:=rfl
theorem cA{cs:List AV}(h:br cs=true):ew (.agg cs)=some cs:=by simp [ew,AV.dP,h]
theorem oY{x:AV}(h:x.one=true):ew x=some [x]:=by
 cases x<;>simp_all [ew,AV.dP,br,AV.one]
theorem jm{α:Type}{enc:α→List AV}{sz:Nat}(x:Sl α):(aq enc sz x).one=true:=by cases x<;>rfl
theorem dV{n b o:Nat}{h:ag}{cs:List AV}{v:AV}(hb:h.get b=some (.cells cs))(hn:v.dP.length=n)(hv:br v.dP=true)(hle:o+n≤cs.length):bL n (.ptr b o) v h=some (h.set b (.cells (jh cs o v.dP))):=by
 simp [bL,hb,hn,hv,hle]
theorem ct{a b:Int}:(a==b)=decide (a=b):=by
 by_cases h:a=b<;>simp [h]
end
end Go.AM
namespace Go.AM
open Go Go.RowKit
noncomputable section
def cm:Nat:=4611686018427387904
theorem L9{k:IntKind}(a b:Int):aJ .add (.int k a) (.int k b)=some (.int k (k.wrap (a+b))):=by simp [aJ]
theorem aK{i n:Nat}(h:i<n)(hn:n≤cm):aJ .add (.int .i64 (i:Int)) (.int .i64 1)=some (.int .i64 ((i+1:Nat):Int)):=by
 unfold cm at hn
 rw [gB (by omega) (by omega)];rfl
theorem bf{i n:Nat}(h:i<n):decide ((i:Int)<(n:Int))=true:=by simp;omega
theorem aT{n:Nat}:decide ((n:Int)<(n:Int))=false:=by simp
structure bR (h h':ag):Prop where
 next:h.next≤h'.next
 get:∀ b,b<h.next→h'.get b=h.get b
theorem bR.refl(h:ag):bR h h:=⟨Nat.le_refl _,fun _ _=>rfl⟩
theorem bR.trans{a b c:ag}(x:bR a b)(y:bR b c):bR a c:=⟨Nat.le_trans x.next y.next,fun i hi=>by rw [y.get i (Nat.lt_of_lt_of_le hi x.next),x.get i hi]⟩
theorem bR.alloc(h:ag)(o:jG):bR h (h.alloc o):=⟨Nat.le_succ _,fun b hb=>by rw [ag.aV,if_neg (by omega)]⟩
theorem bR.set{h h':ag}(x:bR h h'){b:Nat}(hb:h.next≤b)(o:jG):bR h (h'.set b o):=⟨x.next,fun c hc=>by rw [ag.aO,if_neg (by omega)];exact x.get c hc⟩
theorem cL{h:ag}{zs cs:List AV}{n:Nat}(hz:zs.length=n)(hc:cs.length=n)(ho:br cs=true) :
  ∃ h',bL n (.ptr h.next 0) (.agg cs) (ag.alloc h (.cells zs))=some h'∧h'.get h.next=some (.cells cs)∧(∀ b,b≠h.next→h'.get b=h.get b)∧h'.next=h.next+1:=by
 have hput:∀ (cs zs pre:List AV),zs.length=cs.length→jh (pre++zs) pre.length cs=pre++cs:=by
  intro cs
  induction cs with
  |nil=>intro zs pre hl;have:zs = []:=List.eq_nil_of_length_eq_zero (by simpa using hl);simp [jh,this]
  |cons c cs ih=>
   intro zs pre hl
   cases zs with
   |nil=>simp at hl
   |cons z zs=>
    simp only [jh]
    rw [List.set_append_right _ _ (Nat.le_refl _)]
    simp only [Nat.sub_self,List.set_cons_zero]
    have:=ih zs (pre++[c]) (by simpa using hl)
    simpa using this
 refine ⟨(ag.alloc h (.cells zs)).set h.next (.cells cs),?_,?_,fun b hb=>?_,rfl⟩
 ·rw [dV (aI h _) (by simpa [AV.dP] using hc) (by simpa [AV.dP] using ho) (by simp [AV.dP];omega)]
  have:=hput cs zs [] (by omega)
  simp only [List.nil_append,List.length_nil] at this
  simp [AV.dP,this]
 ·rw [ag.aO,if_pos rfl]
 ·rw [ag.aO,if_neg hb,ag.aV,if_neg hb]
abbrev dF:=List (bC×Int)
def dF.find(m:dF)(k:bC):Option Int:=(List.find? (fun p=>k==p.1) m).map (·.2)
def dF.oZ:dF→bC→Int→dF
 |[],k,v=>[(k,v)]
 |p :: m,k,v=>if k==p.1 then (p.1,v) :: m else p :: dF.oZ m k v
def jC:List Entry→dF→Prop
 |[],[]=>True
 |e :: es,p :: m=>e.1 = .str p.1∧e.2.1 = .int .i64 p.2∧jC es m
 |_,_=>False
theorem jC.iQ{k:bC}:∀ {es:List Entry} {m:dF} (i:Nat),jC es m→∃ r,iQ .string (.str k) es i=some r∧match r with
  |none=>m.find k=none
  |some (j,v)=>∃ n q,j=i+n∧m.find k=some q∧v = .int .i64 q∧jC (eO es n v) m∧∀ w,jC (eO es n (.int .i64 w)) (m.oZ k w)
 |[],[],i,_=>⟨none,rfl,rfl⟩
 |e :: es,p :: m,i,⟨h1,h2,h3⟩=>by
  obtain ⟨ek,ev,en⟩:=e
  simp only at h1 h2
  subst h1;subst h2
  by_cases hk:k=p.1
  ·subst hk
   refine ⟨some (i,.int .i64 p.2),by simp [Go.AM.iQ,tc],0,p.2,rfl,by simp [dF.find],rfl,?_,fun w=>?_⟩
   ·simp [eO,jC,h3]
   ·simp [eO,jC,dF.oZ,h3]
  ·obtain ⟨r,hr,hm⟩:=jC.iQ (k:=k) (i+1) h3
   have hkb:(k==p.1)=false:=by simpa using hk
   refine ⟨r,by simp only [Go.AM.iQ,tc,hkb,hr],?_⟩
   cases r with
   |none=>simpa [dF.find,hk] using hm
   |some jv=>
    obtain ⟨n,q,a,b,c,d,e⟩:=hm
    refine ⟨n+1,q,by omega,by simpa [dF.find,hk] using b,c,?_,fun w=>?_⟩
    ·have:=d
     simp only [eO,List.getElem?_cons_succ] at this ⊢
     split at this<;>simp_all [jC]
    ·have:=e w
     simp only [eO,List.getElem?_cons_succ,dF.oZ,hkb] at this ⊢
     split at this<;>simp_all [jC]
theorem jC.append{es:List Entry}{m:dF}(h:jC es m){k:bC}(hk:m.find k=none)(v:Int)(n:Nat):jC (es++[(.str k,.int .i64 v,n)]) (m.oZ k v):=by
 induction es generalizing m with
 |nil=>cases m with
  |nil=>simp [jC,dF.oZ]
  |cons p m=>exact h.elim
 |cons e es ih=>cases m with
  |nil=>exact h.elim
  |cons p m=>
   obtain ⟨h1,h2,h3⟩:=h
   have hne:k≠p.1:=fun e=>by subst e;simp [dF.find] at hk
   have hk':dF.find m k=none:=by simpa [dF.find,hne] using hk
   have:=ih h3 hk'
   simp only [List.cons_append,dF.oZ]
   rw [if_neg (by simpa using hne)]
   exact ⟨h1,h2,this⟩
theorem pe{b:Nat}{h:ag}{es:List Entry}{ck:Nat}{m:dF}(hb:h.get b=some (.map es ck))(hm:jC es m)(k:bC) :
  ei .string (.int .i64 0) true (.map b) (.str k) h=some (.tuple [.int .i64 ((m.find k).getD 0),.bool (m.find k).isSome]):=by
 obtain ⟨r,hr,hm'⟩:=jC.iQ (k:=k) 0 hm
 simp only [ei,kq,hb,nT,nS,if_true,hr]
 cases r with
 |none=>simp at hm';simp [hm']
 |some jv=>
  obtain ⟨n,q,_,b,c,_⟩:=hm'
  obtain ⟨j,v⟩:=jv
  simp only at c
  subst c
  simp [b]
theorem Ab{b:Nat}{h:ag}{es:List Entry}{ck:Nat}{m:dF}(hb:h.get b=some (.map es ck))(hm:jC es m)(k:bC)(v:Int) :
  ∃ es' ck',eF .string (.map b) (.str k) (.int .i64 v) h=some (h.set b (.map es' ck'))∧jC es' (m.oZ k v):=by
 obtain ⟨r,hr,hm'⟩:=jC.iQ (k:=k) 0 hm
 simp only [eF,hb,nT,nS,if_true,hr]
 cases r with
 |none=>simp at hm';exact ⟨_,_,rfl,hm.append hm' v ck⟩
 |some jv=>
  obtain ⟨n,q,hj,_,_,_,e⟩:=hm'
  obtain ⟨j,w⟩:=jv
  simp only [Nat.zero_add] at hj
  subst hj
  exact ⟨_,_,rfl,e v⟩
theorem aQ:(∀ {α:Type} (a:α) (f:α→Bool),af (some a) f=f a)∧(∀ (v:AV) (h:ag) (f:AV→ag→Bool),dg (some (v,h)) f=f v h)∧(∀ (r p:AV→ag→Bool) (v:AV) (h:ag),bJ r p (.ret v) h=r v h) ∧
  (∀ t a b:Bool,ax (.bool t) a b=bif t then a else b)∧(∀ {α:Type} (a b:α),cond true a b=a)∧(∀ {α:Type} (a b:α),cond false a b=b)∧(∀ n b o:Nat,bK n (.ptr b o)=some (.ptr b (o+n)))∧(∀ (n:Nat) (cs:List AV) (o:Nat),bK n (.iptr cs o)=some (.iptr cs (o+n))) ∧
  (∀ (cs:List AV) (o:Nat),hG none cs o=cs[o]?)∧(∀ n:Nat,0+n=n)∧(∀ n:Nat,n+0=n)∧(∀ {α:Type} (a:α) (l:List α),(a :: l)[0]?=some a)∧(∀ {α:Type} (a:α) (l:List α) (i:Nat),(a :: l)[i+1]?=l[i]?) ∧
  (∀ (s:bC) (h:ag),bQ .str (.str s) h=some (.int .i64 (s.length:Int)))∧(∀ {α:Type} {enc:α→List AV} {sz:Nat} (x:Sl α) (h:ag),bQ .slice (aq enc sz x) h=some (.int .i64 (x.l.length:Int))) ∧
  (∀ {k:IntKind} (a b:Int),aJ .lss (.int k a) (.int k b)=some (.bool (decide (a<b))))∧(∀ {k:IntKind} (a b:Int),aJ .leq (.int k a) (.int k b)=some (.bool (decide (a≤b))))∧(∀ {k:IntKind} (a b:Int),aJ .gtr (.int k a) (.int k b)=some (.bool (decide (b<a))))∧(∀ {k:IntKind} (a b:Int),aJ .geq (.int k a) (.int k b)=some (.bool (decide (b≤a)))) ∧
  (∀ {k:IntKind} (d:TypeDesc) (a b:Int),iF d (.int k a) (.int k b)=some (.bool (a==b)))∧(∀ {k:IntKind} (d:TypeDesc) (a b:Int),nI d (.int k a) (.int k b)=some (.bool (!(a==b))))∧(∀ (d:TypeDesc) (a b:bC),iF d (.str a) (.str b)=some (.bool (a==b)))∧(∀ (d:TypeDesc) (a b:bC),nI d (.str a) (.str b)=some (.bool (!(a==b)))) ∧
  (∀ a b:Bool,iF .bool (.bool a) (.bool b)=some (.bool (a==b)))∧(∀ a b:Bool,nI .bool (.bool a) (.bool b)=some (.bool (!(a==b))))∧(∀ a:Bool,ji .not (.bool a)=some (.bool (!a))) ∧
  (∀ (v:AV) (vs:List AV),cj (.tuple (v :: vs)) 0=some v)∧(∀ (u v:AV) (vs:List AV),cj (.tuple (u :: v :: vs)) 1=some v)∧(∀ (u v w:AV) (vs:List AV),cj (.tuple (u :: v :: w :: vs)) 2=some w)∧(∀ (env:Env) (d:Nat) (v:AV) (t:Nat),aa env d v t=if t=d then v else env t):=
 ⟨bindO_some,bindO2_some,outK_ret,condB_bool,aC,aD,GX,H9,nZ,Nat.zero_add,Nat.add_zero,fun _ _=>rfl,fun _ _ _=>rfl,mB,E3,oX,uV,DL,r9,eq_int,OE,Aa,OF,L8,zm,mT,mE,se,IQ,bt⟩
end
end Go.AM