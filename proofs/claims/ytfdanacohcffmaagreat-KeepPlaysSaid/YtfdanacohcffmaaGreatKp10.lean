/- Parts of the proof. Conditions: none. -/
import Derived.Test.YtfdanacohcffmaaGreatKp9
set_option linter.unusedSimpArgs false
set_option linter.unusedVariables false
namespace Go.AM
open List Nat Bool Option
open Go Go.RowKit
noncomputable section
variable {K:AX->St->Bool} {defs:List uV} {α:Type} {n:Nat}
def cG(o:Option (AV×Heap))(f:AV->Heap->Bool):Bool:=aa o fun p=>f p.1 p.2
def bf(r p:AV->Heap->Bool):Out->Heap->Bool
 |.ret v,h=>r v h
 |.panic v,h=>p v h
def Mi(ok:AV->Heap->Bool)(pn:AV->Heap->Bool):R->Bool
 |.ok v _ h=>ok v h
 |.panic v h=>pn v h
def ud(x:AV)(f:FuncId->List AV->List AV->Bool):Bool:=
 match x with
 |.func g a b=>f g a b
 |_=>false
def ag(fn:Func):Code:=match fn.body with|some c=>c|none=>.skip
def partOf:Code->List Nat->Code
 |c,[]=>c
 |.seq a b,n :: ns=>match n with|0=>partOf a ns|_=>partOf b ns
 |.cond _ a b,n :: ns=>match n with|0=>partOf a ns|_=>partOf b ns
 |.block _ c,_ :: ns=>partOf c ns
 |.loop c,_ :: ns=>partOf c ns
 |c,_=>c
theorem Bk{a b:α}(h:a=b):a=b:=by subst h;exact Eq.refl a
@[simp] theorem Hg {α:Type} (a:α) (f:α->Bool):aa (some a) f=f a:=Bk rfl
@[simp] theorem adB {α:Type} (f:α->Bool):aa none f=false:=rfl
@[simp] theorem gO (v:AV) (h:Heap) (f:AV->Heap->Bool):cG (some (v,h)) f=f v h:=Bk rfl
@[simp] theorem gz (r p:AV->Heap->Bool) (v:AV) (h:Heap):bf r p (.ret v) h=r v h:=Bk rfl
@[simp] theorem adC (r p:AV->Heap->Bool) (v:AV) (h:Heap):bf r p (.panic v) h=p v h:=Bk rfl
@[simp] theorem iy (g:FuncId) (a b:List AV) (f:FuncId->List AV->List AV->Bool):ud (.func g a b) f=f g a b:=Bk rfl
theorem aL(a b:α):cond true a b=a:=Bk rfl
theorem aK(a b:α):cond false a b=b:=Bk rfl
@[simp] theorem cu (t a b:Bool):aq (.bool t) a b=bif t then a else b:=by cases t<;>rfl
@[congr] theorem af2 {α:Type} {o o':Option α} {f:α->Bool} (h:o=o'):aa o f=aa o' f:=by rw [h]
@[congr] theorem aoI {k:Nat} {x x':AV} {h h':Heap} {f:AV->AV->Bool} (e:x=x') (g:h=h'):fl k x h f=fl k x' h' f:=by rw [e,g]
@[congr] theorem aoJ {k:Nat} {x x' i i':AV} {h h':Heap} {f:AV->AV->Bool} (e:x=x') (d:i=i') (g:h=h'):il k x i h f=il k x' i' h' f:=by rw [e,d,g]
@[congr] theorem alR {k j:Nat} {x x' i i':AV} {h h':Heap} {f:AV->AV->AV->Bool} (e:x=x') (d:i=i') (g:h=h'):ou k x i j h f=ou k x' i' j h' f:=by rw [e,d,g]
@[congr] theorem afg {o o':Option (AV×Heap)} {f:AV->Heap->Bool} (h:o=o'):cG o f=cG o' f:=by rw [h]
@[congr] theorem af3 {x x':AV} {a b:Bool} (h:x=x'):aq x a b=aq x' a b:=by rw [h]
@[congr] theorem akC {α:Type} {c c':Bool} {a b:α} (h:c=c'):cond c a b=cond c' a b:=by rw [h]
@[congr] theorem adD {P:Program} {f:FuncId} {args AS:List AV} {h h':Heap} {K:Out->Heap->Bool} (e1:args=AS) (e2:h=h'):an P f args h K=an P f AS h' K:=by rw [e1,e2]
theorem jU{f:St->(AX->St->Bool)->Bool}{e0:Env}{h0:Heap}(I:Nat->Env->Heap->Prop)(m:Nat)(hI:I m e0 h0)
  (step:∀ m e h,I m e h->f ⟨e,n,defs,h⟩ (KD (fun m s=>s.n=n/\s.defs=defs/\I m s.env s.h) m K)=true):bJ f ⟨e0,n,defs,h0⟩ K=true:=by
 refine bO.2 ⟨fun m s=>s.n=n/\s.defs=defs/\I m s.env s.h,⟨m,rfl,rfl,hI⟩,fun m s hs=>?_⟩;obtain ⟨e,n',d,h⟩:=s;obtain ⟨h1,h2,h3⟩:=hs;simp only at h1 h2 h3;subst h1;subst h2;exact step m e h h3
theorem vN{I:Nat->Env->Heap->Prop}{m:Nat}{e:Env}{h:Heap}(m':Nat)(hm:m'<m)(hI:I m' e h) :
  KD (fun m s=>s.n=n/\s.defs=defs/\I m s.env s.h) m K .normal ⟨e,n,defs,h⟩=true:=bO.2 ⟨m',hm,rfl,rfl,hI⟩
@[simp] theorem lZ (I:Nat->St->Prop) (m:Nat) (K:AX->St->Bool) (id:Nat) (s:St):KD I m K (.exit id) s=K (.exit id) s:=rfl
@[simp] theorem zF (I:Nat->St->Prop) (m:Nat) (K:AX->St->Bool) (s:St):KD I m K .ret s=K .ret s:=rfl
@[simp] theorem ack (I:Nat->St->Prop) (m:Nat) (K:AX->St->Bool) (v:AV) (s:St):KD I m K (.panic v) s=K (.panic v) s:=rfl
theorem aB{f:St->(AX->St->Bool)->Bool}{e0:Env}{h0:Heap}(a N:Nat)(ha:a<=N)(J:Nat->Env->Heap->Prop)(hJ:J a e0 h0)
  (step:∀ i e h,a<=i->i<N->J i e h->∀ K':AX->St->Bool,(∀ e' h',J (i+1) e' h'->K' .normal ⟨e',n,defs,h'⟩=true)->(∀ id s,K' (.exit id) s=K (.exit id) s)->(∀ s,K' .ret s=K .ret s)->(∀ v s,K' (.panic v) s=K (.panic v) s)->f ⟨e,n,defs,h⟩ K'=true)
  (done:∀ e h,J N e h->∀ K':AX->St->Bool,(∀ id s,K' (.exit id) s=K (.exit id) s)->f ⟨e,n,defs,h⟩ K'=true):bJ f ⟨e0,n,defs,h0⟩ K=true:=by
 refine jU (fun m e h=>∃ i,a<=i/\i<=N/\m=N-i/\J i e h) (N-a) ⟨a,dK _,ha,rfl,hJ⟩ fun m e h hi=>?_;obtain ⟨i,hai,hi,rfl,hj⟩:=hi;by_cases hlt:i<N
 ·exact step i e h hai hlt hj _ (fun e' h' Mc=>vN (I:=fun m e h=>∃ i,a<=i/\i<=N/\m=N-i/\J i e h) (N-(i+1)) (by omega) ⟨i+1,by omega,by omega,rfl,Mc⟩) (fun _ _=>rfl) (fun _=>rfl) (fun _ _=>rfl)
 ·obtain rfl:i=N:=by omega
  exact done e h hj _ (fun _ _=>rfl)
end
end Go.AM
namespace Go.AM
open List Nat Bool Option
open Go Go.RowKit
noncomputable section
variable {h:Heap} {k:IntKind} {α:Type} {cs:List AV} {sz i b n:Nat} {es:List Entry} {a:Int} {r v:AV}
abbrev cc:=List UInt8
abbrev Sl(α:Type):=Option (List α)
def Sl.l{α:Type}(x:Sl α):List α:=x.getD []
@[simp] theorem Sl.adE {α:Type}:Sl.l (none:Sl α) = []:=rfl
@[simp] theorem Sl.Dt {α:Type} (l:List α):Sl.l (some l)=l:=rfl
def dR{α:Type}(enc:α->List AV)(sz:Nat):Sl α->AV
 |none=>.ai
 |some l=>.ax (l.flatMap enc) 0 l.length sz
def encI(n:Int):List AV:=[.int .i64 n]
def encS(s:cc):List AV:=[.str s]
def Hh(b:Bool):List AV:=[.bool b]
theorem eS{enc:α->List AV}(he:∀ a,(enc a).length=sz)(l:List α):(l.flatMap enc).length=l.length*sz:=by
 induction l with
 |nil=>simp
 |cons a l ih=>rw [flatMap_cons,length_append,ih,he,length_cons,Nat.add_mul];omega
theorem ue{α:Type}{enc:α->List AV}{sz:Nat}(he:∀ a,(enc a).length=sz):∀ (l:List α) (i k:Nat) (a:α),l[i]?=some a->k<sz->(l.flatMap enc)[i*sz+k]?=(enc a)[k]?
 |[],i,k,a,h,_=>by simp at h
 |b :: l,0,k,a,h,hk=>by
  simp at h;subst h;rw [flatMap_cons,Nat.zero_mul,Nat.zero_add,getElem?_append_left (by rw [he];exact hk)]
 |b :: l,i+1,k,a,h,hk=>by
  rw [flatMap_cons,getElem?_append_right (by rw [he,Nat.add_mul];omega),he,<- ue he l i k a (by simpa using h) hk];congr 1;rw [Nat.add_mul];omega
theorem sg{α:Type}{enc:α->List AV}{sz:Nat}(he:∀ a,(enc a).length=sz):∀ (l:List α) (i:Nat) (a:α),l[i]?=some a->((l.flatMap enc).drop (i*sz)).take sz=enc a
 |[],i,a,h=>by simp at h
 |b :: l,0,a,h=>by
  simp at h;subst h;rw [flatMap_cons,Nat.zero_mul,drop_zero,take_append_of_le_length (by rw [he];exact dK _),jD (by rw [he];exact dK _)]
 |b :: l,i+1,a,h=>by
  have hd:List.drop sz (enc b) = []:=drop_of_length_le (by rw [he];exact dK _);rw [flatMap_cons,Nat.add_mul,Nat.one_mul,Nat.add_comm,<- drop_drop,drop_append_of_le_length (by rw [he];exact dK _),hd,nil_append];exact sg he l i a (by simpa using h)
theorem Oc{enc:α->List AV}(x:Sl α)(h:Heap):bK .slice (dR enc sz x) h=some (.int .i64 (x.l.length:Int)):=by
 cases x<;>rfl
theorem aQ{enc:α->List AV}(x:Sl α)(hi:i<x.l.length):jw sz (dR enc sz x) (.int k (i:Int))=some (.dL (x.l.flatMap enc) (i*sz)):=by
 cases x with
 |none=>simp at hi
 |some l=>
  have Ae:i<l.length:=hi;simp [jw,dR,asNat,Ae]
theorem Uu{off:Nat}:au none (.dL cs off) h=cs[off]?:=rfl
theorem dU{enc:α->List AV}(he:∀ a,(enc a).length=sz){l:List α}{a:α}(ha:l[i]?=some a){k:Nat}(hk:k<sz) :
  au none (.dL (l.flatMap enc) (i*sz+k)) h=(enc a)[k]?:=ue he l i k a ha hk
theorem vO{enc:α->List AV}(he:∀ a,(enc a).length=1){l:List α}{a:α}(ha:l[i]?=some a) :
  au none (.dL (l.flatMap enc) (i*1)) h=(enc a)[0]?:=ue he l i 0 a ha (by omega)
theorem dB{enc:α->List AV}(he:∀ a,(enc a).length=sz){l:List α}{a:α}(ha:l[i]?=some a) :
  au (some sz) (.dL (l.flatMap enc) (i*sz)) h=some (.agg (enc a)):=by
 have hi:i<l.length:=(lR.1 ha).1
 have hle:i*sz+sz<=(l.flatMap enc).length:=by
  rw [eS he];have:(i+1)*sz<=l.length*sz:=mul_le_mul_right _ hi;rw [Nat.add_mul] at this;omega
 show kQ (some sz) _ _=_;simp only [kQ];rw [if_pos hle,sg he l i a ha]
theorem Td(n:Nat)(cs:List AV)(o:Nat):ja n (.dL cs o)=some (.dL cs (o+n)):=rfl
theorem Du(n b o:Nat):ja n (.ptr b o)=some (.ptr b (o+n)):=rfl
theorem aj{r:Option Nat}{o:Nat}(hb:h.get b=some (.cells cs)):au r (.ptr b o) h=kQ r cs o:=by simp [au,hb]
theorem u0(cs:List AV)(o:Nat):kQ none cs o=cs[o]?:=rfl
theorem ak(h:Heap)(o:mI):(Heap.alloc h o).get h.next=some o:=by rw [Heap.aN,if_pos rfl]
theorem aZ:Heap.next Heap.empty=0:=rfl
def tV(r:AV):Out->Heap->Bool:=fun o h=>yes (∃ v,o = .ret v/\Fz true h v r)
theorem Od(hf:Fz true h v r):tV r (.ret v) h=true:=bO.2 ⟨v,rfl,hf⟩
theorem eB(hp:r.pure=true):tV r (.ret r) h=true:=Od (.de hp)
theorem Sem.data{P:Program}{f:FuncId}{args:List AV}(hs:Sem P f args Heap.empty (tV r))(hp:AV.cP args=true){K:Out->Heap->Bool}(hK:K (.ret r) h=true):Sem P f args h K:=
 hs.frozen hp fun o h' ho=>by
  obtain ⟨v,rfl,hf⟩:=bO.1 ho;exact ⟨v,r,rfl,hf,hK⟩
theorem Jx{enc:α->List AV}(he:∀ a,AV.cP (enc a)=true)(l:List α):AV.cP (l.flatMap enc)=true:=by
 induction l with
 |nil=>rfl
 |cons a l ih=>rw [flatMap_cons];exact AV.Mg (he a) ih
theorem br{enc:α->List AV}(he:∀ a,AV.cP (enc a)=true)(x:Sl α):(dR enc sz x).pure=true:=by
 cases x with
 |none=>rfl
 |some l=>exact Jx he l
theorem iE(n:Int):AV.cP (encI n)=true:=rfl
theorem jc(s:cc):AV.cP (encS s)=true:=rfl
theorem KJ(b:Bool):AV.cP (Hh b)=true:=rfl
theorem pL(n:Int):(encI n).length=1:=rfl
theorem kz(s:cc):(encS s).length=1:=rfl
theorem j9{b:Int}(h1:-9223372036854775808<=a+b)(h2:a+b<=9223372036854775807):aF .add (.int .i64 a) (.int .i64 b)=some (.int .i64 (a+b)):=by
 simp only [aF,if_true];rw [IntWalk.i64_in _ (by omega)]
theorem uf{b:Int}(h1:-9223372036854775808<=a-b)(h2:a-b<=9223372036854775807):aF .sub (.int .i64 a) (.int .i64 b)=some (.int .i64 (a-b)):=by
 simp only [aF,if_true];rw [IntWalk.i64_in _ (by omega)]
theorem zG{b:Int}(h1:-9223372036854775808<=a*b)(h2:a*b<=9223372036854775807):aF .mul (.int .i64 a) (.int .i64 b)=some (.int .i64 (a*b)):=by
 simp only [aF,if_true];rw [IntWalk.i64_in _ ⟨h1,h2⟩]
theorem vQ(a b:Int):aF .lss (.int k a) (.int k b)=some (.bool (decide (a<b))):=by simp [aF]
theorem Cq(a b:Int):aF .leq (.int k a) (.int k b)=some (.bool (decide (a<=b))):=by simp [aF]
theorem vR(a b:Int):aF .gtr (.int k a) (.int k b)=some (.bool (decide (b<a))):=by simp [aF]
theorem ug(a b:Int):aF .geq (.int k a) (.int k b)=some (.bool (decide (b<=a))):=by simp [aF]
theorem eq_int(d:TypeDesc)(a b:Int):jC d (.int k a) (.int k b)=some (.bool (a==b)):=by simp [jC,Yy]
theorem adF(d:TypeDesc)(a b:Int):qE d (.int k a) (.int k b)=some (.bool (!(a==b))):=by simp [qE,Yy]
theorem Hi(d:TypeDesc)(a b:cc):jC d (.str a) (.str b)=some (.bool (a==b)):=by simp [jC,Yy]
theorem adG(d:TypeDesc)(a b:cc):qE d (.str a) (.str b)=some (.bool (!(a==b))):=by simp [qE,Yy]
theorem Zk(a b:Bool):jC .bool (.bool a) (.bool b)=some (.bool (a==b)):=by simp [jC,Yy]
theorem Zl(a b:Bool):qE .bool (.bool a) (.bool b)=some (.bool (!(a==b))):=by simp [qE,Yy]
theorem tr(a:Bool):mh .not (.bool a)=some (.bool (!a)):=rfl
theorem zH(s:cc)(h:Heap):bK .str (.str s) h=some (.int .i64 (s.length:Int)):=rfl
theorem Gu{s:cc}{b:UInt8}(hb:s[i]?=some b):oA (.str s) (.int k (i:Int))=some (.int .u8 (b.toNat:Int)):=by
 simp [oA,asNat,hb]
theorem sG(v:AV)(vs:List AV):bu (.tuple (v :: vs)) 0=some v:=rfl
theorem Dv(u v:AV)(vs:List AV):bu (.tuple (u :: v :: vs)) 1=some v:=rfl
theorem Uv(u v w:AV)(vs:List AV):bu (.tuple (u :: v :: w :: vs)) 2=some w:=rfl
theorem cD(h:aW cs=true):eG (.agg cs)=some cs:=by simp [eG,AV.dX,h]
theorem pM{x:AV}(h:x.one=true):eG x=some [x]:=by
 cases x<;>simp_all [eG,AV.dX,aW,AV.one]
theorem fS{enc:α->List AV}(x:Sl α):(dR enc sz x).one=true:=by cases x<;>rfl
theorem cj{o:Nat}(hb:h.get b=some (.cells cs))(hn:v.dX.length=n)(hv:aW v.dX=true)(hle:o+n<=cs.length):aS n (.ptr b o) v h=some (h.set b (.cells (eW cs o v.dX))):=by
 simp [aS,hb,hn,hv,hle]
theorem cy{b:Int}:(a==b)=decide (a=b):=by
 by_cases h:a=b<;>simp [h]
def cw:Nat:=4611686018427387904
theorem Te(a b:Int):aF .add (.int k a) (.int k b)=some (.int k (k.wrap (a+b))):=by simp [aF]
theorem aE(h:i<n)(hn:n<=cw):aF .add (.int .i64 (i:Int)) (.int .i64 1)=some (.int .i64 ((i+1:Nat):Int)):=by
 unfold cw at hn;rw [j9 (by omega) (by omega)];rfl
theorem aU(h:i<n):decide ((i:Int)<(n:Int))=true:=by simp;omega
theorem aR:decide ((n:Int)<(n:Int))=false:=by simp
structure aV (h h':Heap):Prop where
 next:h.next<=h'.next
 get:∀ b,b<h.next->h'.get b=h.get b
theorem aV.refl(h:Heap):aV h h:=⟨dK _,fun _ _=>rfl⟩
theorem aV.at{h':Heap}(x:aV h h'){o:mI}(g:h.get b=some o)(hb:b<h.next):h'.get b=some o:=by rw [x.get b hb];exact g
theorem lA(g:h.get b=some (.cells cs))(k:Nat)(e:cs[k]?=some v):au none (.ptr b k) h=some v:=by rw [aj g];exact e
theorem dM{l:List α}(h:i<l.length):∃ a,l[i]?=some a:=⟨_,jQ h⟩
theorem aV.trans{a b c:Heap}(x:aV a b)(y:aV b c):aV a c:=⟨Nat.le_trans x.next y.next,fun i hi=>by rw [y.get i (Nat.lt_of_lt_of_le hi x.next),x.get i hi]⟩
theorem aV.alloc(h:Heap)(o:mI):aV h (h.alloc o):=⟨le_succ _,fun b hb=>by rw [Heap.aN,if_neg (by omega)]⟩
theorem aV.set{h h':Heap}(x:aV h h'){b:Nat}(hb:h.next<=b)(o:mI):aV h (h'.set b o):=⟨x.next,fun c hc=>by rw [Heap.aG,if_neg (by omega)];exact x.get c hc⟩
theorem cA{zs:List AV}(hz:zs.length=n)(hc:cs.length=n)(ho:aW cs=true) :
  ∃ h',aS n (.ptr h.next 0) (.agg cs) (Heap.alloc h (.cells zs))=some h'/\h'.get h.next=some (.cells cs)/\(∀ b,b≠h.next->h'.get b=h.get b)/\h'.next=h.next+1:=by
 have yg:∀ (cs zs pre:List AV),zs.length=cs.length->eW (pre++zs) pre.length cs=pre++cs:=by
  intro cs
  induction cs with
  |nil=>intro zs pre hl;have:zs = []:=eq_nil_of_length_eq_zero (by simpa using hl);simp [eW,this]
  |cons c cs ih=>
   intro zs pre hl
   cases zs with
   |nil=>simp at hl
   |cons z zs=>
    simp only [eW];rw [set_append_right _ _ (dK _)];simp only [Nat.sub_self,set_cons_zero];have:=ih zs (pre++[c]) (by simpa using hl);simpa using this
 refine ⟨(Heap.alloc h (.cells zs)).set h.next (.cells cs),?_,?_,fun b hb=>?_,rfl⟩
 ·rw [cj (ak h _) (by simpa [AV.dX] using hc) (by simpa [AV.dX] using ho) (by simp [AV.dX];omega)];have:=yg cs zs [] (by omega);simp only [nil_append,length_nil] at this;simp [AV.dX,this]
 ·rw [Heap.aG,if_pos rfl]
 ·rw [Heap.aG,if_neg hb,Heap.aN,if_neg hb]
abbrev gq:=List (cc×Int)
def gq.find(m:gq)(k:cc):Option Int:=(List.find? (fun p=>k==p.1) m).map (·.2)
def gq.vS:gq->cc->Int->gq
 |[],k,v=>[(k,v)]
 |p :: m,k,v=>if k==p.1 then (p.1,v) :: m else p :: gq.vS m k v
def nB:List Entry->gq->Prop
 |[],[]=>True
 |e :: es,p :: m=>e.1 = .str p.1/\e.2.1 = .int .i64 p.2/\nB es m
 |_,_=>False
theorem nB.mO{k:cc}:∀ {es:List Entry} {m:gq} (i:Nat),nB es m->∃ r,mO .string (.str k) es i=some r/\match r with
  |none=>m.find k=none
  |some (j,v)=>∃ n q,j=i+n/\m.find k=some q/\v = .int .i64 q/\nB (gX es n v) m/\∀ w,nB (gX es n (.int .i64 w)) (m.vS k w)
 |[],[],i,_=>⟨none,rfl,rfl⟩
 |e :: es,p :: m,i,⟨h1,h2,h3⟩=>by
  obtain ⟨ek,ev,en⟩:=e;simp only at h1 h2;subst h1;subst h2;by_cases hk:k=p.1
  ·subst hk;refine ⟨some (i,.int .i64 p.2),by simp [Go.AM.mO,AI],0,p.2,rfl,by simp [gq.find],rfl,?_,fun w=>?_⟩
   ·simp [gX,nB,h3]
   ·simp [gX,nB,gq.vS,h3]
  ·obtain ⟨r,hr,hm⟩:=nB.mO (k:=k) (i+1) h3;have WH:(k==p.1)=false:=by simpa using hk
   refine ⟨r,by simp only [Go.AM.mO,AI,WH,hr],?_⟩
   cases r with
   |none=>simpa [gq.find,hk] using hm
   |some jv=>
    obtain ⟨n,q,a,b,c,d,e⟩:=hm;refine ⟨n+1,q,by omega,by simpa [gq.find,hk] using b,c,?_,fun w=>?_⟩
    ·have:=d;simp only [gX,getElem?_cons_succ] at this ⊢;split at this<;>simp_all [nB]
    ·have:=e w;simp only [gX,getElem?_cons_succ,gq.vS,WH] at this ⊢;split at this<;>simp_all [nB]
theorem nB.append{m:gq}(h:nB es m){k:cc}(hk:m.find k=none)(v:Int)(n:Nat):nB (es++[(.str k,.int .i64 v,n)]) (m.vS k v):=by
 induction es generalizing m with
 |nil=>cases m with
  |nil=>simp [nB,gq.vS]
  |cons p m=>exact h.elim
 |cons e es ih=>cases m with
  |nil=>exact h.elim
  |cons p m=>
   obtain ⟨h1,h2,h3⟩:=h;have hne:k≠p.1:=fun e=>by subst e;simp [gq.find] at hk
   have hk':gq.find m k=none:=by simpa [gq.find,hne] using hk
   have:=ih h3 hk';simp only [cons_append,gq.vS];rw [if_neg (by simpa using hne)];exact ⟨h1,h2,this⟩
theorem vT{ck:Nat}{m:gq}(hb:h.get b=some (.map es ck))(hm:nB es m)(k:cc) :
  eO .string (.int .i64 0) true (.map b) (.str k) h=some (.tuple [.int .i64 ((m.find k).getD 0),.bool (m.find k).isSome]):=by
 obtain ⟨r,hr,zI⟩:=nB.mO (k:=k) 0 hm;simp only [eO,ry,hb,uU,uT,if_true,hr]
 cases r with
 |none=>simp at zI;simp [zI]
 |some jv=>
  obtain ⟨n,q,_,b,c,_⟩:=zI;obtain ⟨j,v⟩:=jv;simp only at c;subst c;simp [b]
theorem Hj{ck:Nat}{m:gq}(hb:h.get b=some (.map es ck))(hm:nB es m)(k:cc)(v:Int) :
  ∃ Cc Mj,fX .string (.map b) (.str k) (.int .i64 v) h=some (h.set b (.map Cc Mj))/\nB Cc (m.vS k v):=by
 obtain ⟨r,hr,zI⟩:=nB.mO (k:=k) 0 hm;simp only [fX,hb,uU,uT,if_true,hr]
 cases r with
 |none=>simp at zI;exact ⟨_,_,rfl,hm.append zI v ck⟩
 |some jv=>
  obtain ⟨n,q,hj,_,_,_,e⟩:=zI;obtain ⟨j,w⟩:=jv;simp only [Nat.zero_add] at hj;subst hj;exact ⟨_,_,rfl,e v⟩
theorem aO:(∀ {α:Type} (a:α) (f:α->Bool),aa (some a) f=f a)/\(∀ (v:AV) (h:Heap) (f:AV->Heap->Bool),cG (some (v,h)) f=f v h)/\(∀ (r p:AV->Heap->Bool) (v:AV) (h:Heap),bf r p (.ret v) h=r v h) /\
  (∀ t a b:Bool,aq (.bool t) a b=bif t then a else b)/\(∀ {α:Type} (a b:α),cond true a b=a)/\(∀ {α:Type} (a b:α),cond false a b=b)/\(∀ n b o:Nat,ja n (.ptr b o)=some (.ptr b (o+n)))/\(∀ (n:Nat) (cs:List AV) (o:Nat),ja n (.dL cs o)=some (.dL cs (o+n))) /\
  (∀ (cs:List AV) (o:Nat),kQ none cs o=cs[o]?)/\(∀ n:Nat,0+n=n)/\(∀ n:Nat,n+0=n)/\(∀ {α:Type} (a:α) (l:List α),(a :: l)[0]?=some a)/\(∀ {α:Type} (a:α) (l:List α) (i:Nat),(a :: l)[i+1]?=l[i]?) /\
  (∀ (s:cc) (h:Heap),bK .str (.str s) h=some (.int .i64 (s.length:Int)))/\(∀ {α:Type} {enc:α->List AV} {sz:Nat} (x:Sl α) (h:Heap),bK .slice (dR enc sz x) h=some (.int .i64 (x.l.length:Int))) /\
  (∀ {k:IntKind} (a b:Int),aF .lss (.int k a) (.int k b)=some (.bool (decide (a<b))))/\(∀ {k:IntKind} (a b:Int),aF .leq (.int k a) (.int k b)=some (.bool (decide (a<=b))))/\(∀ {k:IntKind} (a b:Int),aF .gtr (.int k a) (.int k b)=some (.bool (decide (b<a))))/\(∀ {k:IntKind} (a b:Int),aF .geq (.int k a) (.int k b)=some (.bool (decide (b<=a)))) /\
  (∀ {k:IntKind} (d:TypeDesc) (a b:Int),jC d (.int k a) (.int k b)=some (.bool (a==b)))/\(∀ {k:IntKind} (d:TypeDesc) (a b:Int),qE d (.int k a) (.int k b)=some (.bool (!(a==b))))/\(∀ (d:TypeDesc) (a b:cc),jC d (.str a) (.str b)=some (.bool (a==b)))/\(∀ (d:TypeDesc) (a b:cc),qE d (.str a) (.str b)=some (.bool (!(a==b)))) /\
  (∀ a b:Bool,jC .bool (.bool a) (.bool b)=some (.bool (a==b)))/\(∀ a b:Bool,qE .bool (.bool a) (.bool b)=some (.bool (!(a==b))))/\(∀ a:Bool,mh .not (.bool a)=some (.bool (!a))) /\
  (∀ (v:AV) (vs:List AV),bu (.tuple (v :: vs)) 0=some v)/\(∀ (u v:AV) (vs:List AV),bu (.tuple (u :: v :: vs)) 1=some v)/\(∀ (u v w:AV) (vs:List AV),bu (.tuple (u :: v :: w :: vs)) 2=some w)/\(∀ (env:Env) (d:Nat) (v:AV) (t:Nat),cF env d v t=if t=d then v else env t)/\(∀ e:Env,sL e []=e)/\(∀ (e:Env) (k:Nat) (v:AV) (l:List (Nat×AV)),sL e ((k,v) :: l)=sL (cF e k v) l)/\(∀ (k:Nat) (x:AV) (h:Heap) (f:AV->AV->Bool),fl k x h f=aa (ja k x) fun d=>aa (au none d h) fun v=>f d v)/\(∀ (k:Nat) (x i:AV) (h:Heap) (f:AV->AV->Bool),il k x i h f=aa (jw k x i) fun d=>aa (au none d h) fun v=>f d v)/\(∀ (k:Nat) (x i:AV) (j:Nat) (h:Heap) (f:AV->AV->AV->Bool),ou k x i j h f=aa (jw k x i) fun c=>aa (ja j c) fun d=>aa (au none d h) fun v=>f c d v)/\(∀ h:Heap,nP h = .ptr (Heap.next h) 0)/\(∀ (h:Heap) (l:List AV),hA h l=h.alloc (.cells l)):=
 ⟨Hg,gO,gz,cu,aL,aK,Du,Td,u0,Nat.zero_add,Nat.add_zero,fun _ _=>rfl,fun _ _ _=>rfl,zH,Oc,vQ,Cq,vR,ug,eq_int,adF,Hi,adG,Zk,Zl,tr,sG,Dv,Uv,r8,fun _=>rfl,fun _ _ _ _=>rfl,fun _ _ _ _=>rfl,fun _ _ _ _ _=>rfl,fun _ _ _ _ _ _=>rfl,fun _=>rfl,fun _ _=>rfl⟩
theorem kC:(∀ (env:Env) (d:Nat) (v:AV) (t:Nat),cF env d v t=if t=d then v else env t)/\(∀ e:Env,sL e []=e)/\(∀ (e:Env) (k:Nat) (v:AV) (l:List (Nat×AV)),sL e ((k,v) :: l)=sL (cF e k v) l):=⟨r8,fun _=>rfl,fun _ _ _ _=>rfl⟩
theorem dr:(∀ {α:Type} (a:α) (f:α->Bool),aa (some a) f=f a)/\(∀ (k:Nat) (x:AV) (h:Heap) (f:AV->AV->Bool),fl k x h f=aa (ja k x) fun d=>aa (au none d h) fun v=>f d v)/\(∀ (k:Nat) (x i:AV) (h:Heap) (f:AV->AV->Bool),il k x i h f=aa (jw k x i) fun d=>aa (au none d h) fun v=>f d v)/\(∀ (k:Nat) (x i:AV) (j:Nat) (h:Heap) (f:AV->AV->AV->Bool),ou k x i j h f=aa (jw k x i) fun c=>aa (ja j c) fun d=>aa (au none d h) fun v=>f c d v)/\(∀ h:Heap,nP h = .ptr (Heap.next h) 0)/\(∀ (h:Heap) (l:List AV),hA h l=h.alloc (.cells l)):=⟨Hg,fun _ _ _ _=>rfl,fun _ _ _ _ _=>rfl,fun _ _ _ _ _ _=>rfl,fun _=>rfl,fun _ _=>rfl⟩
end
end Go.AM