/- Parts of a proof, merged out of smaller texts: the abstract machine and what functions do. Conditions: none. -/
import Derived.Test.YtmkffehchicgaaaGreatSo8
set_option linter.unusedSimpArgs false
set_option linter.unusedVariables false
namespace Go.AM
open Go Go.RowKit
noncomputable section
def cL(o:Option (AV×af))(f:AV→af→Bool):Bool:=ag o fun p=>f p.1 p.2
def bO(r p:AV→af→Bool):Out→af→Bool
 |.ret v,h=>r v h
 |.panic v,h=>p v h
def BH(ok:AV→af→Bool)(pn:AV→af→Bool):R→Bool
 |.ok v _ h=>ok v h
 |.panic v h=>pn v h
def me(x:AV)(f:FuncId→List AV→List AV→Bool):Bool:=
 match x with
 |.func g a b=>f g a b
 |_=>false
def ai(fn:Func):Code:=match fn.body with|some c=>c|none=>.skip
def partOf:Code→List Nat→Code
 |c,[]=>c
 |.seq a b,n :: ns=>match n with|0=>partOf a ns|_=>partOf b ns
 |.cond _ a b,n :: ns=>match n with|0=>partOf a ns|_=>partOf b ns
 |.block _ c,_ :: ns=>partOf c ns
 |.loop c,_ :: ns=>partOf c ns
 |c,_=>c
theorem rM{α:Type}{a b:α}(h:a=b):a=b:=by subst h;exact Eq.refl a
@[simp] theorem bindO_some {α:Type} (a:α) (f:α→Bool):ag (some a) f=f a:=rM rfl
@[simp] theorem bindO_none {α:Type} (f:α→Bool):ag none f=false:=rfl
@[simp] theorem bindO2_some (v:AV) (h:af) (f:AV→af→Bool):cL (some (v,h)) f=f v h:=rM rfl
@[simp] theorem outK_ret (r p:AV→af→Bool) (v:AV) (h:af):bO r p (.ret v) h=r v h:=rM rfl
@[simp] theorem outK_panic (r p:AV→af→Bool) (v:AV) (h:af):bO r p (.panic v) h=p v h:=rM rfl
@[simp] theorem callV_func (g:FuncId) (a b:List AV) (f:FuncId→List AV→List AV→Bool):me (.func g a b) f=f g a b:=rM rfl
theorem aD{α:Type}(a b:α):cond true a b=a:=rM rfl
theorem aC{α:Type}(a b:α):cond false a b=b:=rM rfl
@[simp] theorem condB_bool (t a b:Bool):ay (.bool t) a b=bif t then a else b:=by cases t<;>rfl
@[congr] theorem bindO_cg {α:Type} {o o':Option α} {f:α→Bool} (h:o=o'):ag o f=ag o' f:=by rw [h]
@[congr] theorem bindO2_cg {o o':Option (AV×af)} {f:AV→af→Bool} (h:o=o'):cL o f=cL o' f:=by rw [h]
@[congr] theorem condB_cg {x x':AV} {a b:Bool} (h:x=x'):ay x a b=ay x' a b:=by rw [h]
@[congr] theorem cond_cg {α:Type} {c c':Bool} {a b:α} (h:c=c'):cond c a b=cond c' a b:=by rw [h]
@[congr] theorem semCall_cg {P:Program} {f:FuncId} {args args':List AV} {h h':af} {K:Out→af→Bool} (e1:args=args') (e2:h=h'):ah P f args h K=ah P f args' h' K:=by rw [e1,e2]
theorem iZ{f:St→(AX→St→Bool)→Bool}{K:AX→St→Bool}{n:Nat}{defs:List kz}{e0:Env}{h0:af}(I:Nat→Env→af→Prop)(m:Nat)(hI:I m e0 h0)
  (step:∀ m e h,I m e h→f ⟨e,n,defs,h⟩ (Ay (fun m s=>s.n=n∧s.defs=defs∧I m s.env s.h) m K)=true):bS f ⟨e0,n,defs,h0⟩ K=true:=by
 refine cz.2 ⟨fun m s=>s.n=n∧s.defs=defs∧I m s.env s.h,⟨m,rfl,rfl,hI⟩,fun m s hs=>?_⟩
 obtain ⟨e,n',d,h⟩:=s
 obtain ⟨h1,h2,h3⟩:=hs
 simp only at h1 h2 h3
 subst h1;subst h2
 exact step m e h h3
theorem nu{I:Nat→Env→af→Prop}{n:Nat}{defs:List kz}{m:Nat}{K:AX→St→Bool}{e:Env}{h:af}(m':Nat)(hm:m'<m)(hI:I m' e h) :
  Ay (fun m s=>s.n=n∧s.defs=defs∧I m s.env s.h) m K .normal ⟨e,n,defs,h⟩=true:=cz.2 ⟨m',hm,rfl,rfl,hI⟩
@[simp] theorem loopK_exit (I:Nat→St→Prop) (m:Nat) (K:AX→St→Bool) (id:Nat) (s:St):Ay I m K (.exit id) s=K (.exit id) s:=rfl
@[simp] theorem loopK_ret (I:Nat→St→Prop) (m:Nat) (K:AX→St→Bool) (s:St):Ay I m K .ret s=K .ret s:=rfl
@[simp] theorem loopK_panic (I:Nat→St→Prop) (m:Nat) (K:AX→St→Bool) (v:AV) (s:St):Ay I m K (.panic v) s=K (.panic v) s:=rfl
theorem aE{f:St→(AX→St→Bool)→Bool}{K:AX→St→Bool}{n:Nat}{defs:List kz}{e0:Env}{h0:af}(a N:Nat)(ha:a≤N)(J:Nat→Env→af→Prop)(hJ:J a e0 h0)
  (step:∀ i e h,a≤i→i<N→J i e h→∀ K':AX→St→Bool,(∀ e' h',J (i+1) e' h'→K' .normal ⟨e',n,defs,h'⟩=true)→(∀ id s,K' (.exit id) s=K (.exit id) s)→(∀ s,K' .ret s=K .ret s)→(∀ v s,K' (.panic v) s=K (.panic v) s)→f ⟨e,n,defs,h⟩ K'=true)
  (done:∀ e h,J N e h→∀ K':AX→St→Bool,(∀ id s,K' (.exit id) s=K (.exit id) s)→f ⟨e,n,defs,h⟩ K'=true):bS f ⟨e0,n,defs,h0⟩ K=true:=by
 refine iZ (fun m e h=>∃ i,a≤i∧i≤N∧m=N-i∧J i e h) (N-a) ⟨a,Nat.le_refl _,ha,rfl,hJ⟩ fun m e h hi=>?_
 obtain ⟨i,hai,hi,rfl,hj⟩:=hi
 by_cases hlt:i<N
 ·exact step i e h hai hlt hj _ (fun e' h' hj'=>nu (I:=fun m e h=>∃ i,a≤i∧i≤N∧m=N-i∧J i e h) (N-(i+1)) (by omega) ⟨i+1,by omega,by omega,rfl,hj'⟩) (fun _ _=>rfl) (fun _=>rfl) (fun _ _=>rfl)
 ·obtain rfl:i=N:=by omega
  exact done e h hj _ (fun _ _=>rfl)
end
end Go.AM
namespace Go.AM
open Go Go.RowKit
noncomputable section
abbrev bA:=List UInt8
abbrev Sl(α:Type):=Option (List α)
def Sl.l{α:Type}(x:Sl α):List α:=x.getD []
@[simp] theorem Sl.l_none {α:Type}:Sl.l (none:Sl α) = []:=rfl
@[simp] theorem Sl.l_some {α:Type} (l:List α):Sl.l (some l)=l:=rfl
def aq{α:Type}(enc:α→List AV)(sz:Nat):Sl α→AV
 |none=>.nils
 |some l=>.islice (l.flatMap enc) 0 l.length sz
def encI(n:Int):List AV:=[.int .i64 n]
def encS(s:bA):List AV:=[.str s]
def PD(b:Bool):List AV:=[.bool b]
theorem gj{α:Type}{enc:α→List AV}{sz:Nat}(he:∀ a,(enc a).length=sz)(l:List α):(l.flatMap enc).length=l.length*sz:=by
 induction l with
 |nil=>simp
 |cons a l ih=>rw [List.flatMap_cons,List.length_append,ih,he,List.length_cons,Nat.add_mul];omega
theorem mg{α:Type}{enc:α→List AV}{sz:Nat}(he:∀ a,(enc a).length=sz):∀ (l:List α) (i k:Nat) (a:α),l[i]?=some a→k<sz→(l.flatMap enc)[i*sz+k]?=(enc a)[k]?
 |[],i,k,a,h,_=>by simp at h
 |b :: l,0,k,a,h,hk=>by
  simp at h;subst h
  rw [List.flatMap_cons,Nat.zero_mul,Nat.zero_add,List.getElem?_append_left (by rw [he];exact hk)]
 |b :: l,i+1,k,a,h,hk=>by
  rw [List.flatMap_cons,List.getElem?_append_right (by rw [he,Nat.add_mul];omega),he,← mg he l i k a (by simpa using h) hk]
  congr 1
  rw [Nat.add_mul];omega
theorem kD{α:Type}{enc:α→List AV}{sz:Nat}(he:∀ a,(enc a).length=sz):∀ (l:List α) (i:Nat) (a:α),l[i]?=some a→((l.flatMap enc).drop (i*sz)).take sz=enc a
 |[],i,a,h=>by simp at h
 |b :: l,0,a,h=>by
  simp at h;subst h
  rw [List.flatMap_cons,Nat.zero_mul,List.drop_zero,List.take_append_of_le_length (by rw [he];exact Nat.le_refl _),List.take_of_length_le (by rw [he];exact Nat.le_refl _)]
 |b :: l,i+1,a,h=>by
  have hd:List.drop sz (enc b) = []:=List.drop_of_length_le (by rw [he];exact Nat.le_refl _)
  rw [List.flatMap_cons,Nat.add_mul,Nat.one_mul,Nat.add_comm,← List.drop_drop,List.drop_append_of_le_length (by rw [he];exact Nat.le_refl _),hd,List.nil_append]
  exact kD he l i a (by simpa using h)
theorem CL{α:Type}{enc:α→List AV}{sz:Nat}(x:Sl α)(h:af):bR .slice (aq enc sz x) h=some (.int .i64 (x.l.length:Int)):=by
 cases x<;>rfl
theorem aT{α:Type}{enc:α→List AV}{sz:Nat}{k:IntKind}(x:Sl α){i:Nat}(hi:i<x.l.length):dx sz (aq enc sz x) (.int k (i:Int))=some (.iptr (x.l.flatMap enc) (i*sz)):=by
 cases x with
 |none=>simp at hi
 |some l=>
  have hi':i<l.length:=hi
  simp [dx,aq,asNat,hi']
theorem eN{α:Type}{enc:α→List AV}{sz:Nat}(he:∀ a,(enc a).length=sz){l:List α}{i:Nat}{a:α}(ha:l[i]?=some a){k:Nat}(hk:k<sz){h:af} :
  aj none (.iptr (l.flatMap enc) (i*sz+k)) h=(enc a)[k]?:=mg he l i k a ha hk
theorem rN{α:Type}{enc:α→List AV}(he:∀ a,(enc a).length=1){l:List α}{i:Nat}{a:α}(ha:l[i]?=some a){h:af} :
  aj none (.iptr (l.flatMap enc) (i*1)) h=(enc a)[0]?:=mg he l i 0 a ha (by omega)
theorem c8{α:Type}{enc:α→List AV}{sz:Nat}(he:∀ a,(enc a).length=sz){l:List α}{i:Nat}{a:α}(ha:l[i]?=some a){h:af} :
  aj (some sz) (.iptr (l.flatMap enc) (i*sz)) h=some (.agg (enc a)):=by
 have hi:i<l.length:=(List.getElem?_eq_some_iff.1 ha).1
 have hle:i*sz+sz≤(l.flatMap enc).length:=by
  rw [gj he]
  have:(i+1)*sz≤l.length*sz:=Nat.mul_le_mul_right _ hi
  rw [Nat.add_mul] at this;omega
 show gh (some sz) _ _=_
 simp only [gh]
 rw [if_pos hle,kD he l i a ha]
theorem Jf(n:Nat)(cs:List AV)(o:Nat):bQ n (.iptr cs o)=some (.iptr cs (o+n)):=rfl
theorem HF(n b o:Nat):bQ n (.ptr b o)=some (.ptr b (o+n)):=rfl
theorem ak{r:Option Nat}{b o:Nat}{h:af}{cs:List AV}(hb:h.get b=some (.cells cs)):aj r (.ptr b o) h=gh r cs o:=by simp [aj,hb]
theorem qq(cs:List AV)(o:Nat):gh none cs o=cs[o]?:=rfl
theorem aI(h:af)(o:iL):(af.alloc h o).get h.next=some o:=by rw [af.aX,if_pos rfl]
theorem bM:af.next af.empty=0:=rfl
def lU(r:AV):Out→af→Bool:=fun o h=>yes (∃ v,o = .ret v∧Fz true h v r)
theorem HG{r v:AV}{h:af}(hf:Fz true h v r):lU r (.ret v) h=true:=cz.2 ⟨v,rfl,hf⟩
theorem eV{r:AV}{h:af}(hp:r.pure=true):lU r (.ret r) h=true:=HG (.ez hp)
theorem Sem.data{P:Program}{f:FuncId}{args:List AV}{r:AV}(hs:Sem P f args af.empty (lU r))(hp:AV.pureL args=true){h:af}{K:Out→af→Bool}(hK:K (.ret r) h=true):Sem P f args h K:=
 hs.frozen hp fun o h' ho=>by
  obtain ⟨v,rfl,hf⟩:=cz.1 ho
  exact ⟨v,r,rfl,hf,hK⟩
theorem zH{α:Type}{enc:α→List AV}(he:∀ a,AV.pureL (enc a)=true)(l:List α):AV.pureL (l.flatMap enc)=true:=by
 induction l with
 |nil=>rfl
 |cons a l ih=>rw [List.flatMap_cons];exact AV.BF (he a) ih
theorem cj{α:Type}{enc:α→List AV}{sz:Nat}(he:∀ a,AV.pureL (enc a)=true)(x:Sl α):(aq enc sz x).pure=true:=by
 cases x with
 |none=>rfl
 |some l=>exact zH he l
theorem jQ(n:Int):AV.pureL (encI n)=true:=rfl
theorem kI(s:bA):AV.pureL (encS s)=true:=rfl
theorem lu(n:Int):(encI n).length=1:=rfl
theorem fI(s:bA):(encS s).length=1:=rfl
theorem fJ{a b:Int}(h1:-9223372036854775808≤a+b)(h2:a+b≤9223372036854775807):aF .add (.int .i64 a) (.int .i64 b)=some (.int .i64 (a+b)):=by
 simp only [aF,if_true];rw [IntWalk.i64_in _ (by omega)]
theorem wW{a b:Int}(h1:-9223372036854775808≤a-b)(h2:a-b≤9223372036854775807):aF .sub (.int .i64 a) (.int .i64 b)=some (.int .i64 (a-b)):=by
 simp only [aF,if_true];rw [IntWalk.i64_in _ (by omega)]
theorem qs{a b:Int}(h1:-9223372036854775808≤a*b)(h2:a*b≤9223372036854775807):aF .mul (.int .i64 a) (.int .i64 b)=some (.int .i64 (a*b)):=by
 simp only [aF,if_true];rw [IntWalk.i64_in _ ⟨h1,h2⟩]
theorem nw{k:IntKind}(a b:Int):aF .lss (.int k a) (.int k b)=some (.bool (decide (a<b))):=by simp [aF]
theorem sY{k:IntKind}(a b:Int):aF .leq (.int k a) (.int k b)=some (.bool (decide (a≤b))):=by simp [aF]
theorem BI{k:IntKind}(a b:Int):aF .gtr (.int k a) (.int k b)=some (.bool (decide (b<a))):=by simp [aF]
theorem nx{k:IntKind}(a b:Int):aF .geq (.int k a) (.int k b)=some (.bool (decide (b≤a))):=by simp [aF]
theorem eq_int{k:IntKind}(d:TypeDesc)(a b:Int):gO d (.int k a) (.int k b)=some (.bool (a==b)):=by simp [gO,IV]
theorem LI{k:IntKind}(d:TypeDesc)(a b:Int):oz d (.int k a) (.int k b)=some (.bool (!(a==b))):=by simp [oz,IV]
theorem xR(d:TypeDesc)(a b:bA):gO d (.str a) (.str b)=some (.bool (a==b)):=by simp [gO,IV]
theorem LJ(d:TypeDesc)(a b:bA):oz d (.str a) (.str b)=some (.bool (!(a==b))):=by simp [oz,IV]
theorem Jg(a b:Bool):gO .bool (.bool a) (.bool b)=some (.bool (a==b)):=by simp [gO,IV]
theorem wX(a b:Bool):oz .bool (.bool a) (.bool b)=some (.bool (!(a==b))):=by simp [oz,IV]
theorem lB(a:Bool):jl .not (.bool a)=some (.bool (!a)):=rfl
theorem kE(s:bA)(h:af):bR .str (.str s) h=some (.int .i64 (s.length:Int)):=rfl
theorem wY{s:bA}{i:Nat}{k:IntKind}{b:UInt8}(hb:s[i]?=some b):iU (.str s) (.int k (i:Int))=some (.int .u8 (b.toNat:Int)):=by
 simp [iU,asNat,hb]
theorem kJ(v:AV)(vs:List AV):bL (.tuple (v :: vs)) 0=some v:=rfl
theorem qt(u v:AV)(vs:List AV):bL (.tuple (u :: v :: vs)) 1=some v:=rfl
theorem F9(u v w:AV)(vs:List AV):bL (.tuple (u :: v :: w :: vs)) 2=some w:=rfl
theorem cI{cs:List AV}(h:bq cs=true):ef (.agg cs)=some cs:=by simp [ef,AV.dh,h]
theorem ny{x:AV}(h:x.one=true):ef x=some [x]:=by
 cases x<;>simp_all [ef,AV.dh,bq,AV.one]
theorem iz{α:Type}{enc:α→List AV}{sz:Nat}(x:Sl α):(aq enc sz x).one=true:=by cases x<;>rfl
theorem dr{n b o:Nat}{h:af}{cs:List AV}{v:AV}(hb:h.get b=some (.cells cs))(hn:v.dh.length=n)(hv:bq v.dh=true)(hle:o+n≤cs.length):bH n (.ptr b o) v h=some (h.set b (.cells (gQ cs o v.dh))):=by
 simp [bH,hb,hn,hv,hle]
theorem ct{a b:Int}:(a==b)=decide (a=b):=by
 by_cases h:a=b<;>simp [h]
end
end Go.AM
namespace Go.AM
open Go Go.RowKit
noncomputable section
def cy:Nat:=4611686018427387904
theorem Jh{k:IntKind}(a b:Int):aF .add (.int k a) (.int k b)=some (.int k (k.wrap (a+b))):=by simp [aF]
theorem aK{i n:Nat}(h:i<n)(hn:n≤cy):aF .add (.int .i64 (i:Int)) (.int .i64 1)=some (.int .i64 ((i+1:Nat):Int)):=by
 unfold cy at hn
 rw [fJ (by omega) (by omega)];rfl
theorem bf{i n:Nat}(h:i<n):decide ((i:Int)<(n:Int))=true:=by simp;omega
theorem aR{n:Nat}:decide ((n:Int)<(n:Int))=false:=by simp
structure bK (h h':af):Prop where
 next:h.next≤h'.next
 get:∀ b,b<h.next→h'.get b=h.get b
theorem bK.refl(h:af):bK h h:=⟨Nat.le_refl _,fun _ _=>rfl⟩
theorem bK.trans{a b c:af}(x:bK a b)(y:bK b c):bK a c:=⟨Nat.le_trans x.next y.next,fun i hi=>by rw [y.get i (Nat.lt_of_lt_of_le hi x.next),x.get i hi]⟩
theorem bK.alloc(h:af)(o:iL):bK h (h.alloc o):=⟨Nat.le_succ _,fun b hb=>by rw [af.aX,if_neg (by omega)]⟩
theorem bK.set{h h':af}(x:bK h h'){b:Nat}(hb:h.next≤b)(o:iL):bK h (h'.set b o):=⟨x.next,fun c hc=>by rw [af.aS,if_neg (by omega)];exact x.get c hc⟩
theorem cJ{h:af}{zs cs:List AV}{n:Nat}(hz:zs.length=n)(hc:cs.length=n)(ho:bq cs=true) :
  ∃ h',bH n (.ptr h.next 0) (.agg cs) (af.alloc h (.cells zs))=some h'∧h'.get h.next=some (.cells cs)∧(∀ b,b≠h.next→h'.get b=h.get b)∧h'.next=h.next+1:=by
 have hput:∀ (cs zs pre:List AV),zs.length=cs.length→gQ (pre++zs) pre.length cs=pre++cs:=by
  intro cs
  induction cs with
  |nil=>intro zs pre hl;have:zs = []:=List.eq_nil_of_length_eq_zero (by simpa using hl);simp [gQ,this]
  |cons c cs ih=>
   intro zs pre hl
   cases zs with
   |nil=>simp at hl
   |cons z zs=>
    simp only [gQ]
    rw [List.set_append_right _ _ (Nat.le_refl _)]
    simp only [Nat.sub_self,List.set_cons_zero]
    have:=ih zs (pre++[c]) (by simpa using hl)
    simpa using this
 refine ⟨(af.alloc h (.cells zs)).set h.next (.cells cs),?_,?_,fun b hb=>?_,rfl⟩
 ·rw [dr (aI h _) (by simpa [AV.dh] using hc) (by simpa [AV.dh] using ho) (by simp [AV.dh];omega)]
  have:=hput cs zs [] (by omega)
  simp only [List.nil_append,List.length_nil] at this
  simp [AV.dh,this]
 ·rw [af.aS,if_pos rfl]
 ·rw [af.aS,if_neg hb,af.aX,if_neg hb]
abbrev cS:=List (bA×Int)
def cS.find(m:cS)(k:bA):Option Int:=(List.find? (fun p=>k==p.1) m).map (·.2)
def cS.nA:cS→bA→Int→cS
 |[],k,v=>[(k,v)]
 |p :: m,k,v=>if k==p.1 then (p.1,v) :: m else p :: cS.nA m k v
def iA:List Entry→cS→Prop
 |[],[]=>True
 |e :: es,p :: m=>e.1 = .str p.1∧e.2.1 = .int .i64 p.2∧iA es m
 |_,_=>False
theorem iA.gJ{k:bA}:∀ {es:List Entry} {m:cS} (i:Nat),iA es m→∃ r,gJ .string (.str k) es i=some r∧match r with
  |none=>m.find k=none
  |some (j,v)=>∃ n q,j=i+n∧m.find k=some q∧v = .int .i64 q∧iA (dV es n v) m∧∀ w,iA (dV es n (.int .i64 w)) (m.nA k w)
 |[],[],i,_=>⟨none,rfl,rfl⟩
 |e :: es,p :: m,i,⟨h1,h2,h3⟩=>by
  obtain ⟨ek,ev,en⟩:=e
  simp only at h1 h2
  subst h1;subst h2
  by_cases hk:k=p.1
  ·subst hk
   refine ⟨some (i,.int .i64 p.2),by simp [Go.AM.gJ,qT],0,p.2,rfl,by simp [cS.find],rfl,?_,fun w=>?_⟩
   ·simp [dV,iA,h3]
   ·simp [dV,iA,cS.nA,h3]
  ·obtain ⟨r,hr,hm⟩:=iA.gJ (k:=k) (i+1) h3
   have hkb:(k==p.1)=false:=by simpa using hk
   refine ⟨r,by simp only [Go.AM.gJ,qT,hkb,hr],?_⟩
   cases r with
   |none=>simpa [cS.find,hk] using hm
   |some jv=>
    obtain ⟨n,q,a,b,c,d,e⟩:=hm
    refine ⟨n+1,q,by omega,by simpa [cS.find,hk] using b,c,?_,fun w=>?_⟩
    ·have:=d
     simp only [dV,List.getElem?_cons_succ] at this ⊢
     split at this<;>simp_all [iA]
    ·have:=e w
     simp only [dV,List.getElem?_cons_succ,cS.nA,hkb] at this ⊢
     split at this<;>simp_all [iA]
theorem iA.append{es:List Entry}{m:cS}(h:iA es m){k:bA}(hk:m.find k=none)(v:Int)(n:Nat):iA (es++[(.str k,.int .i64 v,n)]) (m.nA k v):=by
 induction es generalizing m with
 |nil=>cases m with
  |nil=>simp [iA,cS.nA]
  |cons p m=>exact h.elim
 |cons e es ih=>cases m with
  |nil=>exact h.elim
  |cons p m=>
   obtain ⟨h1,h2,h3⟩:=h
   have hne:k≠p.1:=fun e=>by subst e;simp [cS.find] at hk
   have hk':cS.find m k=none:=by simpa [cS.find,hne] using hk
   have:=ih h3 hk'
   simp only [List.cons_append,cS.nA]
   rw [if_neg (by simpa using hne)]
   exact ⟨h1,h2,this⟩
theorem nB{b:Nat}{h:af}{es:List Entry}{ck:Nat}{m:cS}(hb:h.get b=some (.map es ck))(hm:iA es m)(k:bA) :
  cV .string (.int .i64 0) true (.map b) (.str k) h=some (.tuple [.int .i64 ((m.find k).getD 0),.bool (m.find k).isSome]):=by
 obtain ⟨r,hr,hm'⟩:=iA.gJ (k:=k) 0 hm
 simp only [cV,jm,hb,mK,mJ,if_true,hr]
 cases r with
 |none=>simp at hm';simp [hm']
 |some jv=>
  obtain ⟨n,q,_,b,c,_⟩:=hm'
  obtain ⟨j,v⟩:=jv
  simp only at c
  subst c
  simp [b]
theorem xS{b:Nat}{h:af}{es:List Entry}{ck:Nat}{m:cS}(hb:h.get b=some (.map es ck))(hm:iA es m)(k:bA)(v:Int) :
  ∃ es' ck',dR .string (.map b) (.str k) (.int .i64 v) h=some (h.set b (.map es' ck'))∧iA es' (m.nA k v):=by
 obtain ⟨r,hr,hm'⟩:=iA.gJ (k:=k) 0 hm
 simp only [dR,hb,mK,mJ,if_true,hr]
 cases r with
 |none=>simp at hm';exact ⟨_,_,rfl,hm.append hm' v ck⟩
 |some jv=>
  obtain ⟨n,q,hj,_,_,_,e⟩:=hm'
  obtain ⟨j,w⟩:=jv
  simp only [Nat.zero_add] at hj
  subst hj
  exact ⟨_,_,rfl,e v⟩
theorem aQ:(∀ {α:Type} (a:α) (f:α→Bool),ag (some a) f=f a)∧(∀ (v:AV) (h:af) (f:AV→af→Bool),cL (some (v,h)) f=f v h)∧(∀ (r p:AV→af→Bool) (v:AV) (h:af),bO r p (.ret v) h=r v h) ∧
  (∀ t a b:Bool,ay (.bool t) a b=bif t then a else b)∧(∀ {α:Type} (a b:α),cond true a b=a)∧(∀ {α:Type} (a b:α),cond false a b=b)∧(∀ n b o:Nat,bQ n (.ptr b o)=some (.ptr b (o+n)))∧(∀ (n:Nat) (cs:List AV) (o:Nat),bQ n (.iptr cs o)=some (.iptr cs (o+n))) ∧
  (∀ (cs:List AV) (o:Nat),gh none cs o=cs[o]?)∧(∀ n:Nat,0+n=n)∧(∀ n:Nat,n+0=n)∧(∀ {α:Type} (a:α) (l:List α),(a :: l)[0]?=some a)∧(∀ {α:Type} (a:α) (l:List α) (i:Nat),(a :: l)[i+1]?=l[i]?) ∧
  (∀ (s:bA) (h:af),bR .str (.str s) h=some (.int .i64 (s.length:Int)))∧(∀ {α:Type} {enc:α→List AV} {sz:Nat} (x:Sl α) (h:af),bR .slice (aq enc sz x) h=some (.int .i64 (x.l.length:Int))) ∧
  (∀ {k:IntKind} (a b:Int),aF .lss (.int k a) (.int k b)=some (.bool (decide (a<b))))∧(∀ {k:IntKind} (a b:Int),aF .leq (.int k a) (.int k b)=some (.bool (decide (a≤b))))∧(∀ {k:IntKind} (a b:Int),aF .gtr (.int k a) (.int k b)=some (.bool (decide (b<a))))∧(∀ {k:IntKind} (a b:Int),aF .geq (.int k a) (.int k b)=some (.bool (decide (b≤a)))) ∧
  (∀ {k:IntKind} (d:TypeDesc) (a b:Int),gO d (.int k a) (.int k b)=some (.bool (a==b)))∧(∀ {k:IntKind} (d:TypeDesc) (a b:Int),oz d (.int k a) (.int k b)=some (.bool (!(a==b))))∧(∀ (d:TypeDesc) (a b:bA),gO d (.str a) (.str b)=some (.bool (a==b)))∧(∀ (d:TypeDesc) (a b:bA),oz d (.str a) (.str b)=some (.bool (!(a==b)))) ∧
  (∀ a b:Bool,gO .bool (.bool a) (.bool b)=some (.bool (a==b)))∧(∀ a b:Bool,oz .bool (.bool a) (.bool b)=some (.bool (!(a==b))))∧(∀ a:Bool,jl .not (.bool a)=some (.bool (!a))) ∧
  (∀ (v:AV) (vs:List AV),bL (.tuple (v :: vs)) 0=some v)∧(∀ (u v:AV) (vs:List AV),bL (.tuple (u :: v :: vs)) 1=some v)∧(∀ (u v w:AV) (vs:List AV),bL (.tuple (u :: v :: w :: vs)) 2=some w)∧(∀ (env:Env) (d:Nat) (v:AV) (t:Nat),aa env d v t=if t=d then v else env t):=
 ⟨bindO_some,bindO2_some,outK_ret,condB_bool,aD,aC,HF,Jf,qq,Nat.zero_add,Nat.add_zero,fun _ _=>rfl,fun _ _ _=>rfl,kE,CL,nw,sY,BI,nx,eq_int,LI,xR,LJ,Jg,wX,lB,kJ,qt,F9,bE⟩
end
end Go.AM