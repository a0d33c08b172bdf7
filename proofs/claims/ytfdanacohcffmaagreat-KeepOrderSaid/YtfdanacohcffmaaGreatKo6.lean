/- Parts of the proof. Conditions: none. -/
import Derived.Test.YtfdanacohcffmaaGreatKo5
import Derived.Laws.Tables
import Derived.Laws.MakeOwn
set_option linter.unusedSimpArgs false
set_option linter.unusedVariables false
namespace Go.AM
open List Nat Bool Option
open Go Go.RowKit
variable {t e:TypeId} {P:Program} {xv v yv:Value} {x y:AV} {cs:List AV} {b:Bool} {n i:Nat}
theorem fF{α:Type}{o:Option α}{f:α->Bool}(h:ag o f=true):∃ a,o=some a/\f a=true:=by
 cases o with
 |none=>simp [ag] at h
 |some a=>exact ⟨a,rfl,h⟩
def mu(P:Program)(ρ:Operand->AV):Op->Option AV
 |.move x=>some (ρ x)
 |.assign x=>some (ρ x)
 |.pick c a b=>Ls (ρ c) (ρ a) (ρ b)
 |.build t ps=>(F8 P t (ps.toList.map (·.1))).bind fun i=>iA i.1 i.2 (ps.toList.map fun p=>ρ p.2)
 |.nilCheck x=>bx (ρ x)
 |.binOp op t x y _=>(match op with
  |.eql=>(P.underlying t).bind fun d=>jC d (ρ x) (ρ y)
  |.neq=>(P.underlying t).bind fun d=>pM d (ρ x) (ρ y)
  |op=>aI op (ρ x) (ρ y))
 |.unOp op _ x=>kX op (ρ x)
 |.makeInterface t x=>(BR P t).bind fun _=>some (.iface t (ρ x))
 |.makeFunc fn first cap=>(match fn with|.func f=>some (.func f (first.toList.map ρ) (cap.toList.map ρ))|_=>none)
 |.slice t x lo hi mx=>(match mx with|none=>(Ga P t).bind fun i=>iT i (ρ x) (lo.map ρ) (hi.map ρ)|some _=>none)
 |.fieldAddr t x i=>(faI P t i).bind fun o=>bT o (ρ x)
 |.field t x i=>(F9 P t i).bind fun o=>F5 o.1 o.2 (ρ x)
 |.indexAddr t x i=>(iaI P t).bind fun o=>iaV o (ρ x) (ρ i)
 |.index t x i=>(Rc P t).bind fun o=>Ov o (ρ x) (ρ i)
 |.extract t i=>bI (ρ t) i
 |.typeAssert x _ a ok=>(Bi P a ok).bind fun z=>Bh a z (ρ x)
 |.call c=>(match c.callee with
  |.builtin .min=>(match c.args.toList.map ρ with|x :: xs=>vB false x xs|_=>none)
  |.builtin .max=>(match c.args.toList.map ρ with|x :: xs=>vB true x xs|_=>none)
  |_=>none)
 |_=>none
theorem g9{α β:Type}(o:Option α)(f:α->Option β)(g:β->Bool):ag o (fun a=>ag (f a) g)=ag (o.bind f) g:=by cases o<;>rfl
theorem uh{ρ:Operand->AV}{op:Op}(hk:fe op = .pure)(h:Heap)(K:AV->Heap->Bool):gJ op P ρ h K=ag (mu P ρ op) fun v=>K v h:=by
 cases op<;>simp only [fe,reduceCtorEq] at hk
 case move=>rfl
 case assign=>rfl
 case pick=>rfl
 case build=>simp only [gJ,LA,ku,mu,g9]
 case nilCheck=>rfl
 case binOp op t x y u=>cases op<;>simp only [gJ,Ow,ku,mu,g9]
 case unOp=>rfl
 case makeInterface t x=>simp only [gJ,mu];cases BR P t<;>rfl
 case makeFunc fn first cap=>cases fn<;>rfl
 case slice t x lo hi mx=>cases mx<;>simp only [gJ,Gb,ku,mu,g9];rfl
 case fieldAddr=>simp only [gJ,ku,mu,g9]
 case field=>simp only [gJ,ku,mu,g9]
 case indexAddr=>simp only [gJ,ku,mu,g9]
 case index=>simp only [gJ,ku,mu,g9]
 case extract=>rfl
 case typeAssert x xt a ok=>simp only [gJ,ku,mu,g9]
 case call c=>
  obtain ⟨yO,args,ts⟩:=c
  cases yO with
  |value f=>simp [fc] at hk
  |invoke r m=>simp [fc] at hk
  |builtin b=>
   cases b<;>simp only [fc,reduceCtorEq] at hk
   ·simp only [gJ,su,EX,uc,mu];cases args.toList.map ρ<;>rfl
   ·simp only [gJ,su,EX,uc,mu];cases args.toList.map ρ<;>rfl
section
variable {P:Program} {w0:World} {μ:Mu} {ρ:Operand->AV} {ρc:Operand->Value}
theorem VR.iB(h:VR w0 μ (.bool b) v):v = .bool b:=by cases h;rfl
theorem VR.gj{k:IntKind}{n:Int}(h:VR w0 μ (.int k n) v):v = .int k n:=by cases h;rfl
theorem VR.gQ{l:List UInt8}(h:VR w0 μ (.str l) v):∃ s:ByteArray,v = .string s/\s.data.toList=l:=by cases h;exact ⟨_,rfl,rfl⟩
theorem VR.EY(h:VR w0 μ (.tuple cs) v):∃ vs:List Value,v = .tuple vs.toArray/\dZ w0 μ cs vs:=by cases h;exact ⟨_,rfl,⟨‹_›,‹_›⟩⟩
theorem VR.LG(h:VR w0 μ (.agg cs) v):∃ vs:List Value,v = .agg vs.toArray/\dZ w0 μ cs vs:=by cases h;exact ⟨_,rfl,⟨‹_›,‹_›⟩⟩
theorem dZ.agg{cs:List AV}{vs:List Value}(h:dZ w0 μ cs vs):VR w0 μ (.agg cs) (.agg vs.toArray):=.agg cs vs h.len h.rel
theorem dZ.tuple{cs:List AV}{vs:List Value}(h:dZ w0 μ cs vs):VR w0 μ (.tuple cs) (.tuple vs.toArray):=.tuple cs vs h.len h.rel
theorem VR.bJ:VR w0 μ bJ Go.undef:=dZ.tuple .nil
theorem qc(h:VR w0 μ x v)(hx:asNat x=some n):∃ k,v = .int k (n:Int):=by
 cases h<;>simp [asNat] at hx;rename_i k m;exact ⟨k,by rw [<- hx.2,Int.toNat_of_nonneg hx.1]⟩
theorem kH(c o n:Nat):(⟨c,o,none⟩:Addr).add n=⟨c,o+n,none⟩:=by unfold Addr.add;split<;>simp_all
theorem ME{c a b v:AV}{cv av bv:Value}(hc:VR w0 μ c cv)(ha:VR w0 μ a av)(hb:VR w0 μ b bv)(h:Ls c a b=some v) :
  ∃ t,cv = .bool t/\VR w0 μ v (if t then av else bv):=by
 cases c<;>simp [Ls] at h;rename_i t;refine ⟨t,hc.iB,?_⟩;subst h;cases t
 ·exact hb
 ·exact ha
theorem Rf{op:UnOp}{v:AV}(hx:VR w0 μ x xv)(h:kX op x=some v):∃ vc,(∀ w,(Op.unary op xv).run P w = .ok vc w)/\VR w0 μ v vc:=by
 unfold kX at h;split at h
 ·cases h;rw [hx.gj];exact ⟨_,fun w=>rfl,.int _ _⟩
 ·cases h;rw [hx.iB];exact ⟨_,fun w=>rfl,.bool _⟩
 ·cases h
theorem DX{v:AV}(hx:VR w0 μ x xv)(h:bx x=some v):VR w0 μ v xv/\((∃ a,xv = .pointer (some a))\/∃ f a b,xv = .func (.func f) a b):=by
 unfold bx at h;split at h
 ·cases h;cases hx;exact ⟨.ptr _ _ _ ‹_›,.inl ⟨_,rfl⟩⟩
 ·cases h;cases hx;exact ⟨.dQ _ _ _ _ _ ‹_› ‹_› ‹_› ‹_›,.inl ⟨_,rfl⟩⟩
 ·cases h;cases hx;exact ⟨.func _ _ _ _ _ ‹_› ‹_› ‹_› ‹_›,.inr ⟨_,_,_,rfl⟩⟩
 ·cases h
theorem OB{op:BinOp}{v:AV}(hx:VR w0 μ x xv)(hy:VR w0 μ y yv)(h:aI op x y=some v)(h1:op≠.eql)(h2:op≠.neq) :
  ∃ vc,(∀ w,(binOp op t xv yv).run P w = .ok vc w)/\VR w0 μ v vc:=by
 have shift:∀ r:Bool,op=(if r then .shr else .shl)->BM r x y=some v->∃ vc,(∀ w,(binOp op t xv yv).run P w = .ok vc w)/\VR w0 μ v vc:=by
  intro r ho h;unfold BM at h;split at h
  ·split at h
   ·cases h
   ·rename_i k a k' b hb;cases h;rw [hx.gj,hy.gj,ho];cases r
    ·exact ⟨_,fun w=>by simp [binOp,Op.shift,hb],.int _ _⟩
    ·exact ⟨_,fun w=>by simp [binOp,Op.shift,hb],.int _ _⟩
  ·cases h
 have bits:(op = .and\/op = .or\/op = .xor)->On op x y=some v->∃ vc,(∀ w,(binOp op t xv yv).run P w = .ok vc w)/\VR w0 μ v vc:=by
  intro ho h;unfold On at h;split at h
  ·split at h
   ·rename_i k a k' b hk;subst hk;rw [hx.gj,hy.gj];rcases ho with rfl|rfl|rfl<;>simp only [Option.some.injEq] at h<;>subst h<;>exact ⟨_,fun w=>by simp [binOp,Op.intBits],.int _ _⟩
   ·cases h
  ·cases h
 unfold aI at h;split at h
 ·exact shift true rfl h
 ·exact shift false rfl h
 ·exact bits (.inl rfl) h
 ·exact bits (.inr (.inl rfl)) h
 ·exact bits (.inr (.inr rfl)) h
 split at h
 ·rename_i k a k' b;split at h
  ·rename_i hk;subst hk;rw [hx.gj,hy.gj];cases op<;>simp only [reduceCtorEq] at h<;>first|(exact absurd rfl h1)|(exact absurd rfl h2)|skip
   ·cases h;exact ⟨.int k (k.wrap (a+b)),fun w=>by simp [binOp,Op.intArith],.int _ _⟩
   ·cases h;exact ⟨.int k (k.wrap (a-b)),fun w=>by simp [binOp,Op.intArith],.int _ _⟩
   ·cases h;exact ⟨.int k (k.wrap (a*b)),fun w=>by simp [binOp,Op.intArith],.int _ _⟩
   ·split at h
    ·cases h
    ·rename_i hb;cases h;exact ⟨.int k (k.wrap (a.tdiv b)),fun w=>by simp [binOp,Op.intDiv,hb],.int _ _⟩
   ·split at h
    ·cases h
    ·rename_i hb;cases h;exact ⟨.int k (a.tmod b),fun w=>by simp [binOp,Op.intDiv,hb],.int _ _⟩
   ·cases h;exact ⟨.bool (decide (a<b)),fun w=>by simp [binOp,Op.intCmp],.bool _⟩
   ·cases h;exact ⟨.bool (decide (a<=b)),fun w=>by simp [binOp,Op.intCmp],.bool _⟩
   ·cases h;exact ⟨.bool (decide (a>b)),fun w=>by simp [binOp,Op.intCmp],.bool _⟩
   ·cases h;exact ⟨.bool (decide (a>=b)),fun w=>by simp [binOp,Op.intCmp],.bool _⟩
  ·cases h
 ·rename_i a b;obtain ⟨s,rfl,rfl⟩:=hx.gQ;obtain ⟨u,rfl,rfl⟩:=hy.gQ;cases op<;>simp only [reduceCtorEq] at h<;>first|(exact absurd rfl h1)|(exact absurd rfl h2)|skip
  ·split at h
   ·rename_i hl;cases h;refine ⟨.string (s++u),fun w=>?_,?_⟩
    ·have e1:s.data.toList.length=s.size:=(by rw [Array.length_toList];rfl);have e2:u.data.toList.length=u.size:=by rw [Array.length_toList];rfl
     rw [e1,e2] at hl
     have:¬ (((s.size+u.size:Nat):Int)>IntKind.i64.max):=by
      have:IntKind.i64.max=9223372036854775807:=(by decide);rw [this];omega
     unfold binOp;simp only [Op.stringOp,if_neg this];rfl
    ·have e:(s++u).data.toList=s.data.toList++u.data.toList:=(by simp);rw [<- e];exact .str _
   ·cases h
  ·cases h;exact ⟨.bool (Op.bytesLess s.data.toList u.data.toList),fun w=>by simp [binOp,Op.stringOp,ByteArray.toList_eq],.bool _⟩
  ·cases h;exact ⟨.bool (Op.bytesLess s.data.toList u.data.toList||s.data.toList==u.data.toList),fun w=>by simp [binOp,Op.stringOp,ByteArray.toList_eq],.bool _⟩
  ·cases h;exact ⟨.bool (!(Op.bytesLess s.data.toList u.data.toList||s.data.toList==u.data.toList)),fun w=>by simp [binOp,Op.stringOp,ByteArray.toList_eq],.bool _⟩
  ·cases h;exact ⟨.bool (!(Op.bytesLess s.data.toList u.data.toList)),fun w=>by simp [binOp,Op.stringOp,ByteArray.toList_eq],.bool _⟩
 ·cases h
theorem DY{op:BinOp}{x y:Operand}{a b:Value}{w:World}(h1:a≠.nilIface)(h2:∀ c,a≠.agg c):(eqGuard op t x y a b).run P w = .ok () w:=by
 unfold eqGuard;cases op<;>first|rfl|(cases a<;>first|(exact absurd rfl h1)|(exact absurd rfl (h2 _))|rfl)
section
variable {t:TypeId} (d:Nat) (w:World)
theorem MF(hd:P.underlying t=some .bool)(a b:Bool):(Op.equalIn (d+1) t (.bool a) (.bool b)).run P w = .ok (a==b) w:=by simp [Op.equalIn,run_underlying hd]
theorem BX(hd:P.underlying t=some (.pointer e))(a:Addr) :
  (Op.equalIn (d+1) t (.pointer none) (.pointer none)).run P w = .ok true w/\(Op.equalIn (d+1) t (.pointer (some a)) (.pointer none)).run P w = .ok false w /\
  (Op.equalIn (d+1) t (.pointer none) (.pointer (some a))).run P w = .ok false w:=by simp [Op.equalIn,run_underlying hd]
theorem v7(hd:P.underlying t=some (.slice e))(a:Addr)(n c:Nat) :
  (Op.equalIn (d+1) t (.slice none 0 0) (.slice none 0 0)).run P w = .ok true w/\(Op.equalIn (d+1) t (.slice (some a) n c) (.slice none 0 0)).run P w = .ok false w /\
  (Op.equalIn (d+1) t (.slice none 0 0) (.slice (some a) n c)).run P w = .ok false w:=by simp [Op.equalIn,run_underlying hd]
theorem BY{k:TypeId}(hd:P.underlying t=some (.map k e))(a:Nat) :
  (Op.equalIn (d+1) t (.map none) (.map none)).run P w = .ok true w/\(Op.equalIn (d+1) t (.map (some a)) (.map none)).run P w = .ok false w /\
  (Op.equalIn (d+1) t (.map none) (.map (some a))).run P w = .ok false w:=by simp [Op.equalIn,run_underlying hd]
theorem yP{x y:Array TypeId}{z:Bool}(hd:P.underlying t=some (.func x y z))(f:Fn)(a b:Array Value) :
  (Op.equalIn (d+1) t .nilFunc .nilFunc).run P w = .ok true w/\(Op.equalIn (d+1) t (.func f a b) .nilFunc).run P w = .ok false w /\
  (Op.equalIn (d+1) t .nilFunc (.func f a b)).run P w = .ok false w:=by simp [Op.equalIn,run_underlying hd]
end
theorem binOp_eql{x y:Value}{w:World}(h:(Op.equal t x y).run P w = .ok b w)(h1:∀ k n,x≠.int k n)(h2:∀ s,x≠.string s)(h3:∀ k n,x≠.float k n)(h4:∀ k n m,x≠.complex k n m) :
  (binOp .eql t x y).run P w = .ok (.bool b) w/\(binOp .neq t x y).run P w = .ok (.bool (!b)) w:=by
 cases x<;>first|(exact absurd rfl (h1 _ _))|(exact absurd rfl (h2 _))|(exact absurd rfl (h3 _ _))|(exact absurd rfl (h4 _ _ _))|(simp [binOp,h])
theorem HB{d:TypeDesc}(hd:P.underlying t=some d)(hx:VR w0 μ x xv)(hy:VR w0 μ y yv)(h:QI d x y=some b) :
  (∀ w,(binOp .eql t xv yv).run P w = .ok (.bool b) w)/\(∀ w,(binOp .neq t xv yv).run P w = .ok (.bool (!b)) w)/\xv≠.nilIface/\∀ c,xv≠.agg c:=by
 have key:(∀ w,(Op.equalIn (9999+1) t xv yv).run P w = .ok b w)->(∀ k n,xv≠.int k n)->(∀ s,xv≠.string s)->(∀ k n,xv≠.float k n)->(∀ k n m,xv≠.complex k n m) ->
   (∀ w,(binOp .eql t xv yv).run P w = .ok (.bool b) w)/\(∀ w,(binOp .neq t xv yv).run P w = .ok (.bool (!b)) w):=
  fun h1 a b c d=>⟨fun w=>(binOp_eql (h1 w) a b c d).1,fun w=>(binOp_eql (h1 w) a b c d).2⟩
 unfold QI at h;split at h
 ·rename_i k a k' b';split at h
  ·rename_i hk;subst hk;cases h;rw [hx.gj,hy.gj];refine ⟨fun w=>by simp [binOp,Op.intCmp],fun w=>by simp [binOp,Op.intCmp,bne],by simp,by simp⟩
  ·cases h
 ·rename_i a b';cases h;obtain ⟨s,rfl,rfl⟩:=hx.gQ;obtain ⟨u,rfl,rfl⟩:=hy.gQ;refine ⟨fun w=>by simp [binOp,Op.stringOp,ByteArray.toList_eq],fun w=>by simp [binOp,Op.stringOp,ByteArray.toList_eq],by simp,by simp⟩
 all_goals first
  |(cases h;done)
  |(split at h
    ·cases h;cases hx;cases hy;have:=key (fun w=>by first|exact MF 9999 w hd _ _|exact (BX 9999 w hd default).1|exact (BX 9999 w hd _).2.1|exact (BX 9999 w hd _).2.2|exact (v7 9999 w hd default 0 0).1|exact (v7 9999 w hd _ _ _).2.1|exact (v7 9999 w hd _ _ _).2.2|exact (BY 9999 w hd 0).1|exact (BY 9999 w hd _).2.1|exact (BY 9999 w hd _).2.2|exact (yP 9999 w hd (.func 0) #[] #[]).1|exact (yP 9999 w hd _ _ _).2.1|exact (yP 9999 w hd _ _ _).2.2) (by simp) (by simp) (by simp) (by simp);exact ⟨this.1,this.2,by simp,by simp⟩
    ·cases h)
theorem Rg{off:Nat}{v:AV}(hx:VR w0 μ x xv)(hi:faI P t i=some off)(h:bT off x=some v) :
  ∃ vc,(∀ w,(Instr.fieldAt t xv i).run P w = .ok vc w)/\VR w0 μ v vc:=by
 unfold faI FZ at hi;split at hi
 ·rename_i f hf;split at hf
  ·rename_i fs hu;split at hi
   ·rename_i s hs;split at hi
    ·cases hi
    ·rename_i WH;cases hi
     have hsz:∀ w,(sizeOf f.type).run P w = .ok s w:=by
      intro w;unfold nY at hs;split at hs
      ·rename_i inf iO;cases hs;simp [sizeOf,typeInfo,iO]
      ·cases hs
     have key:∀ (c o:Nat) (w:World),(Instr.fieldAt t (.pointer (some ⟨c,o,none⟩)) i).run P w = .ok (.pointer (some ⟨c,o+f.offset,none⟩)) w:=by
      intro c o w;simp [Instr.fieldAt,run_underlying hu,hf,Instr.sureAddr,fieldPlace,hsz,WH,kH]
     unfold bT at h;split at h
     ·cases h;cases hx;rename_i b o k hk;refine ⟨_,fun w=>key _ _ w,?_⟩;rw [Nat.add_assoc];exact .ptr _ _ _ hk
     ·cases h;cases hx;refine ⟨_,fun w=>key _ _ w,?_⟩;rw [Nat.add_assoc];exact .dQ _ _ _ _ _ ‹_› ‹_› ‹_› ‹_›
     ·cases h
   ·cases hi
  ·cases hf
 ·cases hi
theorem mD(h:nY P t=some n)(w:World):(sizeOf t).run P w = .ok n w:=by
 unfold nY at h;split at h
 ·rename_i inf iO;cases h;simp [sizeOf,typeInfo,iO]
 ·cases h
theorem BZ{r:Option Nat}(hr:vz P t=some r) :
  (∃ n,r=some n/\(∀ w,(isAgg t).run P w = .ok true w)/\∀ w,(sizeOf t).run P w = .ok n w)\/(r=none/\∀ w,(isAgg t).run P w = .ok false w):=by
 unfold vz at hr;split at hr
 ·rename_i fs hu;split at hr
  ·rename_i n hn;cases hr;exact .inl ⟨n,rfl,fun w=>by simp [isAgg,run_underlying hu],mD hn⟩
  ·cases hr
 ·rename_i n' e hu;split at hr
  ·rename_i n hn;cases hr;exact .inl ⟨n,rfl,fun w=>by simp [isAgg,run_underlying hu],mD hn⟩
  ·cases hr
 ·rename_i d h1 h2 hu;cases hr;refine .inr ⟨rfl,fun w=>?_⟩;simp only [isAgg,Sem.run_bind,run_underlying hu,Result.andThen_ok];cases d<;>first|rfl|(exact absurd rfl (h1 _))|(exact absurd rfl (h2 _ _))
 ·cases hr
theorem B0{r:Option Nat}(hr:vz P t=some r){vs:List Value}(hc:dZ w0 μ cs vs){off:Nat}{v:AV}(h:ji r cs off=some v) :
  ∃ vc,(∀ w,(Go.part t vs.toArray off).run P w = .ok vc w)/\VR w0 μ v vc:=by
 rcases BZ hr with ⟨n,rfl,h1,h2⟩|⟨rfl,h1⟩
 ·simp only [ji] at h;split at h
  ·cases h;exact ⟨.agg ((vs.drop off).take n).toArray,fun w=>by simp [Go.part,h1,h2],((hc.drop off).take n).agg⟩
  ·cases h
 ·simp only [ji] at h;obtain ⟨vc,hv,hr⟩:=hc.get h;exact ⟨vc,fun w=>by simp [Go.part,h1,hv],hr⟩
theorem J3{o:Option Nat×Nat}{v:AV}(hx:VR w0 μ x xv)(hi:F9 P t i=some o)(h:F5 o.1 o.2 x=some v) :
  ∃ vc,(∀ w,(Instr.field t xv i).run P w = .ok vc w)/\VR w0 μ v vc:=by
 unfold F9 FZ at hi;split at hi
 ·rename_i f hf;split at hf
  ·rename_i fs hu;split at hi
   ·rename_i r hr;cases hi;unfold F5 at h;split at h
    ·rename_i cs;obtain ⟨vs,rfl,hc⟩:=hx.LG;obtain ⟨vc,h1,h2⟩:=B0 hr hc h;exact ⟨vc,fun w=>by simp [Instr.field,run_underlying hu,hf,asAgg,h1],h2⟩
    ·cases h
   ·cases hi
  ·cases hf
 ·cases hi
theorem B1(h:Lr P t=some e):P.underlying t=some (.slice e):=by
 unfold Lr at h;split at h
 ·cases h;assumption
 ·cases h
theorem v8{o:Nat×Nat}(h:BN P t=some o):∃ e inf,P.underlying t=some (.slice e)/\P.info? e=some inf/\inf.size=o.1/\inf.bytes=o.2/\0<o.1/\0<o.2:=by
 unfold BN Ou at h;split at h
 ·cases h
 ·rename_i e he;split at h
  ·rename_i s b hs hb;split at h
   ·rename_i hp;cases h;unfold nY at hs;unfold Om at hb;split at hs
    ·rename_i inf iO;rw [iO] at hb;cases hs;cases hb;exact ⟨e,inf,B1 he,iO,rfl,rfl,by simpa using hp⟩
    ·cases hs
   ·cases h
  ·cases h
theorem Rh{o:Nat×Nat}{v:AV}(hx:VR w0 μ x xv)(hy:VR w0 μ y yv)(hi:BN P t=some o)(h:dM o.1 x y=some v) :
  ∃ vc,(∀ w,(Instr.indexAt t xv yv).run P w = .ok vc w)/\VR w0 μ v vc:=by
 obtain ⟨e,inf,hu,iO,hs,hb,hp,B2⟩:=v8 hi;unfold dM at h;split at h
 ·cases h
 ·rename_i i hn;obtain ⟨kk,rfl⟩:=qc hy hn
  have key:∀ (c off len cap:Nat) (w:World),i<len->(Instr.indexAt t (.slice (some ⟨c,off,none⟩) len cap) (.int kk (i:Int))).run P w = .ok (.pointer (some ⟨c,off+i*o.1,none⟩)) w:=by
   intro c off len cap w hlt;have:((i:Int)<(len:Int)):=by omega
   simp [Instr.indexAt,run_underlying hu,asIntOf,sizeOf,typeInfo,iO,hs,kH,hlt]
  split at h
  ·rename_i b off len sz;split at h
   ·rename_i hc;cases h;simp only [and_eq_true,decide_eq_true_eq,beq_iff_eq] at hc;cases hx;rename_i cap a k hk hle ha;obtain ⟨rfl,Xj⟩:=ha (by omega);refine ⟨_,fun w=>key _ _ _ _ w hc.1,?_⟩;rw [Nat.add_assoc,hc.2];exact .ptr _ _ _ hk
   ·cases h
  ·rename_i cs off len sz;split at h
   ·rename_i hc;cases h;simp only [and_eq_true,decide_eq_true_eq,beq_iff_eq] at hc;cases hx;rename_i cap a g o' vs hg hv hl hr ha hle;obtain rfl:=ha (by omega);refine ⟨_,fun w=>key _ _ _ _ w hc.1,?_⟩;rw [Nat.add_assoc,hc.2];exact .dQ _ _ _ _ _ hg hl hv hr
   ·cases h
  ·cases h
theorem MG{len:Nat}{v:AV}(hx:VR w0 μ x xv)(hy:VR w0 μ y yv)(hu:P.underlying t=some (.array len e))(hs:nY P e=some n)(h:Oq len n x y=some v) :
  ∃ vc,(∀ w,(Instr.indexAt t xv yv).run P w = .ok vc w)/\VR w0 μ v vc:=by
 unfold nY at hs;split at hs
 ·rename_i inf iO;simp only [Option.some.injEq] at hs;unfold Oq at h;split at h
  ·cases h
  ·rename_i i hn;obtain ⟨kk,rfl⟩:=qc hy hn
   have key:∀ (c off:Nat) (w:World),i<len->(Instr.indexAt t (.pointer (some ⟨c,off,none⟩)) (.int kk (i:Int))).run P w = .ok (.pointer (some ⟨c,off+i*n,none⟩)) w:=by
    intro c off w hlt;have:((i:Int)<(len:Int)):=by omega
    simp [Instr.indexAt,run_underlying hu,asIntOf,Instr.sureAddr,sizeOf,typeInfo,iO,hs,kH,hlt]
   split at h
   ·rename_i b off;split at h
    ·rename_i hc;cases h;cases hx;rename_i k hk;refine ⟨_,fun w=>key _ _ w hc,?_⟩;rw [Nat.add_assoc];exact .ptr _ _ _ hk
    ·cases h
   ·rename_i cs off;split at h
    ·rename_i hc;cases h;cases hx;refine ⟨_,fun w=>key _ _ w hc,?_⟩;rw [Nat.add_assoc];exact .dQ _ _ _ _ _ ‹_› ‹_› ‹_› ‹_›
    ·cases h
   ·cases h
 ·cases hs
theorem OC{o:IaK}{v:AV}(hx:VR w0 μ x xv)(hy:VR w0 μ y yv)(hi:iaI P t=some o)(h:iaV o x y=some v) :
  ∃ vc,(∀ w,(Instr.indexAt t xv yv).run P w = .ok vc w)/\VR w0 μ v vc:=by
 unfold iaI at hi;split at hi
 ·rename_i len e hu;split at hi
  ·rename_i s hs;cases hi;exact MG hx hy hu hs h
  ·cases hi
 ·split at hi
  ·rename_i o' ho;cases hi;exact Rh hx hy ho h
  ·cases hi
theorem OD(s:ByteArray)(i:Nat):s.data.toList[i]?=s[i]?:=by
 by_cases h:i<s.size
 ·have h':i<s.data.toList.length:=by rw [Array.length_toList];exact h
  rw [ew h',getElem?_pos s i h];rfl
 ·have h':s.data.toList.length<=i:=by rw [Array.length_toList];exact Nat.le_of_not_lt h
  rw [getElem?_eq_none h',getElem?_neg s i h]
theorem OE{o:UU}{v:AV}(hx:VR w0 μ x xv)(hy:VR w0 μ y yv)(hi:Rc P t=some o)(h:Ov o x y=some v) :
  ∃ vc,(∀ w,(Instr.index t xv yv).run P w = .ok vc w)/\VR w0 μ v vc:=by
 unfold Rc at hi;split at hi
 ·rename_i hu;cases hi;simp only [Ov,kT] at h;split at h
  ·rename_i s i hn;obtain ⟨s,rfl,rfl⟩:=hx.gQ;obtain ⟨kk,rfl⟩:=qc hy hn;split at h
   ·rename_i b hb;cases h;rw [OD] at hb;refine ⟨.int .u8 b.toNat,fun w=>?_,.int _ _⟩;simp [Instr.index,run_underlying hu,asIntOf,hb]
   ·cases h
  ·cases h
 ·rename_i len e hu;split at hi
  ·rename_i n r hn hr;cases hi;simp only [Ov,Lt] at h;split at h
   ·rename_i cs i hi;obtain ⟨vs,rfl,hc⟩:=hx.LG;obtain ⟨kk,rfl⟩:=qc hy hi;split at h
    ·rename_i hlt;obtain ⟨vc,h1,h2⟩:=B0 hr hc h;refine ⟨vc,fun w=>?_,h2⟩;have:((i:Int)<(len:Int)):=by omega
     simp [Instr.index,run_underlying hu,asIntOf,hlt,mD hn,h1]
    ·cases h
   ·cases h
  ·cases hi
 ·cases hi
theorem Gg{v:AV}(hx:VR w0 μ x xv)(h:bI x i=some v):∃ vc,(∀ w,(Instr.extract xv i).run P w = .ok vc w)/\VR w0 μ v vc:=by
 unfold bI at h;split at h
 ·obtain ⟨vs,rfl,hc⟩:=hx.EY;obtain ⟨vc,h1,h2⟩:=hc.get h;exact ⟨vc,fun w=>by simp [Instr.extract,h1],h2⟩
 ·cases h
theorem J4(hx:VR w0 μ x xv)(h:BR P t=some ()):(∀ w,(Instr.makeInterface t xv).run P w = .ok (.iface t xv) w)/\VR w0 μ (.iface t x) (.iface t xv):=by
 refine ⟨fun w=>?_,.iface t x xv hx⟩;unfold BR at h;split at h
 ·cases h
 ·rename_i d hd hu;simp only [Instr.makeInterface,Sem.run_bind,run_underlying hu,Result.andThen_ok];cases d<;>first|rfl|(exact absurd rfl (hd _))
 ·cases h
theorem OF{mx:Bool}:∀ (ys:List AV) (x v:AV) (xv:Value) (yvs:List Value),VR w0 μ x xv->dZ w0 μ ys yvs->vB mx x ys=some v ->
  ∃ vc,(∀ w,(yvs.foldlM (if mx then Builtin.max2 else Builtin.min2) xv).run P w = .ok vc w)/\VR w0 μ v vc:=by
 intro ys
 induction ys with
 |nil=>
  intro x v xv yvs hx hy h;obtain rfl:=hy.gO;cases h;exact ⟨xv,fun w=>by simp,hx⟩
 |cons y ys ih=>
  intro x v xv yvs hx hy h;obtain ⟨u,us,rfl,hyu,Xk⟩:=hy.cons_inv;simp only [vB] at h;split at h
  ·rename_i v' HC;unfold JS at HC;split at HC
   ·rename_i k a k' b;split at HC
    ·rename_i hk;subst hk;cases HC;rw [hx.gj,hyu.gj];obtain ⟨vc,h1,h2⟩:=ih _ v _ us (.int _ _) Xk h;refine ⟨vc,fun w=>?_,h2⟩;simp only [foldlM_cons,Sem.run_bind];cases mx<;>simp [Builtin.min2,Builtin.max2]<;>simpa using h1 w
    ·cases HC
   ·cases HC
  ·cases h
theorem B3{x:Option AV}{xv:Option Value}{d:Nat}(hx:(x=none/\xv=none)\/∃ a v,x=some a/\xv=some v/\VR w0 μ a v)(h:pN x d=some n) :
  (xv=none/\n=d)\/∃ k,xv=some (.int k (n:Int)):=by
 rcases hx with ⟨rfl,rfl⟩|⟨a,v,rfl,rfl,hr⟩
 ·simp [pN] at h;exact .inl ⟨rfl,h.symm⟩
 ·obtain ⟨k,rfl⟩:=qc hr h;exact .inr ⟨k,rfl⟩
theorem qO{isSlice:Bool}{len cap lo hi:Nat}{U3 Ri:Option Value}(w:World)(h1:(U3=none/\lo=0)\/∃ k,U3=some (.int k (lo:Int)))(h2:(Ri=none/\hi=len)\/∃ k,Ri=some (.int k (hi:Int)))
  (hl:lo<=hi) (hh:hi<=cap):(Instr.sliceBounds isSlice len cap U3 Ri none).run P w = .ok (lo,hi,cap) w:=by
 have e1:(0:Int)<=(lo:Int)/\(lo:Int)<=(hi:Int):=by omega
 have e2:(0:Int)<=(hi:Int)/\(hi:Int)<=(cap:Int):=by omega
 rcases h1 with ⟨rfl,rfl⟩|⟨k1,rfl⟩<;>rcases h2 with ⟨rfl,rfl⟩|⟨k2,rfl⟩<;>simp [Instr.sliceBounds,Instr.sliceBound,asIntOf,e1,e2,hl,hh]
theorem extract_toList(s:ByteArray)(lo hi:Nat)(hl:lo<=hi)(hh:hi<=s.size):(s.extract lo hi).data.toList=(s.data.toList.take hi).drop lo:=by
 simp only [ByteArray.data_extract,Array.toList_extract];rw [extract_eq_take_drop,drop_take]
theorem J5{i:Option Nat}{v:AV}{lo hi:Option AV}{U3 Ri:Option Value}(hx:VR w0 μ x xv)
  (DP:(lo=none/\U3=none)\/∃ a v,lo=some a/\U3=some v/\VR w0 μ a v) (JG:(hi=none/\Ri=none)\/∃ a v,hi=some a/\Ri=some v/\VR w0 μ a v)
  (uU:Ga P t=some i) (h:iT i x lo hi=some v):∃ vc,(∀ w,(Instr.sliceAt t xv U3 Ri none).run P w = .ok vc w)/\VR w0 μ v vc:=by
 unfold iT at h;split at h
 ·cases h
 ·rename_i len hlen;split at h
  ·rename_i T6 JH hb1 hb2;split at h
   ·rename_i hc;simp only [and_eq_true,decide_eq_true_eq] at hc;have b1:=B3 JG hb1;have b2:=B3 DP hb2;unfold Ga at uU;split at uU
    ·rename_i hu;cases uU;cases x<;>simp only [reduceCtorEq,Option.some.injEq] at h;rename_i l;subst h;obtain ⟨s,rfl,rfl⟩:=hx.gQ
     have hl:T6<=s.size:=by
      simp only [lH,Option.some.injEq] at hlen;have:s.data.toList.length=s.size:=by rw [Array.length_toList];rfl
      omega
     have b1':(Ri=none/\T6=s.size)\/∃ k,Ri=some (.int k (T6:Int)):=by
      rcases b1 with ⟨e1,e2⟩|e
      ·refine .inl ⟨e1,?_⟩;simp only [lH,Option.some.injEq] at hlen;have:s.data.toList.length=s.size:=by rw [Array.length_toList];rfl
       omega
      ·exact .inr e
     refine ⟨.string (s.extract JH T6),fun w=>?_,?_⟩
     ·simp [Instr.sliceAt,Instr.slice,run_underlying hu,qO (P:=P) w b2 b1' hc.1 hl]
     ·rw [<- extract_toList s JH T6 hc.1 hl];exact .str _
    ·rename_i e hu;split at uU
     ·rename_i sz hsz;cases uU;cases x<;>simp only [reduceCtorEq,Option.some.injEq] at h
      ·subst h;simp only [lH,Option.some.injEq] at hlen;subst hlen;cases hx;obtain rfl:T6=0:=by omega
       obtain rfl:JH=0:=by omega
       refine ⟨.slice none 0 0,fun w=>?_,.ay⟩;simp [Instr.sliceAt,Instr.slice,run_underlying hu,qO (P:=P) w b2 b1 (dN 0) (dN 0),mD hsz]
      ·rename_i b off n sz';split at h
       ·rename_i hs;subst hs;cases h;simp only [lH,Option.some.injEq] at hlen;subst hlen;cases hx;rename_i cap a k hk hle ha;refine ⟨.slice (if cap=JH then some a else some (a.add (JH*sz))) (T6-JH) (cap-JH),fun w=>?_,?_⟩
        ·have hb:=qO (P:=P) (isSlice:=true) (len:=n) (cap:=cap) w b2 b1 hc.1 (by omega);simp [Instr.sliceAt,Instr.slice,run_underlying hu,hb,mD hsz]
        ·by_cases e:cap=JH
         ·rw [if_pos e];exact .slice _ _ _ _ _ _ _ hk (by omega) (fun h0=>by omega)
         ·rw [if_neg e];refine .slice _ _ _ _ _ _ _ hk (by omega) (fun h0=>?_);obtain ⟨rfl,hbd⟩:=ha (by omega);refine ⟨by rw [kH,Nat.add_assoc],?_⟩;have:(cap-JH)*sz=cap*sz-JH*sz:=Nat.sub_mul _ _ _;have h2:JH*sz<=cap*sz:=mul_le_mul_right _ (by omega);omega
       ·cases h
      ·rename_i cs off n sz';split at h
       ·rename_i hs;subst hs;cases h;simp only [lH,Option.some.injEq] at hlen;subst hlen;cases hx;rename_i cap a g o' vs hg hv hl hr ha hle;refine ⟨.slice (if cap=JH then some a else some (a.add (JH*sz))) (T6-JH) (cap-JH),fun w=>?_,?_⟩
        ·have hb:=qO (P:=P) (isSlice:=true) (len:=n) (cap:=cap) w b2 b1 hc.1 (by omega);simp [Instr.sliceAt,Instr.slice,run_underlying hu,hb,mD hsz]
        ·by_cases e:cap=JH
         ·rw [if_pos e];exact .ax _ _ _ _ _ _ _ _ _ hg hl hv hr (by omega) (fun h0=>by omega)
         ·rw [if_neg e];refine .ax _ _ _ _ _ _ _ _ _ hg hl hv hr (by omega) (fun h0=>?_);obtain rfl:=ha (by omega);rw [kH,Nat.add_assoc]
       ·cases h
     ·cases uU
    ·cases uU
   ·cases h
  ·cases h
end
end Go.AM
namespace Go.AM
open List Nat Bool Option
open Go Go.RowKit
theorem fG{α:Type}:∀ (vs cs:List α) (off:Nat),(eo cs off vs).length=cs.length
 |[],cs,off=>rfl
 |v :: vs,cs,off=>by simp [eo,fG vs]
section
variable {P:Program} {w0:World} {μ:Mu} {ρ:Operand->AV} {ρc:Operand->Value}
theorem dZ.eo:∀ {xs ys:List AV} {us vs:List Value} (off:Nat),dZ w0 μ xs us->dZ w0 μ ys vs->dZ w0 μ (AM.eo xs off ys) (AM.eo us off vs)
 |xs,[],us,vs,off,h,k=>by obtain rfl:=k.gO;exact h
 |xs,y :: ys,us,vs,off,h,k=>by
  obtain ⟨u,WI,rfl,h1,h2⟩:=k.cons_inv;exact dZ.eo (off+1) (h.set off h1) h2
theorem B4:∀ (vs:List Value) (j off:Nat) (cells:Array Value),
  ((vs.zipIdx j).foldl (fun cs (p:Value×Nat)=>cs.setIfInBounds (off+p.2) p.1) cells).toList=eo cells.toList (off+j) vs
 |[],j,off,cells=>rfl
 |v :: vs,j,off,cells=>by
  simp only [zipIdx_cons,foldl_cons,eo];rw [B4 vs (j+1) off];simp [Nat.add_assoc]
theorem B5(place:Nat->Option (Nat×Nat)):∀ (is:List Nat) (ps:List (Nat×Nat)) (xs:List AV) (us:List Value) (zs cs:List AV) (cells:Array Value),
  is.length=ps.length->(∀ (k i:Nat) (p:Nat×Nat),is[k]?=some i->ps[k]?=some p->place i=some p)->dZ w0 μ xs us->dZ w0 μ zs cells.toList->og zs ps xs=some cs ->
  ∃ kz,Instr.fill place cells (is.zip us)=some kz/\dZ w0 μ cs kz.toList:=by
 intro is
 induction is with
 |nil=>
  intro ps xs us zs cs cells hl hp hx hz h;obtain rfl:ps = []:=eq_nil_of_length_eq_zero hl.symm
  cases xs with
  |nil=>cases h;exact ⟨cells,by simp [Instr.fill],hz⟩
  |cons x xs=>simp [og] at h
 |cons i is ih=>
  intro ps xs us zs cs cells hl hp hx hz h
  cases ps with
  |nil=>simp at hl
  |cons p ps=>
   obtain ⟨off,n⟩:=p
   cases xs with
   |nil=>simp [og] at h
   |cons x xs=>
    obtain ⟨u,WI,rfl,hu,Rj⟩:=hx.cons_inv;simp only [og] at h;split at h
    ·rename_i hc;simp only [and_eq_true,decide_eq_true_eq] at hc;have sC:=hu.cells hc.2;have e1:u.cells.size=n:=by rw [<- Array.length_toList,<- sC.len];exact hc.1.1
     have e2:off+u.cells.size<=cells.size:=by rw [e1];have:=hc.1.2;rw [hz.len,Array.length_toList] at this;exact this
     have WJ:dZ w0 μ (AM.eo zs off x.dB) (u.cells.zipIdx.foldl (fun cs (p:Value×Nat)=>cs.setIfInBounds (off+p.2) p.1) cells).toList:=by
      have:=B4 u.cells.toList 0 off cells
      have e3:u.cells.zipIdx.foldl (fun cs (p:Value×Nat)=>cs.setIfInBounds (off+p.2) p.1) cells=(u.cells.toList.zipIdx 0).foldl (fun cs (p:Value×Nat)=>cs.setIfInBounds (off+p.2) p.1) cells:=by
       rw [<- Array.foldl_toList];simp
      rw [e3,this];exact dZ.eo _ hz sC
     obtain ⟨kz,h1,h2⟩:=ih ps xs WI _ cs _ (by simpa using hl) (fun k i p a b=>hp (k+1) i p (by simpa using a) (by simpa using b)) Rj WJ h;refine ⟨kz,?_,h2⟩;have sE:place i=some (off,n):=hp 0 i (off,n) rfl rfl;simp only [zip_cons_cons,Instr.fill,sE];rw [if_neg (by simp [e1];rw [<- e1];exact e2)];exact h1
    ·cases h
theorem J6{pl:List (Nat×Nat)}:∀ {is:List Nat} {ps:List (Nat×Nat)},Lw pl is=some ps->is.length=ps.length/\∀ (k i:Nat) (p:Nat×Nat),is[k]?=some i->ps[k]?=some p->pl[i]?=some p:=by
 intro is
 induction is with
 |nil=>intro ps h;cases h;exact ⟨rfl,by simp⟩
 |cons i is ih=>
  intro ps h;simp only [Lw] at h;split at h
  ·rename_i p ps' h1 h2;cases h;obtain ⟨e1,e2⟩:=ih h2;refine ⟨by simp [e1],fun k j q a b=>?_⟩
   cases k with
   |zero=>simp at a b;subst a;subst b;exact h1
   |succ k=>exact e2 k j q (by simpa using a) (by simpa using b)
  ·cases h
theorem mE{t:TypeId}{z:AV}(h:zP P t=some z):∃ inf zv,P.info? t=some inf/\inf.zero=some zv/\z=ofConst zv:=by
 unfold zP at h;split at h
 ·rename_i inf iO;split at h
  ·rename_i zv hz;cases h;exact ⟨inf,zv,iO,hz,rfl⟩
  ·cases h
 ·cases h
theorem sF{α β:Type}(l:List (Nat×α))(g:α->β):(l.map (·.1)).zip (l.map fun p=>g p.2)=l.map fun p=>(p.1,g p.2):=by
 induction l with
 |nil=>rfl
 |cons a l ih=>simp [ih]
theorem J7{t:TypeId}{parts:Array (Nat×Operand)}{v:AV}(hρ:∀ x,VR w0 μ (ρ x) (ρc x))
  (h:((F8 P t (parts.toList.map (·.1))).bind fun i=>iA i.1 i.2 (parts.toList.map fun p=>ρ p.2))=some v) :
  ∃ vc,(∀ w,(Instr.build t (parts.map fun (i,x)=>(i,ρc x))).run P w = .ok vc w)/\VR w0 μ v vc:=by
 obtain ⟨i,hi,ha⟩:=bind_eq_some_iff.1 h;unfold iA at ha;split at ha
 ·rename_i cs hcs;cases ha;unfold F8 at hi;split at hi
  ·rename_i fs hu;split at hi
   ·rename_i z pl hz sE;split at hi
    ·rename_i ps we;split at hi
     ·rename_i uV;cases hi;obtain ⟨inf,zv,iO,HD,rfl⟩:=mE hz;obtain ⟨e1,e2⟩:=J6 we;have hx:dZ w0 μ (parts.toList.map fun p=>ρ p.2) (parts.toList.map fun p=>ρc p.2):=dZ.map _ fun a _=>hρ a.2;obtain ⟨kz,h1,h2⟩:=B5 (w0:=w0) (μ:=μ) (pl.toArray[·]?) _ ps _ _ _ cs zv.cells e1 (fun k i p a b=>by simpa using e2 k i p a b) hx ((VR.ofConst zv).cells uV) hcs;rw [sF] at h1;refine ⟨.agg kz,fun w=>?_,?_⟩
      ·refine run_build w t _ kz ?_;unfold Program.built;rw [iO,hu];simp only [HD];have acw:fs.toList.mapM (fun f=>(P.info? f.type).map fun i=>(f.offset,i.size))=some pl:=sE;rw [acw];simpa using h1
      ·have:=h2.agg;simpa using this
     ·cases hi
    ·cases hi
   ·cases hi
  ·rename_i n e hu;split at hi
   ·rename_i z ie hz hie;split at hi
    ·rename_i uV;cases hi;obtain ⟨inf,zv,iO,HD,rfl⟩:=mE hz;have hx:dZ w0 μ (parts.toList.map fun p=>ρ p.2) (parts.toList.map fun p=>ρc p.2):=dZ.map _ fun a _=>hρ a.2
     obtain ⟨kz,h1,h2⟩:=B5 (w0:=w0) (μ:=μ) (fun i=>some (i*ie.size,ie.size)) (parts.toList.map (·.1)) ((parts.toList.map (·.1)).map fun i=>(i*ie.size,ie.size)) _ _ _ cs zv.cells (by simp) (fun k i p a b=>by
      rw [getElem?_map,a] at b;simpa using b) hx ((VR.ofConst zv).cells uV) hcs
     rw [sF] at h1;refine ⟨.agg kz,fun w=>?_,?_⟩
     ·refine run_build w t _ kz ?_;unfold Program.built;rw [iO,hu];simp only [HD,hie];simpa using h1
     ·have:=h2.agg;simpa using this
    ·cases hi
   ·cases hi
  ·cases hi
 ·cases ha
theorem OG(hρ:∀ x,VR w0 μ (ρ x) (ρc x))(lo:Option Operand):(lo.map ρ=none/\lo.map ρc=none)\/∃ a v,lo.map ρ=some a/\lo.map ρc=some v/\VR w0 μ a v:=by
 cases lo with
 |none=>exact .inl ⟨rfl,rfl⟩
 |some x=>exact .inr ⟨_,_,rfl,rfl,hρ x⟩
theorem HE{xt a:TypeId}{ok:Bool}{z x v:AV}{xv:Value}(hx:VR w0 μ x xv)(hi:Bi P a ok=some z)(h:Bh a z x=some v) :
  ∃ vc,(∀ w,(Instr.typeAssert xv xt a ok).run P w = .ok vc w)/\VR w0 μ v vc:=by
 unfold Bi at hi;split at hi
 ·cases hi
 ·rename_i d hu hd;obtain ⟨inf,zv,h1,h2,rfl⟩:=mE hi;have hz:∀ w,(zeroValue a).run P w = .ok zv w:=fun w=>by simp [zeroValue,typeInfo,h1,h2]
  unfold Bh at h;split at h
  ·cases h;cases hx;refine ⟨.tuple #[zv,.bool false],fun w=>?_,dZ.tuple (.cons (VR.ofConst zv) (.cons (.bool false) .nil))⟩;cases d<;>first|(simp [Instr.typeAssert,run_underlying hd,hz];done)|(exfalso;simp_all)
  ·rename_i t y;cases h;cases hx;rename_i yv hy;by_cases e:t=a
   ·subst e;rw [if_pos rfl];refine ⟨.tuple #[yv,.bool true],fun w=>?_,dZ.tuple (.cons hy (.cons (.bool true) .nil))⟩;cases d<;>first|(simp [Instr.typeAssert,run_underlying hd];done)|(exfalso;simp_all)
   ·rw [if_neg e];refine ⟨.tuple #[zv,.bool false],fun w=>?_,dZ.tuple (.cons (VR.ofConst zv) (.cons (.bool false) .nil))⟩;cases d<;>first|(simp [Instr.typeAssert,run_underlying hd,hz,e];done)|(exfalso;simp_all)
  ·cases h
 ·cases hi
theorem HF(hρ:∀ x,VR w0 μ (ρ x) (ρc x)){o:Oper}(hk:fe o.op = .pure){v:AV}(h:mu P ρ o.op=some v) :
  ∃ vc,(∀ w,(execOp ρc o).run P w = .ok (.value vc) w)/\VR w0 μ v vc:=by
 obtain ⟨dst,op,type,pos,after,guard⟩:=o;cases op<;>simp only [fe,reduceCtorEq] at hk<;>simp only [mu] at h
 case move x=>cases h;exact ⟨ρc x,fun w=>by simp [execOp],hρ x⟩
 case assign x=>cases h;exact ⟨ρc x,fun w=>by simp [execOp],hρ x⟩
 case pick c a b=>
  obtain ⟨t,ht,hv⟩:=ME (hρ c) (hρ a) (hρ b) h;exact ⟨_,fun w=>by simp [execOp,ht,asBool],hv⟩
 case build t ps=>
  obtain ⟨vc,h1,h2⟩:=J7 (ρc:=ρc) hρ h;exact ⟨vc,fun w=>by simp [execOp,h1],h2⟩
 case nilCheck x=>
  obtain ⟨h1,h2⟩:=DX (hρ x) h;refine ⟨ρc x,fun w=>?_,h1⟩;rcases h2 with ⟨a,ha⟩|⟨f,a,b,ha⟩<;>simp [execOp,ha]
 case binOp op t x y u=>
  have Xl:∀ vc,(∀ w,(binOp op t (ρc x) (ρc y)).run P w = .ok vc w)->(ρc x≠.nilIface/\∀ c,ρc x≠.agg c)->∀ w,(execOp ρc ⟨dst,.binOp op t x y u,type,pos,after,guard⟩).run P w = .ok (.value vc) w:=
   fun vc h1 h2 w=>by simp [execOp,DY h2.1 h2.2,h1]
  cases op
  case eql=>
   obtain ⟨d,hd,he⟩:=bind_eq_some_iff.1 h;unfold jC at he;split at he
   ·rename_i b hb;cases he;obtain ⟨h1,_,h3⟩:=HB hd (hρ x) (hρ y) hb;exact ⟨.bool b,Xl _ h1 h3,.bool b⟩
   ·cases he
  case neq=>
   obtain ⟨d,hd,he⟩:=bind_eq_some_iff.1 h;unfold pM at he;split at he
   ·rename_i b hb;cases he;obtain ⟨_,h1,h3⟩:=HB hd (hρ x) (hρ y) hb;exact ⟨.bool (!b),Xl _ h1 h3,.bool _⟩
   ·cases he
  all_goals
   obtain ⟨vc,h1,h2⟩:=OB (P:=P) (t:=t) (hρ x) (hρ y) h (by simp) (by simp);refine ⟨vc,fun w=>?_,h2⟩;simp [execOp,eqGuard,h1]
 case unOp op t x=>
  obtain ⟨vc,h1,h2⟩:=Rf (P:=P) (hρ x) h;exact ⟨vc,fun w=>by simp [execOp,h1],h2⟩
 case makeInterface t x=>
  obtain ⟨_,hi,he⟩:=bind_eq_some_iff.1 h;cases he;obtain ⟨h1,h2⟩:=J4 (P:=P) (hρ x) hi;exact ⟨_,fun w=>by simp [execOp,h1],h2⟩
 case makeFunc fn first cap=>
  cases fn<;>simp only [reduceCtorEq,Option.some.injEq] at h;rename_i f;subst h;have h1:dZ w0 μ (first.toList.map ρ) (first.toList.map ρc):=dZ.map _ fun a _=>hρ a;have h2:dZ w0 μ (cap.toList.map ρ) (cap.toList.map ρc):=dZ.map _ fun a _=>hρ a;refine ⟨.func (.func f) (first.toList.map ρc).toArray (cap.toList.map ρc).toArray,fun w=>?_,.func f _ _ _ _ h1.len h2.len h1.rel h2.rel⟩;have e1:∀ a:Array Operand,a.map ρc=(a.toList.map ρc).toArray:=fun a=>by apply Array.ext';simp
  simp only [execOp,Instr.makeFunc,e1];rfl
 case slice t x lo hi mx=>
  cases mx with
  |some m=>cases h
  |none=>
   obtain ⟨i,uU,he⟩:=bind_eq_some_iff.1 h;obtain ⟨vc,h1,h2⟩:=J5 (hρ x) (OG hρ lo) (OG hρ hi) uU he;exact ⟨vc,fun w=>by simp [execOp,h1],h2⟩
 case fieldAddr t x i=>
  obtain ⟨o,hi,he⟩:=bind_eq_some_iff.1 h;obtain ⟨vc,h1,h2⟩:=Rg (hρ x) hi he;exact ⟨vc,fun w=>by simp [execOp,h1],h2⟩
 case field t x i=>
  obtain ⟨o,hi,he⟩:=bind_eq_some_iff.1 h;obtain ⟨vc,h1,h2⟩:=J3 (hρ x) hi he;exact ⟨vc,fun w=>by simp [execOp,h1],h2⟩
 case indexAddr t x i=>
  obtain ⟨o,hi,he⟩:=bind_eq_some_iff.1 h;obtain ⟨vc,h1,h2⟩:=OC (hρ x) (hρ i) hi he;exact ⟨vc,fun w=>by simp [execOp,h1],h2⟩
 case index t x i=>
  obtain ⟨o,hi,he⟩:=bind_eq_some_iff.1 h;obtain ⟨vc,h1,h2⟩:=OE (hρ x) (hρ i) hi he;exact ⟨vc,fun w=>by simp [execOp,h1],h2⟩
 case extract x i=>
  obtain ⟨vc,h1,h2⟩:=Gg (P:=P) (hρ x) h;exact ⟨vc,fun w=>by simp [execOp,h1],h2⟩
 case typeAssert x xt a ok=>
  obtain ⟨z,hi,he⟩:=bind_eq_some_iff.1 h;obtain ⟨vc,h1,h2⟩:=HE (P:=P) (xt:=xt) (hρ x) hi he;exact ⟨vc,fun w=>by simp [execOp,h1],h2⟩
 case call c=>
  obtain ⟨yO,args,ts⟩:=c
  cases yO with
  |value f=>simp [fc] at hk
  |invoke r m=>simp [fc] at hk
  |builtin b=>
   cases b<;>simp only [fc,reduceCtorEq] at hk
   all_goals
    have hx:dZ w0 μ (args.toList.map ρ) (args.toList.map ρc):=dZ.map _ fun a _=>hρ a;simp only at h;split at h
    ·rename_i x xs QJ;rw [QJ] at hx;obtain ⟨u,us,Rj,h1,h2⟩:=hx.cons_inv;obtain ⟨vc,h3,h4⟩:=OF (P:=P) _ _ _ _ _ h1 h2 h;refine ⟨vc,fun w=>?_,h4⟩;have h5:=h3 w;simp at h5;simp [execOp,resolve,invoke,builtin,Builtin.max_,Builtin.min_,Rj,h5]
    ·cases h
end
end Go.AM
namespace Go.AM
open List Nat Bool Option
open Go Go.RowKit
variable {d:TypeDesc} {kv xv:Value} {t kt:TypeId} {gu:List MapEntry} {cs:List AV} {es:List Entry} {k v x:AV} {c:Nat}
def lQ(P:Program)(ρ:Operand->AV)(h:Heap):Op->Option AV
 |.load t a=>(vz P t).bind fun i=>ah i (ρ a) h
 |.lookup t x i ok=>(qM P t).bind fun d=>dV d.1 d.2 ok (ρ x) (ρ i) h
 |.call c=>(match c.callee with
  |.builtin .len=>(match c.argTypes.toList,c.args.toList.map ρ with
   |t :: _,[x]=>(Re P t).bind fun i=>bX i x h
   |_,_=>none)
  |_=>none)
 |_=>none
theorem qd{P:Program}{ρ:Operand->AV}{op:Op}(hk:fe op = .read)(h:Heap)(K:AV->Heap->Bool):gJ op P ρ h K=ag (lQ P ρ h op) fun v=>K v h:=by
 cases op<;>simp only [fe,reduceCtorEq] at hk
 case load=>simp only [gJ,ku,lQ,g9]
 case lookup=>simp only [gJ,Ht,ku,lQ,g9]
 case call c=>
  obtain ⟨yO,args,ts⟩:=c
  cases yO with
  |value f=>simp [fc] at hk
  |invoke r m=>simp [fc] at hk
  |builtin b=>
   cases b<;>simp only [fc,reduceCtorEq] at hk;simp only [gJ,su,EX,JW,lQ]
   cases h1:ts.toList with
   |nil=>rfl
   |cons t l=>cases h2:args.toList.map ρ with
    |nil=>rfl
    |cons x l2=>cases l2 with
     |nil=>simp only [ku,g9]
     |cons y l3=>rfl
section
variable {P:Program} {w0 w:World} {μ:Mu} {h:Heap} {ρ:Operand->AV} {ρc:Operand->Value}
theorem cell_of{vs:Array Value}{e:TypeId}{fr:Nat×Nat}(ho:w.heap[c]?=some (.cells vs e fr))(i:Nat):w.cell? ⟨c,i,none⟩=vs[i]?:=by
 simp [World.cell?,ho]
theorem Good.cells(hg:Good w0 μ h w){b:Nat}{k:Gf}(hk:μ b=some k)(ho:h.get b=some (.cells cs)) :
  ∀ (i:Nat) (x:AV),cs[i]?=some x->∃ v,w.cell? ⟨k.c,k.base+i,none⟩=some v/\VR w0 μ x v:=by
 obtain ⟨vs,e,fr,h1,h2,h3,h4,h5⟩:=hg.obj b k _ hk ho;intro i x hx;obtain ⟨v,a,b⟩:=h5 i x hx;exact ⟨v,by rw [cell_of h1];exact a,b⟩
theorem Good.J8(hg:Good w0 μ h w){g o:Nat}{vs:List Value}(T7:True)(hl:cs.length=vs.length)
  (hv:∀ (i:Nat) (v:Value),vs[i]?=some v->μ.cell g (o+i)=some v) (hr:∀ (i:Nat) (x:AV) (v:Value),cs[i]?=some x->vs[i]?=some v->VR w0 μ x v) :
  ∀ (i:Nat) (x:AV),cs[i]?=some x->∃ v,w.cell? ⟨g,o+i,none⟩=some v/\VR w0 μ x v:=by
 intro i x hx;obtain ⟨v,a,b⟩:=(dZ.mk hl hr).get hx;have hc:=hv i v a;unfold Mu.cell at hc;obtain ⟨zs,hz,hi⟩:=bind_eq_some_iff.1 hc;obtain ⟨arr,e,fr,h1,h2⟩:=hg.yJ g zs hz;refine ⟨v,?_,b⟩;rw [cell_of h1,<- hi,<- h2,Array.getElem?_toList]
theorem wg{base:Nat}(hc:∀ (i:Nat) (x:AV),cs[i]?=some x->∃ v,w.cell? ⟨c,base+i,none⟩=some v/\VR w0 μ x v) :
  ∀ (n off:Nat),off+n<=cs.length->∃ vs:List Value,vs.length=n/\(∀ (j:Nat) (v:Value),vs[j]?=some v->w.cell? ⟨c,base+off+j,none⟩=some v)/\dZ w0 μ ((cs.drop off).take n) vs:=by
 intro n
 induction n with
 |zero=>intro off hle;exact ⟨[],rfl,by simp,by simpa using dZ.nil⟩
 |succ n ih=>
  intro off hle;obtain ⟨vs,h1,h2,h3⟩:=ih (off+1) (by omega);have hx:cs[off]?=some (cs[off]'(by omega)):=ew (by omega);obtain ⟨v,hv,hr⟩:=hc off _ hx;refine ⟨v :: vs,by simp [h1],fun j u hj=>?_,?_⟩
  ·cases j with
   |zero=>simp at hj;subst hj;exact hv
   |succ j=>
    have:=h2 j u (by simpa using hj)
    rwa [show base+off+(j+1)=base+(off+1)+j by omega]
  ·rw [drop_eq_getElem_cons (by omega),take_succ_cons];exact .cons hr h3
theorem oZ{r:Option Nat}(hr:vz P t=some r){base off:Nat}(hc:∀ (i:Nat) (x:AV),cs[i]?=some x->∃ v,w.cell? ⟨c,base+i,none⟩=some v/\VR w0 μ x v)
  (h:ji r cs off=some v):∃ vc,(loadVar t ⟨c,base+off,none⟩).run P w = .ok vc w/\VR w0 μ v vc:=by
 rcases BZ hr with ⟨n,rfl,h1,h2⟩|⟨rfl,h1⟩
 ·simp only [ji] at h;split at h
  ·rename_i hle;cases h;obtain ⟨vs,e1,e2,e3⟩:=wg hc n off hle;refine ⟨.agg vs.toArray,?_,e3.agg⟩;have:=run_loadCells_list (P:=P) w ⟨c,base+off,none⟩ vs (fun j u hj=>by rw [kH];exact e2 j u hj);rw [e1] at this;simp [loadVar,h1,h2,this]
  ·cases h
 ·simp only [ji] at h;obtain ⟨u,hu,hr⟩:=hc off v h;exact ⟨u,by simp [loadVar,h1,hu],hr⟩
theorem MH(hg:Good w0 μ h w){r:Option Nat}(hr:vz P t=some r)(hx:VR w0 μ x xv)(hl:ah r x h=some v) :
  ∃ vc,(Instr.loadAt t xv).run P w = .ok vc w/\VR w0 μ v vc:=by
 unfold ah at hl;split at hl
 ·rename_i b off;split at hl
  ·rename_i cs ho;cases hx;rename_i k hk;obtain ⟨vc,h1,h2⟩:=oZ hr (hg.cells hk ho) hl;exact ⟨vc,by simp [Instr.loadAt,Instr.sureAddr,h1],h2⟩
  ·cases hl
 ·rename_i cs off;cases hx;rename_i g o vs T7 hv B6 uW;obtain ⟨vc,h1,h2⟩:=oZ hr (hg.J8 T7 B6 hv uW) hl;exact ⟨vc,by simp [Instr.loadAt,Instr.sureAddr,h1],h2⟩
 ·cases hl
structure mW (w0:World) (μ:Mu) (es:List Entry) (gu:List MapEntry):Prop where
 len:gu.length=es.length
 rel:∀ (i:Nat) (k v:AV) (n:Nat),es[i]?=some (k,v,n)->∃ e,gu[i]?=some e/\VR w0 μ k e.key/\VR w0 μ v e.val/\e.born=n
theorem mW.cons_inv{n:Nat}(h:mW w0 μ ((k,v,n) :: es) gu) :
  ∃ e DZ,gu=e :: DZ/\VR w0 μ k e.key/\VR w0 μ v e.val/\e.born=n/\mW w0 μ es DZ:=by
 cases gu with
 |nil=>exact absurd h.len (by simp)
 |cons e gu=>
  obtain ⟨e',h1,h2,h3,h4⟩:=h.rel 0 k v n rfl;simp at h1;subst h1
  exact ⟨e,gu,rfl,h2,h3,h4,by have:=h.len;simpa using this,fun i k v n hi=>by
   have:=h.rel (i+1) k v n (by simpa using hi)
   simpa using this⟩
theorem mW.gO(h:mW w0 μ [] gu):gu = []:=eq_nil_of_length_eq_zero (by simpa using h.len)
theorem Good.map(hg:Good w0 μ h w){b:Nat}{k:Gf}(hk:μ b=some k){es:List Entry}{ck:Nat}(ho:h.get b=some (.map es ck)) :
  ∃ gu:Array MapEntry,w.heap[k.c]?=some (.map gu ck)/\mW w0 μ es gu.toList:=by
 obtain ⟨gu,h1,h2,h3⟩:=hg.obj b k _ hk ho;exact ⟨gu,h1,by simpa using h2,fun i k v n hi=>by simpa using h3 i k v n hi⟩
theorem MI(hk:VR w0 μ k kv)(h:p9 d k=true) :
  (∃ j i n,d = .int j/\k = .int i n/\kv = .int i n)\/(∃ s:ByteArray,d = .string/\k = .str s.data.toList/\kv = .string s)\/(∃ b,d = .bool/\k = .bool b/\kv = .bool b):=by
 unfold p9 at h;split at h
 ·rw [hk.gj];exact .inl ⟨_,_,_,rfl,rfl,rfl⟩
 ·obtain ⟨s,rfl,rfl⟩:=hk.gQ;exact .inr (.inl ⟨s,rfl,rfl,rfl⟩)
 ·rw [hk.iB];exact .inr (.inr ⟨_,rfl,rfl,rfl⟩)
 ·cases h
theorem run_checkKey(hd:P.underlying kt=some d)(hk:VR w0 μ k kv)(h:p9 d k=true)(e:Bool)(n:Nat) :
  (Instr.checkKey e (n+1) kt kv).run P w = .ok () w:=by
 rcases MI hk h with ⟨j,i,m,rfl,rfl,rfl⟩|⟨s,rfl,rfl,rfl⟩|⟨b,rfl,rfl,rfl⟩<;>simp [Instr.checkKey,run_underlying hd]
theorem EZ(hk:VR w0 μ k kv)(hx:VR w0 μ x xv){b:Bool}(h:vA d k x=some b):Instr.sameNow d kv xv=some b:=by
 unfold vA at h;split at h
 ·rename_i k1 a k2 b';rw [hk.gj,hx.gj];simpa [Instr.sameNow] using h
 ·obtain ⟨s,rfl,rfl⟩:=hk.gQ;obtain ⟨u,rfl,rfl⟩:=hx.gQ;cases h;simp only [Instr.sameNow,Option.some.injEq];rw [beq_toListBytes,ByteArray.toList_eq,ByteArray.toList_eq]
 ·rw [hk.iB,hx.iB];cases h;rfl
 ·cases h
theorem lD(hk:VR w0 μ k kv):∀ (es:List Entry) (gu:List MapEntry) (i:Nat) (r:Option (Nat×AV)),mW w0 μ es gu->jD d k es i=some r ->
  ∃ r',Instr.findNow d kv gu i=some r'/\((r=none/\r'=none)\/∃ j v vc,r=some (j,v)/\r'=some (j,vc)/\VR w0 μ v vc/\i<=j/\∃ e,es[j-i]?=some e/\e.2.1=v/\vA d k e.1=some true):=by
 intro es
 induction es with
 |nil=>intro gu i r he h;obtain rfl:=he.gO;cases h;exact ⟨none,rfl,.inl ⟨rfl,rfl⟩⟩
 |cons e es ih=>
  intro gu i r he h;obtain ⟨x,v,n⟩:=e;obtain ⟨c,DZ,rfl,h1,h2,h3,h4⟩:=he.cons_inv;simp only [jD] at h;split at h
  ·rename_i hb;cases h;refine ⟨some (i,c.val),?_,.inr ⟨i,v,c.val,rfl,rfl,h2,dN _,(x,v,n),by simp,rfl,hb⟩⟩;simp [Instr.findNow,EZ hk h1 hb]
  ·rename_i hb;obtain ⟨r',h5,h6⟩:=ih DZ (i+1) r h4 h;refine ⟨r',by simp [Instr.findNow,EZ hk h1 hb,h5],?_⟩;rcases h6 with h6|⟨j,v',vc,a,b,c',hij,e',Xm,HC⟩
   ·exact .inl h6
   ·refine .inr ⟨j,v',vc,a,b,c',by omega,e',?_,HC⟩;rw [show j-i=(j-(i+1))+1 by omega];simpa using Xm
  ·cases h
theorem run_findKey(hd:P.underlying kt=some d){r:Option (Nat×Value)}(h:Instr.findNow d kv gu 0=some r):(Instr.findKey kt kv gu).run P w = .ok r w:=by
 simp [Instr.findKey,run_underlying hd,h]
theorem uj{o:TypeDesc×TypeId}(h:Hs P t=some o):∃ kt,P.underlying t=some (.map kt o.2)/\P.underlying kt=some o.1:=by
 unfold Hs at h;split at h
 ·rename_i k e hu;split at h
  ·rename_i d hd;cases h;exact ⟨k,hu,hd⟩
  ·cases h
 ·cases h
theorem jM{r:Option (Nat×AV)}(h:qb d k es=some r):p9 d k=true/\jD d k es 0=some r:=by
 unfold qb at h;split at h
 ·exact ⟨‹_›,h⟩
 ·cases h
theorem kI{inf:TypeInfo}{zv:Value}(hi:P.info? t=some inf)(hz:inf.zero=some zv)(w:World):(zeroValue t).run P w = .ok zv w:=by simp [zeroValue,typeInfo,hi,hz]
theorem zS{et:TypeId}(hu:P.underlying t=some (.map kt et))(hd:P.underlying kt=some d){z:AV}(hz:zP P et=some z)(hk:VR w0 μ k kv)
  {gu:Array MapEntry} (he:mW w0 μ es gu.toList) (Rk:(xv = .map none/\gu = #[])\/∃ r ck,xv = .map (some r)/\w.heap[r]?=some (.map gu ck)) {ok:Bool}
  (h:(match qb d k es with
   |some (some (_,v))=>some (if ok then .tuple [v,.bool true] else v)
   |some none=>some (if ok then .tuple [z,.bool false] else z)
   |none=>none)=some v):∃ vc,(Instr.lookup t xv kv ok).run P w = .ok vc w/\VR w0 μ v vc:=by
 obtain ⟨inf,zv,iO,HD,rfl⟩:=mE hz;have hz0:=kI (P:=P) iO HD w
 have step:∀ r',Instr.findNow d kv gu.toList 0=some r'->p9 d k=true ->
   (Instr.lookup t xv kv ok).run P w=(match r' with
    |some (_,u)=>.ok (if ok then .tuple #[u,.bool true] else u) w
    |none=>.ok (if ok then .tuple #[zv,.bool false] else zv) w):=by
  intro r' uW Gh;have Xn:=fun b=>run_checkKey (w:=w) hd hk Gh b 9999;have LH:=run_findKey (w:=w) hd uW;have uX:∀ b,(Instr.checkKey b 10000 kt kv).run P w = .ok () w:=Xn;rcases Rk with ⟨rfl,rfl⟩|⟨r,ck,rfl,ho⟩
  ·simp only [Instr.lookup,Sem.run_bind,run_underlying hu,Result.andThen_ok,Sem.run_pure,uX,LH]
   cases r' with
   |none=>simp [hz0]
   |some p=>obtain ⟨j,u⟩:=p;simp
  ·have jG:(getObj r).run P w = .ok (.map gu ck) w:=by simp [getObj,Sem.run,ho]
   simp only [Instr.lookup,Sem.run_bind,run_underlying hu,Result.andThen_ok,Sem.run_pure,jG,uX,LH]
   cases r' with
   |none=>simp [hz0]
   |some p=>obtain ⟨j,u⟩:=p;simp
 split at h
 ·rename_i p j v' hf;obtain ⟨Gh,HG⟩:=jM hf;obtain ⟨r',h1,h2⟩:=lD hk es gu.toList 0 _ he HG;rcases h2 with ⟨a,_⟩|⟨j',U4,vc,a,rfl,h3,_⟩
  ·cases a
  ·cases a;refine ⟨_,step _ h1 Gh,?_⟩;cases h;cases ok
   ·exact h3
   ·exact dZ.tuple (.cons h3 (.cons (.bool true) .nil))
 ·rename_i hf;obtain ⟨Gh,HG⟩:=jM hf;obtain ⟨r',h1,h2⟩:=lD hk es gu.toList 0 _ he HG;rcases h2 with ⟨_,rfl⟩|⟨j',U4,vc,a,_⟩
  ·refine ⟨_,step _ h1 Gh,?_⟩;cases h;cases ok
   ·exact VR.ofConst zv
   ·exact dZ.tuple (.cons (VR.ofConst zv) (.cons (.bool false) .nil))
  ·cases a
 ·cases h
theorem HH(hg:Good w0 μ h w){o:TypeDesc×AV}(hi:qM P t=some o){m:AV}{mv:Value}(hm:VR w0 μ m mv)(hk:VR w0 μ k kv){ok:Bool}
  (hl:dV o.1 o.2 ok m k h=some v):∃ vc,(Instr.lookup t mv kv ok).run P w = .ok vc w/\VR w0 μ v vc:=by
 unfold qM at hi;split at hi
 ·rename_i d e hmt;split at hi
  ·rename_i z hz;cases hi;obtain ⟨kt,hu,hd⟩:=uj hmt;unfold dV lN at hl;split at hl
   ·cases hl
   ·rename_i es T8;split at T8
    ·cases T8;cases hm;exact zS hu hd hz hk (es:=[]) (gu:=#[]) ⟨rfl,by simp⟩ (.inl ⟨rfl,rfl⟩) hl
    ·rename_i b;split at T8
     ·rename_i xA ck ho;cases T8;cases hm;rename_i kk hkk;obtain ⟨gu,h1,h2⟩:=hg.map hkk ho;exact zS hu hd hz hk h2 (.inr ⟨_,ck,rfl,h1⟩) hl
     ·cases T8
    ·cases T8
  ·cases hi
 ·cases hi
theorem OH(hg:Good w0 μ h w){ty:TypeId}{ts:List TypeId}{i:UT}(hi:Re P t=some i)(hx:VR w0 μ x xv)(hl:bX i x h=some v) :
  ∃ vc,(Builtin.len_ (t :: ts).toArray ty #[xv]).run P w = .ok vc w/\VR w0 μ v vc:=by
 unfold Re at hi;split at hi
 ·rename_i hu;cases hi;cases x<;>simp only [bX,reduceCtorEq,Option.some.injEq] at hl;subst hl;obtain ⟨s,rfl,rfl⟩:=hx.gQ;refine ⟨.int .i64 s.size,by simp [Builtin.len_,run_underlying hu,goInt],?_⟩;have:s.data.toList.length=s.size:=by rw [Array.length_toList];rfl
  rw [this];exact .int _ _
 ·rename_i e hu;cases hi;cases x<;>simp only [bX,reduceCtorEq,Option.some.injEq] at hl<;>subst hl<;>cases hx<;>exact ⟨.int .i64 _,by simp [Builtin.len_,run_underlying hu,goInt],.int _ _⟩
 ·rename_i k e hu;cases hi;cases x<;>simp only [bX,reduceCtorEq,Option.some.injEq] at hl
  ·subst hl;cases hx;exact ⟨.int .i64 0,by simp [Builtin.len_,run_underlying hu,goInt],.int _ _⟩
  ·split at hl
   ·rename_i es ck ho;cases hl;cases hx;rename_i kk hkk;obtain ⟨gu,h1,h2⟩:=hg.map hkk ho;refine ⟨.int .i64 es.length,?_,.int _ _⟩;have:=h2.len;simp at this;simp [Builtin.len_,run_underlying hu,goInt,getObj,Sem.run,h1,this]
   ·cases hl
 ·rename_i n e hu;cases hi;simp only [bX,Option.some.injEq] at hl;subst hl;exact ⟨.int .i64 n,by simp [Builtin.len_,run_underlying hu,goInt],.int _ _⟩
 ·cases hi
theorem HI(hg:Good w0 μ h w)(hρ:∀ x,VR w0 μ (ρ x) (ρc x)){o:Oper}(hk:fe o.op = .read)(hv:lQ P ρ h o.op=some v) :
  ∃ vc,(execOp ρc o).run P w = .ok (.value vc) w/\VR w0 μ v vc:=by
 obtain ⟨dst,op,type,pos,after,guard⟩:=o;cases op<;>simp only [fe,reduceCtorEq] at hk<;>simp only [lQ] at hv
 case load t a=>
  obtain ⟨i,hi,he⟩:=bind_eq_some_iff.1 hv;obtain ⟨vc,h1,h2⟩:=MH hg hi (hρ a) he;exact ⟨vc,by simp [execOp,h1],h2⟩
 case lookup t x i ok=>
  obtain ⟨d,hi,he⟩:=bind_eq_some_iff.1 hv;obtain ⟨vc,h1,h2⟩:=HH hg hi (hρ x) (hρ i) he;exact ⟨vc,by simp [execOp,h1],h2⟩
 case call c=>
  obtain ⟨yO,args,ts⟩:=c
  cases yO with
  |value f=>simp [fc] at hk
  |invoke r m=>simp [fc] at hk
  |builtin b=>
   cases b<;>simp only [fc,reduceCtorEq] at hk;simp only at hv;split at hv
   ·rename_i t l x e1 e2;obtain ⟨i,hi,he⟩:=bind_eq_some_iff.1 hv;have hx:dZ w0 μ (args.toList.map ρ) (args.toList.map ρc):=dZ.map _ fun a _=>hρ a;rw [e2] at hx;obtain ⟨u,us,Rj,h1,h2⟩:=hx.cons_inv;obtain rfl:=h2.gO;obtain ⟨vc,h3,h4⟩:=OH (ty:=type) (ts:=l) hg hi h1 he;refine ⟨vc,?_,h4⟩;have ea:args.map ρc = #[u]:=by apply Array.ext';simpa using Rj
    have et:ts=(t :: l).toArray:=(by apply Array.ext';simpa using e1);simp only [execOp,resolve,invoke,builtin,Sem.run_bind,Sem.run_pure,Result.andThen_ok,ea,et,h3]
   ·cases hv
end
end Go.AM
namespace Go.AM
open List Nat Bool Option
open Go Go.RowKit
inductive AK where
 |ptr
 |slice (n sz:Nat)
 |map
def AK.val:AK->Nat->AV
 |.ptr,b=>.ptr b 0
 |.slice n sz,b=>.slice b 0 n sz
 |.map,b=>.map b
def om(P:Program)(ρ:Operand->AV):Op->Option (AK×jX)
 |.alloc t=>(mB P t).bind fun z=>some (.ptr,.cells z)
 |.box _ x=>(eY (ρ x)).bind fun cs=>some (.ptr,.cells cs)
 |.buildSlice t n ps=>(Rb P t n (ps.toList.map (·.1))).bind fun i=>(fZ i.2.1 i.2.2 (ps.toList.map fun p=>ρ p.2)).bind fun cs=>some (.slice n i.1,.cells cs)
 |.makeMap _ r=>(match r with|none=>some (.map,.map [] 0)|some _=>none)
 |.makeSlice t l c=>(BO P t).bind fun i=>(yK i.2.1 (ρ l) (ρ c)).bind fun n=>some (.slice n i.1,.cells (jb i.2.2 n))
 |_=>none
theorem qQ{P:Program}{ρ:Operand->AV}{op:Op}(hk:fe op = .alloc)(h:Heap)(K:AV->Heap->Bool) :
  gJ op P ρ h K=ag (om P ρ op) fun p=>K (p.1.val h.next) (h.alloc p.2):=by
 cases op<;>simp only [fe,reduceCtorEq] at hk
 case alloc t=>simp only [gJ,Lx,om];cases mB P t<;>rfl
 case box t x=>simp only [gJ,T4,om];cases eY (ρ x)<;>rfl
 case buildSlice t n ps=>
  simp only [gJ,qN,om]
  cases Rb P t n (ps.toList.map (·.1)) with
  |none=>rfl
  |some i=>simp only [ag,bind_some];cases fZ i.2.1 i.2.2 (ps.toList.map fun p=>ρ p.2)<;>rfl
 case makeMap t r=>cases r<;>rfl
 case makeSlice t l c=>
  simp only [gJ,zR,om]
  cases BO P t with
  |none=>rfl
  |some i=>
   simp only [ag,bind_some,vC,gG];cases yK i.2.1 (ρ l) (ρ c)<;>rfl
 case call c=>
  obtain ⟨yO,args,ts⟩:=c
  cases yO with
  |value f=>simp [fc] at hk
  |invoke r m=>simp [fc] at hk
  |builtin b=>cases b<;>simp [fc] at hk
section
variable {P:Program} {w0:World} {μ:Mu} {ρ:Operand->AV} {ρc:Operand->Value}
structure Xo (P:Program) (w0:World) (μ:Mu) (ρc:Operand->Value) (o:Oper) (k:AK) (ob:jX) (O:Obj) (n:Nat) (f:Nat->Value):Prop where
 run:∀ w,(execOp ρc o).run P w = .ok (.value (f w.heap.size)) (w.alloc O)
 obj:∀ c,ny w0 μ ob ⟨c,0,n⟩ (some O)
 val:∀ (μ':Mu) b c,μ' b=some ⟨c,0,n⟩->VR w0 μ' (k.val b) (f c)
theorem yQ{cs:List AV}{vs:Array Value}(h:dZ w0 μ cs vs.toList)(e:TypeId)(c:Nat):ny w0 μ (.cells cs) ⟨c,0,vs.size⟩ (some (.cells vs e (0,0))):=by
 refine ⟨vs,e,(0,0),rfl,rfl,?_,.inl (dN _),fun i x hx=>?_⟩
 ·have:=h.len;simp at this;simp [this]
 ·obtain ⟨v,a,b⟩:=h.get hx;exact ⟨v,by simpa using a,b⟩
theorem LI(n:Nat):∀ (μ':Mu) b c,μ' b=some ⟨c,0,n⟩->VR w0 μ' (AK.ptr.val b) (.pointer (some ⟨c,0,none⟩)):=fun μ' b c h=>.ptr b 0 ⟨c,0,n⟩ h
theorem rL{t:TypeId}{z:List AV}(h:mB P t=some z):∃ inf zv,P.info? t=some inf/\inf.zero=some zv/\dZ w0 μ z zv.cells.toList/\bw z=true:=by
 unfold mB at h;split at h
 ·rename_i zz hz;split at h
  ·rename_i uV;cases h;obtain ⟨inf,zv,h1,h2,rfl⟩:=mE hz;exact ⟨inf,zv,h1,h2,(VR.ofConst zv).cells uV,uV⟩
  ·cases h
 ·cases h
theorem qR{t:TypeId}{i:Nat×Nat×List AV}(h:BO P t=some i) :
  ∃ e inf zv,P.underlying t=some (.slice e)/\P.info? e=some inf/\inf.size=i.1/\inf.bytes=i.2.1/\0<i.1/\0<i.2.1/\inf.zero=some zv/\dZ w0 μ i.2.2 zv.cells.toList/\i.2.2.length=i.1:=by
 unfold BO at h;split at h
 ·rename_i s b e h1 h2;split at h
  ·rename_i z hz;split at h
   ·rename_i hl;cases h;obtain ⟨e',inf,hu,iO,hs,hb,hp,B2⟩:=v8 h1;have:=B1 h2;rw [hu] at this;cases this;obtain ⟨agI,zv,h3,h4,h5,_⟩:=rL (w0:=w0) (μ:=μ) hz;rw [iO] at h3;cases h3;exact ⟨e,inf,zv,hu,iO,hs,hb,hp,B2,h4,h5,hl⟩
   ·cases h
  ·cases h
 ·cases h
theorem jN(z:List AV):∀ n,(jb z n).length=n*z.length
 |0=>by simp [jb]
 |n+1=>by simp [jb,jN z n,Nat.add_mul,Nat.add_comm]
theorem zT{z:List AV}(hz:0<z.length):∀ (n i:Nat),i<n*z.length->(jb z n)[i]?=z[i%z.length]?
 |0,i,h=>by omega
 |n+1,i,h=>by
  simp only [jb];by_cases hi:i<z.length
  ·rw [getElem?_append_left hi,mod_eq_of_lt hi]
  ·have h':(n+1)*z.length=n*z.length+z.length:=by rw [Nat.add_mul,Nat.one_mul]
   rw [getElem?_append_right (by omega),zT hz n _ (by omega)];rw [<- mod_eq_sub_mod (by omega)]
theorem HJ{z:List AV}{zs:Array Value}(h:dZ w0 μ z zs.toList)(hz:0<z.length)(n N:Nat)(hN:n*z.length<=N) :
  ∀ (i:Nat) (x:AV),(jb z n)[i]?=some x->∃ v,(madeCells zs N)[i]?=some v/\VR w0 μ x v:=by
 intro i x hx;have hi:i<n*z.length:=by have:=(ki.1 hx).1;rwa [jN] at this
 rw [zT hz n i hi] at hx;obtain ⟨v,hv,hr⟩:=h.get hx;have hs:zs.size=z.length:=by have:=h.len;simp at this;exact this.symm
 refine ⟨v,?_,hr⟩;have hlt:i%zs.size<zs.size:=mod_lt _ (by omega);simp only [madeCells];rw [Array.getElem?_map,Array.getElem?_range];rw [if_pos (by omega)];simp only [map_some,Option.some.injEq];rw [<- hs] at hv;have:zs[i%zs.size]?=some v:=by simpa using hv
 rw [getElem!_def,this]
theorem MJ{z:List AV}{zs:Array Value}(h:dZ w0 μ z zs.toList)(hz:0<z.length)(n:Nat):dZ w0 μ (jb z n) (madeCells zs (n*z.length)).toList:=by
 refine ⟨by simp [jN,size_madeCells],fun i x v a b=>?_⟩;obtain ⟨u,hu,hr⟩:=HJ h hz n (n*z.length) (dN _) i x a;have:(madeCells zs (n*z.length))[i]?=some v:=by simpa using b
 rw [this] at hu;cases hu;exact hr
theorem E0(hρ:∀ x,VR w0 μ (ρ x) (ρc x)){o:Oper}(hk:fe o.op = .alloc){k:AK}{ob:jX}(hv:om P ρ o.op=some (k,ob)) :
  ∃ O n f,Xo P w0 μ ρc o k ob O n f:=by
 obtain ⟨dst,op,type,pos,after,guard⟩:=o;cases op<;>simp only [fe,reduceCtorEq] at hk<;>simp only [om] at hv
 case alloc t=>
  obtain ⟨z,hz,he⟩:=bind_eq_some_iff.1 hv;cases he;obtain ⟨inf,zv,h1,h2,h3,_⟩:=rL (w0:=w0) (μ:=μ) hz;refine ⟨.cells zv.cells t,zv.cells.size,fun c=>.pointer (some ⟨c,0,none⟩),fun w=>?_,yQ h3 t,LI _⟩;simp [execOp,Instr.alloc,kI (P:=P) h1 h2,newVar,newRow]
 case box t x=>
  obtain ⟨cs,hb,he⟩:=bind_eq_some_iff.1 hv;cases he;unfold eY at hb;split at hb
  ·rename_i uV;cases hb;refine ⟨.cells (ρc x).cells t,(ρc x).cells.size,fun c=>.pointer (some ⟨c,0,none⟩),fun w=>?_,yQ ((hρ x).cells uV) t,LI _⟩;simp [execOp,Instr.box,newVar,newRow]
  ·cases hb
 case buildSlice t n ps=>
  obtain ⟨i,hi,he⟩:=bind_eq_some_iff.1 hv;obtain ⟨cs,hcs,he⟩:=bind_eq_some_iff.1 he;cases he;unfold Rb at hi;split at hi
  ·rename_i s b z hm;split at hi
   ·rename_i hle;cases hi;obtain ⟨e,inf,zv,hu,iO,hs,hb,hp,B2,HD,hz,Rl⟩:=qR (w0:=w0) (μ:=μ) hm;simp only at hs hb hp B2 hz Rl;unfold fZ at hcs;split at hcs
    ·rename_i ou hf;split at hcs
     ·rename_i uV;cases hcs;have hx:dZ w0 μ (ps.toList.map fun p=>ρ p.2) (ps.toList.map fun p=>ρc p.2):=dZ.map _ fun a _=>hρ a.2;have hzz:=MJ hz (by omega) n
      obtain ⟨kz,h1,h2⟩:=B5 (w0:=w0) (μ:=μ) (fun i=>some (i*s,s)) (ps.toList.map (·.1)) ((ps.toList.map (·.1)).map fun i=>(i*s,s)) _ _ _ cs (madeCells zv.cells (n*z.length))
       (by simp) (fun k i p a b=>by rw [getElem?_map,a] at b;simpa using b) hx hzz (by simpa using hf)
      rw [sF] at h1;have hsz:zv.cells.size=s:=by have:=hz.len;simp at this;omega
      refine ⟨.cells kz e,kz.size,fun c=>.slice (some ⟨c,0,none⟩) n n,fun w=>?_,yQ h2 e,fun μ' b c hb=>?_⟩
      ·have iM:∀ w,(sizeOf e).run P w = .ok s w:=fun w=>by simp [sizeOf,typeInfo,iO,hs]
       have hz0:∀ w,(zeroValue e).run P w = .ok zv w:=kI (P:=P) iO HD;have OI:¬ (16777216<n*s):=by omega
       have T9:Instr.fill (fun i=>some (i*s,s)) ((Array.range (n*s)).map (fun x=>zv.cells[x%zv.cells.size]!)) (ps.toList.map fun p=>(p.1,ρc p.2))=some kz:=by
        rw [Rl] at h1;exact h1
       by_cases hn:n*s=0
       ·have DQ:n=0:=(by rcases mul_eq_zero.1 hn with h|h<;>omega);subst DQ;have acz:Instr.fill (fun i=>some (i*s,s)) #[] (ps.toList.map fun p=>(p.1,ρc p.2))=some kz:=by simpa [Array.range_zero'] using T9
        simp [execOp,Instr.buildSlice,run_underlying hu,iM,acz,newRow,Array.range_zero']
       ·simp [execOp,Instr.buildSlice,run_underlying hu,iM,hz0,OI,hn,T9,newRow]
      ·have hlen:cs.length=n*s:=by
        have:=h2.len
        have hfl:∀ (ps:List (Nat×Nat)) (vs:List AV) (zs cs:List AV),og zs ps vs=some cs->cs.length=zs.length:=by
         intro ps
         induction ps with
         |nil=>intro vs zs cs h;cases vs<;>simp [og] at h;rw [h]
         |cons p ps ih=>
          intro vs zs cs h;obtain ⟨off,m⟩:=p
          cases vs with
          |nil=>simp [og] at h
          |cons v vs=>
           simp only [og] at h;split at h
           ·rw [ih _ _ _ h,fG]
           ·cases h
        rw [hfl _ _ _ _ hf,jN,Rl]
       have acA:kz.size=n*s:=(by have:=h2.len;simp at this;omega);exact .slice b 0 n s n _ _ hb (dN _) (fun _=>⟨rfl,by simp [acA]⟩)
     ·cases hcs
    ·cases hcs
   ·cases hi
  ·cases hi
 case makeMap t r=>
  cases r with
  |some x=>cases hv
  |none=>
   cases hv;refine ⟨.map #[] 0,0,fun c=>.map (some c),fun w=>?_,fun c=>⟨#[],rfl,rfl,by simp⟩,fun μ' b c h=>.map b ⟨c,0,0⟩ h⟩;simp [execOp,Instr.makeMap]
 case makeSlice t l c=>
  obtain ⟨i,hi,he⟩:=bind_eq_some_iff.1 hv;obtain ⟨n,hn,he⟩:=bind_eq_some_iff.1 he;cases he;obtain ⟨e,inf,zv,hu,iO,hs,hb,hp,B2,HD,hz,Rl⟩:=qR (w0:=w0) (μ:=μ) hi;have hl:=hρ l;have hc:=hρ c;unfold yK at hn;split at hn
  ·rename_i lv cv e1 e2;rw [e1] at hl;rw [e2] at hc;split at hn
   ·rename_i B7;simp only [and_eq_true,decide_eq_true_eq] at B7;cases hn;have U5:(inf.bytes:Int)*cv<=281474976710656:=by rw [hb];omega
    have acB:cv<=9223372036854775807:=by
     have h1:(1:Int)<=(i.2.1:Int):=by omega
     have h2:cv<=(i.2.1:Int)*cv:=by
      have:=Int.mul_le_mul_of_nonneg_right h1 (show 0<=cv by omega);simpa using this
     omega
    have hrun:=fun w=>run_make (P:=P) w t e inf zv hu iO HD .i64 .i64 lv cv B7.1.1 B7.1.2 U5 acB;refine ⟨.cells (madeCells zv.cells (cv.toNat*inf.size)) e,cv.toNat*inf.size,fun c=>.slice (some ⟨c,0,none⟩) lv.toNat cv.toNat,fun w=>?_,fun c=>?_,fun μ' b c h=>?_⟩
    ·simp [execOp,hl.gj,hc.gj,hrun]
    ·refine ⟨_,e,(0,0),rfl,by simp [size_madeCells],?_,.inl (dN _),?_⟩
     ·simp only [jN,Rl,hs,Nat.zero_add];exact mul_le_mul_right _ (by omega)
     ·intro i' x hx;rw [Nat.zero_add];exact HJ hz (by omega) lv.toNat _ (by rw [Rl,hs];exact mul_le_mul_right _ (by omega)) i' x hx
    ·refine .slice b 0 _ _ _ _ _ h (by omega) (fun _=>⟨rfl,?_⟩);simp [hs]
   ·cases hn
  ·cases hn
 case call c=>
  obtain ⟨yO,args,ts⟩:=c
  cases yO with
  |value f=>simp [fc] at hk
  |invoke r m=>simp [fc] at hk
  |builtin b=>cases b<;>simp [fc] at hk
end
end Go.AM
namespace Go.AM
open List Nat Bool Option
open Go Go.RowKit
variable {xv:Value} {t:TypeId} {c n:Nat} {x:AV}
section
variable {P:Program} {w0 w:World} {μ:Mu} {h:Heap} {ρ:Operand->AV} {ρc:Operand->Value}
theorem qh(w:World)(c:Nat)(O O':Obj):iH (iH w c O) c O'=iH w c O':=by simp [iH]
theorem xC{O:Obj}(hO:w.heap[c]?=some O):iH w c O=w:=by
 have:w.heap.setIfInBounds c O=w.heap:=by
  apply Array.ext_getElem?;intro i;rw [Array.getElem?_setIfInBounds];split
  ·rename_i e;subst e;rw [hO];split
   ·rfl
   ·rename_i hn;have:=(Array.getElem?_eq_some_iff.1 hO).1;omega
  ·rfl
 simp [iH,this]
theorem setCell_eq{o:Nat}{vs:Array Value}{e:TypeId}{fr:Nat×Nat}(hO:w.heap[c]?=some (.cells vs e fr))(v:Value) :
  w.setCell ⟨c,o,none⟩ v=iH w c (.cells (vs.setIfInBounds o v) e fr):=by
 have:w.heap.modify c (fun|.cells c elem frozen=>.cells (if (none:Option Nat).isSome then c else c.setIfInBounds o v) elem frozen|o=>o)=w.heap.setIfInBounds c (.cells (vs.setIfInBounds o v) e fr):=by
  apply Array.ext_getElem?;intro i;rw [Array.getElem?_setIfInBounds,Array.getElem?_modify];split
  ·rename_i e';subst e';have:=(Array.getElem?_eq_some_iff.1 hO).1;rw [if_pos this,hO];simp
  ·rfl
 simp only [World.setCell,iH];exact congrArg (fun x=>({ w with heap:=x }:World)) this
theorem nA(c o:Nat)(e:TypeId)(fr:Nat×Nat):∀ (us:List Value) (i:Nat) (vs:Array Value) (w:World),w.heap[c]?=some (.cells vs e fr)->(fr.2<=fr.1\/(ua=true/\vs.size<=fr.1))->o+i+us.length<=vs.size->(∀ v ∈ us,v.oneCell'=true) ->
  (storeCells ⟨c,o,none⟩ us i).run P w = .ok () (iH w c (.cells (eo vs.toList (o+i) us).toArray e fr))
 |[],i,vs,w,hO,hf,hl,h1=>by simp [storeCells,eo,xC hO]
 |u :: us,i,vs,w,hO,hf,hl,h1=>by
  simp only [length_cons] at hl
  have iM:(store ((⟨c,o,none⟩:Addr).add i) u).run P w = .ok () (iH w c (.cells (vs.setIfInBounds (o+i) u) e fr)):=by
   rw [kH,run_store P w _ u _ (h1 u (by simp))];have hc:w.cell? ⟨c,o+i,none⟩=some (vs[o+i]'(by omega)):=by rw [cell_of hO];simp [show o+i<vs.size by omega]
   have hz:w.frozen? ⟨c,o+i,none⟩=false:=by
    simp only [World.frozen?,hO];rcases hf with h|h<;>simp<;>omega
   rw [hc];simp only [hz,setCell_eq hO,false_eq_true,if_false]
  have hO':(iH w c (.cells (vs.setIfInBounds (o+i) u) e fr)).heap[c]?=some (.cells (vs.setIfInBounds (o+i) u) e fr):=lC (Array.getElem?_eq_some_iff.1 hO).1 _;have ih:=nA c o e fr us (i+1) _ _ hO' (by simpa using hf) (by simp;omega) (fun v hv=>h1 v (by simp [hv]));simp only [storeCells,Sem.run_bind,iM,Result.andThen_ok,ih,qh,eo];simp [Nat.add_assoc]
theorem gY{α:Type}:∀ (us cs:List α) (off j:Nat),j<us.length->off+us.length<=cs.length->(eo cs off us)[off+j]?=us[j]?
 |[],cs,off,j,h,hl=>by simp at h
 |u :: us,cs,off,j,h,hl=>by
  simp only [length_cons] at h hl;simp only [eo]
  cases j with
  |zero=>
   have:∀ (us cs:List α) (o i:Nat),i<o->(eo cs o us)[i]?=cs[i]?:=by
    intro us
    induction us with
    |nil=>intros;rfl
    |cons u us ih=>intro cs o i hi;simp only [eo];rw [ih _ _ _ (by omega),getElem?_set_ne (by omega)]
   rw [this _ _ _ _ (by omega)];simp [show off<cs.length by omega]
  |succ j=>
   have:=gY us (cs.set off u) (off+1) j (by omega) (by simp;omega);rw [show off+(j+1)=off+1+j by omega,this];simp
theorem eG{α:Type}:∀ (us cs:List α) (off i:Nat),i<off\/off+us.length<=i->(eo cs off us)[i]?=cs[i]?
 |[],cs,off,i,h=>rfl
 |u :: us,cs,off,i,h=>by
  simp only [length_cons] at h;simp only [eo];rw [eG us _ _ _ (by omega),getElem?_set_ne (by omega)]
theorem LJ{cs:List AV}{k:Gf}{ob:Option Obj}(ho:ny w0 μ (.cells cs) k ob){xs:List AV}{us:List Value}(hx:dZ w0 μ xs us)(off:Nat)(hl:off+xs.length<=cs.length) :
  ∃ vs e fr,ob=some (.cells vs e fr)/\vs.size=k.size/\(fr.2<=fr.1\/(ua=true/\vs.size<=fr.1))/\k.base+cs.length<=k.size /\
   ny w0 μ (.cells (eo cs off xs)) k (some (.cells (eo vs.toList (k.base+off) us).toArray e fr)):=by
 obtain ⟨vs,e,fr,h1,h2,h3,h4,h5⟩:=ho;refine ⟨vs,e,fr,h1,h2,by rw [h2];exact h4,h3,(eo vs.toList (k.base+off) us).toArray,e,fr,rfl,by simp [fG,h2],by rw [fG];exact h3,h4,fun i x hi=>?_⟩;have hul:us.length=xs.length:=hx.len.symm;by_cases hin:off<=i/\i<off+xs.length
 ·obtain ⟨j,rfl⟩:∃ j,i=off+j:=⟨i-off,by omega⟩
  rw [gY _ _ _ _ (by omega) hl] at hi;obtain ⟨v,hv,hr⟩:=hx.get hi;refine ⟨v,?_,hr⟩;have:=gY us vs.toList (k.base+off) j (by omega) (by simp [h2];omega);rw [<- Nat.add_assoc];simp [this,hv]
 ·rw [eG _ _ _ _ (by omega)] at hi;obtain ⟨v,hv,hr⟩:=h5 i x hi;refine ⟨v,?_,hr⟩;have:=eG us vs.toList (k.base+off) (k.base+i) (by omega);simp [this,hv]
def Left(P:Program)(w0:World)(μ:Mu)(h:Heap)(w:World)(K:AV->Heap->Bool)(r:Result Next):Prop:=
 ∃ v h' vc w' μ',K v h'=true/\(r = .ok (.value vc) w'\/(vc=undef/\r = .ok .skip w'))/\VR w0 μ' v vc/\Good w0 μ' h' w'/\Ext μ h w μ' h' w'
theorem MK(hg:Good w0 μ h w)(hn:nY P t=some n){v:AV}{vv:Value}(hx:VR w0 μ x xv)(hv:VR w0 μ v vv){h':Heap}(hs:aZ n x v h=some h') :
  ∃ w',(Instr.storeAt t xv vv).run P w = .ok () w'/\Good w0 μ h' w'/\Ext μ h w μ h' w':=by
 unfold aZ at hs;split at hs
 ·rename_i b off;split at hs
  ·rename_i cs ho;split at hs
   ·rename_i hc;cases hs;simp only [and_eq_true,decide_eq_true_eq] at hc;cases hx;rename_i k hk;have sC:=hv.cells hc.1.2;obtain ⟨vs,e,fr,h1,h2,h3,h4,h5⟩:=LJ (hg.obj b k _ hk ho) sC off (by rw [hc.1.1];exact hc.2);have hl:vv.cells.toList.length=n:=by rw [<- sC.len];exact hc.1.1
    have hrun:=nA (P:=P) k.c (k.base+off) e fr vv.cells.toList 0 vs w h1 h3 (by rw [hl,h2];omega) (fun u hu=>sC.sw hc.1.2 u hu);rw [Nat.add_zero] at hrun;obtain ⟨g1,g2⟩:=hg.set hk ho (by simp) (.cells (eo cs off v.dB)) _ h5;refine ⟨_,?_,g1,g2⟩;have hsz:vv.cells.size=n:=by simpa using hl
    simp [Instr.storeAt,Instr.sureAddr,storeVar,mD hn,hsz,hrun]
   ·cases hs
  ·cases hs
 ·cases hs
theorem uk(hg:Good w0 μ h w){sz:Nat}(hx:VR w0 μ x xv){m:Nat}(hm:lH x=some m)(hn:n<=m){new:List AV}(hf:iu sz n x h=some new) :
  ∃ us:Array Value,(∀ w':World,w'.heap=w.heap->(Builtin.firstCells sz n xv).run P w' = .ok us w')/\dZ w0 μ new us.toList/\(∀ w':World,(Builtin.lenOf xv).run P w' = .ok m w')/\new.length=n*sz:=by
 have zero:∀ (a:Addr) (w:World),(loadCells a 0).run P w = .ok #[] w:=fun a w=>by simp [loadCells,loadCellsFrom]
 have hcw:∀ {w':World},w'.heap=w.heap->∀ a:Addr,w'.cell? a=w.cell? a:=fun e a=>by simp [World.cell?,e]
 unfold iu at hf;split at hf
 ·split at hf
  ·cases hf;cases hx;simp only [lH,Option.some.injEq] at hm;subst hm;obtain rfl:n=0:=by omega
   exact ⟨#[],fun w' _=>by simp [Builtin.firstCells],.nil,fun w'=>by simp [Builtin.lenOf],by simp⟩
  ·cases hf
 ·rename_i b off n' s;simp only [lH,Option.some.injEq] at hm;subst hm;split at hf
  ·rename_i hs;subst hs;split at hf
   ·rename_i cs ho;split at hf
    ·rename_i hle;cases hf;cases hx;rename_i cap a k hk Xj ha;by_cases h0:n=0
     ·subst h0;exact ⟨#[],fun w' _=>by simp [Builtin.firstCells,zero],by simpa using dZ.nil,fun w'=>by simp [Builtin.lenOf],by simp⟩
     ·obtain ⟨rfl,hb⟩:=ha (by omega);obtain ⟨us,e1,e2,e3⟩:=wg (hg.cells hk ho) (n*s) off hle;refine ⟨us.toArray,fun w' Ua=>?_,by simpa using e3,fun w'=>by simp [Builtin.lenOf],by simp;omega⟩;have:=run_loadCells_list (P:=P) w' ⟨k.c,k.base+off,none⟩ us (fun j u hj=>by rw [kH,hcw Ua];exact e2 j u hj);rw [e1] at this;simp [Builtin.firstCells,this]
    ·cases hf
   ·cases hf
  ·cases hf
 ·rename_i cs off n' s;simp only [lH,Option.some.injEq] at hm;subst hm;split at hf
  ·rename_i hc;simp only [and_eq_true,decide_eq_true_eq] at hc;obtain ⟨rfl,hle⟩:=hc;cases hf;cases hx;rename_i cap a g o vs T7 hv hl hr ha Xj;by_cases h0:n=0
   ·subst h0;exact ⟨#[],fun w' _=>by simp [Builtin.firstCells,zero],by simpa using dZ.nil,fun w'=>by simp [Builtin.lenOf],by simp⟩
   ·obtain rfl:=ha (by omega);obtain ⟨us,e1,e2,e3⟩:=wg (hg.J8 T7 hl hv hr) (n*s) off hle;refine ⟨us.toArray,fun w' Ua=>?_,by simpa using e3,fun w'=>by simp [Builtin.lenOf],by simp;omega⟩;have:=run_loadCells_list (P:=P) w' ⟨g,o+off,none⟩ us (fun j u hj=>by rw [kH,hcw Ua];exact e2 j u hj);rw [e1] at this;simp [Builtin.firstCells,this]
  ·cases hf
 ·rename_i s;split at hf
  ·rename_i hs;subst hs;cases hf;obtain ⟨s,rfl,rfl⟩:=hx.gQ;simp only [lH,Option.some.injEq] at hm;have U6:s.data.toList.length=s.size:=by rw [Array.length_toList];rfl
   refine ⟨(s.extract 0 n).data.map fun b=>.int .u8 b.toNat,fun w' _=>by simp [Builtin.firstCells],?_,fun w'=>by simp [Builtin.lenOf];omega,by simp;omega⟩
   have e:((s.extract 0 n).data.map fun b=>Value.int .u8 (b.toNat:Int)).toList=(s.data.toList.take n).map fun b=>Value.int .u8 (b.toNat:Int):=by
    rw [Array.toList_map,extract_toList s 0 n (zero_le _) (by omega)];simp
   rw [e]
   exact dZ.map _ fun b _=>.int .u8 b.toNat
  ·cases hf
 ·cases hf
theorem E3(n:Nat):∀ (r c:Nat),256<=c->c<=2*n->Builtin.growBy n r c<=2*n
 |0,c,h,hc=>by simpa [Builtin.growBy] using hc
 |r+1,c,h,hc=>by
  simp only [Builtin.growBy];split
  ·exact hc
  ·exact E3 n r _ (by omega) (by omega)
theorem J9(h:c<n):Builtin.nextslicecap n c<=2*n:=by
 unfold Builtin.nextslicecap;split
 ·omega
 ·split
  ·omega
  ·exact E3 n 4 c (by omega) (by omega)
theorem Gi{u:TypeId}{i:Nat×Nat}(hi:Bj P t u=some i) :
  ∃ e inf zv d,P.underlying t=some (.slice e)/\P.info? e=some inf/\inf.size=i.1/\inf.bytes=i.2/\0<i.1/\0<i.2/\inf.zero=some zv/\zv.cells.size=i.1/\P.underlying u=some d/\∀ k,d≠.int k:=by
 unfold Bj at hi;split at hi
 ·rename_i e s b z hu hm;cases hi;obtain ⟨e',inf,zv,h1,h2,h3,h4,h5,h6,h7,h8⟩:=qR (w0:=default) (μ:=Mu.zero) hm;exact ⟨e',inf,zv,_,h1,h2,h3,h4,h5,h6,h7,by have h9:=h8.1.len;have Ub:=h8.2;simp at h9 Ub;show zv.cells.size=s;omega,hu,by simp⟩
 ·rename_i s b z hu hm;cases hi;obtain ⟨e',inf,zv,h1,h2,h3,h4,h5,h6,h7,h8⟩:=qR (w0:=default) (μ:=Mu.zero) hm;exact ⟨e',inf,zv,_,h1,h2,h3,h4,h5,h6,h7,by have h9:=h8.1.len;have Ub:=h8.2;simp at h9 Ub;show zv.cells.size=s;omega,hu,by simp⟩
 ·cases hi
section
variable {t u ty:TypeId} {i:Nat×Nat} {e:TypeId} {inf:TypeInfo} {zv:Value} {d:TypeDesc} (hu:P.underlying t=some (.slice e)) (iO:P.info? e=some inf) (hs:inf.size=i.1) (U5:inf.bytes=i.2)
 (hp:0<i.2) (HD:inf.zero=some zv) (Oc:P.underlying u=some d) (hd:∀ k,d≠.int k) {base:Option Addr} {sLen sCap n:Nat} {xv:Value} {new old:Array Value} include hu iO hs Oc hd
theorem pR(hlen:(Builtin.lenOf xv).run P w = .ok n w)(oU:(Builtin.firstCells i.1 n xv).run P w = .ok new w)(hle:sLen+n<=sCap){w':World}
  (iM:match base with|some a=>(storeCells (a.add (sLen*i.1)) new.toList).run P w = .ok () w'|none=>w=w') :
  (Builtin.append_ #[t,u] ty #[.slice base sLen sCap,xv]).run P w = .ok (.slice base (sLen+n) sCap) w':=by
 have hsz:∀ w,(sizeOf e).run P w = .ok i.1 w:=fun w=>by simp [sizeOf,typeInfo,iO,hs]
 have WJ:(match d with|.int _=>true|_=>false)=false:=by cases d<;>first|rfl|exact absurd rfl (hd _)
 cases base with
 |none=>
  simp only at iM;subst iM;simp [Builtin.append_,run_underlying hu,run_underlying Oc,hsz,WJ,hlen,hle,oU]
 |some a=>
  simp only at iM;simp [Builtin.append_,run_underlying hu,run_underlying Oc,hsz,WJ,hlen,hle,oU,iM] include U5 hp HD
theorem run_append_grow(hlen:(Builtin.lenOf xv).run P w = .ok n w)(oU:∀ w':World,w'.heap=w.heap->(Builtin.firstCells i.1 n xv).run P w' = .ok new w')
  (hold:∀ w':World,w'.heap=w.heap->(Builtin.firstCells i.1 sLen (.slice base sLen sCap)).run P w' = .ok old w') (hb:(sLen+n)*i.2<=cJ) (OI:¬ sLen+n<=sCap) :
  ∃ cap,sLen+n<=cap/\(Builtin.append_ #[t,u] ty #[.slice base sLen sCap,xv]).run P w =
   .ok (.slice (some ⟨w.heap.size,0,none⟩) (sLen+n) cap) ((w.drew).alloc (.cells (old++new++Builtin.zeroCells zv.cells (cap-(sLen+n))) e)):=by
 have hsz:∀ w,(sizeOf e).run P w = .ok i.1 w:=fun w=>by simp [sizeOf,typeInfo,iO,hs]
 have WJ:(match d with|.int _=>true|_=>false)=false:=by cases d<;>first|rfl|exact absurd rfl (hd _)
 have Ka:=J9 (n:=sLen+n) (c:=sCap) (by omega)
 have acC:¬ (281474976710656<Builtin.nextslicecap (sLen+n) sCap*inf.bytes):=by
  have h1:Builtin.nextslicecap (sLen+n) sCap*i.2<=2*(sLen+n)*i.2:=mul_le_mul_right _ Ka;have h2:2*(sLen+n)*i.2=2*((sLen+n)*i.2):=Nat.mul_assoc _ _ _;unfold cJ at hb;rw [U5];omega
 have U7:inf.bytes≠0:=by omega
 have hz0:=kI (P:=P) iO HD;refine ⟨(Question.appendCap (sLen+n) sCap e).cut (w.tape w.drawn (.appendCap (sLen+n) sCap e)),?_,?_⟩
 ·show sLen+n<=sLen+n+_;omega
 ·have ho:=hold w.drew rfl;have hn:=oU w.drew rfl;simp [Builtin.append_,run_underlying hu,run_underlying Oc,hsz,WJ,hlen,OI,typeInfo,iO,acC,U7,Question.forced,ho,hn,hz0,newRow]
end
theorem sG(z:Array Value)(n:Nat):(Builtin.zeroCells z n).size=n*z.size:=by simp [Builtin.zeroCells]
theorem Kb(hg:Good w0 μ h w){u ty:TypeId}{i:Nat×Nat}(hi:Bj P t u=some i){s v:AV}{sv:Value}(hs:VR w0 μ s sv)(hx:VR w0 μ x xv){h':Heap}(ha:cj i.1 i.2 s x h=some (v,h')) :
  ∃ vc w' μ',(Builtin.append_ #[t,u] ty #[sv,xv]).run P w = .ok vc w'/\VR w0 μ' v vc/\Good w0 μ' h' w'/\Ext μ h w μ' h' w':=by
 obtain ⟨e,inf,zv,d,hu,iO,hsz,U5,hp,B2,HD,Rl,Oc,hd⟩:=Gi hi;have aeT:w.drew.heap=w.heap:=rfl;have Xp:∀ {h1 h2:Heap} {μ':Mu} {w':World},Ext μ h1 w.drew μ' h2 w'->Ext μ h1 w μ' h2 w':=fun x=>Ext.of_same (v:=w.drew) rfl x;have hgd:Good w0 μ h w.drew:=hg.same rfl rfl rfl rfl;unfold cj at ha;split at ha
 ·cases ha
 ·rename_i n hn;split at ha
  ·cases ha
  ·rename_i new oU;obtain ⟨us,OJ,qi,WK,hr4⟩:=uk (P:=P) hg hx hn (dN n) oU;have Rm:us.size=n*i.1:=by have:=qi.len;simp at this;omega
   split at ha
   ·
    cases hs;split at ha
    ·rename_i h0;subst h0;cases ha;refine ⟨_,w,μ,pR (base:=none) (w':=w) hu iO hsz Oc hd (WK w) (OJ w rfl) (dN 0) rfl,.ay,hg,Ext.refl _ _ _⟩
    ·rename_i h0;split at ha
     ·rename_i hc;cases ha;simp only [and_eq_true,decide_eq_true_eq] at hc;obtain ⟨cap,Ka,hrun⟩:=run_append_grow (ty:=ty) (base:=none) (sLen:=0) (sCap:=0) (old:=#[]) hu iO hsz U5 B2 HD Oc hd (WK w) (fun w' Ua=>OJ w' Ua) (fun w' Ua=>by simp [Builtin.firstCells]) (by simpa using hc.1) (by omega)
      have yR:ny w0 μ (.cells new) ⟨w.heap.size,0,us.size+(Builtin.zeroCells zv.cells (cap-(0+n))).size⟩ (some (.cells (#[]++us++Builtin.zeroCells zv.cells (cap-(0+n))) e)):=by
       refine ⟨_,_,(0,0),rfl,by simp,by simp;omega,.inl (dN _),fun j y hj=>?_⟩;obtain ⟨v,hv,hr⟩:=qi.get hj;refine ⟨v,?_,hr⟩;have hlt:=(ki.1 hv).1;simp at hlt hv;rw [Nat.zero_add,Array.getElem?_append_left (by simp;omega)];simp [hv]
      obtain ⟨g1,g2⟩:=hgd.alloc (.cells new) _ _ yR;refine ⟨_,_,_,hrun,?_,g1,Xp g2⟩
      have:=VR.slice (w0:=w0) (μ:=(μ.add h.next ⟨w.heap.size,0,us.size+(Builtin.zeroCells zv.cells (cap-(0+n))).size⟩)) h.next 0 n i.1 cap ⟨w.heap.size,0,none⟩ _ (Mu.add_same _ _ _) (by omega) (fun _=>⟨rfl,by
       show 0+0+cap*i.1<=us.size+_
       rw [sG,Rm,Rl,<- Nat.add_mul,show n+(cap-(0+n))=cap by omega];omega⟩)
      simpa using this
     ·cases ha
   ·rename_i b off len s';split at ha
    ·rename_i gv;subst gv;cases hs;rename_i cap a k hk hle Xq;split at ha
     ·rename_i h0;subst h0;cases ha;have iM:us = #[]:=by apply Array.eq_empty_of_size_eq_zero;omega
      subst iM;refine ⟨_,w,μ,pR (base:=some a) (w':=w) hu iO hsz Oc hd (WK w) (OJ w rfl) (by omega) (by simp [storeCells]),?_,hg,Ext.refl _ _ _⟩;exact .slice b off len i.1 cap a k hk (by omega) Xq
     ·rename_i h0;split at ha
      ·rename_i cs ho;split at ha
       ·rename_i hc;cases ha;simp only [and_eq_true,decide_eq_true_eq] at hc;obtain ⟨⟨Od,WL⟩,WM⟩:=hc;obtain ⟨vs,el,fr,o1,o2,o3,o4,o5⟩:=hg.obj b k _ hk ho;have hoc:=hg.own b k hk;by_cases hroom:len+n<=cap
        ·
         obtain ⟨rfl,hin⟩:=Xq (by omega);have Xr:len*i.1+n*i.1<=cap*i.1:=by rw [<- Nat.add_mul];exact mul_le_mul_right _ hroom
         have nh:=nA (P:=P) k.c (k.base+off+len*i.1) el fr us.toList 0 vs w o1 (by rw [o2];exact o4) (by simp [Rm,o2];omega) (qi.sw WL);rw [Nat.add_zero] at nh
         have yR:ny w0 μ (.cells ((cs.drop off).take (len*i.1)++new)) ⟨k.c,k.base+off,k.size⟩ (some (.cells (eo vs.toList (k.base+off+len*i.1) us.toList).toArray el fr)):=by
          have hlen:((cs.drop off).take (len*i.1)).length=len*i.1:=(by simp;omega);refine ⟨_,el,fr,rfl,by simp [fG,o2],by simp [hlen,hr4];omega,o4,fun j y hj=>?_⟩;by_cases ML:j<len*i.1
          ·rw [getElem?_append_left (by omega),getElem?_take,if_pos ML,getElem?_drop] at hj;obtain ⟨v,hv,hr⟩:=o5 _ y hj;refine ⟨v,?_,hr⟩;have:=eG us.toList vs.toList (k.base+off+len*i.1) (k.base+off+j) (.inl (by omega));simp only [getElem?_toArray,this,Array.getElem?_toList];rw [Nat.add_assoc];exact hv
          ·rw [getElem?_append_right (by omega),hlen] at hj;obtain ⟨v,hv,hr⟩:=qi.get hj;refine ⟨v,?_,hr⟩;have hlt:=(ki.1 hv).1;have:=gY us.toList vs.toList (k.base+off+len*i.1) (j-len*i.1) hlt (by simp [Rm,o2];omega);rw [show k.base+off+len*i.1+(j-len*i.1)=k.base+off+j by omega] at this;simp only [getElem?_toArray,this,hv]
         obtain ⟨g1,g2⟩:=hg.renew hk ho (by simp) (k.base+off) _ _ yR;refine ⟨_,_,_,pR (base:=some ⟨k.c,k.base+off,none⟩) hu iO hsz Oc hd (WK w) (OJ w rfl) hroom (by simp only [kH];exact nh),?_,g1,g2⟩;exact .slice h.next 0 (len+n) i.1 cap ⟨k.c,k.base+off,none⟩ ⟨k.c,k.base+off,k.size⟩ (Mu.add_same _ _ _) (by omega) (fun _=>⟨by simp,by simpa using hin⟩)
        ·
         have hold:iu i.1 len (.slice b off len i.1) h=some ((cs.drop off).take (len*i.1)):=(by simp [iu,ho,WM]);obtain ⟨old,q1,q2,q3,q4⟩:=uk (P:=P) hg (.slice b off len i.1 cap a k hk hle Xq) (m:=len) rfl (dN len) hold;have acD:old.size=len*i.1:=by have:=q2.len;simp only [Array.length_toList] at this;omega
         obtain ⟨D2,Ka,hrun⟩:=run_append_grow (ty:=ty) (base:=some a) (sLen:=len) (sCap:=cap) (old:=old) hu iO hsz U5 B2 HD Oc hd (WK w) (fun w' Ua=>OJ w' Ua) q1 Od hroom;have lM:=q2.append qi
         have yR:ny w0 μ (.cells ((cs.drop off).take (len*i.1)++new)) ⟨w.heap.size,0,old.size+us.size+(Builtin.zeroCells zv.cells (D2-(len+n))).size⟩ (some (.cells (old++us++Builtin.zeroCells zv.cells (D2-(len+n))) e)):=by
          refine ⟨_,_,(0,0),rfl,by simp [Nat.add_assoc],by rw [length_append,q4,hr4];show 0+_<=old.size+us.size+_;omega,.inl (dN _),fun j y hj=>?_⟩;obtain ⟨v,hv,hr⟩:=lM.get hj;refine ⟨v,?_,hr⟩;have hlt:=(ki.1 hv).1;rw [<- Array.toList_append] at hv hlt;rw [Array.length_toList] at hlt;rw [Array.getElem?_toList] at hv;show (old++us++_)[0+j]?=some v;rw [Nat.zero_add,Array.getElem?_append_left hlt,hv]
         have hgk:Good w0 μ (h.set b .dead) w.drew:=hgd.kill hk;obtain ⟨g1,g2⟩:=hgk.alloc (.cells ((cs.drop off).take (len*i.1)++new)) _ _ yR;refine ⟨_,_,_,hrun,?_,g1,(Ext.kill hk).trans (Xp g2)⟩;refine .slice h.next 0 (len+n) i.1 D2 ⟨w.heap.size,0,none⟩ ⟨w.heap.size,0,old.size+us.size+(Builtin.zeroCells zv.cells (D2-(len+n))).size⟩ (Mu.add_same _ _ _) Ka (fun _=>⟨rfl,?_⟩)
         show 0+0+D2*i.1<=old.size+us.size+_;rw [sG,Rm,acD,Rl,<- Nat.add_mul,<- Nat.add_mul];rw [show len+n+(D2-(len+n))=D2 by omega];omega
       ·cases ha
      ·cases ha
    ·cases ha
   ·cases ha
end
end Go.AM