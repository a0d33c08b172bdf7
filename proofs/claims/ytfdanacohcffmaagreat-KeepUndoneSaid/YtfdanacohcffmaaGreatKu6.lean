/- Parts of the proof. Conditions: none. -/
import Derived.Test.YtfdanacohcffmaaGreatKu5
import Derived.Laws.Tables
import Derived.Laws.MakeOwn
set_option linter.unusedSimpArgs false
set_option linter.unusedVariables false
namespace Go.AM
open List Nat Bool Option
open Go Go.RowKit
variable {t e:TypeId} {P:Program} {xv v yv:Value} {x y:AV} {cs:List AV} {b:Bool} {n i:Nat}
theorem fF{α:Type}{o:Option α}{f:α->Bool}(h:af o f=true):∃ a,o=some a/\f a=true:=by
 cases o with
 |none=>simp [af] at h
 |some a=>exact ⟨a,rfl,h⟩
def me(P:Program)(ρ:Operand->AV):Op->Option AV
 |.move x=>some (ρ x)
 |.assign x=>some (ρ x)
 |.pick c a b=>LF (ρ c) (ρ a) (ρ b)
 |.build t ps=>(Gl P t (ps.toList.map (·.1))).bind fun i=>iy i.1 i.2 (ps.toList.map fun p=>ρ p.2)
 |.nilCheck x=>bq (ρ x)
 |.binOp op t x y _=>(match op with
  |.eql=>(P.underlying t).bind fun d=>jA d (ρ x) (ρ y)
  |.neq=>(P.underlying t).bind fun d=>nA d (ρ x) (ρ y)
  |op=>aF op (ρ x) (ρ y))
 |.unOp op _ x=>kr op (ρ x)
 |.makeInterface t x=>(BV P t).bind fun _=>some (.iface t (ρ x))
 |.makeFunc fn first cap=>(match fn with|.func f=>some (.func f (first.toList.map ρ) (cap.toList.map ρ))|_=>none)
 |.slice t x lo hi mx=>(match mx with|none=>(Gn P t).bind fun i=>gZ i (ρ x) (lo.map ρ) (hi.map ρ)|some _=>none)
 |.fieldAddr t x i=>(faI P t i).bind fun o=>bS o (ρ x)
 |.field t x i=>(Gm P t i).bind fun o=>Gi o.1 o.2 (ρ x)
 |.indexAddr t x i=>(iaI P t).bind fun o=>iaV o (ρ x) (ρ i)
 |.index t x i=>(Rt P t).bind fun o=>OG o (ρ x) (ρ i)
 |.extract t i=>bx (ρ t) i
 |.typeAssert x _ a ok=>(Bn P a ok).bind fun z=>Bl a z (ρ x)
 |.call c=>(match c.callee with
  |.builtin .min=>(match c.args.toList.map ρ with|x :: xs=>vC false x xs|_=>none)
  |.builtin .max=>(match c.args.toList.map ρ with|x :: xs=>vC true x xs|_=>none)
  |_=>none)
 |_=>none
theorem g8{α β:Type}(o:Option α)(f:α->Option β)(g:β->Bool):af o (fun a=>af (f a) g)=af (o.bind f) g:=by cases o<;>rfl
theorem ur{ρ:Operand->AV}{op:Op}(hk:fc op = .pure)(h:Heap)(K:AV->Heap->Bool):gI op P ρ h K=af (me P ρ op) fun v=>K v h:=by
 cases op<;>simp only [fc,reduceCtorEq] at hk
 case move=>rfl
 case assign=>rfl
 case pick=>rfl
 case build=>simp only [gI,LK,ku,me,g8]
 case nilCheck=>rfl
 case binOp op t x y u=>cases op<;>simp only [gI,OH,ku,me,g8]
 case unOp=>rfl
 case makeInterface t x=>simp only [gI,me];cases BV P t<;>rfl
 case makeFunc fn first cap=>cases fn<;>rfl
 case slice t x lo hi mx=>cases mx<;>simp only [gI,Gp,ku,me,g8];rfl
 case fieldAddr=>simp only [gI,ku,me,g8]
 case field=>simp only [gI,ku,me,g8]
 case indexAddr=>simp only [gI,ku,me,g8]
 case index=>simp only [gI,ku,me,g8]
 case extract=>rfl
 case typeAssert x xt a ok=>simp only [gI,ku,me,g8]
 case call c=>
  obtain ⟨yS,args,ts⟩:=c
  cases yS with
  |value f=>simp [eZ] at hk
  |invoke r m=>simp [eZ] at hk
  |builtin b=>
   cases b<;>simp only [eZ,reduceCtorEq] at hk
   ·simp only [gI,sE,E7,uj,me];cases args.toList.map ρ<;>rfl
   ·simp only [gI,sE,E7,uj,me];cases args.toList.map ρ<;>rfl
section
variable {P:Program} {w0:World} {μ:Mu} {ρ:Operand->AV} {ρc:Operand->Value}
theorem VR.iz(h:VR w0 μ (.bool b) v):v = .bool b:=by cases h;rfl
theorem VR.gd{k:IntKind}{n:Int}(h:VR w0 μ (.int k n) v):v = .int k n:=by cases h;rfl
theorem VR.gO{l:List UInt8}(h:VR w0 μ (.str l) v):∃ s:ByteArray,v = .string s/\s.data.toList=l:=by cases h;exact ⟨_,rfl,rfl⟩
theorem VR.E8(h:VR w0 μ (.tuple cs) v):∃ vs:List Value,v = .tuple vs.toArray/\dY w0 μ cs vs:=by cases h;exact ⟨_,rfl,⟨‹_›,‹_›⟩⟩
theorem VR.LP(h:VR w0 μ (.agg cs) v):∃ vs:List Value,v = .agg vs.toArray/\dY w0 μ cs vs:=by cases h;exact ⟨_,rfl,⟨‹_›,‹_›⟩⟩
theorem dY.agg{cs:List AV}{vs:List Value}(h:dY w0 μ cs vs):VR w0 μ (.agg cs) (.agg vs.toArray):=.agg cs vs h.len h.rel
theorem dY.tuple{cs:List AV}{vs:List Value}(h:dY w0 μ cs vs):VR w0 μ (.tuple cs) (.tuple vs.toArray):=.tuple cs vs h.len h.rel
theorem VR.bI:VR w0 μ bI Go.undef:=dY.tuple .nil
theorem pZ(h:VR w0 μ x v)(hx:asNat x=some n):∃ k,v = .int k (n:Int):=by
 cases h<;>simp [asNat] at hx;rename_i k m;exact ⟨k,by rw [<- hx.2,Int.toNat_of_nonneg hx.1]⟩
theorem kI(c o n:Nat):(⟨c,o,none⟩:Addr).add n=⟨c,o+n,none⟩:=by unfold Addr.add;split<;>simp_all
theorem MQ{c a b v:AV}{cv av bv:Value}(hc:VR w0 μ c cv)(ha:VR w0 μ a av)(hb:VR w0 μ b bv)(h:LF c a b=some v) :
  ∃ t,cv = .bool t/\VR w0 μ v (if t then av else bv):=by
 cases c<;>simp [LF] at h;rename_i t;refine ⟨t,hc.iz,?_⟩;subst h;cases t
 ·exact hb
 ·exact ha
theorem Rv{op:UnOp}{v:AV}(hx:VR w0 μ x xv)(h:kr op x=some v):∃ vc,(∀ w,(Op.unary op xv).run P w = .ok vc w)/\VR w0 μ v vc:=by
 unfold kr at h;split at h
 ·cases h;rw [hx.gd];exact ⟨_,fun w=>rfl,.int _ _⟩
 ·cases h;rw [hx.iz];exact ⟨_,fun w=>rfl,.bool _⟩
 ·cases h
theorem D9{v:AV}(hx:VR w0 μ x xv)(h:bq x=some v):VR w0 μ v xv/\((∃ a,xv = .pointer (some a))\/∃ f a b,xv = .func (.func f) a b):=by
 unfold bq at h;split at h
 ·cases h;cases hx;exact ⟨.ptr _ _ _ ‹_›,.inl ⟨_,rfl⟩⟩
 ·cases h;cases hx;exact ⟨.dO _ _ _ _ _ ‹_› ‹_› ‹_› ‹_›,.inl ⟨_,rfl⟩⟩
 ·cases h;cases hx;exact ⟨.func _ _ _ _ _ ‹_› ‹_› ‹_› ‹_›,.inr ⟨_,_,_,rfl⟩⟩
 ·cases h
theorem OM{op:BinOp}{v:AV}(hx:VR w0 μ x xv)(hy:VR w0 μ y yv)(h:aF op x y=some v)(h1:op≠.eql)(h2:op≠.neq) :
  ∃ vc,(∀ w,(binOp op t xv yv).run P w = .ok vc w)/\VR w0 μ v vc:=by
 have shift:∀ r:Bool,op=(if r then .shr else .shl)->BQ r x y=some v->∃ vc,(∀ w,(binOp op t xv yv).run P w = .ok vc w)/\VR w0 μ v vc:=by
  intro r ho h;unfold BQ at h;split at h
  ·split at h
   ·cases h
   ·rename_i k a k' b hb;cases h;rw [hx.gd,hy.gd,ho];cases r
    ·exact ⟨_,fun w=>by simp [binOp,Op.shift,hb],.int _ _⟩
    ·exact ⟨_,fun w=>by simp [binOp,Op.shift,hb],.int _ _⟩
  ·cases h
 have bits:(op = .and\/op = .or\/op = .xor)->OB op x y=some v->∃ vc,(∀ w,(binOp op t xv yv).run P w = .ok vc w)/\VR w0 μ v vc:=by
  intro ho h;unfold OB at h;split at h
  ·split at h
   ·rename_i k a k' b hk;subst hk;rw [hx.gd,hy.gd];rcases ho with rfl|rfl|rfl<;>simp only [Option.some.injEq] at h<;>subst h<;>exact ⟨_,fun w=>by simp [binOp,Op.intBits],.int _ _⟩
   ·cases h
  ·cases h
 unfold aF at h;split at h
 ·exact shift true rfl h
 ·exact shift false rfl h
 ·exact bits (.inl rfl) h
 ·exact bits (.inr (.inl rfl)) h
 ·exact bits (.inr (.inr rfl)) h
 split at h
 ·rename_i k a k' b;split at h
  ·rename_i hk;subst hk;rw [hx.gd,hy.gd];cases op<;>simp only [reduceCtorEq] at h<;>first|(exact absurd rfl h1)|(exact absurd rfl h2)|skip
   ·cases h;exact ⟨.int k (k.wrap (a+b)),fun w=>by simp [binOp,Op.intArith],.int _ _⟩
   ·cases h;exact ⟨.int k (k.wrap (a-b)),fun w=>by simp [binOp,Op.intArith],.int _ _⟩
   ·cases h;exact ⟨.int k (k.wrap (a*b)),fun w=>by simp [binOp,Op.intArith],.int _ _⟩
   ·split at h
    ·cases h
    ·rename_i hb;cases h;exact ⟨.int k (k.wrap (a.tdiv b)),fun w=>by simp [binOp,Op.intDiv,hb],.int _ _⟩
   ·split at h
    ·cases h
    ·rename_i hb;cases h;exact ⟨.int k (a.tmod b),fun w=>by simp [binOp,Op.intDiv,hb],.int _ _⟩
   ·cases h;exact ⟨.bool (decide (a<b)),fun w=>by simp [binOp,Op.intCmp],.bool _⟩
   ·cases h;exact ⟨.bool (decide (a<=b)),fun w=>by simp [binOp,Op.intCmp],.bool _⟩
   ·cases h;exact ⟨.bool (decide (a>b)),fun w=>by simp [binOp,Op.intCmp],.bool _⟩
   ·cases h;exact ⟨.bool (decide (a>=b)),fun w=>by simp [binOp,Op.intCmp],.bool _⟩
  ·cases h
 ·rename_i a b;obtain ⟨s,rfl,rfl⟩:=hx.gO;obtain ⟨u,rfl,rfl⟩:=hy.gO;cases op<;>simp only [reduceCtorEq] at h<;>first|(exact absurd rfl h1)|(exact absurd rfl h2)|skip
  ·split at h
   ·rename_i hl;cases h;refine ⟨.string (s++u),fun w=>?_,?_⟩
    ·have e1:s.data.toList.length=s.size:=(by rw [Array.length_toList];rfl);have e2:u.data.toList.length=u.size:=by rw [Array.length_toList];rfl
     rw [e1,e2] at hl
     have:¬ (((s.size+u.size:Nat):Int)>IntKind.i64.max):=by
      have:IntKind.i64.max=9223372036854775807:=(by decide);rw [this];omega
     unfold binOp;simp only [Op.stringOp,if_neg this];rfl
    ·have e:(s++u).data.toList=s.data.toList++u.data.toList:=(by simp);rw [<- e];exact .str _
   ·cases h
  ·cases h;exact ⟨.bool (Op.bytesLess s.data.toList u.data.toList),fun w=>by simp [binOp,Op.stringOp,ByteArray.toList_eq],.bool _⟩
  ·cases h;exact ⟨.bool (Op.bytesLess s.data.toList u.data.toList||s.data.toList==u.data.toList),fun w=>by simp [binOp,Op.stringOp,ByteArray.toList_eq],.bool _⟩
  ·cases h;exact ⟨.bool (!(Op.bytesLess s.data.toList u.data.toList||s.data.toList==u.data.toList)),fun w=>by simp [binOp,Op.stringOp,ByteArray.toList_eq],.bool _⟩
  ·cases h;exact ⟨.bool (!(Op.bytesLess s.data.toList u.data.toList)),fun w=>by simp [binOp,Op.stringOp,ByteArray.toList_eq],.bool _⟩
 ·cases h
theorem Ea{op:BinOp}{x y:Operand}{a b:Value}{w:World}(h1:a≠.nilIface)(h2:∀ c,a≠.agg c):(eqGuard op t x y a b).run P w = .ok () w:=by
 unfold eqGuard;cases op<;>first|rfl|(cases a<;>first|(exact absurd rfl h1)|(exact absurd rfl (h2 _))|rfl)
section
variable {t:TypeId} (d:Nat) (w:World)
theorem MR(hd:P.underlying t=some .bool)(a b:Bool):(Op.equalIn (d+1) t (.bool a) (.bool b)).run P w = .ok (a==b) w:=by simp [Op.equalIn,run_underlying hd]
theorem B1(hd:P.underlying t=some (.pointer e))(a:Addr) :
  (Op.equalIn (d+1) t (.pointer none) (.pointer none)).run P w = .ok true w/\(Op.equalIn (d+1) t (.pointer (some a)) (.pointer none)).run P w = .ok false w /\
  (Op.equalIn (d+1) t (.pointer none) (.pointer (some a))).run P w = .ok false w:=by simp [Op.equalIn,run_underlying hd]
theorem we(hd:P.underlying t=some (.slice e))(a:Addr)(n c:Nat) :
  (Op.equalIn (d+1) t (.slice none 0 0) (.slice none 0 0)).run P w = .ok true w/\(Op.equalIn (d+1) t (.slice (some a) n c) (.slice none 0 0)).run P w = .ok false w /\
  (Op.equalIn (d+1) t (.slice none 0 0) (.slice (some a) n c)).run P w = .ok false w:=by simp [Op.equalIn,run_underlying hd]
theorem B2{k:TypeId}(hd:P.underlying t=some (.map k e))(a:Nat) :
  (Op.equalIn (d+1) t (.map none) (.map none)).run P w = .ok true w/\(Op.equalIn (d+1) t (.map (some a)) (.map none)).run P w = .ok false w /\
  (Op.equalIn (d+1) t (.map none) (.map (some a))).run P w = .ok false w:=by simp [Op.equalIn,run_underlying hd]
theorem yT{x y:Array TypeId}{z:Bool}(hd:P.underlying t=some (.func x y z))(f:Fn)(a b:Array Value) :
  (Op.equalIn (d+1) t .nilFunc .nilFunc).run P w = .ok true w/\(Op.equalIn (d+1) t (.func f a b) .nilFunc).run P w = .ok false w /\
  (Op.equalIn (d+1) t .nilFunc (.func f a b)).run P w = .ok false w:=by simp [Op.equalIn,run_underlying hd]
end
theorem binOp_eql{x y:Value}{w:World}(h:(Op.equal t x y).run P w = .ok b w)(h1:∀ k n,x≠.int k n)(h2:∀ s,x≠.string s)(h3:∀ k n,x≠.float k n)(h4:∀ k n m,x≠.complex k n m) :
  (binOp .eql t x y).run P w = .ok (.bool b) w/\(binOp .neq t x y).run P w = .ok (.bool (!b)) w:=by
 cases x<;>first|(exact absurd rfl (h1 _ _))|(exact absurd rfl (h2 _))|(exact absurd rfl (h3 _ _))|(exact absurd rfl (h4 _ _ _))|(simp [binOp,h])
theorem HJ{d:TypeDesc}(hd:P.underlying t=some d)(hx:VR w0 μ x xv)(hy:VR w0 μ y yv)(h:Ra d x y=some b) :
  (∀ w,(binOp .eql t xv yv).run P w = .ok (.bool b) w)/\(∀ w,(binOp .neq t xv yv).run P w = .ok (.bool (!b)) w)/\xv≠.nilIface/\∀ c,xv≠.agg c:=by
 have key:(∀ w,(Op.equalIn (9999+1) t xv yv).run P w = .ok b w)->(∀ k n,xv≠.int k n)->(∀ s,xv≠.string s)->(∀ k n,xv≠.float k n)->(∀ k n m,xv≠.complex k n m) ->
   (∀ w,(binOp .eql t xv yv).run P w = .ok (.bool b) w)/\(∀ w,(binOp .neq t xv yv).run P w = .ok (.bool (!b)) w):=
  fun h1 a b c d=>⟨fun w=>(binOp_eql (h1 w) a b c d).1,fun w=>(binOp_eql (h1 w) a b c d).2⟩
 unfold Ra at h;split at h
 ·rename_i k a k' b';split at h
  ·rename_i hk;subst hk;cases h;rw [hx.gd,hy.gd];refine ⟨fun w=>by simp [binOp,Op.intCmp],fun w=>by simp [binOp,Op.intCmp,bne],by simp,by simp⟩
  ·cases h
 ·rename_i a b';cases h;obtain ⟨s,rfl,rfl⟩:=hx.gO;obtain ⟨u,rfl,rfl⟩:=hy.gO;refine ⟨fun w=>by simp [binOp,Op.stringOp,ByteArray.toList_eq],fun w=>by simp [binOp,Op.stringOp,ByteArray.toList_eq],by simp,by simp⟩
 all_goals first
  |(cases h;done)
  |(split at h
    ·cases h;cases hx;cases hy;have:=key (fun w=>by first|exact MR 9999 w hd _ _|exact (B1 9999 w hd default).1|exact (B1 9999 w hd _).2.1|exact (B1 9999 w hd _).2.2|exact (we 9999 w hd default 0 0).1|exact (we 9999 w hd _ _ _).2.1|exact (we 9999 w hd _ _ _).2.2|exact (B2 9999 w hd 0).1|exact (B2 9999 w hd _).2.1|exact (B2 9999 w hd _).2.2|exact (yT 9999 w hd (.func 0) #[] #[]).1|exact (yT 9999 w hd _ _ _).2.1|exact (yT 9999 w hd _ _ _).2.2) (by simp) (by simp) (by simp) (by simp);exact ⟨this.1,this.2,by simp,by simp⟩
    ·cases h)
theorem Rw{off:Nat}{v:AV}(hx:VR w0 μ x xv)(hi:faI P t i=some off)(h:bS off x=some v) :
  ∃ vc,(∀ w,(Instr.fieldAt t xv i).run P w = .ok vc w)/\VR w0 μ v vc:=by
 unfold faI Gh at hi;split at hi
 ·rename_i f hf;split at hf
  ·rename_i fs hu;split at hi
   ·rename_i s hs;split at hi
    ·cases hi
    ·rename_i Xh;cases hi
     have hsz:∀ w,(sizeOf f.type).run P w = .ok s w:=by
      intro w;unfold nX at hs;split at hs
      ·rename_i inf iO;cases hs;simp [sizeOf,typeInfo,iO]
      ·cases hs
     have key:∀ (c o:Nat) (w:World),(Instr.fieldAt t (.pointer (some ⟨c,o,none⟩)) i).run P w = .ok (.pointer (some ⟨c,o+f.offset,none⟩)) w:=by
      intro c o w;simp [Instr.fieldAt,run_underlying hu,hf,Instr.sureAddr,fieldPlace,hsz,Xh,kI]
     unfold bS at h;split at h
     ·cases h;cases hx;rename_i b o k hk;refine ⟨_,fun w=>key _ _ w,?_⟩;rw [Nat.add_assoc];exact .ptr _ _ _ hk
     ·cases h;cases hx;refine ⟨_,fun w=>key _ _ w,?_⟩;rw [Nat.add_assoc];exact .dO _ _ _ _ _ ‹_› ‹_› ‹_› ‹_›
     ·cases h
   ·cases hi
  ·cases hf
 ·cases hi
theorem mw(h:nX P t=some n)(w:World):(sizeOf t).run P w = .ok n w:=by
 unfold nX at h;split at h
 ·rename_i inf iO;cases h;simp [sizeOf,typeInfo,iO]
 ·cases h
theorem B3{r:Option Nat}(hr:vA P t=some r) :
  (∃ n,r=some n/\(∀ w,(isAgg t).run P w = .ok true w)/\∀ w,(sizeOf t).run P w = .ok n w)\/(r=none/\∀ w,(isAgg t).run P w = .ok false w):=by
 unfold vA at hr;split at hr
 ·rename_i fs hu;split at hr
  ·rename_i n hn;cases hr;exact .inl ⟨n,rfl,fun w=>by simp [isAgg,run_underlying hu],mw hn⟩
  ·cases hr
 ·rename_i n' e hu;split at hr
  ·rename_i n hn;cases hr;exact .inl ⟨n,rfl,fun w=>by simp [isAgg,run_underlying hu],mw hn⟩
  ·cases hr
 ·rename_i d h1 h2 hu;cases hr;refine .inr ⟨rfl,fun w=>?_⟩;simp only [isAgg,Sem.run_bind,run_underlying hu,Result.andThen_ok];cases d<;>first|rfl|(exact absurd rfl (h1 _))|(exact absurd rfl (h2 _ _))
 ·cases hr
theorem B4{r:Option Nat}(hr:vA P t=some r){vs:List Value}(hc:dY w0 μ cs vs){off:Nat}{v:AV}(h:iX r cs off=some v) :
  ∃ vc,(∀ w,(Go.part t vs.toArray off).run P w = .ok vc w)/\VR w0 μ v vc:=by
 rcases B3 hr with ⟨n,rfl,h1,h2⟩|⟨rfl,h1⟩
 ·simp only [iX] at h;split at h
  ·cases h;exact ⟨.agg ((vs.drop off).take n).toArray,fun w=>by simp [Go.part,h1,h2],((hc.drop off).take n).agg⟩
  ·cases h
 ·simp only [iX] at h;obtain ⟨vc,hv,hr⟩:=hc.get h;exact ⟨vc,fun w=>by simp [Go.part,h1,hv],hr⟩
theorem Kb{o:Option Nat×Nat}{v:AV}(hx:VR w0 μ x xv)(hi:Gm P t i=some o)(h:Gi o.1 o.2 x=some v) :
  ∃ vc,(∀ w,(Instr.field t xv i).run P w = .ok vc w)/\VR w0 μ v vc:=by
 unfold Gm Gh at hi;split at hi
 ·rename_i f hf;split at hf
  ·rename_i fs hu;split at hi
   ·rename_i r hr;cases hi;unfold Gi at h;split at h
    ·rename_i cs;obtain ⟨vs,rfl,hc⟩:=hx.LP;obtain ⟨vc,h1,h2⟩:=B4 hr hc h;exact ⟨vc,fun w=>by simp [Instr.field,run_underlying hu,hf,asAgg,h1],h2⟩
    ·cases h
   ·cases hi
  ·cases hf
 ·cases hi
theorem B5(h:LD P t=some e):P.underlying t=some (.slice e):=by
 unfold LD at h;split at h
 ·cases h;assumption
 ·cases h
theorem wg{o:Nat×Nat}(h:BR P t=some o):∃ e inf,P.underlying t=some (.slice e)/\P.info? e=some inf/\inf.size=o.1/\inf.bytes=o.2/\0<o.1/\0<o.2:=by
 unfold BR OF at h;split at h
 ·cases h
 ·rename_i e he;split at h
  ·rename_i s b hs hb;split at h
   ·rename_i hp;cases h;unfold nX at hs;unfold OA at hb;split at hs
    ·rename_i inf iO;rw [iO] at hb;cases hs;cases hb;exact ⟨e,inf,B5 he,iO,rfl,rfl,by simpa using hp⟩
    ·cases hs
   ·cases h
  ·cases h
theorem Rx{o:Nat×Nat}{v:AV}(hx:VR w0 μ x xv)(hy:VR w0 μ y yv)(hi:BR P t=some o)(h:dG o.1 x y=some v) :
  ∃ vc,(∀ w,(Instr.indexAt t xv yv).run P w = .ok vc w)/\VR w0 μ v vc:=by
 obtain ⟨e,inf,hu,iO,hs,hb,hp,B6⟩:=wg hi;unfold dG at h;split at h
 ·cases h
 ·rename_i i hn;obtain ⟨kk,rfl⟩:=pZ hy hn
  have key:∀ (c off len cap:Nat) (w:World),i<len->(Instr.indexAt t (.slice (some ⟨c,off,none⟩) len cap) (.int kk (i:Int))).run P w = .ok (.pointer (some ⟨c,off+i*o.1,none⟩)) w:=by
   intro c off len cap w hlt;have:((i:Int)<(len:Int)):=by omega
   simp [Instr.indexAt,run_underlying hu,asIntOf,sizeOf,typeInfo,iO,hs,kI,hlt]
  split at h
  ·rename_i b off len sz;split at h
   ·rename_i hc;cases h;simp only [and_eq_true,decide_eq_true_eq,beq_iff_eq] at hc;cases hx;rename_i cap a k hk hle ha;obtain ⟨rfl,XR⟩:=ha (by omega);refine ⟨_,fun w=>key _ _ _ _ w hc.1,?_⟩;rw [Nat.add_assoc,hc.2];exact .ptr _ _ _ hk
   ·cases h
  ·rename_i cs off len sz;split at h
   ·rename_i hc;cases h;simp only [and_eq_true,decide_eq_true_eq,beq_iff_eq] at hc;cases hx;rename_i cap a g o' vs hg hv hl hr ha hle;obtain rfl:=ha (by omega);refine ⟨_,fun w=>key _ _ _ _ w hc.1,?_⟩;rw [Nat.add_assoc,hc.2];exact .dO _ _ _ _ _ hg hl hv hr
   ·cases h
  ·cases h
theorem MS{len:Nat}{v:AV}(hx:VR w0 μ x xv)(hy:VR w0 μ y yv)(hu:P.underlying t=some (.array len e))(hs:nX P e=some n)(h:OD len n x y=some v) :
  ∃ vc,(∀ w,(Instr.indexAt t xv yv).run P w = .ok vc w)/\VR w0 μ v vc:=by
 unfold nX at hs;split at hs
 ·rename_i inf iO;simp only [Option.some.injEq] at hs;unfold OD at h;split at h
  ·cases h
  ·rename_i i hn;obtain ⟨kk,rfl⟩:=pZ hy hn
   have key:∀ (c off:Nat) (w:World),i<len->(Instr.indexAt t (.pointer (some ⟨c,off,none⟩)) (.int kk (i:Int))).run P w = .ok (.pointer (some ⟨c,off+i*n,none⟩)) w:=by
    intro c off w hlt;have:((i:Int)<(len:Int)):=by omega
    simp [Instr.indexAt,run_underlying hu,asIntOf,Instr.sureAddr,sizeOf,typeInfo,iO,hs,kI,hlt]
   split at h
   ·rename_i b off;split at h
    ·rename_i hc;cases h;cases hx;rename_i k hk;refine ⟨_,fun w=>key _ _ w hc,?_⟩;rw [Nat.add_assoc];exact .ptr _ _ _ hk
    ·cases h
   ·rename_i cs off;split at h
    ·rename_i hc;cases h;cases hx;refine ⟨_,fun w=>key _ _ w hc,?_⟩;rw [Nat.add_assoc];exact .dO _ _ _ _ _ ‹_› ‹_› ‹_› ‹_›
    ·cases h
   ·cases h
 ·cases hs
theorem ON{o:IaK}{v:AV}(hx:VR w0 μ x xv)(hy:VR w0 μ y yv)(hi:iaI P t=some o)(h:iaV o x y=some v) :
  ∃ vc,(∀ w,(Instr.indexAt t xv yv).run P w = .ok vc w)/\VR w0 μ v vc:=by
 unfold iaI at hi;split at hi
 ·rename_i len e hu;split at hi
  ·rename_i s hs;cases hi;exact MS hx hy hu hs h
  ·cases hi
 ·split at hi
  ·rename_i o' ho;cases hi;exact Rx hx hy ho h
  ·cases hi
theorem OO(s:ByteArray)(i:Nat):s.data.toList[i]?=s[i]?:=by
 by_cases h:i<s.size
 ·have h':i<s.data.toList.length:=by rw [Array.length_toList];exact h
  rw [eA h',getElem?_pos s i h];rfl
 ·have h':s.data.toList.length<=i:=by rw [Array.length_toList];exact Nat.le_of_not_lt h
  rw [getElem?_eq_none h',getElem?_neg s i h]
theorem OP{o:Vi}{v:AV}(hx:VR w0 μ x xv)(hy:VR w0 μ y yv)(hi:Rt P t=some o)(h:OG o x y=some v) :
  ∃ vc,(∀ w,(Instr.index t xv yv).run P w = .ok vc w)/\VR w0 μ v vc:=by
 unfold Rt at hi;split at hi
 ·rename_i hu;cases hi;simp only [OG,kS] at h;split at h
  ·rename_i s i hn;obtain ⟨s,rfl,rfl⟩:=hx.gO;obtain ⟨kk,rfl⟩:=pZ hy hn;split at h
   ·rename_i b hb;cases h;rw [OO] at hb;refine ⟨.int .u8 b.toNat,fun w=>?_,.int _ _⟩;simp [Instr.index,run_underlying hu,asIntOf,hb]
   ·cases h
  ·cases h
 ·rename_i len e hu;split at hi
  ·rename_i n r hn hr;cases hi;simp only [OG,LG] at h;split at h
   ·rename_i cs i hi;obtain ⟨vs,rfl,hc⟩:=hx.LP;obtain ⟨kk,rfl⟩:=pZ hy hi;split at h
    ·rename_i hlt;obtain ⟨vc,h1,h2⟩:=B4 hr hc h;refine ⟨vc,fun w=>?_,h2⟩;have:((i:Int)<(len:Int)):=by omega
     simp [Instr.index,run_underlying hu,asIntOf,hlt,mw hn,h1]
    ·cases h
   ·cases h
  ·cases hi
 ·cases hi
theorem Gu{v:AV}(hx:VR w0 μ x xv)(h:bx x i=some v):∃ vc,(∀ w,(Instr.extract xv i).run P w = .ok vc w)/\VR w0 μ v vc:=by
 unfold bx at h;split at h
 ·obtain ⟨vs,rfl,hc⟩:=hx.E8;obtain ⟨vc,h1,h2⟩:=hc.get h;exact ⟨vc,fun w=>by simp [Instr.extract,h1],h2⟩
 ·cases h
theorem Kc(hx:VR w0 μ x xv)(h:BV P t=some ()):(∀ w,(Instr.makeInterface t xv).run P w = .ok (.iface t xv) w)/\VR w0 μ (.iface t x) (.iface t xv):=by
 refine ⟨fun w=>?_,.iface t x xv hx⟩;unfold BV at h;split at h
 ·cases h
 ·rename_i d hd hu;simp only [Instr.makeInterface,Sem.run_bind,run_underlying hu,Result.andThen_ok];cases d<;>first|rfl|(exact absurd rfl (hd _))
 ·cases h
theorem OQ{mx:Bool}:∀ (ys:List AV) (x v:AV) (xv:Value) (yvs:List Value),VR w0 μ x xv->dY w0 μ ys yvs->vC mx x ys=some v ->
  ∃ vc,(∀ w,(yvs.foldlM (if mx then Builtin.max2 else Builtin.min2) xv).run P w = .ok vc w)/\VR w0 μ v vc:=by
 intro ys
 induction ys with
 |nil=>
  intro x v xv yvs hx hy h;obtain rfl:=hy.gN;cases h;exact ⟨xv,fun w=>by simp,hx⟩
 |cons y ys ih=>
  intro x v xv yvs hx hy h;obtain ⟨u,us,rfl,hyu,XS⟩:=hy.cons_inv;simp only [vC] at h;split at h
  ·rename_i v' E9;unfold J1 at E9;split at E9
   ·rename_i k a k' b;split at E9
    ·rename_i hk;subst hk;cases E9;rw [hx.gd,hyu.gd];obtain ⟨vc,h1,h2⟩:=ih _ v _ us (.int _ _) XS h;refine ⟨vc,fun w=>?_,h2⟩;simp only [foldlM_cons,Sem.run_bind];cases mx<;>simp [Builtin.min2,Builtin.max2]<;>simpa using h1 w
    ·cases E9
   ·cases E9
  ·cases h
theorem B7{x:Option AV}{xv:Option Value}{d:Nat}(hx:(x=none/\xv=none)\/∃ a v,x=some a/\xv=some v/\VR w0 μ a v)(h:nY x d=some n) :
  (xv=none/\n=d)\/∃ k,xv=some (.int k (n:Int)):=by
 rcases hx with ⟨rfl,rfl⟩|⟨a,v,rfl,rfl,hr⟩
 ·simp [nY] at h;exact .inl ⟨rfl,h.symm⟩
 ·obtain ⟨k,rfl⟩:=pZ hr h;exact .inr ⟨k,rfl⟩
theorem qN{isSlice:Bool}{len cap lo hi:Nat}{Vq Ry:Option Value}(w:World)(h1:(Vq=none/\lo=0)\/∃ k,Vq=some (.int k (lo:Int)))(h2:(Ry=none/\hi=len)\/∃ k,Ry=some (.int k (hi:Int)))
  (hl:lo<=hi) (hh:hi<=cap):(Instr.sliceBounds isSlice len cap Vq Ry none).run P w = .ok (lo,hi,cap) w:=by
 have e1:(0:Int)<=(lo:Int)/\(lo:Int)<=(hi:Int):=by omega
 have e2:(0:Int)<=(hi:Int)/\(hi:Int)<=(cap:Int):=by omega
 rcases h1 with ⟨rfl,rfl⟩|⟨k1,rfl⟩<;>rcases h2 with ⟨rfl,rfl⟩|⟨k2,rfl⟩<;>simp [Instr.sliceBounds,Instr.sliceBound,asIntOf,e1,e2,hl,hh]
theorem extract_toList(s:ByteArray)(lo hi:Nat)(hl:lo<=hi)(hh:hi<=s.size):(s.extract lo hi).data.toList=(s.data.toList.take hi).drop lo:=by
 simp only [ByteArray.data_extract,Array.toList_extract];rw [extract_eq_take_drop,drop_take]
theorem Ke{i:Option Nat}{v:AV}{lo hi:Option AV}{Vq Ry:Option Value}(hx:VR w0 μ x xv)
  (DY:(lo=none/\Vq=none)\/∃ a v,lo=some a/\Vq=some v/\VR w0 μ a v) (JP:(hi=none/\Ry=none)\/∃ a v,hi=some a/\Ry=some v/\VR w0 μ a v)
  (uX:Gn P t=some i) (h:gZ i x lo hi=some v):∃ vc,(∀ w,(Instr.sliceAt t xv Vq Ry none).run P w = .ok vc w)/\VR w0 μ v vc:=by
 unfold gZ at h;split at h
 ·cases h
 ·rename_i len hlen;split at h
  ·rename_i Uq JQ hb1 hb2;split at h
   ·rename_i hc;simp only [and_eq_true,decide_eq_true_eq] at hc;have b1:=B7 JP hb1;have b2:=B7 DY hb2;unfold Gn at uX;split at uX
    ·rename_i hu;cases uX;cases x<;>simp only [reduceCtorEq,Option.some.injEq] at h;rename_i l;subst h;obtain ⟨s,rfl,rfl⟩:=hx.gO
     have hl:Uq<=s.size:=by
      simp only [kX,Option.some.injEq] at hlen;have:s.data.toList.length=s.size:=by rw [Array.length_toList];rfl
      omega
     have b1':(Ry=none/\Uq=s.size)\/∃ k,Ry=some (.int k (Uq:Int)):=by
      rcases b1 with ⟨e1,e2⟩|e
      ·refine .inl ⟨e1,?_⟩;simp only [kX,Option.some.injEq] at hlen;have:s.data.toList.length=s.size:=by rw [Array.length_toList];rfl
       omega
      ·exact .inr e
     refine ⟨.string (s.extract JQ Uq),fun w=>?_,?_⟩
     ·simp [Instr.sliceAt,Instr.slice,run_underlying hu,qN (P:=P) w b2 b1' hc.1 hl]
     ·rw [<- extract_toList s JQ Uq hc.1 hl];exact .str _
    ·rename_i e hu;split at uX
     ·rename_i sz hsz;cases uX;cases x<;>simp only [reduceCtorEq,Option.some.injEq] at h
      ·subst h;simp only [kX,Option.some.injEq] at hlen;subst hlen;cases hx;obtain rfl:Uq=0:=by omega
       obtain rfl:JQ=0:=by omega
       refine ⟨.slice none 0 0,fun w=>?_,.ax⟩;simp [Instr.sliceAt,Instr.slice,run_underlying hu,qN (P:=P) w b2 b1 (dM 0) (dM 0),mw hsz]
      ·rename_i b off n sz';split at h
       ·rename_i hs;subst hs;cases h;simp only [kX,Option.some.injEq] at hlen;subst hlen;cases hx;rename_i cap a k hk hle ha;refine ⟨.slice (if cap=JQ then some a else some (a.add (JQ*sz))) (Uq-JQ) (cap-JQ),fun w=>?_,?_⟩
        ·have hb:=qN (P:=P) (isSlice:=true) (len:=n) (cap:=cap) w b2 b1 hc.1 (by omega);simp [Instr.sliceAt,Instr.slice,run_underlying hu,hb,mw hsz]
        ·by_cases e:cap=JQ
         ·rw [if_pos e];exact .slice _ _ _ _ _ _ _ hk (by omega) (fun h0=>by omega)
         ·rw [if_neg e];refine .slice _ _ _ _ _ _ _ hk (by omega) (fun h0=>?_);obtain ⟨rfl,hbd⟩:=ha (by omega);refine ⟨by rw [kI,Nat.add_assoc],?_⟩;have:(cap-JQ)*sz=cap*sz-JQ*sz:=Nat.sub_mul _ _ _;have h2:JQ*sz<=cap*sz:=mul_le_mul_right _ (by omega);omega
       ·cases h
      ·rename_i cs off n sz';split at h
       ·rename_i hs;subst hs;cases h;simp only [kX,Option.some.injEq] at hlen;subst hlen;cases hx;rename_i cap a g o' vs hg hv hl hr ha hle;refine ⟨.slice (if cap=JQ then some a else some (a.add (JQ*sz))) (Uq-JQ) (cap-JQ),fun w=>?_,?_⟩
        ·have hb:=qN (P:=P) (isSlice:=true) (len:=n) (cap:=cap) w b2 b1 hc.1 (by omega);simp [Instr.sliceAt,Instr.slice,run_underlying hu,hb,mw hsz]
        ·by_cases e:cap=JQ
         ·rw [if_pos e];exact .au _ _ _ _ _ _ _ _ _ hg hl hv hr (by omega) (fun h0=>by omega)
         ·rw [if_neg e];refine .au _ _ _ _ _ _ _ _ _ hg hl hv hr (by omega) (fun h0=>?_);obtain rfl:=ha (by omega);rw [kI,Nat.add_assoc]
       ·cases h
     ·cases uX
    ·cases uX
   ·cases h
  ·cases h
end
end Go.AM
namespace Go.AM
open List Nat Bool Option
open Go Go.RowKit
theorem fG{α:Type}:∀ (vs cs:List α) (off:Nat),(ei cs off vs).length=cs.length
 |[],cs,off=>rfl
 |v :: vs,cs,off=>by simp [ei,fG vs]
section
variable {P:Program} {w0:World} {μ:Mu} {ρ:Operand->AV} {ρc:Operand->Value}
theorem dY.ei:∀ {xs ys:List AV} {us vs:List Value} (off:Nat),dY w0 μ xs us->dY w0 μ ys vs->dY w0 μ (AM.ei xs off ys) (AM.ei us off vs)
 |xs,[],us,vs,off,h,k=>by obtain rfl:=k.gN;exact h
 |xs,y :: ys,us,vs,off,h,k=>by
  obtain ⟨u,Xi,rfl,h1,h2⟩:=k.cons_inv;exact dY.ei (off+1) (h.set off h1) h2
theorem B8:∀ (vs:List Value) (j off:Nat) (cells:Array Value),
  ((vs.zipIdx j).foldl (fun cs (p:Value×Nat)=>cs.setIfInBounds (off+p.2) p.1) cells).toList=ei cells.toList (off+j) vs
 |[],j,off,cells=>rfl
 |v :: vs,j,off,cells=>by
  simp only [zipIdx_cons,foldl_cons,ei];rw [B8 vs (j+1) off];simp [Nat.add_assoc]
theorem B9(place:Nat->Option (Nat×Nat)):∀ (is:List Nat) (ps:List (Nat×Nat)) (xs:List AV) (us:List Value) (zs cs:List AV) (cells:Array Value),
  is.length=ps.length->(∀ (k i:Nat) (p:Nat×Nat),is[k]?=some i->ps[k]?=some p->place i=some p)->dY w0 μ xs us->dY w0 μ zs cells.toList->og zs ps xs=some cs ->
  ∃ kz,Instr.fill place cells (is.zip us)=some kz/\dY w0 μ cs kz.toList:=by
 intro is
 induction is with
 |nil=>
  intro ps xs us zs cs cells hl hp hx hz h;obtain rfl:ps = []:=eq_nil_of_length_eq_zero hl.symm
  cases xs with
  |nil=>cases h;exact ⟨cells,by simp [Instr.fill],hz⟩
  |cons x xs=>simp [og] at h
 |cons i is ih=>
  intro ps xs us zs cs cells hl hp hx hz h
  cases ps with
  |nil=>simp at hl
  |cons p ps=>
   obtain ⟨off,n⟩:=p
   cases xs with
   |nil=>simp [og] at h
   |cons x xs=>
    obtain ⟨u,Xi,rfl,hu,Rz⟩:=hx.cons_inv;simp only [og] at h;split at h
    ·rename_i hc;simp only [and_eq_true,decide_eq_true_eq] at hc;have sH:=hu.cells hc.2;have e1:u.cells.size=n:=by rw [<- Array.length_toList,<- sH.len];exact hc.1.1
     have e2:off+u.cells.size<=cells.size:=by rw [e1];have:=hc.1.2;rw [hz.len,Array.length_toList] at this;exact this
     have Xj:dY w0 μ (AM.ei zs off x.dy) (u.cells.zipIdx.foldl (fun cs (p:Value×Nat)=>cs.setIfInBounds (off+p.2) p.1) cells).toList:=by
      have:=B8 u.cells.toList 0 off cells
      have e3:u.cells.zipIdx.foldl (fun cs (p:Value×Nat)=>cs.setIfInBounds (off+p.2) p.1) cells=(u.cells.toList.zipIdx 0).foldl (fun cs (p:Value×Nat)=>cs.setIfInBounds (off+p.2) p.1) cells:=by
       rw [<- Array.foldl_toList];simp
      rw [e3,this];exact dY.ei _ hz sH
     obtain ⟨kz,h1,h2⟩:=ih ps xs Xi _ cs _ (by simpa using hl) (fun k i p a b=>hp (k+1) i p (by simpa using a) (by simpa using b)) Rz Xj h;refine ⟨kz,?_,h2⟩;have sI:place i=some (off,n):=hp 0 i (off,n) rfl rfl;simp only [zip_cons_cons,Instr.fill,sI];rw [if_neg (by simp [e1];rw [<- e1];exact e2)];exact h1
    ·cases h
theorem Kf{pl:List (Nat×Nat)}:∀ {is:List Nat} {ps:List (Nat×Nat)},LI pl is=some ps->is.length=ps.length/\∀ (k i:Nat) (p:Nat×Nat),is[k]?=some i->ps[k]?=some p->pl[i]?=some p:=by
 intro is
 induction is with
 |nil=>intro ps h;cases h;exact ⟨rfl,by simp⟩
 |cons i is ih=>
  intro ps h;simp only [LI] at h;split at h
  ·rename_i p ps' h1 h2;cases h;obtain ⟨e1,e2⟩:=ih h2;refine ⟨by simp [e1],fun k j q a b=>?_⟩
   cases k with
   |zero=>simp at a b;subst a;subst b;exact h1
   |succ k=>exact e2 k j q (by simpa using a) (by simpa using b)
  ·cases h
theorem mz{t:TypeId}{z:AV}(h:zV P t=some z):∃ inf zv,P.info? t=some inf/\inf.zero=some zv/\z=ofConst zv:=by
 unfold zV at h;split at h
 ·rename_i inf iO;split at h
  ·rename_i zv hz;cases h;exact ⟨inf,zv,iO,hz,rfl⟩
  ·cases h
 ·cases h
theorem sJ{α β:Type}(l:List (Nat×α))(g:α->β):(l.map (·.1)).zip (l.map fun p=>g p.2)=l.map fun p=>(p.1,g p.2):=by
 induction l with
 |nil=>rfl
 |cons a l ih=>simp [ih]
theorem Kg{t:TypeId}{parts:Array (Nat×Operand)}{v:AV}(hρ:∀ x,VR w0 μ (ρ x) (ρc x))
  (h:((Gl P t (parts.toList.map (·.1))).bind fun i=>iy i.1 i.2 (parts.toList.map fun p=>ρ p.2))=some v) :
  ∃ vc,(∀ w,(Instr.build t (parts.map fun (i,x)=>(i,ρc x))).run P w = .ok vc w)/\VR w0 μ v vc:=by
 obtain ⟨i,hi,ha⟩:=bind_eq_some_iff.1 h;unfold iy at ha;split at ha
 ·rename_i cs hcs;cases ha;unfold Gl at hi;split at hi
  ·rename_i fs hu;split at hi
   ·rename_i z pl hz sI;split at hi
    ·rename_i ps wh;split at hi
     ·rename_i uY;cases hi;obtain ⟨inf,zv,iO,HK,rfl⟩:=mz hz;obtain ⟨e1,e2⟩:=Kf wh;have hx:dY w0 μ (parts.toList.map fun p=>ρ p.2) (parts.toList.map fun p=>ρc p.2):=dY.map _ fun a _=>hρ a.2;obtain ⟨kz,h1,h2⟩:=B9 (w0:=w0) (μ:=μ) (pl.toArray[·]?) _ ps _ _ _ cs zv.cells e1 (fun k i p a b=>by simpa using e2 k i p a b) hx ((VR.ofConst zv).cells uY) hcs;rw [sJ] at h1;refine ⟨.agg kz,fun w=>?_,?_⟩
      ·refine run_build w t _ kz ?_;unfold Program.built;rw [iO,hu];simp only [HK];have ads:fs.toList.mapM (fun f=>(P.info? f.type).map fun i=>(f.offset,i.size))=some pl:=sI;rw [ads];simpa using h1
      ·have:=h2.agg;simpa using this
     ·cases hi
    ·cases hi
   ·cases hi
  ·rename_i n e hu;split at hi
   ·rename_i z ie hz hie;split at hi
    ·rename_i uY;cases hi;obtain ⟨inf,zv,iO,HK,rfl⟩:=mz hz;have hx:dY w0 μ (parts.toList.map fun p=>ρ p.2) (parts.toList.map fun p=>ρc p.2):=dY.map _ fun a _=>hρ a.2
     obtain ⟨kz,h1,h2⟩:=B9 (w0:=w0) (μ:=μ) (fun i=>some (i*ie.size,ie.size)) (parts.toList.map (·.1)) ((parts.toList.map (·.1)).map fun i=>(i*ie.size,ie.size)) _ _ _ cs zv.cells (by simp) (fun k i p a b=>by
      rw [getElem?_map,a] at b;simpa using b) hx ((VR.ofConst zv).cells uY) hcs
     rw [sJ] at h1;refine ⟨.agg kz,fun w=>?_,?_⟩
     ·refine run_build w t _ kz ?_;unfold Program.built;rw [iO,hu];simp only [HK,hie];simpa using h1
     ·have:=h2.agg;simpa using this
    ·cases hi
   ·cases hi
  ·cases hi
 ·cases ha
theorem OR(hρ:∀ x,VR w0 μ (ρ x) (ρc x))(lo:Option Operand):(lo.map ρ=none/\lo.map ρc=none)\/∃ a v,lo.map ρ=some a/\lo.map ρc=some v/\VR w0 μ a v:=by
 cases lo with
 |none=>exact .inl ⟨rfl,rfl⟩
 |some x=>exact .inr ⟨_,_,rfl,rfl,hρ x⟩
theorem HL{xt a:TypeId}{ok:Bool}{z x v:AV}{xv:Value}(hx:VR w0 μ x xv)(hi:Bn P a ok=some z)(h:Bl a z x=some v) :
  ∃ vc,(∀ w,(Instr.typeAssert xv xt a ok).run P w = .ok vc w)/\VR w0 μ v vc:=by
 unfold Bn at hi;split at hi
 ·cases hi
 ·rename_i d hu hd;obtain ⟨inf,zv,h1,h2,rfl⟩:=mz hi;have hz:∀ w,(zeroValue a).run P w = .ok zv w:=fun w=>by simp [zeroValue,typeInfo,h1,h2]
  unfold Bl at h;split at h
  ·cases h;cases hx;refine ⟨.tuple #[zv,.bool false],fun w=>?_,dY.tuple (.cons (VR.ofConst zv) (.cons (.bool false) .nil))⟩;cases d<;>first|(simp [Instr.typeAssert,run_underlying hd,hz];done)|(exfalso;simp_all)
  ·rename_i t y;cases h;cases hx;rename_i yv hy;by_cases e:t=a
   ·subst e;rw [if_pos rfl];refine ⟨.tuple #[yv,.bool true],fun w=>?_,dY.tuple (.cons hy (.cons (.bool true) .nil))⟩;cases d<;>first|(simp [Instr.typeAssert,run_underlying hd];done)|(exfalso;simp_all)
   ·rw [if_neg e];refine ⟨.tuple #[zv,.bool false],fun w=>?_,dY.tuple (.cons (VR.ofConst zv) (.cons (.bool false) .nil))⟩;cases d<;>first|(simp [Instr.typeAssert,run_underlying hd,hz,e];done)|(exfalso;simp_all)
  ·cases h
 ·cases hi
theorem HM(hρ:∀ x,VR w0 μ (ρ x) (ρc x)){o:Oper}(hk:fc o.op = .pure){v:AV}(h:me P ρ o.op=some v) :
  ∃ vc,(∀ w,(execOp ρc o).run P w = .ok (.value vc) w)/\VR w0 μ v vc:=by
 obtain ⟨dst,op,type,pos,after,guard⟩:=o;cases op<;>simp only [fc,reduceCtorEq] at hk<;>simp only [me] at h
 case move x=>cases h;exact ⟨ρc x,fun w=>by simp [execOp],hρ x⟩
 case assign x=>cases h;exact ⟨ρc x,fun w=>by simp [execOp],hρ x⟩
 case pick c a b=>
  obtain ⟨t,ht,hv⟩:=MQ (hρ c) (hρ a) (hρ b) h;exact ⟨_,fun w=>by simp [execOp,ht,asBool],hv⟩
 case build t ps=>
  obtain ⟨vc,h1,h2⟩:=Kg (ρc:=ρc) hρ h;exact ⟨vc,fun w=>by simp [execOp,h1],h2⟩
 case nilCheck x=>
  obtain ⟨h1,h2⟩:=D9 (hρ x) h;refine ⟨ρc x,fun w=>?_,h1⟩;rcases h2 with ⟨a,ha⟩|⟨f,a,b,ha⟩<;>simp [execOp,ha]
 case binOp op t x y u=>
  have XT:∀ vc,(∀ w,(binOp op t (ρc x) (ρc y)).run P w = .ok vc w)->(ρc x≠.nilIface/\∀ c,ρc x≠.agg c)->∀ w,(execOp ρc ⟨dst,.binOp op t x y u,type,pos,after,guard⟩).run P w = .ok (.value vc) w:=
   fun vc h1 h2 w=>by simp [execOp,Ea h2.1 h2.2,h1]
  cases op
  case eql=>
   obtain ⟨d,hd,he⟩:=bind_eq_some_iff.1 h;unfold jA at he;split at he
   ·rename_i b hb;cases he;obtain ⟨h1,_,h3⟩:=HJ hd (hρ x) (hρ y) hb;exact ⟨.bool b,XT _ h1 h3,.bool b⟩
   ·cases he
  case neq=>
   obtain ⟨d,hd,he⟩:=bind_eq_some_iff.1 h;unfold nA at he;split at he
   ·rename_i b hb;cases he;obtain ⟨_,h1,h3⟩:=HJ hd (hρ x) (hρ y) hb;exact ⟨.bool (!b),XT _ h1 h3,.bool _⟩
   ·cases he
  all_goals
   obtain ⟨vc,h1,h2⟩:=OM (P:=P) (t:=t) (hρ x) (hρ y) h (by simp) (by simp);refine ⟨vc,fun w=>?_,h2⟩;simp [execOp,eqGuard,h1]
 case unOp op t x=>
  obtain ⟨vc,h1,h2⟩:=Rv (P:=P) (hρ x) h;exact ⟨vc,fun w=>by simp [execOp,h1],h2⟩
 case makeInterface t x=>
  obtain ⟨_,hi,he⟩:=bind_eq_some_iff.1 h;cases he;obtain ⟨h1,h2⟩:=Kc (P:=P) (hρ x) hi;exact ⟨_,fun w=>by simp [execOp,h1],h2⟩
 case makeFunc fn first cap=>
  cases fn<;>simp only [reduceCtorEq,Option.some.injEq] at h;rename_i f;subst h;have h1:dY w0 μ (first.toList.map ρ) (first.toList.map ρc):=dY.map _ fun a _=>hρ a;have h2:dY w0 μ (cap.toList.map ρ) (cap.toList.map ρc):=dY.map _ fun a _=>hρ a;refine ⟨.func (.func f) (first.toList.map ρc).toArray (cap.toList.map ρc).toArray,fun w=>?_,.func f _ _ _ _ h1.len h2.len h1.rel h2.rel⟩;have e1:∀ a:Array Operand,a.map ρc=(a.toList.map ρc).toArray:=fun a=>by apply Array.ext';simp
  simp only [execOp,Instr.makeFunc,e1];rfl
 case slice t x lo hi mx=>
  cases mx with
  |some m=>cases h
  |none=>
   obtain ⟨i,uX,he⟩:=bind_eq_some_iff.1 h;obtain ⟨vc,h1,h2⟩:=Ke (hρ x) (OR hρ lo) (OR hρ hi) uX he;exact ⟨vc,fun w=>by simp [execOp,h1],h2⟩
 case fieldAddr t x i=>
  obtain ⟨o,hi,he⟩:=bind_eq_some_iff.1 h;obtain ⟨vc,h1,h2⟩:=Rw (hρ x) hi he;exact ⟨vc,fun w=>by simp [execOp,h1],h2⟩
 case field t x i=>
  obtain ⟨o,hi,he⟩:=bind_eq_some_iff.1 h;obtain ⟨vc,h1,h2⟩:=Kb (hρ x) hi he;exact ⟨vc,fun w=>by simp [execOp,h1],h2⟩
 case indexAddr t x i=>
  obtain ⟨o,hi,he⟩:=bind_eq_some_iff.1 h;obtain ⟨vc,h1,h2⟩:=ON (hρ x) (hρ i) hi he;exact ⟨vc,fun w=>by simp [execOp,h1],h2⟩
 case index t x i=>
  obtain ⟨o,hi,he⟩:=bind_eq_some_iff.1 h;obtain ⟨vc,h1,h2⟩:=OP (hρ x) (hρ i) hi he;exact ⟨vc,fun w=>by simp [execOp,h1],h2⟩
 case extract x i=>
  obtain ⟨vc,h1,h2⟩:=Gu (P:=P) (hρ x) h;exact ⟨vc,fun w=>by simp [execOp,h1],h2⟩
 case typeAssert x xt a ok=>
  obtain ⟨z,hi,he⟩:=bind_eq_some_iff.1 h;obtain ⟨vc,h1,h2⟩:=HL (P:=P) (xt:=xt) (hρ x) hi he;exact ⟨vc,fun w=>by simp [execOp,h1],h2⟩
 case call c=>
  obtain ⟨yS,args,ts⟩:=c
  cases yS with
  |value f=>simp [eZ] at hk
  |invoke r m=>simp [eZ] at hk
  |builtin b=>
   cases b<;>simp only [eZ,reduceCtorEq] at hk
   all_goals
    have hx:dY w0 μ (args.toList.map ρ) (args.toList.map ρc):=dY.map _ fun a _=>hρ a;simp only at h;split at h
    ·rename_i x xs Rb;rw [Rb] at hx;obtain ⟨u,us,Rz,h1,h2⟩:=hx.cons_inv;obtain ⟨vc,h3,h4⟩:=OQ (P:=P) _ _ _ _ _ h1 h2 h;refine ⟨vc,fun w=>?_,h4⟩;have h5:=h3 w;simp at h5;simp [execOp,resolve,invoke,builtin,Builtin.max_,Builtin.min_,Rz,h5]
    ·cases h
end
end Go.AM
namespace Go.AM
open List Nat Bool Option
open Go Go.RowKit
variable {d:TypeDesc} {kv xv:Value} {t kt:TypeId} {gr:List MapEntry} {cs:List AV} {es:List Entry} {k v x:AV} {c:Nat}
def lM(P:Program)(ρ:Operand->AV)(h:Heap):Op->Option AV
 |.load t a=>(vA P t).bind fun i=>ag i (ρ a) h
 |.lookup t x i ok=>(qL P t).bind fun d=>dU d.1 d.2 ok (ρ x) (ρ i) h
 |.call c=>(match c.callee with
  |.builtin .len=>(match c.argTypes.toList,c.args.toList.map ρ with
   |t :: _,[x]=>(Ru P t).bind fun i=>bU i x h
   |_,_=>none)
  |_=>none)
 |_=>none
theorem p9{P:Program}{ρ:Operand->AV}{op:Op}(hk:fc op = .read)(h:Heap)(K:AV->Heap->Bool):gI op P ρ h K=af (lM P ρ h op) fun v=>K v h:=by
 cases op<;>simp only [fc,reduceCtorEq] at hk
 case load=>simp only [gI,ku,lM,g8]
 case lookup=>simp only [gI,HC,ku,lM,g8]
 case call c=>
  obtain ⟨yS,args,ts⟩:=c
  cases yS with
  |value f=>simp [eZ] at hk
  |invoke r m=>simp [eZ] at hk
  |builtin b=>
   cases b<;>simp only [eZ,reduceCtorEq] at hk;simp only [gI,sE,E7,J5,lM]
   cases h1:ts.toList with
   |nil=>rfl
   |cons t l=>cases h2:args.toList.map ρ with
    |nil=>rfl
    |cons x l2=>cases l2 with
     |nil=>simp only [ku,g8]
     |cons y l3=>rfl
section
variable {P:Program} {w0 w:World} {μ:Mu} {h:Heap} {ρ:Operand->AV} {ρc:Operand->Value}
theorem cell_of{vs:Array Value}{e:TypeId}{fr:Nat×Nat}(ho:w.heap[c]?=some (.cells vs e fr))(i:Nat):w.cell? ⟨c,i,none⟩=vs[i]?:=by
 simp [World.cell?,ho]
theorem Good.cells(hg:Good w0 μ h w){b:Nat}{k:Gt}(hk:μ b=some k)(ho:h.get b=some (.cells cs)) :
  ∀ (i:Nat) (x:AV),cs[i]?=some x->∃ v,w.cell? ⟨k.c,k.base+i,none⟩=some v/\VR w0 μ x v:=by
 obtain ⟨vs,e,fr,h1,h2,h3,h4,h5⟩:=hg.obj b k _ hk ho;intro i x hx;obtain ⟨v,a,b⟩:=h5 i x hx;exact ⟨v,by rw [cell_of h1];exact a,b⟩
theorem Good.Kh(hg:Good w0 μ h w){g o:Nat}{vs:List Value}(Ur:True)(hl:cs.length=vs.length)
  (hv:∀ (i:Nat) (v:Value),vs[i]?=some v->μ.cell g (o+i)=some v) (hr:∀ (i:Nat) (x:AV) (v:Value),cs[i]?=some x->vs[i]?=some v->VR w0 μ x v) :
  ∀ (i:Nat) (x:AV),cs[i]?=some x->∃ v,w.cell? ⟨g,o+i,none⟩=some v/\VR w0 μ x v:=by
 intro i x hx;obtain ⟨v,a,b⟩:=(dY.mk hl hr).get hx;have hc:=hv i v a;unfold Mu.cell at hc;obtain ⟨zs,hz,hi⟩:=bind_eq_some_iff.1 hc;obtain ⟨arr,e,fr,h1,h2⟩:=hg.yM g zs hz;refine ⟨v,?_,b⟩;rw [cell_of h1,<- hi,<- h2,Array.getElem?_toList]
theorem wj{base:Nat}(hc:∀ (i:Nat) (x:AV),cs[i]?=some x->∃ v,w.cell? ⟨c,base+i,none⟩=some v/\VR w0 μ x v) :
  ∀ (n off:Nat),off+n<=cs.length->∃ vs:List Value,vs.length=n/\(∀ (j:Nat) (v:Value),vs[j]?=some v->w.cell? ⟨c,base+off+j,none⟩=some v)/\dY w0 μ ((cs.drop off).take n) vs:=by
 intro n
 induction n with
 |zero=>intro off hle;exact ⟨[],rfl,by simp,by simpa using dY.nil⟩
 |succ n ih=>
  intro off hle;obtain ⟨vs,h1,h2,h3⟩:=ih (off+1) (by omega);have hx:cs[off]?=some (cs[off]'(by omega)):=eA (by omega);obtain ⟨v,hv,hr⟩:=hc off _ hx;refine ⟨v :: vs,by simp [h1],fun j u hj=>?_,?_⟩
  ·cases j with
   |zero=>simp at hj;subst hj;exact hv
   |succ j=>
    have:=h2 j u (by simpa using hj)
    rwa [show base+off+(j+1)=base+(off+1)+j by omega]
  ·rw [drop_eq_getElem_cons (by omega),take_succ_cons];exact .cons hr h3
theorem oX{r:Option Nat}(hr:vA P t=some r){base off:Nat}(hc:∀ (i:Nat) (x:AV),cs[i]?=some x->∃ v,w.cell? ⟨c,base+i,none⟩=some v/\VR w0 μ x v)
  (h:iX r cs off=some v):∃ vc,(loadVar t ⟨c,base+off,none⟩).run P w = .ok vc w/\VR w0 μ v vc:=by
 rcases B3 hr with ⟨n,rfl,h1,h2⟩|⟨rfl,h1⟩
 ·simp only [iX] at h;split at h
  ·rename_i hle;cases h;obtain ⟨vs,e1,e2,e3⟩:=wj hc n off hle;refine ⟨.agg vs.toArray,?_,e3.agg⟩;have:=run_loadCells_list (P:=P) w ⟨c,base+off,none⟩ vs (fun j u hj=>by rw [kI];exact e2 j u hj);rw [e1] at this;simp [loadVar,h1,h2,this]
  ·cases h
 ·simp only [iX] at h;obtain ⟨u,hu,hr⟩:=hc off v h;exact ⟨u,by simp [loadVar,h1,hu],hr⟩
theorem MT(hg:Good w0 μ h w){r:Option Nat}(hr:vA P t=some r)(hx:VR w0 μ x xv)(hl:ag r x h=some v) :
  ∃ vc,(Instr.loadAt t xv).run P w = .ok vc w/\VR w0 μ v vc:=by
 unfold ag at hl;split at hl
 ·rename_i b off;split at hl
  ·rename_i cs ho;cases hx;rename_i k hk;obtain ⟨vc,h1,h2⟩:=oX hr (hg.cells hk ho) hl;exact ⟨vc,by simp [Instr.loadAt,Instr.sureAddr,h1],h2⟩
  ·cases hl
 ·rename_i cs off;cases hx;rename_i g o vs Ur hv Ca vF;obtain ⟨vc,h1,h2⟩:=oX hr (hg.Kh Ur Ca hv vF) hl;exact ⟨vc,by simp [Instr.loadAt,Instr.sureAddr,h1],h2⟩
 ·cases hl
structure mS (w0:World) (μ:Mu) (es:List Entry) (gr:List MapEntry):Prop where
 len:gr.length=es.length
 rel:∀ (i:Nat) (k v:AV) (n:Nat),es[i]?=some (k,v,n)->∃ e,gr[i]?=some e/\VR w0 μ k e.key/\VR w0 μ v e.val/\e.born=n
theorem mS.cons_inv{n:Nat}(h:mS w0 μ ((k,v,n) :: es) gr) :
  ∃ e Eb,gr=e :: Eb/\VR w0 μ k e.key/\VR w0 μ v e.val/\e.born=n/\mS w0 μ es Eb:=by
 cases gr with
 |nil=>exact absurd h.len (by simp)
 |cons e gr=>
  obtain ⟨e',h1,h2,h3,h4⟩:=h.rel 0 k v n rfl;simp at h1;subst h1
  exact ⟨e,gr,rfl,h2,h3,h4,by have:=h.len;simpa using this,fun i k v n hi=>by
   have:=h.rel (i+1) k v n (by simpa using hi)
   simpa using this⟩
theorem mS.gN(h:mS w0 μ [] gr):gr = []:=eq_nil_of_length_eq_zero (by simpa using h.len)
theorem Good.map(hg:Good w0 μ h w){b:Nat}{k:Gt}(hk:μ b=some k){es:List Entry}{ck:Nat}(ho:h.get b=some (.map es ck)) :
  ∃ gr:Array MapEntry,w.heap[k.c]?=some (.map gr ck)/\mS w0 μ es gr.toList:=by
 obtain ⟨gr,h1,h2,h3⟩:=hg.obj b k _ hk ho;exact ⟨gr,h1,by simpa using h2,fun i k v n hi=>by simpa using h3 i k v n hi⟩
theorem MU(hk:VR w0 μ k kv)(h:pX d k=true) :
  (∃ j i n,d = .int j/\k = .int i n/\kv = .int i n)\/(∃ s:ByteArray,d = .string/\k = .str s.data.toList/\kv = .string s)\/(∃ b,d = .bool/\k = .bool b/\kv = .bool b):=by
 unfold pX at h;split at h
 ·rw [hk.gd];exact .inl ⟨_,_,_,rfl,rfl,rfl⟩
 ·obtain ⟨s,rfl,rfl⟩:=hk.gO;exact .inr (.inl ⟨s,rfl,rfl,rfl⟩)
 ·rw [hk.iz];exact .inr (.inr ⟨_,rfl,rfl,rfl⟩)
 ·cases h
theorem run_checkKey(hd:P.underlying kt=some d)(hk:VR w0 μ k kv)(h:pX d k=true)(e:Bool)(n:Nat) :
  (Instr.checkKey e (n+1) kt kv).run P w = .ok () w:=by
 rcases MU hk h with ⟨j,i,m,rfl,rfl,rfl⟩|⟨s,rfl,rfl,rfl⟩|⟨b,rfl,rfl,rfl⟩<;>simp [Instr.checkKey,run_underlying hd]
theorem Fa(hk:VR w0 μ k kv)(hx:VR w0 μ x xv){b:Bool}(h:vB d k x=some b):Instr.sameNow d kv xv=some b:=by
 unfold vB at h;split at h
 ·rename_i k1 a k2 b';rw [hk.gd,hx.gd];simpa [Instr.sameNow] using h
 ·obtain ⟨s,rfl,rfl⟩:=hk.gO;obtain ⟨u,rfl,rfl⟩:=hx.gO;cases h;simp only [Instr.sameNow,Option.some.injEq];rw [beq_toListBytes,ByteArray.toList_eq,ByteArray.toList_eq]
 ·rw [hk.iz,hx.iz];cases h;rfl
 ·cases h
theorem lB(hk:VR w0 μ k kv):∀ (es:List Entry) (gr:List MapEntry) (i:Nat) (r:Option (Nat×AV)),mS w0 μ es gr->jB d k es i=some r ->
  ∃ r',Instr.findNow d kv gr i=some r'/\((r=none/\r'=none)\/∃ j v vc,r=some (j,v)/\r'=some (j,vc)/\VR w0 μ v vc/\i<=j/\∃ e,es[j-i]?=some e/\e.2.1=v/\vB d k e.1=some true):=by
 intro es
 induction es with
 |nil=>intro gr i r he h;obtain rfl:=he.gN;cases h;exact ⟨none,rfl,.inl ⟨rfl,rfl⟩⟩
 |cons e es ih=>
  intro gr i r he h;obtain ⟨x,v,n⟩:=e;obtain ⟨c,Eb,rfl,h1,h2,h3,h4⟩:=he.cons_inv;simp only [jB] at h;split at h
  ·rename_i hb;cases h;refine ⟨some (i,c.val),?_,.inr ⟨i,v,c.val,rfl,rfl,h2,dM _,(x,v,n),by simp,rfl,hb⟩⟩;simp [Instr.findNow,Fa hk h1 hb]
  ·rename_i hb;obtain ⟨r',h5,h6⟩:=ih Eb (i+1) r h4 h;refine ⟨r',by simp [Instr.findNow,Fa hk h1 hb,h5],?_⟩;rcases h6 with h6|⟨j,v',vc,a,b,c',hij,e',XU,E9⟩
   ·exact .inl h6
   ·refine .inr ⟨j,v',vc,a,b,c',by omega,e',?_,E9⟩;rw [show j-i=(j-(i+1))+1 by omega];simpa using XU
  ·cases h
theorem run_findKey(hd:P.underlying kt=some d){r:Option (Nat×Value)}(h:Instr.findNow d kv gr 0=some r):(Instr.findKey kt kv gr).run P w = .ok r w:=by
 simp [Instr.findKey,run_underlying hd,h]
theorem uu{o:TypeDesc×TypeId}(h:HB P t=some o):∃ kt,P.underlying t=some (.map kt o.2)/\P.underlying kt=some o.1:=by
 unfold HB at h;split at h
 ·rename_i k e hu;split at h
  ·rename_i d hd;cases h;exact ⟨k,hu,hd⟩
  ·cases h
 ·cases h
theorem jK{r:Option (Nat×AV)}(h:pY d k es=some r):pX d k=true/\jB d k es 0=some r:=by
 unfold pY at h;split at h
 ·exact ⟨‹_›,h⟩
 ·cases h
theorem kJ{inf:TypeInfo}{zv:Value}(hi:P.info? t=some inf)(hz:inf.zero=some zv)(w:World):(zeroValue t).run P w = .ok zv w:=by simp [zeroValue,typeInfo,hi,hz]
theorem zY{et:TypeId}(hu:P.underlying t=some (.map kt et))(hd:P.underlying kt=some d){z:AV}(hz:zV P et=some z)(hk:VR w0 μ k kv)
  {gr:Array MapEntry} (he:mS w0 μ es gr.toList) (RA:(xv = .map none/\gr = #[])\/∃ r ck,xv = .map (some r)/\w.heap[r]?=some (.map gr ck)) {ok:Bool}
  (h:(match pY d k es with
   |some (some (_,v))=>some (if ok then .tuple [v,.bool true] else v)
   |some none=>some (if ok then .tuple [z,.bool false] else z)
   |none=>none)=some v):∃ vc,(Instr.lookup t xv kv ok).run P w = .ok vc w/\VR w0 μ v vc:=by
 obtain ⟨inf,zv,iO,HK,rfl⟩:=mz hz;have hz0:=kJ (P:=P) iO HK w
 have step:∀ r',Instr.findNow d kv gr.toList 0=some r'->pX d k=true ->
   (Instr.lookup t xv kv ok).run P w=(match r' with
    |some (_,u)=>.ok (if ok then .tuple #[u,.bool true] else u) w
    |none=>.ok (if ok then .tuple #[zv,.bool false] else zv) w):=by
  intro r' vF Gv;have XV:=fun b=>run_checkKey (w:=w) hd hk Gv b 9999;have LQ:=run_findKey (w:=w) hd vF;have uZ:∀ b,(Instr.checkKey b 10000 kt kv).run P w = .ok () w:=XV;rcases RA with ⟨rfl,rfl⟩|⟨r,ck,rfl,ho⟩
  ·simp only [Instr.lookup,Sem.run_bind,run_underlying hu,Result.andThen_ok,Sem.run_pure,uZ,LQ]
   cases r' with
   |none=>simp [hz0]
   |some p=>obtain ⟨j,u⟩:=p;simp
  ·have jE:(getObj r).run P w = .ok (.map gr ck) w:=by simp [getObj,Sem.run,ho]
   simp only [Instr.lookup,Sem.run_bind,run_underlying hu,Result.andThen_ok,Sem.run_pure,jE,uZ,LQ]
   cases r' with
   |none=>simp [hz0]
   |some p=>obtain ⟨j,u⟩:=p;simp
 split at h
 ·rename_i p j v' hf;obtain ⟨Gv,HN⟩:=jK hf;obtain ⟨r',h1,h2⟩:=lB hk es gr.toList 0 _ he HN;rcases h2 with ⟨a,_⟩|⟨j',Vr,vc,a,rfl,h3,_⟩
  ·cases a
  ·cases a;refine ⟨_,step _ h1 Gv,?_⟩;cases h;cases ok
   ·exact h3
   ·exact dY.tuple (.cons h3 (.cons (.bool true) .nil))
 ·rename_i hf;obtain ⟨Gv,HN⟩:=jK hf;obtain ⟨r',h1,h2⟩:=lB hk es gr.toList 0 _ he HN;rcases h2 with ⟨_,rfl⟩|⟨j',Vr,vc,a,_⟩
  ·refine ⟨_,step _ h1 Gv,?_⟩;cases h;cases ok
   ·exact VR.ofConst zv
   ·exact dY.tuple (.cons (VR.ofConst zv) (.cons (.bool false) .nil))
  ·cases a
 ·cases h
theorem HO(hg:Good w0 μ h w){o:TypeDesc×AV}(hi:qL P t=some o){m:AV}{mv:Value}(hm:VR w0 μ m mv)(hk:VR w0 μ k kv){ok:Bool}
  (hl:dU o.1 o.2 ok m k h=some v):∃ vc,(Instr.lookup t mv kv ok).run P w = .ok vc w/\VR w0 μ v vc:=by
 unfold qL at hi;split at hi
 ·rename_i d e hmt;split at hi
  ·rename_i z hz;cases hi;obtain ⟨kt,hu,hd⟩:=uu hmt;unfold dU lJ at hl;split at hl
   ·cases hl
   ·rename_i es Us;split at Us
    ·cases Us;cases hm;exact zY hu hd hz hk (es:=[]) (gr:=#[]) ⟨rfl,by simp⟩ (.inl ⟨rfl,rfl⟩) hl
    ·rename_i b;split at Us
     ·rename_i xA ck ho;cases Us;cases hm;rename_i kk hkk;obtain ⟨gr,h1,h2⟩:=hg.map hkk ho;exact zY hu hd hz hk h2 (.inr ⟨_,ck,rfl,h1⟩) hl
     ·cases Us
    ·cases Us
  ·cases hi
 ·cases hi
theorem OS(hg:Good w0 μ h w){ty:TypeId}{ts:List TypeId}{i:Vh}(hi:Ru P t=some i)(hx:VR w0 μ x xv)(hl:bU i x h=some v) :
  ∃ vc,(Builtin.len_ (t :: ts).toArray ty #[xv]).run P w = .ok vc w/\VR w0 μ v vc:=by
 unfold Ru at hi;split at hi
 ·rename_i hu;cases hi;cases x<;>simp only [bU,reduceCtorEq,Option.some.injEq] at hl;subst hl;obtain ⟨s,rfl,rfl⟩:=hx.gO;refine ⟨.int .i64 s.size,by simp [Builtin.len_,run_underlying hu,goInt],?_⟩;have:s.data.toList.length=s.size:=by rw [Array.length_toList];rfl
  rw [this];exact .int _ _
 ·rename_i e hu;cases hi;cases x<;>simp only [bU,reduceCtorEq,Option.some.injEq] at hl<;>subst hl<;>cases hx<;>exact ⟨.int .i64 _,by simp [Builtin.len_,run_underlying hu,goInt],.int _ _⟩
 ·rename_i k e hu;cases hi;cases x<;>simp only [bU,reduceCtorEq,Option.some.injEq] at hl
  ·subst hl;cases hx;exact ⟨.int .i64 0,by simp [Builtin.len_,run_underlying hu,goInt],.int _ _⟩
  ·split at hl
   ·rename_i es ck ho;cases hl;cases hx;rename_i kk hkk;obtain ⟨gr,h1,h2⟩:=hg.map hkk ho;refine ⟨.int .i64 es.length,?_,.int _ _⟩;have:=h2.len;simp at this;simp [Builtin.len_,run_underlying hu,goInt,getObj,Sem.run,h1,this]
   ·cases hl
 ·rename_i n e hu;cases hi;simp only [bU,Option.some.injEq] at hl;subst hl;exact ⟨.int .i64 n,by simp [Builtin.len_,run_underlying hu,goInt],.int _ _⟩
 ·cases hi
theorem HP(hg:Good w0 μ h w)(hρ:∀ x,VR w0 μ (ρ x) (ρc x)){o:Oper}(hk:fc o.op = .read)(hv:lM P ρ h o.op=some v) :
  ∃ vc,(execOp ρc o).run P w = .ok (.value vc) w/\VR w0 μ v vc:=by
 obtain ⟨dst,op,type,pos,after,guard⟩:=o;cases op<;>simp only [fc,reduceCtorEq] at hk<;>simp only [lM] at hv
 case load t a=>
  obtain ⟨i,hi,he⟩:=bind_eq_some_iff.1 hv;obtain ⟨vc,h1,h2⟩:=MT hg hi (hρ a) he;exact ⟨vc,by simp [execOp,h1],h2⟩
 case lookup t x i ok=>
  obtain ⟨d,hi,he⟩:=bind_eq_some_iff.1 hv;obtain ⟨vc,h1,h2⟩:=HO hg hi (hρ x) (hρ i) he;exact ⟨vc,by simp [execOp,h1],h2⟩
 case call c=>
  obtain ⟨yS,args,ts⟩:=c
  cases yS with
  |value f=>simp [eZ] at hk
  |invoke r m=>simp [eZ] at hk
  |builtin b=>
   cases b<;>simp only [eZ,reduceCtorEq] at hk;simp only at hv;split at hv
   ·rename_i t l x e1 e2;obtain ⟨i,hi,he⟩:=bind_eq_some_iff.1 hv;have hx:dY w0 μ (args.toList.map ρ) (args.toList.map ρc):=dY.map _ fun a _=>hρ a;rw [e2] at hx;obtain ⟨u,us,Rz,h1,h2⟩:=hx.cons_inv;obtain rfl:=h2.gN;obtain ⟨vc,h3,h4⟩:=OS (ty:=type) (ts:=l) hg hi h1 he;refine ⟨vc,?_,h4⟩;have ea:args.map ρc = #[u]:=by apply Array.ext';simpa using Rz
    have et:ts=(t :: l).toArray:=(by apply Array.ext';simpa using e1);simp only [execOp,resolve,invoke,builtin,Sem.run_bind,Sem.run_pure,Result.andThen_ok,ea,et,h3]
   ·cases hv
end
end Go.AM
namespace Go.AM
open List Nat Bool Option
open Go Go.RowKit
inductive AK where
 |ptr
 |slice (n sz:Nat)
 |map
def AK.val:AK->Nat->AV
 |.ptr,b=>.ptr b 0
 |.slice n sz,b=>.slice b 0 n sz
 |.map,b=>.map b
def om(P:Program)(ρ:Operand->AV):Op->Option (AK×jV)
 |.alloc t=>(mq P t).bind fun z=>some (.ptr,.cells z)
 |.box _ x=>(eX (ρ x)).bind fun cs=>some (.ptr,.cells cs)
 |.buildSlice t n ps=>(Rs P t n (ps.toList.map (·.1))).bind fun i=>(fS i.2.1 i.2.2 (ps.toList.map fun p=>ρ p.2)).bind fun cs=>some (.slice n i.1,.cells cs)
 |.makeMap _ r=>(match r with|none=>some (.map,.map [] 0)|some _=>none)
 |.makeSlice t l c=>(BS P t).bind fun i=>(yO i.2.1 (ρ l) (ρ c)).bind fun n=>some (.slice n i.1,.cells (ja i.2.2 n))
 |_=>none
theorem qO{P:Program}{ρ:Operand->AV}{op:Op}(hk:fc op = .alloc)(h:Heap)(K:AV->Heap->Bool) :
  gI op P ρ h K=af (om P ρ op) fun p=>K (p.1.val h.next) (h.alloc p.2):=by
 cases op<;>simp only [fc,reduceCtorEq] at hk
 case alloc t=>simp only [gI,LJ,om];cases mq P t<;>rfl
 case box t x=>simp only [gI,Up,om];cases eX (ρ x)<;>rfl
 case buildSlice t n ps=>
  simp only [gI,qM,om]
  cases Rs P t n (ps.toList.map (·.1)) with
  |none=>rfl
  |some i=>simp only [af,bind_some];cases fS i.2.1 i.2.2 (ps.toList.map fun p=>ρ p.2)<;>rfl
 case makeMap t r=>cases r<;>rfl
 case makeSlice t l c=>
  simp only [gI,zX,om]
  cases BS P t with
  |none=>rfl
  |some i=>
   simp only [af,bind_some,vE,gz];cases yO i.2.1 (ρ l) (ρ c)<;>rfl
 case call c=>
  obtain ⟨yS,args,ts⟩:=c
  cases yS with
  |value f=>simp [eZ] at hk
  |invoke r m=>simp [eZ] at hk
  |builtin b=>cases b<;>simp [eZ] at hk
section
variable {P:Program} {w0:World} {μ:Mu} {ρ:Operand->AV} {ρc:Operand->Value}
structure XW (P:Program) (w0:World) (μ:Mu) (ρc:Operand->Value) (o:Oper) (k:AK) (ob:jV) (O:Obj) (n:Nat) (f:Nat->Value):Prop where
 run:∀ w,(execOp ρc o).run P w = .ok (.value (f w.heap.size)) (w.alloc O)
 obj:∀ c,nB w0 μ ob ⟨c,0,n⟩ (some O)
 val:∀ (μ':Mu) b c,μ' b=some ⟨c,0,n⟩->VR w0 μ' (k.val b) (f c)
theorem yU{cs:List AV}{vs:Array Value}(h:dY w0 μ cs vs.toList)(e:TypeId)(c:Nat):nB w0 μ (.cells cs) ⟨c,0,vs.size⟩ (some (.cells vs e (0,0))):=by
 refine ⟨vs,e,(0,0),rfl,rfl,?_,.inl (dM _),fun i x hx=>?_⟩
 ·have:=h.len;simp at this;simp [this]
 ·obtain ⟨v,a,b⟩:=h.get hx;exact ⟨v,by simpa using a,b⟩
theorem LR(n:Nat):∀ (μ':Mu) b c,μ' b=some ⟨c,0,n⟩->VR w0 μ' (AK.ptr.val b) (.pointer (some ⟨c,0,none⟩)):=fun μ' b c h=>.ptr b 0 ⟨c,0,n⟩ h
theorem rM{t:TypeId}{z:List AV}(h:mq P t=some z):∃ inf zv,P.info? t=some inf/\inf.zero=some zv/\dY w0 μ z zv.cells.toList/\bw z=true:=by
 unfold mq at h;split at h
 ·rename_i zz hz;split at h
  ·rename_i uY;cases h;obtain ⟨inf,zv,h1,h2,rfl⟩:=mz hz;exact ⟨inf,zv,h1,h2,(VR.ofConst zv).cells uY,uY⟩
  ·cases h
 ·cases h
theorem qQ{t:TypeId}{i:Nat×Nat×List AV}(h:BS P t=some i) :
  ∃ e inf zv,P.underlying t=some (.slice e)/\P.info? e=some inf/\inf.size=i.1/\inf.bytes=i.2.1/\0<i.1/\0<i.2.1/\inf.zero=some zv/\dY w0 μ i.2.2 zv.cells.toList/\i.2.2.length=i.1:=by
 unfold BS at h;split at h
 ·rename_i s b e h1 h2;split at h
  ·rename_i z hz;split at h
   ·rename_i hl;cases h;obtain ⟨e',inf,hu,iO,hs,hb,hp,B6⟩:=wg h1;have:=B5 h2;rw [hu] at this;cases this;obtain ⟨ahV,zv,h3,h4,h5,_⟩:=rM (w0:=w0) (μ:=μ) hz;rw [iO] at h3;cases h3;exact ⟨e,inf,zv,hu,iO,hs,hb,hp,B6,h4,h5,hl⟩
   ·cases h
  ·cases h
 ·cases h
theorem jL(z:List AV):∀ n,(ja z n).length=n*z.length
 |0=>by simp [ja]
 |n+1=>by simp [ja,jL z n,Nat.add_mul,Nat.add_comm]
theorem zZ{z:List AV}(hz:0<z.length):∀ (n i:Nat),i<n*z.length->(ja z n)[i]?=z[i%z.length]?
 |0,i,h=>by omega
 |n+1,i,h=>by
  simp only [ja];by_cases hi:i<z.length
  ·rw [getElem?_append_left hi,mod_eq_of_lt hi]
  ·have h':(n+1)*z.length=n*z.length+z.length:=by rw [Nat.add_mul,Nat.one_mul]
   rw [getElem?_append_right (by omega),zZ hz n _ (by omega)];rw [<- mod_eq_sub_mod (by omega)]
theorem HQ{z:List AV}{zs:Array Value}(h:dY w0 μ z zs.toList)(hz:0<z.length)(n N:Nat)(hN:n*z.length<=N) :
  ∀ (i:Nat) (x:AV),(ja z n)[i]?=some x->∃ v,(madeCells zs N)[i]?=some v/\VR w0 μ x v:=by
 intro i x hx;have hi:i<n*z.length:=by have:=(kg.1 hx).1;rwa [jL] at this
 rw [zZ hz n i hi] at hx;obtain ⟨v,hv,hr⟩:=h.get hx;have hs:zs.size=z.length:=by have:=h.len;simp at this;exact this.symm
 refine ⟨v,?_,hr⟩;have hlt:i%zs.size<zs.size:=mod_lt _ (by omega);simp only [madeCells];rw [Array.getElem?_map,Array.getElem?_range];rw [if_pos (by omega)];simp only [map_some,Option.some.injEq];rw [<- hs] at hv;have:zs[i%zs.size]?=some v:=by simpa using hv
 rw [getElem!_def,this]
theorem MV{z:List AV}{zs:Array Value}(h:dY w0 μ z zs.toList)(hz:0<z.length)(n:Nat):dY w0 μ (ja z n) (madeCells zs (n*z.length)).toList:=by
 refine ⟨by simp [jL,size_madeCells],fun i x v a b=>?_⟩;obtain ⟨u,hu,hr⟩:=HQ h hz n (n*z.length) (dM _) i x a;have:(madeCells zs (n*z.length))[i]?=some v:=by simpa using b
 rw [this] at hu;cases hu;exact hr
theorem Fb(hρ:∀ x,VR w0 μ (ρ x) (ρc x)){o:Oper}(hk:fc o.op = .alloc){k:AK}{ob:jV}(hv:om P ρ o.op=some (k,ob)) :
  ∃ O n f,XW P w0 μ ρc o k ob O n f:=by
 obtain ⟨dst,op,type,pos,after,guard⟩:=o;cases op<;>simp only [fc,reduceCtorEq] at hk<;>simp only [om] at hv
 case alloc t=>
  obtain ⟨z,hz,he⟩:=bind_eq_some_iff.1 hv;cases he;obtain ⟨inf,zv,h1,h2,h3,_⟩:=rM (w0:=w0) (μ:=μ) hz;refine ⟨.cells zv.cells t,zv.cells.size,fun c=>.pointer (some ⟨c,0,none⟩),fun w=>?_,yU h3 t,LR _⟩;simp [execOp,Instr.alloc,kJ (P:=P) h1 h2,newVar,newRow]
 case box t x=>
  obtain ⟨cs,hb,he⟩:=bind_eq_some_iff.1 hv;cases he;unfold eX at hb;split at hb
  ·rename_i uY;cases hb;refine ⟨.cells (ρc x).cells t,(ρc x).cells.size,fun c=>.pointer (some ⟨c,0,none⟩),fun w=>?_,yU ((hρ x).cells uY) t,LR _⟩;simp [execOp,Instr.box,newVar,newRow]
  ·cases hb
 case buildSlice t n ps=>
  obtain ⟨i,hi,he⟩:=bind_eq_some_iff.1 hv;obtain ⟨cs,hcs,he⟩:=bind_eq_some_iff.1 he;cases he;unfold Rs at hi;split at hi
  ·rename_i s b z hm;split at hi
   ·rename_i hle;cases hi;obtain ⟨e,inf,zv,hu,iO,hs,hb,hp,B6,HK,hz,RB⟩:=qQ (w0:=w0) (μ:=μ) hm;simp only at hs hb hp B6 hz RB;unfold fS at hcs;split at hcs
    ·rename_i ou hf;split at hcs
     ·rename_i uY;cases hcs;have hx:dY w0 μ (ps.toList.map fun p=>ρ p.2) (ps.toList.map fun p=>ρc p.2):=dY.map _ fun a _=>hρ a.2;have hzz:=MV hz (by omega) n
      obtain ⟨kz,h1,h2⟩:=B9 (w0:=w0) (μ:=μ) (fun i=>some (i*s,s)) (ps.toList.map (·.1)) ((ps.toList.map (·.1)).map fun i=>(i*s,s)) _ _ _ cs (madeCells zv.cells (n*z.length))
       (by simp) (fun k i p a b=>by rw [getElem?_map,a] at b;simpa using b) hx hzz (by simpa using hf)
      rw [sJ] at h1;have hsz:zv.cells.size=s:=by have:=hz.len;simp at this;omega
      refine ⟨.cells kz e,kz.size,fun c=>.slice (some ⟨c,0,none⟩) n n,fun w=>?_,yU h2 e,fun μ' b c hb=>?_⟩
      ·have iG:∀ w,(sizeOf e).run P w = .ok s w:=fun w=>by simp [sizeOf,typeInfo,iO,hs]
       have hz0:∀ w,(zeroValue e).run P w = .ok zv w:=kJ (P:=P) iO HK;have OT:¬ (16777216<n*s):=by omega
       have Ut:Instr.fill (fun i=>some (i*s,s)) ((Array.range (n*s)).map (fun x=>zv.cells[x%zv.cells.size]!)) (ps.toList.map fun p=>(p.1,ρc p.2))=some kz:=by
        rw [RB] at h1;exact h1
       by_cases hn:n*s=0
       ·have DZ:n=0:=(by rcases mul_eq_zero.1 hn with h|h<;>omega);subst DZ;have adu:Instr.fill (fun i=>some (i*s,s)) #[] (ps.toList.map fun p=>(p.1,ρc p.2))=some kz:=by simpa [Array.range_zero'] using Ut
        simp [execOp,Instr.buildSlice,run_underlying hu,iG,adu,newRow,Array.range_zero']
       ·simp [execOp,Instr.buildSlice,run_underlying hu,iG,hz0,OT,hn,Ut,newRow]
      ·have hlen:cs.length=n*s:=by
        have:=h2.len
        have hfl:∀ (ps:List (Nat×Nat)) (vs:List AV) (zs cs:List AV),og zs ps vs=some cs->cs.length=zs.length:=by
         intro ps
         induction ps with
         |nil=>intro vs zs cs h;cases vs<;>simp [og] at h;rw [h]
         |cons p ps ih=>
          intro vs zs cs h;obtain ⟨off,m⟩:=p
          cases vs with
          |nil=>simp [og] at h
          |cons v vs=>
           simp only [og] at h;split at h
           ·rw [ih _ _ _ h,fG]
           ·cases h
        rw [hfl _ _ _ _ hf,jL,RB]
       have adv:kz.size=n*s:=(by have:=h2.len;simp at this;omega);exact .slice b 0 n s n _ _ hb (dM _) (fun _=>⟨rfl,by simp [adv]⟩)
     ·cases hcs
    ·cases hcs
   ·cases hi
  ·cases hi
 case makeMap t r=>
  cases r with
  |some x=>cases hv
  |none=>
   cases hv;refine ⟨.map #[] 0,0,fun c=>.map (some c),fun w=>?_,fun c=>⟨#[],rfl,rfl,by simp⟩,fun μ' b c h=>.map b ⟨c,0,0⟩ h⟩;simp [execOp,Instr.makeMap]
 case makeSlice t l c=>
  obtain ⟨i,hi,he⟩:=bind_eq_some_iff.1 hv;obtain ⟨n,hn,he⟩:=bind_eq_some_iff.1 he;cases he;obtain ⟨e,inf,zv,hu,iO,hs,hb,hp,B6,HK,hz,RB⟩:=qQ (w0:=w0) (μ:=μ) hi;have hl:=hρ l;have hc:=hρ c;unfold yO at hn;split at hn
  ·rename_i lv cv e1 e2;rw [e1] at hl;rw [e2] at hc;split at hn
   ·rename_i Cb;simp only [and_eq_true,decide_eq_true_eq] at Cb;cases hn;have Vs:(inf.bytes:Int)*cv<=281474976710656:=by rw [hb];omega
    have adw:cv<=9223372036854775807:=by
     have h1:(1:Int)<=(i.2.1:Int):=by omega
     have h2:cv<=(i.2.1:Int)*cv:=by
      have:=Int.mul_le_mul_of_nonneg_right h1 (show 0<=cv by omega);simpa using this
     omega
    have hrun:=fun w=>run_make (P:=P) w t e inf zv hu iO HK .i64 .i64 lv cv Cb.1.1 Cb.1.2 Vs adw;refine ⟨.cells (madeCells zv.cells (cv.toNat*inf.size)) e,cv.toNat*inf.size,fun c=>.slice (some ⟨c,0,none⟩) lv.toNat cv.toNat,fun w=>?_,fun c=>?_,fun μ' b c h=>?_⟩
    ·simp [execOp,hl.gd,hc.gd,hrun]
    ·refine ⟨_,e,(0,0),rfl,by simp [size_madeCells],?_,.inl (dM _),?_⟩
     ·simp only [jL,RB,hs,Nat.zero_add];exact mul_le_mul_right _ (by omega)
     ·intro i' x hx;rw [Nat.zero_add];exact HQ hz (by omega) lv.toNat _ (by rw [RB,hs];exact mul_le_mul_right _ (by omega)) i' x hx
    ·refine .slice b 0 _ _ _ _ _ h (by omega) (fun _=>⟨rfl,?_⟩);simp [hs]
   ·cases hn
  ·cases hn
 case call c=>
  obtain ⟨yS,args,ts⟩:=c
  cases yS with
  |value f=>simp [eZ] at hk
  |invoke r m=>simp [eZ] at hk
  |builtin b=>cases b<;>simp [eZ] at hk
end
end Go.AM
namespace Go.AM
open List Nat Bool Option
open Go Go.RowKit
variable {xv:Value} {t:TypeId} {c n:Nat} {x:AV}
section
variable {P:Program} {w0 w:World} {μ:Mu} {h:Heap} {ρ:Operand->AV} {ρc:Operand->Value}
theorem qb(w:World)(c:Nat)(O O':Obj):iH (iH w c O) c O'=iH w c O':=by simp [iH]
theorem xC{O:Obj}(hO:w.heap[c]?=some O):iH w c O=w:=by
 have:w.heap.setIfInBounds c O=w.heap:=by
  apply Array.ext_getElem?;intro i;rw [Array.getElem?_setIfInBounds];split
  ·rename_i e;subst e;rw [hO];split
   ·rfl
   ·rename_i hn;have:=(Array.getElem?_eq_some_iff.1 hO).1;omega
  ·rfl
 simp [iH,this]
theorem setCell_eq{o:Nat}{vs:Array Value}{e:TypeId}{fr:Nat×Nat}(hO:w.heap[c]?=some (.cells vs e fr))(v:Value) :
  w.setCell ⟨c,o,none⟩ v=iH w c (.cells (vs.setIfInBounds o v) e fr):=by
 have:w.heap.modify c (fun|.cells c elem frozen=>.cells (if (none:Option Nat).isSome then c else c.setIfInBounds o v) elem frozen|o=>o)=w.heap.setIfInBounds c (.cells (vs.setIfInBounds o v) e fr):=by
  apply Array.ext_getElem?;intro i;rw [Array.getElem?_setIfInBounds,Array.getElem?_modify];split
  ·rename_i e';subst e';have:=(Array.getElem?_eq_some_iff.1 hO).1;rw [if_pos this,hO];simp
  ·rfl
 simp only [World.setCell,iH];exact congrArg (fun x=>({ w with heap:=x }:World)) this
theorem nC(c o:Nat)(e:TypeId)(fr:Nat×Nat):∀ (us:List Value) (i:Nat) (vs:Array Value) (w:World),w.heap[c]?=some (.cells vs e fr)->(fr.2<=fr.1\/(uh=true/\vs.size<=fr.1))->o+i+us.length<=vs.size->(∀ v ∈ us,v.oneCell'=true) ->
  (storeCells ⟨c,o,none⟩ us i).run P w = .ok () (iH w c (.cells (ei vs.toList (o+i) us).toArray e fr))
 |[],i,vs,w,hO,hf,hl,h1=>by simp [storeCells,ei,xC hO]
 |u :: us,i,vs,w,hO,hf,hl,h1=>by
  simp only [length_cons] at hl
  have iG:(store ((⟨c,o,none⟩:Addr).add i) u).run P w = .ok () (iH w c (.cells (vs.setIfInBounds (o+i) u) e fr)):=by
   rw [kI,run_store P w _ u _ (h1 u (by simp))];have hc:w.cell? ⟨c,o+i,none⟩=some (vs[o+i]'(by omega)):=by rw [cell_of hO];simp [show o+i<vs.size by omega]
   have hz:w.frozen? ⟨c,o+i,none⟩=false:=by
    simp only [World.frozen?,hO];rcases hf with h|h<;>simp<;>omega
   rw [hc];simp only [hz,setCell_eq hO,false_eq_true,if_false]
  have hO':(iH w c (.cells (vs.setIfInBounds (o+i) u) e fr)).heap[c]?=some (.cells (vs.setIfInBounds (o+i) u) e fr):=lu (Array.getElem?_eq_some_iff.1 hO).1 _;have ih:=nC c o e fr us (i+1) _ _ hO' (by simpa using hf) (by simp;omega) (fun v hv=>h1 v (by simp [hv]));simp only [storeCells,Sem.run_bind,iG,Result.andThen_ok,ih,qb,ei];simp [Nat.add_assoc]
theorem gW{α:Type}:∀ (us cs:List α) (off j:Nat),j<us.length->off+us.length<=cs.length->(ei cs off us)[off+j]?=us[j]?
 |[],cs,off,j,h,hl=>by simp at h
 |u :: us,cs,off,j,h,hl=>by
  simp only [length_cons] at h hl;simp only [ei]
  cases j with
  |zero=>
   have:∀ (us cs:List α) (o i:Nat),i<o->(ei cs o us)[i]?=cs[i]?:=by
    intro us
    induction us with
    |nil=>intros;rfl
    |cons u us ih=>intro cs o i hi;simp only [ei];rw [ih _ _ _ (by omega),getElem?_set_ne (by omega)]
   rw [this _ _ _ _ (by omega)];simp [show off<cs.length by omega]
  |succ j=>
   have:=gW us (cs.set off u) (off+1) j (by omega) (by simp;omega);rw [show off+(j+1)=off+1+j by omega,this];simp
theorem eG{α:Type}:∀ (us cs:List α) (off i:Nat),i<off\/off+us.length<=i->(ei cs off us)[i]?=cs[i]?
 |[],cs,off,i,h=>rfl
 |u :: us,cs,off,i,h=>by
  simp only [length_cons] at h;simp only [ei];rw [eG us _ _ _ (by omega),getElem?_set_ne (by omega)]
theorem LS{cs:List AV}{k:Gt}{ob:Option Obj}(ho:nB w0 μ (.cells cs) k ob){xs:List AV}{us:List Value}(hx:dY w0 μ xs us)(off:Nat)(hl:off+xs.length<=cs.length) :
  ∃ vs e fr,ob=some (.cells vs e fr)/\vs.size=k.size/\(fr.2<=fr.1\/(uh=true/\vs.size<=fr.1))/\k.base+cs.length<=k.size /\
   nB w0 μ (.cells (ei cs off xs)) k (some (.cells (ei vs.toList (k.base+off) us).toArray e fr)):=by
 obtain ⟨vs,e,fr,h1,h2,h3,h4,h5⟩:=ho;refine ⟨vs,e,fr,h1,h2,by rw [h2];exact h4,h3,(ei vs.toList (k.base+off) us).toArray,e,fr,rfl,by simp [fG,h2],by rw [fG];exact h3,h4,fun i x hi=>?_⟩;have hul:us.length=xs.length:=hx.len.symm;by_cases hin:off<=i/\i<off+xs.length
 ·obtain ⟨j,rfl⟩:∃ j,i=off+j:=⟨i-off,by omega⟩
  rw [gW _ _ _ _ (by omega) hl] at hi;obtain ⟨v,hv,hr⟩:=hx.get hi;refine ⟨v,?_,hr⟩;have:=gW us vs.toList (k.base+off) j (by omega) (by simp [h2];omega);rw [<- Nat.add_assoc];simp [this,hv]
 ·rw [eG _ _ _ _ (by omega)] at hi;obtain ⟨v,hv,hr⟩:=h5 i x hi;refine ⟨v,?_,hr⟩;have:=eG us vs.toList (k.base+off) (k.base+i) (by omega);simp [this,hv]
def Left(P:Program)(w0:World)(μ:Mu)(h:Heap)(w:World)(K:AV->Heap->Bool)(r:Result Next):Prop:=
 ∃ v h' vc w' μ',K v h'=true/\(r = .ok (.value vc) w'\/(vc=undef/\r = .ok .skip w'))/\VR w0 μ' v vc/\Good w0 μ' h' w'/\Ext μ h w μ' h' w'
theorem MW(hg:Good w0 μ h w)(hn:nX P t=some n){v:AV}{vv:Value}(hx:VR w0 μ x xv)(hv:VR w0 μ v vv){h':Heap}(hs:aY n x v h=some h') :
  ∃ w',(Instr.storeAt t xv vv).run P w = .ok () w'/\Good w0 μ h' w'/\Ext μ h w μ h' w':=by
 unfold aY at hs;split at hs
 ·rename_i b off;split at hs
  ·rename_i cs ho;split at hs
   ·rename_i hc;cases hs;simp only [and_eq_true,decide_eq_true_eq] at hc;cases hx;rename_i k hk;have sH:=hv.cells hc.1.2;obtain ⟨vs,e,fr,h1,h2,h3,h4,h5⟩:=LS (hg.obj b k _ hk ho) sH off (by rw [hc.1.1];exact hc.2);have hl:vv.cells.toList.length=n:=by rw [<- sH.len];exact hc.1.1
    have hrun:=nC (P:=P) k.c (k.base+off) e fr vv.cells.toList 0 vs w h1 h3 (by rw [hl,h2];omega) (fun u hu=>sH.sF hc.1.2 u hu);rw [Nat.add_zero] at hrun;obtain ⟨g1,g2⟩:=hg.set hk ho (by simp) (.cells (ei cs off v.dy)) _ h5;refine ⟨_,?_,g1,g2⟩;have hsz:vv.cells.size=n:=by simpa using hl
    simp [Instr.storeAt,Instr.sureAddr,storeVar,mw hn,hsz,hrun]
   ·cases hs
  ·cases hs
 ·cases hs
theorem uv(hg:Good w0 μ h w){sz:Nat}(hx:VR w0 μ x xv){m:Nat}(hm:kX x=some m)(hn:n<=m){new:List AV}(hf:iq sz n x h=some new) :
  ∃ us:Array Value,(∀ w':World,w'.heap=w.heap->(Builtin.firstCells sz n xv).run P w' = .ok us w')/\dY w0 μ new us.toList/\(∀ w':World,(Builtin.lenOf xv).run P w' = .ok m w')/\new.length=n*sz:=by
 have zero:∀ (a:Addr) (w:World),(loadCells a 0).run P w = .ok #[] w:=fun a w=>by simp [loadCells,loadCellsFrom]
 have hcw:∀ {w':World},w'.heap=w.heap->∀ a:Addr,w'.cell? a=w.cell? a:=fun e a=>by simp [World.cell?,e]
 unfold iq at hf;split at hf
 ·split at hf
  ·cases hf;cases hx;simp only [kX,Option.some.injEq] at hm;subst hm;obtain rfl:n=0:=by omega
   exact ⟨#[],fun w' _=>by simp [Builtin.firstCells],.nil,fun w'=>by simp [Builtin.lenOf],by simp⟩
  ·cases hf
 ·rename_i b off n' s;simp only [kX,Option.some.injEq] at hm;subst hm;split at hf
  ·rename_i hs;subst hs;split at hf
   ·rename_i cs ho;split at hf
    ·rename_i hle;cases hf;cases hx;rename_i cap a k hk XR ha;by_cases h0:n=0
     ·subst h0;exact ⟨#[],fun w' _=>by simp [Builtin.firstCells,zero],by simpa using dY.nil,fun w'=>by simp [Builtin.lenOf],by simp⟩
     ·obtain ⟨rfl,hb⟩:=ha (by omega);obtain ⟨us,e1,e2,e3⟩:=wj (hg.cells hk ho) (n*s) off hle;refine ⟨us.toArray,fun w' Uu=>?_,by simpa using e3,fun w'=>by simp [Builtin.lenOf],by simp;omega⟩;have:=run_loadCells_list (P:=P) w' ⟨k.c,k.base+off,none⟩ us (fun j u hj=>by rw [kI,hcw Uu];exact e2 j u hj);rw [e1] at this;simp [Builtin.firstCells,this]
    ·cases hf
   ·cases hf
  ·cases hf
 ·rename_i cs off n' s;simp only [kX,Option.some.injEq] at hm;subst hm;split at hf
  ·rename_i hc;simp only [and_eq_true,decide_eq_true_eq] at hc;obtain ⟨rfl,hle⟩:=hc;cases hf;cases hx;rename_i cap a g o vs Ur hv hl hr ha XR;by_cases h0:n=0
   ·subst h0;exact ⟨#[],fun w' _=>by simp [Builtin.firstCells,zero],by simpa using dY.nil,fun w'=>by simp [Builtin.lenOf],by simp⟩
   ·obtain rfl:=ha (by omega);obtain ⟨us,e1,e2,e3⟩:=wj (hg.Kh Ur hl hv hr) (n*s) off hle;refine ⟨us.toArray,fun w' Uu=>?_,by simpa using e3,fun w'=>by simp [Builtin.lenOf],by simp;omega⟩;have:=run_loadCells_list (P:=P) w' ⟨g,o+off,none⟩ us (fun j u hj=>by rw [kI,hcw Uu];exact e2 j u hj);rw [e1] at this;simp [Builtin.firstCells,this]
  ·cases hf
 ·rename_i s;split at hf
  ·rename_i hs;subst hs;cases hf;obtain ⟨s,rfl,rfl⟩:=hx.gO;simp only [kX,Option.some.injEq] at hm;have Vt:s.data.toList.length=s.size:=by rw [Array.length_toList];rfl
   refine ⟨(s.extract 0 n).data.map fun b=>.int .u8 b.toNat,fun w' _=>by simp [Builtin.firstCells],?_,fun w'=>by simp [Builtin.lenOf];omega,by simp;omega⟩
   have e:((s.extract 0 n).data.map fun b=>Value.int .u8 (b.toNat:Int)).toList=(s.data.toList.take n).map fun b=>Value.int .u8 (b.toNat:Int):=by
    rw [Array.toList_map,extract_toList s 0 n (zero_le _) (by omega)];simp
   rw [e]
   exact dY.map _ fun b _=>.int .u8 b.toNat
  ·cases hf
 ·cases hf
theorem Fc(n:Nat):∀ (r c:Nat),256<=c->c<=2*n->Builtin.growBy n r c<=2*n
 |0,c,h,hc=>by simpa [Builtin.growBy] using hc
 |r+1,c,h,hc=>by
  simp only [Builtin.growBy];split
  ·exact hc
  ·exact Fc n r _ (by omega) (by omega)
theorem Ki(h:c<n):Builtin.nextslicecap n c<=2*n:=by
 unfold Builtin.nextslicecap;split
 ·omega
 ·split
  ·omega
  ·exact Fc n 4 c (by omega) (by omega)
theorem Gw{u:TypeId}{i:Nat×Nat}(hi:Bo P t u=some i) :
  ∃ e inf zv d,P.underlying t=some (.slice e)/\P.info? e=some inf/\inf.size=i.1/\inf.bytes=i.2/\0<i.1/\0<i.2/\inf.zero=some zv/\zv.cells.size=i.1/\P.underlying u=some d/\∀ k,d≠.int k:=by
 unfold Bo at hi;split at hi
 ·rename_i e s b z hu hm;cases hi;obtain ⟨e',inf,zv,h1,h2,h3,h4,h5,h6,h7,h8⟩:=qQ (w0:=default) (μ:=Mu.zero) hm;exact ⟨e',inf,zv,_,h1,h2,h3,h4,h5,h6,h7,by have h9:=h8.1.len;have OU:=h8.2;simp at h9 OU;show zv.cells.size=s;omega,hu,by simp⟩
 ·rename_i s b z hu hm;cases hi;obtain ⟨e',inf,zv,h1,h2,h3,h4,h5,h6,h7,h8⟩:=qQ (w0:=default) (μ:=Mu.zero) hm;exact ⟨e',inf,zv,_,h1,h2,h3,h4,h5,h6,h7,by have h9:=h8.1.len;have OU:=h8.2;simp at h9 OU;show zv.cells.size=s;omega,hu,by simp⟩
 ·cases hi
section
variable {t u ty:TypeId} {i:Nat×Nat} {e:TypeId} {inf:TypeInfo} {zv:Value} {d:TypeDesc} (hu:P.underlying t=some (.slice e)) (iO:P.info? e=some inf) (hs:inf.size=i.1) (Vs:inf.bytes=i.2)
 (hp:0<i.2) (HK:inf.zero=some zv) (Oo:P.underlying u=some d) (hd:∀ k,d≠.int k) {base:Option Addr} {sLen sCap n:Nat} {xv:Value} {new old:Array Value} include hu iO hs Oo hd
theorem pM(hlen:(Builtin.lenOf xv).run P w = .ok n w)(oU:(Builtin.firstCells i.1 n xv).run P w = .ok new w)(hle:sLen+n<=sCap){w':World}
  (iG:match base with|some a=>(storeCells (a.add (sLen*i.1)) new.toList).run P w = .ok () w'|none=>w=w') :
  (Builtin.append_ #[t,u] ty #[.slice base sLen sCap,xv]).run P w = .ok (.slice base (sLen+n) sCap) w':=by
 have hsz:∀ w,(sizeOf e).run P w = .ok i.1 w:=fun w=>by simp [sizeOf,typeInfo,iO,hs]
 have Xj:(match d with|.int _=>true|_=>false)=false:=by cases d<;>first|rfl|exact absurd rfl (hd _)
 cases base with
 |none=>
  simp only at iG;subst iG;simp [Builtin.append_,run_underlying hu,run_underlying Oo,hsz,Xj,hlen,hle,oU]
 |some a=>
  simp only at iG;simp [Builtin.append_,run_underlying hu,run_underlying Oo,hsz,Xj,hlen,hle,oU,iG] include Vs hp HK
theorem run_append_grow(hlen:(Builtin.lenOf xv).run P w = .ok n w)(oU:∀ w':World,w'.heap=w.heap->(Builtin.firstCells i.1 n xv).run P w' = .ok new w')
  (hold:∀ w':World,w'.heap=w.heap->(Builtin.firstCells i.1 sLen (.slice base sLen sCap)).run P w' = .ok old w') (hb:(sLen+n)*i.2<=cG) (OT:¬ sLen+n<=sCap) :
  ∃ cap,sLen+n<=cap/\(Builtin.append_ #[t,u] ty #[.slice base sLen sCap,xv]).run P w =
   .ok (.slice (some ⟨w.heap.size,0,none⟩) (sLen+n) cap) ((w.drew).alloc (.cells (old++new++Builtin.zeroCells zv.cells (cap-(sLen+n))) e)):=by
 have hsz:∀ w,(sizeOf e).run P w = .ok i.1 w:=fun w=>by simp [sizeOf,typeInfo,iO,hs]
 have Xj:(match d with|.int _=>true|_=>false)=false:=by cases d<;>first|rfl|exact absurd rfl (hd _)
 have Kj:=Ki (n:=sLen+n) (c:=sCap) (by omega)
 have adx:¬ (281474976710656<Builtin.nextslicecap (sLen+n) sCap*inf.bytes):=by
  have h1:Builtin.nextslicecap (sLen+n) sCap*i.2<=2*(sLen+n)*i.2:=mul_le_mul_right _ Kj;have h2:2*(sLen+n)*i.2=2*((sLen+n)*i.2):=Nat.mul_assoc _ _ _;unfold cG at hb;rw [Vs];omega
 have Vu:inf.bytes≠0:=by omega
 have hz0:=kJ (P:=P) iO HK;refine ⟨(Question.appendCap (sLen+n) sCap e).cut (w.tape w.drawn (.appendCap (sLen+n) sCap e)),?_,?_⟩
 ·show sLen+n<=sLen+n+_;omega
 ·have ho:=hold w.drew rfl;have hn:=oU w.drew rfl;simp [Builtin.append_,run_underlying hu,run_underlying Oo,hsz,Xj,hlen,OT,typeInfo,iO,adx,Vu,Question.forced,ho,hn,hz0,newRow]
end
theorem sK(z:Array Value)(n:Nat):(Builtin.zeroCells z n).size=n*z.size:=by simp [Builtin.zeroCells]
theorem Kk(hg:Good w0 μ h w){u ty:TypeId}{i:Nat×Nat}(hi:Bo P t u=some i){s v:AV}{sv:Value}(hs:VR w0 μ s sv)(hx:VR w0 μ x xv){h':Heap}(ha:b6 i.1 i.2 s x h=some (v,h')) :
  ∃ vc w' μ',(Builtin.append_ #[t,u] ty #[sv,xv]).run P w = .ok vc w'/\VR w0 μ' v vc/\Good w0 μ' h' w'/\Ext μ h w μ' h' w':=by
 obtain ⟨e,inf,zv,d,hu,iO,hsz,Vs,hp,B6,HK,RB,Oo,hd⟩:=Gw hi;have afX:w.drew.heap=w.heap:=rfl;have XX:∀ {h1 h2:Heap} {μ':Mu} {w':World},Ext μ h1 w.drew μ' h2 w'->Ext μ h1 w μ' h2 w':=fun x=>Ext.of_same (v:=w.drew) rfl x;have hgd:Good w0 μ h w.drew:=hg.same rfl rfl rfl rfl;unfold b6 at ha;split at ha
 ·cases ha
 ·rename_i n hn;split at ha
  ·cases ha
  ·rename_i new oU;obtain ⟨us,OV,rN,Xk,hr4⟩:=uv (P:=P) hg hx hn (dM n) oU;have RC:us.size=n*i.1:=by have:=rN.len;simp at this;omega
   split at ha
   ·
    cases hs;split at ha
    ·rename_i h0;subst h0;cases ha;refine ⟨_,w,μ,pM (base:=none) (w':=w) hu iO hsz Oo hd (Xk w) (OV w rfl) (dM 0) rfl,.ax,hg,Ext.refl _ _ _⟩
    ·rename_i h0;split at ha
     ·rename_i hc;cases ha;simp only [and_eq_true,decide_eq_true_eq] at hc;obtain ⟨cap,Kj,hrun⟩:=run_append_grow (ty:=ty) (base:=none) (sLen:=0) (sCap:=0) (old:=#[]) hu iO hsz Vs B6 HK Oo hd (Xk w) (fun w' Uu=>OV w' Uu) (fun w' Uu=>by simp [Builtin.firstCells]) (by simpa using hc.1) (by omega)
      have yV:nB w0 μ (.cells new) ⟨w.heap.size,0,us.size+(Builtin.zeroCells zv.cells (cap-(0+n))).size⟩ (some (.cells (#[]++us++Builtin.zeroCells zv.cells (cap-(0+n))) e)):=by
       refine ⟨_,_,(0,0),rfl,by simp,by simp;omega,.inl (dM _),fun j y hj=>?_⟩;obtain ⟨v,hv,hr⟩:=rN.get hj;refine ⟨v,?_,hr⟩;have hlt:=(kg.1 hv).1;simp at hlt hv;rw [Nat.zero_add,Array.getElem?_append_left (by simp;omega)];simp [hv]
      obtain ⟨g1,g2⟩:=hgd.alloc (.cells new) _ _ yV;refine ⟨_,_,_,hrun,?_,g1,XX g2⟩
      have:=VR.slice (w0:=w0) (μ:=(μ.add h.next ⟨w.heap.size,0,us.size+(Builtin.zeroCells zv.cells (cap-(0+n))).size⟩)) h.next 0 n i.1 cap ⟨w.heap.size,0,none⟩ _ (Mu.add_same _ _ _) (by omega) (fun _=>⟨rfl,by
       show 0+0+cap*i.1<=us.size+_
       rw [sK,RC,RB,<- Nat.add_mul,show n+(cap-(0+n))=cap by omega];omega⟩)
      simpa using this
     ·cases ha
   ·rename_i b off len s';split at ha
    ·rename_i gu;subst gu;cases hs;rename_i cap a k hk hle XY;split at ha
     ·rename_i h0;subst h0;cases ha;have iG:us = #[]:=by apply Array.eq_empty_of_size_eq_zero;omega
      subst iG;refine ⟨_,w,μ,pM (base:=some a) (w':=w) hu iO hsz Oo hd (Xk w) (OV w rfl) (by omega) (by simp [storeCells]),?_,hg,Ext.refl _ _ _⟩;exact .slice b off len i.1 cap a k hk (by omega) XY
     ·rename_i h0;split at ha
      ·rename_i cs ho;split at ha
       ·rename_i hc;cases ha;simp only [and_eq_true,decide_eq_true_eq] at hc;obtain ⟨⟨Oq,hc2⟩,Xl⟩:=hc;obtain ⟨vs,el,fr,o1,o2,o3,o4,o5⟩:=hg.obj b k _ hk ho;have hoc:=hg.own b k hk;by_cases hroom:len+n<=cap
        ·
         obtain ⟨rfl,hin⟩:=XY (by omega);have XZ:len*i.1+n*i.1<=cap*i.1:=by rw [<- Nat.add_mul];exact mul_le_mul_right _ hroom
         have m7:=nC (P:=P) k.c (k.base+off+len*i.1) el fr us.toList 0 vs w o1 (by rw [o2];exact o4) (by simp [RC,o2];omega) (rN.sF hc2);rw [Nat.add_zero] at m7
         have yV:nB w0 μ (.cells ((cs.drop off).take (len*i.1)++new)) ⟨k.c,k.base+off,k.size⟩ (some (.cells (ei vs.toList (k.base+off+len*i.1) us.toList).toArray el fr)):=by
          have hlen:((cs.drop off).take (len*i.1)).length=len*i.1:=(by simp;omega);refine ⟨_,el,fr,rfl,by simp [fG,o2],by simp [hlen,hr4];omega,o4,fun j y hj=>?_⟩;by_cases MX:j<len*i.1
          ·rw [getElem?_append_left (by omega),getElem?_take,if_pos MX,getElem?_drop] at hj;obtain ⟨v,hv,hr⟩:=o5 _ y hj;refine ⟨v,?_,hr⟩;have:=eG us.toList vs.toList (k.base+off+len*i.1) (k.base+off+j) (.inl (by omega));simp only [getElem?_toArray,this,Array.getElem?_toList];rw [Nat.add_assoc];exact hv
          ·rw [getElem?_append_right (by omega),hlen] at hj;obtain ⟨v,hv,hr⟩:=rN.get hj;refine ⟨v,?_,hr⟩;have hlt:=(kg.1 hv).1;have:=gW us.toList vs.toList (k.base+off+len*i.1) (j-len*i.1) hlt (by simp [RC,o2];omega);rw [show k.base+off+len*i.1+(j-len*i.1)=k.base+off+j by omega] at this;simp only [getElem?_toArray,this,hv]
         obtain ⟨g1,g2⟩:=hg.renew hk ho (by simp) (k.base+off) _ _ yV;refine ⟨_,_,_,pM (base:=some ⟨k.c,k.base+off,none⟩) hu iO hsz Oo hd (Xk w) (OV w rfl) hroom (by simp only [kI];exact m7),?_,g1,g2⟩;exact .slice h.next 0 (len+n) i.1 cap ⟨k.c,k.base+off,none⟩ ⟨k.c,k.base+off,k.size⟩ (Mu.add_same _ _ _) (by omega) (fun _=>⟨by simp,by simpa using hin⟩)
        ·
         have hold:iq i.1 len (.slice b off len i.1) h=some ((cs.drop off).take (len*i.1)):=(by simp [iq,ho,Xl]);obtain ⟨old,q1,q2,q3,q4⟩:=uv (P:=P) hg (.slice b off len i.1 cap a k hk hle XY) (m:=len) rfl (dM len) hold;have ady:old.size=len*i.1:=by have:=q2.len;simp only [Array.length_toList] at this;omega
         obtain ⟨Ec,Kj,hrun⟩:=run_append_grow (ty:=ty) (base:=some a) (sLen:=len) (sCap:=cap) (old:=old) hu iO hsz Vs B6 HK Oo hd (Xk w) (fun w' Uu=>OV w' Uu) q1 Oq hroom;have lI:=q2.append rN
         have yV:nB w0 μ (.cells ((cs.drop off).take (len*i.1)++new)) ⟨w.heap.size,0,old.size+us.size+(Builtin.zeroCells zv.cells (Ec-(len+n))).size⟩ (some (.cells (old++us++Builtin.zeroCells zv.cells (Ec-(len+n))) e)):=by
          refine ⟨_,_,(0,0),rfl,by simp [Nat.add_assoc],by rw [length_append,q4,hr4];show 0+_<=old.size+us.size+_;omega,.inl (dM _),fun j y hj=>?_⟩;obtain ⟨v,hv,hr⟩:=lI.get hj;refine ⟨v,?_,hr⟩;have hlt:=(kg.1 hv).1;rw [<- Array.toList_append] at hv hlt;rw [Array.length_toList] at hlt;rw [Array.getElem?_toList] at hv;show (old++us++_)[0+j]?=some v;rw [Nat.zero_add,Array.getElem?_append_left hlt,hv]
         have hgk:Good w0 μ (h.set b .dead) w.drew:=hgd.kill hk;obtain ⟨g1,g2⟩:=hgk.alloc (.cells ((cs.drop off).take (len*i.1)++new)) _ _ yV;refine ⟨_,_,_,hrun,?_,g1,(Ext.kill hk).trans (XX g2)⟩;refine .slice h.next 0 (len+n) i.1 Ec ⟨w.heap.size,0,none⟩ ⟨w.heap.size,0,old.size+us.size+(Builtin.zeroCells zv.cells (Ec-(len+n))).size⟩ (Mu.add_same _ _ _) Kj (fun _=>⟨rfl,?_⟩)
         show 0+0+Ec*i.1<=old.size+us.size+_;rw [sK,RC,ady,RB,<- Nat.add_mul,<- Nat.add_mul];rw [show len+n+(Ec-(len+n))=Ec by omega];omega
       ·cases ha
      ·cases ha
    ·cases ha
   ·cases ha
end
end Go.AM