/- Parts of the proof. Conditions: none. -/
import Derived.Test.YthmbnnjimbjplaaGreatDoorTu4
import Derived.Laws.Tables
import Derived.Laws.MakeOwn
set_option linter.unusedSimpArgs false
set_option linter.unusedVariables false
namespace Go.AM
open List Nat Bool Option
open Go Go.RowKit
variable {t e:TypeId} {P:Program} {xv v yv:Value} {x y:AV} {cs:List AV} {b:Bool} {n i:Nat}
theorem cZ{α:Type}{o:Option α}{f:α->Bool}(h:af o f=true):∃ a,o=some a/\f a=true:=by
 cases o with
 |none=>simp [af] at h
 |some a=>exact ⟨a,rfl,h⟩
def iu(P:Program)(ρ:Operand->AV):Op->Option AV
 |.move x=>some (ρ x)
 |.assign x=>some (ρ x)
 |.pick c a b=>CM (ρ c) (ρ a) (ρ b)
 |.build t ps=>(yE P t (ps.toList.map (·.1))).bind fun i=>ko i.1 i.2 (ps.toList.map fun p=>ρ p.2)
 |.nilCheck x=>eF (ρ x)
 |.binOp op t x y _=>(match op with
  |.eql=>(P.underlying t).bind fun d=>fQ d (ρ x) (ρ y)
  |.neq=>(P.underlying t).bind fun d=>jN d (ρ x) (ρ y)
  |op=>aC op (ρ x) (ρ y))
 |.unOp op _ x=>j4 op (ρ x)
 |.makeInterface t x=>(uw P t).bind fun _=>some (.iface t (ρ x))
 |.makeFunc fn first cap=>(match fn with|.func f=>some (.func f (first.toList.map ρ) (cap.toList.map ρ))|_=>none)
 |.slice t x lo hi mx=>(match mx with|none=>(yG P t).bind fun i=>eX i (ρ x) (lo.map ρ) (hi.map ρ)|some _=>none)
 |.fieldAddr t x i=>(Mr P t i).bind fun o=>sV o (ρ x)
 |.field t x i=>(yF P t i).bind fun o=>yC o.1 o.2 (ρ x)
 |.indexAddr t x i=>(Mq P t).bind fun o=>MV o (ρ x) (ρ i)
 |.index t x i=>(GN P t).bind fun o=>EY o (ρ x) (ρ i)
 |.extract t i=>aW (ρ t) i
 |.typeAssert x _ a ok=>(tP P a ok).bind fun z=>tO a z (ρ x)
 |.call c=>(match c.callee with
  |.builtin .min=>(match c.args.toList.map ρ with|x :: xs=>xD false x xs|_=>none)
  |.builtin .max=>(match c.args.toList.map ρ with|x :: xs=>xD true x xs|_=>none)
  |_=>none)
 |_=>none
theorem ey{α β:Type}(o:Option α)(f:α->Option β)(g:β->Bool):af o (fun a=>af (f a) g)=af (o.bind f) g:=by cases o<;>rfl
theorem m6{ρ:Operand->AV}{op:Op}(hk:cP op = .pure)(h:Heap)(K:AV->Heap->Bool):dY op P ρ h K=af (iu P ρ op) fun v=>K v h:=by
 cases op<;>simp only [cP,reduceCtorEq] at hk
 case move=>rfl
 case assign=>rfl
 case pick=>rfl
 case build=>simp only [dY,CR,gw,iu,ey]
 case nilCheck=>rfl
 case binOp op t x y u=>cases op<;>simp only [dY,EZ,gw,iu,ey]
 case unOp=>rfl
 case makeInterface t x=>simp only [dY,iu];cases uw P t<;>rfl
 case makeFunc fn first cap=>cases fn<;>rfl
 case slice t x lo hi mx=>cases mx<;>simp only [dY,yH,gw,iu,ey];rfl
 case fieldAddr=>simp only [dY,gw,iu,ey]
 case field=>simp only [dY,gw,iu,ey]
 case indexAddr=>simp only [dY,gw,iu,ey]
 case index=>simp only [dY,gw,iu,ey]
 case extract=>rfl
 case typeAssert x xt a ok=>simp only [dY,gw,iu,ey]
 case call c=>
  obtain ⟨qP,args,ts⟩:=c
  cases qP with
  |value f=>simp [cO] at hk
  |invoke r m=>simp [cO] at hk
  |builtin b=>
   cases b<;>simp only [cO,reduceCtorEq] at hk
   ·simp only [dY,l6,xF,mV,iu];cases args.toList.map ρ<;>rfl
   ·simp only [dY,l6,xF,mV,iu];cases args.toList.map ρ<;>rfl
section
variable {P:Program} {w0:World} {μ:Mu} {ρ:Operand->AV} {ρc:Operand->Value}
theorem VR.eH(h:VR w0 μ (.bool b) v):v = .bool b:=by cases h;rfl
theorem VR.dD{k:IntKind}{n:Int}(h:VR w0 μ (.int k n) v):v = .int k n:=by cases h;rfl
theorem VR.ef{l:List UInt8}(h:VR w0 μ (.str l) v):∃ s:ByteArray,v = .string s/\s.data.toList=l:=by cases h;exact ⟨_,rfl,rfl⟩
theorem VR.xH(h:VR w0 μ (.tuple cs) v):∃ vs:List Value,v = .tuple vs.toArray/\cj w0 μ cs vs:=by cases h;exact ⟨_,rfl,⟨‹_›,‹_›⟩⟩
theorem VR.CW(h:VR w0 μ (.agg cs) v):∃ vs:List Value,v = .agg vs.toArray/\cj w0 μ cs vs:=by cases h;exact ⟨_,rfl,⟨‹_›,‹_›⟩⟩
theorem cj.agg{cs:List AV}{vs:List Value}(h:cj w0 μ cs vs):VR w0 μ (.agg cs) (.agg vs.toArray):=.agg cs vs h.len h.rel
theorem cj.tuple{cs:List AV}{vs:List Value}(h:cj w0 μ cs vs):VR w0 μ (.tuple cs) (.tuple vs.toArray):=.tuple cs vs h.len h.rel
theorem VR.aZ:VR w0 μ aZ Go.undef:=cj.tuple .nil
theorem kr(h:VR w0 μ x v)(hx:asNat x=some n):∃ k,v = .int k (n:Int):=by
 cases h<;>simp [asNat] at hx;rename_i k m;exact ⟨k,by rw [<- hx.2,Int.toNat_of_nonneg hx.1]⟩
theorem gB(c o n:Nat):(⟨c,o,none⟩:Addr).add n=⟨c,o+n,none⟩:=by unfold Addr.add;split<;>simp_all
theorem DI{c a b v:AV}{cv av bv:Value}(hc:VR w0 μ c cv)(ha:VR w0 μ a av)(hb:VR w0 μ b bv)(h:CM c a b=some v) :
  ∃ t,cv = .bool t/\VR w0 μ v (if t then av else bv):=by
 cases c<;>simp [CM] at h;rename_i t;refine ⟨t,hc.eH,?_⟩;subst h;cases t
 ·exact hb
 ·exact ha
theorem GP{op:UnOp}{v:AV}(hx:VR w0 μ x xv)(h:j4 op x=some v):∃ vc,(∀ w,(Op.unary op xv).run P w = .ok vc w)/\VR w0 μ v vc:=by
 unfold j4 at h;split at h
 ·cases h;rw [hx.dD];exact ⟨_,fun w=>rfl,.int _ _⟩
 ·cases h;rw [hx.eH];exact ⟨_,fun w=>rfl,.bool _⟩
 ·cases h
theorem wJ{v:AV}(hx:VR w0 μ x xv)(h:eF x=some v):VR w0 μ v xv/\((∃ a,xv = .pointer (some a))\/∃ f a b,xv = .func (.func f) a b):=by
 unfold eF at h;split at h
 ·cases h;cases hx;exact ⟨.ptr _ _ _ ‹_›,.inl ⟨_,rfl⟩⟩
 ·cases h;cases hx;exact ⟨.cS _ _ _ _ _ ‹_› ‹_› ‹_› ‹_›,.inl ⟨_,rfl⟩⟩
 ·cases h;cases hx;exact ⟨.func _ _ _ _ _ ‹_› ‹_› ‹_› ‹_›,.inr ⟨_,_,_,rfl⟩⟩
 ·cases h
theorem E8{op:BinOp}{v:AV}(hx:VR w0 μ x xv)(hy:VR w0 μ y yv)(h:aC op x y=some v)(h1:op≠.eql)(h2:op≠.neq) :
  ∃ vc,(∀ w,(binOp op t xv yv).run P w = .ok vc w)/\VR w0 μ v vc:=by
 have shift:∀ r:Bool,op=(if r then .shr else .shl)->um r x y=some v->∃ vc,(∀ w,(binOp op t xv yv).run P w = .ok vc w)/\VR w0 μ v vc:=by
  intro r ho h;unfold um at h;split at h
  ·split at h
   ·cases h
   ·rename_i k a k' b hb;cases h;rw [hx.dD,hy.dD,ho];cases r
    ·exact ⟨_,fun w=>by simp [binOp,Op.shift,hb],.int _ _⟩
    ·exact ⟨_,fun w=>by simp [binOp,Op.shift,hb],.int _ _⟩
  ·cases h
 have bits:(op = .and\/op = .or\/op = .xor)->ER op x y=some v->∃ vc,(∀ w,(binOp op t xv yv).run P w = .ok vc w)/\VR w0 μ v vc:=by
  intro ho h;unfold ER at h;split at h
  ·split at h
   ·rename_i k a k' b hk;subst hk;rw [hx.dD,hy.dD];rcases ho with rfl|rfl|rfl<;>simp only [Option.some.injEq] at h<;>subst h<;>exact ⟨_,fun w=>by simp [binOp,Op.intBits],.int _ _⟩
   ·cases h
  ·cases h
 unfold aC at h;split at h
 ·exact shift true rfl h
 ·exact shift false rfl h
 ·exact bits (.inl rfl) h
 ·exact bits (.inr (.inl rfl)) h
 ·exact bits (.inr (.inr rfl)) h
 split at h
 ·rename_i k a k' b;split at h
  ·rename_i hk;subst hk;rw [hx.dD,hy.dD];cases op<;>simp only [reduceCtorEq] at h<;>first|(exact absurd rfl h1)|(exact absurd rfl h2)|skip
   ·cases h;exact ⟨.int k (k.wrap (a+b)),fun w=>by simp [binOp,Op.intArith],.int _ _⟩
   ·cases h;exact ⟨.int k (k.wrap (a-b)),fun w=>by simp [binOp,Op.intArith],.int _ _⟩
   ·cases h;exact ⟨.int k (k.wrap (a*b)),fun w=>by simp [binOp,Op.intArith],.int _ _⟩
   ·split at h
    ·cases h
    ·rename_i hb;cases h;exact ⟨.int k (k.wrap (a.tdiv b)),fun w=>by simp [binOp,Op.intDiv,hb],.int _ _⟩
   ·split at h
    ·cases h
    ·rename_i hb;cases h;exact ⟨.int k (a.tmod b),fun w=>by simp [binOp,Op.intDiv,hb],.int _ _⟩
   ·cases h;exact ⟨.bool (decide (a<b)),fun w=>by simp [binOp,Op.intCmp],.bool _⟩
   ·cases h;exact ⟨.bool (decide (a<=b)),fun w=>by simp [binOp,Op.intCmp],.bool _⟩
   ·cases h;exact ⟨.bool (decide (a>b)),fun w=>by simp [binOp,Op.intCmp],.bool _⟩
   ·cases h;exact ⟨.bool (decide (a>=b)),fun w=>by simp [binOp,Op.intCmp],.bool _⟩
  ·cases h
 ·rename_i a b;obtain ⟨s,rfl,rfl⟩:=hx.ef;obtain ⟨u,rfl,rfl⟩:=hy.ef;cases op<;>simp only [reduceCtorEq] at h<;>first|(exact absurd rfl h1)|(exact absurd rfl h2)|skip
  ·split at h
   ·rename_i hl;cases h;refine ⟨.string (s++u),fun w=>?_,?_⟩
    ·have e1:s.data.toList.length=s.size:=(by rw [Array.length_toList];rfl);have e2:u.data.toList.length=u.size:=by rw [Array.length_toList];rfl
     rw [e1,e2] at hl
     have:¬ (((s.size+u.size:Nat):Int)>IntKind.i64.max):=by
      have:IntKind.i64.max=9223372036854775807:=(by decide);rw [this];omega
     unfold binOp;simp only [Op.stringOp,if_neg this];rfl
    ·have e:(s++u).data.toList=s.data.toList++u.data.toList:=(by simp);rw [<- e];exact .str _
   ·cases h
  ·cases h;exact ⟨.bool (Op.bytesLess s.data.toList u.data.toList),fun w=>by simp [binOp,Op.stringOp,ByteArray.toList_eq],.bool _⟩
  ·cases h;exact ⟨.bool (Op.bytesLess s.data.toList u.data.toList||s.data.toList==u.data.toList),fun w=>by simp [binOp,Op.stringOp,ByteArray.toList_eq],.bool _⟩
  ·cases h;exact ⟨.bool (!(Op.bytesLess s.data.toList u.data.toList||s.data.toList==u.data.toList)),fun w=>by simp [binOp,Op.stringOp,ByteArray.toList_eq],.bool _⟩
  ·cases h;exact ⟨.bool (!(Op.bytesLess s.data.toList u.data.toList)),fun w=>by simp [binOp,Op.stringOp,ByteArray.toList_eq],.bool _⟩
 ·cases h
theorem wK{op:BinOp}{x y:Operand}{a b:Value}{w:World}(h1:a≠.nilIface)(h2:∀ c,a≠.agg c):(eqGuard op t x y a b).run P w = .ok () w:=by
 unfold eqGuard;cases op<;>first|rfl|(cases a<;>first|(exact absurd rfl h1)|(exact absurd rfl (h2 _))|rfl)
section
variable {t:TypeId} (d:Nat) (w:World)
theorem DJ(hd:P.underlying t=some .bool)(a b:Bool):(Op.equalIn (d+1) t (.bool a) (.bool b)).run P w = .ok (a==b) w:=by simp [Op.equalIn,run_underlying hd]
theorem uE(hd:P.underlying t=some (.pointer e))(a:Addr) :
  (Op.equalIn (d+1) t (.pointer none) (.pointer none)).run P w = .ok true w/\(Op.equalIn (d+1) t (.pointer (some a)) (.pointer none)).run P w = .ok false w /\
  (Op.equalIn (d+1) t (.pointer none) (.pointer (some a))).run P w = .ok false w:=by simp [Op.equalIn,run_underlying hd]
theorem nZ(hd:P.underlying t=some (.slice e))(a:Addr)(n c:Nat) :
  (Op.equalIn (d+1) t (.slice none 0 0) (.slice none 0 0)).run P w = .ok true w/\(Op.equalIn (d+1) t (.slice (some a) n c) (.slice none 0 0)).run P w = .ok false w /\
  (Op.equalIn (d+1) t (.slice none 0 0) (.slice (some a) n c)).run P w = .ok false w:=by simp [Op.equalIn,run_underlying hd]
theorem uF{k:TypeId}(hd:P.underlying t=some (.map k e))(a:Nat) :
  (Op.equalIn (d+1) t (.map none) (.map none)).run P w = .ok true w/\(Op.equalIn (d+1) t (.map (some a)) (.map none)).run P w = .ok false w /\
  (Op.equalIn (d+1) t (.map none) (.map (some a))).run P w = .ok false w:=by simp [Op.equalIn,run_underlying hd]
theorem qQ{x y:Array TypeId}{z:Bool}(hd:P.underlying t=some (.func x y z))(f:Fn)(a b:Array Value) :
  (Op.equalIn (d+1) t .nilFunc .nilFunc).run P w = .ok true w/\(Op.equalIn (d+1) t (.func f a b) .nilFunc).run P w = .ok false w /\
  (Op.equalIn (d+1) t .nilFunc (.func f a b)).run P w = .ok false w:=by simp [Op.equalIn,run_underlying hd]
end
theorem binOp_eql{x y:Value}{w:World}(h:(Op.equal t x y).run P w = .ok b w)(h1:∀ k n,x≠.int k n)(h2:∀ s,x≠.string s)(h3:∀ k n,x≠.float k n)(h4:∀ k n m,x≠.complex k n m) :
  (binOp .eql t x y).run P w = .ok (.bool b) w/\(binOp .neq t x y).run P w = .ok (.bool (!b)) w:=by
 cases x<;>first|(exact absurd rfl (h1 _ _))|(exact absurd rfl (h2 _))|(exact absurd rfl (h3 _ _))|(exact absurd rfl (h4 _ _ _))|(simp [binOp,h])
theorem z6{d:TypeDesc}(hd:P.underlying t=some d)(hx:VR w0 μ x xv)(hy:VR w0 μ y yv)(h:Gy d x y=some b) :
  (∀ w,(binOp .eql t xv yv).run P w = .ok (.bool b) w)/\(∀ w,(binOp .neq t xv yv).run P w = .ok (.bool (!b)) w)/\xv≠.nilIface/\∀ c,xv≠.agg c:=by
 have key:(∀ w,(Op.equalIn (9999+1) t xv yv).run P w = .ok b w)->(∀ k n,xv≠.int k n)->(∀ s,xv≠.string s)->(∀ k n,xv≠.float k n)->(∀ k n m,xv≠.complex k n m) ->
   (∀ w,(binOp .eql t xv yv).run P w = .ok (.bool b) w)/\(∀ w,(binOp .neq t xv yv).run P w = .ok (.bool (!b)) w):=
  fun h1 a b c d=>⟨fun w=>(binOp_eql (h1 w) a b c d).1,fun w=>(binOp_eql (h1 w) a b c d).2⟩
 unfold Gy at h;split at h
 ·rename_i k a k' b';split at h
  ·rename_i hk;subst hk;cases h;rw [hx.dD,hy.dD];refine ⟨fun w=>by simp [binOp,Op.intCmp],fun w=>by simp [binOp,Op.intCmp,bne],by simp,by simp⟩
  ·cases h
 ·rename_i a b';cases h;obtain ⟨s,rfl,rfl⟩:=hx.ef;obtain ⟨u,rfl,rfl⟩:=hy.ef;refine ⟨fun w=>by simp [binOp,Op.stringOp,ByteArray.toList_eq],fun w=>by simp [binOp,Op.stringOp,ByteArray.toList_eq],by simp,by simp⟩
 all_goals first
  |(cases h;done)
  |(split at h
    ·cases h;cases hx;cases hy;have:=key (fun w=>by first|exact DJ 9999 w hd _ _|exact (uE 9999 w hd default).1|exact (uE 9999 w hd _).2.1|exact (uE 9999 w hd _).2.2|exact (nZ 9999 w hd default 0 0).1|exact (nZ 9999 w hd _ _ _).2.1|exact (nZ 9999 w hd _ _ _).2.2|exact (uF 9999 w hd 0).1|exact (uF 9999 w hd _).2.1|exact (uF 9999 w hd _).2.2|exact (qQ 9999 w hd (.func 0) #[] #[]).1|exact (qQ 9999 w hd _ _ _).2.1|exact (qQ 9999 w hd _ _ _).2.2) (by simp) (by simp) (by simp) (by simp);exact ⟨this.1,this.2,by simp,by simp⟩
    ·cases h)
theorem GQ{off:Nat}{v:AV}(hx:VR w0 μ x xv)(hi:Mr P t i=some off)(h:sV off x=some v) :
  ∃ vc,(∀ w,(Instr.fieldAt t xv i).run P w = .ok vc w)/\VR w0 μ v vc:=by
 unfold Mr yB at hi;split at hi
 ·rename_i f hf;split at hf
  ·rename_i fs hu;split at hi
   ·rename_i s hs;split at hi
    ·cases hi
    ·rename_i KU;cases hi
     have hsz:∀ w,(sizeOf f.type).run P w = .ok s w:=by
      intro w;unfold ju at hs;split at hs
      ·rename_i inf eV;cases hs;simp [sizeOf,typeInfo,eV]
      ·cases hs
     have key:∀ (c o:Nat) (w:World),(Instr.fieldAt t (.pointer (some ⟨c,o,none⟩)) i).run P w = .ok (.pointer (some ⟨c,o+f.offset,none⟩)) w:=by
      intro c o w;simp [Instr.fieldAt,run_underlying hu,hf,Instr.sureAddr,fieldPlace,hsz,KU,gB]
     unfold sV at h;split at h
     ·cases h;cases hx;rename_i b o k hk;refine ⟨_,fun w=>key _ _ w,?_⟩;rw [Nat.add_assoc];exact .ptr _ _ _ hk
     ·cases h;cases hx;refine ⟨_,fun w=>key _ _ w,?_⟩;rw [Nat.add_assoc];exact .cS _ _ _ _ _ ‹_› ‹_› ‹_› ‹_›
     ·cases h
   ·cases hi
  ·cases hf
 ·cases hi
theorem iC(h:ju P t=some n)(w:World):(sizeOf t).run P w = .ok n w:=by
 unfold ju at h;split at h
 ·rename_i inf eV;cases h;simp [sizeOf,typeInfo,eV]
 ·cases h
theorem uG{r:Option Nat}(hr:nG P t=some r) :
  (∃ n,r=some n/\(∀ w,(isAgg t).run P w = .ok true w)/\∀ w,(sizeOf t).run P w = .ok n w)\/(r=none/\∀ w,(isAgg t).run P w = .ok false w):=by
 unfold nG at hr;split at hr
 ·rename_i fs hu;split at hr
  ·rename_i n hn;cases hr;exact .inl ⟨n,rfl,fun w=>by simp [isAgg,run_underlying hu],iC hn⟩
  ·cases hr
 ·rename_i n' e hu;split at hr
  ·rename_i n hn;cases hr;exact .inl ⟨n,rfl,fun w=>by simp [isAgg,run_underlying hu],iC hn⟩
  ·cases hr
 ·rename_i d h1 h2 hu;cases hr;refine .inr ⟨rfl,fun w=>?_⟩;simp only [isAgg,Sem.run_bind,run_underlying hu,Result.andThen_ok];cases d<;>first|rfl|(exact absurd rfl (h1 _))|(exact absurd rfl (h2 _ _))
 ·cases hr
theorem uH{r:Option Nat}(hr:nG P t=some r){vs:List Value}(hc:cj w0 μ cs vs){off:Nat}{v:AV}(h:ir r cs off=some v) :
  ∃ vc,(∀ w,(Go.part t vs.toArray off).run P w = .ok vc w)/\VR w0 μ v vc:=by
 rcases uG hr with ⟨n,rfl,h1,h2⟩|⟨rfl,h1⟩
 ·simp only [ir] at h;split at h
  ·cases h;exact ⟨.agg ((vs.drop off).take n).toArray,fun w=>by simp [Go.part,h1,h2],((hc.drop off).take n).agg⟩
  ·cases h
 ·simp only [ir] at h;obtain ⟨vc,hv,hr⟩:=hc.get h;exact ⟨vc,fun w=>by simp [Go.part,h1,hv],hr⟩
theorem BT{o:Option Nat×Nat}{v:AV}(hx:VR w0 μ x xv)(hi:yF P t i=some o)(h:yC o.1 o.2 x=some v) :
  ∃ vc,(∀ w,(Instr.field t xv i).run P w = .ok vc w)/\VR w0 μ v vc:=by
 unfold yF yB at hi;split at hi
 ·rename_i f hf;split at hf
  ·rename_i fs hu;split at hi
   ·rename_i r hr;cases hi;unfold yC at h;split at h
    ·rename_i cs;obtain ⟨vs,rfl,hc⟩:=hx.CW;obtain ⟨vc,h1,h2⟩:=uH hr hc h;exact ⟨vc,fun w=>by simp [Instr.field,run_underlying hu,hf,asAgg,h1],h2⟩
    ·cases h
   ·cases hi
  ·cases hf
 ·cases hi
theorem uI(h:CL P t=some e):P.underlying t=some (.slice e):=by
 unfold CL at h;split at h
 ·cases h;assumption
 ·cases h
theorem n4{o:Nat×Nat}(h:ur P t=some o):∃ e inf,P.underlying t=some (.slice e)/\P.info? e=some inf/\inf.size=o.1/\inf.bytes=o.2/\0<o.1/\0<o.2:=by
 unfold ur EX at h;split at h
 ·cases h
 ·rename_i e he;split at h
  ·rename_i s b hs hb;split at h
   ·rename_i hp;cases h;unfold ju at hs;unfold EP at hb;split at hs
    ·rename_i inf eV;rw [eV] at hb;cases hs;cases hb;exact ⟨e,inf,uI he,eV,rfl,rfl,by simpa using hp⟩
    ·cases hs
   ·cases h
  ·cases h
theorem GR{o:Nat×Nat}{v:AV}(hx:VR w0 μ x xv)(hy:VR w0 μ y yv)(hi:ur P t=some o)(h:iZ o.1 x y=some v) :
  ∃ vc,(∀ w,(Instr.indexAt t xv yv).run P w = .ok vc w)/\VR w0 μ v vc:=by
 obtain ⟨e,inf,hu,eV,hs,hb,hp,zP⟩:=n4 hi;unfold iZ at h;split at h
 ·cases h
 ·rename_i i hn;obtain ⟨kk,rfl⟩:=kr hy hn
  have key:∀ (c off len cap:Nat) (w:World),i<len->(Instr.indexAt t (.slice (some ⟨c,off,none⟩) len cap) (.int kk (i:Int))).run P w = .ok (.pointer (some ⟨c,off+i*o.1,none⟩)) w:=by
   intro c off len cap w hlt;have:((i:Int)<(len:Int)):=by omega
   simp [Instr.indexAt,run_underlying hu,asIntOf,sizeOf,typeInfo,eV,hs,gB,hlt]
  split at h
  ·rename_i b off len sz;split at h
   ·rename_i hc;cases h;simp only [and_eq_true,decide_eq_true_eq,beq_iff_eq] at hc;cases hx;rename_i cap a k hk hle ha;obtain ⟨rfl,KV⟩:=ha (by omega);refine ⟨_,fun w=>key _ _ _ _ w hc.1,?_⟩;rw [Nat.add_assoc,hc.2];exact .ptr _ _ _ hk
   ·cases h
  ·rename_i cs off len sz;split at h
   ·rename_i hc;cases h;simp only [and_eq_true,decide_eq_true_eq,beq_iff_eq] at hc;cases hx;rename_i cap a g o' vs hg hv hl hr ha hle;obtain rfl:=ha (by omega);refine ⟨_,fun w=>key _ _ _ _ w hc.1,?_⟩;rw [Nat.add_assoc,hc.2];exact .cS _ _ _ _ _ hg hl hv hr
   ·cases h
  ·cases h
theorem DK{len:Nat}{v:AV}(hx:VR w0 μ x xv)(hy:VR w0 μ y yv)(hu:P.underlying t=some (.array len e))(hs:ju P e=some n)(h:ET len n x y=some v) :
  ∃ vc,(∀ w,(Instr.indexAt t xv yv).run P w = .ok vc w)/\VR w0 μ v vc:=by
 unfold ju at hs;split at hs
 ·rename_i inf eV;simp only [Option.some.injEq] at hs;unfold ET at h;split at h
  ·cases h
  ·rename_i i hn;obtain ⟨kk,rfl⟩:=kr hy hn
   have key:∀ (c off:Nat) (w:World),i<len->(Instr.indexAt t (.pointer (some ⟨c,off,none⟩)) (.int kk (i:Int))).run P w = .ok (.pointer (some ⟨c,off+i*n,none⟩)) w:=by
    intro c off w hlt;have:((i:Int)<(len:Int)):=by omega
    simp [Instr.indexAt,run_underlying hu,asIntOf,Instr.sureAddr,sizeOf,typeInfo,eV,hs,gB,hlt]
   split at h
   ·rename_i b off;split at h
    ·rename_i hc;cases h;cases hx;rename_i k hk;refine ⟨_,fun w=>key _ _ w hc,?_⟩;rw [Nat.add_assoc];exact .ptr _ _ _ hk
    ·cases h
   ·rename_i cs off;split at h
    ·rename_i hc;cases h;cases hx;refine ⟨_,fun w=>key _ _ w hc,?_⟩;rw [Nat.add_assoc];exact .cS _ _ _ _ _ ‹_› ‹_› ‹_› ‹_›
    ·cases h
   ·cases h
 ·cases hs
theorem Fa{o:MU}{v:AV}(hx:VR w0 μ x xv)(hy:VR w0 μ y yv)(hi:Mq P t=some o)(h:MV o x y=some v) :
  ∃ vc,(∀ w,(Instr.indexAt t xv yv).run P w = .ok vc w)/\VR w0 μ v vc:=by
 unfold Mq at hi;split at hi
 ·rename_i len e hu;split at hi
  ·rename_i s hs;cases hi;exact DK hx hy hu hs h
  ·cases hi
 ·split at hi
  ·rename_i o' ho;cases hi;exact GR hx hy ho h
  ·cases hi
theorem Fb(s:ByteArray)(i:Nat):s.data.toList[i]?=s[i]?:=by
 by_cases h:i<s.size
 ·have h':i<s.data.toList.length:=by rw [Array.length_toList];exact h
  rw [fc h',getElem?_pos s i h];rfl
 ·have h':s.data.toList.length<=i:=by rw [Array.length_toList];exact Nat.le_of_not_lt h
  rw [getElem?_eq_none h',getElem?_neg s i h]
theorem Fc{o:I1}{v:AV}(hx:VR w0 μ x xv)(hy:VR w0 μ y yv)(hi:GN P t=some o)(h:EY o x y=some v) :
  ∃ vc,(∀ w,(Instr.index t xv yv).run P w = .ok vc w)/\VR w0 μ v vc:=by
 unfold GN at hi;split at hi
 ·rename_i hu;cases hi;simp only [EY,gE] at h;split at h
  ·rename_i s i hn;obtain ⟨s,rfl,rfl⟩:=hx.ef;obtain ⟨kk,rfl⟩:=kr hy hn;split at h
   ·rename_i b hb;cases h;rw [Fb] at hb;refine ⟨.int .u8 b.toNat,fun w=>?_,.int _ _⟩;simp [Instr.index,run_underlying hu,asIntOf,hb]
   ·cases h
  ·cases h
 ·rename_i len e hu;split at hi
  ·rename_i n r hn hr;cases hi;simp only [EY,CN] at h;split at h
   ·rename_i cs i hi;obtain ⟨vs,rfl,hc⟩:=hx.CW;obtain ⟨kk,rfl⟩:=kr hy hi;split at h
    ·rename_i hlt;obtain ⟨vc,h1,h2⟩:=uH hr hc h;refine ⟨vc,fun w=>?_,h2⟩;have:((i:Int)<(len:Int)):=by omega
     simp [Instr.index,run_underlying hu,asIntOf,hlt,iC hn,h1]
    ·cases h
   ·cases h
  ·cases hi
 ·cases hi
theorem yP{v:AV}(hx:VR w0 μ x xv)(h:aW x i=some v):∃ vc,(∀ w,(Instr.extract xv i).run P w = .ok vc w)/\VR w0 μ v vc:=by
 unfold aW at h;split at h
 ·obtain ⟨vs,rfl,hc⟩:=hx.xH;obtain ⟨vc,h1,h2⟩:=hc.get h;exact ⟨vc,fun w=>by simp [Instr.extract,h1],h2⟩
 ·cases h
theorem BU(hx:VR w0 μ x xv)(h:uw P t=some ()):(∀ w,(Instr.makeInterface t xv).run P w = .ok (.iface t xv) w)/\VR w0 μ (.iface t x) (.iface t xv):=by
 refine ⟨fun w=>?_,.iface t x xv hx⟩;unfold uw at h;split at h
 ·cases h
 ·rename_i d hd hu;simp only [Instr.makeInterface,Sem.run_bind,run_underlying hu,Result.andThen_ok];cases d<;>first|rfl|(exact absurd rfl (hd _))
 ·cases h
theorem Fe{mx:Bool}:∀ (ys:List AV) (x v:AV) (xv:Value) (Ms:List Value),VR w0 μ x xv->cj w0 μ ys Ms->xD mx x ys=some v ->
  ∃ vc,(∀ w,(Ms.foldlM (if mx then Builtin.max2 else Builtin.min2) xv).run P w = .ok vc w)/\VR w0 μ v vc:=by
 intro ys
 induction ys with
 |nil=>
  intro x v xv Ms hx hy h;obtain rfl:=hy.ee;cases h;exact ⟨xv,fun w=>by simp,hx⟩
 |cons y ys ih=>
  intro x v xv Ms hx hy h;obtain ⟨u,us,rfl,Qv,Kr⟩:=hy.cons_inv;simp only [xD] at h;split at h
  ·rename_i v' wE;unfold EU at wE;split at wE
   ·rename_i k a k' b;split at wE
    ·rename_i hk;subst hk;cases wE;rw [hx.dD,Qv.dD];obtain ⟨vc,h1,h2⟩:=ih _ v _ us (.int _ _) Kr h;refine ⟨vc,fun w=>?_,h2⟩;simp only [foldlM_cons,Sem.run_bind];cases mx<;>simp [Builtin.min2,Builtin.max2]<;>simpa using h1 w
    ·cases wE
   ·cases wE
  ·cases h
theorem uJ{x:Option AV}{xv:Option Value}{d:Nat}(hx:(x=none/\xv=none)\/∃ a v,x=some a/\xv=some v/\VR w0 μ a v)(h:j5 x d=some n) :
  (xv=none/\n=d)\/∃ k,xv=some (.int k (n:Int)):=by
 rcases hx with ⟨rfl,rfl⟩|⟨a,v,rfl,rfl,hr⟩
 ·simp [j5] at h;exact .inl ⟨rfl,h.symm⟩
 ·obtain ⟨k,rfl⟩:=kr hr h;exact .inr ⟨k,rfl⟩
theorem kR{isSlice:Bool}{len cap lo hi:Nat}{Jb GS:Option Value}(w:World)(h1:(Jb=none/\lo=0)\/∃ k,Jb=some (.int k (lo:Int)))(h2:(GS=none/\hi=len)\/∃ k,GS=some (.int k (hi:Int)))
  (hl:lo<=hi) (hh:hi<=cap):(Instr.sliceBounds isSlice len cap Jb GS none).run P w = .ok (lo,hi,cap) w:=by
 have e1:(0:Int)<=(lo:Int)/\(lo:Int)<=(hi:Int):=by omega
 have e2:(0:Int)<=(hi:Int)/\(hi:Int)<=(cap:Int):=by omega
 rcases h1 with ⟨rfl,rfl⟩|⟨k1,rfl⟩<;>rcases h2 with ⟨rfl,rfl⟩|⟨k2,rfl⟩<;>simp [Instr.sliceBounds,Instr.sliceBound,asIntOf,e1,e2,hl,hh]
theorem extract_toList(s:ByteArray)(lo hi:Nat)(hl:lo<=hi)(hh:hi<=s.size):(s.extract lo hi).data.toList=(s.data.toList.take hi).drop lo:=by
 simp only [ByteArray.data_extract,Array.toList_extract];rw [extract_eq_take_drop,drop_take]
theorem BV{i:Option Nat}{v:AV}{lo hi:Option AV}{Jb GS:Option Value}(hx:VR w0 μ x xv)
  (yQ:(lo=none/\Jb=none)\/∃ a v,lo=some a/\Jb=some v/\VR w0 μ a v) (Bx:(hi=none/\GS=none)\/∃ a v,hi=some a/\GS=some v/\VR w0 μ a v)
  (sW:yG P t=some i) (h:eX i x lo hi=some v):∃ vc,(∀ w,(Instr.sliceAt t xv Jb GS none).run P w = .ok vc w)/\VR w0 μ v vc:=by
 unfold eX at h;split at h
 ·cases h
 ·rename_i len hlen;split at h
  ·rename_i Is By hb1 hb2;split at h
   ·rename_i hc;simp only [and_eq_true,decide_eq_true_eq] at hc;have b1:=uJ Bx hb1;have b2:=uJ yQ hb2;unfold yG at sW;split at sW
    ·rename_i hu;cases sW;cases x<;>simp only [reduceCtorEq,Option.some.injEq] at h;rename_i l;subst h;obtain ⟨s,rfl,rfl⟩:=hx.ef
     have hl:Is<=s.size:=by
      simp only [iB,Option.some.injEq] at hlen;have:s.data.toList.length=s.size:=by rw [Array.length_toList];rfl
      omega
     have Qw:(GS=none/\Is=s.size)\/∃ k,GS=some (.int k (Is:Int)):=by
      rcases b1 with ⟨e1,e2⟩|e
      ·refine .inl ⟨e1,?_⟩;simp only [iB,Option.some.injEq] at hlen;have:s.data.toList.length=s.size:=by rw [Array.length_toList];rfl
       omega
      ·exact .inr e
     refine ⟨.string (s.extract By Is),fun w=>?_,?_⟩
     ·simp [Instr.sliceAt,Instr.slice,run_underlying hu,kR (P:=P) w b2 Qw hc.1 hl]
     ·rw [<- extract_toList s By Is hc.1 hl];exact .str _
    ·rename_i e hu;split at sW
     ·rename_i sz hsz;cases sW;cases x<;>simp only [reduceCtorEq,Option.some.injEq] at h
      ·subst h;simp only [iB,Option.some.injEq] at hlen;subst hlen;cases hx;obtain rfl:Is=0:=by omega
       obtain rfl:By=0:=by omega
       refine ⟨.slice none 0 0,fun w=>?_,.aE⟩;simp [Instr.sliceAt,Instr.slice,run_underlying hu,kR (P:=P) w b2 b1 (dR 0) (dR 0),iC hsz]
      ·rename_i b off n Qx;split at h
       ·rename_i hs;subst hs;cases h;simp only [iB,Option.some.injEq] at hlen;subst hlen;cases hx;rename_i cap a k hk hle ha;refine ⟨.slice (if cap=By then some a else some (a.add (By*sz))) (Is-By) (cap-By),fun w=>?_,?_⟩
        ·have hb:=kR (P:=P) (isSlice:=true) (len:=n) (cap:=cap) w b2 b1 hc.1 (by omega);simp [Instr.sliceAt,Instr.slice,run_underlying hu,hb,iC hsz]
        ·by_cases e:cap=By
         ·rw [if_pos e];exact .slice _ _ _ _ _ _ _ hk (by omega) (fun h0=>by omega)
         ·rw [if_neg e];refine .slice _ _ _ _ _ _ _ hk (by omega) (fun h0=>?_);obtain ⟨rfl,S9⟩:=ha (by omega);refine ⟨by rw [gB,Nat.add_assoc],?_⟩;have:(cap-By)*sz=cap*sz-By*sz:=Nat.sub_mul _ _ _;have h2:By*sz<=cap*sz:=mul_le_mul_right _ (by omega);omega
       ·cases h
      ·rename_i cs off n Qx;split at h
       ·rename_i hs;subst hs;cases h;simp only [iB,Option.some.injEq] at hlen;subst hlen;cases hx;rename_i cap a g o' vs hg hv hl hr ha hle;refine ⟨.slice (if cap=By then some a else some (a.add (By*sz))) (Is-By) (cap-By),fun w=>?_,?_⟩
        ·have hb:=kR (P:=P) (isSlice:=true) (len:=n) (cap:=cap) w b2 b1 hc.1 (by omega);simp [Instr.sliceAt,Instr.slice,run_underlying hu,hb,iC hsz]
        ·by_cases e:cap=By
         ·rw [if_pos e];exact .aL _ _ _ _ _ _ _ _ _ hg hl hv hr (by omega) (fun h0=>by omega)
         ·rw [if_neg e];refine .aL _ _ _ _ _ _ _ _ _ hg hl hv hr (by omega) (fun h0=>?_);obtain rfl:=ha (by omega);rw [gB,Nat.add_assoc]
       ·cases h
     ·cases sW
    ·cases sW
   ·cases h
  ·cases h
end
end Go.AM
namespace Go.AM
open List Nat Bool Option
open Go Go.RowKit
theorem c8{α:Type}:∀ (vs cs:List α) (off:Nat),(ct cs off vs).length=cs.length
 |[],cs,off=>rfl
 |v :: vs,cs,off=>by simp [ct,c8 vs]
section
variable {P:Program} {w0:World} {μ:Mu} {ρ:Operand->AV} {ρc:Operand->Value}
theorem cj.ct:∀ {xs ys:List AV} {us vs:List Value} (off:Nat),cj w0 μ xs us->cj w0 μ ys vs->cj w0 μ (AM.ct xs off ys) (AM.ct us off vs)
 |xs,[],us,vs,off,h,k=>by obtain rfl:=k.ee;exact h
 |xs,y :: ys,us,vs,off,h,k=>by
  obtain ⟨u,Ks,rfl,h1,h2⟩:=k.cons_inv;exact cj.ct (off+1) (h.set off h1) h2
theorem uK:∀ (vs:List Value) (j off:Nat) (cells:Array Value),
  ((vs.zipIdx j).foldl (fun cs (p:Value×Nat)=>cs.setIfInBounds (off+p.2) p.1) cells).toList=ct cells.toList (off+j) vs
 |[],j,off,cells=>rfl
 |v :: vs,j,off,cells=>by
  simp only [zipIdx_cons,foldl_cons,ct];rw [uK vs (j+1) off];simp [Nat.add_assoc]
theorem uL(place:Nat->Option (Nat×Nat)):∀ (is:List Nat) (ps:List (Nat×Nat)) (xs:List AV) (us:List Value) (zs cs:List AV) (cells:Array Value),
  is.length=ps.length->(∀ (k i:Nat) (p:Nat×Nat),is[k]?=some i->ps[k]?=some p->place i=some p)->cj w0 μ xs us->cj w0 μ zs cells.toList->kj zs ps xs=some cs ->
  ∃ gz,Instr.fill place cells (is.zip us)=some gz/\cj w0 μ cs gz.toList:=by
 intro is
 induction is with
 |nil=>
  intro ps xs us zs cs cells hl hp hx hz h;obtain rfl:ps = []:=eq_nil_of_length_eq_zero hl.symm
  cases xs with
  |nil=>cases h;exact ⟨cells,by simp [Instr.fill],hz⟩
  |cons x xs=>simp [kj] at h
 |cons i is ih=>
  intro ps xs us zs cs cells hl hp hx hz h
  cases ps with
  |nil=>simp at hl
  |cons p ps=>
   obtain ⟨off,n⟩:=p
   cases xs with
   |nil=>simp [kj] at h
   |cons x xs=>
    obtain ⟨u,Ks,rfl,hu,GU⟩:=hx.cons_inv;simp only [kj] at h;split at h
    ·rename_i hc;simp only [and_eq_true,decide_eq_true_eq] at hc;have me:=hu.cells hc.2;have e1:u.cells.size=n:=by rw [<- Array.length_toList,<- me.len];exact hc.1.1
     have e2:off+u.cells.size<=cells.size:=by rw [e1];have:=hc.1.2;rw [hz.len,Array.length_toList] at this;exact this
     have Gz:cj w0 μ (AM.ct zs off x.bV) (u.cells.zipIdx.foldl (fun cs (p:Value×Nat)=>cs.setIfInBounds (off+p.2) p.1) cells).toList:=by
      have:=uK u.cells.toList 0 off cells
      have e3:u.cells.zipIdx.foldl (fun cs (p:Value×Nat)=>cs.setIfInBounds (off+p.2) p.1) cells=(u.cells.toList.zipIdx 0).foldl (fun cs (p:Value×Nat)=>cs.setIfInBounds (off+p.2) p.1) cells:=by
       rw [<- Array.foldl_toList];simp
      rw [e3,this];exact cj.ct _ hz me
     obtain ⟨gz,h1,h2⟩:=ih ps xs Ks _ cs _ (by simpa using hl) (fun k i p a b=>hp (k+1) i p (by simpa using a) (by simpa using b)) GU Gz h;refine ⟨gz,?_,h2⟩;have EK:place i=some (off,n):=hp 0 i (off,n) rfl rfl;simp only [zip_cons_cons,Instr.fill,EK];rw [if_neg (by simp [e1];rw [<- e1];exact e2)];exact h1
    ·cases h
theorem BW{pl:List (Nat×Nat)}:∀ {is:List Nat} {ps:List (Nat×Nat)},CP pl is=some ps->is.length=ps.length/\∀ (k i:Nat) (p:Nat×Nat),is[k]?=some i->ps[k]?=some p->pl[i]?=some p:=by
 intro is
 induction is with
 |nil=>intro ps h;cases h;exact ⟨rfl,by simp⟩
 |cons i is ih=>
  intro ps h;simp only [CP] at h;split at h
  ·rename_i p Ta h1 h2;cases h;obtain ⟨e1,e2⟩:=ih h2;refine ⟨by simp [e1],fun k j q a b=>?_⟩
   cases k with
   |zero=>simp at a b;subst a;subst b;exact h1
   |succ k=>exact e2 k j q (by simpa using a) (by simpa using b)
  ·cases h
theorem iD{t:TypeId}{z:AV}(h:r8 P t=some z):∃ inf zv,P.info? t=some inf/\inf.zero=some zv/\z=ofConst zv:=by
 unfold r8 at h;split at h
 ·rename_i inf eV;split at h
  ·rename_i zv hz;cases h;exact ⟨inf,zv,eV,hz,rfl⟩
  ·cases h
 ·cases h
theorem mg{α β:Type}(l:List (Nat×α))(g:α->β):(l.map (·.1)).zip (l.map fun p=>g p.2)=l.map fun p=>(p.1,g p.2):=by
 induction l with
 |nil=>rfl
 |cons a l ih=>simp [ih]
theorem BX{t:TypeId}{parts:Array (Nat×Operand)}{v:AV}(hρ:∀ x,VR w0 μ (ρ x) (ρc x))
  (h:((yE P t (parts.toList.map (·.1))).bind fun i=>ko i.1 i.2 (parts.toList.map fun p=>ρ p.2))=some v) :
  ∃ vc,(∀ w,(Instr.build t (parts.map fun (i,x)=>(i,ρc x))).run P w = .ok vc w)/\VR w0 μ v vc:=by
 obtain ⟨i,hi,ha⟩:=bind_eq_some_iff.1 h;unfold ko at ha;split at ha
 ·rename_i cs hcs;cases ha;unfold yE at hi;split at hi
  ·rename_i fs hu;split at hi
   ·rename_i z pl hz EK;split at hi
    ·rename_i ps Jc;split at hi
     ·rename_i nw;cases hi;obtain ⟨inf,zv,eV,z7,rfl⟩:=iD hz;obtain ⟨e1,e2⟩:=BW Jc;have hx:cj w0 μ (parts.toList.map fun p=>ρ p.2) (parts.toList.map fun p=>ρc p.2):=cj.map _ fun a _=>hρ a.2;obtain ⟨gz,h1,h2⟩:=uL (w0:=w0) (μ:=μ) (pl.toArray[·]?) _ ps _ _ _ cs zv.cells e1 (fun k i p a b=>by simpa using e2 k i p a b) hx ((VR.ofConst zv).cells nw) hcs;rw [mg] at h1;refine ⟨.agg gz,fun w=>?_,?_⟩
      ·refine run_build w t _ gz ?_;unfold Program.built;rw [eV,hu];simp only [z7];have MW:fs.toList.mapM (fun f=>(P.info? f.type).map fun i=>(f.offset,i.size))=some pl:=EK;rw [MW];simpa using h1
      ·have:=h2.agg;simpa using this
     ·cases hi
    ·cases hi
   ·cases hi
  ·rename_i n e hu;split at hi
   ·rename_i z ie hz Qy;split at hi
    ·rename_i nw;cases hi;obtain ⟨inf,zv,eV,z7,rfl⟩:=iD hz;have hx:cj w0 μ (parts.toList.map fun p=>ρ p.2) (parts.toList.map fun p=>ρc p.2):=cj.map _ fun a _=>hρ a.2
     obtain ⟨gz,h1,h2⟩:=uL (w0:=w0) (μ:=μ) (fun i=>some (i*ie.size,ie.size)) (parts.toList.map (·.1)) ((parts.toList.map (·.1)).map fun i=>(i*ie.size,ie.size)) _ _ _ cs zv.cells (by simp) (fun k i p a b=>by
      rw [getElem?_map,a] at b;simpa using b) hx ((VR.ofConst zv).cells nw) hcs
     rw [mg] at h1;refine ⟨.agg gz,fun w=>?_,?_⟩
     ·refine run_build w t _ gz ?_;unfold Program.built;rw [eV,hu];simp only [z7,Qy];simpa using h1
     ·have:=h2.agg;simpa using this
    ·cases hi
   ·cases hi
  ·cases hi
 ·cases ha
theorem Ff(hρ:∀ x,VR w0 μ (ρ x) (ρc x))(lo:Option Operand):(lo.map ρ=none/\lo.map ρc=none)\/∃ a v,lo.map ρ=some a/\lo.map ρc=some v/\VR w0 μ a v:=by
 cases lo with
 |none=>exact .inl ⟨rfl,rfl⟩
 |some x=>exact .inr ⟨_,_,rfl,rfl,hρ x⟩
theorem z8{xt a:TypeId}{ok:Bool}{z x v:AV}{xv:Value}(hx:VR w0 μ x xv)(hi:tP P a ok=some z)(h:tO a z x=some v) :
  ∃ vc,(∀ w,(Instr.typeAssert xv xt a ok).run P w = .ok vc w)/\VR w0 μ v vc:=by
 unfold tP at hi;split at hi
 ·cases hi
 ·rename_i d hu hd;obtain ⟨inf,zv,h1,h2,rfl⟩:=iD hi;have hz:∀ w,(zeroValue a).run P w = .ok zv w:=fun w=>by simp [zeroValue,typeInfo,h1,h2]
  unfold tO at h;split at h
  ·cases h;cases hx;refine ⟨.tuple #[zv,.bool false],fun w=>?_,cj.tuple (.cons (VR.ofConst zv) (.cons (.bool false) .nil))⟩;cases d<;>first|(simp [Instr.typeAssert,run_underlying hd,hz];done)|(exfalso;simp_all)
  ·rename_i t y;cases h;cases hx;rename_i yv hy;by_cases e:t=a
   ·subst e;rw [if_pos rfl];refine ⟨.tuple #[yv,.bool true],fun w=>?_,cj.tuple (.cons hy (.cons (.bool true) .nil))⟩;cases d<;>first|(simp [Instr.typeAssert,run_underlying hd];done)|(exfalso;simp_all)
   ·rw [if_neg e];refine ⟨.tuple #[zv,.bool false],fun w=>?_,cj.tuple (.cons (VR.ofConst zv) (.cons (.bool false) .nil))⟩;cases d<;>first|(simp [Instr.typeAssert,run_underlying hd,hz,e];done)|(exfalso;simp_all)
  ·cases h
 ·cases hi
theorem Aa(hρ:∀ x,VR w0 μ (ρ x) (ρc x)){o:Oper}(hk:cP o.op = .pure){v:AV}(h:iu P ρ o.op=some v) :
  ∃ vc,(∀ w,(execOp ρc o).run P w = .ok (.value vc) w)/\VR w0 μ v vc:=by
 obtain ⟨dst,op,type,pos,after,guard⟩:=o;cases op<;>simp only [cP,reduceCtorEq] at hk<;>simp only [iu] at h
 case move x=>cases h;exact ⟨ρc x,fun w=>by simp [execOp],hρ x⟩
 case assign x=>cases h;exact ⟨ρc x,fun w=>by simp [execOp],hρ x⟩
 case pick c a b=>
  obtain ⟨t,ht,hv⟩:=DI (hρ c) (hρ a) (hρ b) h;exact ⟨_,fun w=>by simp [execOp,ht,asBool],hv⟩
 case build t ps=>
  obtain ⟨vc,h1,h2⟩:=BX (ρc:=ρc) hρ h;exact ⟨vc,fun w=>by simp [execOp,h1],h2⟩
 case nilCheck x=>
  obtain ⟨h1,h2⟩:=wJ (hρ x) h;refine ⟨ρc x,fun w=>?_,h1⟩;rcases h2 with ⟨a,ha⟩|⟨f,a,b,ha⟩<;>simp [execOp,ha]
 case binOp op t x y u=>
  have KW:∀ vc,(∀ w,(binOp op t (ρc x) (ρc y)).run P w = .ok vc w)->(ρc x≠.nilIface/\∀ c,ρc x≠.agg c)->∀ w,(execOp ρc ⟨dst,.binOp op t x y u,type,pos,after,guard⟩).run P w = .ok (.value vc) w:=
   fun vc h1 h2 w=>by simp [execOp,wK h2.1 h2.2,h1]
  cases op
  case eql=>
   obtain ⟨d,hd,he⟩:=bind_eq_some_iff.1 h;unfold fQ at he;split at he
   ·rename_i b hb;cases he;obtain ⟨h1,_,h3⟩:=z6 hd (hρ x) (hρ y) hb;exact ⟨.bool b,KW _ h1 h3,.bool b⟩
   ·cases he
  case neq=>
   obtain ⟨d,hd,he⟩:=bind_eq_some_iff.1 h;unfold jN at he;split at he
   ·rename_i b hb;cases he;obtain ⟨_,h1,h3⟩:=z6 hd (hρ x) (hρ y) hb;exact ⟨.bool (!b),KW _ h1 h3,.bool _⟩
   ·cases he
  all_goals
   obtain ⟨vc,h1,h2⟩:=E8 (P:=P) (t:=t) (hρ x) (hρ y) h (by simp) (by simp);refine ⟨vc,fun w=>?_,h2⟩;simp [execOp,eqGuard,h1]
 case unOp op t x=>
  obtain ⟨vc,h1,h2⟩:=GP (P:=P) (hρ x) h;exact ⟨vc,fun w=>by simp [execOp,h1],h2⟩
 case makeInterface t x=>
  obtain ⟨_,hi,he⟩:=bind_eq_some_iff.1 h;cases he;obtain ⟨h1,h2⟩:=BU (P:=P) (hρ x) hi;exact ⟨_,fun w=>by simp [execOp,h1],h2⟩
 case makeFunc fn first cap=>
  cases fn<;>simp only [reduceCtorEq,Option.some.injEq] at h;rename_i f;subst h;have h1:cj w0 μ (first.toList.map ρ) (first.toList.map ρc):=cj.map _ fun a _=>hρ a;have h2:cj w0 μ (cap.toList.map ρ) (cap.toList.map ρc):=cj.map _ fun a _=>hρ a;refine ⟨.func (.func f) (first.toList.map ρc).toArray (cap.toList.map ρc).toArray,fun w=>?_,.func f _ _ _ _ h1.len h2.len h1.rel h2.rel⟩;have e1:∀ a:Array Operand,a.map ρc=(a.toList.map ρc).toArray:=fun a=>by apply Array.ext';simp
  simp only [execOp,Instr.makeFunc,e1];rfl
 case slice t x lo hi mx=>
  cases mx with
  |some m=>cases h
  |none=>
   obtain ⟨i,sW,he⟩:=bind_eq_some_iff.1 h;obtain ⟨vc,h1,h2⟩:=BV (hρ x) (Ff hρ lo) (Ff hρ hi) sW he;exact ⟨vc,fun w=>by simp [execOp,h1],h2⟩
 case fieldAddr t x i=>
  obtain ⟨o,hi,he⟩:=bind_eq_some_iff.1 h;obtain ⟨vc,h1,h2⟩:=GQ (hρ x) hi he;exact ⟨vc,fun w=>by simp [execOp,h1],h2⟩
 case field t x i=>
  obtain ⟨o,hi,he⟩:=bind_eq_some_iff.1 h;obtain ⟨vc,h1,h2⟩:=BT (hρ x) hi he;exact ⟨vc,fun w=>by simp [execOp,h1],h2⟩
 case indexAddr t x i=>
  obtain ⟨o,hi,he⟩:=bind_eq_some_iff.1 h;obtain ⟨vc,h1,h2⟩:=Fa (hρ x) (hρ i) hi he;exact ⟨vc,fun w=>by simp [execOp,h1],h2⟩
 case index t x i=>
  obtain ⟨o,hi,he⟩:=bind_eq_some_iff.1 h;obtain ⟨vc,h1,h2⟩:=Fc (hρ x) (hρ i) hi he;exact ⟨vc,fun w=>by simp [execOp,h1],h2⟩
 case extract x i=>
  obtain ⟨vc,h1,h2⟩:=yP (P:=P) (hρ x) h;exact ⟨vc,fun w=>by simp [execOp,h1],h2⟩
 case typeAssert x xt a ok=>
  obtain ⟨z,hi,he⟩:=bind_eq_some_iff.1 h;obtain ⟨vc,h1,h2⟩:=z8 (P:=P) (xt:=xt) (hρ x) hi he;exact ⟨vc,fun w=>by simp [execOp,h1],h2⟩
 case call c=>
  obtain ⟨qP,args,ts⟩:=c
  cases qP with
  |value f=>simp [cO] at hk
  |invoke r m=>simp [cO] at hk
  |builtin b=>
   cases b<;>simp only [cO,reduceCtorEq] at hk
   all_goals
    have hx:cj w0 μ (args.toList.map ρ) (args.toList.map ρc):=cj.map _ fun a _=>hρ a;simp only at h;split at h
    ·rename_i x xs GA;rw [GA] at hx;obtain ⟨u,us,GU,h1,h2⟩:=hx.cons_inv;obtain ⟨vc,h3,h4⟩:=Fe (P:=P) _ _ _ _ _ h1 h2 h;refine ⟨vc,fun w=>?_,h4⟩;have h5:=h3 w;simp at h5;simp [execOp,resolve,invoke,builtin,Builtin.max_,Builtin.min_,GU,h5]
    ·cases h
end
end Go.AM
namespace Go.AM
open List Nat Bool Option
open Go Go.RowKit
variable {d:TypeDesc} {kv xv:Value} {t kt:TypeId} {dN:List MapEntry} {cs:List AV} {es:List Entry} {k v x:AV} {c:Nat}
def g6(P:Program)(ρ:Operand->AV)(h:Heap):Op->Option AV
 |.load t a=>(nG P t).bind fun i=>au i (ρ a) h
 |.lookup t x i ok=>(kP P t).bind fun d=>dy d.1 d.2 ok (ρ x) (ρ i) h
 |.call c=>(match c.callee with
  |.builtin .len=>(match c.argTypes.toList,c.args.toList.map ρ with
   |t :: _,[x]=>(GO P t).bind fun i=>bB i x h
   |_,_=>none)
  |_=>none)
 |_=>none
theorem ku{P:Program}{ρ:Operand->AV}{op:Op}(hk:cP op = .read)(h:Heap)(K:AV->Heap->Bool):dY op P ρ h K=af (g6 P ρ h op) fun v=>K v h:=by
 cases op<;>simp only [cP,reduceCtorEq] at hk
 case load=>simp only [dY,gw,g6,ey]
 case lookup=>simp only [dY,zU,gw,g6,ey]
 case call c=>
  obtain ⟨qP,args,ts⟩:=c
  cases qP with
  |value f=>simp [cO] at hk
  |invoke r m=>simp [cO] at hk
  |builtin b=>
   cases b<;>simp only [cO,reduceCtorEq] at hk;simp only [dY,l6,xF,BL,g6]
   cases h1:ts.toList with
   |nil=>rfl
   |cons t l=>cases h2:args.toList.map ρ with
    |nil=>rfl
    |cons x l2=>cases l2 with
     |nil=>simp only [gw,ey]
     |cons y l3=>rfl
section
variable {P:Program} {w0 w:World} {μ:Mu} {h:Heap} {ρ:Operand->AV} {ρc:Operand->Value}
theorem cell_of{vs:Array Value}{e:TypeId}{fr:Nat×Nat}(ho:w.heap[c]?=some (.cells vs e fr))(i:Nat):w.cell? ⟨c,i,none⟩=vs[i]?:=by
 simp [World.cell?,ho]
theorem Good.cells(hg:Good w0 μ h w){b:Nat}{k:yM}(hk:μ b=some k)(ho:h.get b=some (.cells cs)) :
  ∀ (i:Nat) (x:AV),cs[i]?=some x->∃ v,w.cell? ⟨k.c,k.base+i,none⟩=some v/\VR w0 μ x v:=by
 obtain ⟨vs,e,fr,h1,h2,h3,h4,h5⟩:=hg.obj b k _ hk ho;intro i x hx;obtain ⟨v,a,b⟩:=h5 i x hx;exact ⟨v,by rw [cell_of h1];exact a,b⟩
theorem Good.BY(hg:Good w0 μ h w){g o:Nat}{vs:List Value}(It:True)(hl:cs.length=vs.length)
  (hv:∀ (i:Nat) (v:Value),vs[i]?=some v->μ.cell g (o+i)=some v) (hr:∀ (i:Nat) (x:AV) (v:Value),cs[i]?=some x->vs[i]?=some v->VR w0 μ x v) :
  ∀ (i:Nat) (x:AV),cs[i]?=some x->∃ v,w.cell? ⟨g,o+i,none⟩=some v/\VR w0 μ x v:=by
 intro i x hx;obtain ⟨v,a,b⟩:=(cj.mk hl hr).get hx;have hc:=hv i v a;unfold Mu.cell at hc;obtain ⟨zs,hz,hi⟩:=bind_eq_some_iff.1 hc;obtain ⟨arr,e,fr,h1,h2⟩:=hg.uC g zs hz;refine ⟨v,?_,b⟩;rw [cell_of h1,<- hi,<- h2,Array.getElem?_toList]
theorem oc{base:Nat}(hc:∀ (i:Nat) (x:AV),cs[i]?=some x->∃ v,w.cell? ⟨c,base+i,none⟩=some v/\VR w0 μ x v) :
  ∀ (n off:Nat),off+n<=cs.length->∃ vs:List Value,vs.length=n/\(∀ (j:Nat) (v:Value),vs[j]?=some v->w.cell? ⟨c,base+off+j,none⟩=some v)/\cj w0 μ ((cs.drop off).take n) vs:=by
 intro n
 induction n with
 |zero=>intro off hle;exact ⟨[],rfl,by simp,by simpa using cj.nil⟩
 |succ n ih=>
  intro off hle;obtain ⟨vs,h1,h2,h3⟩:=ih (off+1) (by omega);have hx:cs[off]?=some (cs[off]'(by omega)):=fc (by omega);obtain ⟨v,hv,hr⟩:=hc off _ hx;refine ⟨v :: vs,by simp [h1],fun j u hj=>?_,?_⟩
  ·cases j with
   |zero=>simp at hj;subst hj;exact hv
   |succ j=>
    have:=h2 j u (by simpa using hj)
    rwa [show base+off+(j+1)=base+(off+1)+j by omega]
  ·rw [drop_eq_getElem_cons (by omega),take_succ_cons];exact .cons hr h3
theorem jP{r:Option Nat}(hr:nG P t=some r){base off:Nat}(hc:∀ (i:Nat) (x:AV),cs[i]?=some x->∃ v,w.cell? ⟨c,base+i,none⟩=some v/\VR w0 μ x v)
  (h:ir r cs off=some v):∃ vc,(loadVar t ⟨c,base+off,none⟩).run P w = .ok vc w/\VR w0 μ v vc:=by
 rcases uG hr with ⟨n,rfl,h1,h2⟩|⟨rfl,h1⟩
 ·simp only [ir] at h;split at h
  ·rename_i hle;cases h;obtain ⟨vs,e1,e2,e3⟩:=oc hc n off hle;refine ⟨.agg vs.toArray,?_,e3.agg⟩;have:=run_loadCells_list (P:=P) w ⟨c,base+off,none⟩ vs (fun j u hj=>by rw [gB];exact e2 j u hj);rw [e1] at this;simp [loadVar,h1,h2,this]
  ·cases h
 ·simp only [ir] at h;obtain ⟨u,hu,hr⟩:=hc off v h;exact ⟨u,by simp [loadVar,h1,hu],hr⟩
theorem DL(hg:Good w0 μ h w){r:Option Nat}(hr:nG P t=some r)(hx:VR w0 μ x xv)(hl:au r x h=some v) :
  ∃ vc,(Instr.loadAt t xv).run P w = .ok vc w/\VR w0 μ v vc:=by
 unfold au at hl;split at hl
 ·rename_i b off;split at hl
  ·rename_i cs ho;cases hx;rename_i k hk;obtain ⟨vc,h1,h2⟩:=jP hr (hg.cells hk ho) hl;exact ⟨vc,by simp [Instr.loadAt,Instr.sureAddr,h1],h2⟩
  ·cases hl
 ·rename_i cs off;cases hx;rename_i g o vs It hv uM ua;obtain ⟨vc,h1,h2⟩:=jP hr (hg.BY It uM hv ua) hl;exact ⟨vc,by simp [Instr.loadAt,Instr.sureAddr,h1],h2⟩
 ·cases hl
structure iW (w0:World) (μ:Mu) (es:List Entry) (dN:List MapEntry):Prop where
 len:dN.length=es.length
 rel:∀ (i:Nat) (k v:AV) (n:Nat),es[i]?=some (k,v,n)->∃ e,dN[i]?=some e/\VR w0 μ k e.key/\VR w0 μ v e.val/\e.born=n
theorem iW.cons_inv{n:Nat}(h:iW w0 μ ((k,v,n) :: es) dN) :
  ∃ e wL,dN=e :: wL/\VR w0 μ k e.key/\VR w0 μ v e.val/\e.born=n/\iW w0 μ es wL:=by
 cases dN with
 |nil=>exact absurd h.len (by simp)
 |cons e dN=>
  obtain ⟨e',h1,h2,h3,h4⟩:=h.rel 0 k v n rfl;simp at h1;subst h1
  exact ⟨e,dN,rfl,h2,h3,h4,by have:=h.len;simpa using this,fun i k v n hi=>by
   have:=h.rel (i+1) k v n (by simpa using hi)
   simpa using this⟩
theorem iW.ee(h:iW w0 μ [] dN):dN = []:=eq_nil_of_length_eq_zero (by simpa using h.len)
theorem Good.map(hg:Good w0 μ h w){b:Nat}{k:yM}(hk:μ b=some k){es:List Entry}{ck:Nat}(ho:h.get b=some (.map es ck)) :
  ∃ dN:Array MapEntry,w.heap[k.c]?=some (.map dN ck)/\iW w0 μ es dN.toList:=by
 obtain ⟨dN,h1,h2,h3⟩:=hg.obj b k _ hk ho;exact ⟨dN,h1,by simpa using h2,fun i k v n hi=>by simpa using h3 i k v n hi⟩
theorem DM(hk:VR w0 μ k kv)(h:lI d k=true) :
  (∃ j i n,d = .int j/\k = .int i n/\kv = .int i n)\/(∃ s:ByteArray,d = .string/\k = .str s.data.toList/\kv = .string s)\/(∃ b,d = .bool/\k = .bool b/\kv = .bool b):=by
 unfold lI at h;split at h
 ·rw [hk.dD];exact .inl ⟨_,_,_,rfl,rfl,rfl⟩
 ·obtain ⟨s,rfl,rfl⟩:=hk.ef;exact .inr (.inl ⟨s,rfl,rfl,rfl⟩)
 ·rw [hk.eH];exact .inr (.inr ⟨_,rfl,rfl,rfl⟩)
 ·cases h
theorem run_checkKey(hd:P.underlying kt=some d)(hk:VR w0 μ k kv)(h:lI d k=true)(e:Bool)(n:Nat) :
  (Instr.checkKey e (n+1) kt kv).run P w = .ok () w:=by
 rcases DM hk h with ⟨j,i,m,rfl,rfl,rfl⟩|⟨s,rfl,rfl,rfl⟩|⟨b,rfl,rfl,rfl⟩<;>simp [Instr.checkKey,run_underlying hd]
theorem xI(hk:VR w0 μ k kv)(hx:VR w0 μ x xv){b:Bool}(h:nH d k x=some b):Instr.sameNow d kv xv=some b:=by
 unfold nH at h;split at h
 ·rename_i k1 a k2 b';rw [hk.dD,hx.dD];simpa [Instr.sameNow] using h
 ·obtain ⟨s,rfl,rfl⟩:=hk.ef;obtain ⟨u,rfl,rfl⟩:=hx.ef;cases h;simp only [Instr.sameNow,Option.some.injEq];rw [beq_toListBytes,ByteArray.toList_eq,ByteArray.toList_eq]
 ·rw [hk.eH,hx.eH];cases h;rfl
 ·cases h
theorem gS(hk:VR w0 μ k kv):∀ (es:List Entry) (dN:List MapEntry) (i:Nat) (r:Option (Nat×AV)),iW w0 μ es dN->gP d k es i=some r ->
  ∃ r',Instr.findNow d kv dN i=some r'/\((r=none/\r'=none)\/∃ j v vc,r=some (j,v)/\r'=some (j,vc)/\VR w0 μ v vc/\i<=j/\∃ e,es[j-i]?=some e/\e.2.1=v/\nH d k e.1=some true):=by
 intro es
 induction es with
 |nil=>intro dN i r he h;obtain rfl:=he.ee;cases h;exact ⟨none,rfl,.inl ⟨rfl,rfl⟩⟩
 |cons e es ih=>
  intro dN i r he h;obtain ⟨x,v,n⟩:=e;obtain ⟨c,wL,rfl,h1,h2,h3,h4⟩:=he.cons_inv;simp only [gP] at h;split at h
  ·rename_i hb;cases h;refine ⟨some (i,c.val),?_,.inr ⟨i,v,c.val,rfl,rfl,h2,dR _,(x,v,n),by simp,rfl,hb⟩⟩;simp [Instr.findNow,xI hk h1 hb]
  ·rename_i hb;obtain ⟨r',h5,h6⟩:=ih wL (i+1) r h4 h;refine ⟨r',by simp [Instr.findNow,xI hk h1 hb,h5],?_⟩;rcases h6 with h6|⟨j,v',vc,a,b,c',hij,e',GV,wE⟩
   ·exact .inl h6
   ·refine .inr ⟨j,v',vc,a,b,c',by omega,e',?_,wE⟩;rw [show j-i=(j-(i+1))+1 by omega];simpa using GV
  ·cases h
theorem run_findKey(hd:P.underlying kt=some d){r:Option (Nat×Value)}(h:Instr.findNow d kv dN 0=some r):(Instr.findKey kt kv dN).run P w = .ok r w:=by
 simp [Instr.findKey,run_underlying hd,h]
theorem m7{o:TypeDesc×TypeId}(h:zT P t=some o):∃ kt,P.underlying t=some (.map kt o.2)/\P.underlying kt=some o.1:=by
 unfold zT at h;split at h
 ·rename_i k e hu;split at h
  ·rename_i d hd;cases h;exact ⟨k,hu,hd⟩
  ·cases h
 ·cases h
theorem fV{r:Option (Nat×AV)}(h:lJ d k es=some r):lI d k=true/\gP d k es 0=some r:=by
 unfold lJ at h;split at h
 ·exact ⟨‹_›,h⟩
 ·cases h
theorem gC{inf:TypeInfo}{zv:Value}(hi:P.info? t=some inf)(hz:inf.zero=some zv)(w:World):(zeroValue t).run P w = .ok zv w:=by simp [zeroValue,typeInfo,hi,hz]
theorem se{et:TypeId}(hu:P.underlying t=some (.map kt et))(hd:P.underlying kt=some d){z:AV}(hz:r8 P et=some z)(hk:VR w0 μ k kv)
  {dN:Array MapEntry} (he:iW w0 μ es dN.toList) (GW:(xv = .map none/\dN = #[])\/∃ r ck,xv = .map (some r)/\w.heap[r]?=some (.map dN ck)) {ok:Bool}
  (h:(match lJ d k es with
   |some (some (_,v))=>some (if ok then .tuple [v,.bool true] else v)
   |some none=>some (if ok then .tuple [z,.bool false] else z)
   |none=>none)=some v):∃ vc,(Instr.lookup t xv kv ok).run P w = .ok vc w/\VR w0 μ v vc:=by
 obtain ⟨inf,zv,eV,z7,rfl⟩:=iD hz;have hz0:=gC (P:=P) eV z7 w
 have step:∀ r',Instr.findNow d kv dN.toList 0=some r'->lI d k=true ->
   (Instr.lookup t xv kv ok).run P w=(match r' with
    |some (_,u)=>.ok (if ok then .tuple #[u,.bool true] else u) w
    |none=>.ok (if ok then .tuple #[zv,.bool false] else zv) w):=by
  intro r' ua yR;have KX:=fun b=>run_checkKey (w:=w) hd hk yR b 9999;have CX:=run_findKey (w:=w) hd ua;have nx:∀ b,(Instr.checkKey b 10000 kt kv).run P w = .ok () w:=KX;rcases GW with ⟨rfl,rfl⟩|⟨r,ck,rfl,ho⟩
  ·simp only [Instr.lookup,Sem.run_bind,run_underlying hu,Result.andThen_ok,Sem.run_pure,nx,CX]
   cases r' with
   |none=>simp [hz0]
   |some p=>obtain ⟨j,u⟩:=p;simp
  ·have xJ:(getObj r).run P w = .ok (.map dN ck) w:=by simp [getObj,Sem.run,ho]
   simp only [Instr.lookup,Sem.run_bind,run_underlying hu,Result.andThen_ok,Sem.run_pure,xJ,nx,CX]
   cases r' with
   |none=>simp [hz0]
   |some p=>obtain ⟨j,u⟩:=p;simp
 split at h
 ·rename_i p j v' hf;obtain ⟨yR,xK⟩:=fV hf;obtain ⟨r',h1,h2⟩:=gS hk es dN.toList 0 _ he xK;rcases h2 with ⟨a,_⟩|⟨j',Jd,vc,a,rfl,h3,_⟩
  ·cases a
  ·cases a;refine ⟨_,step _ h1 yR,?_⟩;cases h;cases ok
   ·exact h3
   ·exact cj.tuple (.cons h3 (.cons (.bool true) .nil))
 ·rename_i hf;obtain ⟨yR,xK⟩:=fV hf;obtain ⟨r',h1,h2⟩:=gS hk es dN.toList 0 _ he xK;rcases h2 with ⟨_,rfl⟩|⟨j',Jd,vc,a,_⟩
  ·refine ⟨_,step _ h1 yR,?_⟩;cases h;cases ok
   ·exact VR.ofConst zv
   ·exact cj.tuple (.cons (VR.ofConst zv) (.cons (.bool false) .nil))
  ·cases a
 ·cases h
theorem Ab(hg:Good w0 μ h w){o:TypeDesc×AV}(hi:kP P t=some o){m:AV}{mv:Value}(hm:VR w0 μ m mv)(hk:VR w0 μ k kv){ok:Bool}
  (hl:dy o.1 o.2 ok m k h=some v):∃ vc,(Instr.lookup t mv kv ok).run P w = .ok vc w/\VR w0 μ v vc:=by
 unfold kP at hi;split at hi
 ·rename_i d e MX;split at hi
  ·rename_i z hz;cases hi;obtain ⟨kt,hu,hd⟩:=m7 MX;unfold dy iT at hl;split at hl
   ·cases hl
   ·rename_i es Iu;split at Iu
    ·cases Iu;cases hm;exact se hu hd hz hk (es:=[]) (dN:=#[]) ⟨rfl,by simp⟩ (.inl ⟨rfl,rfl⟩) hl
    ·rename_i b;split at Iu
     ·rename_i kS ck ho;cases Iu;cases hm;rename_i kk hkk;obtain ⟨dN,h1,h2⟩:=hg.map hkk ho;exact se hu hd hz hk h2 (.inr ⟨_,ck,rfl,h1⟩) hl
     ·cases Iu
    ·cases Iu
  ·cases hi
 ·cases hi
theorem Fg(hg:Good w0 μ h w){ty:TypeId}{ts:List TypeId}{i:I0}(hi:GO P t=some i)(hx:VR w0 μ x xv)(hl:bB i x h=some v) :
  ∃ vc,(Builtin.len_ (t :: ts).toArray ty #[xv]).run P w = .ok vc w/\VR w0 μ v vc:=by
 unfold GO at hi;split at hi
 ·rename_i hu;cases hi;cases x<;>simp only [bB,reduceCtorEq,Option.some.injEq] at hl;subst hl;obtain ⟨s,rfl,rfl⟩:=hx.ef;refine ⟨.int .i64 s.size,by simp [Builtin.len_,run_underlying hu,goInt],?_⟩;have:s.data.toList.length=s.size:=by rw [Array.length_toList];rfl
  rw [this];exact .int _ _
 ·rename_i e hu;cases hi;cases x<;>simp only [bB,reduceCtorEq,Option.some.injEq] at hl<;>subst hl<;>cases hx<;>exact ⟨.int .i64 _,by simp [Builtin.len_,run_underlying hu,goInt],.int _ _⟩
 ·rename_i k e hu;cases hi;cases x<;>simp only [bB,reduceCtorEq,Option.some.injEq] at hl
  ·subst hl;cases hx;exact ⟨.int .i64 0,by simp [Builtin.len_,run_underlying hu,goInt],.int _ _⟩
  ·split at hl
   ·rename_i es ck ho;cases hl;cases hx;rename_i kk hkk;obtain ⟨dN,h1,h2⟩:=hg.map hkk ho;refine ⟨.int .i64 es.length,?_,.int _ _⟩;have:=h2.len;simp at this;simp [Builtin.len_,run_underlying hu,goInt,getObj,Sem.run,h1,this]
   ·cases hl
 ·rename_i n e hu;cases hi;simp only [bB,Option.some.injEq] at hl;subst hl;exact ⟨.int .i64 n,by simp [Builtin.len_,run_underlying hu,goInt],.int _ _⟩
 ·cases hi
theorem Ac(hg:Good w0 μ h w)(hρ:∀ x,VR w0 μ (ρ x) (ρc x)){o:Oper}(hk:cP o.op = .read)(hv:g6 P ρ h o.op=some v) :
  ∃ vc,(execOp ρc o).run P w = .ok (.value vc) w/\VR w0 μ v vc:=by
 obtain ⟨dst,op,type,pos,after,guard⟩:=o;cases op<;>simp only [cP,reduceCtorEq] at hk<;>simp only [g6] at hv
 case load t a=>
  obtain ⟨i,hi,he⟩:=bind_eq_some_iff.1 hv;obtain ⟨vc,h1,h2⟩:=DL hg hi (hρ a) he;exact ⟨vc,by simp [execOp,h1],h2⟩
 case lookup t x i ok=>
  obtain ⟨d,hi,he⟩:=bind_eq_some_iff.1 hv;obtain ⟨vc,h1,h2⟩:=Ab hg hi (hρ x) (hρ i) he;exact ⟨vc,by simp [execOp,h1],h2⟩
 case call c=>
  obtain ⟨qP,args,ts⟩:=c
  cases qP with
  |value f=>simp [cO] at hk
  |invoke r m=>simp [cO] at hk
  |builtin b=>
   cases b<;>simp only [cO,reduceCtorEq] at hk;simp only at hv;split at hv
   ·rename_i t l x e1 e2;obtain ⟨i,hi,he⟩:=bind_eq_some_iff.1 hv;have hx:cj w0 μ (args.toList.map ρ) (args.toList.map ρc):=cj.map _ fun a _=>hρ a;rw [e2] at hx;obtain ⟨u,us,GU,h1,h2⟩:=hx.cons_inv;obtain rfl:=h2.ee;obtain ⟨vc,h3,h4⟩:=Fg (ty:=type) (ts:=l) hg hi h1 he;refine ⟨vc,?_,h4⟩;have ea:args.map ρc = #[u]:=by apply Array.ext';simpa using GU
    have et:ts=(t :: l).toArray:=(by apply Array.ext';simpa using e1);simp only [execOp,resolve,invoke,builtin,Sem.run_bind,Sem.run_pure,Result.andThen_ok,ea,et,h3]
   ·cases hv
end
end Go.AM
namespace Go.AM
open List Nat Bool Option
open Go Go.RowKit
inductive AK where
 |ptr
 |slice (n sz:Nat)
 |map
def AK.val:AK->Nat->AV
 |.ptr,b=>.ptr b 0
 |.slice n sz,b=>.slice b 0 n sz
 |.map,b=>.map b
def jw(P:Program)(ρ:Operand->AV):Op->Option (AK×gh)
 |.alloc t=>(iA P t).bind fun z=>some (.ptr,.cells z)
 |.box _ x=>(eR (ρ x)).bind fun cs=>some (.ptr,.cells cs)
 |.buildSlice t n ps=>(GM P t n (ps.toList.map (·.1))).bind fun i=>(eY i.2.1 i.2.2 (ps.toList.map fun p=>ρ p.2)).bind fun cs=>some (.slice n i.1,.cells cs)
 |.makeMap _ r=>(match r with|none=>some (.map,.map [] 0)|some _=>none)
 |.makeSlice t l c=>(uu P t).bind fun i=>(nU i.2.1 (ρ l) (ρ c)).bind fun n=>some (.slice n i.1,.cells (ec i.2.2 n))
 |_=>none
theorem kT{P:Program}{ρ:Operand->AV}{op:Op}(hk:cP op = .alloc)(h:Heap)(K:AV->Heap->Bool) :
  dY op P ρ h K=af (jw P ρ op) fun p=>K (p.1.val h.next) (h.alloc p.2):=by
 cases op<;>simp only [cP,reduceCtorEq] at hk
 case alloc t=>simp only [dY,CQ,jw];cases iA P t<;>rfl
 case box t x=>simp only [dY,Ir,jw];cases eR (ρ x)<;>rfl
 case buildSlice t n ps=>
  simp only [dY,kQ,jw]
  cases GM P t n (ps.toList.map (·.1)) with
  |none=>rfl
  |some i=>simp only [af,bind_some];cases eY i.2.1 i.2.2 (ps.toList.map fun p=>ρ p.2)<;>rfl
 case makeMap t r=>cases r<;>rfl
 case makeSlice t l c=>
  simp only [dY,sd,jw]
  cases uu P t with
  |none=>rfl
  |some i=>
   simp only [af,bind_some,nI,dS];cases nU i.2.1 (ρ l) (ρ c)<;>rfl
 case call c=>
  obtain ⟨qP,args,ts⟩:=c
  cases qP with
  |value f=>simp [cO] at hk
  |invoke r m=>simp [cO] at hk
  |builtin b=>cases b<;>simp [cO] at hk
section
variable {P:Program} {w0:World} {μ:Mu} {ρ:Operand->AV} {ρc:Operand->Value}
structure KY (P:Program) (w0:World) (μ:Mu) (ρc:Operand->Value) (o:Oper) (k:AK) (ob:gh) (O:Obj) (n:Nat) (f:Nat->Value):Prop where
 run:∀ w,(execOp ρc o).run P w = .ok (.value (f w.heap.size)) (w.alloc O)
 obj:∀ bk c,iV bk w0 μ ob ⟨c,0,n⟩ (some O)
 val:∀ (μ':Mu) b c,μ' b=some ⟨c,0,n⟩->VR w0 μ' (k.val b) (f c)
theorem qR{cs:List AV}{vs:Array Value}(h:cj w0 μ cs vs.toList)(e:TypeId)(bk:Bool)(c:Nat):iV bk w0 μ (.cells cs) ⟨c,0,vs.size⟩ (some (.cells vs e (0,0))):=by
 refine ⟨vs,e,(0,0),rfl,rfl,?_,.inl (dR _),fun i x hx=>?_⟩
 ·have:=h.len;simp at this;simp [this]
 ·obtain ⟨v,a,b⟩:=h.get hx;exact ⟨v,by simpa using a,b⟩
theorem CY(n:Nat):∀ (μ':Mu) b c,μ' b=some ⟨c,0,n⟩->VR w0 μ' (AK.ptr.val b) (.pointer (some ⟨c,0,none⟩)):=fun μ' b c h=>.ptr b 0 ⟨c,0,n⟩ h
theorem lM{t:TypeId}{z:List AV}(h:iA P t=some z):∃ inf zv,P.info? t=some inf/\inf.zero=some zv/\cj w0 μ z zv.cells.toList/\bw z=true:=by
 unfold iA at h;split at h
 ·rename_i zz hz;split at h
  ·rename_i nw;cases h;obtain ⟨inf,zv,h1,h2,rfl⟩:=iD hz;exact ⟨inf,zv,h1,h2,(VR.ofConst zv).cells nw,nw⟩
  ·cases h
 ·cases h
theorem kU{t:TypeId}{i:Nat×Nat×List AV}(h:uu P t=some i) :
  ∃ e inf zv,P.underlying t=some (.slice e)/\P.info? e=some inf/\inf.size=i.1/\inf.bytes=i.2.1/\0<i.1/\0<i.2.1/\inf.zero=some zv/\cj w0 μ i.2.2 zv.cells.toList/\i.2.2.length=i.1:=by
 unfold uu at h;split at h
 ·rename_i s b e h1 h2;split at h
  ·rename_i z hz;split at h
   ·rename_i hl;cases h;obtain ⟨e',inf,hu,eV,hs,hb,hp,zP⟩:=n4 h1;have:=uI h2;rw [hu] at this;cases this;obtain ⟨Qz,zv,h3,h4,h5,_⟩:=lM (w0:=w0) (μ:=μ) hz;rw [eV] at h3;cases h3;exact ⟨e,inf,zv,hu,eV,hs,hb,hp,zP,h4,h5,hl⟩
   ·cases h
  ·cases h
 ·cases h
theorem fW(z:List AV):∀ n,(ec z n).length=n*z.length
 |0=>by simp [ec]
 |n+1=>by simp [ec,fW z n,Nat.add_mul,Nat.add_comm]
theorem sg{z:List AV}(hz:0<z.length):∀ (n i:Nat),i<n*z.length->(ec z n)[i]?=z[i%z.length]?
 |0,i,h=>by omega
 |n+1,i,h=>by
  simp only [ec];by_cases hi:i<z.length
  ·rw [getElem?_append_left hi,mod_eq_of_lt hi]
  ·have h':(n+1)*z.length=n*z.length+z.length:=by rw [Nat.add_mul,Nat.one_mul]
   rw [getElem?_append_right (by omega),sg hz n _ (by omega)];rw [<- mod_eq_sub_mod (by omega)]
theorem Ad{z:List AV}{zs:Array Value}(h:cj w0 μ z zs.toList)(hz:0<z.length)(n N:Nat)(hN:n*z.length<=N) :
  ∀ (i:Nat) (x:AV),(ec z n)[i]?=some x->∃ v,(madeCells zs N)[i]?=some v/\VR w0 μ x v:=by
 intro i x hx;have hi:i<n*z.length:=by have:=(fR.1 hx).1;rwa [fW] at this
 rw [sg hz n i hi] at hx;obtain ⟨v,hv,hr⟩:=h.get hx;have hs:zs.size=z.length:=by have:=h.len;simp at this;exact this.symm
 refine ⟨v,?_,hr⟩;have hlt:i%zs.size<zs.size:=mod_lt _ (by omega);simp only [madeCells];rw [Array.getElem?_map,Array.getElem?_range];rw [if_pos (by omega)];simp only [map_some,Option.some.injEq];rw [<- hs] at hv;have:zs[i%zs.size]?=some v:=by simpa using hv
 rw [getElem!_def,this]
theorem DN{z:List AV}{zs:Array Value}(h:cj w0 μ z zs.toList)(hz:0<z.length)(n:Nat):cj w0 μ (ec z n) (madeCells zs (n*z.length)).toList:=by
 refine ⟨by simp [fW,size_madeCells],fun i x v a b=>?_⟩;obtain ⟨u,hu,hr⟩:=Ad h hz n (n*z.length) (dR _) i x a;have:(madeCells zs (n*z.length))[i]?=some v:=by simpa using b
 rw [this] at hu;cases hu;exact hr
theorem xL(hρ:∀ x,VR w0 μ (ρ x) (ρc x)){o:Oper}(hk:cP o.op = .alloc){k:AK}{ob:gh}(hv:jw P ρ o.op=some (k,ob)) :
  ∃ O n f,KY P w0 μ ρc o k ob O n f:=by
 obtain ⟨dst,op,type,pos,after,guard⟩:=o;cases op<;>simp only [cP,reduceCtorEq] at hk<;>simp only [jw] at hv
 case alloc t=>
  obtain ⟨z,hz,he⟩:=bind_eq_some_iff.1 hv;cases he;obtain ⟨inf,zv,h1,h2,h3,_⟩:=lM (w0:=w0) (μ:=μ) hz;refine ⟨.cells zv.cells t,zv.cells.size,fun c=>.pointer (some ⟨c,0,none⟩),fun w=>?_,qR h3 t,CY _⟩;simp [execOp,Instr.alloc,gC (P:=P) h1 h2,newVar,newRow]
 case box t x=>
  obtain ⟨cs,hb,he⟩:=bind_eq_some_iff.1 hv;cases he;unfold eR at hb;split at hb
  ·rename_i nw;cases hb;refine ⟨.cells (ρc x).cells t,(ρc x).cells.size,fun c=>.pointer (some ⟨c,0,none⟩),fun w=>?_,qR ((hρ x).cells nw) t,CY _⟩;simp [execOp,Instr.box,newVar,newRow]
  ·cases hb
 case buildSlice t n ps=>
  obtain ⟨i,hi,he⟩:=bind_eq_some_iff.1 hv;obtain ⟨cs,hcs,he⟩:=bind_eq_some_iff.1 he;cases he;unfold GM at hi;split at hi
  ·rename_i s b z hm;split at hi
   ·rename_i hle;cases hi;obtain ⟨e,inf,zv,hu,eV,hs,hb,hp,zP,z7,hz,Bz⟩:=kU (w0:=w0) (μ:=μ) hm;simp only at hs hb hp zP hz Bz;unfold eY at hcs;split at hcs
    ·rename_i jx hf;split at hcs
     ·rename_i nw;cases hcs;have hx:cj w0 μ (ps.toList.map fun p=>ρ p.2) (ps.toList.map fun p=>ρc p.2):=cj.map _ fun a _=>hρ a.2;have QA:=DN hz (by omega) n
      obtain ⟨gz,h1,h2⟩:=uL (w0:=w0) (μ:=μ) (fun i=>some (i*s,s)) (ps.toList.map (·.1)) ((ps.toList.map (·.1)).map fun i=>(i*s,s)) _ _ _ cs (madeCells zv.cells (n*z.length))
       (by simp) (fun k i p a b=>by rw [getElem?_map,a] at b;simpa using b) hx QA (by simpa using hf)
      rw [mg] at h1;have hsz:zv.cells.size=s:=by have:=hz.len;simp at this;omega
      refine ⟨.cells gz e,gz.size,fun c=>.slice (some ⟨c,0,none⟩) n n,fun w=>?_,qR h2 e,fun μ' b c hb=>?_⟩
      ·have wM:∀ w,(sizeOf e).run P w = .ok s w:=fun w=>by simp [sizeOf,typeInfo,eV,hs]
       have hz0:∀ w,(zeroValue e).run P w = .ok zv w:=gC (P:=P) eV z7;have GX:¬ (16777216<n*s):=by omega
       have Iv:Instr.fill (fun i=>some (i*s,s)) ((Array.range (n*s)).map (fun x=>zv.cells[x%zv.cells.size]!)) (ps.toList.map fun p=>(p.1,ρc p.2))=some gz:=by
        rw [Bz] at h1;exact h1
       by_cases hn:n*s=0
       ·have GY:n=0:=(by rcases mul_eq_zero.1 hn with h|h<;>omega);subst GY;have MY:Instr.fill (fun i=>some (i*s,s)) #[] (ps.toList.map fun p=>(p.1,ρc p.2))=some gz:=by simpa [Array.range_zero'] using Iv
        simp [execOp,Instr.buildSlice,run_underlying hu,wM,MY,newRow,Array.range_zero']
       ·simp [execOp,Instr.buildSlice,run_underlying hu,wM,hz0,GX,hn,Iv,newRow]
      ·have hlen:cs.length=n*s:=by
        have:=h2.len
        have Iw:∀ (ps:List (Nat×Nat)) (vs:List AV) (zs cs:List AV),kj zs ps vs=some cs->cs.length=zs.length:=by
         intro ps
         induction ps with
         |nil=>intro vs zs cs h;cases vs<;>simp [kj] at h;rw [h]
         |cons p ps ih=>
          intro vs zs cs h;obtain ⟨off,m⟩:=p
          cases vs with
          |nil=>simp [kj] at h
          |cons v vs=>
           simp only [kj] at h;split at h
           ·rw [ih _ _ _ h,c8]
           ·cases h
        rw [Iw _ _ _ _ hf,fW,Bz]
       have MZ:gz.size=n*s:=(by have:=h2.len;simp at this;omega);exact .slice b 0 n s n _ _ hb (dR _) (fun _=>⟨rfl,by simp [MZ]⟩)
     ·cases hcs
    ·cases hcs
   ·cases hi
  ·cases hi
 case makeMap t r=>
  cases r with
  |some x=>cases hv
  |none=>
   cases hv;refine ⟨.map #[] 0,0,fun c=>.map (some c),fun w=>?_,fun _ c=>⟨#[],rfl,rfl,by simp⟩,fun μ' b c h=>.map b ⟨c,0,0⟩ h⟩;simp [execOp,Instr.makeMap]
 case makeSlice t l c=>
  obtain ⟨i,hi,he⟩:=bind_eq_some_iff.1 hv;obtain ⟨n,hn,he⟩:=bind_eq_some_iff.1 he;cases he;obtain ⟨e,inf,zv,hu,eV,hs,hb,hp,zP,z7,hz,Bz⟩:=kU (w0:=w0) (μ:=μ) hi;have hl:=hρ l;have hc:=hρ c;unfold nU at hn;split at hn
  ·rename_i lv cv e1 e2;rw [e1] at hl;rw [e2] at hc;split at hn
   ·rename_i uN;simp only [and_eq_true,decide_eq_true_eq] at uN;cases hn;have Je:(inf.bytes:Int)*cv<=281474976710656:=by rw [hb];omega
    have M0:cv<=9223372036854775807:=by
     have h1:(1:Int)<=(i.2.1:Int):=by omega
     have h2:cv<=(i.2.1:Int)*cv:=by
      have:=Int.mul_le_mul_of_nonneg_right h1 (show 0<=cv by omega);simpa using this
     omega
    have hrun:=fun w=>run_make (P:=P) w t e inf zv hu eV z7 .i64 .i64 lv cv uN.1.1 uN.1.2 Je M0;refine ⟨.cells (madeCells zv.cells (cv.toNat*inf.size)) e,cv.toNat*inf.size,fun c=>.slice (some ⟨c,0,none⟩) lv.toNat cv.toNat,fun w=>?_,fun bk c=>?_,fun μ' b c h=>?_⟩
    ·simp [execOp,hl.dD,hc.dD,hrun]
    ·refine ⟨_,e,(0,0),rfl,by simp [size_madeCells],?_,.inl (dR _),?_⟩
     ·simp only [fW,Bz,hs,Nat.zero_add];exact mul_le_mul_right _ (by omega)
     ·intro i' x hx;rw [Nat.zero_add];exact Ad hz (by omega) lv.toNat _ (by rw [Bz,hs];exact mul_le_mul_right _ (by omega)) i' x hx
    ·refine .slice b 0 _ _ _ _ _ h (by omega) (fun _=>⟨rfl,?_⟩);simp [hs]
   ·cases hn
  ·cases hn
 case call c=>
  obtain ⟨qP,args,ts⟩:=c
  cases qP with
  |value f=>simp [cO] at hk
  |invoke r m=>simp [cO] at hk
  |builtin b=>cases b<;>simp [cO] at hk
end
end Go.AM
namespace Go.AM
open List Nat Bool Option
open Go Go.RowKit
variable {xv:Value} {t:TypeId} {c n:Nat} {x:AV}
section
variable {P:Program} {w0 w:World} {μ:Mu} {h:Heap} {ρ:Operand->AV} {ρc:Operand->Value}
theorem kz(w:World)(c:Nat)(O O':Obj):eS (eS w c O) c O'=eS w c O':=by simp [eS]
theorem pF{O:Obj}(hO:w.heap[c]?=some O):eS w c O=w:=by
 have:w.heap.setIfInBounds c O=w.heap:=by
  apply Array.ext_getElem?;intro i;rw [Array.getElem?_setIfInBounds];split
  ·rename_i e;subst e;rw [hO];split
   ·rfl
   ·rename_i hn;have:=(Array.getElem?_eq_some_iff.1 hO).1;omega
  ·rfl
 simp [eS,this]
theorem setCell_eq{o:Nat}{vs:Array Value}{e:TypeId}{fr:Nat×Nat}(hO:w.heap[c]?=some (.cells vs e fr))(v:Value) :
  w.setCell ⟨c,o,none⟩ v=eS w c (.cells (vs.setIfInBounds o v) e fr):=by
 have:w.heap.modify c (fun|.cells c elem frozen=>.cells (if (none:Option Nat).isSome then c else c.setIfInBounds o v) elem frozen|o=>o)=w.heap.setIfInBounds c (.cells (vs.setIfInBounds o v) e fr):=by
  apply Array.ext_getElem?;intro i;rw [Array.getElem?_setIfInBounds,Array.getElem?_modify];split
  ·rename_i e';subst e';have:=(Array.getElem?_eq_some_iff.1 hO).1;rw [if_pos this,hO];simp
  ·rfl
 simp only [World.setCell,eS];exact congrArg (fun x=>({ w with heap:=x }:World)) this
theorem jh{bk:Bool}(c o:Nat)(e:TypeId)(fr:Nat×Nat):∀ (us:List Value) (i:Nat) (vs:Array Value) (w:World),w.heap[c]?=some (.cells vs e fr)->(fr.2<=fr.1\/(bk=true/\vs.size<=fr.1))->o+i+us.length<=vs.size->(∀ v ∈ us,v.oneCell'=true) ->
  (storeCells ⟨c,o,none⟩ us i).run P w = .ok () (eS w c (.cells (ct vs.toList (o+i) us).toArray e fr))
 |[],i,vs,w,hO,hf,hl,h1=>by simp [storeCells,ct,pF hO]
 |u :: us,i,vs,w,hO,hf,hl,h1=>by
  simp only [length_cons] at hl
  have wM:(store ((⟨c,o,none⟩:Addr).add i) u).run P w = .ok () (eS w c (.cells (vs.setIfInBounds (o+i) u) e fr)):=by
   rw [gB,run_store P w _ u _ (h1 u (by simp))];have hc:w.cell? ⟨c,o+i,none⟩=some (vs[o+i]'(by omega)):=by rw [cell_of hO];simp [show o+i<vs.size by omega]
   have hz:w.frozen? ⟨c,o+i,none⟩=false:=by
    simp only [World.frozen?,hO];rcases hf with h|h<;>simp<;>omega
   rw [hc];simp only [hz,setCell_eq hO,false_eq_true,if_false]
  have QB:(eS w c (.cells (vs.setIfInBounds (o+i) u) e fr)).heap[c]?=some (.cells (vs.setIfInBounds (o+i) u) e fr):=gR (Array.getElem?_eq_some_iff.1 hO).1 _;have ih:=jh c o e fr us (i+1) _ _ QB (by simpa using hf) (by simp;omega) (fun v hv=>h1 v (by simp [hv]));simp only [storeCells,Sem.run_bind,wM,Result.andThen_ok,ih,kz,ct];simp [Nat.add_assoc]
theorem ep{α:Type}:∀ (us cs:List α) (off j:Nat),j<us.length->off+us.length<=cs.length->(ct cs off us)[off+j]?=us[j]?
 |[],cs,off,j,h,hl=>by simp at h
 |u :: us,cs,off,j,h,hl=>by
  simp only [length_cons] at h hl;simp only [ct]
  cases j with
  |zero=>
   have:∀ (us cs:List α) (o i:Nat),i<o->(ct cs o us)[i]?=cs[i]?:=by
    intro us
    induction us with
    |nil=>intros;rfl
    |cons u us ih=>intro cs o i hi;simp only [ct];rw [ih _ _ _ (by omega),getElem?_set_ne (by omega)]
   rw [this _ _ _ _ (by omega)];simp [show off<cs.length by omega]
  |succ j=>
   have:=ep us (cs.set off u) (off+1) j (by omega) (by simp;omega);rw [show off+(j+1)=off+1+j by omega,this];simp
theorem cD{α:Type}:∀ (us cs:List α) (off i:Nat),i<off\/off+us.length<=i->(ct cs off us)[i]?=cs[i]?
 |[],cs,off,i,h=>rfl
 |u :: us,cs,off,i,h=>by
  simp only [length_cons] at h;simp only [ct];rw [cD us _ _ _ (by omega),getElem?_set_ne (by omega)]
theorem CZ{cs:List AV}{k:yM}{ob:Option Obj}{bk:Bool}(ho:iV bk w0 μ (.cells cs) k ob){xs:List AV}{us:List Value}(hx:cj w0 μ xs us)(off:Nat)(hl:off+xs.length<=cs.length) :
  ∃ vs e fr,ob=some (.cells vs e fr)/\vs.size=k.size/\(fr.2<=fr.1\/(bk=true/\vs.size<=fr.1))/\k.base+cs.length<=k.size /\
   iV bk w0 μ (.cells (ct cs off xs)) k (some (.cells (ct vs.toList (k.base+off) us).toArray e fr)):=by
 obtain ⟨vs,e,fr,h1,h2,h3,h4,h5⟩:=ho;refine ⟨vs,e,fr,h1,h2,by rw [h2];exact h4,h3,(ct vs.toList (k.base+off) us).toArray,e,fr,rfl,by simp [c8,h2],by rw [c8];exact h3,h4,fun i x hi=>?_⟩;have Tb:us.length=xs.length:=hx.len.symm;by_cases hin:off<=i/\i<off+xs.length
 ·obtain ⟨j,rfl⟩:∃ j,i=off+j:=⟨i-off,by omega⟩
  rw [ep _ _ _ _ (by omega) hl] at hi;obtain ⟨v,hv,hr⟩:=hx.get hi;refine ⟨v,?_,hr⟩;have:=ep us vs.toList (k.base+off) j (by omega) (by simp [h2];omega);rw [<- Nat.add_assoc];simp [this,hv]
 ·rw [cD _ _ _ _ (by omega)] at hi;obtain ⟨v,hv,hr⟩:=h5 i x hi;refine ⟨v,?_,hr⟩;have:=cD us vs.toList (k.base+off) (k.base+i) (by omega);simp [this,hv]
def Left(P:Program)(w0:World)(μ:Mu)(h:Heap)(w:World)(K:AV->Heap->Bool)(r:Result Next):Prop:=
 ∃ v h' vc w' μ',K v h'=true/\(r = .ok (.value vc) w'\/(vc=undef/\r = .ok .skip w'))/\VR w0 μ' v vc/\Good w0 μ' h' w'/\Ext μ h w μ' h' w'
theorem DO(hg:Good w0 μ h w)(hn:ju P t=some n){v:AV}{vv:Value}(hx:VR w0 μ x xv)(hv:VR w0 μ v vv){h':Heap}(hs:bD n x v h=some h') :
  ∃ w',(Instr.storeAt t xv vv).run P w = .ok () w'/\Good w0 μ h' w'/\Ext μ h w μ h' w':=by
 unfold bD at hs;split at hs
 ·rename_i b off;split at hs
  ·rename_i cs ho;split at hs
   ·rename_i hc;cases hs;simp only [and_eq_true,decide_eq_true_eq] at hc;cases hx;rename_i k hk;have me:=hv.cells hc.1.2;obtain ⟨vs,e,fr,h1,h2,h3,h4,h5⟩:=CZ (hg.obj b k _ hk ho) me off (by rw [hc.1.1];exact hc.2);have hl:vv.cells.toList.length=n:=by rw [<- me.len];exact hc.1.1
    have hrun:=jh (P:=P) k.c (k.base+off) e fr vv.cells.toList 0 vs w h1 h3 (by rw [hl,h2];omega) (fun u hu=>me.l9 hc.1.2 u hu);rw [Nat.add_zero] at hrun;obtain ⟨g1,g2⟩:=hg.set hk ho (by simp) (.cells (ct cs off v.bV)) _ h5;refine ⟨_,?_,g1,g2⟩;have hsz:vv.cells.size=n:=by simpa using hl
    simp [Instr.storeAt,Instr.sureAddr,storeVar,iC hn,hsz,hrun]
   ·cases hs
  ·cases hs
 ·cases hs
theorem m8(hg:Good w0 μ h w){sz:Nat}(hx:VR w0 μ x xv){m:Nat}(hm:iB x=some m)(hn:n<=m){new:List AV}(hf:fM sz n x h=some new) :
  ∃ us:Array Value,(∀ w':World,w'.heap=w.heap->(Builtin.firstCells sz n xv).run P w' = .ok us w')/\cj w0 μ new us.toList/\(∀ w':World,(Builtin.lenOf xv).run P w' = .ok m w')/\new.length=n*sz:=by
 have zero:∀ (a:Addr) (w:World),(loadCells a 0).run P w = .ok #[] w:=fun a w=>by simp [loadCells,loadCellsFrom]
 have OM:∀ {w':World},w'.heap=w.heap->∀ a:Addr,w'.cell? a=w.cell? a:=fun e a=>by simp [World.cell?,e]
 unfold fM at hf;split at hf
 ·split at hf
  ·cases hf;cases hx;simp only [iB,Option.some.injEq] at hm;subst hm;obtain rfl:n=0:=by omega
   exact ⟨#[],fun w' _=>by simp [Builtin.firstCells],.nil,fun w'=>by simp [Builtin.lenOf],by simp⟩
  ·cases hf
 ·rename_i b off n' s;simp only [iB,Option.some.injEq] at hm;subst hm;split at hf
  ·rename_i hs;subst hs;split at hf
   ·rename_i cs ho;split at hf
    ·rename_i hle;cases hf;cases hx;rename_i cap a k hk KV ha;by_cases h0:n=0
     ·subst h0;exact ⟨#[],fun w' _=>by simp [Builtin.firstCells,zero],by simpa using cj.nil,fun w'=>by simp [Builtin.lenOf],by simp⟩
     ·obtain ⟨rfl,hb⟩:=ha (by omega);obtain ⟨us,e1,e2,e3⟩:=oc (hg.cells hk ho) (n*s) off hle;refine ⟨us.toArray,fun w' Ix=>?_,by simpa using e3,fun w'=>by simp [Builtin.lenOf],by simp;omega⟩;have:=run_loadCells_list (P:=P) w' ⟨k.c,k.base+off,none⟩ us (fun j u hj=>by rw [gB,OM Ix];exact e2 j u hj);rw [e1] at this;simp [Builtin.firstCells,this]
    ·cases hf
   ·cases hf
  ·cases hf
 ·rename_i cs off n' s;simp only [iB,Option.some.injEq] at hm;subst hm;split at hf
  ·rename_i hc;simp only [and_eq_true,decide_eq_true_eq] at hc;obtain ⟨rfl,hle⟩:=hc;cases hf;cases hx;rename_i cap a g o vs It hv hl hr ha KV;by_cases h0:n=0
   ·subst h0;exact ⟨#[],fun w' _=>by simp [Builtin.firstCells,zero],by simpa using cj.nil,fun w'=>by simp [Builtin.lenOf],by simp⟩
   ·obtain rfl:=ha (by omega);obtain ⟨us,e1,e2,e3⟩:=oc (hg.BY It hl hv hr) (n*s) off hle;refine ⟨us.toArray,fun w' Ix=>?_,by simpa using e3,fun w'=>by simp [Builtin.lenOf],by simp;omega⟩;have:=run_loadCells_list (P:=P) w' ⟨g,o+off,none⟩ us (fun j u hj=>by rw [gB,OM Ix];exact e2 j u hj);rw [e1] at this;simp [Builtin.firstCells,this]
  ·cases hf
 ·rename_i s;split at hf
  ·rename_i hs;subst hs;cases hf;obtain ⟨s,rfl,rfl⟩:=hx.ef;simp only [iB,Option.some.injEq] at hm;have Kt:s.data.toList.length=s.size:=by rw [Array.length_toList];rfl
   refine ⟨(s.extract 0 n).data.map fun b=>.int .u8 b.toNat,fun w' _=>by simp [Builtin.firstCells],?_,fun w'=>by simp [Builtin.lenOf];omega,by simp;omega⟩
   have e:((s.extract 0 n).data.map fun b=>Value.int .u8 (b.toNat:Int)).toList=(s.data.toList.take n).map fun b=>Value.int .u8 (b.toNat:Int):=by
    rw [Array.toList_map,extract_toList s 0 n (zero_le _) (by omega)];simp
   rw [e]
   exact cj.map _ fun b _=>.int .u8 b.toNat
  ·cases hf
 ·cases hf
theorem xM(n:Nat):∀ (r c:Nat),256<=c->c<=2*n->Builtin.growBy n r c<=2*n
 |0,c,h,hc=>by simpa [Builtin.growBy] using hc
 |r+1,c,h,hc=>by
  simp only [Builtin.growBy];split
  ·exact hc
  ·exact xM n r _ (by omega) (by omega)
theorem BZ(h:c<n):Builtin.nextslicecap n c<=2*n:=by
 unfold Builtin.nextslicecap;split
 ·omega
 ·split
  ·omega
  ·exact xM n 4 c (by omega) (by omega)
theorem yS{u:TypeId}{i:Nat×Nat}(hi:tQ P t u=some i) :
  ∃ e inf zv d,P.underlying t=some (.slice e)/\P.info? e=some inf/\inf.size=i.1/\inf.bytes=i.2/\0<i.1/\0<i.2/\inf.zero=some zv/\zv.cells.size=i.1/\P.underlying u=some d/\∀ k,d≠.int k:=by
 unfold tQ at hi;split at hi
 ·rename_i e s b z hu hm;cases hi;obtain ⟨e',inf,zv,h1,h2,h3,h4,h5,h6,h7,h8⟩:=kU (w0:=default) (μ:=Mu.zero) hm;exact ⟨e',inf,zv,_,h1,h2,h3,h4,h5,h6,h7,by have h9:=h8.1.len;have M1:=h8.2;simp at h9 M1;show zv.cells.size=s;omega,hu,by simp⟩
 ·rename_i s b z hu hm;cases hi;obtain ⟨e',inf,zv,h1,h2,h3,h4,h5,h6,h7,h8⟩:=kU (w0:=default) (μ:=Mu.zero) hm;exact ⟨e',inf,zv,_,h1,h2,h3,h4,h5,h6,h7,by have h9:=h8.1.len;have M1:=h8.2;simp at h9 M1;show zv.cells.size=s;omega,hu,by simp⟩
 ·cases hi
section
variable {t u ty:TypeId} {i:Nat×Nat} {e:TypeId} {inf:TypeInfo} {zv:Value} {d:TypeDesc} (hu:P.underlying t=some (.slice e)) (eV:P.info? e=some inf) (hs:inf.size=i.1) (Je:inf.bytes=i.2)
 (hp:0<i.2) (z7:inf.zero=some zv) (C0:P.underlying u=some d) (hd:∀ k,d≠.int k) {base:Option Addr} {sLen sCap n:Nat} {xv:Value} {new old:Array Value} include hu eV hs C0 hd
theorem j9(hlen:(Builtin.lenOf xv).run P w = .ok n w)(jL:(Builtin.firstCells i.1 n xv).run P w = .ok new w)(hle:sLen+n<=sCap){w':World}
  (wM:match base with|some a=>(storeCells (a.add (sLen*i.1)) new.toList).run P w = .ok () w'|none=>w=w') :
  (Builtin.append_ #[t,u] ty #[.slice base sLen sCap,xv]).run P w = .ok (.slice base (sLen+n) sCap) w':=by
 have hsz:∀ w,(sizeOf e).run P w = .ok i.1 w:=fun w=>by simp [sizeOf,typeInfo,eV,hs]
 have Gz:(match d with|.int _=>true|_=>false)=false:=by cases d<;>first|rfl|exact absurd rfl (hd _)
 cases base with
 |none=>
  simp only at wM;subst wM;simp [Builtin.append_,run_underlying hu,run_underlying C0,hsz,Gz,hlen,hle,jL]
 |some a=>
  simp only at wM;simp [Builtin.append_,run_underlying hu,run_underlying C0,hsz,Gz,hlen,hle,jL,wM] include Je hp z7
theorem run_append_grow(hlen:(Builtin.lenOf xv).run P w = .ok n w)(jL:∀ w':World,w'.heap=w.heap->(Builtin.firstCells i.1 n xv).run P w' = .ok new w')
  (hold:∀ w':World,w'.heap=w.heap->(Builtin.firstCells i.1 sLen (.slice base sLen sCap)).run P w' = .ok old w') (hb:(sLen+n)*i.2<=dg) (GX:¬ sLen+n<=sCap) :
  ∃ cap,sLen+n<=cap/\(Builtin.append_ #[t,u] ty #[.slice base sLen sCap,xv]).run P w =
   .ok (.slice (some ⟨w.heap.size,0,none⟩) (sLen+n) cap) ((w.drew).alloc (.cells (old++new++Builtin.zeroCells zv.cells (cap-(sLen+n))) e)):=by
 have hsz:∀ w,(sizeOf e).run P w = .ok i.1 w:=fun w=>by simp [sizeOf,typeInfo,eV,hs]
 have Gz:(match d with|.int _=>true|_=>false)=false:=by cases d<;>first|rfl|exact absurd rfl (hd _)
 have B0:=BZ (n:=sLen+n) (c:=sCap) (by omega)
 have M3:¬ (281474976710656<Builtin.nextslicecap (sLen+n) sCap*inf.bytes):=by
  have h1:Builtin.nextslicecap (sLen+n) sCap*i.2<=2*(sLen+n)*i.2:=mul_le_mul_right _ B0;have h2:2*(sLen+n)*i.2=2*((sLen+n)*i.2):=Nat.mul_assoc _ _ _;unfold dg at hb;rw [Je];omega
 have Jf:inf.bytes≠0:=by omega
 have hz0:=gC (P:=P) eV z7;refine ⟨(Question.appendCap (sLen+n) sCap e).cut (w.tape w.drawn (.appendCap (sLen+n) sCap e)),?_,?_⟩
 ·show sLen+n<=sLen+n+_;omega
 ·have ho:=hold w.drew rfl;have hn:=jL w.drew rfl;simp [Builtin.append_,run_underlying hu,run_underlying C0,hsz,Gz,hlen,GX,typeInfo,eV,M3,Jf,Question.forced,ho,hn,hz0,newRow]
end
theorem mh(z:Array Value)(n:Nat):(Builtin.zeroCells z n).size=n*z.size:=by simp [Builtin.zeroCells]
theorem B1(hg:Good w0 μ h w){u ty:TypeId}{i:Nat×Nat}(hi:tQ P t u=some i){s v:AV}{sv:Value}(hs:VR w0 μ s sv)(hx:VR w0 μ x xv){h':Heap}(ha:bP i.1 i.2 s x h=some (v,h')) :
  ∃ vc w' μ',(Builtin.append_ #[t,u] ty #[sv,xv]).run P w = .ok vc w'/\VR w0 μ' v vc/\Good w0 μ' h' w'/\Ext μ h w μ' h' w':=by
 obtain ⟨e,inf,zv,d,hu,eV,hsz,Je,hp,zP,z7,Bz,C0,hd⟩:=yS hi;have ON:w.drew.heap=w.heap:=rfl;have KZ:∀ {h1 h2:Heap} {μ':Mu} {w':World},Ext μ h1 w.drew μ' h2 w'->Ext μ h1 w μ' h2 w':=fun x=>Ext.of_same (v:=w.drew) rfl x;have Mt:Good w0 μ h w.drew:=hg.same rfl rfl rfl rfl;unfold bP at ha;split at ha
 ·cases ha
 ·rename_i n hn;split at ha
  ·cases ha
  ·rename_i new jL;obtain ⟨us,Ku,zQ,Jg,OO⟩:=m8 (P:=P) hg hx hn (dR n) jL;have GZ:us.size=n*i.1:=by have:=zQ.len;simp at this;omega
   split at ha
   ·
    cases hs;split at ha
    ·rename_i h0;subst h0;cases ha;refine ⟨_,w,μ,j9 (base:=none) (w':=w) hu eV hsz C0 hd (Jg w) (Ku w rfl) (dR 0) rfl,.aE,hg,Ext.refl _ _ _⟩
    ·rename_i h0;split at ha
     ·rename_i hc;cases ha;simp only [and_eq_true,decide_eq_true_eq] at hc;obtain ⟨cap,B0,hrun⟩:=run_append_grow (ty:=ty) (base:=none) (sLen:=0) (sCap:=0) (old:=#[]) hu eV hsz Je zP z7 C0 hd (Jg w) (fun w' Ix=>Ku w' Ix) (fun w' Ix=>by simp [Builtin.firstCells]) (by simpa using hc.1) (by omega)
      have qS:iV h.bk w0 μ (.cells new) ⟨w.heap.size,0,us.size+(Builtin.zeroCells zv.cells (cap-(0+n))).size⟩ (some (.cells (#[]++us++Builtin.zeroCells zv.cells (cap-(0+n))) e)):=by
       refine ⟨_,_,(0,0),rfl,by simp,by simp;omega,.inl (dR _),fun j y hj=>?_⟩;obtain ⟨v,hv,hr⟩:=zQ.get hj;refine ⟨v,?_,hr⟩;have hlt:=(fR.1 hv).1;simp at hlt hv;rw [Nat.zero_add,Array.getElem?_append_left (by simp;omega)];simp [hv]
      obtain ⟨g1,g2⟩:=Mt.alloc (.cells new) _ _ qS;refine ⟨_,_,_,hrun,?_,g1,KZ g2⟩
      have:=VR.slice (w0:=w0) (μ:=(μ.add h.next ⟨w.heap.size,0,us.size+(Builtin.zeroCells zv.cells (cap-(0+n))).size⟩)) h.next 0 n i.1 cap ⟨w.heap.size,0,none⟩ _ (Mu.add_same _ _ _) (by omega) (fun _=>⟨rfl,by
       show 0+0+cap*i.1<=us.size+_
       rw [mh,GZ,Bz,<- Nat.add_mul,show n+(cap-(0+n))=cap by omega];omega⟩)
      simpa using this
     ·cases ha
   ·rename_i b off len s';split at ha
    ·rename_i ei;subst ei;cases hs;rename_i cap a k hk hle K4;split at ha
     ·rename_i h0;subst h0;cases ha;have wM:us = #[]:=by apply Array.eq_empty_of_size_eq_zero;omega
      subst wM;refine ⟨_,w,μ,j9 (base:=some a) (w':=w) hu eV hsz C0 hd (Jg w) (Ku w rfl) (by omega) (by simp [storeCells]),?_,hg,Ext.refl _ _ _⟩;exact .slice b off len i.1 cap a k hk (by omega) K4
     ·rename_i h0;split at ha
      ·rename_i cs ho;split at ha
       ·rename_i hc;cases ha;simp only [and_eq_true,decide_eq_true_eq] at hc;obtain ⟨⟨K5,K6⟩,Kv⟩:=hc;obtain ⟨vs,el,fr,o1,o2,o3,o4,o5⟩:=hg.obj b k _ hk ho;have Tc:=hg.own b k hk;by_cases hroom:len+n<=cap
        ·
         obtain ⟨rfl,hin⟩:=K4 (by omega);have QC:len*i.1+n*i.1<=cap*i.1:=by rw [<- Nat.add_mul];exact mul_le_mul_right _ hroom
         have pG:=jh (P:=P) k.c (k.base+off+len*i.1) el fr us.toList 0 vs w o1 (by rw [o2];exact o4) (by simp [GZ,o2];omega) (zQ.l9 K6);rw [Nat.add_zero] at pG
         have qS:iV h.bk w0 μ (.cells ((cs.drop off).take (len*i.1)++new)) ⟨k.c,k.base+off,k.size⟩ (some (.cells (ct vs.toList (k.base+off+len*i.1) us.toList).toArray el fr)):=by
          have hlen:((cs.drop off).take (len*i.1)).length=len*i.1:=(by simp;omega);refine ⟨_,el,fr,rfl,by simp [c8,o2],by simp [hlen,OO];omega,o4,fun j y hj=>?_⟩;by_cases DP:j<len*i.1
          ·rw [getElem?_append_left (by omega),getElem?_take,if_pos DP,getElem?_drop] at hj;obtain ⟨v,hv,hr⟩:=o5 _ y hj;refine ⟨v,?_,hr⟩;have:=cD us.toList vs.toList (k.base+off+len*i.1) (k.base+off+j) (.inl (by omega));simp only [getElem?_toArray,this,Array.getElem?_toList];rw [Nat.add_assoc];exact hv
          ·rw [getElem?_append_right (by omega),hlen] at hj;obtain ⟨v,hv,hr⟩:=zQ.get hj;refine ⟨v,?_,hr⟩;have hlt:=(fR.1 hv).1;have:=ep us.toList vs.toList (k.base+off+len*i.1) (j-len*i.1) hlt (by simp [GZ,o2];omega);rw [show k.base+off+len*i.1+(j-len*i.1)=k.base+off+j by omega] at this;simp only [getElem?_toArray,this,hv]
         obtain ⟨g1,g2⟩:=hg.renew hk ho (by simp) (k.base+off) _ _ qS;refine ⟨_,_,_,j9 (base:=some ⟨k.c,k.base+off,none⟩) hu eV hsz C0 hd (Jg w) (Ku w rfl) hroom (by simp only [gB];exact pG),?_,g1,g2⟩;exact .slice h.next 0 (len+n) i.1 cap ⟨k.c,k.base+off,none⟩ ⟨k.c,k.base+off,k.size⟩ (Mu.add_same _ _ _) (by omega) (fun _=>⟨by simp,by simpa using hin⟩)
        ·
         have hold:fM i.1 len (.slice b off len i.1) h=some ((cs.drop off).take (len*i.1)):=(by simp [fM,ho,Kv]);obtain ⟨old,q1,q2,q3,q4⟩:=m8 (P:=P) hg (.slice b off len i.1 cap a k hk hle K4) (m:=len) rfl (dR len) hold;have M4:old.size=len*i.1:=by have:=q2.len;simp only [Array.length_toList] at this;omega
         obtain ⟨wN,B0,hrun⟩:=run_append_grow (ty:=ty) (base:=some a) (sLen:=len) (sCap:=cap) (old:=old) hu eV hsz Je zP z7 C0 hd (Jg w) (fun w' Ix=>Ku w' Ix) q1 K5 hroom;have kV:=q2.append zQ
         have qS:iV (h.set b .dead).bk w0 μ (.cells ((cs.drop off).take (len*i.1)++new)) ⟨w.heap.size,0,old.size+us.size+(Builtin.zeroCells zv.cells (wN-(len+n))).size⟩ (some (.cells (old++us++Builtin.zeroCells zv.cells (wN-(len+n))) e)):=by
          refine ⟨_,_,(0,0),rfl,by simp [Nat.add_assoc],by rw [length_append,q4,OO];show 0+_<=old.size+us.size+_;omega,.inl (dR _),fun j y hj=>?_⟩;obtain ⟨v,hv,hr⟩:=kV.get hj;refine ⟨v,?_,hr⟩;have hlt:=(fR.1 hv).1;rw [<- Array.toList_append] at hv hlt;rw [Array.length_toList] at hlt;rw [Array.getElem?_toList] at hv;show (old++us++_)[0+j]?=some v;rw [Nat.zero_add,Array.getElem?_append_left hlt,hv]
         have M5:Good w0 μ (h.set b .dead) w.drew:=Mt.kill hk;obtain ⟨g1,g2⟩:=M5.alloc (.cells ((cs.drop off).take (len*i.1)++new)) _ _ qS;refine ⟨_,_,_,hrun,?_,g1,(Ext.kill hk).trans (KZ g2)⟩;refine .slice h.next 0 (len+n) i.1 wN ⟨w.heap.size,0,none⟩ ⟨w.heap.size,0,old.size+us.size+(Builtin.zeroCells zv.cells (wN-(len+n))).size⟩ (Mu.add_same _ _ _) B0 (fun _=>⟨rfl,?_⟩)
         show 0+0+wN*i.1<=old.size+us.size+_;rw [mh,GZ,M4,Bz,<- Nat.add_mul,<- Nat.add_mul];rw [show len+n+(wN-(len+n))=wN by omega];omega
       ·cases ha
      ·cases ha
    ·cases ha
   ·cases ha
end
end Go.AM