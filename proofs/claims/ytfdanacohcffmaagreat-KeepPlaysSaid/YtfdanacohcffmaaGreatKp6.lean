/- Parts of the proof. Conditions: none. -/
import Derived.Test.YtfdanacohcffmaaGreatKp5
import Derived.Laws.Tables
import Derived.Laws.MakeOwn
set_option linter.unusedSimpArgs false
set_option linter.unusedVariables false
namespace Go.AM
open List Nat Bool Option
open Go Go.RowKit
variable {t e:TypeId} {P:Program} {xv v yv:Value} {x y:AV} {cs:List AV} {b:Bool} {n i:Nat}
theorem iB{α:Type}{o:Option α}{f:α->Bool}(h:aa o f=true):∃ a,o=some a/\f a=true:=by
 cases o with
 |none=>simp [aa] at h
 |some a=>exact ⟨a,rfl,h⟩
def qy(P:Program)(ρ:Operand->AV):Op->Option AV
 |.move x=>some (ρ x)
 |.assign x=>some (ρ x)
 |.pick c a b=>SN (ρ c) (ρ a) (ρ b)
 |.build t ps=>(LQ P t (ps.toList.map (·.1))).bind fun i=>iP i.1 i.2 (ps.toList.map fun p=>ρ p.2)
 |.nilCheck x=>aJ (ρ x)
 |.binOp op t x y _=>(match op with
  |.eql=>(P.underlying t).bind fun d=>jC d (ρ x) (ρ y)
  |.neq=>(P.underlying t).bind fun d=>qE d (ρ x) (ρ y)
  |op=>aF op (ρ x) (ρ y))
 |.unOp op _ x=>mh op (ρ x)
 |.makeInterface t x=>(GK P t).bind fun _=>some (.iface t (ρ x))
 |.makeFunc fn first cap=>(match fn with|.func f=>some (.func f (first.toList.map ρ) (cap.toList.map ρ))|_=>none)
 |.slice t x lo hi mx=>(match mx with|none=>(LS P t).bind fun i=>fR i (ρ x) (lo.map ρ) (hi.map ρ)|some _=>none)
 |.fieldAddr t x i=>(faI P t i).bind fun o=>ja o (ρ x)
 |.field t x i=>(LR P t i).bind fun o=>LN o.1 o.2 (ρ x)
 |.indexAddr t x i=>(iaI P t).bind fun o=>iaV o (ρ x) (ρ i)
 |.index t x i=>(YU P t).bind fun o=>V8 o (ρ x) (ρ i)
 |.extract t i=>bu (ρ t) i
 |.typeAssert x _ a ok=>(Gk P a ok).bind fun z=>Gj a z (ρ x)
 |.call c=>(match c.callee with
  |.builtin .min=>(match c.args.toList.map ρ with|x :: xs=>AJ false x xs|_=>none)
  |.builtin .max=>(match c.args.toList.map ρ with|x :: xs=>AJ true x xs|_=>none)
  |_=>none)
 |_=>none
theorem jT{α β:Type}(o:Option α)(f:α->Option β)(g:β->Bool):aa o (fun a=>aa (f a) g)=aa (o.bind f) g:=by cases o<;>rfl
theorem zx{ρ:Operand->AV}{op:Op}(hk:gZ op = .pure)(h:Heap)(K:AV->Heap->Bool):jz op P ρ h K=aa (qy P ρ op) fun v=>K v h:=by
 cases op<;>simp only [gZ,reduceCtorEq] at hk
 case move=>rfl
 case assign=>rfl
 case pick=>rfl
 case build=>simp only [jz,SU,nT,qy,jT]
 case nilCheck=>rfl
 case binOp op t x y u=>cases op<;>simp only [jz,V9,nT,qy,jT]
 case unOp=>rfl
 case makeInterface t x=>simp only [jz,qy];cases GK P t<;>rfl
 case makeFunc fn first cap=>cases fn<;>rfl
 case slice t x lo hi mx=>cases mx<;>simp only [jz,LU,nT,qy,jT];rfl
 case fieldAddr=>simp only [jz,nT,qy,jT]
 case field=>simp only [jz,nT,qy,jT]
 case indexAddr=>simp only [jz,nT,qy,jT]
 case index=>simp only [jz,nT,qy,jT]
 case extract=>rfl
 case typeAssert x xt a ok=>simp only [jz,nT,qy,jT]
 case call c=>
  obtain ⟨Dh,args,ts⟩:=c
  cases Dh with
  |value f=>simp [gY] at hk
  |invoke r m=>simp [gY] at hk
  |builtin b=>
   cases b<;>simp only [gY,reduceCtorEq] at hk
   ·simp only [jz,xT,Ks,zn,qy];cases args.toList.map ρ<;>rfl
   ·simp only [jz,xT,Ks,zn,qy];cases args.toList.map ρ<;>rfl
section
variable {P:Program} {w0:World} {μ:Mu} {ρ:Operand->AV} {ρc:Operand->Value}
theorem VR.ku(h:VR w0 μ (.bool b) v):v = .bool b:=by cases h;rfl
theorem VR.jj{k:IntKind}{n:Int}(h:VR w0 μ (.int k n) v):v = .int k n:=by cases h;rfl
theorem VR.jF{l:List UInt8}(h:VR w0 μ (.str l) v):∃ s:ByteArray,v = .string s/\s.data.toList=l:=by cases h;exact ⟨_,rfl,rfl⟩
theorem VR.Kt(h:VR w0 μ (.tuple cs) v):∃ vs:List Value,v = .tuple vs.toArray/\fA w0 μ cs vs:=by cases h;exact ⟨_,rfl,⟨‹_›,‹_›⟩⟩
theorem VR.SZ(h:VR w0 μ (.agg cs) v):∃ vs:List Value,v = .agg vs.toArray/\fA w0 μ cs vs:=by cases h;exact ⟨_,rfl,⟨‹_›,‹_›⟩⟩
theorem fA.agg{cs:List AV}{vs:List Value}(h:fA w0 μ cs vs):VR w0 μ (.agg cs) (.agg vs.toArray):=.agg cs vs h.len h.rel
theorem fA.tuple{cs:List AV}{vs:List Value}(h:fA w0 μ cs vs):VR w0 μ (.tuple cs) (.tuple vs.toArray):=.tuple cs vs h.len h.rel
theorem VR.bz:VR w0 μ bz Go.undef:=fA.tuple .nil
theorem uW(h:VR w0 μ x v)(hx:asNat x=some n):∃ k,v = .int k (n:Int):=by
 cases h<;>simp [asNat] at hx;rename_i k m;exact ⟨k,by rw [<- hx.2,Int.toNat_of_nonneg hx.1]⟩
theorem og(c o n:Nat):(⟨c,o,none⟩:Addr).add n=⟨c,o+n,none⟩:=by unfold Addr.add;split<;>simp_all
theorem Ua{c a b v:AV}{cv av bv:Value}(hc:VR w0 μ c cv)(ha:VR w0 μ a av)(hb:VR w0 μ b bv)(h:SN c a b=some v) :
  ∃ t,cv = .bool t/\VR w0 μ v (if t then av else bv):=by
 cases c<;>simp [SN] at h;rename_i t;refine ⟨t,hc.ku,?_⟩;subst h;cases t
 ·exact hb
 ·exact ha
theorem YW{op:UnOp}{v:AV}(hx:VR w0 μ x xv)(h:mh op x=some v):∃ vc,(∀ w,(Op.unary op xv).run P w = .ok vc w)/\VR w0 μ v vc:=by
 unfold mh at h;split at h
 ·cases h;rw [hx.jj];exact ⟨_,fun w=>rfl,.int _ _⟩
 ·cases h;rw [hx.ku];exact ⟨_,fun w=>rfl,.bool _⟩
 ·cases h
theorem Jr{v:AV}(hx:VR w0 μ x xv)(h:aJ x=some v):VR w0 μ v xv/\((∃ a,xv = .pointer (some a))\/∃ f a b,xv = .func (.func f) a b):=by
 unfold aJ at h;split at h
 ·cases h;cases hx;exact ⟨.ptr _ _ _ ‹_›,.inl ⟨_,rfl⟩⟩
 ·cases h;cases hx;exact ⟨.dL _ _ _ _ _ ‹_› ‹_› ‹_› ‹_›,.inl ⟨_,rfl⟩⟩
 ·cases h;cases hx;exact ⟨.func _ _ _ _ _ ‹_› ‹_› ‹_› ‹_›,.inr ⟨_,_,_,rfl⟩⟩
 ·cases h
theorem We{op:BinOp}{v:AV}(hx:VR w0 μ x xv)(hy:VR w0 μ y yv)(h:aF op x y=some v)(h1:op≠.eql)(h2:op≠.neq) :
  ∃ vc,(∀ w,(binOp op t xv yv).run P w = .ok vc w)/\VR w0 μ v vc:=by
 have shift:∀ r:Bool,op=(if r then .shr else .shl)->GF r x y=some v->∃ vc,(∀ w,(binOp op t xv yv).run P w = .ok vc w)/\VR w0 μ v vc:=by
  intro r ho h;unfold GF at h;split at h
  ·split at h
   ·cases h
   ·rename_i k a k' b hb;cases h;rw [hx.jj,hy.jj,ho];cases r
    ·exact ⟨_,fun w=>by simp [binOp,Op.shift,hb],.int _ _⟩
    ·exact ⟨_,fun w=>by simp [binOp,Op.shift,hb],.int _ _⟩
  ·cases h
 have bits:(op = .and\/op = .or\/op = .xor)->V4 op x y=some v->∃ vc,(∀ w,(binOp op t xv yv).run P w = .ok vc w)/\VR w0 μ v vc:=by
  intro ho h;unfold V4 at h;split at h
  ·split at h
   ·rename_i k a k' b hk;subst hk;rw [hx.jj,hy.jj];rcases ho with rfl|rfl|rfl<;>simp only [Option.some.injEq] at h<;>subst h<;>exact ⟨_,fun w=>by simp [binOp,Op.intBits],.int _ _⟩
   ·cases h
  ·cases h
 unfold aF at h;split at h
 ·exact shift true rfl h
 ·exact shift false rfl h
 ·exact bits (.inl rfl) h
 ·exact bits (.inr (.inl rfl)) h
 ·exact bits (.inr (.inr rfl)) h
 split at h
 ·rename_i k a k' b;split at h
  ·rename_i hk;subst hk;rw [hx.jj,hy.jj];cases op<;>simp only [reduceCtorEq] at h<;>first|(exact absurd rfl h1)|(exact absurd rfl h2)|skip
   ·cases h;exact ⟨.int k (k.wrap (a+b)),fun w=>by simp [binOp,Op.intArith],.int _ _⟩
   ·cases h;exact ⟨.int k (k.wrap (a-b)),fun w=>by simp [binOp,Op.intArith],.int _ _⟩
   ·cases h;exact ⟨.int k (k.wrap (a*b)),fun w=>by simp [binOp,Op.intArith],.int _ _⟩
   ·split at h
    ·cases h
    ·rename_i hb;cases h;exact ⟨.int k (k.wrap (a.tdiv b)),fun w=>by simp [binOp,Op.intDiv,hb],.int _ _⟩
   ·split at h
    ·cases h
    ·rename_i hb;cases h;exact ⟨.int k (a.tmod b),fun w=>by simp [binOp,Op.intDiv,hb],.int _ _⟩
   ·cases h;exact ⟨.bool (decide (a<b)),fun w=>by simp [binOp,Op.intCmp],.bool _⟩
   ·cases h;exact ⟨.bool (decide (a<=b)),fun w=>by simp [binOp,Op.intCmp],.bool _⟩
   ·cases h;exact ⟨.bool (decide (a>b)),fun w=>by simp [binOp,Op.intCmp],.bool _⟩
   ·cases h;exact ⟨.bool (decide (a>=b)),fun w=>by simp [binOp,Op.intCmp],.bool _⟩
  ·cases h
 ·rename_i a b;obtain ⟨s,rfl,rfl⟩:=hx.jF;obtain ⟨u,rfl,rfl⟩:=hy.jF;cases op<;>simp only [reduceCtorEq] at h<;>first|(exact absurd rfl h1)|(exact absurd rfl h2)|skip
  ·split at h
   ·rename_i hl;cases h;refine ⟨.string (s++u),fun w=>?_,?_⟩
    ·have e1:s.data.toList.length=s.size:=(by rw [Array.length_toList];rfl);have e2:u.data.toList.length=u.size:=by rw [Array.length_toList];rfl
     rw [e1,e2] at hl
     have:¬ (((s.size+u.size:Nat):Int)>IntKind.i64.max):=by
      have:IntKind.i64.max=9223372036854775807:=(by decide);rw [this];omega
     unfold binOp;simp only [Op.stringOp,if_neg this];rfl
    ·have e:(s++u).data.toList=s.data.toList++u.data.toList:=(by simp);rw [<- e];exact .str _
   ·cases h
  ·cases h;exact ⟨.bool (Op.bytesLess s.data.toList u.data.toList),fun w=>by simp [binOp,Op.stringOp,ByteArray.toList_eq],.bool _⟩
  ·cases h;exact ⟨.bool (Op.bytesLess s.data.toList u.data.toList||s.data.toList==u.data.toList),fun w=>by simp [binOp,Op.stringOp,ByteArray.toList_eq],.bool _⟩
  ·cases h;exact ⟨.bool (!(Op.bytesLess s.data.toList u.data.toList||s.data.toList==u.data.toList)),fun w=>by simp [binOp,Op.stringOp,ByteArray.toList_eq],.bool _⟩
  ·cases h;exact ⟨.bool (!(Op.bytesLess s.data.toList u.data.toList)),fun w=>by simp [binOp,Op.stringOp,ByteArray.toList_eq],.bool _⟩
 ·cases h
theorem Js{op:BinOp}{x y:Operand}{a b:Value}{w:World}(h1:a≠.nilIface)(h2:∀ c,a≠.agg c):(eqGuard op t x y a b).run P w = .ok () w:=by
 unfold eqGuard;cases op<;>first|rfl|(cases a<;>first|(exact absurd rfl h1)|(exact absurd rfl (h2 _))|rfl)
section
variable {t:TypeId} (d:Nat) (w:World)
theorem Ub(hd:P.underlying t=some .bool)(a b:Bool):(Op.equalIn (d+1) t (.bool a) (.bool b)).run P w = .ok (a==b) w:=by simp [Op.equalIn,run_underlying hd]
theorem GQ(hd:P.underlying t=some (.pointer e))(a:Addr) :
  (Op.equalIn (d+1) t (.pointer none) (.pointer none)).run P w = .ok true w/\(Op.equalIn (d+1) t (.pointer (some a)) (.pointer none)).run P w = .ok false w /\
  (Op.equalIn (d+1) t (.pointer none) (.pointer (some a))).run P w = .ok false w:=by simp [Op.equalIn,run_underlying hd]
theorem Bc(hd:P.underlying t=some (.slice e))(a:Addr)(n c:Nat) :
  (Op.equalIn (d+1) t (.slice none 0 0) (.slice none 0 0)).run P w = .ok true w/\(Op.equalIn (d+1) t (.slice (some a) n c) (.slice none 0 0)).run P w = .ok false w /\
  (Op.equalIn (d+1) t (.slice none 0 0) (.slice (some a) n c)).run P w = .ok false w:=by simp [Op.equalIn,run_underlying hd]
theorem GR{k:TypeId}(hd:P.underlying t=some (.map k e))(a:Nat) :
  (Op.equalIn (d+1) t (.map none) (.map none)).run P w = .ok true w/\(Op.equalIn (d+1) t (.map (some a)) (.map none)).run P w = .ok false w /\
  (Op.equalIn (d+1) t (.map none) (.map (some a))).run P w = .ok false w:=by simp [Op.equalIn,run_underlying hd]
theorem Di{x y:Array TypeId}{z:Bool}(hd:P.underlying t=some (.func x y z))(f:Fn)(a b:Array Value) :
  (Op.equalIn (d+1) t .nilFunc .nilFunc).run P w = .ok true w/\(Op.equalIn (d+1) t (.func f a b) .nilFunc).run P w = .ok false w /\
  (Op.equalIn (d+1) t .nilFunc (.func f a b)).run P w = .ok false w:=by simp [Op.equalIn,run_underlying hd]
end
theorem binOp_eql{x y:Value}{w:World}(h:(Op.equal t x y).run P w = .ok b w)(h1:∀ k n,x≠.int k n)(h2:∀ s,x≠.string s)(h3:∀ k n,x≠.float k n)(h4:∀ k n m,x≠.complex k n m) :
  (binOp .eql t x y).run P w = .ok (.bool b) w/\(binOp .neq t x y).run P w = .ok (.bool (!b)) w:=by
 cases x<;>first|(exact absurd rfl (h1 _ _))|(exact absurd rfl (h2 _))|(exact absurd rfl (h3 _ _))|(exact absurd rfl (h4 _ _ _))|(simp [binOp,h])
theorem NG{d:TypeDesc}(hd:P.underlying t=some d)(hx:VR w0 μ x xv)(hy:VR w0 μ y yv)(h:Yy d x y=some b) :
  (∀ w,(binOp .eql t xv yv).run P w = .ok (.bool b) w)/\(∀ w,(binOp .neq t xv yv).run P w = .ok (.bool (!b)) w)/\xv≠.nilIface/\∀ c,xv≠.agg c:=by
 have key:(∀ w,(Op.equalIn (9999+1) t xv yv).run P w = .ok b w)->(∀ k n,xv≠.int k n)->(∀ s,xv≠.string s)->(∀ k n,xv≠.float k n)->(∀ k n m,xv≠.complex k n m) ->
   (∀ w,(binOp .eql t xv yv).run P w = .ok (.bool b) w)/\(∀ w,(binOp .neq t xv yv).run P w = .ok (.bool (!b)) w):=
  fun h1 a b c d=>⟨fun w=>(binOp_eql (h1 w) a b c d).1,fun w=>(binOp_eql (h1 w) a b c d).2⟩
 unfold Yy at h;split at h
 ·rename_i k a k' b';split at h
  ·rename_i hk;subst hk;cases h;rw [hx.jj,hy.jj];refine ⟨fun w=>by simp [binOp,Op.intCmp],fun w=>by simp [binOp,Op.intCmp,bne],by simp,by simp⟩
  ·cases h
 ·rename_i a b';cases h;obtain ⟨s,rfl,rfl⟩:=hx.jF;obtain ⟨u,rfl,rfl⟩:=hy.jF;refine ⟨fun w=>by simp [binOp,Op.stringOp,ByteArray.toList_eq],fun w=>by simp [binOp,Op.stringOp,ByteArray.toList_eq],by simp,by simp⟩
 all_goals first
  |(cases h;done)
  |(split at h
    ·cases h;cases hx;cases hy;have:=key (fun w=>by first|exact Ub 9999 w hd _ _|exact (GQ 9999 w hd default).1|exact (GQ 9999 w hd _).2.1|exact (GQ 9999 w hd _).2.2|exact (Bc 9999 w hd default 0 0).1|exact (Bc 9999 w hd _ _ _).2.1|exact (Bc 9999 w hd _ _ _).2.2|exact (GR 9999 w hd 0).1|exact (GR 9999 w hd _).2.1|exact (GR 9999 w hd _).2.2|exact (Di 9999 w hd (.func 0) #[] #[]).1|exact (Di 9999 w hd _ _ _).2.1|exact (Di 9999 w hd _ _ _).2.2) (by simp) (by simp) (by simp) (by simp);exact ⟨this.1,this.2,by simp,by simp⟩
    ·cases h)
theorem YX{off:Nat}{v:AV}(hx:VR w0 μ x xv)(hi:faI P t i=some off)(h:ja off x=some v) :
  ∃ vc,(∀ w,(Instr.fieldAt t xv i).run P w = .ok vc w)/\VR w0 μ v vc:=by
 unfold faI LM at hi;split at hi
 ·rename_i f hf;split at hf
  ·rename_i fs hu;split at hi
   ·rename_i s hs;split at hi
    ·cases hi
    ·rename_i hs0;cases hi
     have hsz:∀ w,(sizeOf f.type).run P w = .ok s w:=by
      intro w;unfold sW at hs;split at hs
      ·rename_i inf kV;cases hs;simp [sizeOf,typeInfo,kV]
      ·cases hs
     have key:∀ (c o:Nat) (w:World),(Instr.fieldAt t (.pointer (some ⟨c,o,none⟩)) i).run P w = .ok (.pointer (some ⟨c,o+f.offset,none⟩)) w:=by
      intro c o w;simp [Instr.fieldAt,run_underlying hu,hf,Instr.sureAddr,fieldPlace,hsz,hs0,og]
     unfold ja at h;split at h
     ·cases h;cases hx;rename_i b o k hk;refine ⟨_,fun w=>key _ _ w,?_⟩;rw [Nat.add_assoc];exact .ptr _ _ _ hk
     ·cases h;cases hx;refine ⟨_,fun w=>key _ _ w,?_⟩;rw [Nat.add_assoc];exact .dL _ _ _ _ _ ‹_› ‹_› ‹_› ‹_›
     ·cases h
   ·cases hi
  ·cases hf
 ·cases hi
theorem qG(h:sW P t=some n)(w:World):(sizeOf t).run P w = .ok n w:=by
 unfold sW at h;split at h
 ·rename_i inf kV;cases h;simp [sizeOf,typeInfo,kV]
 ·cases h
theorem GS{r:Option Nat}(hr:AH P t=some r) :
  (∃ n,r=some n/\(∀ w,(isAgg t).run P w = .ok true w)/\∀ w,(sizeOf t).run P w = .ok n w)\/(r=none/\∀ w,(isAgg t).run P w = .ok false w):=by
 unfold AH at hr;split at hr
 ·rename_i fs hu;split at hr
  ·rename_i n hn;cases hr;exact .inl ⟨n,rfl,fun w=>by simp [isAgg,run_underlying hu],qG hn⟩
  ·cases hr
 ·rename_i n' e hu;split at hr
  ·rename_i n hn;cases hr;exact .inl ⟨n,rfl,fun w=>by simp [isAgg,run_underlying hu],qG hn⟩
  ·cases hr
 ·rename_i d h1 h2 hu;cases hr;refine .inr ⟨rfl,fun w=>?_⟩;simp only [isAgg,Sem.run_bind,run_underlying hu,Result.andThen_ok];cases d<;>first|rfl|(exact absurd rfl (h1 _))|(exact absurd rfl (h2 _ _))
 ·cases hr
theorem GU{r:Option Nat}(hr:AH P t=some r){vs:List Value}(hc:fA w0 μ cs vs){off:Nat}{v:AV}(h:kQ r cs off=some v) :
  ∃ vc,(∀ w,(Go.part t vs.toArray off).run P w = .ok vc w)/\VR w0 μ v vc:=by
 rcases GS hr with ⟨n,rfl,h1,h2⟩|⟨rfl,h1⟩
 ·simp only [kQ] at h;split at h
  ·cases h;exact ⟨.agg ((vs.drop off).take n).toArray,fun w=>by simp [Go.part,h1,h2],((hc.drop off).take n).agg⟩
  ·cases h
 ·simp only [kQ] at h;obtain ⟨vc,hv,hr⟩:=hc.get h;exact ⟨vc,fun w=>by simp [Go.part,h1,hv],hr⟩
theorem QS{o:Option Nat×Nat}{v:AV}(hx:VR w0 μ x xv)(hi:LR P t i=some o)(h:LN o.1 o.2 x=some v) :
  ∃ vc,(∀ w,(Instr.field t xv i).run P w = .ok vc w)/\VR w0 μ v vc:=by
 unfold LR LM at hi;split at hi
 ·rename_i f hf;split at hf
  ·rename_i fs hu;split at hi
   ·rename_i r hr;cases hi;unfold LN at h;split at h
    ·rename_i cs;obtain ⟨vs,rfl,hc⟩:=hx.SZ;obtain ⟨vc,h1,h2⟩:=GU hr hc h;exact ⟨vc,fun w=>by simp [Instr.field,run_underlying hu,hf,asAgg,h1],h2⟩
    ·cases h
   ·cases hi
  ·cases hf
 ·cases hi
theorem GV(h:SM P t=some e):P.underlying t=some (.slice e):=by
 unfold SM at h;split at h
 ·cases h;assumption
 ·cases h
theorem Bd{o:Nat×Nat}(h:GG P t=some o):∃ e inf,P.underlying t=some (.slice e)/\P.info? e=some inf/\inf.size=o.1/\inf.bytes=o.2/\0<o.1/\0<o.2:=by
 unfold GG V7 at h;split at h
 ·cases h
 ·rename_i e he;split at h
  ·rename_i s b hs hb;split at h
   ·rename_i hp;cases h;unfold sW at hs;unfold V3 at hb;split at hs
    ·rename_i inf kV;rw [kV] at hb;cases hs;cases hb;exact ⟨e,inf,GV he,kV,rfl,rfl,by simpa using hp⟩
    ·cases hs
   ·cases h
  ·cases h
theorem YY{o:Nat×Nat}{v:AV}(hx:VR w0 μ x xv)(hy:VR w0 μ y yv)(hi:GG P t=some o)(h:jw o.1 x y=some v) :
  ∃ vc,(∀ w,(Instr.indexAt t xv yv).run P w = .ok vc w)/\VR w0 μ v vc:=by
 obtain ⟨e,inf,hu,kV,hs,hb,hp,xb⟩:=Bd hi;unfold jw at h;split at h
 ·cases h
 ·rename_i i hn;obtain ⟨kk,rfl⟩:=uW hy hn
  have key:∀ (c off len cap:Nat) (w:World),i<len->(Instr.indexAt t (.slice (some ⟨c,off,none⟩) len cap) (.int kk (i:Int))).run P w = .ok (.pointer (some ⟨c,off+i*o.1,none⟩)) w:=by
   intro c off len cap w hlt;have:((i:Int)<(len:Int)):=by omega
   simp [Instr.indexAt,run_underlying hu,asIntOf,sizeOf,typeInfo,kV,hs,og,hlt]
  split at h
  ·rename_i b off len sz;split at h
   ·rename_i hc;cases h;simp only [and_eq_true,decide_eq_true_eq,beq_iff_eq] at hc;cases hx;rename_i cap a k hk hle ha;obtain ⟨rfl,afE⟩:=ha (by omega);refine ⟨_,fun w=>key _ _ _ _ w hc.1,?_⟩;rw [Nat.add_assoc,hc.2];exact .ptr _ _ _ hk
   ·cases h
  ·rename_i cs off len sz;split at h
   ·rename_i hc;cases h;simp only [and_eq_true,decide_eq_true_eq,beq_iff_eq] at hc;cases hx;rename_i cap a g o' vs hg hv hl hr ha hle;obtain rfl:=ha (by omega);refine ⟨_,fun w=>key _ _ _ _ w hc.1,?_⟩;rw [Nat.add_assoc,hc.2];exact .dL _ _ _ _ _ hg hl hv hr
   ·cases h
  ·cases h
theorem Uc{len:Nat}{v:AV}(hx:VR w0 μ x xv)(hy:VR w0 μ y yv)(hu:P.underlying t=some (.array len e))(hs:sW P e=some n)(h:V5 len n x y=some v) :
  ∃ vc,(∀ w,(Instr.indexAt t xv yv).run P w = .ok vc w)/\VR w0 μ v vc:=by
 unfold sW at hs;split at hs
 ·rename_i inf kV;simp only [Option.some.injEq] at hs;unfold V5 at h;split at h
  ·cases h
  ·rename_i i hn;obtain ⟨kk,rfl⟩:=uW hy hn
   have key:∀ (c off:Nat) (w:World),i<len->(Instr.indexAt t (.pointer (some ⟨c,off,none⟩)) (.int kk (i:Int))).run P w = .ok (.pointer (some ⟨c,off+i*n,none⟩)) w:=by
    intro c off w hlt;have:((i:Int)<(len:Int)):=by omega
    simp [Instr.indexAt,run_underlying hu,asIntOf,Instr.sureAddr,sizeOf,typeInfo,kV,hs,og,hlt]
   split at h
   ·rename_i b off;split at h
    ·rename_i hc;cases h;cases hx;rename_i k hk;refine ⟨_,fun w=>key _ _ w hc,?_⟩;rw [Nat.add_assoc];exact .ptr _ _ _ hk
    ·cases h
   ·rename_i cs off;split at h
    ·rename_i hc;cases h;cases hx;refine ⟨_,fun w=>key _ _ w hc,?_⟩;rw [Nat.add_assoc];exact .dL _ _ _ _ _ ‹_› ‹_› ‹_› ‹_›
    ·cases h
   ·cases h
 ·cases hs
theorem Wf{o:IaK}{v:AV}(hx:VR w0 μ x xv)(hy:VR w0 μ y yv)(hi:iaI P t=some o)(h:iaV o x y=some v) :
  ∃ vc,(∀ w,(Instr.indexAt t xv yv).run P w = .ok vc w)/\VR w0 μ v vc:=by
 unfold iaI at hi;split at hi
 ·rename_i len e hu;split at hi
  ·rename_i s hs;cases hi;exact Uc hx hy hu hs h
  ·cases hi
 ·split at hi
  ·rename_i o' ho;cases hi;exact YY hx hy ho h
  ·cases hi
theorem Wg(s:ByteArray)(i:Nat):s.data.toList[i]?=s[i]?:=by
 by_cases h:i<s.size
 ·have h':i<s.data.toList.length:=by rw [Array.length_toList];exact h
  rw [jQ h',getElem?_pos s i h];rfl
 ·have h':s.data.toList.length<=i:=by rw [Array.length_toList];exact Nat.le_of_not_lt h
  rw [getElem?_eq_none h',getElem?_neg s i h]
theorem Wh{o:ac8}{v:AV}(hx:VR w0 μ x xv)(hy:VR w0 μ y yv)(hi:YU P t=some o)(h:V8 o x y=some v) :
  ∃ vc,(∀ w,(Instr.index t xv yv).run P w = .ok vc w)/\VR w0 μ v vc:=by
 unfold YU at hi;split at hi
 ·rename_i hu;cases hi;simp only [V8,oA] at h;split at h
  ·rename_i s i hn;obtain ⟨s,rfl,rfl⟩:=hx.jF;obtain ⟨kk,rfl⟩:=uW hy hn;split at h
   ·rename_i b hb;cases h;rw [Wg] at hb;refine ⟨.int .u8 b.toNat,fun w=>?_,.int _ _⟩;simp [Instr.index,run_underlying hu,asIntOf,hb]
   ·cases h
  ·cases h
 ·rename_i len e hu;split at hi
  ·rename_i n r hn hr;cases hi;simp only [V8,SO] at h;split at h
   ·rename_i cs i hi;obtain ⟨vs,rfl,hc⟩:=hx.SZ;obtain ⟨kk,rfl⟩:=uW hy hi;split at h
    ·rename_i hlt;obtain ⟨vc,h1,h2⟩:=GU hr hc h;refine ⟨vc,fun w=>?_,h2⟩;have:((i:Int)<(len:Int)):=by omega
     simp [Instr.index,run_underlying hu,asIntOf,hlt,qG hn,h1]
    ·cases h
   ·cases h
  ·cases hi
 ·cases hi
theorem LZ{v:AV}(hx:VR w0 μ x xv)(h:bu x i=some v):∃ vc,(∀ w,(Instr.extract xv i).run P w = .ok vc w)/\VR w0 μ v vc:=by
 unfold bu at h;split at h
 ·obtain ⟨vs,rfl,hc⟩:=hx.Kt;obtain ⟨vc,h1,h2⟩:=hc.get h;exact ⟨vc,fun w=>by simp [Instr.extract,h1],h2⟩
 ·cases h
theorem QU(hx:VR w0 μ x xv)(h:GK P t=some ()):(∀ w,(Instr.makeInterface t xv).run P w = .ok (.iface t xv) w)/\VR w0 μ (.iface t x) (.iface t xv):=by
 refine ⟨fun w=>?_,.iface t x xv hx⟩;unfold GK at h;split at h
 ·cases h
 ·rename_i d hd hu;simp only [Instr.makeInterface,Sem.run_bind,run_underlying hu,Result.andThen_ok];cases d<;>first|rfl|(exact absurd rfl (hd _))
 ·cases h
theorem Wi{mx:Bool}:∀ (ys:List AV) (x v:AV) (xv:Value) (yvs:List Value),VR w0 μ x xv->fA w0 μ ys yvs->AJ mx x ys=some v ->
  ∃ vc,(∀ w,(yvs.foldlM (if mx then Builtin.max2 else Builtin.min2) xv).run P w = .ok vc w)/\VR w0 μ v vc:=by
 intro ys
 induction ys with
 |nil=>
  intro x v xv yvs hx hy h;obtain rfl:=hy.jE;cases h;exact ⟨xv,fun w=>by simp,hx⟩
 |cons y ys ih=>
  intro x v xv yvs hx hy h;obtain ⟨u,us,rfl,hyu,hys⟩:=hy.cons_inv;simp only [AJ] at h;split at h
  ·rename_i v' Ku;unfold QD at Ku;split at Ku
   ·rename_i k a k' b;split at Ku
    ·rename_i hk;subst hk;cases Ku;rw [hx.jj,hyu.jj];obtain ⟨vc,h1,h2⟩:=ih _ v _ us (.int _ _) hys h;refine ⟨vc,fun w=>?_,h2⟩;simp only [foldlM_cons,Sem.run_bind];cases mx<;>simp [Builtin.min2,Builtin.max2]<;>simpa using h1 w
    ·cases Ku
   ·cases Ku
  ·cases h
theorem GW{x:Option AV}{xv:Option Value}{d:Nat}(hx:(x=none/\xv=none)\/∃ a v,x=some a/\xv=some v/\VR w0 μ a v)(h:pH x d=some n) :
  (xv=none/\n=d)\/∃ k,xv=some (.int k (n:Int)):=by
 rcases hx with ⟨rfl,rfl⟩|⟨a,v,rfl,rfl,hr⟩
 ·simp [pH] at h;exact .inl ⟨rfl,h.symm⟩
 ·obtain ⟨k,rfl⟩:=uW hr h;exact .inr ⟨k,rfl⟩
theorem vJ{isSlice:Bool}{len cap lo hi:Nat}{lov YZ:Option Value}(w:World)(h1:(lov=none/\lo=0)\/∃ k,lov=some (.int k (lo:Int)))(h2:(YZ=none/\hi=len)\/∃ k,YZ=some (.int k (hi:Int)))
  (hl:lo<=hi) (hh:hi<=cap):(Instr.sliceBounds isSlice len cap lov YZ none).run P w = .ok (lo,hi,cap) w:=by
 have e1:(0:Int)<=(lo:Int)/\(lo:Int)<=(hi:Int):=by omega
 have e2:(0:Int)<=(hi:Int)/\(hi:Int)<=(cap:Int):=by omega
 rcases h1 with ⟨rfl,rfl⟩|⟨k1,rfl⟩<;>rcases h2 with ⟨rfl,rfl⟩|⟨k2,rfl⟩<;>simp [Instr.sliceBounds,Instr.sliceBound,asIntOf,e1,e2,hl,hh]
theorem extract_toList(s:ByteArray)(lo hi:Nat)(hl:lo<=hi)(hh:hi<=s.size):(s.extract lo hi).data.toList=(s.data.toList.take hi).drop lo:=by
 simp only [ByteArray.data_extract,Array.toList_extract];rw [extract_eq_take_drop,drop_take]
theorem QV{i:Option Nat}{v:AV}{lo hi:Option AV}{lov YZ:Option Value}(hx:VR w0 μ x xv)
  (GX:(lo=none/\lov=none)\/∃ a v,lo=some a/\lov=some v/\VR w0 μ a v) (Qi:(hi=none/\YZ=none)\/∃ a v,hi=some a/\YZ=some v/\VR w0 μ a v)
  (Ae:LS P t=some i) (h:fR i x lo hi=some v):∃ vc,(∀ w,(Instr.sliceAt t xv lov YZ none).run P w = .ok vc w)/\VR w0 μ v vc:=by
 unfold fR at h;split at h
 ·cases h
 ·rename_i len hlen;split at h
  ·rename_i hi1 Qj hb1 hb2;split at h
   ·rename_i hc;simp only [and_eq_true,decide_eq_true_eq] at hc;have b1:=GW Qi hb1;have b2:=GW GX hb2;unfold LS at Ae;split at Ae
    ·rename_i hu;cases Ae;cases x<;>simp only [reduceCtorEq,Option.some.injEq] at h;rename_i l;subst h;obtain ⟨s,rfl,rfl⟩:=hx.jF
     have hl:hi1<=s.size:=by
      simp only [lJ,Option.some.injEq] at hlen;have:s.data.toList.length=s.size:=by rw [Array.length_toList];rfl
      omega
     have b1':(YZ=none/\hi1=s.size)\/∃ k,YZ=some (.int k (hi1:Int)):=by
      rcases b1 with ⟨e1,e2⟩|e
      ·refine .inl ⟨e1,?_⟩;simp only [lJ,Option.some.injEq] at hlen;have:s.data.toList.length=s.size:=by rw [Array.length_toList];rfl
       omega
      ·exact .inr e
     refine ⟨.string (s.extract Qj hi1),fun w=>?_,?_⟩
     ·simp [Instr.sliceAt,Instr.slice,run_underlying hu,vJ (P:=P) w b2 b1' hc.1 hl]
     ·rw [<- extract_toList s Qj hi1 hc.1 hl];exact .str _
    ·rename_i e hu;split at Ae
     ·rename_i sz hsz;cases Ae;cases x<;>simp only [reduceCtorEq,Option.some.injEq] at h
      ·subst h;simp only [lJ,Option.some.injEq] at hlen;subst hlen;cases hx;obtain rfl:hi1=0:=by omega
       obtain rfl:Qj=0:=by omega
       refine ⟨.slice none 0 0,fun w=>?_,.ai⟩;simp [Instr.sliceAt,Instr.slice,run_underlying hu,vJ (P:=P) w b2 b1 (dK 0) (dK 0),qG hsz]
      ·rename_i b off n sz';split at h
       ·rename_i hs;subst hs;cases h;simp only [lJ,Option.some.injEq] at hlen;subst hlen;cases hx;rename_i cap a k hk hle ha;refine ⟨.slice (if cap=Qj then some a else some (a.add (Qj*sz))) (hi1-Qj) (cap-Qj),fun w=>?_,?_⟩
        ·have hb:=vJ (P:=P) (isSlice:=true) (len:=n) (cap:=cap) w b2 b1 hc.1 (by omega);simp [Instr.sliceAt,Instr.slice,run_underlying hu,hb,qG hsz]
        ·by_cases e:cap=Qj
         ·rw [if_pos e];exact .slice _ _ _ _ _ _ _ hk (by omega) (fun h0=>by omega)
         ·rw [if_neg e];refine .slice _ _ _ _ _ _ _ hk (by omega) (fun h0=>?_);obtain ⟨rfl,hbd⟩:=ha (by omega);refine ⟨by rw [og,Nat.add_assoc],?_⟩;have:(cap-Qj)*sz=cap*sz-Qj*sz:=Nat.sub_mul _ _ _;have h2:Qj*sz<=cap*sz:=mul_le_mul_right _ (by omega);omega
       ·cases h
      ·rename_i cs off n sz';split at h
       ·rename_i hs;subst hs;cases h;simp only [lJ,Option.some.injEq] at hlen;subst hlen;cases hx;rename_i cap a g o' vs hg hv hl hr ha hle;refine ⟨.slice (if cap=Qj then some a else some (a.add (Qj*sz))) (hi1-Qj) (cap-Qj),fun w=>?_,?_⟩
        ·have hb:=vJ (P:=P) (isSlice:=true) (len:=n) (cap:=cap) w b2 b1 hc.1 (by omega);simp [Instr.sliceAt,Instr.slice,run_underlying hu,hb,qG hsz]
        ·by_cases e:cap=Qj
         ·rw [if_pos e];exact .ax _ _ _ _ _ _ _ _ _ hg hl hv hr (by omega) (fun h0=>by omega)
         ·rw [if_neg e];refine .ax _ _ _ _ _ _ _ _ _ hg hl hv hr (by omega) (fun h0=>?_);obtain rfl:=ha (by omega);rw [og,Nat.add_assoc]
       ·cases h
     ·cases Ae
    ·cases Ae
   ·cases h
  ·cases h
end
end Go.AM
namespace Go.AM
open List Nat Bool Option
open Go Go.RowKit
theorem iC{α:Type}:∀ (vs cs:List α) (off:Nat),(eW cs off vs).length=cs.length
 |[],cs,off=>rfl
 |v :: vs,cs,off=>by simp [eW,iC vs]
section
variable {P:Program} {w0:World} {μ:Mu} {ρ:Operand->AV} {ρc:Operand->Value}
theorem fA.eW:∀ {xs ys:List AV} {us vs:List Value} (off:Nat),fA w0 μ xs us->fA w0 μ ys vs->fA w0 μ (AM.eW xs off ys) (AM.eW us off vs)
 |xs,[],us,vs,off,h,k=>by obtain rfl:=k.jE;exact h
 |xs,y :: ys,us,vs,off,h,k=>by
  obtain ⟨u,us',rfl,h1,h2⟩:=k.cons_inv;exact fA.eW (off+1) (h.set off h1) h2
theorem GY:∀ (vs:List Value) (j off:Nat) (cells:Array Value),
  ((vs.zipIdx j).foldl (fun cs (p:Value×Nat)=>cs.setIfInBounds (off+p.2) p.1) cells).toList=eW cells.toList (off+j) vs
 |[],j,off,cells=>rfl
 |v :: vs,j,off,cells=>by
  simp only [zipIdx_cons,foldl_cons,eW];rw [GY vs (j+1) off];simp [Nat.add_assoc]
theorem GZ(place:Nat->Option (Nat×Nat)):∀ (is:List Nat) (ps:List (Nat×Nat)) (xs:List AV) (us:List Value) (zs cs:List AV) (cells:Array Value),
  is.length=ps.length->(∀ (k i:Nat) (p:Nat×Nat),is[k]?=some i->ps[k]?=some p->place i=some p)->fA w0 μ xs us->fA w0 μ zs cells.toList->sY zs ps xs=some cs ->
  ∃ nU,Instr.fill place cells (is.zip us)=some nU/\fA w0 μ cs nU.toList:=by
 intro is
 induction is with
 |nil=>
  intro ps xs us zs cs cells hl hp hx hz h;obtain rfl:ps = []:=eq_nil_of_length_eq_zero hl.symm
  cases xs with
  |nil=>cases h;exact ⟨cells,by simp [Instr.fill],hz⟩
  |cons x xs=>simp [sY] at h
 |cons i is ih=>
  intro ps xs us zs cs cells hl hp hx hz h
  cases ps with
  |nil=>simp at hl
  |cons p ps=>
   obtain ⟨off,n⟩:=p
   cases xs with
   |nil=>simp [sY] at h
   |cons x xs=>
    obtain ⟨u,us',rfl,hu,Qk⟩:=hx.cons_inv;simp only [sY] at h;split at h
    ·rename_i hc;simp only [and_eq_true,decide_eq_true_eq] at hc;have xX:=hu.cells hc.2;have e1:u.cells.size=n:=by rw [<- Array.length_toList,<- xX.len];exact hc.1.1
     have e2:off+u.cells.size<=cells.size:=by rw [e1];have:=hc.1.2;rw [hz.len,Array.length_toList] at this;exact this
     have hz':fA w0 μ (AM.eW zs off x.dX) (u.cells.zipIdx.foldl (fun cs (p:Value×Nat)=>cs.setIfInBounds (off+p.2) p.1) cells).toList:=by
      have:=GY u.cells.toList 0 off cells
      have e3:u.cells.zipIdx.foldl (fun cs (p:Value×Nat)=>cs.setIfInBounds (off+p.2) p.1) cells=(u.cells.toList.zipIdx 0).foldl (fun cs (p:Value×Nat)=>cs.setIfInBounds (off+p.2) p.1) cells:=by
       rw [<- Array.foldl_toList];simp
      rw [e3,this];exact fA.eW _ hz xX
     obtain ⟨nU,h1,h2⟩:=ih ps xs us' _ cs _ (by simpa using hl) (fun k i p a b=>hp (k+1) i p (by simpa using a) (by simpa using b)) Qk hz' h;refine ⟨nU,?_,h2⟩;have sF:place i=some (off,n):=hp 0 i (off,n) rfl rfl;simp only [zip_cons_cons,Instr.fill,sF];rw [if_neg (by simp [e1];rw [<- e1];exact e2)];exact h1
    ·cases h
theorem QW{pl:List (Nat×Nat)}:∀ {is:List Nat} {ps:List (Nat×Nat)},SQ pl is=some ps->is.length=ps.length/\∀ (k i:Nat) (p:Nat×Nat),is[k]?=some i->ps[k]?=some p->pl[i]?=some p:=by
 intro is
 induction is with
 |nil=>intro ps h;cases h;exact ⟨rfl,by simp⟩
 |cons i is ih=>
  intro ps h;simp only [SQ] at h;split at h
  ·rename_i p ps' h1 h2;cases h;obtain ⟨e1,e2⟩:=ih h2;refine ⟨by simp [e1],fun k j q a b=>?_⟩
   cases k with
   |zero=>simp at a b;subst a;subst b;exact h1
   |succ k=>exact e2 k j q (by simpa using a) (by simpa using b)
  ·cases h
theorem qH{t:TypeId}{z:AV}(h:Ev P t=some z):∃ inf zv,P.info? t=some inf/\inf.zero=some zv/\z=ofConst zv:=by
 unfold Ev at h;split at h
 ·rename_i inf kV;split at h
  ·rename_i zv hz;cases h;exact ⟨inf,zv,kV,hz,rfl⟩
  ·cases h
 ·cases h
theorem xY{α β:Type}(l:List (Nat×α))(g:α->β):(l.map (·.1)).zip (l.map fun p=>g p.2)=l.map fun p=>(p.1,g p.2):=by
 induction l with
 |nil=>rfl
 |cons a l ih=>simp [ih]
theorem QX{t:TypeId}{parts:Array (Nat×Operand)}{v:AV}(hρ:∀ x,VR w0 μ (ρ x) (ρc x))
  (h:((LQ P t (parts.toList.map (·.1))).bind fun i=>iP i.1 i.2 (parts.toList.map fun p=>ρ p.2))=some v) :
  ∃ vc,(∀ w,(Instr.build t (parts.map fun (i,x)=>(i,ρc x))).run P w = .ok vc w)/\VR w0 μ v vc:=by
 obtain ⟨i,hi,ha⟩:=bind_eq_some_iff.1 h;unfold iP at ha;split at ha
 ·rename_i cs hcs;cases ha;unfold LQ at hi;split at hi
  ·rename_i fs hu;split at hi
   ·rename_i z pl hz sF;split at hi
    ·rename_i ps uN;split at hi
     ·rename_i Af;cases hi;obtain ⟨inf,zv,kV,NH,rfl⟩:=qH hz;obtain ⟨e1,e2⟩:=QW uN;have hx:fA w0 μ (parts.toList.map fun p=>ρ p.2) (parts.toList.map fun p=>ρc p.2):=fA.map _ fun a _=>hρ a.2;obtain ⟨nU,h1,h2⟩:=GZ (w0:=w0) (μ:=μ) (pl.toArray[·]?) _ ps _ _ _ cs zv.cells e1 (fun k i p a b=>by simpa using e2 k i p a b) hx ((VR.ofConst zv).cells Af) hcs;rw [xY] at h1;refine ⟨.agg nU,fun w=>?_,?_⟩
      ·refine run_build w t _ nU ?_;unfold Program.built;rw [kV,hu];simp only [NH];have alx:fs.toList.mapM (fun f=>(P.info? f.type).map fun i=>(f.offset,i.size))=some pl:=sF;rw [alx];simpa using h1
      ·have:=h2.agg;simpa using this
     ·cases hi
    ·cases hi
   ·cases hi
  ·rename_i n e hu;split at hi
   ·rename_i z ie hz hie;split at hi
    ·rename_i Af;cases hi;obtain ⟨inf,zv,kV,NH,rfl⟩:=qH hz;have hx:fA w0 μ (parts.toList.map fun p=>ρ p.2) (parts.toList.map fun p=>ρc p.2):=fA.map _ fun a _=>hρ a.2
     obtain ⟨nU,h1,h2⟩:=GZ (w0:=w0) (μ:=μ) (fun i=>some (i*ie.size,ie.size)) (parts.toList.map (·.1)) ((parts.toList.map (·.1)).map fun i=>(i*ie.size,ie.size)) _ _ _ cs zv.cells (by simp) (fun k i p a b=>by
      rw [getElem?_map,a] at b;simpa using b) hx ((VR.ofConst zv).cells Af) hcs
     rw [xY] at h1;refine ⟨.agg nU,fun w=>?_,?_⟩
     ·refine run_build w t _ nU ?_;unfold Program.built;rw [kV,hu];simp only [NH,hie];simpa using h1
     ·have:=h2.agg;simpa using this
    ·cases hi
   ·cases hi
  ·cases hi
 ·cases ha
theorem Wj(hρ:∀ x,VR w0 μ (ρ x) (ρc x))(lo:Option Operand):(lo.map ρ=none/\lo.map ρc=none)\/∃ a v,lo.map ρ=some a/\lo.map ρc=some v/\VR w0 μ a v:=by
 cases lo with
 |none=>exact .inl ⟨rfl,rfl⟩
 |some x=>exact .inr ⟨_,_,rfl,rfl,hρ x⟩
theorem NI{xt a:TypeId}{ok:Bool}{z x v:AV}{xv:Value}(hx:VR w0 μ x xv)(hi:Gk P a ok=some z)(h:Gj a z x=some v) :
  ∃ vc,(∀ w,(Instr.typeAssert xv xt a ok).run P w = .ok vc w)/\VR w0 μ v vc:=by
 unfold Gk at hi;split at hi
 ·cases hi
 ·rename_i d hu hd;obtain ⟨inf,zv,h1,h2,rfl⟩:=qH hi;have hz:∀ w,(zeroValue a).run P w = .ok zv w:=fun w=>by simp [zeroValue,typeInfo,h1,h2]
  unfold Gj at h;split at h
  ·cases h;cases hx;refine ⟨.tuple #[zv,.bool false],fun w=>?_,fA.tuple (.cons (VR.ofConst zv) (.cons (.bool false) .nil))⟩;cases d<;>first|(simp [Instr.typeAssert,run_underlying hd,hz];done)|(exfalso;simp_all)
  ·rename_i t y;cases h;cases hx;rename_i yv hy;by_cases e:t=a
   ·subst e;rw [if_pos rfl];refine ⟨.tuple #[yv,.bool true],fun w=>?_,fA.tuple (.cons hy (.cons (.bool true) .nil))⟩;cases d<;>first|(simp [Instr.typeAssert,run_underlying hd];done)|(exfalso;simp_all)
   ·rw [if_neg e];refine ⟨.tuple #[zv,.bool false],fun w=>?_,fA.tuple (.cons (VR.ofConst zv) (.cons (.bool false) .nil))⟩;cases d<;>first|(simp [Instr.typeAssert,run_underlying hd,hz,e];done)|(exfalso;simp_all)
  ·cases h
 ·cases hi
theorem NJ(hρ:∀ x,VR w0 μ (ρ x) (ρc x)){o:Oper}(hk:gZ o.op = .pure){v:AV}(h:qy P ρ o.op=some v) :
  ∃ vc,(∀ w,(execOp ρc o).run P w = .ok (.value vc) w)/\VR w0 μ v vc:=by
 obtain ⟨dst,op,type,pos,after,guard⟩:=o;cases op<;>simp only [gZ,reduceCtorEq] at hk<;>simp only [qy] at h
 case move x=>cases h;exact ⟨ρc x,fun w=>by simp [execOp],hρ x⟩
 case assign x=>cases h;exact ⟨ρc x,fun w=>by simp [execOp],hρ x⟩
 case pick c a b=>
  obtain ⟨t,ht,hv⟩:=Ua (hρ c) (hρ a) (hρ b) h;exact ⟨_,fun w=>by simp [execOp,ht,asBool],hv⟩
 case build t ps=>
  obtain ⟨vc,h1,h2⟩:=QX (ρc:=ρc) hρ h;exact ⟨vc,fun w=>by simp [execOp,h1],h2⟩
 case nilCheck x=>
  obtain ⟨h1,h2⟩:=Jr (hρ x) h;refine ⟨ρc x,fun w=>?_,h1⟩;rcases h2 with ⟨a,ha⟩|⟨f,a,b,ha⟩<;>simp [execOp,ha]
 case binOp op t x y u=>
  have afG:∀ vc,(∀ w,(binOp op t (ρc x) (ρc y)).run P w = .ok vc w)->(ρc x≠.nilIface/\∀ c,ρc x≠.agg c)->∀ w,(execOp ρc ⟨dst,.binOp op t x y u,type,pos,after,guard⟩).run P w = .ok (.value vc) w:=
   fun vc h1 h2 w=>by simp [execOp,Js h2.1 h2.2,h1]
  cases op
  case eql=>
   obtain ⟨d,hd,he⟩:=bind_eq_some_iff.1 h;unfold jC at he;split at he
   ·rename_i b hb;cases he;obtain ⟨h1,_,h3⟩:=NG hd (hρ x) (hρ y) hb;exact ⟨.bool b,afG _ h1 h3,.bool b⟩
   ·cases he
  case neq=>
   obtain ⟨d,hd,he⟩:=bind_eq_some_iff.1 h;unfold qE at he;split at he
   ·rename_i b hb;cases he;obtain ⟨_,h1,h3⟩:=NG hd (hρ x) (hρ y) hb;exact ⟨.bool (!b),afG _ h1 h3,.bool _⟩
   ·cases he
  all_goals
   obtain ⟨vc,h1,h2⟩:=We (P:=P) (t:=t) (hρ x) (hρ y) h (by simp) (by simp);refine ⟨vc,fun w=>?_,h2⟩;simp [execOp,eqGuard,h1]
 case unOp op t x=>
  obtain ⟨vc,h1,h2⟩:=YW (P:=P) (hρ x) h;exact ⟨vc,fun w=>by simp [execOp,h1],h2⟩
 case makeInterface t x=>
  obtain ⟨_,hi,he⟩:=bind_eq_some_iff.1 h;cases he;obtain ⟨h1,h2⟩:=QU (P:=P) (hρ x) hi;exact ⟨_,fun w=>by simp [execOp,h1],h2⟩
 case makeFunc fn first cap=>
  cases fn<;>simp only [reduceCtorEq,Option.some.injEq] at h;rename_i f;subst h;have h1:fA w0 μ (first.toList.map ρ) (first.toList.map ρc):=fA.map _ fun a _=>hρ a;have h2:fA w0 μ (cap.toList.map ρ) (cap.toList.map ρc):=fA.map _ fun a _=>hρ a;refine ⟨.func (.func f) (first.toList.map ρc).toArray (cap.toList.map ρc).toArray,fun w=>?_,.func f _ _ _ _ h1.len h2.len h1.rel h2.rel⟩;have e1:∀ a:Array Operand,a.map ρc=(a.toList.map ρc).toArray:=fun a=>by apply Array.ext';simp
  simp only [execOp,Instr.makeFunc,e1];rfl
 case slice t x lo hi mx=>
  cases mx with
  |some m=>cases h
  |none=>
   obtain ⟨i,Ae,he⟩:=bind_eq_some_iff.1 h;obtain ⟨vc,h1,h2⟩:=QV (hρ x) (Wj hρ lo) (Wj hρ hi) Ae he;exact ⟨vc,fun w=>by simp [execOp,h1],h2⟩
 case fieldAddr t x i=>
  obtain ⟨o,hi,he⟩:=bind_eq_some_iff.1 h;obtain ⟨vc,h1,h2⟩:=YX (hρ x) hi he;exact ⟨vc,fun w=>by simp [execOp,h1],h2⟩
 case field t x i=>
  obtain ⟨o,hi,he⟩:=bind_eq_some_iff.1 h;obtain ⟨vc,h1,h2⟩:=QS (hρ x) hi he;exact ⟨vc,fun w=>by simp [execOp,h1],h2⟩
 case indexAddr t x i=>
  obtain ⟨o,hi,he⟩:=bind_eq_some_iff.1 h;obtain ⟨vc,h1,h2⟩:=Wf (hρ x) (hρ i) hi he;exact ⟨vc,fun w=>by simp [execOp,h1],h2⟩
 case index t x i=>
  obtain ⟨o,hi,he⟩:=bind_eq_some_iff.1 h;obtain ⟨vc,h1,h2⟩:=Wh (hρ x) (hρ i) hi he;exact ⟨vc,fun w=>by simp [execOp,h1],h2⟩
 case extract x i=>
  obtain ⟨vc,h1,h2⟩:=LZ (P:=P) (hρ x) h;exact ⟨vc,fun w=>by simp [execOp,h1],h2⟩
 case typeAssert x xt a ok=>
  obtain ⟨z,hi,he⟩:=bind_eq_some_iff.1 h;obtain ⟨vc,h1,h2⟩:=NI (P:=P) (xt:=xt) (hρ x) hi he;exact ⟨vc,fun w=>by simp [execOp,h1],h2⟩
 case call c=>
  obtain ⟨Dh,args,ts⟩:=c
  cases Dh with
  |value f=>simp [gY] at hk
  |invoke r m=>simp [gY] at hk
  |builtin b=>
   cases b<;>simp only [gY,reduceCtorEq] at hk
   all_goals
    have hx:fA w0 μ (args.toList.map ρ) (args.toList.map ρc):=fA.map _ fun a _=>hρ a;simp only at h;split at h
    ·rename_i x xs Yz;rw [Yz] at hx;obtain ⟨u,us,Qk,h1,h2⟩:=hx.cons_inv;obtain ⟨vc,h3,h4⟩:=Wi (P:=P) _ _ _ _ _ h1 h2 h;refine ⟨vc,fun w=>?_,h4⟩;have h5:=h3 w;simp at h5;simp [execOp,resolve,invoke,builtin,Builtin.max_,Builtin.min_,Qk,h5]
    ·cases h
end
end Go.AM
namespace Go.AM
open List Nat Bool Option
open Go Go.RowKit
variable {d:TypeDesc} {kv xv:Value} {t kt:TypeId} {ju:List MapEntry} {cs:List AV} {es:List Entry} {k v x:AV} {c:Nat}
def pJ(P:Program)(ρ:Operand->AV)(h:Heap):Op->Option AV
 |.load t a=>(AH P t).bind fun i=>au i (ρ a) h
 |.lookup t x i ok=>(vH P t).bind fun d=>eO d.1 d.2 ok (ρ x) (ρ i) h
 |.call c=>(match c.callee with
  |.builtin .len=>(match c.argTypes.toList,c.args.toList.map ρ with
   |t :: _,[x]=>(YV P t).bind fun i=>bK i x h
   |_,_=>none)
  |_=>none)
 |_=>none
theorem uX{P:Program}{ρ:Operand->AV}{op:Op}(hk:gZ op = .read)(h:Heap)(K:AV->Heap->Bool):jz op P ρ h K=aa (pJ P ρ h op) fun v=>K v h:=by
 cases op<;>simp only [gZ,reduceCtorEq] at hk
 case load=>simp only [jz,nT,pJ,jT]
 case lookup=>simp only [jz,Ny,nT,pJ,jT]
 case call c=>
  obtain ⟨Dh,args,ts⟩:=c
  cases Dh with
  |value f=>simp [gY] at hk
  |invoke r m=>simp [gY] at hk
  |builtin b=>
   cases b<;>simp only [gY,reduceCtorEq] at hk;simp only [jz,xT,Ks,QH,pJ]
   cases h1:ts.toList with
   |nil=>rfl
   |cons t l=>cases h2:args.toList.map ρ with
    |nil=>rfl
    |cons x l2=>cases l2 with
     |nil=>simp only [nT,jT]
     |cons y l3=>rfl
section
variable {P:Program} {w0 w:World} {μ:Mu} {h:Heap} {ρ:Operand->AV} {ρc:Operand->Value}
theorem cell_of{vs:Array Value}{e:TypeId}{fr:Nat×Nat}(ho:w.heap[c]?=some (.cells vs e fr))(i:Nat):w.cell? ⟨c,i,none⟩=vs[i]?:=by
 simp [World.cell?,ho]
theorem Good.cells(hg:Good w0 μ h w){b:Nat}{k:LY}(hk:μ b=some k)(ho:h.get b=some (.cells cs)) :
  ∀ (i:Nat) (x:AV),cs[i]?=some x->∃ v,w.cell? ⟨k.c,k.base+i,none⟩=some v/\VR w0 μ x v:=by
 obtain ⟨vs,e,fr,h1,h2,h3,h4,h5⟩:=hg.obj b k _ hk ho;intro i x hx;obtain ⟨v,a,b⟩:=h5 i x hx;exact ⟨v,by rw [cell_of h1];exact a,b⟩
theorem Good.QY(hg:Good w0 μ h w){g o:Nat}{vs:List Value}(hgl:True)(hl:cs.length=vs.length)
  (hv:∀ (i:Nat) (v:Value),vs[i]?=some v->μ.cell g (o+i)=some v) (hr:∀ (i:Nat) (x:AV) (v:Value),cs[i]?=some x->vs[i]?=some v->VR w0 μ x v) :
  ∀ (i:Nat) (x:AV),cs[i]?=some x->∃ v,w.cell? ⟨g,o+i,none⟩=some v/\VR w0 μ x v:=by
 intro i x hx;obtain ⟨v,a,b⟩:=(fA.mk hl hr).get hx;have hc:=hv i v a;unfold Mu.cell at hc;obtain ⟨zs,hz,hi⟩:=bind_eq_some_iff.1 hc;obtain ⟨arr,e,fr,h1,h2⟩:=hg.Ad g zs hz;refine ⟨v,?_,b⟩;rw [cell_of h1,<- hi,<- h2,Array.getElem?_toList]
theorem Be{base:Nat}(hc:∀ (i:Nat) (x:AV),cs[i]?=some x->∃ v,w.cell? ⟨c,base+i,none⟩=some v/\VR w0 μ x v) :
  ∀ (n off:Nat),off+n<=cs.length->∃ vs:List Value,vs.length=n/\(∀ (j:Nat) (v:Value),vs[j]?=some v->w.cell? ⟨c,base+off+j,none⟩=some v)/\fA w0 μ ((cs.drop off).take n) vs:=by
 intro n
 induction n with
 |zero=>intro off hle;exact ⟨[],rfl,by simp,by simpa using fA.nil⟩
 |succ n ih=>
  intro off hle;obtain ⟨vs,h1,h2,h3⟩:=ih (off+1) (by omega);have hx:cs[off]?=some (cs[off]'(by omega)):=jQ (by omega);obtain ⟨v,hv,hr⟩:=hc off _ hx;refine ⟨v :: vs,by simp [h1],fun j u hj=>?_,?_⟩
  ·cases j with
   |zero=>simp at hj;subst hj;exact hv
   |succ j=>
    have:=h2 j u (by simpa using hj)
    rwa [show base+off+(j+1)=base+(off+1)+j by omega]
  ·rw [drop_eq_getElem_cons (by omega),take_succ_cons];exact .cons hr h3
theorem ua{r:Option Nat}(hr:AH P t=some r){base off:Nat}(hc:∀ (i:Nat) (x:AV),cs[i]?=some x->∃ v,w.cell? ⟨c,base+i,none⟩=some v/\VR w0 μ x v)
  (h:kQ r cs off=some v):∃ vc,(loadVar t ⟨c,base+off,none⟩).run P w = .ok vc w/\VR w0 μ v vc:=by
 rcases GS hr with ⟨n,rfl,h1,h2⟩|⟨rfl,h1⟩
 ·simp only [kQ] at h;split at h
  ·rename_i hle;cases h;obtain ⟨vs,e1,e2,e3⟩:=Be hc n off hle;refine ⟨.agg vs.toArray,?_,e3.agg⟩;have:=run_loadCells_list (P:=P) w ⟨c,base+off,none⟩ vs (fun j u hj=>by rw [og];exact e2 j u hj);rw [e1] at this;simp [loadVar,h1,h2,this]
  ·cases h
 ·simp only [kQ] at h;obtain ⟨u,hu,hr⟩:=hc off v h;exact ⟨u,by simp [loadVar,h1,hu],hr⟩
theorem Ud(hg:Good w0 μ h w){r:Option Nat}(hr:AH P t=some r)(hx:VR w0 μ x xv)(hl:au r x h=some v) :
  ∃ vc,(Instr.loadAt t xv).run P w = .ok vc w/\VR w0 μ v vc:=by
 unfold au at hl;split at hl
 ·rename_i b off;split at hl
  ·rename_i cs ho;cases hx;rename_i k hk;obtain ⟨vc,h1,h2⟩:=ua hr (hg.cells hk ho) hl;exact ⟨vc,by simp [Instr.loadAt,Instr.sureAddr,h1],h2⟩
  ·cases hl
 ·rename_i cs off;cases hx;rename_i g o vs hgl hv G0 xM;obtain ⟨vc,h1,h2⟩:=ua hr (hg.QY hgl G0 hv xM) hl;exact ⟨vc,by simp [Instr.loadAt,Instr.sureAddr,h1],h2⟩
 ·cases hl
structure rA (w0:World) (μ:Mu) (es:List Entry) (ju:List MapEntry):Prop where
 len:ju.length=es.length
 rel:∀ (i:Nat) (k v:AV) (n:Nat),es[i]?=some (k,v,n)->∃ e,ju[i]?=some e/\VR w0 μ k e.key/\VR w0 μ v e.val/\e.born=n
theorem rA.cons_inv{n:Nat}(h:rA w0 μ ((k,v,n) :: es) ju) :
  ∃ e Jt,ju=e :: Jt/\VR w0 μ k e.key/\VR w0 μ v e.val/\e.born=n/\rA w0 μ es Jt:=by
 cases ju with
 |nil=>exact absurd h.len (by simp)
 |cons e ju=>
  obtain ⟨e',h1,h2,h3,h4⟩:=h.rel 0 k v n rfl;simp at h1;subst h1
  exact ⟨e,ju,rfl,h2,h3,h4,by have:=h.len;simpa using this,fun i k v n hi=>by
   have:=h.rel (i+1) k v n (by simpa using hi)
   simpa using this⟩
theorem rA.jE(h:rA w0 μ [] ju):ju = []:=eq_nil_of_length_eq_zero (by simpa using h.len)
theorem Good.map(hg:Good w0 μ h w){b:Nat}{k:LY}(hk:μ b=some k){es:List Entry}{ck:Nat}(ho:h.get b=some (.map es ck)) :
  ∃ ju:Array MapEntry,w.heap[k.c]?=some (.map ju ck)/\rA w0 μ es ju.toList:=by
 obtain ⟨ju,h1,h2,h3⟩:=hg.obj b k _ hk ho;exact ⟨ju,h1,by simpa using h2,fun i k v n hi=>by simpa using h3 i k v n hi⟩
theorem Ue(hk:VR w0 μ k kv)(h:uT d k=true) :
  (∃ j i n,d = .int j/\k = .int i n/\kv = .int i n)\/(∃ s:ByteArray,d = .string/\k = .str s.data.toList/\kv = .string s)\/(∃ b,d = .bool/\k = .bool b/\kv = .bool b):=by
 unfold uT at h;split at h
 ·rw [hk.jj];exact .inl ⟨_,_,_,rfl,rfl,rfl⟩
 ·obtain ⟨s,rfl,rfl⟩:=hk.jF;exact .inr (.inl ⟨s,rfl,rfl,rfl⟩)
 ·rw [hk.ku];exact .inr (.inr ⟨_,rfl,rfl,rfl⟩)
 ·cases h
theorem run_checkKey(hd:P.underlying kt=some d)(hk:VR w0 μ k kv)(h:uT d k=true)(e:Bool)(n:Nat) :
  (Instr.checkKey e (n+1) kt kv).run P w = .ok () w:=by
 rcases Ue hk h with ⟨j,i,m,rfl,rfl,rfl⟩|⟨s,rfl,rfl,rfl⟩|⟨b,rfl,rfl,rfl⟩<;>simp [Instr.checkKey,run_underlying hd]
theorem Kv(hk:VR w0 μ k kv)(hx:VR w0 μ x xv){b:Bool}(h:AI d k x=some b):Instr.sameNow d kv xv=some b:=by
 unfold AI at h;split at h
 ·rename_i k1 a k2 b';rw [hk.jj,hx.jj];simpa [Instr.sameNow] using h
 ·obtain ⟨s,rfl,rfl⟩:=hk.jF;obtain ⟨u,rfl,rfl⟩:=hx.jF;cases h;simp only [Instr.sameNow,Option.some.injEq];rw [beq_toListBytes,ByteArray.toList_eq,ByteArray.toList_eq]
 ·rw [hk.ku,hx.ku];cases h;rfl
 ·cases h
theorem oU(hk:VR w0 μ k kv):∀ (es:List Entry) (ju:List MapEntry) (i:Nat) (r:Option (Nat×AV)),rA w0 μ es ju->mO d k es i=some r ->
  ∃ r',Instr.findNow d kv ju i=some r'/\((r=none/\r'=none)\/∃ j v vc,r=some (j,v)/\r'=some (j,vc)/\VR w0 μ v vc/\i<=j/\∃ e,es[j-i]?=some e/\e.2.1=v/\AI d k e.1=some true):=by
 intro es
 induction es with
 |nil=>intro ju i r he h;obtain rfl:=he.jE;cases h;exact ⟨none,rfl,.inl ⟨rfl,rfl⟩⟩
 |cons e es ih=>
  intro ju i r he h;obtain ⟨x,v,n⟩:=e;obtain ⟨c,Jt,rfl,h1,h2,h3,h4⟩:=he.cons_inv;simp only [mO] at h;split at h
  ·rename_i hb;cases h;refine ⟨some (i,c.val),?_,.inr ⟨i,v,c.val,rfl,rfl,h2,dK _,(x,v,n),by simp,rfl,hb⟩⟩;simp [Instr.findNow,Kv hk h1 hb]
  ·rename_i hb;obtain ⟨r',h5,h6⟩:=ih Jt (i+1) r h4 h;refine ⟨r',by simp [Instr.findNow,Kv hk h1 hb,h5],?_⟩;rcases h6 with h6|⟨j,v',vc,a,b,c',hij,e',he',Ku⟩
   ·exact .inl h6
   ·refine .inr ⟨j,v',vc,a,b,c',by omega,e',?_,Ku⟩;rw [show j-i=(j-(i+1))+1 by omega];simpa using he'
  ·cases h
theorem run_findKey(hd:P.underlying kt=some d){r:Option (Nat×Value)}(h:Instr.findNow d kv ju 0=some r):(Instr.findKey kt kv ju).run P w = .ok r w:=by
 simp [Instr.findKey,run_underlying hd,h]
theorem zy{o:TypeDesc×TypeId}(h:Nx P t=some o):∃ kt,P.underlying t=some (.map kt o.2)/\P.underlying kt=some o.1:=by
 unfold Nx at h;split at h
 ·rename_i k e hu;split at h
  ·rename_i d hd;cases h;exact ⟨k,hu,hd⟩
  ·cases h
 ·cases h
theorem mW{r:Option (Nat×AV)}(h:uU d k es=some r):uT d k=true/\mO d k es 0=some r:=by
 unfold uU at h;split at h
 ·exact ⟨‹_›,h⟩
 ·cases h
theorem om{inf:TypeInfo}{zv:Value}(hi:P.info? t=some inf)(hz:inf.zero=some zv)(w:World):(zeroValue t).run P w = .ok zv w:=by simp [zeroValue,typeInfo,hi,hz]
theorem EB{et:TypeId}(hu:P.underlying t=some (.map kt et))(hd:P.underlying kt=some d){z:AV}(hz:Ev P et=some z)(hk:VR w0 μ k kv)
  {ju:Array MapEntry} (he:rA w0 μ es ju.toList) (Y0:(xv = .map none/\ju = #[])\/∃ r ck,xv = .map (some r)/\w.heap[r]?=some (.map ju ck)) {ok:Bool}
  (h:(match uU d k es with
   |some (some (_,v))=>some (if ok then .tuple [v,.bool true] else v)
   |some none=>some (if ok then .tuple [z,.bool false] else z)
   |none=>none)=some v):∃ vc,(Instr.lookup t xv kv ok).run P w = .ok vc w/\VR w0 μ v vc:=by
 obtain ⟨inf,zv,kV,NH,rfl⟩:=qH hz;have hz0:=om (P:=P) kV NH w
 have step:∀ r',Instr.findNow d kv ju.toList 0=some r'->uT d k=true ->
   (Instr.lookup t xv kv ok).run P w=(match r' with
    |some (_,u)=>.ok (if ok then .tuple #[u,.bool true] else u) w
    |none=>.ok (if ok then .tuple #[zv,.bool false] else zv) w):=by
  intro r' xM L7;have hck:=fun b=>run_checkKey (w:=w) hd hk L7 b 9999;have S0:=run_findKey (w:=w) hd xM;have Ag:∀ b,(Instr.checkKey b 10000 kt kv).run P w = .ok () w:=hck;rcases Y0 with ⟨rfl,rfl⟩|⟨r,ck,rfl,ho⟩
  ·simp only [Instr.lookup,Sem.run_bind,run_underlying hu,Result.andThen_ok,Sem.run_pure,Ag,S0]
   cases r' with
   |none=>simp [hz0]
   |some p=>obtain ⟨j,u⟩:=p;simp
  ·have jb:(getObj r).run P w = .ok (.map ju ck) w:=by simp [getObj,Sem.run,ho]
   simp only [Instr.lookup,Sem.run_bind,run_underlying hu,Result.andThen_ok,Sem.run_pure,jb,Ag,S0]
   cases r' with
   |none=>simp [hz0]
   |some p=>obtain ⟨j,u⟩:=p;simp
 split at h
 ·rename_i p j v' hf;obtain ⟨L7,No⟩:=mW hf;obtain ⟨r',h1,h2⟩:=oU hk es ju.toList 0 _ he No;rcases h2 with ⟨a,_⟩|⟨j',v'',vc,a,rfl,h3,_⟩
  ·cases a
  ·cases a;refine ⟨_,step _ h1 L7,?_⟩;cases h;cases ok
   ·exact h3
   ·exact fA.tuple (.cons h3 (.cons (.bool true) .nil))
 ·rename_i hf;obtain ⟨L7,No⟩:=mW hf;obtain ⟨r',h1,h2⟩:=oU hk es ju.toList 0 _ he No;rcases h2 with ⟨_,rfl⟩|⟨j',v'',vc,a,_⟩
  ·refine ⟨_,step _ h1 L7,?_⟩;cases h;cases ok
   ·exact VR.ofConst zv
   ·exact fA.tuple (.cons (VR.ofConst zv) (.cons (.bool false) .nil))
  ·cases a
 ·cases h
theorem NK(hg:Good w0 μ h w){o:TypeDesc×AV}(hi:vH P t=some o){m:AV}{mv:Value}(hm:VR w0 μ m mv)(hk:VR w0 μ k kv){ok:Bool}
  (hl:eO o.1 o.2 ok m k h=some v):∃ vc,(Instr.lookup t mv kv ok).run P w = .ok vc w/\VR w0 μ v vc:=by
 unfold vH at hi;split at hi
 ·rename_i d e hmt;split at hi
  ·rename_i z hz;cases hi;obtain ⟨kt,hu,hd⟩:=zy hmt;unfold eO ry at hl;split at hl
   ·cases hl
   ·rename_i es hes;split at hes
    ·cases hes;cases hm;exact EB hu hd hz hk (es:=[]) (ju:=#[]) ⟨rfl,by simp⟩ (.inl ⟨rfl,rfl⟩) hl
    ·rename_i b;split at hes
     ·rename_i Cc ck ho;cases hes;cases hm;rename_i kk hkk;obtain ⟨ju,h1,h2⟩:=hg.map hkk ho;exact EB hu hd hz hk h2 (.inr ⟨_,ck,rfl,h1⟩) hl
     ·cases hes
    ·cases hes
  ·cases hi
 ·cases hi
theorem Wk(hg:Good w0 μ h w){ty:TypeId}{ts:List TypeId}{i:ac7}(hi:YV P t=some i)(hx:VR w0 μ x xv)(hl:bK i x h=some v) :
  ∃ vc,(Builtin.len_ (t :: ts).toArray ty #[xv]).run P w = .ok vc w/\VR w0 μ v vc:=by
 unfold YV at hi;split at hi
 ·rename_i hu;cases hi;cases x<;>simp only [bK,reduceCtorEq,Option.some.injEq] at hl;subst hl;obtain ⟨s,rfl,rfl⟩:=hx.jF;refine ⟨.int .i64 s.size,by simp [Builtin.len_,run_underlying hu,goInt],?_⟩;have:s.data.toList.length=s.size:=by rw [Array.length_toList];rfl
  rw [this];exact .int _ _
 ·rename_i e hu;cases hi;cases x<;>simp only [bK,reduceCtorEq,Option.some.injEq] at hl<;>subst hl<;>cases hx<;>exact ⟨.int .i64 _,by simp [Builtin.len_,run_underlying hu,goInt],.int _ _⟩
 ·rename_i k e hu;cases hi;cases x<;>simp only [bK,reduceCtorEq,Option.some.injEq] at hl
  ·subst hl;cases hx;exact ⟨.int .i64 0,by simp [Builtin.len_,run_underlying hu,goInt],.int _ _⟩
  ·split at hl
   ·rename_i es ck ho;cases hl;cases hx;rename_i kk hkk;obtain ⟨ju,h1,h2⟩:=hg.map hkk ho;refine ⟨.int .i64 es.length,?_,.int _ _⟩;have:=h2.len;simp at this;simp [Builtin.len_,run_underlying hu,goInt,getObj,Sem.run,h1,this]
   ·cases hl
 ·rename_i n e hu;cases hi;simp only [bK,Option.some.injEq] at hl;subst hl;exact ⟨.int .i64 n,by simp [Builtin.len_,run_underlying hu,goInt],.int _ _⟩
 ·cases hi
theorem NL(hg:Good w0 μ h w)(hρ:∀ x,VR w0 μ (ρ x) (ρc x)){o:Oper}(hk:gZ o.op = .read)(hv:pJ P ρ h o.op=some v) :
  ∃ vc,(execOp ρc o).run P w = .ok (.value vc) w/\VR w0 μ v vc:=by
 obtain ⟨dst,op,type,pos,after,guard⟩:=o;cases op<;>simp only [gZ,reduceCtorEq] at hk<;>simp only [pJ] at hv
 case load t a=>
  obtain ⟨i,hi,he⟩:=bind_eq_some_iff.1 hv;obtain ⟨vc,h1,h2⟩:=Ud hg hi (hρ a) he;exact ⟨vc,by simp [execOp,h1],h2⟩
 case lookup t x i ok=>
  obtain ⟨d,hi,he⟩:=bind_eq_some_iff.1 hv;obtain ⟨vc,h1,h2⟩:=NK hg hi (hρ x) (hρ i) he;exact ⟨vc,by simp [execOp,h1],h2⟩
 case call c=>
  obtain ⟨Dh,args,ts⟩:=c
  cases Dh with
  |value f=>simp [gY] at hk
  |invoke r m=>simp [gY] at hk
  |builtin b=>
   cases b<;>simp only [gY,reduceCtorEq] at hk;simp only at hv;split at hv
   ·rename_i t l x e1 e2;obtain ⟨i,hi,he⟩:=bind_eq_some_iff.1 hv;have hx:fA w0 μ (args.toList.map ρ) (args.toList.map ρc):=fA.map _ fun a _=>hρ a;rw [e2] at hx;obtain ⟨u,us,Qk,h1,h2⟩:=hx.cons_inv;obtain rfl:=h2.jE;obtain ⟨vc,h3,h4⟩:=Wk (ty:=type) (ts:=l) hg hi h1 he;refine ⟨vc,?_,h4⟩;have ea:args.map ρc = #[u]:=by apply Array.ext';simpa using Qk
    have et:ts=(t :: l).toArray:=(by apply Array.ext';simpa using e1);simp only [execOp,resolve,invoke,builtin,Sem.run_bind,Sem.run_pure,Result.andThen_ok,ea,et,h3]
   ·cases hv
end
end Go.AM
namespace Go.AM
open List Nat Bool Option
open Go Go.RowKit
inductive AK where
 |ptr
 |slice (n sz:Nat)
 |map
def AK.val:AK->Nat->AV
 |.ptr,b=>.ptr b 0
 |.slice n sz,b=>.slice b 0 n sz
 |.map,b=>.map b
def ta(P:Program)(ρ:Operand->AV):Op->Option (AK×mI)
 |.alloc t=>(qD P t).bind fun z=>some (.ptr,.cells z)
 |.box _ x=>(eG (ρ x)).bind fun cs=>some (.ptr,.cells cs)
 |.buildSlice t n ps=>(YT P t n (ps.toList.map (·.1))).bind fun i=>(eN i.2.1 i.2.2 (ps.toList.map fun p=>ρ p.2)).bind fun cs=>some (.slice n i.1,.cells cs)
 |.makeMap _ r=>(match r with|none=>some (.map,.map [] 0)|some _=>none)
 |.makeSlice t l c=>(GH P t).bind fun i=>(Dd i.2.1 (ρ l) (ρ c)).bind fun n=>some (.slice n i.1,.cells (lU i.2.2 n))
 |_=>none
theorem vK{P:Program}{ρ:Operand->AV}{op:Op}(hk:gZ op = .alloc)(h:Heap)(K:AV->Heap->Bool) :
  jz op P ρ h K=aa (ta P ρ op) fun p=>K (p.1.val h.next) (h.alloc p.2):=by
 cases op<;>simp only [gZ,reduceCtorEq] at hk
 case alloc t=>simp only [jz,SS,ta];cases qD P t<;>rfl
 case box t x=>simp only [jz,ab2,ta];cases eG (ρ x)<;>rfl
 case buildSlice t n ps=>
  simp only [jz,vI,ta]
  cases YT P t n (ps.toList.map (·.1)) with
  |none=>rfl
  |some i=>simp only [aa,bind_some];cases eN i.2.1 i.2.2 (ps.toList.map fun p=>ρ p.2)<;>rfl
 case makeMap t r=>cases r<;>rfl
 case makeSlice t l c=>
  simp only [jz,Ez,ta]
  cases GH P t with
  |none=>rfl
  |some i=>
   simp only [aa,bind_some,AL,gE];cases Dd i.2.1 (ρ l) (ρ c)<;>rfl
 case call c=>
  obtain ⟨Dh,args,ts⟩:=c
  cases Dh with
  |value f=>simp [gY] at hk
  |invoke r m=>simp [gY] at hk
  |builtin b=>cases b<;>simp [gY] at hk
section
variable {P:Program} {w0:World} {μ:Mu} {ρ:Operand->AV} {ρc:Operand->Value}
structure afJ (P:Program) (w0:World) (μ:Mu) (ρc:Operand->Value) (o:Oper) (k:AK) (ob:mI) (O:Obj) (n:Nat) (f:Nat->Value):Prop where
 run:∀ w,(execOp ρc o).run P w = .ok (.value (f w.heap.size)) (w.alloc O)
 obj:∀ c,rZ w0 μ ob ⟨c,0,n⟩ (some O)
 val:∀ (μ':Mu) b c,μ' b=some ⟨c,0,n⟩->VR w0 μ' (k.val b) (f c)
theorem Dj{cs:List AV}{vs:Array Value}(h:fA w0 μ cs vs.toList)(e:TypeId)(c:Nat):rZ w0 μ (.cells cs) ⟨c,0,vs.size⟩ (some (.cells vs e (0,0))):=by
 refine ⟨vs,e,(0,0),rfl,rfl,?_,.inl (dK _),fun i x hx=>?_⟩
 ·have:=h.len;simp at this;simp [this]
 ·obtain ⟨v,a,b⟩:=h.get hx;exact ⟨v,by simpa using a,b⟩
theorem S1(n:Nat):∀ (μ':Mu) b c,μ' b=some ⟨c,0,n⟩->VR w0 μ' (AK.ptr.val b) (.pointer (some ⟨c,0,none⟩)):=fun μ' b c h=>.ptr b 0 ⟨c,0,n⟩ h
theorem wK{t:TypeId}{z:List AV}(h:qD P t=some z):∃ inf zv,P.info? t=some inf/\inf.zero=some zv/\fA w0 μ z zv.cells.toList/\aW z=true:=by
 unfold qD at h;split at h
 ·rename_i zz hz;split at h
  ·rename_i Af;cases h;obtain ⟨inf,zv,h1,h2,rfl⟩:=qH hz;exact ⟨inf,zv,h1,h2,(VR.ofConst zv).cells Af,Af⟩
  ·cases h
 ·cases h
theorem vL{t:TypeId}{i:Nat×Nat×List AV}(h:GH P t=some i) :
  ∃ e inf zv,P.underlying t=some (.slice e)/\P.info? e=some inf/\inf.size=i.1/\inf.bytes=i.2.1/\0<i.1/\0<i.2.1/\inf.zero=some zv/\fA w0 μ i.2.2 zv.cells.toList/\i.2.2.length=i.1:=by
 unfold GH at h;split at h
 ·rename_i s b e h1 h2;split at h
  ·rename_i z hz;split at h
   ·rename_i hl;cases h;obtain ⟨e',inf,hu,kV,hs,hb,hp,xb⟩:=Bd h1;have:=GV h2;rw [hu] at this;cases this;obtain ⟨aqB,zv,h3,h4,h5,_⟩:=wK (w0:=w0) (μ:=μ) hz;rw [kV] at h3;cases h3;exact ⟨e,inf,zv,hu,kV,hs,hb,hp,xb,h4,h5,hl⟩
   ·cases h
  ·cases h
 ·cases h
theorem mX(z:List AV):∀ n,(lU z n).length=n*z.length
 |0=>by simp [lU]
 |n+1=>by simp [lU,mX z n,Nat.add_mul,Nat.add_comm]
theorem EC{z:List AV}(hz:0<z.length):∀ (n i:Nat),i<n*z.length->(lU z n)[i]?=z[i%z.length]?
 |0,i,h=>by omega
 |n+1,i,h=>by
  simp only [lU];by_cases hi:i<z.length
  ·rw [getElem?_append_left hi,mod_eq_of_lt hi]
  ·have h':(n+1)*z.length=n*z.length+z.length:=by rw [Nat.add_mul,Nat.one_mul]
   rw [getElem?_append_right (by omega),EC hz n _ (by omega)];rw [<- mod_eq_sub_mod (by omega)]
theorem NM{z:List AV}{zs:Array Value}(h:fA w0 μ z zs.toList)(hz:0<z.length)(n N:Nat)(hN:n*z.length<=N) :
  ∀ (i:Nat) (x:AV),(lU z n)[i]?=some x->∃ v,(madeCells zs N)[i]?=some v/\VR w0 μ x v:=by
 intro i x hx;have hi:i<n*z.length:=by have:=(lR.1 hx).1;rwa [mX] at this
 rw [EC hz n i hi] at hx;obtain ⟨v,hv,hr⟩:=h.get hx;have hs:zs.size=z.length:=by have:=h.len;simp at this;exact this.symm
 refine ⟨v,?_,hr⟩;have hlt:i%zs.size<zs.size:=mod_lt _ (by omega);simp only [madeCells];rw [Array.getElem?_map,Array.getElem?_range];rw [if_pos (by omega)];simp only [map_some,Option.some.injEq];rw [<- hs] at hv;have:zs[i%zs.size]?=some v:=by simpa using hv
 rw [getElem!_def,this]
theorem Uf{z:List AV}{zs:Array Value}(h:fA w0 μ z zs.toList)(hz:0<z.length)(n:Nat):fA w0 μ (lU z n) (madeCells zs (n*z.length)).toList:=by
 refine ⟨by simp [mX,size_madeCells],fun i x v a b=>?_⟩;obtain ⟨u,hu,hr⟩:=NM h hz n (n*z.length) (dK _) i x a;have:(madeCells zs (n*z.length))[i]?=some v:=by simpa using b
 rw [this] at hu;cases hu;exact hr
theorem Kw(hρ:∀ x,VR w0 μ (ρ x) (ρc x)){o:Oper}(hk:gZ o.op = .alloc){k:AK}{ob:mI}(hv:ta P ρ o.op=some (k,ob)) :
  ∃ O n f,afJ P w0 μ ρc o k ob O n f:=by
 obtain ⟨dst,op,type,pos,after,guard⟩:=o;cases op<;>simp only [gZ,reduceCtorEq] at hk<;>simp only [ta] at hv
 case alloc t=>
  obtain ⟨z,hz,he⟩:=bind_eq_some_iff.1 hv;cases he;obtain ⟨inf,zv,h1,h2,h3,_⟩:=wK (w0:=w0) (μ:=μ) hz;refine ⟨.cells zv.cells t,zv.cells.size,fun c=>.pointer (some ⟨c,0,none⟩),fun w=>?_,Dj h3 t,S1 _⟩;simp [execOp,Instr.alloc,om (P:=P) h1 h2,newVar,newRow]
 case box t x=>
  obtain ⟨cs,hb,he⟩:=bind_eq_some_iff.1 hv;cases he;unfold eG at hb;split at hb
  ·rename_i Af;cases hb;refine ⟨.cells (ρc x).cells t,(ρc x).cells.size,fun c=>.pointer (some ⟨c,0,none⟩),fun w=>?_,Dj ((hρ x).cells Af) t,S1 _⟩;simp [execOp,Instr.box,newVar,newRow]
  ·cases hb
 case buildSlice t n ps=>
  obtain ⟨i,hi,he⟩:=bind_eq_some_iff.1 hv;obtain ⟨cs,hcs,he⟩:=bind_eq_some_iff.1 he;cases he;unfold YT at hi;split at hi
  ·rename_i s b z hm;split at hi
   ·rename_i hle;cases hi;obtain ⟨e,inf,zv,hu,kV,hs,hb,hp,xb,NH,hz,Y1⟩:=vL (w0:=w0) (μ:=μ) hm;simp only at hs hb hp xb hz Y1;unfold eN at hcs;split at hcs
    ·rename_i tc hf;split at hcs
     ·rename_i Af;cases hcs;have hx:fA w0 μ (ps.toList.map fun p=>ρ p.2) (ps.toList.map fun p=>ρc p.2):=fA.map _ fun a _=>hρ a.2;have hzz:=Uf hz (by omega) n
      obtain ⟨nU,h1,h2⟩:=GZ (w0:=w0) (μ:=μ) (fun i=>some (i*s,s)) (ps.toList.map (·.1)) ((ps.toList.map (·.1)).map fun i=>(i*s,s)) _ _ _ cs (madeCells zv.cells (n*z.length))
       (by simp) (fun k i p a b=>by rw [getElem?_map,a] at b;simpa using b) hx hzz (by simpa using hf)
      rw [xY] at h1;have hsz:zv.cells.size=s:=by have:=hz.len;simp at this;omega
      refine ⟨.cells nU e,nU.size,fun c=>.slice (some ⟨c,0,none⟩) n n,fun w=>?_,Dj h2 e,fun μ' b c hb=>?_⟩
      ·have jL:∀ w,(sizeOf e).run P w = .ok s w:=fun w=>by simp [sizeOf,typeInfo,kV,hs]
       have hz0:∀ w,(zeroValue e).run P w = .ok zv w:=om (P:=P) kV NH;have Wl:¬ (16777216<n*s):=by omega
       have h1':Instr.fill (fun i=>some (i*s,s)) ((Array.range (n*s)).map (fun x=>zv.cells[x%zv.cells.size]!)) (ps.toList.map fun p=>(p.1,ρc p.2))=some nU:=by
        rw [Y1] at h1;exact h1
       by_cases hn:n*s=0
       ·have vE:n=0:=(by rcases mul_eq_zero.1 hn with h|h<;>omega);subst vE;have alz:Instr.fill (fun i=>some (i*s,s)) #[] (ps.toList.map fun p=>(p.1,ρc p.2))=some nU:=by simpa [Array.range_zero'] using h1'
        simp [execOp,Instr.buildSlice,run_underlying hu,jL,alz,newRow,Array.range_zero']
       ·simp [execOp,Instr.buildSlice,run_underlying hu,jL,hz0,Wl,hn,h1',newRow]
      ·have hlen:cs.length=n*s:=by
        have:=h2.len
        have hfl:∀ (ps:List (Nat×Nat)) (vs:List AV) (zs cs:List AV),sY zs ps vs=some cs->cs.length=zs.length:=by
         intro ps
         induction ps with
         |nil=>intro vs zs cs h;cases vs<;>simp [sY] at h;rw [h]
         |cons p ps ih=>
          intro vs zs cs h;obtain ⟨off,m⟩:=p
          cases vs with
          |nil=>simp [sY] at h
          |cons v vs=>
           simp only [sY] at h;split at h
           ·rw [ih _ _ _ h,iC]
           ·cases h
        rw [hfl _ _ _ _ hf,mX,Y1]
       have alA:nU.size=n*s:=(by have:=h2.len;simp at this;omega);exact .slice b 0 n s n _ _ hb (dK _) (fun _=>⟨rfl,by simp [alA]⟩)
     ·cases hcs
    ·cases hcs
   ·cases hi
  ·cases hi
 case makeMap t r=>
  cases r with
  |some x=>cases hv
  |none=>
   cases hv;refine ⟨.map #[] 0,0,fun c=>.map (some c),fun w=>?_,fun c=>⟨#[],rfl,rfl,by simp⟩,fun μ' b c h=>.map b ⟨c,0,0⟩ h⟩;simp [execOp,Instr.makeMap]
 case makeSlice t l c=>
  obtain ⟨i,hi,he⟩:=bind_eq_some_iff.1 hv;obtain ⟨n,hn,he⟩:=bind_eq_some_iff.1 he;cases he;obtain ⟨e,inf,zv,hu,kV,hs,hb,hp,xb,NH,hz,Y1⟩:=vL (w0:=w0) (μ:=μ) hi;have hl:=hρ l;have hc:=hρ c;unfold Dd at hn;split at hn
  ·rename_i lv cv e1 e2;rw [e1] at hl;rw [e2] at hc;split at hn
   ·rename_i G1;simp only [and_eq_true,decide_eq_true_eq] at G1;cases hn;have hby:(inf.bytes:Int)*cv<=281474976710656:=by rw [hb];omega
    have alB:cv<=9223372036854775807:=by
     have h1:(1:Int)<=(i.2.1:Int):=by omega
     have h2:cv<=(i.2.1:Int)*cv:=by
      have:=Int.mul_le_mul_of_nonneg_right h1 (show 0<=cv by omega);simpa using this
     omega
    have hrun:=fun w=>run_make (P:=P) w t e inf zv hu kV NH .i64 .i64 lv cv G1.1.1 G1.1.2 hby alB;refine ⟨.cells (madeCells zv.cells (cv.toNat*inf.size)) e,cv.toNat*inf.size,fun c=>.slice (some ⟨c,0,none⟩) lv.toNat cv.toNat,fun w=>?_,fun c=>?_,fun μ' b c h=>?_⟩
    ·simp [execOp,hl.jj,hc.jj,hrun]
    ·refine ⟨_,e,(0,0),rfl,by simp [size_madeCells],?_,.inl (dK _),?_⟩
     ·simp only [mX,Y1,hs,Nat.zero_add];exact mul_le_mul_right _ (by omega)
     ·intro i' x hx;rw [Nat.zero_add];exact NM hz (by omega) lv.toNat _ (by rw [Y1,hs];exact mul_le_mul_right _ (by omega)) i' x hx
    ·refine .slice b 0 _ _ _ _ _ h (by omega) (fun _=>⟨rfl,?_⟩);simp [hs]
   ·cases hn
  ·cases hn
 case call c=>
  obtain ⟨Dh,args,ts⟩:=c
  cases Dh with
  |value f=>simp [gY] at hk
  |invoke r m=>simp [gY] at hk
  |builtin b=>cases b<;>simp [gY] at hk
end
end Go.AM
namespace Go.AM
open List Nat Bool Option
open Go Go.RowKit
variable {xv:Value} {t:TypeId} {c n:Nat} {x:AV}
section
variable {P:Program} {w0 w:World} {μ:Mu} {h:Heap} {ρ:Operand->AV} {ρc:Operand->Value}
theorem uY(w:World)(c:Nat)(O O':Obj):kH (kH w c O) c O'=kH w c O':=by simp [kH]
theorem Cd{O:Obj}(hO:w.heap[c]?=some O):kH w c O=w:=by
 have:w.heap.setIfInBounds c O=w.heap:=by
  apply Array.ext_getElem?;intro i;rw [Array.getElem?_setIfInBounds];split
  ·rename_i e;subst e;rw [hO];split
   ·rfl
   ·rename_i hn;have:=(Array.getElem?_eq_some_iff.1 hO).1;omega
  ·rfl
 simp [kH,this]
theorem setCell_eq{o:Nat}{vs:Array Value}{e:TypeId}{fr:Nat×Nat}(hO:w.heap[c]?=some (.cells vs e fr))(v:Value) :
  w.setCell ⟨c,o,none⟩ v=kH w c (.cells (vs.setIfInBounds o v) e fr):=by
 have:w.heap.modify c (fun|.cells c elem frozen=>.cells (if (none:Option Nat).isSome then c else c.setIfInBounds o v) elem frozen|o=>o)=w.heap.setIfInBounds c (.cells (vs.setIfInBounds o v) e fr):=by
  apply Array.ext_getElem?;intro i;rw [Array.getElem?_setIfInBounds,Array.getElem?_modify];split
  ·rename_i e';subst e';have:=(Array.getElem?_eq_some_iff.1 hO).1;rw [if_pos this,hO];simp
  ·rfl
 simp only [World.setCell,kH];exact congrArg (fun x=>({ w with heap:=x }:World)) this
theorem r6(c o:Nat)(e:TypeId)(fr:Nat×Nat):∀ (us:List Value) (i:Nat) (vs:Array Value) (w:World),w.heap[c]?=some (.cells vs e fr)->(fr.2<=fr.1\/(zm=true/\vs.size<=fr.1))->o+i+us.length<=vs.size->(∀ v ∈ us,v.oneCell'=true) ->
  (storeCells ⟨c,o,none⟩ us i).run P w = .ok () (kH w c (.cells (eW vs.toList (o+i) us).toArray e fr))
 |[],i,vs,w,hO,hf,hl,h1=>by simp [storeCells,eW,Cd hO]
 |u :: us,i,vs,w,hO,hf,hl,h1=>by
  simp only [length_cons] at hl
  have jL:(store ((⟨c,o,none⟩:Addr).add i) u).run P w = .ok () (kH w c (.cells (vs.setIfInBounds (o+i) u) e fr)):=by
   rw [og,run_store P w _ u _ (h1 u (by simp))];have hc:w.cell? ⟨c,o+i,none⟩=some (vs[o+i]'(by omega)):=by rw [cell_of hO];simp [show o+i<vs.size by omega]
   have hz:w.frozen? ⟨c,o+i,none⟩=false:=by
    simp only [World.frozen?,hO];rcases hf with h|h<;>simp<;>omega
   rw [hc];simp only [hz,setCell_eq hO,false_eq_true,if_false]
  have hO':(kH w c (.cells (vs.setIfInBounds (o+i) u) e fr)).heap[c]?=some (.cells (vs.setIfInBounds (o+i) u) e fr):=oT (Array.getElem?_eq_some_iff.1 hO).1 _;have ih:=r6 c o e fr us (i+1) _ _ hO' (by simpa using hf) (by simp;omega) (fun v hv=>h1 v (by simp [hv]));simp only [storeCells,Sem.run_bind,jL,Result.andThen_ok,ih,uY,eW];simp [Nat.add_assoc]
theorem jI{α:Type}:∀ (us cs:List α) (off j:Nat),j<us.length->off+us.length<=cs.length->(eW cs off us)[off+j]?=us[j]?
 |[],cs,off,j,h,hl=>by simp at h
 |u :: us,cs,off,j,h,hl=>by
  simp only [length_cons] at h hl;simp only [eW]
  cases j with
  |zero=>
   have:∀ (us cs:List α) (o i:Nat),i<o->(eW cs o us)[i]?=cs[i]?:=by
    intro us
    induction us with
    |nil=>intros;rfl
    |cons u us ih=>intro cs o i hi;simp only [eW];rw [ih _ _ _ (by omega),getElem?_set_ne (by omega)]
   rw [this _ _ _ _ (by omega)];simp [show off<cs.length by omega]
  |succ j=>
   have:=jI us (cs.set off u) (off+1) j (by omega) (by simp;omega);rw [show off+(j+1)=off+1+j by omega,this];simp
theorem gu{α:Type}:∀ (us cs:List α) (off i:Nat),i<off\/off+us.length<=i->(eW cs off us)[i]?=cs[i]?
 |[],cs,off,i,h=>rfl
 |u :: us,cs,off,i,h=>by
  simp only [length_cons] at h;simp only [eW];rw [gu us _ _ _ (by omega),getElem?_set_ne (by omega)]
theorem S2{cs:List AV}{k:LY}{ob:Option Obj}(ho:rZ w0 μ (.cells cs) k ob){xs:List AV}{us:List Value}(hx:fA w0 μ xs us)(off:Nat)(hl:off+xs.length<=cs.length) :
  ∃ vs e fr,ob=some (.cells vs e fr)/\vs.size=k.size/\(fr.2<=fr.1\/(zm=true/\vs.size<=fr.1))/\k.base+cs.length<=k.size /\
   rZ w0 μ (.cells (eW cs off xs)) k (some (.cells (eW vs.toList (k.base+off) us).toArray e fr)):=by
 obtain ⟨vs,e,fr,h1,h2,h3,h4,h5⟩:=ho;refine ⟨vs,e,fr,h1,h2,by rw [h2];exact h4,h3,(eW vs.toList (k.base+off) us).toArray,e,fr,rfl,by simp [iC,h2],by rw [iC];exact h3,h4,fun i x hi=>?_⟩;have hul:us.length=xs.length:=hx.len.symm;by_cases hin:off<=i/\i<off+xs.length
 ·obtain ⟨j,rfl⟩:∃ j,i=off+j:=⟨i-off,by omega⟩
  rw [jI _ _ _ _ (by omega) hl] at hi;obtain ⟨v,hv,hr⟩:=hx.get hi;refine ⟨v,?_,hr⟩;have:=jI us vs.toList (k.base+off) j (by omega) (by simp [h2];omega);rw [<- Nat.add_assoc];simp [this,hv]
 ·rw [gu _ _ _ _ (by omega)] at hi;obtain ⟨v,hv,hr⟩:=h5 i x hi;refine ⟨v,?_,hr⟩;have:=gu us vs.toList (k.base+off) (k.base+i) (by omega);simp [this,hv]
def Left(P:Program)(w0:World)(μ:Mu)(h:Heap)(w:World)(K:AV->Heap->Bool)(r:Result Next):Prop:=
 ∃ v h' vc w' μ',K v h'=true/\(r = .ok (.value vc) w'\/(vc=undef/\r = .ok .skip w'))/\VR w0 μ' v vc/\Good w0 μ' h' w'/\Ext μ h w μ' h' w'
theorem Ug(hg:Good w0 μ h w)(hn:sW P t=some n){v:AV}{vv:Value}(hx:VR w0 μ x xv)(hv:VR w0 μ v vv){h':Heap}(hs:aS n x v h=some h') :
  ∃ w',(Instr.storeAt t xv vv).run P w = .ok () w'/\Good w0 μ h' w'/\Ext μ h w μ h' w':=by
 unfold aS at hs;split at hs
 ·rename_i b off;split at hs
  ·rename_i cs ho;split at hs
   ·rename_i hc;cases hs;simp only [and_eq_true,decide_eq_true_eq] at hc;cases hx;rename_i k hk;have xX:=hv.cells hc.1.2;obtain ⟨vs,e,fr,h1,h2,h3,h4,h5⟩:=S2 (hg.obj b k _ hk ho) xX off (by rw [hc.1.1];exact hc.2);have hl:vv.cells.toList.length=n:=by rw [<- xX.len];exact hc.1.1
    have hrun:=r6 (P:=P) k.c (k.base+off) e fr vv.cells.toList 0 vs w h1 h3 (by rw [hl,h2];omega) (fun u hu=>xX.xU hc.1.2 u hu);rw [Nat.add_zero] at hrun;obtain ⟨g1,g2⟩:=hg.set hk ho (by simp) (.cells (eW cs off v.dX)) _ h5;refine ⟨_,?_,g1,g2⟩;have hsz:vv.cells.size=n:=by simpa using hl
    simp [Instr.storeAt,Instr.sureAddr,storeVar,qG hn,hsz,hrun]
   ·cases hs
  ·cases hs
 ·cases hs
theorem zA(hg:Good w0 μ h w){sz:Nat}(hx:VR w0 μ x xv){m:Nat}(hm:lJ x=some m)(hn:n<=m){new:List AV}(hf:gW sz n x h=some new) :
  ∃ us:Array Value,(∀ w':World,w'.heap=w.heap->(Builtin.firstCells sz n xv).run P w' = .ok us w')/\fA w0 μ new us.toList/\(∀ w':World,(Builtin.lenOf xv).run P w' = .ok m w')/\new.length=n*sz:=by
 have zero:∀ (a:Addr) (w:World),(loadCells a 0).run P w = .ok #[] w:=fun a w=>by simp [loadCells,loadCellsFrom]
 have hcw:∀ {w':World},w'.heap=w.heap->∀ a:Addr,w'.cell? a=w.cell? a:=fun e a=>by simp [World.cell?,e]
 unfold gW at hf;split at hf
 ·split at hf
  ·cases hf;cases hx;simp only [lJ,Option.some.injEq] at hm;subst hm;obtain rfl:n=0:=by omega
   exact ⟨#[],fun w' _=>by simp [Builtin.firstCells],.nil,fun w'=>by simp [Builtin.lenOf],by simp⟩
  ·cases hf
 ·rename_i b off n' s;simp only [lJ,Option.some.injEq] at hm;subst hm;split at hf
  ·rename_i hs;subst hs;split at hf
   ·rename_i cs ho;split at hf
    ·rename_i hle;cases hf;cases hx;rename_i cap a k hk afE ha;by_cases h0:n=0
     ·subst h0;exact ⟨#[],fun w' _=>by simp [Builtin.firstCells,zero],by simpa using fA.nil,fun w'=>by simp [Builtin.lenOf],by simp⟩
     ·obtain ⟨rfl,hb⟩:=ha (by omega);obtain ⟨us,e1,e2,e3⟩:=Be (hg.cells hk ho) (n*s) off hle;refine ⟨us.toArray,fun w' hw'=>?_,by simpa using e3,fun w'=>by simp [Builtin.lenOf],by simp;omega⟩;have:=run_loadCells_list (P:=P) w' ⟨k.c,k.base+off,none⟩ us (fun j u hj=>by rw [og,hcw hw'];exact e2 j u hj);rw [e1] at this;simp [Builtin.firstCells,this]
    ·cases hf
   ·cases hf
  ·cases hf
 ·rename_i cs off n' s;simp only [lJ,Option.some.injEq] at hm;subst hm;split at hf
  ·rename_i hc;simp only [and_eq_true,decide_eq_true_eq] at hc;obtain ⟨rfl,hle⟩:=hc;cases hf;cases hx;rename_i cap a g o vs hgl hv hl hr ha afE;by_cases h0:n=0
   ·subst h0;exact ⟨#[],fun w' _=>by simp [Builtin.firstCells,zero],by simpa using fA.nil,fun w'=>by simp [Builtin.lenOf],by simp⟩
   ·obtain rfl:=ha (by omega);obtain ⟨us,e1,e2,e3⟩:=Be (hg.QY hgl hl hv hr) (n*s) off hle;refine ⟨us.toArray,fun w' hw'=>?_,by simpa using e3,fun w'=>by simp [Builtin.lenOf],by simp;omega⟩;have:=run_loadCells_list (P:=P) w' ⟨g,o+off,none⟩ us (fun j u hj=>by rw [og,hcw hw'];exact e2 j u hj);rw [e1] at this;simp [Builtin.firstCells,this]
  ·cases hf
 ·rename_i s;split at hf
  ·rename_i hs;subst hs;cases hf;obtain ⟨s,rfl,rfl⟩:=hx.jF;simp only [lJ,Option.some.injEq] at hm;have hsl:s.data.toList.length=s.size:=by rw [Array.length_toList];rfl
   refine ⟨(s.extract 0 n).data.map fun b=>.int .u8 b.toNat,fun w' _=>by simp [Builtin.firstCells],?_,fun w'=>by simp [Builtin.lenOf];omega,by simp;omega⟩
   have e:((s.extract 0 n).data.map fun b=>Value.int .u8 (b.toNat:Int)).toList=(s.data.toList.take n).map fun b=>Value.int .u8 (b.toNat:Int):=by
    rw [Array.toList_map,extract_toList s 0 n (zero_le _) (by omega)];simp
   rw [e]
   exact fA.map _ fun b _=>.int .u8 b.toNat
  ·cases hf
 ·cases hf
theorem Kx(n:Nat):∀ (r c:Nat),256<=c->c<=2*n->Builtin.growBy n r c<=2*n
 |0,c,h,hc=>by simpa [Builtin.growBy] using hc
 |r+1,c,h,hc=>by
  simp only [Builtin.growBy];split
  ·exact hc
  ·exact Kx n r _ (by omega) (by omega)
theorem QZ(h:c<n):Builtin.nextslicecap n c<=2*n:=by
 unfold Builtin.nextslicecap;split
 ·omega
 ·split
  ·omega
  ·exact Kx n 4 c (by omega) (by omega)
theorem L8{u:TypeId}{i:Nat×Nat}(hi:Gl P t u=some i) :
  ∃ e inf zv d,P.underlying t=some (.slice e)/\P.info? e=some inf/\inf.size=i.1/\inf.bytes=i.2/\0<i.1/\0<i.2/\inf.zero=some zv/\zv.cells.size=i.1/\P.underlying u=some d/\∀ k,d≠.int k:=by
 unfold Gl at hi;split at hi
 ·rename_i e s b z hu hm;cases hi;obtain ⟨e',inf,zv,h1,h2,h3,h4,h5,h6,h7,h8⟩:=vL (w0:=default) (μ:=Mu.zero) hm;exact ⟨e',inf,zv,_,h1,h2,h3,h4,h5,h6,h7,by have h9:=h8.1.len;have h10:=h8.2;simp at h9 h10;show zv.cells.size=s;omega,hu,by simp⟩
 ·rename_i s b z hu hm;cases hi;obtain ⟨e',inf,zv,h1,h2,h3,h4,h5,h6,h7,h8⟩:=vL (w0:=default) (μ:=Mu.zero) hm;exact ⟨e',inf,zv,_,h1,h2,h3,h4,h5,h6,h7,by have h9:=h8.1.len;have h10:=h8.2;simp at h9 h10;show zv.cells.size=s;omega,hu,by simp⟩
 ·cases hi
section
variable {t u ty:TypeId} {i:Nat×Nat} {e:TypeId} {inf:TypeInfo} {zv:Value} {d:TypeDesc} (hu:P.underlying t=some (.slice e)) (kV:P.info? e=some inf) (hs:inf.size=i.1) (hby:inf.bytes=i.2)
 (hp:0<i.2) (NH:inf.zero=some zv) (VP:P.underlying u=some d) (hd:∀ k,d≠.int k) {base:Option Addr} {sLen sCap n:Nat} {xv:Value} {new jm:Array Value} include hu kV hs VP hd
theorem uC(hlen:(Builtin.lenOf xv).run P w = .ok n w)(rY:(Builtin.firstCells i.1 n xv).run P w = .ok new w)(hle:sLen+n<=sCap){w':World}
  (jL:match base with|some a=>(storeCells (a.add (sLen*i.1)) new.toList).run P w = .ok () w'|none=>w=w') :
  (Builtin.append_ #[t,u] ty #[.slice base sLen sCap,xv]).run P w = .ok (.slice base (sLen+n) sCap) w':=by
 have hsz:∀ w,(sizeOf e).run P w = .ok i.1 w:=fun w=>by simp [sizeOf,typeInfo,kV,hs]
 have hz':(match d with|.int _=>true|_=>false)=false:=by cases d<;>first|rfl|exact absurd rfl (hd _)
 cases base with
 |none=>
  simp only at jL;subst jL;simp [Builtin.append_,run_underlying hu,run_underlying VP,hsz,hz',hlen,hle,rY]
 |some a=>
  simp only at jL;simp [Builtin.append_,run_underlying hu,run_underlying VP,hsz,hz',hlen,hle,rY,jL] include hby hp NH
theorem run_append_grow(hlen:(Builtin.lenOf xv).run P w = .ok n w)(rY:∀ w':World,w'.heap=w.heap->(Builtin.firstCells i.1 n xv).run P w' = .ok new w')
  (hold:∀ w':World,w'.heap=w.heap->(Builtin.firstCells i.1 sLen (.slice base sLen sCap)).run P w' = .ok jm w') (hb:(sLen+n)*i.2<=cz) (Wl:¬ sLen+n<=sCap) :
  ∃ cap,sLen+n<=cap/\(Builtin.append_ #[t,u] ty #[.slice base sLen sCap,xv]).run P w =
   .ok (.slice (some ⟨w.heap.size,0,none⟩) (sLen+n) cap) ((w.drew).alloc (.cells (jm++new++Builtin.zeroCells zv.cells (cap-(sLen+n))) e)):=by
 have hsz:∀ w,(sizeOf e).run P w = .ok i.1 w:=fun w=>by simp [sizeOf,typeInfo,kV,hs]
 have hz':(match d with|.int _=>true|_=>false)=false:=by cases d<;>first|rfl|exact absurd rfl (hd _)
 have Ra:=QZ (n:=sLen+n) (c:=sCap) (by omega)
 have alC:¬ (281474976710656<Builtin.nextslicecap (sLen+n) sCap*inf.bytes):=by
  have h1:Builtin.nextslicecap (sLen+n) sCap*i.2<=2*(sLen+n)*i.2:=mul_le_mul_right _ Ra;have h2:2*(sLen+n)*i.2=2*((sLen+n)*i.2):=Nat.mul_assoc _ _ _;unfold cz at hb;rw [hby];omega
 have Y2:inf.bytes≠0:=by omega
 have hz0:=om (P:=P) kV NH;refine ⟨(Question.appendCap (sLen+n) sCap e).cut (w.tape w.drawn (.appendCap (sLen+n) sCap e)),?_,?_⟩
 ·show sLen+n<=sLen+n+_;omega
 ·have ho:=hold w.drew rfl;have hn:=rY w.drew rfl;simp [Builtin.append_,run_underlying hu,run_underlying VP,hsz,hz',hlen,Wl,typeInfo,kV,alC,Y2,Question.forced,ho,hn,hz0,newRow]
end
theorem xZ(z:Array Value)(n:Nat):(Builtin.zeroCells z n).size=n*z.size:=by simp [Builtin.zeroCells]
theorem Rb(hg:Good w0 μ h w){u ty:TypeId}{i:Nat×Nat}(hi:Gl P t u=some i){s v:AV}{sv:Value}(hs:VR w0 μ s sv)(hx:VR w0 μ x xv){h':Heap}(ha:bB i.1 i.2 s x h=some (v,h')) :
  ∃ vc w' μ',(Builtin.append_ #[t,u] ty #[sv,xv]).run P w = .ok vc w'/\VR w0 μ' v vc/\Good w0 μ' h' w'/\Ext μ h w μ' h' w':=by
 obtain ⟨e,inf,zv,d,hu,kV,hsz,hby,hp,xb,NH,Y1,VP,hd⟩:=L8 hi;have aoA:w.drew.heap=w.heap:=rfl;have afL:∀ {h1 h2:Heap} {μ':Mu} {w':World},Ext μ h1 w.drew μ' h2 w'->Ext μ h1 w μ' h2 w':=fun x=>Ext.of_same (v:=w.drew) rfl x;have hgd:Good w0 μ h w.drew:=hg.same rfl rfl rfl rfl;unfold bB at ha;split at ha
 ·cases ha
 ·rename_i n hn;split at ha
  ·cases ha
  ·rename_i new rY;obtain ⟨us,Wm,r7,YA,hr4⟩:=zA (P:=P) hg hx hn (dK n) rY;have Y3:us.size=n*i.1:=by have:=r7.len;simp at this;omega
   split at ha
   ·
    cases hs;split at ha
    ·rename_i h0;subst h0;cases ha;refine ⟨_,w,μ,uC (base:=none) (w':=w) hu kV hsz VP hd (YA w) (Wm w rfl) (dK 0) rfl,.ai,hg,Ext.refl _ _ _⟩
    ·rename_i h0;split at ha
     ·rename_i hc;cases ha;simp only [and_eq_true,decide_eq_true_eq] at hc;obtain ⟨cap,Ra,hrun⟩:=run_append_grow (ty:=ty) (base:=none) (sLen:=0) (sCap:=0) (jm:=#[]) hu kV hsz hby xb NH VP hd (YA w) (fun w' hw'=>Wm w' hw') (fun w' hw'=>by simp [Builtin.firstCells]) (by simpa using hc.1) (by omega)
      have Dk:rZ w0 μ (.cells new) ⟨w.heap.size,0,us.size+(Builtin.zeroCells zv.cells (cap-(0+n))).size⟩ (some (.cells (#[]++us++Builtin.zeroCells zv.cells (cap-(0+n))) e)):=by
       refine ⟨_,_,(0,0),rfl,by simp,by simp;omega,.inl (dK _),fun j y hj=>?_⟩;obtain ⟨v,hv,hr⟩:=r7.get hj;refine ⟨v,?_,hr⟩;have hlt:=(lR.1 hv).1;simp at hlt hv;rw [Nat.zero_add,Array.getElem?_append_left (by simp;omega)];simp [hv]
      obtain ⟨g1,g2⟩:=hgd.alloc (.cells new) _ _ Dk;refine ⟨_,_,_,hrun,?_,g1,afL g2⟩
      have:=VR.slice (w0:=w0) (μ:=(μ.add h.next ⟨w.heap.size,0,us.size+(Builtin.zeroCells zv.cells (cap-(0+n))).size⟩)) h.next 0 n i.1 cap ⟨w.heap.size,0,none⟩ _ (Mu.add_same _ _ _) (by omega) (fun _=>⟨rfl,by
       show 0+0+cap*i.1<=us.size+_
       rw [xZ,Y3,Y1,<- Nat.add_mul,show n+(cap-(0+n))=cap by omega];omega⟩)
      simpa using this
     ·cases ha
   ·rename_i b off len s';split at ha
    ·rename_i iZ;subst iZ;cases hs;rename_i cap a k hk hle hac;split at ha
     ·rename_i h0;subst h0;cases ha;have jL:us = #[]:=by apply Array.eq_empty_of_size_eq_zero;omega
      subst jL;refine ⟨_,w,μ,uC (base:=some a) (w':=w) hu kV hsz VP hd (YA w) (Wm w rfl) (by omega) (by simp [storeCells]),?_,hg,Ext.refl _ _ _⟩;exact .slice b off len i.1 cap a k hk (by omega) hac
     ·rename_i h0;split at ha
      ·rename_i cs ho;split at ha
       ·rename_i hc;cases ha;simp only [and_eq_true,decide_eq_true_eq] at hc;obtain ⟨⟨Ql,hc2⟩,hc3⟩:=hc;obtain ⟨vs,el,fr,o1,o2,o3,o4,o5⟩:=hg.obj b k _ hk ho;have hoc:=hg.own b k hk;by_cases hroom:len+n<=cap
        ·
         obtain ⟨rfl,hin⟩:=hac (by omega);have hm1:len*i.1+n*i.1<=cap*i.1:=by rw [<- Nat.add_mul];exact mul_le_mul_right _ hroom
         have pE:=r6 (P:=P) k.c (k.base+off+len*i.1) el fr us.toList 0 vs w o1 (by rw [o2];exact o4) (by simp [Y3,o2];omega) (r7.xU hc2);rw [Nat.add_zero] at pE
         have Dk:rZ w0 μ (.cells ((cs.drop off).take (len*i.1)++new)) ⟨k.c,k.base+off,k.size⟩ (some (.cells (eW vs.toList (k.base+off+len*i.1) us.toList).toArray el fr)):=by
          have hlen:((cs.drop off).take (len*i.1)).length=len*i.1:=(by simp;omega);refine ⟨_,el,fr,rfl,by simp [iC,o2],by simp [hlen,hr4];omega,o4,fun j y hj=>?_⟩;by_cases L9:j<len*i.1
          ·rw [getElem?_append_left (by omega),getElem?_take,if_pos L9,getElem?_drop] at hj;obtain ⟨v,hv,hr⟩:=o5 _ y hj;refine ⟨v,?_,hr⟩;have:=gu us.toList vs.toList (k.base+off+len*i.1) (k.base+off+j) (.inl (by omega));simp only [getElem?_toArray,this,Array.getElem?_toList];rw [Nat.add_assoc];exact hv
          ·rw [getElem?_append_right (by omega),hlen] at hj;obtain ⟨v,hv,hr⟩:=r7.get hj;refine ⟨v,?_,hr⟩;have hlt:=(lR.1 hv).1;have:=jI us.toList vs.toList (k.base+off+len*i.1) (j-len*i.1) hlt (by simp [Y3,o2];omega);rw [show k.base+off+len*i.1+(j-len*i.1)=k.base+off+j by omega] at this;simp only [getElem?_toArray,this,hv]
         obtain ⟨g1,g2⟩:=hg.renew hk ho (by simp) (k.base+off) _ _ Dk;refine ⟨_,_,_,uC (base:=some ⟨k.c,k.base+off,none⟩) hu kV hsz VP hd (YA w) (Wm w rfl) hroom (by simp only [og];exact pE),?_,g1,g2⟩;exact .slice h.next 0 (len+n) i.1 cap ⟨k.c,k.base+off,none⟩ ⟨k.c,k.base+off,k.size⟩ (Mu.add_same _ _ _) (by omega) (fun _=>⟨by simp,by simpa using hin⟩)
        ·
         have hold:gW i.1 len (.slice b off len i.1) h=some ((cs.drop off).take (len*i.1)):=(by simp [gW,ho,hc3]);obtain ⟨jm,q1,q2,q3,q4⟩:=zA (P:=P) hg (.slice b off len i.1 cap a k hk hle hac) (m:=len) rfl (dK len) hold;have alD:jm.size=len*i.1:=by have:=q2.len;simp only [Array.length_toList] at this;omega
         obtain ⟨Ju,Ra,hrun⟩:=run_append_grow (ty:=ty) (base:=some a) (sLen:=len) (sCap:=cap) (jm:=jm) hu kV hsz hby xb NH VP hd (YA w) (fun w' hw'=>Wm w' hw') q1 Ql hroom;have jS:=q2.append r7
         have Dk:rZ w0 μ (.cells ((cs.drop off).take (len*i.1)++new)) ⟨w.heap.size,0,jm.size+us.size+(Builtin.zeroCells zv.cells (Ju-(len+n))).size⟩ (some (.cells (jm++us++Builtin.zeroCells zv.cells (Ju-(len+n))) e)):=by
          refine ⟨_,_,(0,0),rfl,by simp [Nat.add_assoc],by rw [length_append,q4,hr4];show 0+_<=jm.size+us.size+_;omega,.inl (dK _),fun j y hj=>?_⟩;obtain ⟨v,hv,hr⟩:=jS.get hj;refine ⟨v,?_,hr⟩;have hlt:=(lR.1 hv).1;rw [<- Array.toList_append] at hv hlt;rw [Array.length_toList] at hlt;rw [Array.getElem?_toList] at hv;show (jm++us++_)[0+j]?=some v;rw [Nat.zero_add,Array.getElem?_append_left hlt,hv]
         have hgk:Good w0 μ (h.set b .dead) w.drew:=hgd.kill hk;obtain ⟨g1,g2⟩:=hgk.alloc (.cells ((cs.drop off).take (len*i.1)++new)) _ _ Dk;refine ⟨_,_,_,hrun,?_,g1,(Ext.kill hk).trans (afL g2)⟩;refine .slice h.next 0 (len+n) i.1 Ju ⟨w.heap.size,0,none⟩ ⟨w.heap.size,0,jm.size+us.size+(Builtin.zeroCells zv.cells (Ju-(len+n))).size⟩ (Mu.add_same _ _ _) Ra (fun _=>⟨rfl,?_⟩)
         show 0+0+Ju*i.1<=jm.size+us.size+_;rw [xZ,Y3,alD,Y1,<- Nat.add_mul,<- Nat.add_mul];rw [show len+n+(Ju-(len+n))=Ju by omega];omega
       ·cases ha
      ·cases ha
    ·cases ha
   ·cases ha
end
end Go.AM