/- The abstract machine: a deterministic evaluator over the model's Code. Conditions: none; definitions alone. -/
import Derived.Test.YtfdanacohcffmaaGreatKo1
import Derived.Calls
import GoSem.Core.Utf8
import Derived.Orders
set_option linter.unusedVariables false
namespace Go.AM
open List Nat Bool Option
open Go
noncomputable section
inductive AV where
 |undef
 |bool (b:Bool)
 |int (k:IntKind) (n:Int)
 |str (s:List UInt8)
 |ey
 |ptr (b off:Nat)
 |dQ (cs:List AV) (off:Nat)
 |ay
 |slice (b off len sz:Nat)
 |ax (cs:List AV) (off len sz:Nat)
 |jJ
 |map (b:Nat)
 |m8
 |func (f:FuncId) (first cap:List AV)
 |pL
 |iface (t:TypeId) (v:AV)
 |agg (cs:List AV)
 |tuple (vs:List AV)
 deriving Inhabited
mutual
def AV.beq:AV->AV->Bool
 |.undef,.undef=>true
 |.bool a,.bool b=>a==b
 |.int k a,.int j b=>decide (k=j)&&decide (a=b)
 |.str a,.str b=>decide (a=b)
 |.ey,.ey=>true
 |.ptr a i,.ptr b j=>a==b&&i==j
 |.dQ a i,.dQ b j=>AV.xk a b&&i==j
 |.ay,.ay=>true
 |.slice a i l s,.slice b j m t=>a==b&&i==j&&l==m&&s==t
 |.ax a i l s,.ax b j m t=>AV.xk a b&&i==j&&l==m&&s==t
 |.jJ,.jJ=>true
 |.map a,.map b=>a==b
 |.m8,.m8=>true
 |.func f a b,.func g c d=>f==g&&AV.xk a c&&AV.xk b d
 |.pL,.pL=>true
 |.iface t a,.iface u b=>t==u&&AV.beq a b
 |.agg a,.agg b=>AV.xk a b
 |.tuple a,.tuple b=>AV.xk a b
 |_,_=>false
def AV.xk:List AV->List AV->Bool
 |[],[]=>true
 |a :: as,b :: bs=>AV.beq a b&&AV.xk as bs
 |_,_=>false
end
inductive jX where
 |dead
 |cells (cs:List AV)
 |map (es:List (AV×AV×Nat)) (clock:Nat)
 |BL (s:List UInt8) (pos:Nat)
 |fU (m:Option Nat) (since:Nat) (seen:List Nat) (Lq:Nat)
 |box (v:AV)
 deriving Inhabited
inductive Trie (α:Type) where
 |leaf
 |node (v:Option α) (l r:Trie α)
 deriving Inhabited
def Trie.get{α:Type}:Trie α->Nat->Option α
 |.leaf,_=>none
 |.node v l r,n=>match n with
  |0=>v
  |m+1=>if m%2=0 then l.get (m/2) else r.get (m/2)
def Trie.val{α:Type}:Trie α->Option α
 |.leaf=>none
 |.node v _ _=>v
def Trie.left{α:Type}:Trie α->Trie α
 |.leaf=>.leaf
 |.node _ l _=>l
def Trie.right{α:Type}:Trie α->Trie α
 |.leaf=>.leaf
 |.node _ _ r=>r
def Trie.JR{α:Type}(o:α):Nat->Trie α->Nat->Trie α
 |0,t,_=>.node (some o) t.left t.right
 |f+1,t,n=>match n with
  |0=>.node (some o) t.left t.right
  |m+1=>if m%2=0 then .node t.val (JR o f t.left (m/2)) t.right else .node t.val t.left (JR o f t.right (m/2))
def Trie.set{α:Type}(t:Trie α)(n:Nat)(o:α):Trie α:=Trie.JR o n t n
structure Heap where
 next:Nat
 tab:Trie jX
 deriving Inhabited
def Heap.get(h:Heap)(b:Nat):Option jX:=h.tab.get b
def Heap.set(h:Heap)(b:Nat)(o:jX):Heap:=⟨h.next,h.tab.set b o⟩
def Heap.alloc(h:Heap)(o:jX):Heap:=⟨h.next+1,h.tab.set h.next o⟩
def Heap.empty:Heap:=⟨0,.leaf⟩
def ag{α:Type}(o:Option α)(f:α->Bool):Bool:=
 match o with
 |some a=>f a
 |none=>false
def mU:Value->AV
 |.bool b=>.bool b
 |.int k n=>.int k n
 |.string s=>.str s.data.toList
 |.pointer none=>.ey
 |.slice none 0 0=>.ay
 |.map none=>.jJ
 |.nilFunc=>.m8
 |.nilIface=>.pL
 |_=>.undef
def ofConst:Value->AV
 |.agg cs=>.agg (cs.toList.map mU)
 |v=>mU v
def AV.dB:AV->List AV
 |.agg cs=>cs
 |v=>[v]
def bJ:AV:=.tuple []
def AV.one:AV->Bool
 |.agg _|.tuple _|.undef=>false
 |_=>true
def bw:List AV->Bool
 |[]=>true
 |c :: cs=>c.one&&bw cs
section
variable (P:Program)
def nY(t:TypeId):Option Nat:=match P.info? t with|some i=>some i.size|none=>none
def Om(t:TypeId):Option Nat:=match P.info? t with|some i=>some i.bytes|none=>none
def zP(t:TypeId):Option AV:=match P.info? t with
 |some i=>(match i.zero with|some z=>some (ofConst z)|none=>none)
 |none=>none
def vz(t:TypeId):Option (Option Nat):=match P.underlying t with
 |some (.struct _)|some (.array _ _)=>(match nY P t with|some n=>some (some n)|none=>none)
 |some _=>some none
 |none=>none
def Lr(t:TypeId):Option TypeId:=match P.underlying t with|some (.slice e)=>some e|_=>none
def FZ(t:TypeId)(i:Nat):Option Field:=match P.underlying t with|some (.struct fs)=>fs[i]?|_=>none
def Hs(t:TypeId):Option (TypeDesc×TypeId):=match P.underlying t with
 |some (.map k e)=>(match P.underlying k with|some d=>some (d,e)|none=>none)
 |_=>none
end
def mB(P:Program)(t:TypeId):Option (List AV):=
 match zP P t with
 |some z=>if bw z.dB then some z.dB else none
 |none=>none
def ji(i:Option Nat)(cs:List AV)(off:Nat):Option AV:=
 match i with
 |none=>cs[off]?
 |some n=>if off+n<=cs.length then some (.agg ((cs.drop off).take n)) else none
def eo{α:Type}:List α->Nat->List α->List α
 |cs,_,[]=>cs
 |cs,off,v :: vs=>eo (cs.set off v) (off+1) vs
def eY(x:AV):Option (List AV):=if bw x.dB then some x.dB else none
def Ls(c a b:AV):Option AV:=
 match c with
 |.bool t=>some (if t then a else b)
 |_=>none
def ah(i:Option Nat)(x:AV)(h:Heap):Option AV:=
 match x with
 |.ptr b off=>(match h.get b with|some (.cells cs)=>ji i cs off|_=>none)
 |.dQ cs off=>ji i cs off
 |_=>none
def aZ(n:Nat)(x v:AV)(h:Heap):Option Heap:=
 match x with
 |.ptr b off=>(match h.get b with
  |some (.cells cs)=>if v.dB.length=n&&bw v.dB&&decide (off+n<=cs.length) then some (h.set b (.cells (eo cs off v.dB))) else none
  |_=>none)
 |_=>none
def bx:AV->Option AV
 |.ptr b i=>some (.ptr b i)
 |.dQ c i=>some (.dQ c i)
 |.func f a b=>some (.func f a b)
 |_=>none
def BM(right:Bool)(x y:AV):Option AV:=
 match x,y with
 |.int k a,.int _ b=>if b<0 then none else some (.int k (if right then a.fdiv (2 ^ (min b.toNat k.bits)) else k.wrap (a*2 ^ (min b.toNat k.bits))))
 |_,_=>none
def On(op:BinOp)(x y:AV):Option AV:=
 match x,y with
 |.int k a,.int k' b=>
  if k=k' then
   match op with
   |.and=>some (.int k (k.wrap (BitVec.ofInt k.bits a &&& BitVec.ofInt k.bits b).toNat))
   |.or=>some (.int k (k.wrap (BitVec.ofInt k.bits a ||| BitVec.ofInt k.bits b).toNat))
   |.xor=>some (.int k (k.wrap (BitVec.ofInt k.bits a ^^^ BitVec.ofInt k.bits b).toNat))
   |_=>none
  else none
 |_,_=>none
def aI(op:BinOp)(x y:AV):Option AV:=
 match op with
 |.shr=>BM true x y
 |.shl=>BM false x y
 |.and=>On .and x y
 |.or=>On .or x y
 |.xor=>On .xor x y
 |op=>match x,y with
 |.int k a,.int k' b=>
  if k=k' then
   match op with
   |.add=>some (.int k (k.wrap (a+b)))
   |.sub=>some (.int k (k.wrap (a-b)))
   |.mul=>some (.int k (k.wrap (a*b)))
   |.quo=>if b=0 then none else some (.int k (k.wrap (a.tdiv b)))
   |.rem=>if b=0 then none else some (.int k (a.tmod b))
   |.lss=>some (.bool (decide (a<b)))
   |.leq=>some (.bool (decide (a<=b)))
   |.gtr=>some (.bool (decide (a>b)))
   |.geq=>some (.bool (decide (a>=b)))
   |_=>none
  else none
 |.str a,.str b=>
  match op with
  |.add=>if a.length+b.length<=4611686018427387904 then some (.str (a++b)) else none
  |.lss=>some (.bool (Op.bytesLess a b))
  |.leq=>some (.bool (Op.bytesLess a b||a==b))
  |.gtr=>some (.bool (!(Op.bytesLess a b||a==b)))
  |.geq=>some (.bool (!(Op.bytesLess a b)))
  |_=>none
 |_,_=>none
def QI(d:TypeDesc)(x y:AV):Option Bool:=
 match x,y with
 |.int k a,.int k' b=>if k=k' then some (a==b) else none
 |.str a,.str b=>some (a==b)
 |.bool a,.bool b=>(match d with|.bool=>some (a==b)|_=>none)
 |.ey,.ey=>(match d with|.pointer _=>some true|_=>none)
 |.ptr _ _,.ey|.ey,.ptr _ _|.dQ _ _,.ey|.ey,.dQ _ _=>(match d with|.pointer _=>some false|_=>none)
 |.ay,.ay=>(match d with|.slice _=>some true|_=>none)
 |.slice _ _ _ _,.ay|.ay,.slice _ _ _ _|.ax _ _ _ _,.ay|.ay,.ax _ _ _ _=>(match d with|.slice _=>some false|_=>none)
 |.jJ,.jJ=>(match d with|.map _ _=>some true|_=>none)
 |.map _,.jJ|.jJ,.map _=>(match d with|.map _ _=>some false|_=>none)
 |.m8,.m8=>(match d with|.func _ _ _=>some true|_=>none)
 |.func _ _ _,.m8|.m8,.func _ _ _=>(match d with|.func _ _ _=>some false|_=>none)
 |_,_=>none
def jC(d:TypeDesc)(x y:AV):Option AV:=match QI d x y with|some b=>some (.bool b)|none=>none
def pM(d:TypeDesc)(x y:AV):Option AV:=match QI d x y with|some b=>some (.bool (!b))|none=>none
def kX(op:UnOp)(x:AV):Option AV:=
 match op,x with
 |.neg,.int k n=>some (.int k (k.wrap (0-n)))
 |.not,.bool b=>some (.bool (!b))
 |_,_=>none
def asNat(x:AV):Option Nat:=
 match x with
 |.int _ n=>if 0<=n then some n.toNat else none
 |_=>none
def vA(d:TypeDesc)(x y:AV):Option Bool:=
 match d,x,y with
 |.int _,.int k a,.int k' b=>if k=k' then some (a==b) else none
 |.string,.str a,.str b=>some (a==b)
 |.bool,.bool a,.bool b=>some (a==b)
 |_,_,_=>none
abbrev Entry:=AV×AV×Nat
def jD(d:TypeDesc)(k:AV):List Entry->Nat->Option (Option (Nat×AV))
 |[],_=>some none
 |e :: es,i=>
  match vA d k e.1 with
  |some true=>some (some (i,e.2.1))
  |some false=>jD d k es (i+1)
  |none=>none
def p9(d:TypeDesc)(k:AV):Bool:=
 match d,k with
 |.int _,.int _ _=>true
 |.string,.str _=>true
 |.bool,.bool _=>true
 |_,_=>false
def qb(d:TypeDesc)(k:AV)(es:List Entry):Option (Option (Nat×AV)):=if p9 d k then jD d k es 0 else none
def iu(sz n:Nat)(x:AV)(h:Heap):Option (List AV):=
 match x with
 |.ay=>if n=0 then some [] else none
 |.slice b off _ s=>
  if s=sz then (match h.get b with
   |some (.cells cs)=>if off+n*sz<=cs.length then some ((cs.drop off).take (n*sz)) else none
   |_=>none) else none
 |.ax cs off _ s=>if s=sz&&decide (off+n*sz<=cs.length) then some ((cs.drop off).take (n*sz)) else none
 |.str s=>if sz=1 then some ((s.take n).map fun b=>.int .u8 b.toNat) else none
 |_=>none
def lH:AV->Option Nat
 |.ay=>some 0
 |.slice _ _ n _=>some n
 |.ax _ _ n _=>some n
 |.str s=>some s.length
 |_=>none
def cJ:Nat:=140737488355328
def cj(sz bytes:Nat)(s x:AV)(h:Heap):Option (AV×Heap):=
 match lH x with
 |none=>none
 |some n=>match iu sz n x h with
  |none=>none
  |some new=>
   match s with
   |.ay=>
    if n=0 then some (.ay,h) else
    if n*bytes<=cJ&&bw new then some (.slice h.next 0 n sz,h.alloc (.cells new)) else none
   |.slice b off len s'=>
    if s'=sz then
     if n=0 then some (.slice b off len s',h) else
     match h.get b with
     |some (.cells cs)=>
      if (len+n)*bytes<=cJ&&bw new&&decide (off+len*sz<=cs.length) then
       some (.slice h.next 0 (len+n) sz,(h.set b .dead).alloc (.cells ((cs.drop off).take (len*sz)++new)))
      else none
     |_=>none
    else none
   |_=>none
def Oo(sz:Nat)(dst src:AV)(h:Heap):Option (AV×Heap):=
 match lH src with
 |none=>none
 |some m=>match dst with
  |.ay=>some (.int .i64 0,h)
  |.slice b off len s'=>
   if s'=sz then
    match iu sz (Nat.min m len) src h with
    |some new=>match h.get b with
     |some (.cells cs)=>
      if bw new&&decide (off+Nat.min m len*sz<=cs.length)&&decide (new.length=Nat.min m len*sz) then
       some (.int .i64 (Nat.min m len),h.set b (.cells (eo cs off new)))
      else none
     |_=>none
    |none=>none
   else none
  |_=>none
def pN(x:Option AV)(acs:Nat):Option Nat:=
 match x with
 |none=>some acs
 |some v=>asNat v
def iT(i:Option Nat)(x:AV)(lo hi:Option AV):Option AV:=
 match lH x with
 |none=>none
 |some len=>match pN hi len,pN lo 0 with
  |some hi,some lo=>
   if lo<=hi&&decide (hi<=len) then
    match i,x with
    |none,.str s=>some (.str ((s.take hi).drop lo))
    |some _,.ay=>some .ay
    |some n,.slice b off _ sz=>if n=sz then some (.slice b (off+lo*sz) (hi-lo) sz) else none
    |some n,.ax cs off _ sz=>if n=sz then some (.ax cs (off+lo*sz) (hi-lo) sz) else none
    |_,_=>none
   else none
  |_,_=>none
def bT(off:Nat)(x:AV):Option AV:=
 match x with
 |.ptr b o=>some (.ptr b (o+off))
 |.dQ cs o=>some (.dQ cs (o+off))
 |_=>none
def F5(i:Option Nat)(off:Nat)(x:AV):Option AV:=
 match x with
 |.agg cs=>ji i cs off
 |_=>none
def dM(n:Nat)(x i:AV):Option AV:=
 match asNat i with
 |none=>none
 |some i=>match x with
  |.slice b off len sz=>if i<len&&n==sz then some (.ptr b (off+i*sz)) else none
  |.ax cs off len sz=>if i<len&&n==sz then some (.dQ cs (off+i*sz)) else none
  |_=>none
def Oq(len n:Nat)(x i:AV):Option AV:=
 match asNat i with
 |none=>none
 |some i=>match x with
  |.ptr b off=>if i<len then some (.ptr b (off+i*n)) else none
  |.dQ cs off=>if i<len then some (.dQ cs (off+i*n)) else none
  |_=>none
inductive IaK where
 |sl (n:Nat)|arr (len n:Nat)
def iaV(k:IaK)(x i:AV):Option AV:=match k with|.sl n=>dM n x i|.arr len n=>Oq len n x i
def kT(x i:AV):Option AV:=
 match x,asNat i with
 |.str s,some i=>(match s[i]? with|some b=>some (.int .u8 b.toNat)|none=>none)
 |_,_=>none
def Lt(len n:Nat)(r:Option Nat)(x i:AV):Option AV:=
 match x,asNat i with
 |.agg cs,some i=>if i<len then ji r cs (i*n) else none
 |_,_=>none
def lN(m:AV)(h:Heap):Option (List Entry):=
 match m with
 |.jJ=>some []
 |.map b=>(match h.get b with|some (.map es _)=>some es|_=>none)
 |_=>none
def dV(d:TypeDesc)(z:AV)(ok:Bool)(m k:AV)(h:Heap):Option AV:=
 match lN m h with
 |none=>none
 |some es=>match qb d k es with
  |some (some (_,v))=>some (if ok then .tuple [v,.bool true] else v)
  |some none=>some (if ok then .tuple [z,.bool false] else z)
  |none=>none
def eZ(es:List Entry)(i:Nat)(v:AV):List Entry:=
 match es[i]? with
 |some e=>es.set i (e.1,v,e.2.2)
 |none=>es
def eS(d:TypeDesc)(m k v:AV)(h:Heap):Option Heap:=
 match m with
 |.map b=>(match h.get b with
  |some (.map es ck)=>(match qb d k es with
   |some (some (i,_))=>some (h.set b (.map (eZ es i v) ck))
   |some none=>some (h.set b (.map (es++[(k,v,ck)]) (ck+1)))
   |none=>none)
  |_=>none)
 |_=>none
def F6(es:List Entry)(i:Nat):Nat:=match es[i]? with|some e=>e.2.2|none=>0
def lu(d:TypeDesc)(z:AV)(m k:AV)(h:Heap):Option (AV×Heap):=
 match m with
 |.map b=>(match h.get b with
  |some (.map es ck)=>(match qb d k es with
   |some (some (i,v))=>some (.tuple [v,.int .i64 (F6 es i)],h)
   |some none=>some (.tuple [z,.int .i64 ck],h.set b (.map (es++[(k,z,ck)]) (ck+1)))
   |none=>none)
  |_=>none)
 |_=>none
def nZ(n:Int):List Entry->Nat->Option Nat
 |[],_=>none
 |e :: es,i=>if (e.2.2:Int)=n then some i else nZ n es (i+1)
def iZ(m s v:AV)(h:Heap):Option Heap:=
 match m,s with
 |.map b,.int _ n=>(match h.get b with
  |some (.map es ck)=>(match nZ n es 0 with
   |some i=>some (h.set b (.map (eZ es i v) ck))
   |none=>none)
  |_=>none)
 |_,_=>none
def F7(d:TypeDesc)(m k:AV)(h:Heap):Option Heap:=
 match m with
 |.jJ=>if p9 d k then some h else none
 |.map b=>(match h.get b with
  |some (.map es ck)=>(match qb d k es with
   |some (some (i,_))=>some (h.set b (.map (es.eraseIdx i) ck))
   |some none=>some (h.set b (.map es ck))
   |none=>none)
  |_=>none)
 |_=>none
inductive UT where
 |str|slice|map|array (n:Nat)
def bX(i:UT)(x:AV)(h:Heap):Option AV:=
 match i,x with
 |.str,.str s=>some (.int .i64 s.length)
 |.slice,.ay=>some (.int .i64 0)
 |.slice,.slice _ _ n _=>some (.int .i64 n)
 |.slice,.ax _ _ n _=>some (.int .i64 n)
 |.map,.jJ=>some (.int .i64 0)
 |.map,.map b=>(match h.get b with|some (.map es _)=>some (.int .i64 es.length)|_=>none)
 |.array n,_=>some (.int .i64 n)
 |_,_=>none
def JS(mx:Bool)(x y:AV):Option AV:=
 match x,y with
 |.int k a,.int k' b=>if k=k' then some (.int k (if mx then (if b>a then b else a) else (if b<a then b else a))) else none
 |_,_=>none
def vB(mx:Bool):AV->List AV->Option AV
 |x,[]=>some x
 |x,y :: ys=>match JS mx x y with
  |some v=>vB mx v ys
  |none=>none
inductive Ot where
 |int (k:IntKind)|str|bytes|string
def bytesOf:List AV->Option (List UInt8)
 |[]=>some []
 |.int .u8 n :: cs=>(match bytesOf cs with|some bs=>some (UInt8.ofNat n.toNat :: bs)|none=>none)
 |_=>none
def jj(i:Ot)(x:AV)(h:Heap):Option (AV×Heap):=
 match i,x with
 |.int k,.int _ n=>some (.int k (k.wrap n),h)
 |.str,.str s=>some (.str s,h)
 |.bytes,.str s=>if ua=true/\s.length<=cJ then some (.slice h.next 0 s.length 1,h.alloc (.cells (s.map fun b=>.int .u8 b.toNat))) else none
 |.string,.ay=>some (.str [],h)
 |.string,.slice b off n sz=>(match iu 1 n (.slice b off n sz) h with
  |some cs=>(match bytesOf cs with|some bs=>some (.str bs,h)|none=>none)
  |none=>none)
 |.string,.ax b off n sz=>(match iu 1 n (.ax b off n sz) h with
  |some cs=>(match bytesOf cs with|some bs=>some (.str bs,h)|none=>none)
  |none=>none)
 |_,_=>none
def og(cells:List AV):List (Nat×Nat)->List AV->Option (List AV)
 |[],[]=>some cells
 |(off,n) :: ps,v :: vs=>
  if v.dB.length=n&&decide (off+n<=cells.length)&&bw v.dB then og (eo cells off v.dB) ps vs else none
 |_,_=>none
def jb(zero:List AV):Nat->List AV
 |0=>[]
 |n+1=>zero++jb zero n
def fZ(zs:List AV)(ps:List (Nat×Nat))(vs:List AV):Option (List AV):=
 match og zs ps vs with
 |some cs=>if bw cs then some cs else none
 |none=>none
def iA(zs:List AV)(ps:List (Nat×Nat))(vs:List AV):Option AV:=
 match og zs ps vs with
 |some cs=>some (.agg cs)
 |none=>none
def yK(bytes:Nat)(len cap:AV):Option Nat:=
 match len,cap with
 |.int .i64 l,.int .i64 c=>if 0<=l&&decide (l<=c)&&decide (bytes*c<=140737488355328) then some l.toNat else none
 |_,_=>none
def gG(sz bytes:Nat)(z:List AV)(len cap:AV)(h:Heap):Option (AV×Heap):=
 match yK bytes len cap with
 |some n=>some (.slice h.next 0 n sz,h.alloc (.cells (jb z n)))
 |none=>none
inductive JT where
 |str|map
def mC(i:JT)(x:AV)(h:Heap):Option (AV×Heap):=
 match i,x with
 |.str,.str s=>some (.ptr h.next 0,h.alloc (.BL s 0))
 |.map,.jJ=>some (.ptr h.next 0,h.alloc (.fU none 0 [] 0))
 |.map,.map m=>(match h.get m with
  |some (.map _ ck)=>some (.ptr h.next 0,h.alloc (.fU (some m) ck [] ck))
  |_=>none)
 |_,_=>none
def lB(n:Nat):List Entry->Option Entry
 |[]=>none
 |e :: es=>if e.2.2=n then some e else lB n es
def sq(es:List Entry)(since:Nat)(seen:List Nat):List (Option Entry):=
 let left:=es.filter fun e=>!seen.contains e.2.2
 let old:=left.filter fun e=>decide (e.2.2<since)
 let new:=left.filter fun e=>decide (e.2.2>=since)
 (if old.isEmpty then [none] else [])++(old++new).map some
def JU(r m since:Nat)(seen:List Nat)(ck:Nat)(h:Heap):Option Entry->AV×Heap
 |some e=>(.tuple [.bool true,e.1,e.2.1],h.set r (.fU (some m) since (seen++[e.2.2]) ck))
 |none=>(.tuple [.bool false],h)
def xm(isString:Bool)(x:AV)(h:Heap):Option (List (AV×Heap)):=
 match x with
 |.ptr r 0=>(match h.get r,isString with
  |some (.BL s pos),true=>
   if pos<s.length then
    some [(.tuple [.bool true,.int .i64 pos,.int .i32 (Utf8.decode ⟨s.toArray⟩ pos).1],h.set r (.BL s (pos+(Utf8.decode ⟨s.toArray⟩ pos).2)))]
   else some [(.tuple [.bool false],h)]
  |some (.fU none _ _ _),false=>some [(.tuple [.bool false],h)]
  |some (.fU (some m) since seen last),false=>(match h.get m with
   |some (.map es ck)=>
    if !seen.isEmpty&&!es.isEmpty&&es.all (fun e=>decide (e.2.2>=last)) then none else
    match sq es since seen with
    |[]=>none
    |c :: cs=>some ((c :: cs).map (JU r m since seen ck h))
   |_=>none)
  |_,_=>none)
 |_=>none
def sr(x:AV)(h:Heap):Option AV:=
 match x with
 |.ptr r 0=>(match h.get r with
  |some (.fU (some m) _ seen Lq)=>(match seen.getLast?,h.get m with
   |some Lu,some (.map es ck)=>
    if ck=Lq then (match lB Lu es with|some e=>some (.tuple [e.1,e.2.1])|none=>none) else none
   |_,_=>none)
  |_=>none)
 |_=>none
def Bh(a:TypeId)(z x:AV):Option AV:=
 match x with
 |.pL=>some (.tuple [z,.bool false])
 |.iface t v=>some (if t=a then .tuple [v,.bool true] else .tuple [z,.bool false])
 |_=>none
def bI(x:AV)(i:Nat):Option AV:=match x with|.tuple vs=>vs[i]?|_=>none
def Ou(P:Program)(e:Option TypeId):Option (Nat×Nat):=
 match e with
 |none=>none
 |some e=>match nY P e,Om P e with
  |some s,some b=>if 0<s&&decide (0<b) then some (s,b) else none
  |_,_=>none
def BN(P:Program)(t:TypeId):Option (Nat×Nat):=Ou P (Lr P t)
def iaI(P:Program)(t:TypeId):Option IaK:=
 match P.underlying t with
 |some (.array len e)=>(match nY P e with|some s=>some (.arr len s)|none=>none)
 |_=>(match BN P t with|some o=>some (.sl o.1)|none=>none)
def BO(P:Program)(t:TypeId):Option (Nat×Nat×List AV):=
 match BN P t,Lr P t with
 |some (s,b),some e=>(match mB P e with
  |some z=>if z.length=s then some (s,b,z) else none
  |none=>none)
 |_,_=>none
def Lw(BP:List (Nat×Nat)):List Nat->Option (List (Nat×Nat))
 |[]=>some []
 |i :: is=>match BP[i]?,Lw BP is with
  |some p,some ps=>some (p :: ps)
  |_,_=>none
def Ra(P:Program)(fs:List Field):Option (List (Nat×Nat)):=fs.mapM fun f=>(P.info? f.type).map fun i=>(f.offset,i.size)
def F8(P:Program)(t:TypeId)(is:List Nat):Option (List AV×List (Nat×Nat)):=
 match P.underlying t with
 |some (.struct fs)=>(match zP P t,Ra P fs.toList with
  |some z,some pl=>(match Lw pl is with|some ps=>if bw z.dB then some (z.dB,ps) else none|none=>none)
  |_,_=>none)
 |some (.array _ e)=>(match zP P t,P.info? e with
  |some z,some ie=>if bw z.dB then some (z.dB,is.map fun i=>(i*ie.size,ie.size)) else none
  |_,_=>none)
 |_=>none
def Rb(P:Program)(t:TypeId)(len:Nat)(is:List Nat):Option (Nat×List AV×List (Nat×Nat)):=
 match BO P t with
 |some (s,_,z)=>if len*s<=65536 then some (s,jb z len,is.map fun i=>(i*s,s)) else none
 |none=>none
def faI(P:Program)(t:TypeId)(i:Nat):Option Nat:=
 match FZ P t i with
 |some f=>(match nY P f.type with|some s=>if s=0 then none else some f.offset|none=>none)
 |none=>none
def F9(P:Program)(t:TypeId)(i:Nat):Option (Option Nat×Nat):=
 match FZ P t i with
 |some f=>(match vz P f.type with|some r=>some (r,f.offset)|none=>none)
 |none=>none
def Ga(P:Program)(t:TypeId):Option (Option Nat):=
 match P.underlying t with
 |some .string=>some none
 |some (.slice e)=>(match nY P e with|some s=>some (some s)|none=>none)
 |_=>none
inductive UU where
 |str|arr (len n:Nat) (r:Option Nat)
def Rc(P:Program)(t:TypeId):Option UU:=
 match P.underlying t with
 |some .string=>some .str
 |some (.array len e)=>(match nY P e,vz P e with|some n,some r=>some (.arr len n r)|_,_=>none)
 |_=>none
def Ov(i:UU)(x y:AV):Option AV:=
 match i with
 |.str=>kT x y
 |.arr len n r=>Lt len n r x y
def qM(P:Program)(t:TypeId):Option (TypeDesc×AV):=
 match Hs P t with
 |some (d,e)=>(match zP P e with|some z=>some (d,z)|none=>none)
 |none=>none
def Re(P:Program)(t:TypeId):Option UT:=
 match P.underlying t with
 |some .string=>some .str
 |some (.slice _)=>some .slice
 |some (.map _ _)=>some .map
 |some (.array n _)=>some (.array n)
 |_=>none
def BQ(P:Program)(src dst:TypeId):Option Ot:=
 match P.underlying src,P.underlying dst with
 |some (.int _),some (.int k)=>some (.int k)
 |some .string,some .string=>some .str
 |some .string,some (.slice e)=>(match P.underlying e,nY P e with|some (.int .u8),some 1=>some .bytes|_,_=>none)
 |some (.slice e),some .string=>(match P.underlying e with|some (.int .u8)=>some .string|_=>none)
 |_,_=>none
def JV(P:Program)(t:TypeId):Option JT:=
 match P.underlying t with
 |some .string=>some .str
 |some (.map _ _)=>some .map
 |_=>none
def BR(P:Program)(t:TypeId):Option Unit:=
 match P.underlying t with
 |some (.interface _)=>none
 |some _=>some ()
 |none=>none
def Bi(P:Program)(a:TypeId)(ok:Bool):Option AV:=
 match ok,P.underlying a with
 |true,some (.interface _)=>none
 |true,some _=>zP P a
 |_,_=>none
def Bj(P:Program)(t u:TypeId):Option (Nat×Nat):=
 match P.underlying u,BO P t with
 |some (.slice _),some (s,b,_)=>some (s,b)
 |some .string,some (s,b,_)=>some (s,b)
 |_,_=>none
abbrev Ex:=Program->(Operand->AV)->Heap->(AV->Heap->Bool)->Bool
def ku(h:Heap)(K:AV->Heap->Bool)(o:Option AV):Bool:=ag o fun v=>K v h
def zQ(K:AV->Heap->Bool)(o:Option Heap):Bool:=ag o fun h=>K bJ h
def vC(K:AV->Heap->Bool)(o:Option (AV×Heap)):Bool:=ag o fun p=>K p.1 p.2
def Lx(t:TypeId):Ex:=fun P _ h K=>ag (mB P t) fun z=>K (.ptr h.next 0) (h.alloc (.cells z))
def T4(x:Operand):Ex:=fun _ ρ h K=>ag (eY (ρ x)) fun cs=>K (.ptr h.next 0) (h.alloc (.cells cs))
def LA(t:TypeId)(ps:List (Nat×Operand)):Ex:=fun P ρ h K=>ag (F8 P t (ps.map (·.1))) fun i=>ku h K (iA i.1 i.2 (ps.map fun p=>ρ p.2))
def qN(t:TypeId)(n:Nat)(ps:List (Nat×Operand)):Ex:=fun P ρ h K=>
 ag (Rb P t n (ps.map (·.1))) fun i=>ag (fZ i.2.1 i.2.2 (ps.map fun p=>ρ p.2)) fun cs=>K (.slice h.next 0 n i.1) (h.alloc (.cells cs))
def Ow(op:BinOp)(t:TypeId)(x y:Operand):Ex:=fun P ρ h K=>
 match op with
 |.eql=>ag (P.underlying t) fun d=>ku h K (jC d (ρ x) (ρ y))
 |.neq=>ag (P.underlying t) fun d=>ku h K (pM d (ρ x) (ρ y))
 |op=>ku h K (aI op (ρ x) (ρ y))
def BS(fn:Fn)(first cap:List Operand):Ex:=fun _ ρ h K=>match fn with
 |.func f=>K (.func f (first.map ρ) (cap.map ρ)) h
 |_=>false
def EW(r:Option Operand):Ex:=fun _ _ h K=>match r with
 |none=>K (.map h.next) (h.alloc (.map [] 0))
 |some _=>false
def zR(t:TypeId)(l c:Operand):Ex:=fun P ρ h K=>ag (BO P t) fun i=>vC K (gG i.1 i.2.1 i.2.2 (ρ l) (ρ c) h)
def Gb(t:TypeId)(x:Operand)(lo hi mx:Option Operand):Ex:=fun P ρ h K=>match mx with
 |none=>ag (Ga P t) fun i=>ku h K (iT i (ρ x) (lo.map ρ) (hi.map ρ))
 |some _=>false
def Ht(t:TypeId)(x i:Operand)(ok:Bool):Ex:=fun P ρ h K=>ag (qM P t) fun d=>ku h K (dV d.1 d.2 ok (ρ x) (ρ i) h)
abbrev UW:=List TypeId->List AV->Program->Heap->(AV->Heap->Bool)->Bool
def yL:UW:=fun ts xs P h K=>match ts,xs with
 |[t,u],[s,x]=>ag (Bj P t u) fun i=>vC K (cj i.1 i.2 s x h)
 |_,_=>false
def Gc:UW:=fun ts xs P h K=>match ts,xs with
 |t :: _,[d,s]=>ag (BN P t) fun i=>vC K (Oo i.1 d s h)
 |_,_=>false
def JW:UW:=fun ts xs P h K=>match ts,xs with
 |t :: _,[x]=>ag (Re P t) fun i=>ku h K (bX i x h)
 |_,_=>false
def yM:UW:=fun ts xs P h K=>match ts,xs with
 |t :: _,[m,k]=>ag (Hs P t) fun i=>zQ K (F7 i.1 m k h)
 |_,_=>false
def uc(mx:Bool):UW:=fun _ xs _ h K=>match xs with
 |x :: xs=>ku h K (vB mx x xs)
 |_=>false
def JX:UW:=fun _ _ _ _ _=>false
def EX:Builtin->UW
 |.append=>yL
 |.copy=>Gc
 |.len=>JW
 |.delete=>yM
 |.min=>uc false
 |.max=>uc true
 |_=>JX
def su(c:Call):Ex:=fun P ρ h K=>match c.callee with
 |.builtin b=>EX b c.argTypes.toList (c.args.toList.map ρ) P h K
 |_=>false
def gJ:Op->Ex
 |.move x=>fun _ ρ h K=>K (ρ x) h
 |.assign x=>fun _ ρ h K=>K (ρ x) h
 |.pick c a b=>fun _ ρ h K=>ku h K (Ls (ρ c) (ρ a) (ρ b))
 |.alloc t=>Lx t
 |.box _ x=>T4 x
 |.build t ps=>LA t ps.toList
 |.buildSlice t n ps=>qN t n ps.toList
 |.load t a=>fun P ρ h K=>ag (vz P t) fun i=>ku h K (ah i (ρ a) h)
 |.store t a x=>fun P ρ h K=>ag (nY P t) fun n=>zQ K (aZ n (ρ a) (ρ x) h)
 |.nilCheck x=>fun _ ρ h K=>ku h K (bx (ρ x))
 |.binOp op t x y _=>Ow op t x y
 |.unOp op _ x=>fun _ ρ h K=>ku h K (kX op (ρ x))
 |.convert s d x=>fun P ρ h K=>ag (BQ P s d) fun i=>vC K (jj i (ρ x) h)
 |.makeInterface t x=>fun P ρ h K=>ag (BR P t) fun _=>K (.iface t (ρ x)) h
 |.makeFunc fn first cap=>BS fn first.toList cap.toList
 |.makeMap _ r=>EW r
 |.makeSlice t l c=>zR t l c
 |.slice t x lo hi mx=>Gb t x lo hi mx
 |.fieldAddr t x i=>fun P ρ h K=>ag (faI P t i) fun o=>ku h K (bT o (ρ x))
 |.field t x i=>fun P ρ h K=>ag (F9 P t i) fun o=>ku h K (F5 o.1 o.2 (ρ x))
 |.indexAddr t x i=>fun P ρ h K=>ag (iaI P t) fun o=>ku h K (iaV o (ρ x) (ρ i))
 |.index t x i=>fun P ρ h K=>ag (Rc P t) fun o=>ku h K (Ov o (ρ x) (ρ i))
 |.lookup t x i ok=>Ht t x i ok
 |.mapUpdate t m k x=>fun P ρ h K=>ag (Hs P t) fun o=>zQ K (eS o.1 (ρ m) (ρ k) (ρ x) h)
 |.insert t m k x=>fun P ρ h K=>ag (Hs P t) fun o=>zQ K (eS o.1 (ρ m) (ρ k) (ρ x) h)
 |.mapEntry t m k=>fun P ρ h K=>ag (qM P t) fun o=>vC K (lu o.1 o.2 (ρ m) (ρ k) h)
 |.entryStore _ m s x=>fun _ ρ h K=>zQ K (iZ (ρ m) (ρ s) (ρ x) h)
 |.range t x=>fun P ρ h K=>ag (JV P t) fun o=>vC K (mC o (ρ x) h)
 |.entry x=>fun _ ρ h K=>ku h K (sr (ρ x) h)
 |.extract t i=>fun _ ρ h K=>ku h K (bI (ρ t) i)
 |.typeAssert x _ a ok=>fun P ρ h K=>ag (Bi P a ok) fun z=>ku h K (Bh a z (ρ x))
 |.call c=>su c
 |_=>fun _ _ _ _=>false
inductive Kind where
 |pure|read|alloc|JF
 deriving DecidableEq
def fc:Callee->Kind
 |.builtin .len=>.read
 |.builtin .min=>.pure
 |.builtin .max=>.pure
 |_=>.JF
def fe:Op->Kind
 |.move _|.assign _|.pick ..|.build ..|.nilCheck _|.binOp ..|.unOp ..|.makeInterface ..|.makeFunc ..|.slice ..|.fieldAddr ..|.field ..|.indexAddr ..|.index ..|.extract ..|.typeAssert ..=>.pure
 |.load ..|.lookup ..=>.read
 |.alloc _|.box ..|.buildSlice ..|.makeMap ..|.makeSlice ..=>.alloc
 |.call c=>fc c.callee
 |_=>.JF
inductive AX where
 |normal
 |exit (id:Nat)
 |ret
 |panic (v:AV)
inductive Out where
 |ret (v:AV)
 |panic (v:AV)
structure oV where
 f:FuncId
 args:List AV
 cap:List AV
abbrev Env:=Nat->AV
def af(env:Env)(d:Nat)(v:AV):Env:=fun j=>@Bool.rec (fun _=>AV) (env j) v (Nat.beq j d)
structure St where
 env:Env
 n:Nat
 defs:List oV
 h:Heap
def mo(env:Env)(n:Nat)(dst:Option Tmp)(v:AV):Env:=
 match dst with
 |some d=>if d<n then af env d v else env
 |none=>env
def iw(env:Env)(n:Nat)(dst:Option Tmp)(v:AV)(k:Env->Bool):Bool:=
 match dst with
 |some d=>@Bool.rec (fun _=>Bool) false (k (af env d v)) (ble (d+1) n)
 |none=>k env
def St.UX(s:St)(h:Heap)(dst:Option Tmp)(v:AV):St:=⟨mo s.env s.n dst v,s.n,s.defs,h⟩
def evalArg(env:Env):Operand->AV
 |.tmp t=>env t
 |.const v=>ofConst v
 |.global _=>.undef
 |.func f=>.func f [] []
inductive R where
 |ok (v:AV) (defs:List oV) (h:Heap)
 |panic (v:AV) (h:Heap)
inductive RS where
 |ok (s:St)
 |panic (v:AV) (s:St)
abbrev jK:=FuncId->List AV->Heap->(Out->Heap->Bool)->Bool
def iQ(ops:List Oper)(o:Oper)(env:Env):Option Bool:=
 match o.guard with
 |none=>some true
 |some (j,want)=>
  match ops[j]? with
  |some g=>(match g.dst with
   |some d=>(match env d with
    |.bool b=>some (b==want)
    |.tuple _=>some false
    |_=>none)
   |none=>none)
  |none=>none
abbrev UY:=Program->jK->Env->List oV->Heap->(R->Bool)->Bool
def Xg(defs:List oV)(K:R->Bool):Out->Heap->Bool
 |.ret v,h'=>K (.ok v defs h')
 |.panic v,h'=>K (.panic v h')
def oY(op:Op):UY:=fun P _ env defs h K=>gJ op P (evalArg env) h fun v h'=>K (.ok v defs h')
def Bk(f:Operand)(args:List Operand):UY:=fun _ call env defs h K=>match evalArg env f with
 |.func g first cap=>call g (first++(args.map (evalArg env)++cap)) h (Xg defs K)
 |_=>false
def vY(c:Call):UY:=match c.callee with
 |.value f=>Bk f c.args.toList
 |_=>oY (.call c)
def xo(c:Call):UY:=fun _ _ env defs h K=>match c.callee with
 |.value f=>(match evalArg env f with
  |.func g first cap=>K (.ok bJ (⟨g,first++c.args.toList.map (evalArg env),cap⟩ :: defs) h)
  |_=>false)
 |_=>false
def xp(x:Operand):UY:=fun _ _ env _ h K=>match evalArg env x with
 |.iface t v=>K (.panic (.iface t v) h)
 |_=>false
def lP(defs:List oV)(K:R->Bool):List (AV×Heap)->Bool
 |[]=>true
 |p :: ps=>K (.ok p.1 defs p.2)&&lP defs K ps
def Gd(x:Operand)(b:Bool):UY:=fun _ _ env defs h K=>ag (xm b (evalArg env x) h) (lP defs K)
def jc:Op->UY
 |.call c=>vY c
 |.defer c=>xo c
 |.panic x=>xp x
 |.next x b=>Gd x b
 |op=>oY op
def mQ(P:Program)(call:jK)(ops:List Oper):List Oper->St->(RS->Bool)->Bool
 |[],s,K=>K (.ok s)
 |o :: rest,⟨env,n,defs,h⟩,K=>
  match iQ ops o env with
  |some true=>jc o.op P call env defs h fun
   |.ok v defs h=>iw env n o.dst v fun env=>mQ P call ops rest ⟨env,n,defs,h⟩ K
   |.panic v h=>K (.panic v ⟨env,n,defs,h⟩)
  |some false=>iw env n o.dst bJ fun env=>mQ P call ops rest ⟨env,n,defs,h⟩ K
  |none=>false
def m9(acc:List Nat):List Edge->Nat
 |[]=>0
 |e :: es=>if Region.binds .any e then (2 ^ e.on ||| acc.getD e.on 0) ||| m9 acc es else m9 acc es
def nc:List Oper->List Nat->List Nat
 |[],acc=>acc
 |o :: os,acc=>nc os (acc++[m9 acc o.after.toList])
def mV(ops:List Oper):List Nat:=nc ops []
def Bl(ms:List Nat)(i j:Nat):Bool:=(ms.getD i 0).testBit j
def rK(o:Oper):Bool:=match fe o.op with|.JF=>true|_=>false
def ud:List Oper->Nat->List (Nat×Oper)
 |[],_=>[]
 |o :: os,i=>(i,o) :: ud os (i+1)
def Ge:List (Nat×Oper)->List Nat
 |[]=>[]
 |p :: ps=>if rK p.2 then p.1 :: Ge ps else Ge ps
def xq(ms:List Nat)(i:Nat):List Nat->Nat
 |[]=>0
 |j :: js=>if Bl ms i j then xq ms i js+1 else xq ms i js
def Bn(ms:List Nat)(DW:List Nat)(L:List (Nat×Oper)):Nat->Nat->List (Nat×Oper)
 |0,k=>L.filter fun p=>!rK p.2&&xq ms p.1 DW==k
 |n+1,k=>(L.filter fun p=>!rK p.2&&xq ms p.1 DW==k)++((L.filter fun p=>rK p.2&&xq ms p.1 DW==k)++Bn ms DW L n (k+1))
def pO(ops:List Oper)(o:Oper):List Tmp:=
 (o.op.operands.toList.filterMap fun|.tmp t=>some t|_=>none) ++
 (match o.guard with
  |some (g,_)=>(match ops[g]? with|some p=>p.dst.toList|none=>[])
  |none=>[])
def JY(ops:List Oper)(ms:List Nat)(a b:Nat×Oper):Bool:=
 a.1 != b.1&&(!(Bl ms a.1 b.1)&&((!rK a.2||Bl ms b.1 a.1) &&
 ((match a.2.dst with
   |some d=>(match b.2.dst with|some e=>d != e|none=>true)&&(!((pO ops b.2).contains d)||Bl ms b.1 a.1)
   |none=>true) &&
  (match b.2.dst with
   |some d=>!((pO ops a.2).contains d)||Bl ms b.1 a.1
   |none=>true))))
def Bo(ops:List Oper)(ms:List Nat):List (Nat×Oper)->Bool
 |[]=>true
 |p :: ps=>ps.all (JY ops ms p)&&Bo ops ms ps
def Bp(L:List (Nat×Oper)):Nat->Bool
 |0=>true
 |n+1=>L.any (fun p=>p.1==n)&&Bp L n
structure UZ where
 ms:List Nat
 L:List (Nat×Oper)
def Ox(ops:List Oper)(ms:List Nat):List (Nat×Oper):=Bn ms (Ge (ud ops 0)) (ud ops 0) (Ge (ud ops 0)).length 0
def Bq:List Oper->Nat->Bool
 |[],_=>true
 |o :: os,i=>o.after.toList.all (fun e=>!Region.binds .any e||decide (e.on<i))&&Bq os (i+1)
def Hu(ops:List Oper):Option UZ:=
 if Bq ops 0&&Bo ops (mV ops) (Ox ops (mV ops))&&Bp (Ox ops (mV ops)) ops.length then some ⟨mV ops,Ox ops (mV ops)⟩ else none
structure Read where
 i:Nat
 op:Op
 env:Env
 v:AV
def sameAt(P:Program)(op:Op)(env:Env)(v:AV)(h:Heap):Bool:=gJ op P (evalArg env) h fun v' _=>AV.beq v' v
def jt(P:Program)(ms:List Nat)(i:Nat)(h:Heap):List Read->Bool
 |[]=>true
 |r :: rs=>if Bl ms i r.i then jt P ms i h rs else sameAt P r.op r.env r.v h&&jt P ms i h rs
def fE(P:Program)(call:jK)(ops:List Oper)(ms:List Nat):List (Nat×Oper)->List Read->St->(St->Bool)->Bool
 |[],_,s,K=>K s
 |p :: rest,lg,⟨env,n,defs,h⟩,K=>
  match iQ ops p.2 env with
  |some true=>
   match fe p.2.op with
   |.pure=>gJ p.2.op P (evalArg env) h fun v _=>iw env n p.2.dst v fun eD=>fE P call ops ms rest lg ⟨eD,n,defs,h⟩ K
   |.read=>gJ p.2.op P (evalArg env) h fun v _=>iw env n p.2.dst v fun eD=>fE P call ops ms rest (⟨p.1,p.2.op,env,v⟩ :: lg) ⟨eD,n,defs,h⟩ K
   |.alloc=>gJ p.2.op P (evalArg env) h fun v h'=>iw env n p.2.dst v fun eD=>fE P call ops ms rest lg ⟨eD,n,defs,h'⟩ K
   |.JF=>
    jc p.2.op P call env defs h fun
     |.ok v jL h'=>if jt P ms p.1 h' lg then iw env n p.2.dst v fun eD=>fE P call ops ms rest lg ⟨eD,n,jL,h'⟩ K else false
     |.panic _ _=>false
  |some false=>iw env n p.2.dst bJ fun eD=>fE P call ops ms rest lg ⟨eD,n,defs,h⟩ K
  |none=>false
def aD:List AV->Env
 |[],_=>bJ
 |v :: _,0=>v
 |_ :: vs,i+1=>aD vs i
def JZ(env:Env):Nat->Nat->List AV
 |0,_=>[]
 |n+1,i=>env i :: JZ env n (i+1)
def St.tab:St->St
 |⟨env,n,defs,h⟩=>⟨aD (JZ env n 0),n,defs,h⟩
def iter(f:St->(AX->St->Bool)->Bool)(K:AX->St->Bool):Nat->St->Bool
 |0,_=>false
 |n+1,s=>f s fun
  |.normal,s'=>iter f K n s'.tab
  |e,s'=>K e s'
def evalCode(P:Program)(call:jK)(rounds:Nat):Code->St->(AX->St->Bool)->Bool
 |.skip,s,K=>K .normal s
 |.region _ ops draw,s,K=>
  if draw then ag (Hu ops.toList) fun p=>fE P call ops.toList p.ms p.L [] s fun s'=>K .normal s'
  else mQ P call ops.toList ops.toList s fun
   |.ok s'=>K .normal s'
   |.panic v s'=>K (.panic v) s'
 |.seq a b,s,K=>evalCode P call rounds a s fun
  |.normal,s'=>evalCode P call rounds b s' K
  |e,s'=>K e s'
 |.cond c a b,s,K=>
  match evalArg s.env c with
  |.bool true=>evalCode P call rounds a s K
  |.bool false=>evalCode P call rounds b s K
  |_=>false
 |.block id c,s,K=>evalCode P call rounds c s fun
  |.exit MC,s'=>if MC=id then K .normal s' else K (.exit MC) s'
  |e,s'=>K e s'
 |.loop c,s,K=>iter (evalCode P call rounds c) K rounds s
 |.exit id,s,K=>K (.exit id) s
 |.ret,s,K=>K .ret s
 |_,_,_=>false
abbrev xu:=FuncId->Option (List AV->Heap->(Out->Heap->Bool)->Bool)
abbrev pQ:=FuncId->Option (List AV->Option AV->Heap->(Option AV->Heap->Bool)->Bool)
def Br(P:Program)(s:St):ResultVar->Option AV
 |.tmp t=>some (s.env t)
 |.cell a t=>(match vz P t with|some i=>ah i (s.env a) s.h|none=>none)
def dz(P:Program)(s:St):List ResultVar->Option (List AV)
 |[]=>some []
 |r :: rs=>match Br P s r,dz P s rs with
  |some v,some vs=>some (v :: vs)
  |_,_=>none
def oneOf:List AV->AV
 |[v]=>v
 |vs=>.tuple vs
def leave(P:Program)(D:pQ)(rs:List ResultVar)(K:Out->Heap->Bool):List oV->Option AV->St->Bool
 |[],none,s=>ag (dz P s rs) fun vs=>K (.ret (oneOf vs)) s.h
 |[],some v,s=>K (.panic v) s.h
 |d :: ds,Hv,s=>
  match D d.f with
  |some g=>g (d.args++d.cap) Hv s.h fun rU h'=>leave P D rs K ds rU ⟨s.env,s.n,s.defs,h'⟩
  |none=>false
def aT(P:Program)(D:pQ)(rs:List ResultVar)(K:Out->Heap->Bool):AX->St->Bool
 |.normal,s'=>leave P D rs K s'.defs none s'
 |.ret,s'=>leave P D rs K s'.defs none s'
 |.panic v,s'=>leave P D rs K s'.defs (some v) s'
 |.exit _,_=>false
def Oy(P:Program)(D:pQ)(call:jK)(rounds:Nat)(fn:Func)(args:List AV)(h:Heap)(K:Out->Heap->Bool):Bool:=
 match fn.body with
 |none=>false
 |some c=>evalCode P call rounds c ⟨aD args,fn.ntmps,[],h⟩ (aT P D fn.results.toList K)
def bQ(P:Program)(F:xu)(D:pQ):Nat->FuncId->List AV->Heap->(Out->Heap->Bool)->Bool
 |0,_,_,_,_=>false
 |n+1,f,args,h,K=>
  match F f with
  |some g=>g args h K
  |none=>
   match P.funcs[f]? with
   |none=>false
   |some fn=>if decide (args.length<=fn.ntmps)&&fn.name != "runtime.NumGoroutine" then Oy P D (bQ P F D n) n fn args h K else false
mutual
def BT:Code->Nat
 |.skip=>1
 |.region _ _ _=>1
 |.seq a b=>BT a*BT b
 |.cond _ a b=>BT a+BT b
 |.block id c=>BT c+ue id c
 |_=>0
def ue(id:Nat):Code->Nat
 |.seq a b=>ue id a+BT a*ue id b
 |.cond _ a b=>ue id a+ue id b
 |.block _ c=>ue id c
 |.exit i=>@Bool.rec (fun _=>Nat) 0 1 (Nat.beq i id)
 |_=>0
end
def BU:Code->Nat
 |.region _ ops _=>ops.toList.length
 |.seq a b=>BU a+BU b
 |.cond _ a b=>BU a+BU b+1
 |.block _ c=>BU c
 |.loop c=>BU c+10
 |_=>1
def Hw:List Oper->Bool
 |[]=>false
 |o :: os=>match o.guard with|some _=>true|none=>Hw os
def Oz:Code->Bool
 |.cond _ _ _=>true
 |.seq a _=>Oz a
 |_=>false
def U0(a b:Code):Bool:=
 @Bool.rec (fun _=>Bool) false (match a with
  |.region _ ops _=>Hw ops.toList&&!Oz b
  |a=>ble 2 (BT a)) (ble 12 (BU b))
end
end Go.AM