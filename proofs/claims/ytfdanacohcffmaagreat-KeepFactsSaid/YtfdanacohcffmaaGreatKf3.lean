/- The abstract machine: a deterministic evaluator over the model's Code. Conditions: none; definitions alone. -/
import Derived.Test.YtfdanacohcffmaaGreatKf1
import Derived.Calls
import GoSem.Core.Utf8
import Derived.Orders
set_option linter.unusedVariables false
namespace Go.AM
open List Nat Bool Option
open Go
noncomputable section
inductive AV where
 |undef
 |bool (b:Bool)
 |int (k:IntKind) (n:Int)
 |str (s:List UInt8)
 |ez
 |ptr (b off:Nat)
 |dN (cs:List AV) (off:Nat)
 |ax
 |slice (b off len sz:Nat)
 |au (cs:List AV) (off len sz:Nat)
 |jP
 |map (b:Nat)
 |nu
 |func (f:FuncId) (first cap:List AV)
 |pY
 |iface (t:TypeId) (v:AV)
 |agg (cs:List AV)
 |tuple (vs:List AV)
 deriving Inhabited
mutual
def AV.beq:AV->AV->Bool
 |.undef,.undef=>true
 |.bool a,.bool b=>a==b
 |.int k a,.int j b=>decide (k=j)&&decide (a=b)
 |.str a,.str b=>decide (a=b)
 |.ez,.ez=>true
 |.ptr a i,.ptr b j=>a==b&&i==j
 |.dN a i,.dN b j=>AV.xJ a b&&i==j
 |.ax,.ax=>true
 |.slice a i l s,.slice b j m t=>a==b&&i==j&&l==m&&s==t
 |.au a i l s,.au b j m t=>AV.xJ a b&&i==j&&l==m&&s==t
 |.jP,.jP=>true
 |.map a,.map b=>a==b
 |.nu,.nu=>true
 |.func f a b,.func g c d=>f==g&&AV.xJ a c&&AV.xJ b d
 |.pY,.pY=>true
 |.iface t a,.iface u b=>t==u&&AV.beq a b
 |.agg a,.agg b=>AV.xJ a b
 |.tuple a,.tuple b=>AV.xJ a b
 |_,_=>false
def AV.xJ:List AV->List AV->Bool
 |[],[]=>true
 |a :: as,b :: bs=>AV.beq a b&&AV.xJ as bs
 |_,_=>false
end
inductive j5 where
 |dead
 |cells (cs:List AV)
 |map (es:List (AV×AV×Nat)) (clock:Nat)
 |B5 (s:List UInt8) (pos:Nat)
 |fW (m:Option Nat) (since:Nat) (seen:List Nat) (Ma:Nat)
 |box (v:AV)
 deriving Inhabited
inductive Trie (α:Type) where
 |leaf
 |node (v:Option α) (l r:Trie α)
 deriving Inhabited
def Trie.get{α:Type}:Trie α->Nat->Option α
 |.leaf,_=>none
 |.node v l r,n=>match n with
  |0=>v
  |m+1=>if m%2=0 then l.get (m/2) else r.get (m/2)
def Trie.val{α:Type}:Trie α->Option α
 |.leaf=>none
 |.node v _ _=>v
def Trie.left{α:Type}:Trie α->Trie α
 |.leaf=>.leaf
 |.node _ l _=>l
def Trie.right{α:Type}:Trie α->Trie α
 |.leaf=>.leaf
 |.node _ _ r=>r
def Trie.Kn{α:Type}(o:α):Nat->Trie α->Nat->Trie α
 |0,t,_=>.node (some o) t.left t.right
 |f+1,t,n=>match n with
  |0=>.node (some o) t.left t.right
  |m+1=>if m%2=0 then .node t.val (Kn o f t.left (m/2)) t.right else .node t.val t.left (Kn o f t.right (m/2))
def Trie.set{α:Type}(t:Trie α)(n:Nat)(o:α):Trie α:=Trie.Kn o n t n
structure Heap where
 next:Nat
 tab:Trie j5
 deriving Inhabited
def Heap.get(h:Heap)(b:Nat):Option j5:=h.tab.get b
def Heap.set(h:Heap)(b:Nat)(o:j5):Heap:=⟨h.next,h.tab.set b o⟩
def Heap.alloc(h:Heap)(o:j5):Heap:=⟨h.next+1,h.tab.set h.next o⟩
def Heap.empty:Heap:=⟨0,.leaf⟩
def af{α:Type}(o:Option α)(f:α->Bool):Bool:=
 match o with
 |some a=>f a
 |none=>false
def nh:Value->AV
 |.bool b=>.bool b
 |.int k n=>.int k n
 |.string s=>.str s.data.toList
 |.pointer none=>.ez
 |.slice none 0 0=>.ax
 |.map none=>.jP
 |.nilFunc=>.nu
 |.nilIface=>.pY
 |_=>.undef
def ofConst:Value->AV
 |.agg cs=>.agg (cs.toList.map nh)
 |v=>nh v
def AV.dz:AV->List AV
 |.agg cs=>cs
 |v=>[v]
def bI:AV:=.tuple []
def AV.one:AV->Bool
 |.agg _|.tuple _|.undef=>false
 |_=>true
def bw:List AV->Bool
 |[]=>true
 |c :: cs=>c.one&&bw cs
section
variable (P:Program)
def oz(t:TypeId):Option Nat:=match P.info? t with|some i=>some i.size|none=>none
def OX(t:TypeId):Option Nat:=match P.info? t with|some i=>some i.bytes|none=>none
def Aj(t:TypeId):Option AV:=match P.info? t with
 |some i=>(match i.zero with|some z=>some (ofConst z)|none=>none)
 |none=>none
def vT(t:TypeId):Option (Option Nat):=match P.underlying t with
 |some (.struct _)|some (.array _ _)=>(match oz P t with|some n=>some (some n)|none=>none)
 |some _=>some none
 |none=>none
def Mb(t:TypeId):Option TypeId:=match P.underlying t with|some (.slice e)=>some e|_=>none
def GD(t:TypeId)(i:Nat):Option Field:=match P.underlying t with|some (.struct fs)=>fs[i]?|_=>none
def HY(t:TypeId):Option (TypeDesc×TypeId):=match P.underlying t with
 |some (.map k e)=>(match P.underlying k with|some d=>some (d,e)|none=>none)
 |_=>none
end
def mK(P:Program)(t:TypeId):Option (List AV):=
 match Aj P t with
 |some z=>if bw z.dz then some z.dz else none
 |none=>none
def jl(i:Option Nat)(cs:List AV)(off:Nat):Option AV:=
 match i with
 |none=>cs[off]?
 |some n=>if off+n<=cs.length then some (.agg ((cs.drop off).take n)) else none
def ee{α:Type}:List α->Nat->List α->List α
 |cs,_,[]=>cs
 |cs,off,v :: vs=>ee (cs.set off v) (off+1) vs
def eZ(x:AV):Option (List AV):=if bw x.dz then some x.dz else none
def Mc(c a b:AV):Option AV:=
 match c with
 |.bool t=>some (if t then a else b)
 |_=>none
def ag(i:Option Nat)(x:AV)(h:Heap):Option AV:=
 match x with
 |.ptr b off=>(match h.get b with|some (.cells cs)=>jl i cs off|_=>none)
 |.dN cs off=>jl i cs off
 |_=>none
def aS(n:Nat)(x v:AV)(h:Heap):Option Heap:=
 match x with
 |.ptr b off=>(match h.get b with
  |some (.cells cs)=>if v.dz.length=n&&bw v.dz&&decide (off+n<=cs.length) then some (h.set b (.cells (ee cs off v.dz))) else none
  |_=>none)
 |_=>none
def bx:AV->Option AV
 |.ptr b i=>some (.ptr b i)
 |.dN c i=>some (.dN c i)
 |.func f a b=>some (.func f a b)
 |_=>none
def B6(right:Bool)(x y:AV):Option AV:=
 match x,y with
 |.int k a,.int _ b=>if b<0 then none else some (.int k (if right then a.fdiv (2 ^ (min b.toNat k.bits)) else k.wrap (a*2 ^ (min b.toNat k.bits))))
 |_,_=>none
def OY(op:BinOp)(x y:AV):Option AV:=
 match x,y with
 |.int k a,.int k' b=>
  if k=k' then
   match op with
   |.and=>some (.int k (k.wrap (BitVec.ofInt k.bits a &&& BitVec.ofInt k.bits b).toNat))
   |.or=>some (.int k (k.wrap (BitVec.ofInt k.bits a ||| BitVec.ofInt k.bits b).toNat))
   |.xor=>some (.int k (k.wrap (BitVec.ofInt k.bits a ^^^ BitVec.ofInt k.bits b).toNat))
   |_=>none
  else none
 |_,_=>none
def aG(op:BinOp)(x y:AV):Option AV:=
 match op with
 |.shr=>B6 true x y
 |.shl=>B6 false x y
 |.and=>OY .and x y
 |.or=>OY .or x y
 |.xor=>OY .xor x y
 |op=>match x,y with
 |.int k a,.int k' b=>
  if k=k' then
   match op with
   |.add=>some (.int k (k.wrap (a+b)))
   |.sub=>some (.int k (k.wrap (a-b)))
   |.mul=>some (.int k (k.wrap (a*b)))
   |.quo=>if b=0 then none else some (.int k (k.wrap (a.tdiv b)))
   |.rem=>if b=0 then none else some (.int k (a.tmod b))
   |.lss=>some (.bool (decide (a<b)))
   |.leq=>some (.bool (decide (a<=b)))
   |.gtr=>some (.bool (decide (a>b)))
   |.geq=>some (.bool (decide (a>=b)))
   |_=>none
  else none
 |.str a,.str b=>
  match op with
  |.add=>if a.length+b.length<=4611686018427387904 then some (.str (a++b)) else none
  |.lss=>some (.bool (Op.bytesLess a b))
  |.leq=>some (.bool (Op.bytesLess a b||a==b))
  |.gtr=>some (.bool (!(Op.bytesLess a b||a==b)))
  |.geq=>some (.bool (!(Op.bytesLess a b)))
  |_=>none
 |_,_=>none
def Rz(d:TypeDesc)(x y:AV):Option Bool:=
 match x,y with
 |.int k a,.int k' b=>if k=k' then some (a==b) else none
 |.str a,.str b=>some (a==b)
 |.bool a,.bool b=>(match d with|.bool=>some (a==b)|_=>none)
 |.ez,.ez=>(match d with|.pointer _=>some true|_=>none)
 |.ptr _ _,.ez|.ez,.ptr _ _|.dN _ _,.ez|.ez,.dN _ _=>(match d with|.pointer _=>some false|_=>none)
 |.ax,.ax=>(match d with|.slice _=>some true|_=>none)
 |.slice _ _ _ _,.ax|.ax,.slice _ _ _ _|.au _ _ _ _,.ax|.ax,.au _ _ _ _=>(match d with|.slice _=>some false|_=>none)
 |.jP,.jP=>(match d with|.map _ _=>some true|_=>none)
 |.map _,.jP|.jP,.map _=>(match d with|.map _ _=>some false|_=>none)
 |.nu,.nu=>(match d with|.func _ _ _=>some true|_=>none)
 |.func _ _ _,.nu|.nu,.func _ _ _=>(match d with|.func _ _ _=>some false|_=>none)
 |_,_=>none
def jK(d:TypeDesc)(x y:AV):Option AV:=match Rz d x y with|some b=>some (.bool b)|none=>none
def oA(d:TypeDesc)(x y:AV):Option AV:=match Rz d x y with|some b=>some (.bool (!b))|none=>none
def kF(op:UnOp)(x:AV):Option AV:=
 match op,x with
 |.neg,.int k n=>some (.int k (k.wrap (0-n)))
 |.not,.bool b=>some (.bool (!b))
 |_,_=>none
def asNat(x:AV):Option Nat:=
 match x with
 |.int _ n=>if 0<=n then some n.toNat else none
 |_=>none
def vU(d:TypeDesc)(x y:AV):Option Bool:=
 match d,x,y with
 |.int _,.int k a,.int k' b=>if k=k' then some (a==b) else none
 |.string,.str a,.str b=>some (a==b)
 |.bool,.bool a,.bool b=>some (a==b)
 |_,_,_=>none
abbrev Entry:=AV×AV×Nat
def jF(d:TypeDesc)(k:AV):List Entry->Nat->Option (Option (Nat×AV))
 |[],_=>some none
 |e :: es,i=>
  match vU d k e.1 with
  |some true=>some (some (i,e.2.1))
  |some false=>jF d k es (i+1)
  |none=>none
def qt(d:TypeDesc)(k:AV):Bool:=
 match d,k with
 |.int _,.int _ _=>true
 |.string,.str _=>true
 |.bool,.bool _=>true
 |_,_=>false
def qu(d:TypeDesc)(k:AV)(es:List Entry):Option (Option (Nat×AV)):=if qt d k then jF d k es 0 else none
def iz(sz n:Nat)(x:AV)(h:Heap):Option (List AV):=
 match x with
 |.ax=>if n=0 then some [] else none
 |.slice b off _ s=>
  if s=sz then (match h.get b with
   |some (.cells cs)=>if off+n*sz<=cs.length then some ((cs.drop off).take (n*sz)) else none
   |_=>none) else none
 |.au cs off _ s=>if s=sz&&decide (off+n*sz<=cs.length) then some ((cs.drop off).take (n*sz)) else none
 |.str s=>if sz=1 then some ((s.take n).map fun b=>.int .u8 b.toNat) else none
 |_=>none
def lP:AV->Option Nat
 |.ax=>some 0
 |.slice _ _ n _=>some n
 |.au _ _ n _=>some n
 |.str s=>some s.length
 |_=>none
def cI:Nat:=140737488355328
def b7(sz bytes:Nat)(s x:AV)(h:Heap):Option (AV×Heap):=
 match lP x with
 |none=>none
 |some n=>match iz sz n x h with
  |none=>none
  |some new=>
   match s with
   |.ax=>
    if n=0 then some (.ax,h) else
    if n*bytes<=cI&&bw new then some (.slice h.next 0 n sz,h.alloc (.cells new)) else none
   |.slice b off len s'=>
    if s'=sz then
     if n=0 then some (.slice b off len s',h) else
     match h.get b with
     |some (.cells cs)=>
      if (len+n)*bytes<=cI&&bw new&&decide (off+len*sz<=cs.length) then
       some (.slice h.next 0 (len+n) sz,(h.set b .dead).alloc (.cells ((cs.drop off).take (len*sz)++new)))
      else none
     |_=>none
    else none
   |_=>none
def OZ(sz:Nat)(dst src:AV)(h:Heap):Option (AV×Heap):=
 match lP src with
 |none=>none
 |some m=>match dst with
  |.ax=>some (.int .i64 0,h)
  |.slice b off len s'=>
   if s'=sz then
    match iz sz (Nat.min m len) src h with
    |some new=>match h.get b with
     |some (.cells cs)=>
      if bw new&&decide (off+Nat.min m len*sz<=cs.length)&&decide (new.length=Nat.min m len*sz) then
       some (.int .i64 (Nat.min m len),h.set b (.cells (ee cs off new)))
      else none
     |_=>none
    |none=>none
   else none
  |_=>none
def pZ(x:Option AV)(adx:Nat):Option Nat:=
 match x with
 |none=>some adx
 |some v=>asNat v
def iW(i:Option Nat)(x:AV)(lo hi:Option AV):Option AV:=
 match lP x with
 |none=>none
 |some len=>match pZ hi len,pZ lo 0 with
  |some hi,some lo=>
   if lo<=hi&&decide (hi<=len) then
    match i,x with
    |none,.str s=>some (.str ((s.take hi).drop lo))
    |some _,.ax=>some .ax
    |some n,.slice b off _ sz=>if n=sz then some (.slice b (off+lo*sz) (hi-lo) sz) else none
    |some n,.au cs off _ sz=>if n=sz then some (.au cs (off+lo*sz) (hi-lo) sz) else none
    |_,_=>none
   else none
  |_,_=>none
def bT(off:Nat)(x:AV):Option AV:=
 match x with
 |.ptr b o=>some (.ptr b (o+off))
 |.dN cs o=>some (.dN cs (o+off))
 |_=>none
def GF(i:Option Nat)(off:Nat)(x:AV):Option AV:=
 match x with
 |.agg cs=>jl i cs off
 |_=>none
def dH(n:Nat)(x i:AV):Option AV:=
 match asNat i with
 |none=>none
 |some i=>match x with
  |.slice b off len sz=>if i<len&&n==sz then some (.ptr b (off+i*sz)) else none
  |.au cs off len sz=>if i<len&&n==sz then some (.dN cs (off+i*sz)) else none
  |_=>none
def O0(len n:Nat)(x i:AV):Option AV:=
 match asNat i with
 |none=>none
 |some i=>match x with
  |.ptr b off=>if i<len then some (.ptr b (off+i*n)) else none
  |.dN cs off=>if i<len then some (.dN cs (off+i*n)) else none
  |_=>none
inductive IaK where
 |sl (n:Nat)|arr (len n:Nat)
def iaV(k:IaK)(x i:AV):Option AV:=match k with|.sl n=>dH n x i|.arr len n=>O0 len n x i
def kZ(x i:AV):Option AV:=
 match x,asNat i with
 |.str s,some i=>(match s[i]? with|some b=>some (.int .u8 b.toNat)|none=>none)
 |_,_=>none
def Md(len n:Nat)(r:Option Nat)(x i:AV):Option AV:=
 match x,asNat i with
 |.agg cs,some i=>if i<len then jl r cs (i*n) else none
 |_,_=>none
def lZ(m:AV)(h:Heap):Option (List Entry):=
 match m with
 |.jP=>some []
 |.map b=>(match h.get b with|some (.map es _)=>some es|_=>none)
 |_=>none
def dR(d:TypeDesc)(z:AV)(ok:Bool)(m k:AV)(h:Heap):Option AV:=
 match lZ m h with
 |none=>none
 |some es=>match qu d k es with
  |some (some (_,v))=>some (if ok then .tuple [v,.bool true] else v)
  |some none=>some (if ok then .tuple [z,.bool false] else z)
  |none=>none
def fh(es:List Entry)(i:Nat)(v:AV):List Entry:=
 match es[i]? with
 |some e=>es.set i (e.1,v,e.2.2)
 |none=>es
def eU(d:TypeDesc)(m k v:AV)(h:Heap):Option Heap:=
 match m with
 |.map b=>(match h.get b with
  |some (.map es ck)=>(match qu d k es with
   |some (some (i,_))=>some (h.set b (.map (fh es i v) ck))
   |some none=>some (h.set b (.map (es++[(k,v,ck)]) (ck+1)))
   |none=>none)
  |_=>none)
 |_=>none
def GG(es:List Entry)(i:Nat):Nat:=match es[i]? with|some e=>e.2.2|none=>0
def lF(d:TypeDesc)(z:AV)(m k:AV)(h:Heap):Option (AV×Heap):=
 match m with
 |.map b=>(match h.get b with
  |some (.map es ck)=>(match qu d k es with
   |some (some (i,v))=>some (.tuple [v,.int .i64 (GG es i)],h)
   |some none=>some (.tuple [z,.int .i64 ck],h.set b (.map (es++[(k,z,ck)]) (ck+1)))
   |none=>none)
  |_=>none)
 |_=>none
def oB(n:Int):List Entry->Nat->Option Nat
 |[],_=>none
 |e :: es,i=>if (e.2.2:Int)=n then some i else oB n es (i+1)
def jd(m s v:AV)(h:Heap):Option Heap:=
 match m,s with
 |.map b,.int _ n=>(match h.get b with
  |some (.map es ck)=>(match oB n es 0 with
   |some i=>some (h.set b (.map (fh es i v) ck))
   |none=>none)
  |_=>none)
 |_,_=>none
def GH(d:TypeDesc)(m k:AV)(h:Heap):Option Heap:=
 match m with
 |.jP=>if qt d k then some h else none
 |.map b=>(match h.get b with
  |some (.map es ck)=>(match qu d k es with
   |some (some (i,_))=>some (h.set b (.map (es.eraseIdx i) ck))
   |some none=>some (h.set b (.map es ck))
   |none=>none)
  |_=>none)
 |_=>none
inductive VF where
 |str|slice|map|array (n:Nat)
def bW(i:VF)(x:AV)(h:Heap):Option AV:=
 match i,x with
 |.str,.str s=>some (.int .i64 s.length)
 |.slice,.ax=>some (.int .i64 0)
 |.slice,.slice _ _ n _=>some (.int .i64 n)
 |.slice,.au _ _ n _=>some (.int .i64 n)
 |.map,.jP=>some (.int .i64 0)
 |.map,.map b=>(match h.get b with|some (.map es _)=>some (.int .i64 es.length)|_=>none)
 |.array n,_=>some (.int .i64 n)
 |_,_=>none
def Ko(mx:Bool)(x y:AV):Option AV:=
 match x,y with
 |.int k a,.int k' b=>if k=k' then some (.int k (if mx then (if b>a then b else a) else (if b<a then b else a))) else none
 |_,_=>none
def vV(mx:Bool):AV->List AV->Option AV
 |x,[]=>some x
 |x,y :: ys=>match Ko mx x y with
  |some v=>vV mx v ys
  |none=>none
inductive O1 where
 |int (k:IntKind)|str|bytes|string
def bytesOf:List AV->Option (List UInt8)
 |[]=>some []
 |.int .u8 n :: cs=>(match bytesOf cs with|some bs=>some (UInt8.ofNat n.toNat :: bs)|none=>none)
 |_=>none
def jm(i:O1)(x:AV)(h:Heap):Option (AV×Heap):=
 match i,x with
 |.int k,.int _ n=>some (.int k (k.wrap n),h)
 |.str,.str s=>some (.str s,h)
 |.bytes,.str s=>if ux=true/\s.length<=cI then some (.slice h.next 0 s.length 1,h.alloc (.cells (s.map fun b=>.int .u8 b.toNat))) else none
 |.string,.ax=>some (.str [],h)
 |.string,.slice b off n sz=>(match iz 1 n (.slice b off n sz) h with
  |some cs=>(match bytesOf cs with|some bs=>some (.str bs,h)|none=>none)
  |none=>none)
 |.string,.au b off n sz=>(match iz 1 n (.au b off n sz) h with
  |some cs=>(match bytesOf cs with|some bs=>some (.str bs,h)|none=>none)
  |none=>none)
 |_,_=>none
def oC(cells:List AV):List (Nat×Nat)->List AV->Option (List AV)
 |[],[]=>some cells
 |(off,n) :: ps,v :: vs=>
  if v.dz.length=n&&decide (off+n<=cells.length)&&bw v.dz then oC (ee cells off v.dz) ps vs else none
 |_,_=>none
def jf(zero:List AV):Nat->List AV
 |0=>[]
 |n+1=>zero++jf zero n
def gd(zs:List AV)(ps:List (Nat×Nat))(vs:List AV):Option (List AV):=
 match oC zs ps vs with
 |some cs=>if bw cs then some cs else none
 |none=>none
def iw(zs:List AV)(ps:List (Nat×Nat))(vs:List AV):Option AV:=
 match oC zs ps vs with
 |some cs=>some (.agg cs)
 |none=>none
def za(bytes:Nat)(len cap:AV):Option Nat:=
 match len,cap with
 |.int .i64 l,.int .i64 c=>if 0<=l&&decide (l<=c)&&decide (bytes*c<=140737488355328) then some l.toNat else none
 |_,_=>none
def gI(sz bytes:Nat)(z:List AV)(len cap:AV)(h:Heap):Option (AV×Heap):=
 match za bytes len cap with
 |some n=>some (.slice h.next 0 n sz,h.alloc (.cells (jf z n)))
 |none=>none
inductive Kp where
 |str|map
def mM(i:Kp)(x:AV)(h:Heap):Option (AV×Heap):=
 match i,x with
 |.str,.str s=>some (.ptr h.next 0,h.alloc (.B5 s 0))
 |.map,.jP=>some (.ptr h.next 0,h.alloc (.fW none 0 [] 0))
 |.map,.map m=>(match h.get m with
  |some (.map _ ck)=>some (.ptr h.next 0,h.alloc (.fW (some m) ck [] ck))
  |_=>none)
 |_,_=>none
def lG(n:Nat):List Entry->Option Entry
 |[]=>none
 |e :: es=>if e.2.2=n then some e else lG n es
def sO(es:List Entry)(since:Nat)(seen:List Nat):List (Option Entry):=
 let left:=es.filter fun e=>!seen.contains e.2.2
 let old:=left.filter fun e=>decide (e.2.2<since)
 let new:=left.filter fun e=>decide (e.2.2>=since)
 (if old.isEmpty then [none] else [])++(old++new).map some
def Kq(r m since:Nat)(seen:List Nat)(ck:Nat)(h:Heap):Option Entry->AV×Heap
 |some e=>(.tuple [.bool true,e.1,e.2.1],h.set r (.fW (some m) since (seen++[e.2.2]) ck))
 |none=>(.tuple [.bool false],h)
def xK(isString:Bool)(x:AV)(h:Heap):Option (List (AV×Heap)):=
 match x with
 |.ptr r 0=>(match h.get r,isString with
  |some (.B5 s pos),true=>
   if pos<s.length then
    some [(.tuple [.bool true,.int .i64 pos,.int .i32 (Utf8.decode ⟨s.toArray⟩ pos).1],h.set r (.B5 s (pos+(Utf8.decode ⟨s.toArray⟩ pos).2)))]
   else some [(.tuple [.bool false],h)]
  |some (.fW none _ _ _),false=>some [(.tuple [.bool false],h)]
  |some (.fW (some m) since seen last),false=>(match h.get m with
   |some (.map es ck)=>
    if !seen.isEmpty&&!es.isEmpty&&es.all (fun e=>decide (e.2.2>=last)) then none else
    match sO es since seen with
    |[]=>none
    |c :: cs=>some ((c :: cs).map (Kq r m since seen ck h))
   |_=>none)
  |_,_=>none)
 |_=>none
def sQ(x:AV)(h:Heap):Option AV:=
 match x with
 |.ptr r 0=>(match h.get r with
  |some (.fW (some m) _ seen Ma)=>(match seen.getLast?,h.get m with
   |some Me,some (.map es ck)=>
    if ck=Ma then (match lG Me es with|some e=>some (.tuple [e.1,e.2.1])|none=>none) else none
   |_,_=>none)
  |_=>none)
 |_=>none
def BG(a:TypeId)(z x:AV):Option AV:=
 match x with
 |.pY=>some (.tuple [z,.bool false])
 |.iface t v=>some (if t=a then .tuple [v,.bool true] else .tuple [z,.bool false])
 |_=>none
def br(x:AV)(i:Nat):Option AV:=match x with|.tuple vs=>vs[i]?|_=>none
def O2(P:Program)(e:Option TypeId):Option (Nat×Nat):=
 match e with
 |none=>none
 |some e=>match oz P e,OX P e with
  |some s,some b=>if 0<s&&decide (0<b) then some (s,b) else none
  |_,_=>none
def B7(P:Program)(t:TypeId):Option (Nat×Nat):=O2 P (Mb P t)
def iaI(P:Program)(t:TypeId):Option IaK:=
 match P.underlying t with
 |some (.array len e)=>(match oz P e with|some s=>some (.arr len s)|none=>none)
 |_=>(match B7 P t with|some o=>some (.sl o.1)|none=>none)
def B8(P:Program)(t:TypeId):Option (Nat×Nat×List AV):=
 match B7 P t,Mb P t with
 |some (s,b),some e=>(match mK P e with
  |some z=>if z.length=s then some (s,b,z) else none
  |none=>none)
 |_,_=>none
def Mf(B9:List (Nat×Nat)):List Nat->Option (List (Nat×Nat))
 |[]=>some []
 |i :: is=>match B9[i]?,Mf B9 is with
  |some p,some ps=>some (p :: ps)
  |_,_=>none
def RR(P:Program)(fs:List Field):Option (List (Nat×Nat)):=fs.mapM fun f=>(P.info? f.type).map fun i=>(f.offset,i.size)
def GI(P:Program)(t:TypeId)(is:List Nat):Option (List AV×List (Nat×Nat)):=
 match P.underlying t with
 |some (.struct fs)=>(match Aj P t,RR P fs.toList with
  |some z,some pl=>(match Mf pl is with|some ps=>if bw z.dz then some (z.dz,ps) else none|none=>none)
  |_,_=>none)
 |some (.array _ e)=>(match Aj P t,P.info? e with
  |some z,some ie=>if bw z.dz then some (z.dz,is.map fun i=>(i*ie.size,ie.size)) else none
  |_,_=>none)
 |_=>none
def RT(P:Program)(t:TypeId)(len:Nat)(is:List Nat):Option (Nat×List AV×List (Nat×Nat)):=
 match B8 P t with
 |some (s,_,z)=>if len*s<=65536 then some (s,jf z len,is.map fun i=>(i*s,s)) else none
 |none=>none
def faI(P:Program)(t:TypeId)(i:Nat):Option Nat:=
 match GD P t i with
 |some f=>(match oz P f.type with|some s=>if s=0 then none else some f.offset|none=>none)
 |none=>none
def GJ(P:Program)(t:TypeId)(i:Nat):Option (Option Nat×Nat):=
 match GD P t i with
 |some f=>(match vT P f.type with|some r=>some (r,f.offset)|none=>none)
 |none=>none
def GK(P:Program)(t:TypeId):Option (Option Nat):=
 match P.underlying t with
 |some .string=>some none
 |some (.slice e)=>(match oz P e with|some s=>some (some s)|none=>none)
 |_=>none
inductive VG where
 |str|arr (len n:Nat) (r:Option Nat)
def RU(P:Program)(t:TypeId):Option VG:=
 match P.underlying t with
 |some .string=>some .str
 |some (.array len e)=>(match oz P e,vT P e with|some n,some r=>some (.arr len n r)|_,_=>none)
 |_=>none
def O3(i:VG)(x y:AV):Option AV:=
 match i with
 |.str=>kZ x y
 |.arr len n r=>Md len n r x y
def ri(P:Program)(t:TypeId):Option (TypeDesc×AV):=
 match HY P t with
 |some (d,e)=>(match Aj P e with|some z=>some (d,z)|none=>none)
 |none=>none
def RV(P:Program)(t:TypeId):Option VF:=
 match P.underlying t with
 |some .string=>some .str
 |some (.slice _)=>some .slice
 |some (.map _ _)=>some .map
 |some (.array n _)=>some (.array n)
 |_=>none
def Ca(P:Program)(src dst:TypeId):Option O1:=
 match P.underlying src,P.underlying dst with
 |some (.int _),some (.int k)=>some (.int k)
 |some .string,some .string=>some .str
 |some .string,some (.slice e)=>(match P.underlying e,oz P e with|some (.int .u8),some 1=>some .bytes|_,_=>none)
 |some (.slice e),some .string=>(match P.underlying e with|some (.int .u8)=>some .string|_=>none)
 |_,_=>none
def Kr(P:Program)(t:TypeId):Option Kp:=
 match P.underlying t with
 |some .string=>some .str
 |some (.map _ _)=>some .map
 |_=>none
def Cb(P:Program)(t:TypeId):Option Unit:=
 match P.underlying t with
 |some (.interface _)=>none
 |some _=>some ()
 |none=>none
def BH(P:Program)(a:TypeId)(ok:Bool):Option AV:=
 match ok,P.underlying a with
 |true,some (.interface _)=>none
 |true,some _=>Aj P a
 |_,_=>none
def BI(P:Program)(t u:TypeId):Option (Nat×Nat):=
 match P.underlying u,B8 P t with
 |some (.slice _),some (s,b,_)=>some (s,b)
 |some .string,some (s,b,_)=>some (s,b)
 |_,_=>none
abbrev Ex:=Program->(Operand->AV)->Heap->(AV->Heap->Bool)->Bool
def kG(h:Heap)(K:AV->Heap->Bool)(o:Option AV):Bool:=af o fun v=>K v h
def Ak(K:AV->Heap->Bool)(o:Option Heap):Bool:=af o fun h=>K bI h
def vW(K:AV->Heap->Bool)(o:Option (AV×Heap)):Bool:=af o fun p=>K p.1 p.2
def Mg(t:TypeId):Ex:=fun P _ h K=>af (mK P t) fun z=>K (.ptr h.next 0) (h.alloc (.cells z))
def UP(x:Operand):Ex:=fun _ ρ h K=>af (eZ (ρ x)) fun cs=>K (.ptr h.next 0) (h.alloc (.cells cs))
def Mh(t:TypeId)(ps:List (Nat×Operand)):Ex:=fun P ρ h K=>af (GI P t (ps.map (·.1))) fun i=>kG h K (iw i.1 i.2 (ps.map fun p=>ρ p.2))
def rj(t:TypeId)(n:Nat)(ps:List (Nat×Operand)):Ex:=fun P ρ h K=>
 af (RT P t n (ps.map (·.1))) fun i=>af (gd i.2.1 i.2.2 (ps.map fun p=>ρ p.2)) fun cs=>K (.slice h.next 0 n i.1) (h.alloc (.cells cs))
def O4(op:BinOp)(t:TypeId)(x y:Operand):Ex:=fun P ρ h K=>
 match op with
 |.eql=>af (P.underlying t) fun d=>kG h K (jK d (ρ x) (ρ y))
 |.neq=>af (P.underlying t) fun d=>kG h K (oA d (ρ x) (ρ y))
 |op=>kG h K (aG op (ρ x) (ρ y))
def Cc(fn:Fn)(first cap:List Operand):Ex:=fun _ ρ h K=>match fn with
 |.func f=>K (.func f (first.map ρ) (cap.map ρ)) h
 |_=>false
def Fx(r:Option Operand):Ex:=fun _ _ h K=>match r with
 |none=>K (.map h.next) (h.alloc (.map [] 0))
 |some _=>false
def Al(t:TypeId)(l c:Operand):Ex:=fun P ρ h K=>af (B8 P t) fun i=>vW K (gI i.1 i.2.1 i.2.2 (ρ l) (ρ c) h)
def GL(t:TypeId)(x:Operand)(lo hi mx:Option Operand):Ex:=fun P ρ h K=>match mx with
 |none=>af (GK P t) fun i=>kG h K (iW i (ρ x) (lo.map ρ) (hi.map ρ))
 |some _=>false
def HZ(t:TypeId)(x i:Operand)(ok:Bool):Ex:=fun P ρ h K=>af (ri P t) fun d=>kG h K (dR d.1 d.2 ok (ρ x) (ρ i) h)
abbrev VH:=List TypeId->List AV->Program->Heap->(AV->Heap->Bool)->Bool
def zb:VH:=fun ts xs P h K=>match ts,xs with
 |[t,u],[s,x]=>af (BI P t u) fun i=>vW K (b7 i.1 i.2 s x h)
 |_,_=>false
def GM:VH:=fun ts xs P h K=>match ts,xs with
 |t :: _,[d,s]=>af (B7 P t) fun i=>vW K (OZ i.1 d s h)
 |_,_=>false
def Ks:VH:=fun ts xs P h K=>match ts,xs with
 |t :: _,[x]=>af (RV P t) fun i=>kG h K (bW i x h)
 |_,_=>false
def zc:VH:=fun ts xs P h K=>match ts,xs with
 |t :: _,[m,k]=>af (HY P t) fun i=>Ak K (GH i.1 m k h)
 |_,_=>false
def uy(mx:Bool):VH:=fun _ xs _ h K=>match xs with
 |x :: xs=>kG h K (vV mx x xs)
 |_=>false
def Kt:VH:=fun _ _ _ _ _=>false
def Fy:Builtin->VH
 |.append=>zb
 |.copy=>GM
 |.len=>Ks
 |.delete=>zc
 |.min=>uy false
 |.max=>uy true
 |_=>Kt
def sR(c:Call):Ex:=fun P ρ h K=>match c.callee with
 |.builtin b=>Fy b c.argTypes.toList (c.args.toList.map ρ) P h K
 |_=>false
def gN:Op->Ex
 |.move x=>fun _ ρ h K=>K (ρ x) h
 |.assign x=>fun _ ρ h K=>K (ρ x) h
 |.pick c a b=>fun _ ρ h K=>kG h K (Mc (ρ c) (ρ a) (ρ b))
 |.alloc t=>Mg t
 |.box _ x=>UP x
 |.build t ps=>Mh t ps.toList
 |.buildSlice t n ps=>rj t n ps.toList
 |.load t a=>fun P ρ h K=>af (vT P t) fun i=>kG h K (ag i (ρ a) h)
 |.store t a x=>fun P ρ h K=>af (oz P t) fun n=>Ak K (aS n (ρ a) (ρ x) h)
 |.nilCheck x=>fun _ ρ h K=>kG h K (bx (ρ x))
 |.binOp op t x y _=>O4 op t x y
 |.unOp op _ x=>fun _ ρ h K=>kG h K (kF op (ρ x))
 |.convert s d x=>fun P ρ h K=>af (Ca P s d) fun i=>vW K (jm i (ρ x) h)
 |.makeInterface t x=>fun P ρ h K=>af (Cb P t) fun _=>K (.iface t (ρ x)) h
 |.makeFunc fn first cap=>Cc fn first.toList cap.toList
 |.makeMap _ r=>Fx r
 |.makeSlice t l c=>Al t l c
 |.slice t x lo hi mx=>GL t x lo hi mx
 |.fieldAddr t x i=>fun P ρ h K=>af (faI P t i) fun o=>kG h K (bT o (ρ x))
 |.field t x i=>fun P ρ h K=>af (GJ P t i) fun o=>kG h K (GF o.1 o.2 (ρ x))
 |.indexAddr t x i=>fun P ρ h K=>af (iaI P t) fun o=>kG h K (iaV o (ρ x) (ρ i))
 |.index t x i=>fun P ρ h K=>af (RU P t) fun o=>kG h K (O3 o (ρ x) (ρ i))
 |.lookup t x i ok=>HZ t x i ok
 |.mapUpdate t m k x=>fun P ρ h K=>af (HY P t) fun o=>Ak K (eU o.1 (ρ m) (ρ k) (ρ x) h)
 |.insert t m k x=>fun P ρ h K=>af (HY P t) fun o=>Ak K (eU o.1 (ρ m) (ρ k) (ρ x) h)
 |.mapEntry t m k=>fun P ρ h K=>af (ri P t) fun o=>vW K (lF o.1 o.2 (ρ m) (ρ k) h)
 |.entryStore _ m s x=>fun _ ρ h K=>Ak K (jd (ρ m) (ρ s) (ρ x) h)
 |.range t x=>fun P ρ h K=>af (Kr P t) fun o=>vW K (mM o (ρ x) h)
 |.entry x=>fun _ ρ h K=>kG h K (sQ (ρ x) h)
 |.extract t i=>fun _ ρ h K=>kG h K (br (ρ t) i)
 |.typeAssert x _ a ok=>fun P ρ h K=>af (BH P a ok) fun z=>kG h K (BG a z (ρ x))
 |.call c=>sR c
 |_=>fun _ _ _ _=>false
inductive Kind where
 |pure|read|alloc|J9
 deriving DecidableEq
def fm:Callee->Kind
 |.builtin .len=>.read
 |.builtin .min=>.pure
 |.builtin .max=>.pure
 |_=>.J9
def fo:Op->Kind
 |.move _|.assign _|.pick ..|.build ..|.nilCheck _|.binOp ..|.unOp ..|.makeInterface ..|.makeFunc ..|.slice ..|.fieldAddr ..|.field ..|.indexAddr ..|.index ..|.extract ..|.typeAssert ..=>.pure
 |.load ..|.lookup ..=>.read
 |.alloc _|.box ..|.buildSlice ..|.makeMap ..|.makeSlice ..=>.alloc
 |.call c=>fm c.callee
 |_=>.J9
inductive AX where
 |normal
 |exit (id:Nat)
 |ret
 |panic (v:AV)
inductive Out where
 |ret (v:AV)
 |panic (v:AV)
structure pJ where
 f:FuncId
 args:List AV
 cap:List AV
abbrev Env:=Nat->AV
def aa(env:Env)(d:Nat)(v:AV):Env:=fun j=>@Bool.rec (fun _=>AV) (env j) v (Nat.beq j d)
structure St where
 env:Env
 n:Nat
 defs:List pJ
 h:Heap
def mD(env:Env)(n:Nat)(dst:Option Tmp)(v:AV):Env:=
 match dst with
 |some d=>if d<n then aa env d v else env
 |none=>env
def iA(env:Env)(n:Nat)(dst:Option Tmp)(v:AV)(k:Env->Bool):Bool:=
 match dst with
 |some d=>@Bool.rec (fun _=>Bool) false (k (aa env d v)) (ble (d+1) n)
 |none=>k env
def St.VI(s:St)(h:Heap)(dst:Option Tmp)(v:AV):St:=⟨mD s.env s.n dst v,s.n,s.defs,h⟩
def evalArg(env:Env):Operand->AV
 |.tmp t=>env t
 |.const v=>ofConst v
 |.global _=>.undef
 |.func f=>.func f [] []
inductive R where
 |ok (v:AV) (defs:List pJ) (h:Heap)
 |panic (v:AV) (h:Heap)
inductive RS where
 |ok (s:St)
 |panic (v:AV) (s:St)
abbrev jQ:=FuncId->List AV->Heap->(Out->Heap->Bool)->Bool
def iU(ops:List Oper)(o:Oper)(env:Env):Option Bool:=
 match o.guard with
 |none=>some true
 |some (j,want)=>
  match ops[j]? with
  |some g=>(match g.dst with
   |some d=>(match env d with
    |.bool b=>some (b==want)
    |.tuple _=>some false
    |_=>none)
   |none=>none)
  |none=>none
abbrev VJ:=Program->jQ->Env->List pJ->Heap->(R->Bool)->Bool
def Yg(defs:List pJ)(K:R->Bool):Out->Heap->Bool
 |.ret v,h'=>K (.ok v defs h')
 |.panic v,h'=>K (.panic v h')
def pL(op:Op):VJ:=fun P _ env defs h K=>gN op P (evalArg env) h fun v h'=>K (.ok v defs h')
def BJ(f:Operand)(args:List Operand):VJ:=fun _ call env defs h K=>match evalArg env f with
 |.func g first cap=>call g (first++(args.map (evalArg env)++cap)) h (Yg defs K)
 |_=>false
def wE(c:Call):VJ:=match c.callee with
 |.value f=>BJ f c.args.toList
 |_=>pL (.call c)
def xL(c:Call):VJ:=fun _ _ env defs h K=>match c.callee with
 |.value f=>(match evalArg env f with
  |.func g first cap=>K (.ok bI (⟨g,first++c.args.toList.map (evalArg env),cap⟩ :: defs) h)
  |_=>false)
 |_=>false
def xM(x:Operand):VJ:=fun _ _ env _ h K=>match evalArg env x with
 |.iface t v=>K (.panic (.iface t v) h)
 |_=>false
def l9(defs:List pJ)(K:R->Bool):List (AV×Heap)->Bool
 |[]=>true
 |p :: ps=>K (.ok p.1 defs p.2)&&l9 defs K ps
def GN(x:Operand)(b:Bool):VJ:=fun _ _ env defs h K=>af (xK b (evalArg env x) h) (l9 defs K)
def jg:Op->VJ
 |.call c=>wE c
 |.defer c=>xL c
 |.panic x=>xM x
 |.next x b=>GN x b
 |op=>pL op
def m4(P:Program)(call:jQ)(ops:List Oper):List Oper->St->(RS->Bool)->Bool
 |[],s,K=>K (.ok s)
 |o :: rest,⟨env,n,defs,h⟩,K=>
  match iU ops o env with
  |some true=>jg o.op P call env defs h fun
   |.ok v defs h=>iA env n o.dst v fun env=>m4 P call ops rest ⟨env,n,defs,h⟩ K
   |.panic v h=>K (.panic v ⟨env,n,defs,h⟩)
  |some false=>iA env n o.dst bI fun env=>m4 P call ops rest ⟨env,n,defs,h⟩ K
  |none=>false
def nw(acc:List Nat):List Edge->Nat
 |[]=>0
 |e :: es=>if Region.binds .any e then (2 ^ e.on ||| acc.getD e.on 0) ||| nw acc es else nw acc es
def nx:List Oper->List Nat->List Nat
 |[],acc=>acc
 |o :: os,acc=>nx os (acc++[nw acc o.after.toList])
def ni(ops:List Oper):List Nat:=nx ops []
def pE(ms:List Nat)(i j:Nat):Bool:=(ms.getD i 0).testBit j
def rW(o:Oper):Bool:=match fo o.op with|.J9=>true|_=>false
def uz:List Oper->Nat->List (Nat×Oper)
 |[],_=>[]
 |o :: os,i=>(i,o) :: uz os (i+1)
def GO:List (Nat×Oper)->List Nat
 |[]=>[]
 |p :: ps=>if rW p.2 then p.1 :: GO ps else GO ps
def xN(ms:List Nat)(i:Nat):List Nat->Nat
 |[]=>0
 |j :: js=>if pE ms i j then xN ms i js+1 else xN ms i js
def BK(ms:List Nat)(El:List Nat)(L:List (Nat×Oper)):Nat->Nat->List (Nat×Oper)
 |0,k=>L.filter fun p=>!rW p.2&&xN ms p.1 El==k
 |n+1,k=>(L.filter fun p=>!rW p.2&&xN ms p.1 El==k)++((L.filter fun p=>rW p.2&&xN ms p.1 El==k)++BK ms El L n (k+1))
def p9(ops:List Oper)(o:Oper):List Tmp:=
 (o.op.operands.toList.filterMap fun|.tmp t=>some t|_=>none) ++
 (match o.guard with
  |some (g,_)=>(match ops[g]? with|some p=>p.dst.toList|none=>[])
  |none=>[])
def Ku(ops:List Oper)(ms:List Nat)(a b:Nat×Oper):Bool:=
 a.1 != b.1&&(!(pE ms a.1 b.1)&&((!rW a.2||pE ms b.1 a.1) &&
 ((match a.2.dst with
   |some d=>(match b.2.dst with|some e=>d != e|none=>true)&&(!((p9 ops b.2).contains d)||pE ms b.1 a.1)
   |none=>true) &&
  (match b.2.dst with
   |some d=>!((p9 ops a.2).contains d)||pE ms b.1 a.1
   |none=>true))))
def BL(ops:List Oper)(ms:List Nat):List (Nat×Oper)->Bool
 |[]=>true
 |p :: ps=>ps.all (Ku ops ms p)&&BL ops ms ps
def BM(L:List (Nat×Oper)):Nat->Bool
 |0=>true
 |n+1=>L.any (fun p=>p.1==n)&&BM L n
structure VK where
 ms:List Nat
 L:List (Nat×Oper)
def O5(ops:List Oper)(ms:List Nat):List (Nat×Oper):=BK ms (GO (uz ops 0)) (uz ops 0) (GO (uz ops 0)).length 0
def BN:List Oper->Nat->Bool
 |[],_=>true
 |o :: os,i=>o.after.toList.all (fun e=>!Region.binds .any e||decide (e.on<i))&&BN os (i+1)
def H9(ops:List Oper):Option VK:=
 if BN ops 0&&BL ops (ni ops) (O5 ops (ni ops))&&BM (O5 ops (ni ops)) ops.length then some ⟨ni ops,O5 ops (ni ops)⟩ else none
structure Read where
 i:Nat
 op:Op
 env:Env
 v:AV
def sameAt(P:Program)(op:Op)(env:Env)(v:AV)(h:Heap):Bool:=gN op P (evalArg env) h fun v' _=>AV.beq v' v
def jy(P:Program)(ms:List Nat)(i:Nat)(h:Heap):List Read->Bool
 |[]=>true
 |r :: rs=>if pE ms i r.i then jy P ms i h rs else sameAt P r.op r.env r.v h&&jy P ms i h rs
def fH(P:Program)(call:jQ)(ops:List Oper)(ms:List Nat):List (Nat×Oper)->List Read->St->(St->Bool)->Bool
 |[],_,s,K=>K s
 |p :: rest,lg,⟨env,n,defs,h⟩,K=>
  match iU ops p.2 env with
  |some true=>
   match fo p.2.op with
   |.pure=>gN p.2.op P (evalArg env) h fun v _=>iA env n p.2.dst v fun eC=>fH P call ops ms rest lg ⟨eC,n,defs,h⟩ K
   |.read=>gN p.2.op P (evalArg env) h fun v _=>iA env n p.2.dst v fun eC=>fH P call ops ms rest (⟨p.1,p.2.op,env,v⟩ :: lg) ⟨eC,n,defs,h⟩ K
   |.alloc=>gN p.2.op P (evalArg env) h fun v h'=>iA env n p.2.dst v fun eC=>fH P call ops ms rest lg ⟨eC,n,defs,h'⟩ K
   |.J9=>
    jg p.2.op P call env defs h fun
     |.ok v jR h'=>if jy P ms p.1 h' lg then iA env n p.2.dst v fun eC=>fH P call ops ms rest lg ⟨eC,n,jR,h'⟩ K else false
     |.panic _ _=>false
  |some false=>iA env n p.2.dst bI fun eC=>fH P call ops ms rest lg ⟨eC,n,defs,h⟩ K
  |none=>false
def aD:List AV->Env
 |[],_=>bI
 |v :: _,0=>v
 |_ :: vs,i+1=>aD vs i
def Kv(env:Env):Nat->Nat->List AV
 |0,_=>[]
 |n+1,i=>env i :: Kv env n (i+1)
def St.tab:St->St
 |⟨env,n,defs,h⟩=>⟨aD (Kv env n 0),n,defs,h⟩
def iter(f:St->(AX->St->Bool)->Bool)(K:AX->St->Bool):Nat->St->Bool
 |0,_=>false
 |n+1,s=>f s fun
  |.normal,s'=>iter f K n s'.tab
  |e,s'=>K e s'
def evalCode(P:Program)(call:jQ)(rounds:Nat):Code->St->(AX->St->Bool)->Bool
 |.skip,s,K=>K .normal s
 |.region _ ops draw,s,K=>
  if draw then af (H9 ops.toList) fun p=>fH P call ops.toList p.ms p.L [] s fun s'=>K .normal s'
  else m4 P call ops.toList ops.toList s fun
   |.ok s'=>K .normal s'
   |.panic v s'=>K (.panic v) s'
 |.seq a b,s,K=>evalCode P call rounds a s fun
  |.normal,s'=>evalCode P call rounds b s' K
  |e,s'=>K e s'
 |.cond c a b,s,K=>
  match evalArg s.env c with
  |.bool true=>evalCode P call rounds a s K
  |.bool false=>evalCode P call rounds b s K
  |_=>false
 |.block id c,s,K=>evalCode P call rounds c s fun
  |.exit Nc,s'=>if Nc=id then K .normal s' else K (.exit Nc) s'
  |e,s'=>K e s'
 |.loop c,s,K=>iter (evalCode P call rounds c) K rounds s
 |.exit id,s,K=>K (.exit id) s
 |.ret,s,K=>K .ret s
 |_,_,_=>false
abbrev xO:=FuncId->Option (List AV->Heap->(Out->Heap->Bool)->Bool)
abbrev qb:=FuncId->Option (List AV->Option AV->Heap->(Option AV->Heap->Bool)->Bool)
def BO(P:Program)(s:St):ResultVar->Option AV
 |.tmp t=>some (s.env t)
 |.cell a t=>(match vT P t with|some i=>ag i (s.env a) s.h|none=>none)
def dh(P:Program)(s:St):List ResultVar->Option (List AV)
 |[]=>some []
 |r :: rs=>match BO P s r,dh P s rs with
  |some v,some vs=>some (v :: vs)
  |_,_=>none
def oneOf:List AV->AV
 |[v]=>v
 |vs=>.tuple vs
def leave(P:Program)(D:qb)(rs:List ResultVar)(K:Out->Heap->Bool):List pJ->Option AV->St->Bool
 |[],none,s=>af (dh P s rs) fun vs=>K (.ret (oneOf vs)) s.h
 |[],some v,s=>K (.panic v) s.h
 |d :: ds,Ia,s=>
  match D d.f with
  |some g=>g (d.args++d.cap) Ia s.h fun sq h'=>leave P D rs K ds sq ⟨s.env,s.n,s.defs,h'⟩
  |none=>false
def aU(P:Program)(D:qb)(rs:List ResultVar)(K:Out->Heap->Bool):AX->St->Bool
 |.normal,s'=>leave P D rs K s'.defs none s'
 |.ret,s'=>leave P D rs K s'.defs none s'
 |.panic v,s'=>leave P D rs K s'.defs (some v) s'
 |.exit _,_=>false
def O6(P:Program)(D:qb)(call:jQ)(rounds:Nat)(fn:Func)(args:List AV)(h:Heap)(K:Out->Heap->Bool):Bool:=
 match fn.body with
 |none=>false
 |some c=>evalCode P call rounds c ⟨aD args,fn.ntmps,[],h⟩ (aU P D fn.results.toList K)
def bP(P:Program)(F:xO)(D:qb):Nat->FuncId->List AV->Heap->(Out->Heap->Bool)->Bool
 |0,_,_,_,_=>false
 |n+1,f,args,h,K=>
  match F f with
  |some g=>g args h K
  |none=>
   match P.funcs[f]? with
   |none=>false
   |some fn=>if decide (args.length<=fn.ntmps)&&fn.name != "runtime.NumGoroutine" then O6 P D (bP P F D n) n fn args h K else false
mutual
def Cd:Code->Nat
 |.skip=>1
 |.region _ _ _=>1
 |.seq a b=>Cd a*Cd b
 |.cond _ a b=>Cd a+Cd b
 |.block id c=>Cd c+uA id c
 |_=>0
def uA(id:Nat):Code->Nat
 |.seq a b=>uA id a+Cd a*uA id b
 |.cond _ a b=>uA id a+uA id b
 |.block _ c=>uA id c
 |.exit i=>@Bool.rec (fun _=>Nat) 0 1 (Nat.beq i id)
 |_=>0
end
def Ce:Code->Nat
 |.region _ ops _=>ops.toList.length
 |.seq a b=>Ce a+Ce b
 |.cond _ a b=>Ce a+Ce b+1
 |.block _ c=>Ce c
 |.loop c=>Ce c+10
 |_=>1
def Ib:List Oper->Bool
 |[]=>false
 |o :: os=>match o.guard with|some _=>true|none=>Ib os
def O7:Code->Bool
 |.cond _ _ _=>true
 |.seq a _=>O7 a
 |_=>false
def VL(a b:Code):Bool:=
 @Bool.rec (fun _=>Bool) false (match a with
  |.region _ ops _=>Ib ops.toList&&!O7 b
  |a=>ble 2 (Cd a)) (ble 12 (Ce b))
end
end Go.AM