/- The abstract machine: a deterministic evaluator over the model's Code. Conditions: none; definitions alone. -/
import Derived.Test.YtfdanacohcffmaaGreatKu1
import Derived.Calls
import GoSem.Core.Utf8
import Derived.Orders
set_option linter.unusedVariables false
namespace Go.AM
open List Nat Bool Option
open Go
noncomputable section
inductive AV where
 |undef
 |bool (b:Bool)
 |int (k:IntKind) (n:Int)
 |str (s:List UInt8)
 |ey
 |ptr (b off:Nat)
 |dO (cs:List AV) (off:Nat)
 |ax
 |slice (b off len sz:Nat)
 |au (cs:List AV) (off len sz:Nat)
 |jH
 |map (b:Nat)
 |mY
 |func (f:FuncId) (first cap:List AV)
 |pJ
 |iface (t:TypeId) (v:AV)
 |agg (cs:List AV)
 |tuple (vs:List AV)
 deriving Inhabited
mutual
def AV.beq:AV->AV->Bool
 |.undef,.undef=>true
 |.bool a,.bool b=>a==b
 |.int k a,.int j b=>decide (k=j)&&decide (a=b)
 |.str a,.str b=>decide (a=b)
 |.ey,.ey=>true
 |.ptr a i,.ptr b j=>a==b&&i==j
 |.dO a i,.dO b j=>AV.xk a b&&i==j
 |.ax,.ax=>true
 |.slice a i l s,.slice b j m t=>a==b&&i==j&&l==m&&s==t
 |.au a i l s,.au b j m t=>AV.xk a b&&i==j&&l==m&&s==t
 |.jH,.jH=>true
 |.map a,.map b=>a==b
 |.mY,.mY=>true
 |.func f a b,.func g c d=>f==g&&AV.xk a c&&AV.xk b d
 |.pJ,.pJ=>true
 |.iface t a,.iface u b=>t==u&&AV.beq a b
 |.agg a,.agg b=>AV.xk a b
 |.tuple a,.tuple b=>AV.xk a b
 |_,_=>false
def AV.xk:List AV->List AV->Bool
 |[],[]=>true
 |a :: as,b :: bs=>AV.beq a b&&AV.xk as bs
 |_,_=>false
end
inductive jV where
 |dead
 |cells (cs:List AV)
 |map (es:List (AV×AV×Nat)) (clock:Nat)
 |BP (s:List UInt8) (pos:Nat)
 |fT (m:Option Nat) (since:Nat) (seen:List Nat) (LC:Nat)
 |box (v:AV)
 deriving Inhabited
inductive Trie (α:Type) where
 |leaf
 |node (v:Option α) (l r:Trie α)
 deriving Inhabited
def Trie.get{α:Type}:Trie α->Nat->Option α
 |.leaf,_=>none
 |.node v l r,n=>match n with
  |0=>v
  |m+1=>if m%2=0 then l.get (m/2) else r.get (m/2)
def Trie.val{α:Type}:Trie α->Option α
 |.leaf=>none
 |.node v _ _=>v
def Trie.left{α:Type}:Trie α->Trie α
 |.leaf=>.leaf
 |.node _ l _=>l
def Trie.right{α:Type}:Trie α->Trie α
 |.leaf=>.leaf
 |.node _ _ r=>r
def Trie.JZ{α:Type}(o:α):Nat->Trie α->Nat->Trie α
 |0,t,_=>.node (some o) t.left t.right
 |f+1,t,n=>match n with
  |0=>.node (some o) t.left t.right
  |m+1=>if m%2=0 then .node t.val (JZ o f t.left (m/2)) t.right else .node t.val t.left (JZ o f t.right (m/2))
def Trie.set{α:Type}(t:Trie α)(n:Nat)(o:α):Trie α:=Trie.JZ o n t n
structure Heap where
 next:Nat
 tab:Trie jV
 deriving Inhabited
def Heap.get(h:Heap)(b:Nat):Option jV:=h.tab.get b
def Heap.set(h:Heap)(b:Nat)(o:jV):Heap:=⟨h.next,h.tab.set b o⟩
def Heap.alloc(h:Heap)(o:jV):Heap:=⟨h.next+1,h.tab.set h.next o⟩
def Heap.empty:Heap:=⟨0,.leaf⟩
def af{α:Type}(o:Option α)(f:α->Bool):Bool:=
 match o with
 |some a=>f a
 |none=>false
def mQ:Value->AV
 |.bool b=>.bool b
 |.int k n=>.int k n
 |.string s=>.str s.data.toList
 |.pointer none=>.ey
 |.slice none 0 0=>.ax
 |.map none=>.jH
 |.nilFunc=>.mY
 |.nilIface=>.pJ
 |_=>.undef
def ofConst:Value->AV
 |.agg cs=>.agg (cs.toList.map mQ)
 |v=>mQ v
def AV.dy:AV->List AV
 |.agg cs=>cs
 |v=>[v]
def bI:AV:=.tuple []
def AV.one:AV->Bool
 |.agg _|.tuple _|.undef=>false
 |_=>true
def bw:List AV->Bool
 |[]=>true
 |c :: cs=>c.one&&bw cs
section
variable (P:Program)
def nX(t:TypeId):Option Nat:=match P.info? t with|some i=>some i.size|none=>none
def OA(t:TypeId):Option Nat:=match P.info? t with|some i=>some i.bytes|none=>none
def zV(t:TypeId):Option AV:=match P.info? t with
 |some i=>(match i.zero with|some z=>some (ofConst z)|none=>none)
 |none=>none
def vA(t:TypeId):Option (Option Nat):=match P.underlying t with
 |some (.struct _)|some (.array _ _)=>(match nX P t with|some n=>some (some n)|none=>none)
 |some _=>some none
 |none=>none
def LD(t:TypeId):Option TypeId:=match P.underlying t with|some (.slice e)=>some e|_=>none
def Gh(t:TypeId)(i:Nat):Option Field:=match P.underlying t with|some (.struct fs)=>fs[i]?|_=>none
def HB(t:TypeId):Option (TypeDesc×TypeId):=match P.underlying t with
 |some (.map k e)=>(match P.underlying k with|some d=>some (d,e)|none=>none)
 |_=>none
end
def mq(P:Program)(t:TypeId):Option (List AV):=
 match zV P t with
 |some z=>if bw z.dy then some z.dy else none
 |none=>none
def iX(i:Option Nat)(cs:List AV)(off:Nat):Option AV:=
 match i with
 |none=>cs[off]?
 |some n=>if off+n<=cs.length then some (.agg ((cs.drop off).take n)) else none
def ei{α:Type}:List α->Nat->List α->List α
 |cs,_,[]=>cs
 |cs,off,v :: vs=>ei (cs.set off v) (off+1) vs
def eX(x:AV):Option (List AV):=if bw x.dy then some x.dy else none
def LF(c a b:AV):Option AV:=
 match c with
 |.bool t=>some (if t then a else b)
 |_=>none
def ag(i:Option Nat)(x:AV)(h:Heap):Option AV:=
 match x with
 |.ptr b off=>(match h.get b with|some (.cells cs)=>iX i cs off|_=>none)
 |.dO cs off=>iX i cs off
 |_=>none
def aY(n:Nat)(x v:AV)(h:Heap):Option Heap:=
 match x with
 |.ptr b off=>(match h.get b with
  |some (.cells cs)=>if v.dy.length=n&&bw v.dy&&decide (off+n<=cs.length) then some (h.set b (.cells (ei cs off v.dy))) else none
  |_=>none)
 |_=>none
def bq:AV->Option AV
 |.ptr b i=>some (.ptr b i)
 |.dO c i=>some (.dO c i)
 |.func f a b=>some (.func f a b)
 |_=>none
def BQ(right:Bool)(x y:AV):Option AV:=
 match x,y with
 |.int k a,.int _ b=>if b<0 then none else some (.int k (if right then a.fdiv (2 ^ (min b.toNat k.bits)) else k.wrap (a*2 ^ (min b.toNat k.bits))))
 |_,_=>none
def OB(op:BinOp)(x y:AV):Option AV:=
 match x,y with
 |.int k a,.int k' b=>
  if k=k' then
   match op with
   |.and=>some (.int k (k.wrap (BitVec.ofInt k.bits a &&& BitVec.ofInt k.bits b).toNat))
   |.or=>some (.int k (k.wrap (BitVec.ofInt k.bits a ||| BitVec.ofInt k.bits b).toNat))
   |.xor=>some (.int k (k.wrap (BitVec.ofInt k.bits a ^^^ BitVec.ofInt k.bits b).toNat))
   |_=>none
  else none
 |_,_=>none
def aF(op:BinOp)(x y:AV):Option AV:=
 match op with
 |.shr=>BQ true x y
 |.shl=>BQ false x y
 |.and=>OB .and x y
 |.or=>OB .or x y
 |.xor=>OB .xor x y
 |op=>match x,y with
 |.int k a,.int k' b=>
  if k=k' then
   match op with
   |.add=>some (.int k (k.wrap (a+b)))
   |.sub=>some (.int k (k.wrap (a-b)))
   |.mul=>some (.int k (k.wrap (a*b)))
   |.quo=>if b=0 then none else some (.int k (k.wrap (a.tdiv b)))
   |.rem=>if b=0 then none else some (.int k (a.tmod b))
   |.lss=>some (.bool (decide (a<b)))
   |.leq=>some (.bool (decide (a<=b)))
   |.gtr=>some (.bool (decide (a>b)))
   |.geq=>some (.bool (decide (a>=b)))
   |_=>none
  else none
 |.str a,.str b=>
  match op with
  |.add=>if a.length+b.length<=4611686018427387904 then some (.str (a++b)) else none
  |.lss=>some (.bool (Op.bytesLess a b))
  |.leq=>some (.bool (Op.bytesLess a b||a==b))
  |.gtr=>some (.bool (!(Op.bytesLess a b||a==b)))
  |.geq=>some (.bool (!(Op.bytesLess a b)))
  |_=>none
 |_,_=>none
def Ra(d:TypeDesc)(x y:AV):Option Bool:=
 match x,y with
 |.int k a,.int k' b=>if k=k' then some (a==b) else none
 |.str a,.str b=>some (a==b)
 |.bool a,.bool b=>(match d with|.bool=>some (a==b)|_=>none)
 |.ey,.ey=>(match d with|.pointer _=>some true|_=>none)
 |.ptr _ _,.ey|.ey,.ptr _ _|.dO _ _,.ey|.ey,.dO _ _=>(match d with|.pointer _=>some false|_=>none)
 |.ax,.ax=>(match d with|.slice _=>some true|_=>none)
 |.slice _ _ _ _,.ax|.ax,.slice _ _ _ _|.au _ _ _ _,.ax|.ax,.au _ _ _ _=>(match d with|.slice _=>some false|_=>none)
 |.jH,.jH=>(match d with|.map _ _=>some true|_=>none)
 |.map _,.jH|.jH,.map _=>(match d with|.map _ _=>some false|_=>none)
 |.mY,.mY=>(match d with|.func _ _ _=>some true|_=>none)
 |.func _ _ _,.mY|.mY,.func _ _ _=>(match d with|.func _ _ _=>some false|_=>none)
 |_,_=>none
def jA(d:TypeDesc)(x y:AV):Option AV:=match Ra d x y with|some b=>some (.bool b)|none=>none
def nA(d:TypeDesc)(x y:AV):Option AV:=match Ra d x y with|some b=>some (.bool (!b))|none=>none
def kr(op:UnOp)(x:AV):Option AV:=
 match op,x with
 |.neg,.int k n=>some (.int k (k.wrap (0-n)))
 |.not,.bool b=>some (.bool (!b))
 |_,_=>none
def asNat(x:AV):Option Nat:=
 match x with
 |.int _ n=>if 0<=n then some n.toNat else none
 |_=>none
def vB(d:TypeDesc)(x y:AV):Option Bool:=
 match d,x,y with
 |.int _,.int k a,.int k' b=>if k=k' then some (a==b) else none
 |.string,.str a,.str b=>some (a==b)
 |.bool,.bool a,.bool b=>some (a==b)
 |_,_,_=>none
abbrev Entry:=AV×AV×Nat
def jB(d:TypeDesc)(k:AV):List Entry->Nat->Option (Option (Nat×AV))
 |[],_=>some none
 |e :: es,i=>
  match vB d k e.1 with
  |some true=>some (some (i,e.2.1))
  |some false=>jB d k es (i+1)
  |none=>none
def pX(d:TypeDesc)(k:AV):Bool:=
 match d,k with
 |.int _,.int _ _=>true
 |.string,.str _=>true
 |.bool,.bool _=>true
 |_,_=>false
def pY(d:TypeDesc)(k:AV)(es:List Entry):Option (Option (Nat×AV)):=if pX d k then jB d k es 0 else none
def iq(sz n:Nat)(x:AV)(h:Heap):Option (List AV):=
 match x with
 |.ax=>if n=0 then some [] else none
 |.slice b off _ s=>
  if s=sz then (match h.get b with
   |some (.cells cs)=>if off+n*sz<=cs.length then some ((cs.drop off).take (n*sz)) else none
   |_=>none) else none
 |.au cs off _ s=>if s=sz&&decide (off+n*sz<=cs.length) then some ((cs.drop off).take (n*sz)) else none
 |.str s=>if sz=1 then some ((s.take n).map fun b=>.int .u8 b.toNat) else none
 |_=>none
def kX:AV->Option Nat
 |.ax=>some 0
 |.slice _ _ n _=>some n
 |.au _ _ n _=>some n
 |.str s=>some s.length
 |_=>none
def cG:Nat:=140737488355328
def b6(sz bytes:Nat)(s x:AV)(h:Heap):Option (AV×Heap):=
 match kX x with
 |none=>none
 |some n=>match iq sz n x h with
  |none=>none
  |some new=>
   match s with
   |.ax=>
    if n=0 then some (.ax,h) else
    if n*bytes<=cG&&bw new then some (.slice h.next 0 n sz,h.alloc (.cells new)) else none
   |.slice b off len s'=>
    if s'=sz then
     if n=0 then some (.slice b off len s',h) else
     match h.get b with
     |some (.cells cs)=>
      if (len+n)*bytes<=cG&&bw new&&decide (off+len*sz<=cs.length) then
       some (.slice h.next 0 (len+n) sz,(h.set b .dead).alloc (.cells ((cs.drop off).take (len*sz)++new)))
      else none
     |_=>none
    else none
   |_=>none
def OC(sz:Nat)(dst src:AV)(h:Heap):Option (AV×Heap):=
 match kX src with
 |none=>none
 |some m=>match dst with
  |.ax=>some (.int .i64 0,h)
  |.slice b off len s'=>
   if s'=sz then
    match iq sz (Nat.min m len) src h with
    |some new=>match h.get b with
     |some (.cells cs)=>
      if bw new&&decide (off+Nat.min m len*sz<=cs.length)&&decide (new.length=Nat.min m len*sz) then
       some (.int .i64 (Nat.min m len),h.set b (.cells (ei cs off new)))
      else none
     |_=>none
    |none=>none
   else none
  |_=>none
def nY(x:Option AV)(adp:Nat):Option Nat:=
 match x with
 |none=>some adp
 |some v=>asNat v
def gZ(i:Option Nat)(x:AV)(lo hi:Option AV):Option AV:=
 match kX x with
 |none=>none
 |some len=>match nY hi len,nY lo 0 with
  |some hi,some lo=>
   if lo<=hi&&decide (hi<=len) then
    match i,x with
    |none,.str s=>some (.str ((s.take hi).drop lo))
    |some _,.ax=>some .ax
    |some n,.slice b off _ sz=>if n=sz then some (.slice b (off+lo*sz) (hi-lo) sz) else none
    |some n,.au cs off _ sz=>if n=sz then some (.au cs (off+lo*sz) (hi-lo) sz) else none
    |_,_=>none
   else none
  |_,_=>none
def bS(off:Nat)(x:AV):Option AV:=
 match x with
 |.ptr b o=>some (.ptr b (o+off))
 |.dO cs o=>some (.dO cs (o+off))
 |_=>none
def Gi(i:Option Nat)(off:Nat)(x:AV):Option AV:=
 match x with
 |.agg cs=>iX i cs off
 |_=>none
def dG(n:Nat)(x i:AV):Option AV:=
 match asNat i with
 |none=>none
 |some i=>match x with
  |.slice b off len sz=>if i<len&&n==sz then some (.ptr b (off+i*sz)) else none
  |.au cs off len sz=>if i<len&&n==sz then some (.dO cs (off+i*sz)) else none
  |_=>none
def OD(len n:Nat)(x i:AV):Option AV:=
 match asNat i with
 |none=>none
 |some i=>match x with
  |.ptr b off=>if i<len then some (.ptr b (off+i*n)) else none
  |.dO cs off=>if i<len then some (.dO cs (off+i*n)) else none
  |_=>none
inductive IaK where
 |sl (n:Nat)|arr (len n:Nat)
def iaV(k:IaK)(x i:AV):Option AV:=match k with|.sl n=>dG n x i|.arr len n=>OD len n x i
def kS(x i:AV):Option AV:=
 match x,asNat i with
 |.str s,some i=>(match s[i]? with|some b=>some (.int .u8 b.toNat)|none=>none)
 |_,_=>none
def LG(len n:Nat)(r:Option Nat)(x i:AV):Option AV:=
 match x,asNat i with
 |.agg cs,some i=>if i<len then iX r cs (i*n) else none
 |_,_=>none
def lJ(m:AV)(h:Heap):Option (List Entry):=
 match m with
 |.jH=>some []
 |.map b=>(match h.get b with|some (.map es _)=>some es|_=>none)
 |_=>none
def dU(d:TypeDesc)(z:AV)(ok:Bool)(m k:AV)(h:Heap):Option AV:=
 match lJ m h with
 |none=>none
 |some es=>match pY d k es with
  |some (some (_,v))=>some (if ok then .tuple [v,.bool true] else v)
  |some none=>some (if ok then .tuple [z,.bool false] else z)
  |none=>none
def eY(es:List Entry)(i:Nat)(v:AV):List Entry:=
 match es[i]? with
 |some e=>es.set i (e.1,v,e.2.2)
 |none=>es
def eS(d:TypeDesc)(m k v:AV)(h:Heap):Option Heap:=
 match m with
 |.map b=>(match h.get b with
  |some (.map es ck)=>(match pY d k es with
   |some (some (i,_))=>some (h.set b (.map (eY es i v) ck))
   |some none=>some (h.set b (.map (es++[(k,v,ck)]) (ck+1)))
   |none=>none)
  |_=>none)
 |_=>none
def Gj(es:List Entry)(i:Nat):Nat:=match es[i]? with|some e=>e.2.2|none=>0
def lf(d:TypeDesc)(z:AV)(m k:AV)(h:Heap):Option (AV×Heap):=
 match m with
 |.map b=>(match h.get b with
  |some (.map es ck)=>(match pY d k es with
   |some (some (i,v))=>some (.tuple [v,.int .i64 (Gj es i)],h)
   |some none=>some (.tuple [z,.int .i64 ck],h.set b (.map (es++[(k,z,ck)]) (ck+1)))
   |none=>none)
  |_=>none)
 |_=>none
def nZ(n:Int):List Entry->Nat->Option Nat
 |[],_=>none
 |e :: es,i=>if (e.2.2:Int)=n then some i else nZ n es (i+1)
def iY(m s v:AV)(h:Heap):Option Heap:=
 match m,s with
 |.map b,.int _ n=>(match h.get b with
  |some (.map es ck)=>(match nZ n es 0 with
   |some i=>some (h.set b (.map (eY es i v) ck))
   |none=>none)
  |_=>none)
 |_,_=>none
def Gk(d:TypeDesc)(m k:AV)(h:Heap):Option Heap:=
 match m with
 |.jH=>if pX d k then some h else none
 |.map b=>(match h.get b with
  |some (.map es ck)=>(match pY d k es with
   |some (some (i,_))=>some (h.set b (.map (es.eraseIdx i) ck))
   |some none=>some (h.set b (.map es ck))
   |none=>none)
  |_=>none)
 |_=>none
inductive Vh where
 |str|slice|map|array (n:Nat)
def bU(i:Vh)(x:AV)(h:Heap):Option AV:=
 match i,x with
 |.str,.str s=>some (.int .i64 s.length)
 |.slice,.ax=>some (.int .i64 0)
 |.slice,.slice _ _ n _=>some (.int .i64 n)
 |.slice,.au _ _ n _=>some (.int .i64 n)
 |.map,.jH=>some (.int .i64 0)
 |.map,.map b=>(match h.get b with|some (.map es _)=>some (.int .i64 es.length)|_=>none)
 |.array n,_=>some (.int .i64 n)
 |_,_=>none
def J1(mx:Bool)(x y:AV):Option AV:=
 match x,y with
 |.int k a,.int k' b=>if k=k' then some (.int k (if mx then (if b>a then b else a) else (if b<a then b else a))) else none
 |_,_=>none
def vC(mx:Bool):AV->List AV->Option AV
 |x,[]=>some x
 |x,y :: ys=>match J1 mx x y with
  |some v=>vC mx v ys
  |none=>none
inductive OE where
 |int (k:IntKind)|str|bytes|string
def bytesOf:List AV->Option (List UInt8)
 |[]=>some []
 |.int .u8 n :: cs=>(match bytesOf cs with|some bs=>some (UInt8.ofNat n.toNat :: bs)|none=>none)
 |_=>none
def jh(i:OE)(x:AV)(h:Heap):Option (AV×Heap):=
 match i,x with
 |.int k,.int _ n=>some (.int k (k.wrap n),h)
 |.str,.str s=>some (.str s,h)
 |.bytes,.str s=>if uh=true/\s.length<=cG then some (.slice h.next 0 s.length 1,h.alloc (.cells (s.map fun b=>.int .u8 b.toNat))) else none
 |.string,.ax=>some (.str [],h)
 |.string,.slice b off n sz=>(match iq 1 n (.slice b off n sz) h with
  |some cs=>(match bytesOf cs with|some bs=>some (.str bs,h)|none=>none)
  |none=>none)
 |.string,.au b off n sz=>(match iq 1 n (.au b off n sz) h with
  |some cs=>(match bytesOf cs with|some bs=>some (.str bs,h)|none=>none)
  |none=>none)
 |_,_=>none
def og(cells:List AV):List (Nat×Nat)->List AV->Option (List AV)
 |[],[]=>some cells
 |(off,n) :: ps,v :: vs=>
  if v.dy.length=n&&decide (off+n<=cells.length)&&bw v.dy then og (ei cells off v.dy) ps vs else none
 |_,_=>none
def ja(zero:List AV):Nat->List AV
 |0=>[]
 |n+1=>zero++ja zero n
def fS(zs:List AV)(ps:List (Nat×Nat))(vs:List AV):Option (List AV):=
 match og zs ps vs with
 |some cs=>if bw cs then some cs else none
 |none=>none
def iy(zs:List AV)(ps:List (Nat×Nat))(vs:List AV):Option AV:=
 match og zs ps vs with
 |some cs=>some (.agg cs)
 |none=>none
def yO(bytes:Nat)(len cap:AV):Option Nat:=
 match len,cap with
 |.int .i64 l,.int .i64 c=>if 0<=l&&decide (l<=c)&&decide (bytes*c<=140737488355328) then some l.toNat else none
 |_,_=>none
def gz(sz bytes:Nat)(z:List AV)(len cap:AV)(h:Heap):Option (AV×Heap):=
 match yO bytes len cap with
 |some n=>some (.slice h.next 0 n sz,h.alloc (.cells (ja z n)))
 |none=>none
inductive J2 where
 |str|map
def mu(i:J2)(x:AV)(h:Heap):Option (AV×Heap):=
 match i,x with
 |.str,.str s=>some (.ptr h.next 0,h.alloc (.BP s 0))
 |.map,.jH=>some (.ptr h.next 0,h.alloc (.fT none 0 [] 0))
 |.map,.map m=>(match h.get m with
  |some (.map _ ck)=>some (.ptr h.next 0,h.alloc (.fT (some m) ck [] ck))
  |_=>none)
 |_,_=>none
def lp(n:Nat):List Entry->Option Entry
 |[]=>none
 |e :: es=>if e.2.2=n then some e else lp n es
def sx(es:List Entry)(since:Nat)(seen:List Nat):List (Option Entry):=
 let left:=es.filter fun e=>!seen.contains e.2.2
 let old:=left.filter fun e=>decide (e.2.2<since)
 let new:=left.filter fun e=>decide (e.2.2>=since)
 (if old.isEmpty then [none] else [])++(old++new).map some
def J3(r m since:Nat)(seen:List Nat)(ck:Nat)(h:Heap):Option Entry->AV×Heap
 |some e=>(.tuple [.bool true,e.1,e.2.1],h.set r (.fT (some m) since (seen++[e.2.2]) ck))
 |none=>(.tuple [.bool false],h)
def xm(isString:Bool)(x:AV)(h:Heap):Option (List (AV×Heap)):=
 match x with
 |.ptr r 0=>(match h.get r,isString with
  |some (.BP s pos),true=>
   if pos<s.length then
    some [(.tuple [.bool true,.int .i64 pos,.int .i32 (Utf8.decode ⟨s.toArray⟩ pos).1],h.set r (.BP s (pos+(Utf8.decode ⟨s.toArray⟩ pos).2)))]
   else some [(.tuple [.bool false],h)]
  |some (.fT none _ _ _),false=>some [(.tuple [.bool false],h)]
  |some (.fT (some m) since seen last),false=>(match h.get m with
   |some (.map es ck)=>
    if !seen.isEmpty&&!es.isEmpty&&es.all (fun e=>decide (e.2.2>=last)) then none else
    match sx es since seen with
    |[]=>none
    |c :: cs=>some ((c :: cs).map (J3 r m since seen ck h))
   |_=>none)
  |_,_=>none)
 |_=>none
def sC(x:AV)(h:Heap):Option AV:=
 match x with
 |.ptr r 0=>(match h.get r with
  |some (.fT (some m) _ seen LC)=>(match seen.getLast?,h.get m with
   |some LH,some (.map es ck)=>
    if ck=LC then (match lp LH es with|some e=>some (.tuple [e.1,e.2.1])|none=>none) else none
   |_,_=>none)
  |_=>none)
 |_=>none
def Bl(a:TypeId)(z x:AV):Option AV:=
 match x with
 |.pJ=>some (.tuple [z,.bool false])
 |.iface t v=>some (if t=a then .tuple [v,.bool true] else .tuple [z,.bool false])
 |_=>none
def bx(x:AV)(i:Nat):Option AV:=match x with|.tuple vs=>vs[i]?|_=>none
def OF(P:Program)(e:Option TypeId):Option (Nat×Nat):=
 match e with
 |none=>none
 |some e=>match nX P e,OA P e with
  |some s,some b=>if 0<s&&decide (0<b) then some (s,b) else none
  |_,_=>none
def BR(P:Program)(t:TypeId):Option (Nat×Nat):=OF P (LD P t)
def iaI(P:Program)(t:TypeId):Option IaK:=
 match P.underlying t with
 |some (.array len e)=>(match nX P e with|some s=>some (.arr len s)|none=>none)
 |_=>(match BR P t with|some o=>some (.sl o.1)|none=>none)
def BS(P:Program)(t:TypeId):Option (Nat×Nat×List AV):=
 match BR P t,LD P t with
 |some (s,b),some e=>(match mq P e with
  |some z=>if z.length=s then some (s,b,z) else none
  |none=>none)
 |_,_=>none
def LI(BT:List (Nat×Nat)):List Nat->Option (List (Nat×Nat))
 |[]=>some []
 |i :: is=>match BT[i]?,LI BT is with
  |some p,some ps=>some (p :: ps)
  |_,_=>none
def Rr(P:Program)(fs:List Field):Option (List (Nat×Nat)):=fs.mapM fun f=>(P.info? f.type).map fun i=>(f.offset,i.size)
def Gl(P:Program)(t:TypeId)(is:List Nat):Option (List AV×List (Nat×Nat)):=
 match P.underlying t with
 |some (.struct fs)=>(match zV P t,Rr P fs.toList with
  |some z,some pl=>(match LI pl is with|some ps=>if bw z.dy then some (z.dy,ps) else none|none=>none)
  |_,_=>none)
 |some (.array _ e)=>(match zV P t,P.info? e with
  |some z,some ie=>if bw z.dy then some (z.dy,is.map fun i=>(i*ie.size,ie.size)) else none
  |_,_=>none)
 |_=>none
def Rs(P:Program)(t:TypeId)(len:Nat)(is:List Nat):Option (Nat×List AV×List (Nat×Nat)):=
 match BS P t with
 |some (s,_,z)=>if len*s<=65536 then some (s,ja z len,is.map fun i=>(i*s,s)) else none
 |none=>none
def faI(P:Program)(t:TypeId)(i:Nat):Option Nat:=
 match Gh P t i with
 |some f=>(match nX P f.type with|some s=>if s=0 then none else some f.offset|none=>none)
 |none=>none
def Gm(P:Program)(t:TypeId)(i:Nat):Option (Option Nat×Nat):=
 match Gh P t i with
 |some f=>(match vA P f.type with|some r=>some (r,f.offset)|none=>none)
 |none=>none
def Gn(P:Program)(t:TypeId):Option (Option Nat):=
 match P.underlying t with
 |some .string=>some none
 |some (.slice e)=>(match nX P e with|some s=>some (some s)|none=>none)
 |_=>none
inductive Vi where
 |str|arr (len n:Nat) (r:Option Nat)
def Rt(P:Program)(t:TypeId):Option Vi:=
 match P.underlying t with
 |some .string=>some .str
 |some (.array len e)=>(match nX P e,vA P e with|some n,some r=>some (.arr len n r)|_,_=>none)
 |_=>none
def OG(i:Vi)(x y:AV):Option AV:=
 match i with
 |.str=>kS x y
 |.arr len n r=>LG len n r x y
def qL(P:Program)(t:TypeId):Option (TypeDesc×AV):=
 match HB P t with
 |some (d,e)=>(match zV P e with|some z=>some (d,z)|none=>none)
 |none=>none
def Ru(P:Program)(t:TypeId):Option Vh:=
 match P.underlying t with
 |some .string=>some .str
 |some (.slice _)=>some .slice
 |some (.map _ _)=>some .map
 |some (.array n _)=>some (.array n)
 |_=>none
def BU(P:Program)(src dst:TypeId):Option OE:=
 match P.underlying src,P.underlying dst with
 |some (.int _),some (.int k)=>some (.int k)
 |some .string,some .string=>some .str
 |some .string,some (.slice e)=>(match P.underlying e,nX P e with|some (.int .u8),some 1=>some .bytes|_,_=>none)
 |some (.slice e),some .string=>(match P.underlying e with|some (.int .u8)=>some .string|_=>none)
 |_,_=>none
def J4(P:Program)(t:TypeId):Option J2:=
 match P.underlying t with
 |some .string=>some .str
 |some (.map _ _)=>some .map
 |_=>none
def BV(P:Program)(t:TypeId):Option Unit:=
 match P.underlying t with
 |some (.interface _)=>none
 |some _=>some ()
 |none=>none
def Bn(P:Program)(a:TypeId)(ok:Bool):Option AV:=
 match ok,P.underlying a with
 |true,some (.interface _)=>none
 |true,some _=>zV P a
 |_,_=>none
def Bo(P:Program)(t u:TypeId):Option (Nat×Nat):=
 match P.underlying u,BS P t with
 |some (.slice _),some (s,b,_)=>some (s,b)
 |some .string,some (s,b,_)=>some (s,b)
 |_,_=>none
abbrev Ex:=Program->(Operand->AV)->Heap->(AV->Heap->Bool)->Bool
def ku(h:Heap)(K:AV->Heap->Bool)(o:Option AV):Bool:=af o fun v=>K v h
def zW(K:AV->Heap->Bool)(o:Option Heap):Bool:=af o fun h=>K bI h
def vE(K:AV->Heap->Bool)(o:Option (AV×Heap)):Bool:=af o fun p=>K p.1 p.2
def LJ(t:TypeId):Ex:=fun P _ h K=>af (mq P t) fun z=>K (.ptr h.next 0) (h.alloc (.cells z))
def Up(x:Operand):Ex:=fun _ ρ h K=>af (eX (ρ x)) fun cs=>K (.ptr h.next 0) (h.alloc (.cells cs))
def LK(t:TypeId)(ps:List (Nat×Operand)):Ex:=fun P ρ h K=>af (Gl P t (ps.map (·.1))) fun i=>ku h K (iy i.1 i.2 (ps.map fun p=>ρ p.2))
def qM(t:TypeId)(n:Nat)(ps:List (Nat×Operand)):Ex:=fun P ρ h K=>
 af (Rs P t n (ps.map (·.1))) fun i=>af (fS i.2.1 i.2.2 (ps.map fun p=>ρ p.2)) fun cs=>K (.slice h.next 0 n i.1) (h.alloc (.cells cs))
def OH(op:BinOp)(t:TypeId)(x y:Operand):Ex:=fun P ρ h K=>
 match op with
 |.eql=>af (P.underlying t) fun d=>ku h K (jA d (ρ x) (ρ y))
 |.neq=>af (P.underlying t) fun d=>ku h K (nA d (ρ x) (ρ y))
 |op=>ku h K (aF op (ρ x) (ρ y))
def BW(fn:Fn)(first cap:List Operand):Ex:=fun _ ρ h K=>match fn with
 |.func f=>K (.func f (first.map ρ) (cap.map ρ)) h
 |_=>false
def E6(r:Option Operand):Ex:=fun _ _ h K=>match r with
 |none=>K (.map h.next) (h.alloc (.map [] 0))
 |some _=>false
def zX(t:TypeId)(l c:Operand):Ex:=fun P ρ h K=>af (BS P t) fun i=>vE K (gz i.1 i.2.1 i.2.2 (ρ l) (ρ c) h)
def Gp(t:TypeId)(x:Operand)(lo hi mx:Option Operand):Ex:=fun P ρ h K=>match mx with
 |none=>af (Gn P t) fun i=>ku h K (gZ i (ρ x) (lo.map ρ) (hi.map ρ))
 |some _=>false
def HC(t:TypeId)(x i:Operand)(ok:Bool):Ex:=fun P ρ h K=>af (qL P t) fun d=>ku h K (dU d.1 d.2 ok (ρ x) (ρ i) h)
abbrev Vj:=List TypeId->List AV->Program->Heap->(AV->Heap->Bool)->Bool
def yP:Vj:=fun ts xs P h K=>match ts,xs with
 |[t,u],[s,x]=>af (Bo P t u) fun i=>vE K (b6 i.1 i.2 s x h)
 |_,_=>false
def Gq:Vj:=fun ts xs P h K=>match ts,xs with
 |t :: _,[d,s]=>af (BR P t) fun i=>vE K (OC i.1 d s h)
 |_,_=>false
def J5:Vj:=fun ts xs P h K=>match ts,xs with
 |t :: _,[x]=>af (Ru P t) fun i=>ku h K (bU i x h)
 |_,_=>false
def yQ:Vj:=fun ts xs P h K=>match ts,xs with
 |t :: _,[m,k]=>af (HB P t) fun i=>zW K (Gk i.1 m k h)
 |_,_=>false
def uj(mx:Bool):Vj:=fun _ xs _ h K=>match xs with
 |x :: xs=>ku h K (vC mx x xs)
 |_=>false
def J6:Vj:=fun _ _ _ _ _=>false
def E7:Builtin->Vj
 |.append=>yP
 |.copy=>Gq
 |.len=>J5
 |.delete=>yQ
 |.min=>uj false
 |.max=>uj true
 |_=>J6
def sE(c:Call):Ex:=fun P ρ h K=>match c.callee with
 |.builtin b=>E7 b c.argTypes.toList (c.args.toList.map ρ) P h K
 |_=>false
def gI:Op->Ex
 |.move x=>fun _ ρ h K=>K (ρ x) h
 |.assign x=>fun _ ρ h K=>K (ρ x) h
 |.pick c a b=>fun _ ρ h K=>ku h K (LF (ρ c) (ρ a) (ρ b))
 |.alloc t=>LJ t
 |.box _ x=>Up x
 |.build t ps=>LK t ps.toList
 |.buildSlice t n ps=>qM t n ps.toList
 |.load t a=>fun P ρ h K=>af (vA P t) fun i=>ku h K (ag i (ρ a) h)
 |.store t a x=>fun P ρ h K=>af (nX P t) fun n=>zW K (aY n (ρ a) (ρ x) h)
 |.nilCheck x=>fun _ ρ h K=>ku h K (bq (ρ x))
 |.binOp op t x y _=>OH op t x y
 |.unOp op _ x=>fun _ ρ h K=>ku h K (kr op (ρ x))
 |.convert s d x=>fun P ρ h K=>af (BU P s d) fun i=>vE K (jh i (ρ x) h)
 |.makeInterface t x=>fun P ρ h K=>af (BV P t) fun _=>K (.iface t (ρ x)) h
 |.makeFunc fn first cap=>BW fn first.toList cap.toList
 |.makeMap _ r=>E6 r
 |.makeSlice t l c=>zX t l c
 |.slice t x lo hi mx=>Gp t x lo hi mx
 |.fieldAddr t x i=>fun P ρ h K=>af (faI P t i) fun o=>ku h K (bS o (ρ x))
 |.field t x i=>fun P ρ h K=>af (Gm P t i) fun o=>ku h K (Gi o.1 o.2 (ρ x))
 |.indexAddr t x i=>fun P ρ h K=>af (iaI P t) fun o=>ku h K (iaV o (ρ x) (ρ i))
 |.index t x i=>fun P ρ h K=>af (Rt P t) fun o=>ku h K (OG o (ρ x) (ρ i))
 |.lookup t x i ok=>HC t x i ok
 |.mapUpdate t m k x=>fun P ρ h K=>af (HB P t) fun o=>zW K (eS o.1 (ρ m) (ρ k) (ρ x) h)
 |.insert t m k x=>fun P ρ h K=>af (HB P t) fun o=>zW K (eS o.1 (ρ m) (ρ k) (ρ x) h)
 |.mapEntry t m k=>fun P ρ h K=>af (qL P t) fun o=>vE K (lf o.1 o.2 (ρ m) (ρ k) h)
 |.entryStore _ m s x=>fun _ ρ h K=>zW K (iY (ρ m) (ρ s) (ρ x) h)
 |.range t x=>fun P ρ h K=>af (J4 P t) fun o=>vE K (mu o (ρ x) h)
 |.entry x=>fun _ ρ h K=>ku h K (sC (ρ x) h)
 |.extract t i=>fun _ ρ h K=>ku h K (bx (ρ t) i)
 |.typeAssert x _ a ok=>fun P ρ h K=>af (Bn P a ok) fun z=>ku h K (Bl a z (ρ x))
 |.call c=>sE c
 |_=>fun _ _ _ _=>false
inductive Kind where
 |pure|read|alloc|JO
 deriving DecidableEq
def eZ:Callee->Kind
 |.builtin .len=>.read
 |.builtin .min=>.pure
 |.builtin .max=>.pure
 |_=>.JO
def fc:Op->Kind
 |.move _|.assign _|.pick ..|.build ..|.nilCheck _|.binOp ..|.unOp ..|.makeInterface ..|.makeFunc ..|.slice ..|.fieldAddr ..|.field ..|.indexAddr ..|.index ..|.extract ..|.typeAssert ..=>.pure
 |.load ..|.lookup ..=>.read
 |.alloc _|.box ..|.buildSlice ..|.makeMap ..|.makeSlice ..=>.alloc
 |.call c=>eZ c.callee
 |_=>.JO
inductive AX where
 |normal
 |exit (id:Nat)
 |ret
 |panic (v:AV)
inductive Out where
 |ret (v:AV)
 |panic (v:AV)
structure oV where
 f:FuncId
 args:List AV
 cap:List AV
abbrev Env:=Nat->AV
def aa(env:Env)(d:Nat)(v:AV):Env:=fun j=>@Bool.rec (fun _=>AV) (env j) v (Nat.beq j d)
structure St where
 env:Env
 n:Nat
 defs:List oV
 h:Heap
def l8(env:Env)(n:Nat)(dst:Option Tmp)(v:AV):Env:=
 match dst with
 |some d=>if d<n then aa env d v else env
 |none=>env
def ir(env:Env)(n:Nat)(dst:Option Tmp)(v:AV)(k:Env->Bool):Bool:=
 match dst with
 |some d=>@Bool.rec (fun _=>Bool) false (k (aa env d v)) (ble (d+1) n)
 |none=>k env
def St.Vk(s:St)(h:Heap)(dst:Option Tmp)(v:AV):St:=⟨l8 s.env s.n dst v,s.n,s.defs,h⟩
def evalArg(env:Env):Operand->AV
 |.tmp t=>env t
 |.const v=>ofConst v
 |.global _=>.undef
 |.func f=>.func f [] []
inductive R where
 |ok (v:AV) (defs:List oV) (h:Heap)
 |panic (v:AV) (h:Heap)
inductive RS where
 |ok (s:St)
 |panic (v:AV) (s:St)
abbrev jI:=FuncId->List AV->Heap->(Out->Heap->Bool)->Bool
def iQ(ops:List Oper)(o:Oper)(env:Env):Option Bool:=
 match o.guard with
 |none=>some true
 |some (j,want)=>
  match ops[j]? with
  |some g=>(match g.dst with
   |some d=>(match env d with
    |.bool b=>some (b==want)
    |.tuple _=>some false
    |_=>none)
   |none=>none)
  |none=>none
abbrev Vl:=Program->jI->Env->List oV->Heap->(R->Bool)->Bool
def XO(defs:List oV)(K:R->Bool):Out->Heap->Bool
 |.ret v,h'=>K (.ok v defs h')
 |.panic v,h'=>K (.panic v h')
def oW(op:Op):Vl:=fun P _ env defs h K=>gI op P (evalArg env) h fun v h'=>K (.ok v defs h')
def Bp(f:Operand)(args:List Operand):Vl:=fun _ call env defs h K=>match evalArg env f with
 |.func g first cap=>call g (first++(args.map (evalArg env)++cap)) h (XO defs K)
 |_=>false
def v7(c:Call):Vl:=match c.callee with
 |.value f=>Bp f c.args.toList
 |_=>oW (.call c)
def xo(c:Call):Vl:=fun _ _ env defs h K=>match c.callee with
 |.value f=>(match evalArg env f with
  |.func g first cap=>K (.ok bI (⟨g,first++c.args.toList.map (evalArg env),cap⟩ :: defs) h)
  |_=>false)
 |_=>false
def xp(x:Operand):Vl:=fun _ _ env _ h K=>match evalArg env x with
 |.iface t v=>K (.panic (.iface t v) h)
 |_=>false
def lK(defs:List oV)(K:R->Bool):List (AV×Heap)->Bool
 |[]=>true
 |p :: ps=>K (.ok p.1 defs p.2)&&lK defs K ps
def Gr(x:Operand)(b:Bool):Vl:=fun _ _ env defs h K=>af (xm b (evalArg env x) h) (lK defs K)
def jb:Op->Vl
 |.call c=>v7 c
 |.defer c=>xo c
 |.panic x=>xp x
 |.next x b=>Gr x b
 |op=>oW op
def mM(P:Program)(call:jI)(ops:List Oper):List Oper->St->(RS->Bool)->Bool
 |[],s,K=>K (.ok s)
 |o :: rest,⟨env,n,defs,h⟩,K=>
  match iQ ops o env with
  |some true=>jb o.op P call env defs h fun
   |.ok v defs h=>ir env n o.dst v fun env=>mM P call ops rest ⟨env,n,defs,h⟩ K
   |.panic v h=>K (.panic v ⟨env,n,defs,h⟩)
  |some false=>ir env n o.dst bI fun env=>mM P call ops rest ⟨env,n,defs,h⟩ K
  |none=>false
def mZ(acc:List Nat):List Edge->Nat
 |[]=>0
 |e :: es=>if Region.binds .any e then (2 ^ e.on ||| acc.getD e.on 0) ||| mZ acc es else mZ acc es
def m4:List Oper->List Nat->List Nat
 |[],acc=>acc
 |o :: os,acc=>m4 os (acc++[mZ acc o.after.toList])
def mR(ops:List Oper):List Nat:=m4 ops []
def Bq(ms:List Nat)(i j:Nat):Bool:=(ms.getD i 0).testBit j
def rL(o:Oper):Bool:=match fc o.op with|.JO=>true|_=>false
def uk:List Oper->Nat->List (Nat×Oper)
 |[],_=>[]
 |o :: os,i=>(i,o) :: uk os (i+1)
def Gs:List (Nat×Oper)->List Nat
 |[]=>[]
 |p :: ps=>if rL p.2 then p.1 :: Gs ps else Gs ps
def xq(ms:List Nat)(i:Nat):List Nat->Nat
 |[]=>0
 |j :: js=>if Bq ms i j then xq ms i js+1 else xq ms i js
def Br(ms:List Nat)(D8:List Nat)(L:List (Nat×Oper)):Nat->Nat->List (Nat×Oper)
 |0,k=>L.filter fun p=>!rL p.2&&xq ms p.1 D8==k
 |n+1,k=>(L.filter fun p=>!rL p.2&&xq ms p.1 D8==k)++((L.filter fun p=>rL p.2&&xq ms p.1 D8==k)++Br ms D8 L n (k+1))
def pK(ops:List Oper)(o:Oper):List Tmp:=
 (o.op.operands.toList.filterMap fun|.tmp t=>some t|_=>none) ++
 (match o.guard with
  |some (g,_)=>(match ops[g]? with|some p=>p.dst.toList|none=>[])
  |none=>[])
def J7(ops:List Oper)(ms:List Nat)(a b:Nat×Oper):Bool:=
 a.1 != b.1&&(!(Bq ms a.1 b.1)&&((!rL a.2||Bq ms b.1 a.1) &&
 ((match a.2.dst with
   |some d=>(match b.2.dst with|some e=>d != e|none=>true)&&(!((pK ops b.2).contains d)||Bq ms b.1 a.1)
   |none=>true) &&
  (match b.2.dst with
   |some d=>!((pK ops a.2).contains d)||Bq ms b.1 a.1
   |none=>true))))
def Bt(ops:List Oper)(ms:List Nat):List (Nat×Oper)->Bool
 |[]=>true
 |p :: ps=>ps.all (J7 ops ms p)&&Bt ops ms ps
def Bu(L:List (Nat×Oper)):Nat->Bool
 |0=>true
 |n+1=>L.any (fun p=>p.1==n)&&Bu L n
structure Vm where
 ms:List Nat
 L:List (Nat×Oper)
def OI(ops:List Oper)(ms:List Nat):List (Nat×Oper):=Br ms (Gs (uk ops 0)) (uk ops 0) (Gs (uk ops 0)).length 0
def Bv:List Oper->Nat->Bool
 |[],_=>true
 |o :: os,i=>o.after.toList.all (fun e=>!Region.binds .any e||decide (e.on<i))&&Bv os (i+1)
def HD(ops:List Oper):Option Vm:=
 if Bv ops 0&&Bt ops (mR ops) (OI ops (mR ops))&&Bu (OI ops (mR ops)) ops.length then some ⟨mR ops,OI ops (mR ops)⟩ else none
structure Read where
 i:Nat
 op:Op
 env:Env
 v:AV
def sameAt(P:Program)(op:Op)(env:Env)(v:AV)(h:Heap):Bool:=gI op P (evalArg env) h fun v' _=>AV.beq v' v
def jt(P:Program)(ms:List Nat)(i:Nat)(h:Heap):List Read->Bool
 |[]=>true
 |r :: rs=>if Bq ms i r.i then jt P ms i h rs else sameAt P r.op r.env r.v h&&jt P ms i h rs
def fE(P:Program)(call:jI)(ops:List Oper)(ms:List Nat):List (Nat×Oper)->List Read->St->(St->Bool)->Bool
 |[],_,s,K=>K s
 |p :: rest,lg,⟨env,n,defs,h⟩,K=>
  match iQ ops p.2 env with
  |some true=>
   match fc p.2.op with
   |.pure=>gI p.2.op P (evalArg env) h fun v _=>ir env n p.2.dst v fun eC=>fE P call ops ms rest lg ⟨eC,n,defs,h⟩ K
   |.read=>gI p.2.op P (evalArg env) h fun v _=>ir env n p.2.dst v fun eC=>fE P call ops ms rest (⟨p.1,p.2.op,env,v⟩ :: lg) ⟨eC,n,defs,h⟩ K
   |.alloc=>gI p.2.op P (evalArg env) h fun v h'=>ir env n p.2.dst v fun eC=>fE P call ops ms rest lg ⟨eC,n,defs,h'⟩ K
   |.JO=>
    jb p.2.op P call env defs h fun
     |.ok v jJ h'=>if jt P ms p.1 h' lg then ir env n p.2.dst v fun eC=>fE P call ops ms rest lg ⟨eC,n,jJ,h'⟩ K else false
     |.panic _ _=>false
  |some false=>ir env n p.2.dst bI fun eC=>fE P call ops ms rest lg ⟨eC,n,defs,h⟩ K
  |none=>false
def aC:List AV->Env
 |[],_=>bI
 |v :: _,0=>v
 |_ :: vs,i+1=>aC vs i
def J8(env:Env):Nat->Nat->List AV
 |0,_=>[]
 |n+1,i=>env i :: J8 env n (i+1)
def St.tab:St->St
 |⟨env,n,defs,h⟩=>⟨aC (J8 env n 0),n,defs,h⟩
def iter(f:St->(AX->St->Bool)->Bool)(K:AX->St->Bool):Nat->St->Bool
 |0,_=>false
 |n+1,s=>f s fun
  |.normal,s'=>iter f K n s'.tab
  |e,s'=>K e s'
def evalCode(P:Program)(call:jI)(rounds:Nat):Code->St->(AX->St->Bool)->Bool
 |.skip,s,K=>K .normal s
 |.region _ ops draw,s,K=>
  if draw then af (HD ops.toList) fun p=>fE P call ops.toList p.ms p.L [] s fun s'=>K .normal s'
  else mM P call ops.toList ops.toList s fun
   |.ok s'=>K .normal s'
   |.panic v s'=>K (.panic v) s'
 |.seq a b,s,K=>evalCode P call rounds a s fun
  |.normal,s'=>evalCode P call rounds b s' K
  |e,s'=>K e s'
 |.cond c a b,s,K=>
  match evalArg s.env c with
  |.bool true=>evalCode P call rounds a s K
  |.bool false=>evalCode P call rounds b s K
  |_=>false
 |.block id c,s,K=>evalCode P call rounds c s fun
  |.exit MO,s'=>if MO=id then K .normal s' else K (.exit MO) s'
  |e,s'=>K e s'
 |.loop c,s,K=>iter (evalCode P call rounds c) K rounds s
 |.exit id,s,K=>K (.exit id) s
 |.ret,s,K=>K .ret s
 |_,_,_=>false
abbrev xu:=FuncId->Option (List AV->Heap->(Out->Heap->Bool)->Bool)
abbrev pL:=FuncId->Option (List AV->Option AV->Heap->(Option AV->Heap->Bool)->Bool)
def Bw(P:Program)(s:St):ResultVar->Option AV
 |.tmp t=>some (s.env t)
 |.cell a t=>(match vA P t with|some i=>ag i (s.env a) s.h|none=>none)
def dw(P:Program)(s:St):List ResultVar->Option (List AV)
 |[]=>some []
 |r :: rs=>match Bw P s r,dw P s rs with
  |some v,some vs=>some (v :: vs)
  |_,_=>none
def oneOf:List AV->AV
 |[v]=>v
 |vs=>.tuple vs
def leave(P:Program)(D:pL)(rs:List ResultVar)(K:Out->Heap->Bool):List oV->Option AV->St->Bool
 |[],none,s=>af (dw P s rs) fun vs=>K (.ret (oneOf vs)) s.h
 |[],some v,s=>K (.panic v) s.h
 |d :: ds,HE,s=>
  match D d.f with
  |some g=>g (d.args++d.cap) HE s.h fun rX h'=>leave P D rs K ds rX ⟨s.env,s.n,s.defs,h'⟩
  |none=>false
def aS(P:Program)(D:pL)(rs:List ResultVar)(K:Out->Heap->Bool):AX->St->Bool
 |.normal,s'=>leave P D rs K s'.defs none s'
 |.ret,s'=>leave P D rs K s'.defs none s'
 |.panic v,s'=>leave P D rs K s'.defs (some v) s'
 |.exit _,_=>false
def OJ(P:Program)(D:pL)(call:jI)(rounds:Nat)(fn:Func)(args:List AV)(h:Heap)(K:Out->Heap->Bool):Bool:=
 match fn.body with
 |none=>false
 |some c=>evalCode P call rounds c ⟨aC args,fn.ntmps,[],h⟩ (aS P D fn.results.toList K)
def bP(P:Program)(F:xu)(D:pL):Nat->FuncId->List AV->Heap->(Out->Heap->Bool)->Bool
 |0,_,_,_,_=>false
 |n+1,f,args,h,K=>
  match F f with
  |some g=>g args h K
  |none=>
   match P.funcs[f]? with
   |none=>false
   |some fn=>if decide (args.length<=fn.ntmps)&&fn.name != "runtime.NumGoroutine" then OJ P D (bP P F D n) n fn args h K else false
mutual
def BX:Code->Nat
 |.skip=>1
 |.region _ _ _=>1
 |.seq a b=>BX a*BX b
 |.cond _ a b=>BX a+BX b
 |.block id c=>BX c+um id c
 |_=>0
def um(id:Nat):Code->Nat
 |.seq a b=>um id a+BX a*um id b
 |.cond _ a b=>um id a+um id b
 |.block _ c=>um id c
 |.exit i=>@Bool.rec (fun _=>Nat) 0 1 (Nat.beq i id)
 |_=>0
end
def BY:Code->Nat
 |.region _ ops _=>ops.toList.length
 |.seq a b=>BY a+BY b
 |.cond _ a b=>BY a+BY b+1
 |.block _ c=>BY c
 |.loop c=>BY c+10
 |_=>1
def HF:List Oper->Bool
 |[]=>false
 |o :: os=>match o.guard with|some _=>true|none=>HF os
def OK:Code->Bool
 |.cond _ _ _=>true
 |.seq a _=>OK a
 |_=>false
def Vn(a b:Code):Bool:=
 @Bool.rec (fun _=>Bool) false (match a with
  |.region _ ops _=>HF ops.toList&&!OK b
  |a=>ble 2 (BX a)) (ble 12 (BY b))
end
end Go.AM