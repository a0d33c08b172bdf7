/- The abstract machine: a deterministic evaluator over the model's Code. Conditions: none; definitions alone. -/
import Derived.Test.YtfdanacohcffmaaGreatKp1
import Derived.Calls
import GoSem.Core.Utf8
import Derived.Orders
set_option linter.unusedVariables false
namespace Go.AM
open List Nat Bool Option
open Go
noncomputable section
inductive AV where
 |undef
 |bool (b:Bool)
 |int (k:IntKind) (n:Int)
 |str (s:List UInt8)
 |eZ
 |ptr (b off:Nat)
 |dL (cs:List AV) (off:Nat)
 |ai
 |slice (b off len sz:Nat)
 |ax (cs:List AV) (off len sz:Nat)
 |mH
 |map (b:Nat)
 |rP
 |func (f:FuncId) (first cap:List AV)
 |uy
 |iface (t:TypeId) (v:AV)
 |agg (cs:List AV)
 |tuple (vs:List AV)
 deriving Inhabited
mutual
def AV.beq:AV->AV->Bool
 |.undef,.undef=>true
 |.bool a,.bool b=>a==b
 |.int k a,.int j b=>decide (k=j)&&decide (a=b)
 |.str a,.str b=>decide (a=b)
 |.eZ,.eZ=>true
 |.ptr a i,.ptr b j=>a==b&&i==j
 |.dL a i,.dL b j=>AV.B0 a b&&i==j
 |.ai,.ai=>true
 |.slice a i l s,.slice b j m t=>a==b&&i==j&&l==m&&s==t
 |.ax a i l s,.ax b j m t=>AV.B0 a b&&i==j&&l==m&&s==t
 |.mH,.mH=>true
 |.map a,.map b=>a==b
 |.rP,.rP=>true
 |.func f a b,.func g c d=>f==g&&AV.B0 a c&&AV.B0 b d
 |.uy,.uy=>true
 |.iface t a,.iface u b=>t==u&&AV.beq a b
 |.agg a,.agg b=>AV.B0 a b
 |.tuple a,.tuple b=>AV.B0 a b
 |_,_=>false
def AV.B0:List AV->List AV->Bool
 |[],[]=>true
 |a :: as,b :: bs=>AV.beq a b&&AV.B0 as bs
 |_,_=>false
end
inductive mI where
 |dead
 |cells (cs:List AV)
 |map (es:List (AV×AV×Nat)) (clock:Nat)
 |GD (s:List UInt8) (pos:Nat)
 |iT (m:Option Nat) (since:Nat) (seen:List Nat) (SL:Nat)
 |box (v:AV)
 deriving Inhabited
inductive Trie (α:Type) where
 |leaf
 |node (v:Option α) (l r:Trie α)
 deriving Inhabited
def Trie.get{α:Type}:Trie α->Nat->Option α
 |.leaf,_=>none
 |.node v l r,n=>match n with
  |0=>v
  |m+1=>if m%2=0 then l.get (m/2) else r.get (m/2)
def Trie.val{α:Type}:Trie α->Option α
 |.leaf=>none
 |.node v _ _=>v
def Trie.left{α:Type}:Trie α->Trie α
 |.leaf=>.leaf
 |.node _ l _=>l
def Trie.right{α:Type}:Trie α->Trie α
 |.leaf=>.leaf
 |.node _ _ r=>r
def Trie.QC{α:Type}(o:α):Nat->Trie α->Nat->Trie α
 |0,t,_=>.node (some o) t.left t.right
 |f+1,t,n=>match n with
  |0=>.node (some o) t.left t.right
  |m+1=>if m%2=0 then .node t.val (QC o f t.left (m/2)) t.right else .node t.val t.left (QC o f t.right (m/2))
def Trie.set{α:Type}(t:Trie α)(n:Nat)(o:α):Trie α:=Trie.QC o n t n
structure Heap where
 next:Nat
 tab:Trie mI
 deriving Inhabited
def Heap.get(h:Heap)(b:Nat):Option mI:=h.tab.get b
def Heap.set(h:Heap)(b:Nat)(o:mI):Heap:=⟨h.next,h.tab.set b o⟩
def Heap.alloc(h:Heap)(o:mI):Heap:=⟨h.next+1,h.tab.set h.next o⟩
def Heap.empty:Heap:=⟨0,.leaf⟩
def aa{α:Type}(o:Option α)(f:α->Bool):Bool:=
 match o with
 |some a=>f a
 |none=>false
def ru:Value->AV
 |.bool b=>.bool b
 |.int k n=>.int k n
 |.string s=>.str s.data.toList
 |.pointer none=>.eZ
 |.slice none 0 0=>.ai
 |.map none=>.mH
 |.nilFunc=>.rP
 |.nilIface=>.uy
 |_=>.undef
def ofConst:Value->AV
 |.agg cs=>.agg (cs.toList.map ru)
 |v=>ru v
def AV.dX:AV->List AV
 |.agg cs=>cs
 |v=>[v]
def bz:AV:=.tuple []
def AV.one:AV->Bool
 |.agg _|.tuple _|.undef=>false
 |_=>true
def aW:List AV->Bool
 |[]=>true
 |c :: cs=>c.one&&aW cs
section
variable (P:Program)
def sW(t:TypeId):Option Nat:=match P.info? t with|some i=>some i.size|none=>none
def V3(t:TypeId):Option Nat:=match P.info? t with|some i=>some i.bytes|none=>none
def Ev(t:TypeId):Option AV:=match P.info? t with
 |some i=>(match i.zero with|some z=>some (ofConst z)|none=>none)
 |none=>none
def AH(t:TypeId):Option (Option Nat):=match P.underlying t with
 |some (.struct _)|some (.array _ _)=>(match sW P t with|some n=>some (some n)|none=>none)
 |some _=>some none
 |none=>none
def SM(t:TypeId):Option TypeId:=match P.underlying t with|some (.slice e)=>some e|_=>none
def LM(t:TypeId)(i:Nat):Option Field:=match P.underlying t with|some (.struct fs)=>fs[i]?|_=>none
def Nx(t:TypeId):Option (TypeDesc×TypeId):=match P.underlying t with
 |some (.map k e)=>(match P.underlying k with|some d=>some (d,e)|none=>none)
 |_=>none
end
def qD(P:Program)(t:TypeId):Option (List AV):=
 match Ev P t with
 |some z=>if aW z.dX then some z.dX else none
 |none=>none
def kQ(i:Option Nat)(cs:List AV)(off:Nat):Option AV:=
 match i with
 |none=>cs[off]?
 |some n=>if off+n<=cs.length then some (.agg ((cs.drop off).take n)) else none
def eW{α:Type}:List α->Nat->List α->List α
 |cs,_,[]=>cs
 |cs,off,v :: vs=>eW (cs.set off v) (off+1) vs
def eG(x:AV):Option (List AV):=if aW x.dX then some x.dX else none
def SN(c a b:AV):Option AV:=
 match c with
 |.bool t=>some (if t then a else b)
 |_=>none
def au(i:Option Nat)(x:AV)(h:Heap):Option AV:=
 match x with
 |.ptr b off=>(match h.get b with|some (.cells cs)=>kQ i cs off|_=>none)
 |.dL cs off=>kQ i cs off
 |_=>none
def aS(n:Nat)(x v:AV)(h:Heap):Option Heap:=
 match x with
 |.ptr b off=>(match h.get b with
  |some (.cells cs)=>if v.dX.length=n&&aW v.dX&&decide (off+n<=cs.length) then some (h.set b (.cells (eW cs off v.dX))) else none
  |_=>none)
 |_=>none
def aJ:AV->Option AV
 |.ptr b i=>some (.ptr b i)
 |.dL c i=>some (.dL c i)
 |.func f a b=>some (.func f a b)
 |_=>none
def GF(right:Bool)(x y:AV):Option AV:=
 match x,y with
 |.int k a,.int _ b=>if b<0 then none else some (.int k (if right then a.fdiv (2 ^ (min b.toNat k.bits)) else k.wrap (a*2 ^ (min b.toNat k.bits))))
 |_,_=>none
def V4(op:BinOp)(x y:AV):Option AV:=
 match x,y with
 |.int k a,.int k' b=>
  if k=k' then
   match op with
   |.and=>some (.int k (k.wrap (BitVec.ofInt k.bits a &&& BitVec.ofInt k.bits b).toNat))
   |.or=>some (.int k (k.wrap (BitVec.ofInt k.bits a ||| BitVec.ofInt k.bits b).toNat))
   |.xor=>some (.int k (k.wrap (BitVec.ofInt k.bits a ^^^ BitVec.ofInt k.bits b).toNat))
   |_=>none
  else none
 |_,_=>none
def aF(op:BinOp)(x y:AV):Option AV:=
 match op with
 |.shr=>GF true x y
 |.shl=>GF false x y
 |.and=>V4 .and x y
 |.or=>V4 .or x y
 |.xor=>V4 .xor x y
 |op=>match x,y with
 |.int k a,.int k' b=>
  if k=k' then
   match op with
   |.add=>some (.int k (k.wrap (a+b)))
   |.sub=>some (.int k (k.wrap (a-b)))
   |.mul=>some (.int k (k.wrap (a*b)))
   |.quo=>if b=0 then none else some (.int k (k.wrap (a.tdiv b)))
   |.rem=>if b=0 then none else some (.int k (a.tmod b))
   |.lss=>some (.bool (decide (a<b)))
   |.leq=>some (.bool (decide (a<=b)))
   |.gtr=>some (.bool (decide (a>b)))
   |.geq=>some (.bool (decide (a>=b)))
   |_=>none
  else none
 |.str a,.str b=>
  match op with
  |.add=>if a.length+b.length<=4611686018427387904 then some (.str (a++b)) else none
  |.lss=>some (.bool (Op.bytesLess a b))
  |.leq=>some (.bool (Op.bytesLess a b||a==b))
  |.gtr=>some (.bool (!(Op.bytesLess a b||a==b)))
  |.geq=>some (.bool (!(Op.bytesLess a b)))
  |_=>none
 |_,_=>none
def Yy(d:TypeDesc)(x y:AV):Option Bool:=
 match x,y with
 |.int k a,.int k' b=>if k=k' then some (a==b) else none
 |.str a,.str b=>some (a==b)
 |.bool a,.bool b=>(match d with|.bool=>some (a==b)|_=>none)
 |.eZ,.eZ=>(match d with|.pointer _=>some true|_=>none)
 |.ptr _ _,.eZ|.eZ,.ptr _ _|.dL _ _,.eZ|.eZ,.dL _ _=>(match d with|.pointer _=>some false|_=>none)
 |.ai,.ai=>(match d with|.slice _=>some true|_=>none)
 |.slice _ _ _ _,.ai|.ai,.slice _ _ _ _|.ax _ _ _ _,.ai|.ai,.ax _ _ _ _=>(match d with|.slice _=>some false|_=>none)
 |.mH,.mH=>(match d with|.map _ _=>some true|_=>none)
 |.map _,.mH|.mH,.map _=>(match d with|.map _ _=>some false|_=>none)
 |.rP,.rP=>(match d with|.func _ _ _=>some true|_=>none)
 |.func _ _ _,.rP|.rP,.func _ _ _=>(match d with|.func _ _ _=>some false|_=>none)
 |_,_=>none
def jC(d:TypeDesc)(x y:AV):Option AV:=match Yy d x y with|some b=>some (.bool b)|none=>none
def qE(d:TypeDesc)(x y:AV):Option AV:=match Yy d x y with|some b=>some (.bool (!b))|none=>none
def mh(op:UnOp)(x:AV):Option AV:=
 match op,x with
 |.neg,.int k n=>some (.int k (k.wrap (0-n)))
 |.not,.bool b=>some (.bool (!b))
 |_,_=>none
def asNat(x:AV):Option Nat:=
 match x with
 |.int _ n=>if 0<=n then some n.toNat else none
 |_=>none
def AI(d:TypeDesc)(x y:AV):Option Bool:=
 match d,x,y with
 |.int _,.int k a,.int k' b=>if k=k' then some (a==b) else none
 |.string,.str a,.str b=>some (a==b)
 |.bool,.bool a,.bool b=>some (a==b)
 |_,_,_=>none
abbrev Entry:=AV×AV×Nat
def mO(d:TypeDesc)(k:AV):List Entry->Nat->Option (Option (Nat×AV))
 |[],_=>some none
 |e :: es,i=>
  match AI d k e.1 with
  |some true=>some (some (i,e.2.1))
  |some false=>mO d k es (i+1)
  |none=>none
def uT(d:TypeDesc)(k:AV):Bool:=
 match d,k with
 |.int _,.int _ _=>true
 |.string,.str _=>true
 |.bool,.bool _=>true
 |_,_=>false
def uU(d:TypeDesc)(k:AV)(es:List Entry):Option (Option (Nat×AV)):=if uT d k then mO d k es 0 else none
def gW(sz n:Nat)(x:AV)(h:Heap):Option (List AV):=
 match x with
 |.ai=>if n=0 then some [] else none
 |.slice b off _ s=>
  if s=sz then (match h.get b with
   |some (.cells cs)=>if off+n*sz<=cs.length then some ((cs.drop off).take (n*sz)) else none
   |_=>none) else none
 |.ax cs off _ s=>if s=sz&&decide (off+n*sz<=cs.length) then some ((cs.drop off).take (n*sz)) else none
 |.str s=>if sz=1 then some ((s.take n).map fun b=>.int .u8 b.toNat) else none
 |_=>none
def lJ:AV->Option Nat
 |.ai=>some 0
 |.slice _ _ n _=>some n
 |.ax _ _ n _=>some n
 |.str s=>some s.length
 |_=>none
def cz:Nat:=140737488355328
def bB(sz bytes:Nat)(s x:AV)(h:Heap):Option (AV×Heap):=
 match lJ x with
 |none=>none
 |some n=>match gW sz n x h with
  |none=>none
  |some new=>
   match s with
   |.ai=>
    if n=0 then some (.ai,h) else
    if n*bytes<=cz&&aW new then some (.slice h.next 0 n sz,h.alloc (.cells new)) else none
   |.slice b off len s'=>
    if s'=sz then
     if n=0 then some (.slice b off len s',h) else
     match h.get b with
     |some (.cells cs)=>
      if (len+n)*bytes<=cz&&aW new&&decide (off+len*sz<=cs.length) then
       some (.slice h.next 0 (len+n) sz,(h.set b .dead).alloc (.cells ((cs.drop off).take (len*sz)++new)))
      else none
     |_=>none
    else none
   |_=>none
def Ew(sz:Nat)(dst src:AV)(h:Heap):Option (AV×Heap):=
 match lJ src with
 |none=>none
 |some m=>match dst with
  |.ai=>some (.int .i64 0,h)
  |.slice b off len s'=>
   if s'=sz then
    match gW sz (Nat.min m len) src h with
    |some new=>match h.get b with
     |some (.cells cs)=>
      if aW new&&decide (off+Nat.min m len*sz<=cs.length)&&decide (new.length=Nat.min m len*sz) then
       some (.int .i64 (Nat.min m len),h.set b (.cells (eW cs off new)))
      else none
     |_=>none
    |none=>none
   else none
  |_=>none
def pH(x:Option AV)(alu:Nat):Option Nat:=
 match x with
 |none=>some alu
 |some v=>asNat v
def fR(i:Option Nat)(x:AV)(lo hi:Option AV):Option AV:=
 match lJ x with
 |none=>none
 |some len=>match pH hi len,pH lo 0 with
  |some hi,some lo=>
   if lo<=hi&&decide (hi<=len) then
    match i,x with
    |none,.str s=>some (.str ((s.take hi).drop lo))
    |some _,.ai=>some .ai
    |some n,.slice b off _ sz=>if n=sz then some (.slice b (off+lo*sz) (hi-lo) sz) else none
    |some n,.ax cs off _ sz=>if n=sz then some (.ax cs (off+lo*sz) (hi-lo) sz) else none
    |_,_=>none
   else none
  |_,_=>none
def ja(off:Nat)(x:AV):Option AV:=
 match x with
 |.ptr b o=>some (.ptr b (o+off))
 |.dL cs o=>some (.dL cs (o+off))
 |_=>none
def LN(i:Option Nat)(off:Nat)(x:AV):Option AV:=
 match x with
 |.agg cs=>kQ i cs off
 |_=>none
def jw(n:Nat)(x i:AV):Option AV:=
 match asNat i with
 |none=>none
 |some i=>match x with
  |.slice b off len sz=>if i<len&&n==sz then some (.ptr b (off+i*sz)) else none
  |.ax cs off len sz=>if i<len&&n==sz then some (.dL cs (off+i*sz)) else none
  |_=>none
def V5(len n:Nat)(x i:AV):Option AV:=
 match asNat i with
 |none=>none
 |some i=>match x with
  |.ptr b off=>if i<len then some (.ptr b (off+i*n)) else none
  |.dL cs off=>if i<len then some (.dL cs (off+i*n)) else none
  |_=>none
inductive IaK where
 |sl (n:Nat)|arr (len n:Nat)
def iaV(k:IaK)(x i:AV):Option AV:=match k with|.sl n=>jw n x i|.arr len n=>V5 len n x i
def oA(x i:AV):Option AV:=
 match x,asNat i with
 |.str s,some i=>(match s[i]? with|some b=>some (.int .u8 b.toNat)|none=>none)
 |_,_=>none
def SO(len n:Nat)(r:Option Nat)(x i:AV):Option AV:=
 match x,asNat i with
 |.agg cs,some i=>if i<len then kQ r cs (i*n) else none
 |_,_=>none
def ry(m:AV)(h:Heap):Option (List Entry):=
 match m with
 |.mH=>some []
 |.map b=>(match h.get b with|some (.map es _)=>some es|_=>none)
 |_=>none
def eO(d:TypeDesc)(z:AV)(ok:Bool)(m k:AV)(h:Heap):Option AV:=
 match ry m h with
 |none=>none
 |some es=>match uU d k es with
  |some (some (_,v))=>some (if ok then .tuple [v,.bool true] else v)
  |some none=>some (if ok then .tuple [z,.bool false] else z)
  |none=>none
def gX(es:List Entry)(i:Nat)(v:AV):List Entry:=
 match es[i]? with
 |some e=>es.set i (e.1,v,e.2.2)
 |none=>es
def fX(d:TypeDesc)(m k v:AV)(h:Heap):Option Heap:=
 match m with
 |.map b=>(match h.get b with
  |some (.map es ck)=>(match uU d k es with
   |some (some (i,_))=>some (h.set b (.map (gX es i v) ck))
   |some none=>some (h.set b (.map (es++[(k,v,ck)]) (ck+1)))
   |none=>none)
  |_=>none)
 |_=>none
def LO(es:List Entry)(i:Nat):Nat:=match es[i]? with|some e=>e.2.2|none=>0
def oQ(d:TypeDesc)(z:AV)(m k:AV)(h:Heap):Option (AV×Heap):=
 match m with
 |.map b=>(match h.get b with
  |some (.map es ck)=>(match uU d k es with
   |some (some (i,v))=>some (.tuple [v,.int .i64 (LO es i)],h)
   |some none=>some (.tuple [z,.int .i64 ck],h.set b (.map (es++[(k,z,ck)]) (ck+1)))
   |none=>none)
  |_=>none)
 |_=>none
def sX(n:Int):List Entry->Nat->Option Nat
 |[],_=>none
 |e :: es,i=>if (e.2.2:Int)=n then some i else sX n es (i+1)
def lM(m s v:AV)(h:Heap):Option Heap:=
 match m,s with
 |.map b,.int _ n=>(match h.get b with
  |some (.map es ck)=>(match sX n es 0 with
   |some i=>some (h.set b (.map (gX es i v) ck))
   |none=>none)
  |_=>none)
 |_,_=>none
def LP(d:TypeDesc)(m k:AV)(h:Heap):Option Heap:=
 match m with
 |.mH=>if uT d k then some h else none
 |.map b=>(match h.get b with
  |some (.map es ck)=>(match uU d k es with
   |some (some (i,_))=>some (h.set b (.map (es.eraseIdx i) ck))
   |some none=>some (h.set b (.map es ck))
   |none=>none)
  |_=>none)
 |_=>none
inductive ac7 where
 |str|slice|map|array (n:Nat)
def bK(i:ac7)(x:AV)(h:Heap):Option AV:=
 match i,x with
 |.str,.str s=>some (.int .i64 s.length)
 |.slice,.ai=>some (.int .i64 0)
 |.slice,.slice _ _ n _=>some (.int .i64 n)
 |.slice,.ax _ _ n _=>some (.int .i64 n)
 |.map,.mH=>some (.int .i64 0)
 |.map,.map b=>(match h.get b with|some (.map es _)=>some (.int .i64 es.length)|_=>none)
 |.array n,_=>some (.int .i64 n)
 |_,_=>none
def QD(mx:Bool)(x y:AV):Option AV:=
 match x,y with
 |.int k a,.int k' b=>if k=k' then some (.int k (if mx then (if b>a then b else a) else (if b<a then b else a))) else none
 |_,_=>none
def AJ(mx:Bool):AV->List AV->Option AV
 |x,[]=>some x
 |x,y :: ys=>match QD mx x y with
  |some v=>AJ mx v ys
  |none=>none
inductive V6 where
 |int (k:IntKind)|str|bytes|string
def bytesOf:List AV->Option (List UInt8)
 |[]=>some []
 |.int .u8 n :: cs=>(match bytesOf cs with|some bs=>some (UInt8.ofNat n.toNat :: bs)|none=>none)
 |_=>none
def mj(i:V6)(x:AV)(h:Heap):Option (AV×Heap):=
 match i,x with
 |.int k,.int _ n=>some (.int k (k.wrap n),h)
 |.str,.str s=>some (.str s,h)
 |.bytes,.str s=>if zm=true/\s.length<=cz then some (.slice h.next 0 s.length 1,h.alloc (.cells (s.map fun b=>.int .u8 b.toNat))) else none
 |.string,.ai=>some (.str [],h)
 |.string,.slice b off n sz=>(match gW 1 n (.slice b off n sz) h with
  |some cs=>(match bytesOf cs with|some bs=>some (.str bs,h)|none=>none)
  |none=>none)
 |.string,.ax b off n sz=>(match gW 1 n (.ax b off n sz) h with
  |some cs=>(match bytesOf cs with|some bs=>some (.str bs,h)|none=>none)
  |none=>none)
 |_,_=>none
def sY(cells:List AV):List (Nat×Nat)->List AV->Option (List AV)
 |[],[]=>some cells
 |(off,n) :: ps,v :: vs=>
  if v.dX.length=n&&decide (off+n<=cells.length)&&aW v.dX then sY (eW cells off v.dX) ps vs else none
 |_,_=>none
def lU(zero:List AV):Nat->List AV
 |0=>[]
 |n+1=>zero++lU zero n
def eN(zs:List AV)(ps:List (Nat×Nat))(vs:List AV):Option (List AV):=
 match sY zs ps vs with
 |some cs=>if aW cs then some cs else none
 |none=>none
def iP(zs:List AV)(ps:List (Nat×Nat))(vs:List AV):Option AV:=
 match sY zs ps vs with
 |some cs=>some (.agg cs)
 |none=>none
def Dd(bytes:Nat)(len cap:AV):Option Nat:=
 match len,cap with
 |.int .i64 l,.int .i64 c=>if 0<=l&&decide (l<=c)&&decide (bytes*c<=140737488355328) then some l.toNat else none
 |_,_=>none
def gE(sz bytes:Nat)(z:List AV)(len cap:AV)(h:Heap):Option (AV×Heap):=
 match Dd bytes len cap with
 |some n=>some (.slice h.next 0 n sz,h.alloc (.cells (lU z n)))
 |none=>none
inductive QE where
 |str|map
def qF(i:QE)(x:AV)(h:Heap):Option (AV×Heap):=
 match i,x with
 |.str,.str s=>some (.ptr h.next 0,h.alloc (.GD s 0))
 |.map,.mH=>some (.ptr h.next 0,h.alloc (.iT none 0 [] 0))
 |.map,.map m=>(match h.get m with
  |some (.map _ ck)=>some (.ptr h.next 0,h.alloc (.iT (some m) ck [] ck))
  |_=>none)
 |_,_=>none
def oS(n:Nat):List Entry->Option Entry
 |[]=>none
 |e :: es=>if e.2.2=n then some e else oS n es
def xR(es:List Entry)(since:Nat)(seen:List Nat):List (Option Entry):=
 let left:=es.filter fun e=>!seen.contains e.2.2
 let jm:=left.filter fun e=>decide (e.2.2<since)
 let new:=left.filter fun e=>decide (e.2.2>=since)
 (if jm.isEmpty then [none] else [])++(jm++new).map some
def QF(r m since:Nat)(seen:List Nat)(ck:Nat)(h:Heap):Option Entry->AV×Heap
 |some e=>(.tuple [.bool true,e.1,e.2.1],h.set r (.iT (some m) since (seen++[e.2.2]) ck))
 |none=>(.tuple [.bool false],h)
def B3(isString:Bool)(x:AV)(h:Heap):Option (List (AV×Heap)):=
 match x with
 |.ptr r 0=>(match h.get r,isString with
  |some (.GD s pos),true=>
   if pos<s.length then
    some [(.tuple [.bool true,.int .i64 pos,.int .i32 (Utf8.decode ⟨s.toArray⟩ pos).1],h.set r (.GD s (pos+(Utf8.decode ⟨s.toArray⟩ pos).2)))]
   else some [(.tuple [.bool false],h)]
  |some (.iT none _ _ _),false=>some [(.tuple [.bool false],h)]
  |some (.iT (some m) since seen last),false=>(match h.get m with
   |some (.map es ck)=>
    if !seen.isEmpty&&!es.isEmpty&&es.all (fun e=>decide (e.2.2>=last)) then none else
    match xR es since seen with
    |[]=>none
    |c :: cs=>some ((c :: cs).map (QF r m since seen ck h))
   |_=>none)
  |_,_=>none)
 |_=>none
def xS(x:AV)(h:Heap):Option AV:=
 match x with
 |.ptr r 0=>(match h.get r with
  |some (.iT (some m) _ seen SL)=>(match seen.getLast?,h.get m with
   |some SP,some (.map es ck)=>
    if ck=SL then (match oS SP es with|some e=>some (.tuple [e.1,e.2.1])|none=>none) else none
   |_,_=>none)
  |_=>none)
 |_=>none
def Gj(a:TypeId)(z x:AV):Option AV:=
 match x with
 |.uy=>some (.tuple [z,.bool false])
 |.iface t v=>some (if t=a then .tuple [v,.bool true] else .tuple [z,.bool false])
 |_=>none
def bu(x:AV)(i:Nat):Option AV:=match x with|.tuple vs=>vs[i]?|_=>none
def V7(P:Program)(e:Option TypeId):Option (Nat×Nat):=
 match e with
 |none=>none
 |some e=>match sW P e,V3 P e with
  |some s,some b=>if 0<s&&decide (0<b) then some (s,b) else none
  |_,_=>none
def GG(P:Program)(t:TypeId):Option (Nat×Nat):=V7 P (SM P t)
def iaI(P:Program)(t:TypeId):Option IaK:=
 match P.underlying t with
 |some (.array len e)=>(match sW P e with|some s=>some (.arr len s)|none=>none)
 |_=>(match GG P t with|some o=>some (.sl o.1)|none=>none)
def GH(P:Program)(t:TypeId):Option (Nat×Nat×List AV):=
 match GG P t,SM P t with
 |some (s,b),some e=>(match qD P e with
  |some z=>if z.length=s then some (s,b,z) else none
  |none=>none)
 |_,_=>none
def SQ(GI:List (Nat×Nat)):List Nat->Option (List (Nat×Nat))
 |[]=>some []
 |i :: is=>match GI[i]?,SQ GI is with
  |some p,some ps=>some (p :: ps)
  |_,_=>none
def YS(P:Program)(fs:List Field):Option (List (Nat×Nat)):=fs.mapM fun f=>(P.info? f.type).map fun i=>(f.offset,i.size)
def LQ(P:Program)(t:TypeId)(is:List Nat):Option (List AV×List (Nat×Nat)):=
 match P.underlying t with
 |some (.struct fs)=>(match Ev P t,YS P fs.toList with
  |some z,some pl=>(match SQ pl is with|some ps=>if aW z.dX then some (z.dX,ps) else none|none=>none)
  |_,_=>none)
 |some (.array _ e)=>(match Ev P t,P.info? e with
  |some z,some ie=>if aW z.dX then some (z.dX,is.map fun i=>(i*ie.size,ie.size)) else none
  |_,_=>none)
 |_=>none
def YT(P:Program)(t:TypeId)(len:Nat)(is:List Nat):Option (Nat×List AV×List (Nat×Nat)):=
 match GH P t with
 |some (s,_,z)=>if len*s<=65536 then some (s,lU z len,is.map fun i=>(i*s,s)) else none
 |none=>none
def faI(P:Program)(t:TypeId)(i:Nat):Option Nat:=
 match LM P t i with
 |some f=>(match sW P f.type with|some s=>if s=0 then none else some f.offset|none=>none)
 |none=>none
def LR(P:Program)(t:TypeId)(i:Nat):Option (Option Nat×Nat):=
 match LM P t i with
 |some f=>(match AH P f.type with|some r=>some (r,f.offset)|none=>none)
 |none=>none
def LS(P:Program)(t:TypeId):Option (Option Nat):=
 match P.underlying t with
 |some .string=>some none
 |some (.slice e)=>(match sW P e with|some s=>some (some s)|none=>none)
 |_=>none
inductive ac8 where
 |str|arr (len n:Nat) (r:Option Nat)
def YU(P:Program)(t:TypeId):Option ac8:=
 match P.underlying t with
 |some .string=>some .str
 |some (.array len e)=>(match sW P e,AH P e with|some n,some r=>some (.arr len n r)|_,_=>none)
 |_=>none
def V8(i:ac8)(x y:AV):Option AV:=
 match i with
 |.str=>oA x y
 |.arr len n r=>SO len n r x y
def vH(P:Program)(t:TypeId):Option (TypeDesc×AV):=
 match Nx P t with
 |some (d,e)=>(match Ev P e with|some z=>some (d,z)|none=>none)
 |none=>none
def YV(P:Program)(t:TypeId):Option ac7:=
 match P.underlying t with
 |some .string=>some .str
 |some (.slice _)=>some .slice
 |some (.map _ _)=>some .map
 |some (.array n _)=>some (.array n)
 |_=>none
def GJ(P:Program)(src dst:TypeId):Option V6:=
 match P.underlying src,P.underlying dst with
 |some (.int _),some (.int k)=>some (.int k)
 |some .string,some .string=>some .str
 |some .string,some (.slice e)=>(match P.underlying e,sW P e with|some (.int .u8),some 1=>some .bytes|_,_=>none)
 |some (.slice e),some .string=>(match P.underlying e with|some (.int .u8)=>some .string|_=>none)
 |_,_=>none
def QG(P:Program)(t:TypeId):Option QE:=
 match P.underlying t with
 |some .string=>some .str
 |some (.map _ _)=>some .map
 |_=>none
def GK(P:Program)(t:TypeId):Option Unit:=
 match P.underlying t with
 |some (.interface _)=>none
 |some _=>some ()
 |none=>none
def Gk(P:Program)(a:TypeId)(ok:Bool):Option AV:=
 match ok,P.underlying a with
 |true,some (.interface _)=>none
 |true,some _=>Ev P a
 |_,_=>none
def Gl(P:Program)(t u:TypeId):Option (Nat×Nat):=
 match P.underlying u,GH P t with
 |some (.slice _),some (s,b,_)=>some (s,b)
 |some .string,some (s,b,_)=>some (s,b)
 |_,_=>none
abbrev Ex:=Program->(Operand->AV)->Heap->(AV->Heap->Bool)->Bool
def nT(h:Heap)(K:AV->Heap->Bool)(o:Option AV):Bool:=aa o fun v=>K v h
def Ey(K:AV->Heap->Bool)(o:Option Heap):Bool:=aa o fun h=>K bz h
def AL(K:AV->Heap->Bool)(o:Option (AV×Heap)):Bool:=aa o fun p=>K p.1 p.2
def SS(t:TypeId):Ex:=fun P _ h K=>aa (qD P t) fun z=>K (.ptr h.next 0) (h.alloc (.cells z))
def ab2(x:Operand):Ex:=fun _ ρ h K=>aa (eG (ρ x)) fun cs=>K (.ptr h.next 0) (h.alloc (.cells cs))
def SU(t:TypeId)(ps:List (Nat×Operand)):Ex:=fun P ρ h K=>aa (LQ P t (ps.map (·.1))) fun i=>nT h K (iP i.1 i.2 (ps.map fun p=>ρ p.2))
def vI(t:TypeId)(n:Nat)(ps:List (Nat×Operand)):Ex:=fun P ρ h K=>
 aa (YT P t n (ps.map (·.1))) fun i=>aa (eN i.2.1 i.2.2 (ps.map fun p=>ρ p.2)) fun cs=>K (.slice h.next 0 n i.1) (h.alloc (.cells cs))
def V9(op:BinOp)(t:TypeId)(x y:Operand):Ex:=fun P ρ h K=>
 match op with
 |.eql=>aa (P.underlying t) fun d=>nT h K (jC d (ρ x) (ρ y))
 |.neq=>aa (P.underlying t) fun d=>nT h K (qE d (ρ x) (ρ y))
 |op=>nT h K (aF op (ρ x) (ρ y))
def GL(fn:Fn)(first cap:List Operand):Ex:=fun _ ρ h K=>match fn with
 |.func f=>K (.func f (first.map ρ) (cap.map ρ)) h
 |_=>false
def Kr(r:Option Operand):Ex:=fun _ _ h K=>match r with
 |none=>K (.map h.next) (h.alloc (.map [] 0))
 |some _=>false
def Ez(t:TypeId)(l c:Operand):Ex:=fun P ρ h K=>aa (GH P t) fun i=>AL K (gE i.1 i.2.1 i.2.2 (ρ l) (ρ c) h)
def LU(t:TypeId)(x:Operand)(lo hi mx:Option Operand):Ex:=fun P ρ h K=>match mx with
 |none=>aa (LS P t) fun i=>nT h K (fR i (ρ x) (lo.map ρ) (hi.map ρ))
 |some _=>false
def Ny(t:TypeId)(x i:Operand)(ok:Bool):Ex:=fun P ρ h K=>aa (vH P t) fun d=>nT h K (eO d.1 d.2 ok (ρ x) (ρ i) h)
abbrev Blt:=List TypeId->List AV->Program->Heap->(AV->Heap->Bool)->Bool
def De:Blt:=fun ts xs P h K=>match ts,xs with
 |[t,u],[s,x]=>aa (Gl P t u) fun i=>AL K (bB i.1 i.2 s x h)
 |_,_=>false
def LV:Blt:=fun ts xs P h K=>match ts,xs with
 |t :: _,[d,s]=>aa (GG P t) fun i=>AL K (Ew i.1 d s h)
 |_,_=>false
def QH:Blt:=fun ts xs P h K=>match ts,xs with
 |t :: _,[x]=>aa (YV P t) fun i=>nT h K (bK i x h)
 |_,_=>false
def Df:Blt:=fun ts xs P h K=>match ts,xs with
 |t :: _,[m,k]=>aa (Nx P t) fun i=>Ey K (LP i.1 m k h)
 |_,_=>false
def zn(mx:Bool):Blt:=fun _ xs _ h K=>match xs with
 |x :: xs=>nT h K (AJ mx x xs)
 |_=>false
def QI:Blt:=fun _ _ _ _ _=>false
def Ks:Builtin->Blt
 |.append=>De
 |.copy=>LV
 |.len=>QH
 |.delete=>Df
 |.min=>zn false
 |.max=>zn true
 |_=>QI
def xT(c:Call):Ex:=fun P ρ h K=>match c.callee with
 |.builtin b=>Ks b c.argTypes.toList (c.args.toList.map ρ) P h K
 |_=>false
def jz:Op->Ex
 |.move x=>fun _ ρ h K=>K (ρ x) h
 |.assign x=>fun _ ρ h K=>K (ρ x) h
 |.pick c a b=>fun _ ρ h K=>nT h K (SN (ρ c) (ρ a) (ρ b))
 |.alloc t=>SS t
 |.box _ x=>ab2 x
 |.build t ps=>SU t ps.toList
 |.buildSlice t n ps=>vI t n ps.toList
 |.load t a=>fun P ρ h K=>aa (AH P t) fun i=>nT h K (au i (ρ a) h)
 |.store t a x=>fun P ρ h K=>aa (sW P t) fun n=>Ey K (aS n (ρ a) (ρ x) h)
 |.nilCheck x=>fun _ ρ h K=>nT h K (aJ (ρ x))
 |.binOp op t x y _=>V9 op t x y
 |.unOp op _ x=>fun _ ρ h K=>nT h K (mh op (ρ x))
 |.convert s d x=>fun P ρ h K=>aa (GJ P s d) fun i=>AL K (mj i (ρ x) h)
 |.makeInterface t x=>fun P ρ h K=>aa (GK P t) fun _=>K (.iface t (ρ x)) h
 |.makeFunc fn first cap=>GL fn first.toList cap.toList
 |.makeMap _ r=>Kr r
 |.makeSlice t l c=>Ez t l c
 |.slice t x lo hi mx=>LU t x lo hi mx
 |.fieldAddr t x i=>fun P ρ h K=>aa (faI P t i) fun o=>nT h K (ja o (ρ x))
 |.field t x i=>fun P ρ h K=>aa (LR P t i) fun o=>nT h K (LN o.1 o.2 (ρ x))
 |.indexAddr t x i=>fun P ρ h K=>aa (iaI P t) fun o=>nT h K (iaV o (ρ x) (ρ i))
 |.index t x i=>fun P ρ h K=>aa (YU P t) fun o=>nT h K (V8 o (ρ x) (ρ i))
 |.lookup t x i ok=>Ny t x i ok
 |.mapUpdate t m k x=>fun P ρ h K=>aa (Nx P t) fun o=>Ey K (fX o.1 (ρ m) (ρ k) (ρ x) h)
 |.insert t m k x=>fun P ρ h K=>aa (Nx P t) fun o=>Ey K (fX o.1 (ρ m) (ρ k) (ρ x) h)
 |.mapEntry t m k=>fun P ρ h K=>aa (vH P t) fun o=>AL K (oQ o.1 o.2 (ρ m) (ρ k) h)
 |.entryStore _ m s x=>fun _ ρ h K=>Ey K (lM (ρ m) (ρ s) (ρ x) h)
 |.range t x=>fun P ρ h K=>aa (QG P t) fun o=>AL K (qF o (ρ x) h)
 |.entry x=>fun _ ρ h K=>nT h K (xS (ρ x) h)
 |.extract t i=>fun _ ρ h K=>nT h K (bu (ρ t) i)
 |.typeAssert x _ a ok=>fun P ρ h K=>aa (Gk P a ok) fun z=>nT h K (Gj a z (ρ x))
 |.call c=>xT c
 |_=>fun _ _ _ _=>false
inductive Kind where
 |pure|read|alloc|Qh
 deriving DecidableEq
def gY:Callee->Kind
 |.builtin .len=>.read
 |.builtin .min=>.pure
 |.builtin .max=>.pure
 |_=>.Qh
def gZ:Op->Kind
 |.move _|.assign _|.pick ..|.build ..|.nilCheck _|.binOp ..|.unOp ..|.makeInterface ..|.makeFunc ..|.slice ..|.fieldAddr ..|.field ..|.indexAddr ..|.index ..|.extract ..|.typeAssert ..=>.pure
 |.load ..|.lookup ..=>.read
 |.alloc _|.box ..|.buildSlice ..|.makeMap ..|.makeSlice ..=>.alloc
 |.call c=>gY c.callee
 |_=>.Qh
inductive AX where
 |normal
 |exit (id:Nat)
 |ret
 |panic (v:AV)
inductive Out where
 |ret (v:AV)
 |panic (v:AV)
structure uV where
 f:FuncId
 args:List AV
 cap:List AV
abbrev Env:=Nat->AV
def cF(env:Env)(d:Nat)(v:AV):Env:=fun j=>@Bool.rec (fun _=>AV) (env j) v (Nat.beq j d)
structure St where
 env:Env
 n:Nat
 defs:List uV
 h:Heap
def qp(env:Env)(n:Nat)(dst:Option Tmp)(v:AV):Env:=
 match dst with
 |some d=>if d<n then cF env d v else env
 |none=>env
def kf(env:Env)(n:Nat)(dst:Option Tmp)(v:AV)(k:Env->Bool):Bool:=
 match dst with
 |some d=>@Bool.rec (fun _=>Bool) false (k (cF env d v)) (ble (d+1) n)
 |none=>k env
def St.ada(s:St)(h:Heap)(dst:Option Tmp)(v:AV):St:=⟨qp s.env s.n dst v,s.n,s.defs,h⟩
def evalArg(env:Env):Operand->AV
 |.tmp t=>env t
 |.const v=>ofConst v
 |.global _=>.undef
 |.func f=>.func f [] []
inductive R where
 |ok (v:AV) (defs:List uV) (h:Heap)
 |panic (v:AV) (h:Heap)
inductive RS where
 |ok (s:St)
 |panic (v:AV) (s:St)
abbrev mU:=FuncId->List AV->Heap->(Out->Heap->Bool)->Bool
def kZ(ops:List Oper)(o:Oper)(env:Env):Option Bool:=
 match o.guard with
 |none=>some true
 |some (j,want)=>
  match ops[j]? with
  |some g=>(match g.dst with
   |some d=>(match env d with
    |.bool b=>some (b==want)
    |.tuple _=>some false
    |_=>none)
   |none=>none)
  |none=>none
abbrev Stp:=Program->mU->Env->List uV->Heap->(R->Bool)->Bool
def afB(defs:List uV)(K:R->Bool):Out->Heap->Bool
 |.ret v,h'=>K (.ok v defs h')
 |.panic v,h'=>K (.panic v h')
def tZ(op:Op):Stp:=fun P _ env defs h K=>jz op P (evalArg env) h fun v h'=>K (.ok v defs h')
def Gm(f:Operand)(args:List Operand):Stp:=fun _ call env defs h K=>match evalArg env f with
 |.func g first cap=>call g (first++(args.map (evalArg env)++cap)) h (afB defs K)
 |_=>false
def Ba(c:Call):Stp:=match c.callee with
 |.value f=>Gm f c.args.toList
 |_=>tZ (.call c)
def B4(c:Call):Stp:=fun _ _ env defs h K=>match c.callee with
 |.value f=>(match evalArg env f with
  |.func g first cap=>K (.ok bz (⟨g,first++c.args.toList.map (evalArg env),cap⟩ :: defs) h)
  |_=>false)
 |_=>false
def B5(x:Operand):Stp:=fun _ _ env _ h K=>match evalArg env x with
 |.iface t v=>K (.panic (.iface t v) h)
 |_=>false
def pI(defs:List uV)(K:R->Bool):List (AV×Heap)->Bool
 |[]=>true
 |p :: ps=>K (.ok p.1 defs p.2)&&pI defs K ps
def LW(x:Operand)(b:Bool):Stp:=fun _ _ env defs h K=>aa (B3 b (evalArg env x) h) (pI defs K)
def lX:Op->Stp
 |.call c=>Ba c
 |.defer c=>B4 c
 |.panic x=>B5 x
 |.next x b=>LW x b
 |op=>tZ op
def qZ(P:Program)(call:mU)(ops:List Oper):List Oper->St->(RS->Bool)->Bool
 |[],s,K=>K (.ok s)
 |o :: rest,⟨env,n,defs,h⟩,K=>
  match kZ ops o env with
  |some true=>lX o.op P call env defs h fun
   |.ok v defs h=>kf env n o.dst v fun env=>qZ P call ops rest ⟨env,n,defs,h⟩ K
   |.panic v h=>K (.panic v ⟨env,n,defs,h⟩)
  |some false=>kf env n o.dst bz fun env=>qZ P call ops rest ⟨env,n,defs,h⟩ K
  |none=>false
def rQ(acc:List Nat):List Edge->Nat
 |[]=>0
 |e :: es=>if Region.binds .any e then (2 ^ e.on ||| acc.getD e.on 0) ||| rQ acc es else rQ acc es
def rR:List Oper->List Nat->List Nat
 |[],acc=>acc
 |o :: os,acc=>rR os (acc++[rQ acc o.after.toList])
def rz(ops:List Oper):List Nat:=rR ops []
def EA(ms:List Nat)(i j:Nat):Bool:=(ms.getD i 0).testBit j
def wJ(o:Oper):Bool:=match gZ o.op with|.Qh=>true|_=>false
def zo:List Oper->Nat->List (Nat×Oper)
 |[],_=>[]
 |o :: os,i=>(i,o) :: zo os (i+1)
def LX:List (Nat×Oper)->List Nat
 |[]=>[]
 |p :: ps=>if wJ p.2 then p.1 :: LX ps else LX ps
def B6(ms:List Nat)(i:Nat):List Nat->Nat
 |[]=>0
 |j :: js=>if EA ms i j then B6 ms i js+1 else B6 ms i js
def Gn(ms:List Nat)(Jq:List Nat)(L:List (Nat×Oper)):Nat->Nat->List (Nat×Oper)
 |0,k=>L.filter fun p=>!wJ p.2&&B6 ms p.1 Jq==k
 |n+1,k=>(L.filter fun p=>!wJ p.2&&B6 ms p.1 Jq==k)++((L.filter fun p=>wJ p.2&&B6 ms p.1 Jq==k)++Gn ms Jq L n (k+1))
def uz(ops:List Oper)(o:Oper):List Tmp:=
 (o.op.operands.toList.filterMap fun|.tmp t=>some t|_=>none) ++
 (match o.guard with
  |some (g,_)=>(match ops[g]? with|some p=>p.dst.toList|none=>[])
  |none=>[])
def QJ(ops:List Oper)(ms:List Nat)(a b:Nat×Oper):Bool:=
 a.1 != b.1&&(!(EA ms a.1 b.1)&&((!wJ a.2||EA ms b.1 a.1) &&
 ((match a.2.dst with
   |some d=>(match b.2.dst with|some e=>d != e|none=>true)&&(!((uz ops b.2).contains d)||EA ms b.1 a.1)
   |none=>true) &&
  (match b.2.dst with
   |some d=>!((uz ops a.2).contains d)||EA ms b.1 a.1
   |none=>true))))
def Gp(ops:List Oper)(ms:List Nat):List (Nat×Oper)->Bool
 |[]=>true
 |p :: ps=>ps.all (QJ ops ms p)&&Gp ops ms ps
def Gq(L:List (Nat×Oper)):Nat->Bool
 |0=>true
 |n+1=>L.any (fun p=>p.1==n)&&Gq L n
structure ade where
 ms:List Nat
 L:List (Nat×Oper)
def Wa(ops:List Oper)(ms:List Nat):List (Nat×Oper):=Gn ms (LX (zo ops 0)) (zo ops 0) (LX (zo ops 0)).length 0
def Gr:List Oper->Nat->Bool
 |[],_=>true
 |o :: os,i=>o.after.toList.all (fun e=>!Region.binds .any e||decide (e.on<i))&&Gr os (i+1)
def Nz(ops:List Oper):Option ade:=
 if Gr ops 0&&Gp ops (rz ops) (Wa ops (rz ops))&&Gq (Wa ops (rz ops)) ops.length then some ⟨rz ops,Wa ops (rz ops)⟩ else none
structure Read where
 i:Nat
 op:Op
 env:Env
 v:AV
def sameAt(P:Program)(op:Op)(env:Env)(v:AV)(h:Heap):Bool:=jz op P (evalArg env) h fun v' _=>AV.beq v' v
def mE(P:Program)(ms:List Nat)(i:Nat)(h:Heap):List Read->Bool
 |[]=>true
 |r :: rs=>if EA ms i r.i then mE P ms i h rs else sameAt P r.op r.env r.v h&&mE P ms i h rs
def iA(P:Program)(call:mU)(ops:List Oper)(ms:List Nat):List (Nat×Oper)->List Read->St->(St->Bool)->Bool
 |[],_,s,K=>K s
 |p :: rest,lg,⟨env,n,defs,h⟩,K=>
  match kZ ops p.2 env with
  |some true=>
   match gZ p.2.op with
   |.pure=>jz p.2.op P (evalArg env) h fun v _=>kf env n p.2.dst v fun fY=>iA P call ops ms rest lg ⟨fY,n,defs,h⟩ K
   |.read=>jz p.2.op P (evalArg env) h fun v _=>kf env n p.2.dst v fun fY=>iA P call ops ms rest (⟨p.1,p.2.op,env,v⟩ :: lg) ⟨fY,n,defs,h⟩ K
   |.alloc=>jz p.2.op P (evalArg env) h fun v h'=>kf env n p.2.dst v fun fY=>iA P call ops ms rest lg ⟨fY,n,defs,h'⟩ K
   |.Qh=>
    lX p.2.op P call env defs h fun
     |.ok v mV h'=>if mE P ms p.1 h' lg then kf env n p.2.dst v fun fY=>iA P call ops ms rest lg ⟨fY,n,mV,h'⟩ K else false
     |.panic _ _=>false
  |some false=>kf env n p.2.dst bz fun fY=>iA P call ops ms rest lg ⟨fY,n,defs,h⟩ K
  |none=>false
def ay:List AV->Env
 |[],_=>bz
 |v :: _,0=>v
 |_ :: vs,i+1=>ay vs i
def QK(env:Env):Nat->Nat->List AV
 |0,_=>[]
 |n+1,i=>env i :: QK env n (i+1)
def St.tab:St->St
 |⟨env,n,defs,h⟩=>⟨ay (QK env n 0),n,defs,h⟩
def iter(f:St->(AX->St->Bool)->Bool)(K:AX->St->Bool):Nat->St->Bool
 |0,_=>false
 |n+1,s=>f s fun
  |.normal,s'=>iter f K n s'.tab
  |e,s'=>K e s'
def evalCode(P:Program)(call:mU)(rounds:Nat):Code->St->(AX->St->Bool)->Bool
 |.skip,s,K=>K .normal s
 |.region _ ops draw,s,K=>
  if draw then aa (Nz ops.toList) fun p=>iA P call ops.toList p.ms p.L [] s fun s'=>K .normal s'
  else qZ P call ops.toList ops.toList s fun
   |.ok s'=>K .normal s'
   |.panic v s'=>K (.panic v) s'
 |.seq a b,s,K=>evalCode P call rounds a s fun
  |.normal,s'=>evalCode P call rounds b s' K
  |e,s'=>K e s'
 |.cond c a b,s,K=>
  match evalArg s.env c with
  |.bool true=>evalCode P call rounds a s K
  |.bool false=>evalCode P call rounds b s K
  |_=>false
 |.block id c,s,K=>evalCode P call rounds c s fun
  |.exit T9,s'=>if T9=id then K .normal s' else K (.exit T9) s'
  |e,s'=>K e s'
 |.loop c,s,K=>iter (evalCode P call rounds c) K rounds s
 |.exit id,s,K=>K (.exit id) s
 |.ret,s,K=>K .ret s
 |_,_,_=>false
abbrev B7:=FuncId->Option (List AV->Heap->(Out->Heap->Bool)->Bool)
abbrev uB:=FuncId->Option (List AV->Option AV->Heap->(Option AV->Heap->Bool)->Bool)
def Gs(P:Program)(s:St):ResultVar->Option AV
 |.tmp t=>some (s.env t)
 |.cell a t=>(match AH P t with|some i=>au i (s.env a) s.h|none=>none)
def dz(P:Program)(s:St):List ResultVar->Option (List AV)
 |[]=>some []
 |r :: rs=>match Gs P s r,dz P s rs with
  |some v,some vs=>some (v :: vs)
  |_,_=>none
def oneOf:List AV->AV
 |[v]=>v
 |vs=>.tuple vs
def leave(P:Program)(D:uB)(rs:List ResultVar)(K:Out->Heap->Bool):List uV->Option AV->St->Bool
 |[],none,s=>aa (dz P s rs) fun vs=>K (.ret (oneOf vs)) s.h
 |[],some v,s=>K (.panic v) s.h
 |d :: ds,NA,s=>
  match D d.f with
  |some g=>g (d.args++d.cap) NA s.h fun w8 h'=>leave P D rs K ds w8 ⟨s.env,s.n,s.defs,h'⟩
  |none=>false
def QL(P:Program)(D:uB)(rs:List ResultVar)(K:Out->Heap->Bool):AX->St->Bool
 |.normal,s'=>leave P D rs K s'.defs none s'
 |.ret,s'=>leave P D rs K s'.defs none s'
 |.panic v,s'=>leave P D rs K s'.defs (some v) s'
 |.exit _,_=>false
def Wb(P:Program)(D:uB)(call:mU)(rounds:Nat)(fn:Func)(args:List AV)(h:Heap)(K:Out->Heap->Bool):Bool:=
 match fn.body with
 |none=>false
 |some c=>evalCode P call rounds c ⟨ay args,fn.ntmps,[],h⟩ (QL P D fn.results.toList K)
def cq(P:Program)(F:B7)(D:uB):Nat->FuncId->List AV->Heap->(Out->Heap->Bool)->Bool
 |0,_,_,_,_=>false
 |n+1,f,args,h,K=>
  match F f with
  |some g=>g args h K
  |none=>
   match P.funcs[f]? with
   |none=>false
   |some fn=>if decide (args.length<=fn.ntmps)&&fn.name != "runtime.NumGoroutine" then Wb P D (cq P F D n) n fn args h K else false
mutual
def GM:Code->Nat
 |.skip=>1
 |.region _ _ _=>1
 |.seq a b=>GM a*GM b
 |.cond _ a b=>GM a+GM b
 |.block id c=>GM c+zq id c
 |_=>0
def zq(id:Nat):Code->Nat
 |.seq a b=>zq id a+GM a*zq id b
 |.cond _ a b=>zq id a+zq id b
 |.block _ c=>zq id c
 |.exit i=>@Bool.rec (fun _=>Nat) 0 1 (Nat.beq i id)
 |_=>0
end
def GN:Code->Nat
 |.region _ ops _=>ops.toList.length
 |.seq a b=>GN a+GN b
 |.cond _ a b=>GN a+GN b+1
 |.block _ c=>GN c
 |.loop c=>GN c+10
 |_=>1
def NB:List Oper->Bool
 |[]=>false
 |o :: os=>match o.guard with|some _=>true|none=>NB os
def Wc:Code->Bool
 |.cond _ _ _=>true
 |.seq a _=>Wc a
 |_=>false
def adf(a b:Code):Bool:=
 @Bool.rec (fun _=>Bool) false (match a with
  |.region _ ops _=>NB ops.toList&&!Wc b
  |a=>ble 2 (GM a)) (ble 12 (GN b))
end
end Go.AM