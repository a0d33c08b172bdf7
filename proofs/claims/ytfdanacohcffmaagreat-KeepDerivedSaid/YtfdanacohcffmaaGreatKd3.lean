/- The abstract machine: a deterministic evaluator over the model's Code. Conditions: none; definitions alone. -/
import Derived.Test.YtfdanacohcffmaaGreatKd1
import Derived.Calls
import GoSem.Core.Utf8
import Derived.Orders
set_option linter.unusedVariables false
namespace Go.AM
open List Nat Bool Option
open Go
noncomputable section
inductive AV where
 |undef
 |bool (b:Bool)
 |int (k:IntKind) (n:Int)
 |str (s:List UInt8)
 |eH
 |ptr (b off:Nat)
 |ef (cs:List AV) (off:Nat)
 |ax
 |slice (b off len sz:Nat)
 |au (cs:List AV) (off len sz:Nat)
 |jJ
 |map (b:Nat)
 |nO
 |func (f:FuncId) (first cap:List AV)
 |qE
 |iface (t:TypeId) (v:AV)
 |agg (cs:List AV)
 |tuple (vs:List AV)
 deriving Inhabited
mutual
def AV.beq:AV->AV->Bool
 |.undef,.undef=>true
 |.bool a,.bool b=>a==b
 |.int k a,.int j b=>decide (k=j)&&decide (a=b)
 |.str a,.str b=>decide (a=b)
 |.eH,.eH=>true
 |.ptr a i,.ptr b j=>a==b&&i==j
 |.ef a i,.ef b j=>AV.yq a b&&i==j
 |.ax,.ax=>true
 |.slice a i l s,.slice b j m t=>a==b&&i==j&&l==m&&s==t
 |.au a i l s,.au b j m t=>AV.yq a b&&i==j&&l==m&&s==t
 |.jJ,.jJ=>true
 |.map a,.map b=>a==b
 |.nO,.nO=>true
 |.func f a b,.func g c d=>f==g&&AV.yq a c&&AV.yq b d
 |.qE,.qE=>true
 |.iface t a,.iface u b=>t==u&&AV.beq a b
 |.agg a,.agg b=>AV.yq a b
 |.tuple a,.tuple b=>AV.yq a b
 |_,_=>false
def AV.yq:List AV->List AV->Bool
 |[],[]=>true
 |a :: as,b :: bs=>AV.beq a b&&AV.yq as bs
 |_,_=>false
end
inductive j9 where
 |dead
 |cells (cs:List AV)
 |map (es:List (AV×AV×Nat)) (clock:Nat)
 |Cy (s:List UInt8) (pos:Nat)
 |gh (m:Option Nat) (since:Nat) (seen:List Nat) (MS:Nat)
 |box (v:AV)
 deriving Inhabited
inductive Trie (α:Type) where
 |leaf
 |node (v:Option α) (l r:Trie α)
 deriving Inhabited
def Trie.get{α:Type}:Trie α->Nat->Option α
 |.leaf,_=>none
 |.node v l r,n=>match n with
  |0=>v
  |m+1=>if m%2=0 then l.get (m/2) else r.get (m/2)
def Trie.val{α:Type}:Trie α->Option α
 |.leaf=>none
 |.node v _ _=>v
def Trie.left{α:Type}:Trie α->Trie α
 |.leaf=>.leaf
 |.node _ l _=>l
def Trie.right{α:Type}:Trie α->Trie α
 |.leaf=>.leaf
 |.node _ _ r=>r
def Trie.K5{α:Type}(o:α):Nat->Trie α->Nat->Trie α
 |0,t,_=>.node (some o) t.left t.right
 |f+1,t,n=>match n with
  |0=>.node (some o) t.left t.right
  |m+1=>if m%2=0 then .node t.val (K5 o f t.left (m/2)) t.right else .node t.val t.left (K5 o f t.right (m/2))
def Trie.set{α:Type}(t:Trie α)(n:Nat)(o:α):Trie α:=Trie.K5 o n t n
structure Heap where
 next:Nat
 tab:Trie j9
 deriving Inhabited
def Heap.get(h:Heap)(b:Nat):Option j9:=h.tab.get b
def Heap.set(h:Heap)(b:Nat)(o:j9):Heap:=⟨h.next,h.tab.set b o⟩
def Heap.alloc(h:Heap)(o:j9):Heap:=⟨h.next+1,h.tab.set h.next o⟩
def Heap.empty:Heap:=⟨0,.leaf⟩
def af{α:Type}(o:Option α)(f:α->Bool):Bool:=
 match o with
 |some a=>f a
 |none=>false
def nE:Value->AV
 |.bool b=>.bool b
 |.int k n=>.int k n
 |.string s=>.str s.data.toList
 |.pointer none=>.eH
 |.slice none 0 0=>.ax
 |.map none=>.jJ
 |.nilFunc=>.nO
 |.nilIface=>.qE
 |_=>.undef
def ofConst:Value->AV
 |.agg cs=>.agg (cs.toList.map nE)
 |v=>nE v
def AV.dI:AV->List AV
 |.agg cs=>cs
 |v=>[v]
def bM:AV:=.tuple []
def AV.one:AV->Bool
 |.agg _|.tuple _|.undef=>false
 |_=>true
def bx:List AV->Bool
 |[]=>true
 |c :: cs=>c.one&&bx cs
section
variable (P:Program)
def oW(t:TypeId):Option Nat:=match P.info? t with|some i=>some i.size|none=>none
def PV(t:TypeId):Option Nat:=match P.info? t with|some i=>some i.bytes|none=>none
def AQ(t:TypeId):Option AV:=match P.info? t with
 |some i=>(match i.zero with|some z=>some (ofConst z)|none=>none)
 |none=>none
def wP(t:TypeId):Option (Option Nat):=match P.underlying t with
 |some (.struct _)|some (.array _ _)=>(match oW P t with|some n=>some (some n)|none=>none)
 |some _=>some none
 |none=>none
def MT(t:TypeId):Option TypeId:=match P.underlying t with|some (.slice e)=>some e|_=>none
def G6(t:TypeId)(i:Nat):Option Field:=match P.underlying t with|some (.struct fs)=>fs[i]?|_=>none
def IM(t:TypeId):Option (TypeDesc×TypeId):=match P.underlying t with
 |some (.map k e)=>(match P.underlying k with|some d=>some (d,e)|none=>none)
 |_=>none
end
def mX(P:Program)(t:TypeId):Option (List AV):=
 match AQ P t with
 |some z=>if bx z.dI then some z.dI else none
 |none=>none
def ju(i:Option Nat)(cs:List AV)(off:Nat):Option AV:=
 match i with
 |none=>cs[off]?
 |some n=>if off+n<=cs.length then some (.agg ((cs.drop off).take n)) else none
def eL{α:Type}:List α->Nat->List α->List α
 |cs,_,[]=>cs
 |cs,off,v :: vs=>eL (cs.set off v) (off+1) vs
def eW(x:AV):Option (List AV):=if bx x.dI then some x.dI else none
def MU(c a b:AV):Option AV:=
 match c with
 |.bool t=>some (if t then a else b)
 |_=>none
def ag(i:Option Nat)(x:AV)(h:Heap):Option AV:=
 match x with
 |.ptr b off=>(match h.get b with|some (.cells cs)=>ju i cs off|_=>none)
 |.ef cs off=>ju i cs off
 |_=>none
def bf(n:Nat)(x v:AV)(h:Heap):Option Heap:=
 match x with
 |.ptr b off=>(match h.get b with
  |some (.cells cs)=>if v.dI.length=n&&bx v.dI&&decide (off+n<=cs.length) then some (h.set b (.cells (eL cs off v.dI))) else none
  |_=>none)
 |_=>none
def br:AV->Option AV
 |.ptr b i=>some (.ptr b i)
 |.ef c i=>some (.ef c i)
 |.func f a b=>some (.func f a b)
 |_=>none
def Cz(right:Bool)(x y:AV):Option AV:=
 match x,y with
 |.int k a,.int _ b=>if b<0 then none else some (.int k (if right then a.fdiv (2 ^ (min b.toNat k.bits)) else k.wrap (a*2 ^ (min b.toNat k.bits))))
 |_,_=>none
def PW(op:BinOp)(x y:AV):Option AV:=
 match x,y with
 |.int k a,.int k' b=>
  if k=k' then
   match op with
   |.and=>some (.int k (k.wrap (BitVec.ofInt k.bits a &&& BitVec.ofInt k.bits b).toNat))
   |.or=>some (.int k (k.wrap (BitVec.ofInt k.bits a ||| BitVec.ofInt k.bits b).toNat))
   |.xor=>some (.int k (k.wrap (BitVec.ofInt k.bits a ^^^ BitVec.ofInt k.bits b).toNat))
   |_=>none
  else none
 |_,_=>none
def aG(op:BinOp)(x y:AV):Option AV:=
 match op with
 |.shr=>Cz true x y
 |.shl=>Cz false x y
 |.and=>PW .and x y
 |.or=>PW .or x y
 |.xor=>PW .xor x y
 |op=>match x,y with
 |.int k a,.int k' b=>
  if k=k' then
   match op with
   |.add=>some (.int k (k.wrap (a+b)))
   |.sub=>some (.int k (k.wrap (a-b)))
   |.mul=>some (.int k (k.wrap (a*b)))
   |.quo=>if b=0 then none else some (.int k (k.wrap (a.tdiv b)))
   |.rem=>if b=0 then none else some (.int k (a.tmod b))
   |.lss=>some (.bool (decide (a<b)))
   |.leq=>some (.bool (decide (a<=b)))
   |.gtr=>some (.bool (decide (a>b)))
   |.geq=>some (.bool (decide (a>=b)))
   |_=>none
  else none
 |.str a,.str b=>
  match op with
  |.add=>if a.length+b.length<=4611686018427387904 then some (.str (a++b)) else none
  |.lss=>some (.bool (Op.bytesLess a b))
  |.leq=>some (.bool (Op.bytesLess a b||a==b))
  |.gtr=>some (.bool (!(Op.bytesLess a b||a==b)))
  |.geq=>some (.bool (!(Op.bytesLess a b)))
  |_=>none
 |_,_=>none
def SE(d:TypeDesc)(x y:AV):Option Bool:=
 match x,y with
 |.int k a,.int k' b=>if k=k' then some (a==b) else none
 |.str a,.str b=>some (a==b)
 |.bool a,.bool b=>(match d with|.bool=>some (a==b)|_=>none)
 |.eH,.eH=>(match d with|.pointer _=>some true|_=>none)
 |.ptr _ _,.eH|.eH,.ptr _ _|.ef _ _,.eH|.eH,.ef _ _=>(match d with|.pointer _=>some false|_=>none)
 |.ax,.ax=>(match d with|.slice _=>some true|_=>none)
 |.slice _ _ _ _,.ax|.ax,.slice _ _ _ _|.au _ _ _ _,.ax|.ax,.au _ _ _ _=>(match d with|.slice _=>some false|_=>none)
 |.jJ,.jJ=>(match d with|.map _ _=>some true|_=>none)
 |.map _,.jJ|.jJ,.map _=>(match d with|.map _ _=>some false|_=>none)
 |.nO,.nO=>(match d with|.func _ _ _=>some true|_=>none)
 |.func _ _ _,.nO|.nO,.func _ _ _=>(match d with|.func _ _ _=>some false|_=>none)
 |_,_=>none
def jK(d:TypeDesc)(x y:AV):Option AV:=match SE d x y with|some b=>some (.bool b)|none=>none
def qF(d:TypeDesc)(x y:AV):Option AV:=match SE d x y with|some b=>some (.bool (!b))|none=>none
def lU(op:UnOp)(x:AV):Option AV:=
 match op,x with
 |.neg,.int k n=>some (.int k (k.wrap (0-n)))
 |.not,.bool b=>some (.bool (!b))
 |_,_=>none
def asNat(x:AV):Option Nat:=
 match x with
 |.int _ n=>if 0<=n then some n.toNat else none
 |_=>none
def wQ(d:TypeDesc)(x y:AV):Option Bool:=
 match d,x,y with
 |.int _,.int k a,.int k' b=>if k=k' then some (a==b) else none
 |.string,.str a,.str b=>some (a==b)
 |.bool,.bool a,.bool b=>some (a==b)
 |_,_,_=>none
abbrev Entry:=AV×AV×Nat
def jN(d:TypeDesc)(k:AV):List Entry->Nat->Option (Option (Nat×AV))
 |[],_=>some none
 |e :: es,i=>
  match wQ d k e.1 with
  |some true=>some (some (i,e.2.1))
  |some false=>jN d k es (i+1)
  |none=>none
def qZ(d:TypeDesc)(k:AV):Bool:=
 match d,k with
 |.int _,.int _ _=>true
 |.string,.str _=>true
 |.bool,.bool _=>true
 |_,_=>false
def q8(d:TypeDesc)(k:AV)(es:List Entry):Option (Option (Nat×AV)):=if qZ d k then jN d k es 0 else none
def gQ(sz n:Nat)(x:AV)(h:Heap):Option (List AV):=
 match x with
 |.ax=>if n=0 then some [] else none
 |.slice b off _ s=>
  if s=sz then (match h.get b with
   |some (.cells cs)=>if off+n*sz<=cs.length then some ((cs.drop off).take (n*sz)) else none
   |_=>none) else none
 |.au cs off _ s=>if s=sz&&decide (off+n*sz<=cs.length) then some ((cs.drop off).take (n*sz)) else none
 |.str s=>if sz=1 then some ((s.take n).map fun b=>.int .u8 b.toNat) else none
 |_=>none
def lD:AV->Option Nat
 |.ax=>some 0
 |.slice _ _ n _=>some n
 |.au _ _ n _=>some n
 |.str s=>some s.length
 |_=>none
def cG:Nat:=140737488355328
def bY(sz bytes:Nat)(s x:AV)(h:Heap):Option (AV×Heap):=
 match lD x with
 |none=>none
 |some n=>match gQ sz n x h with
  |none=>none
  |some new=>
   match s with
   |.ax=>
    if n=0 then some (.ax,h) else
    if n*bytes<=cG&&bx new then some (.slice h.next 0 n sz,h.alloc (.cells new)) else none
   |.slice b off len s'=>
    if s'=sz then
     if n=0 then some (.slice b off len s',h) else
     match h.get b with
     |some (.cells cs)=>
      if (len+n)*bytes<=cG&&bx new&&decide (off+len*sz<=cs.length) then
       some (.slice h.next 0 (len+n) sz,(h.set b .dead).alloc (.cells ((cs.drop off).take (len*sz)++new)))
      else none
     |_=>none
    else none
   |_=>none
def PX(sz:Nat)(dst src:AV)(h:Heap):Option (AV×Heap):=
 match lD src with
 |none=>none
 |some m=>match dst with
  |.ax=>some (.int .i64 0,h)
  |.slice b off len s'=>
   if s'=sz then
    match gQ sz (Nat.min m len) src h with
    |some new=>match h.get b with
     |some (.cells cs)=>
      if bx new&&decide (off+Nat.min m len*sz<=cs.length)&&decide (new.length=Nat.min m len*sz) then
       some (.int .i64 (Nat.min m len),h.set b (.cells (eL cs off new)))
      else none
     |_=>none
    |none=>none
   else none
  |_=>none
def qG(x:Option AV)(aen:Nat):Option Nat:=
 match x with
 |none=>some aen
 |some v=>asNat v
def ja(i:Option Nat)(x:AV)(lo hi:Option AV):Option AV:=
 match lD x with
 |none=>none
 |some len=>match qG hi len,qG lo 0 with
  |some hi,some lo=>
   if lo<=hi&&decide (hi<=len) then
    match i,x with
    |none,.str s=>some (.str ((s.take hi).drop lo))
    |some _,.ax=>some .ax
    |some n,.slice b off _ sz=>if n=sz then some (.slice b (off+lo*sz) (hi-lo) sz) else none
    |some n,.au cs off _ sz=>if n=sz then some (.au cs (off+lo*sz) (hi-lo) sz) else none
    |_,_=>none
   else none
  |_,_=>none
def bT(off:Nat)(x:AV):Option AV:=
 match x with
 |.ptr b o=>some (.ptr b (o+off))
 |.ef cs o=>some (.ef cs (o+off))
 |_=>none
def G7(i:Option Nat)(off:Nat)(x:AV):Option AV:=
 match x with
 |.agg cs=>ju i cs off
 |_=>none
def dN(n:Nat)(x i:AV):Option AV:=
 match asNat i with
 |none=>none
 |some i=>match x with
  |.slice b off len sz=>if i<len&&n==sz then some (.ptr b (off+i*sz)) else none
  |.au cs off len sz=>if i<len&&n==sz then some (.ef cs (off+i*sz)) else none
  |_=>none
def PY(len n:Nat)(x i:AV):Option AV:=
 match asNat i with
 |none=>none
 |some i=>match x with
  |.ptr b off=>if i<len then some (.ptr b (off+i*n)) else none
  |.ef cs off=>if i<len then some (.ef cs (off+i*n)) else none
  |_=>none
inductive IaK where
 |sl (n:Nat)|arr (len n:Nat)
def iaV(k:IaK)(x i:AV):Option AV:=match k with|.sl n=>dN n x i|.arr len n=>PY len n x i
def lf(x i:AV):Option AV:=
 match x,asNat i with
 |.str s,some i=>(match s[i]? with|some b=>some (.int .u8 b.toNat)|none=>none)
 |_,_=>none
def MV(len n:Nat)(r:Option Nat)(x i:AV):Option AV:=
 match x,asNat i with
 |.agg cs,some i=>if i<len then ju r cs (i*n) else none
 |_,_=>none
def mB(m:AV)(h:Heap):Option (List Entry):=
 match m with
 |.jJ=>some []
 |.map b=>(match h.get b with|some (.map es _)=>some es|_=>none)
 |_=>none
def dW(d:TypeDesc)(z:AV)(ok:Bool)(m k:AV)(h:Heap):Option AV:=
 match mB m h with
 |none=>none
 |some es=>match q8 d k es with
  |some (some (_,v))=>some (if ok then .tuple [v,.bool true] else v)
  |some none=>some (if ok then .tuple [z,.bool false] else z)
  |none=>none
def fA(es:List Entry)(i:Nat)(v:AV):List Entry:=
 match es[i]? with
 |some e=>es.set i (e.1,v,e.2.2)
 |none=>es
def eN(d:TypeDesc)(m k v:AV)(h:Heap):Option Heap:=
 match m with
 |.map b=>(match h.get b with
  |some (.map es ck)=>(match q8 d k es with
   |some (some (i,_))=>some (h.set b (.map (fA es i v) ck))
   |some none=>some (h.set b (.map (es++[(k,v,ck)]) (ck+1)))
   |none=>none)
  |_=>none)
 |_=>none
def G8(es:List Entry)(i:Nat):Nat:=match es[i]? with|some e=>e.2.2|none=>0
def lX(d:TypeDesc)(z:AV)(m k:AV)(h:Heap):Option (AV×Heap):=
 match m with
 |.map b=>(match h.get b with
  |some (.map es ck)=>(match q8 d k es with
   |some (some (i,v))=>some (.tuple [v,.int .i64 (G8 es i)],h)
   |some none=>some (.tuple [z,.int .i64 ck],h.set b (.map (es++[(k,z,ck)]) (ck+1)))
   |none=>none)
  |_=>none)
 |_=>none
def oX(n:Int):List Entry->Nat->Option Nat
 |[],_=>none
 |e :: es,i=>if (e.2.2:Int)=n then some i else oX n es (i+1)
def jh(m s v:AV)(h:Heap):Option Heap:=
 match m,s with
 |.map b,.int _ n=>(match h.get b with
  |some (.map es ck)=>(match oX n es 0 with
   |some i=>some (h.set b (.map (fA es i v) ck))
   |none=>none)
  |_=>none)
 |_,_=>none
def G9(d:TypeDesc)(m k:AV)(h:Heap):Option Heap:=
 match m with
 |.jJ=>if qZ d k then some h else none
 |.map b=>(match h.get b with
  |some (.map es ck)=>(match q8 d k es with
   |some (some (i,_))=>some (h.set b (.map (es.eraseIdx i) ck))
   |some none=>some (h.set b (.map es ck))
   |none=>none)
  |_=>none)
 |_=>none
inductive WM where
 |str|slice|map|array (n:Nat)
def bX(i:WM)(x:AV)(h:Heap):Option AV:=
 match i,x with
 |.str,.str s=>some (.int .i64 s.length)
 |.slice,.ax=>some (.int .i64 0)
 |.slice,.slice _ _ n _=>some (.int .i64 n)
 |.slice,.au _ _ n _=>some (.int .i64 n)
 |.map,.jJ=>some (.int .i64 0)
 |.map,.map b=>(match h.get b with|some (.map es _)=>some (.int .i64 es.length)|_=>none)
 |.array n,_=>some (.int .i64 n)
 |_,_=>none
def K6(mx:Bool)(x y:AV):Option AV:=
 match x,y with
 |.int k a,.int k' b=>if k=k' then some (.int k (if mx then (if b>a then b else a) else (if b<a then b else a))) else none
 |_,_=>none
def wT(mx:Bool):AV->List AV->Option AV
 |x,[]=>some x
 |x,y :: ys=>match K6 mx x y with
  |some v=>wT mx v ys
  |none=>none
inductive PZ where
 |int (k:IntKind)|str|bytes|string
def bytesOf:List AV->Option (List UInt8)
 |[]=>some []
 |.int .u8 n :: cs=>(match bytesOf cs with|some bs=>some (UInt8.ofNat n.toNat :: bs)|none=>none)
 |_=>none
def jw(i:PZ)(x:AV)(h:Heap):Option (AV×Heap):=
 match i,x with
 |.int k,.int _ n=>some (.int k (k.wrap n),h)
 |.str,.str s=>some (.str s,h)
 |.bytes,.str s=>if vi=true/\s.length<=cG then some (.slice h.next 0 s.length 1,h.alloc (.cells (s.map fun b=>.int .u8 b.toNat))) else none
 |.string,.ax=>some (.str [],h)
 |.string,.slice b off n sz=>(match gQ 1 n (.slice b off n sz) h with
  |some cs=>(match bytesOf cs with|some bs=>some (.str bs,h)|none=>none)
  |none=>none)
 |.string,.au b off n sz=>(match gQ 1 n (.au b off n sz) h with
  |some cs=>(match bytesOf cs with|some bs=>some (.str bs,h)|none=>none)
  |none=>none)
 |_,_=>none
def oY(cells:List AV):List (Nat×Nat)->List AV->Option (List AV)
 |[],[]=>some cells
 |(off,n) :: ps,v :: vs=>
  if v.dI.length=n&&decide (off+n<=cells.length)&&bx v.dI then oY (eL cells off v.dI) ps vs else none
 |_,_=>none
def jj(zero:List AV):Nat->List AV
 |0=>[]
 |n+1=>zero++jj zero n
def fB(zs:List AV)(ps:List (Nat×Nat))(vs:List AV):Option (List AV):=
 match oY zs ps vs with
 |some cs=>if bx cs then some cs else none
 |none=>none
def iD(zs:List AV)(ps:List (Nat×Nat))(vs:List AV):Option AV:=
 match oY zs ps vs with
 |some cs=>some (.agg cs)
 |none=>none
def zJ(bytes:Nat)(len cap:AV):Option Nat:=
 match len,cap with
 |.int .i64 l,.int .i64 c=>if 0<=l&&decide (l<=c)&&decide (bytes*c<=140737488355328) then some l.toNat else none
 |_,_=>none
def gr(sz bytes:Nat)(z:List AV)(len cap:AV)(h:Heap):Option (AV×Heap):=
 match zJ bytes len cap with
 |some n=>some (.slice h.next 0 n sz,h.alloc (.cells (jj z n)))
 |none=>none
inductive K7 where
 |str|map
def mY(i:K7)(x:AV)(h:Heap):Option (AV×Heap):=
 match i,x with
 |.str,.str s=>some (.ptr h.next 0,h.alloc (.Cy s 0))
 |.map,.jJ=>some (.ptr h.next 0,h.alloc (.gh none 0 [] 0))
 |.map,.map m=>(match h.get m with
  |some (.map _ ck)=>some (.ptr h.next 0,h.alloc (.gh (some m) ck [] ck))
  |_=>none)
 |_,_=>none
def lY(n:Nat):List Entry->Option Entry
 |[]=>none
 |e :: es=>if e.2.2=n then some e else lY n es
def tV(es:List Entry)(since:Nat)(seen:List Nat):List (Option Entry):=
 let left:=es.filter fun e=>!seen.contains e.2.2
 let gJ:=left.filter fun e=>decide (e.2.2<since)
 let new:=left.filter fun e=>decide (e.2.2>=since)
 (if gJ.isEmpty then [none] else [])++(gJ++new).map some
def K8(r m since:Nat)(seen:List Nat)(ck:Nat)(h:Heap):Option Entry->AV×Heap
 |some e=>(.tuple [.bool true,e.1,e.2.1],h.set r (.gh (some m) since (seen++[e.2.2]) ck))
 |none=>(.tuple [.bool false],h)
def yt(isString:Bool)(x:AV)(h:Heap):Option (List (AV×Heap)):=
 match x with
 |.ptr r 0=>(match h.get r,isString with
  |some (.Cy s pos),true=>
   if pos<s.length then
    some [(.tuple [.bool true,.int .i64 pos,.int .i32 (Utf8.decode ⟨s.toArray⟩ pos).1],h.set r (.Cy s (pos+(Utf8.decode ⟨s.toArray⟩ pos).2)))]
   else some [(.tuple [.bool false],h)]
  |some (.gh none _ _ _),false=>some [(.tuple [.bool false],h)]
  |some (.gh (some m) since seen last),false=>(match h.get m with
   |some (.map es ck)=>
    if !seen.isEmpty&&!es.isEmpty&&es.all (fun e=>decide (e.2.2>=last)) then none else
    match tV es since seen with
    |[]=>none
    |c :: cs=>some ((c :: cs).map (K8 r m since seen ck h))
   |_=>none)
  |_,_=>none)
 |_=>none
def tW(x:AV)(h:Heap):Option AV:=
 match x with
 |.ptr r 0=>(match h.get r with
  |some (.gh (some m) _ seen MS)=>(match seen.getLast?,h.get m with
   |some MW,some (.map es ck)=>
    if ck=MS then (match lY MW es with|some e=>some (.tuple [e.1,e.2.1])|none=>none) else none
   |_,_=>none)
  |_=>none)
 |_=>none
def Cd(a:TypeId)(z x:AV):Option AV:=
 match x with
 |.qE=>some (.tuple [z,.bool false])
 |.iface t v=>some (if t=a then .tuple [v,.bool true] else .tuple [z,.bool false])
 |_=>none
def bD(x:AV)(i:Nat):Option AV:=match x with|.tuple vs=>vs[i]?|_=>none
def P0(P:Program)(e:Option TypeId):Option (Nat×Nat):=
 match e with
 |none=>none
 |some e=>match oW P e,PV P e with
  |some s,some b=>if 0<s&&decide (0<b) then some (s,b) else none
  |_,_=>none
def CA(P:Program)(t:TypeId):Option (Nat×Nat):=P0 P (MT P t)
def iaI(P:Program)(t:TypeId):Option IaK:=
 match P.underlying t with
 |some (.array len e)=>(match oW P e with|some s=>some (.arr len s)|none=>none)
 |_=>(match CA P t with|some o=>some (.sl o.1)|none=>none)
def CB(P:Program)(t:TypeId):Option (Nat×Nat×List AV):=
 match CA P t,MT P t with
 |some (s,b),some e=>(match mX P e with
  |some z=>if z.length=s then some (s,b,z) else none
  |none=>none)
 |_,_=>none
def MX(CC:List (Nat×Nat)):List Nat->Option (List (Nat×Nat))
 |[]=>some []
 |i :: is=>match CC[i]?,MX CC is with
  |some p,some ps=>some (p :: ps)
  |_,_=>none
def S0(P:Program)(fs:List Field):Option (List (Nat×Nat)):=fs.mapM fun f=>(P.info? f.type).map fun i=>(f.offset,i.size)
def He(P:Program)(t:TypeId)(is:List Nat):Option (List AV×List (Nat×Nat)):=
 match P.underlying t with
 |some (.struct fs)=>(match AQ P t,S0 P fs.toList with
  |some z,some pl=>(match MX pl is with|some ps=>if bx z.dI then some (z.dI,ps) else none|none=>none)
  |_,_=>none)
 |some (.array _ e)=>(match AQ P t,P.info? e with
  |some z,some ie=>if bx z.dI then some (z.dI,is.map fun i=>(i*ie.size,ie.size)) else none
  |_,_=>none)
 |_=>none
def S1(P:Program)(t:TypeId)(len:Nat)(is:List Nat):Option (Nat×List AV×List (Nat×Nat)):=
 match CB P t with
 |some (s,_,z)=>if len*s<=65536 then some (s,jj z len,is.map fun i=>(i*s,s)) else none
 |none=>none
def faI(P:Program)(t:TypeId)(i:Nat):Option Nat:=
 match G6 P t i with
 |some f=>(match oW P f.type with|some s=>if s=0 then none else some f.offset|none=>none)
 |none=>none
def Hf(P:Program)(t:TypeId)(i:Nat):Option (Option Nat×Nat):=
 match G6 P t i with
 |some f=>(match wP P f.type with|some r=>some (r,f.offset)|none=>none)
 |none=>none
def Hg(P:Program)(t:TypeId):Option (Option Nat):=
 match P.underlying t with
 |some .string=>some none
 |some (.slice e)=>(match oW P e with|some s=>some (some s)|none=>none)
 |_=>none
inductive WN where
 |str|arr (len n:Nat) (r:Option Nat)
def S2(P:Program)(t:TypeId):Option WN:=
 match P.underlying t with
 |some .string=>some .str
 |some (.array len e)=>(match oW P e,wP P e with|some n,some r=>some (.arr len n r)|_,_=>none)
 |_=>none
def P4(i:WN)(x y:AV):Option AV:=
 match i with
 |.str=>lf x y
 |.arr len n r=>MV len n r x y
def rT(P:Program)(t:TypeId):Option (TypeDesc×AV):=
 match IM P t with
 |some (d,e)=>(match AQ P e with|some z=>some (d,z)|none=>none)
 |none=>none
def S3(P:Program)(t:TypeId):Option WM:=
 match P.underlying t with
 |some .string=>some .str
 |some (.slice _)=>some .slice
 |some (.map _ _)=>some .map
 |some (.array n _)=>some (.array n)
 |_=>none
def CD(P:Program)(src dst:TypeId):Option PZ:=
 match P.underlying src,P.underlying dst with
 |some (.int _),some (.int k)=>some (.int k)
 |some .string,some .string=>some .str
 |some .string,some (.slice e)=>(match P.underlying e,oW P e with|some (.int .u8),some 1=>some .bytes|_,_=>none)
 |some (.slice e),some .string=>(match P.underlying e with|some (.int .u8)=>some .string|_=>none)
 |_,_=>none
def K9(P:Program)(t:TypeId):Option K7:=
 match P.underlying t with
 |some .string=>some .str
 |some (.map _ _)=>some .map
 |_=>none
def CE(P:Program)(t:TypeId):Option Unit:=
 match P.underlying t with
 |some (.interface _)=>none
 |some _=>some ()
 |none=>none
def Ce(P:Program)(a:TypeId)(ok:Bool):Option AV:=
 match ok,P.underlying a with
 |true,some (.interface _)=>none
 |true,some _=>AQ P a
 |_,_=>none
def Cf(P:Program)(t u:TypeId):Option (Nat×Nat):=
 match P.underlying u,CB P t with
 |some (.slice _),some (s,b,_)=>some (s,b)
 |some .string,some (s,b,_)=>some (s,b)
 |_,_=>none
abbrev Ex:=Program->(Operand->AV)->Heap->(AV->Heap->Bool)->Bool
def kH(h:Heap)(K:AV->Heap->Bool)(o:Option AV):Bool:=af o fun v=>K v h
def AR(K:AV->Heap->Bool)(o:Option Heap):Bool:=af o fun h=>K bM h
def wU(K:AV->Heap->Bool)(o:Option (AV×Heap)):Bool:=af o fun p=>K p.1 p.2
def MY(t:TypeId):Ex:=fun P _ h K=>af (mX P t) fun z=>K (.ptr h.next 0) (h.alloc (.cells z))
def VV(x:Operand):Ex:=fun _ ρ h K=>af (eW (ρ x)) fun cs=>K (.ptr h.next 0) (h.alloc (.cells cs))
def MZ(t:TypeId)(ps:List (Nat×Operand)):Ex:=fun P ρ h K=>af (He P t (ps.map (·.1))) fun i=>kH h K (iD i.1 i.2 (ps.map fun p=>ρ p.2))
def rU(t:TypeId)(n:Nat)(ps:List (Nat×Operand)):Ex:=fun P ρ h K=>
 af (S1 P t n (ps.map (·.1))) fun i=>af (fB i.2.1 i.2.2 (ps.map fun p=>ρ p.2)) fun cs=>K (.slice h.next 0 n i.1) (h.alloc (.cells cs))
def P7(op:BinOp)(t:TypeId)(x y:Operand):Ex:=fun P ρ h K=>
 match op with
 |.eql=>af (P.underlying t) fun d=>kH h K (jK d (ρ x) (ρ y))
 |.neq=>af (P.underlying t) fun d=>kH h K (qF d (ρ x) (ρ y))
 |op=>kH h K (aG op (ρ x) (ρ y))
def CF(fn:Fn)(first cap:List Operand):Ex:=fun _ ρ h K=>match fn with
 |.func f=>K (.func f (first.map ρ) (cap.map ρ)) h
 |_=>false
def FW(r:Option Operand):Ex:=fun _ _ h K=>match r with
 |none=>K (.map h.next) (h.alloc (.map [] 0))
 |some _=>false
def AS(t:TypeId)(l c:Operand):Ex:=fun P ρ h K=>af (CB P t) fun i=>wU K (gr i.1 i.2.1 i.2.2 (ρ l) (ρ c) h)
def Hh(t:TypeId)(x:Operand)(lo hi mx:Option Operand):Ex:=fun P ρ h K=>match mx with
 |none=>af (Hg P t) fun i=>kH h K (ja i (ρ x) (lo.map ρ) (hi.map ρ))
 |some _=>false
def IN(t:TypeId)(x i:Operand)(ok:Bool):Ex:=fun P ρ h K=>af (rT P t) fun d=>kH h K (dW d.1 d.2 ok (ρ x) (ρ i) h)
abbrev WO:=List TypeId->List AV->Program->Heap->(AV->Heap->Bool)->Bool
def zK:WO:=fun ts xs P h K=>match ts,xs with
 |[t,u],[s,x]=>af (Cf P t u) fun i=>wU K (bY i.1 i.2 s x h)
 |_,_=>false
def Hi:WO:=fun ts xs P h K=>match ts,xs with
 |t :: _,[d,s]=>af (CA P t) fun i=>wU K (PX i.1 d s h)
 |_,_=>false
def Lc:WO:=fun ts xs P h K=>match ts,xs with
 |t :: _,[x]=>af (S3 P t) fun i=>kH h K (bX i x h)
 |_,_=>false
def zL:WO:=fun ts xs P h K=>match ts,xs with
 |t :: _,[m,k]=>af (IM P t) fun i=>AR K (G9 i.1 m k h)
 |_,_=>false
def vj(mx:Bool):WO:=fun _ xs _ h K=>match xs with
 |x :: xs=>kH h K (wT mx x xs)
 |_=>false
def Ld:WO:=fun _ _ _ _ _=>false
def FX:Builtin->WO
 |.append=>zK
 |.copy=>Hi
 |.len=>Lc
 |.delete=>zL
 |.min=>vj false
 |.max=>vj true
 |_=>Ld
def tX(c:Call):Ex:=fun P ρ h K=>match c.callee with
 |.builtin b=>FX b c.argTypes.toList (c.args.toList.map ρ) P h K
 |_=>false
def gZ:Op->Ex
 |.move x=>fun _ ρ h K=>K (ρ x) h
 |.assign x=>fun _ ρ h K=>K (ρ x) h
 |.pick c a b=>fun _ ρ h K=>kH h K (MU (ρ c) (ρ a) (ρ b))
 |.alloc t=>MY t
 |.box _ x=>VV x
 |.build t ps=>MZ t ps.toList
 |.buildSlice t n ps=>rU t n ps.toList
 |.load t a=>fun P ρ h K=>af (wP P t) fun i=>kH h K (ag i (ρ a) h)
 |.store t a x=>fun P ρ h K=>af (oW P t) fun n=>AR K (bf n (ρ a) (ρ x) h)
 |.nilCheck x=>fun _ ρ h K=>kH h K (br (ρ x))
 |.binOp op t x y _=>P7 op t x y
 |.unOp op _ x=>fun _ ρ h K=>kH h K (lU op (ρ x))
 |.convert s d x=>fun P ρ h K=>af (CD P s d) fun i=>wU K (jw i (ρ x) h)
 |.makeInterface t x=>fun P ρ h K=>af (CE P t) fun _=>K (.iface t (ρ x)) h
 |.makeFunc fn first cap=>CF fn first.toList cap.toList
 |.makeMap _ r=>FW r
 |.makeSlice t l c=>AS t l c
 |.slice t x lo hi mx=>Hh t x lo hi mx
 |.fieldAddr t x i=>fun P ρ h K=>af (faI P t i) fun o=>kH h K (bT o (ρ x))
 |.field t x i=>fun P ρ h K=>af (Hf P t i) fun o=>kH h K (G7 o.1 o.2 (ρ x))
 |.indexAddr t x i=>fun P ρ h K=>af (iaI P t) fun o=>kH h K (iaV o (ρ x) (ρ i))
 |.index t x i=>fun P ρ h K=>af (S2 P t) fun o=>kH h K (P4 o (ρ x) (ρ i))
 |.lookup t x i ok=>IN t x i ok
 |.mapUpdate t m k x=>fun P ρ h K=>af (IM P t) fun o=>AR K (eN o.1 (ρ m) (ρ k) (ρ x) h)
 |.insert t m k x=>fun P ρ h K=>af (IM P t) fun o=>AR K (eN o.1 (ρ m) (ρ k) (ρ x) h)
 |.mapEntry t m k=>fun P ρ h K=>af (rT P t) fun o=>wU K (lX o.1 o.2 (ρ m) (ρ k) h)
 |.entryStore _ m s x=>fun _ ρ h K=>AR K (jh (ρ m) (ρ s) (ρ x) h)
 |.range t x=>fun P ρ h K=>af (K9 P t) fun o=>wU K (mY o (ρ x) h)
 |.entry x=>fun _ ρ h K=>kH h K (tW (ρ x) h)
 |.extract t i=>fun _ ρ h K=>kH h K (bD (ρ t) i)
 |.typeAssert x _ a ok=>fun P ρ h K=>af (Ce P a ok) fun z=>kH h K (Cd a z (ρ x))
 |.call c=>tX c
 |_=>fun _ _ _ _=>false
inductive Kind where
 |pure|read|alloc|KO
 deriving DecidableEq
def fC:Callee->Kind
 |.builtin .len=>.read
 |.builtin .min=>.pure
 |.builtin .max=>.pure
 |_=>.KO
def fE:Op->Kind
 |.move _|.assign _|.pick ..|.build ..|.nilCheck _|.binOp ..|.unOp ..|.makeInterface ..|.makeFunc ..|.slice ..|.fieldAddr ..|.field ..|.indexAddr ..|.index ..|.extract ..|.typeAssert ..=>.pure
 |.load ..|.lookup ..=>.read
 |.alloc _|.box ..|.buildSlice ..|.makeMap ..|.makeSlice ..=>.alloc
 |.call c=>fC c.callee
 |_=>.KO
inductive AX where
 |normal
 |exit (id:Nat)
 |ret
 |panic (v:AV)
inductive Out where
 |ret (v:AV)
 |panic (v:AV)
structure qh where
 f:FuncId
 args:List AV
 cap:List AV
abbrev Env:=Nat->AV
def aa(env:Env)(d:Nat)(v:AV):Env:=fun j=>@Bool.rec (fun _=>AV) (env j) v (Nat.beq j d)
structure St where
 env:Env
 n:Nat
 defs:List qh
 h:Heap
def mQ(env:Env)(n:Nat)(dst:Option Tmp)(v:AV):Env:=
 match dst with
 |some d=>if d<n then aa env d v else env
 |none=>env
def iF(env:Env)(n:Nat)(dst:Option Tmp)(v:AV)(k:Env->Bool):Bool:=
 match dst with
 |some d=>@Bool.rec (fun _=>Bool) false (k (aa env d v)) (ble (d+1) n)
 |none=>k env
def St.WQ(s:St)(h:Heap)(dst:Option Tmp)(v:AV):St:=⟨mQ s.env s.n dst v,s.n,s.defs,h⟩
def evalArg(env:Env):Operand->AV
 |.tmp t=>env t
 |.const v=>ofConst v
 |.global _=>.undef
 |.func f=>.func f [] []
inductive R where
 |ok (v:AV) (defs:List qh) (h:Heap)
 |panic (v:AV) (h:Heap)
inductive RS where
 |ok (s:St)
 |panic (v:AV) (s:St)
abbrev jS:=FuncId->List AV->Heap->(Out->Heap->Bool)->Bool
def iW(ops:List Oper)(o:Oper)(env:Env):Option Bool:=
 match o.guard with
 |none=>some true
 |some (j,want)=>
  match ops[j]? with
  |some g=>(match g.dst with
   |some d=>(match env d with
    |.bool b=>some (b==want)
    |.tuple _=>some false
    |_=>none)
   |none=>none)
  |none=>none
abbrev WR:=Program->jS->Env->List qh->Heap->(R->Bool)->Bool
def Za(defs:List qh)(K:R->Bool):Out->Heap->Bool
 |.ret v,h'=>K (.ok v defs h')
 |.panic v,h'=>K (.panic v h')
def qm(op:Op):WR:=fun P _ env defs h K=>gZ op P (evalArg env) h fun v h'=>K (.ok v defs h')
def Cg(f:Operand)(args:List Operand):WR:=fun _ call env defs h K=>match evalArg env f with
 |.func g first cap=>call g (first++(args.map (evalArg env)++cap)) h (Za defs K)
 |_=>false
def xD(c:Call):WR:=match c.callee with
 |.value f=>Cg f c.args.toList
 |_=>qm (.call c)
def yu(c:Call):WR:=fun _ _ env defs h K=>match c.callee with
 |.value f=>(match evalArg env f with
  |.func g first cap=>K (.ok bM (⟨g,first++c.args.toList.map (evalArg env),cap⟩ :: defs) h)
  |_=>false)
 |_=>false
def yw(x:Operand):WR:=fun _ _ env _ h K=>match evalArg env x with
 |.iface t v=>K (.panic (.iface t v) h)
 |_=>false
def mC(defs:List qh)(K:R->Bool):List (AV×Heap)->Bool
 |[]=>true
 |p :: ps=>K (.ok p.1 defs p.2)&&mC defs K ps
def Hj(x:Operand)(b:Bool):WR:=fun _ _ env defs h K=>af (yt b (evalArg env x) h) (mC defs K)
def jk:Op->WR
 |.call c=>xD c
 |.defer c=>yu c
 |.panic x=>yw x
 |.next x b=>Hj x b
 |op=>qm op
def ny(P:Program)(call:jS)(ops:List Oper):List Oper->St->(RS->Bool)->Bool
 |[],s,K=>K (.ok s)
 |o :: rest,⟨env,n,defs,h⟩,K=>
  match iW ops o env with
  |some true=>jk o.op P call env defs h fun
   |.ok v defs h=>iF env n o.dst v fun env=>ny P call ops rest ⟨env,n,defs,h⟩ K
   |.panic v h=>K (.panic v ⟨env,n,defs,h⟩)
  |some false=>iF env n o.dst bM fun env=>ny P call ops rest ⟨env,n,defs,h⟩ K
  |none=>false
def nP(acc:List Nat):List Edge->Nat
 |[]=>0
 |e :: es=>if Region.binds .any e then (2 ^ e.on ||| acc.getD e.on 0) ||| nP acc es else nP acc es
def nQ:List Oper->List Nat->List Nat
 |[],acc=>acc
 |o :: os,acc=>nQ os (acc++[nP acc o.after.toList])
def nF(ops:List Oper):List Nat:=nQ ops []
def Ch(ms:List Nat)(i j:Nat):Bool:=(ms.getD i 0).testBit j
def sQ(o:Oper):Bool:=match fE o.op with|.KO=>true|_=>false
def vk:List Oper->Nat->List (Nat×Oper)
 |[],_=>[]
 |o :: os,i=>(i,o) :: vk os (i+1)
def Hl:List (Nat×Oper)->List Nat
 |[]=>[]
 |p :: ps=>if sQ p.2 then p.1 :: Hl ps else Hl ps
def yx(ms:List Nat)(i:Nat):List Nat->Nat
 |[]=>0
 |j :: js=>if Ch ms i j then yx ms i js+1 else yx ms i js
def Ci(ms:List Nat)(ES:List Nat)(L:List (Nat×Oper)):Nat->Nat->List (Nat×Oper)
 |0,k=>L.filter fun p=>!sQ p.2&&yx ms p.1 ES==k
 |n+1,k=>(L.filter fun p=>!sQ p.2&&yx ms p.1 ES==k)++((L.filter fun p=>sQ p.2&&yx ms p.1 ES==k)++Ci ms ES L n (k+1))
def qH(ops:List Oper)(o:Oper):List Tmp:=
 (o.op.operands.toList.filterMap fun|.tmp t=>some t|_=>none) ++
 (match o.guard with
  |some (g,_)=>(match ops[g]? with|some p=>p.dst.toList|none=>[])
  |none=>[])
def Le(ops:List Oper)(ms:List Nat)(a b:Nat×Oper):Bool:=
 a.1 != b.1&&(!(Ch ms a.1 b.1)&&((!sQ a.2||Ch ms b.1 a.1) &&
 ((match a.2.dst with
   |some d=>(match b.2.dst with|some e=>d != e|none=>true)&&(!((qH ops b.2).contains d)||Ch ms b.1 a.1)
   |none=>true) &&
  (match b.2.dst with
   |some d=>!((qH ops a.2).contains d)||Ch ms b.1 a.1
   |none=>true))))
def Cj(ops:List Oper)(ms:List Nat):List (Nat×Oper)->Bool
 |[]=>true
 |p :: ps=>ps.all (Le ops ms p)&&Cj ops ms ps
def Ck(L:List (Nat×Oper)):Nat->Bool
 |0=>true
 |n+1=>L.any (fun p=>p.1==n)&&Ck L n
structure WS where
 ms:List Nat
 L:List (Nat×Oper)
def P8(ops:List Oper)(ms:List Nat):List (Nat×Oper):=Ci ms (Hl (vk ops 0)) (vk ops 0) (Hl (vk ops 0)).length 0
def Cl:List Oper->Nat->Bool
 |[],_=>true
 |o :: os,i=>o.after.toList.all (fun e=>!Region.binds .any e||decide (e.on<i))&&Cl os (i+1)
def IP(ops:List Oper):Option WS:=
 if Cl ops 0&&Cj ops (nF ops) (P8 ops (nF ops))&&Ck (P8 ops (nF ops)) ops.length then some ⟨nF ops,P8 ops (nF ops)⟩ else none
structure Read where
 i:Nat
 op:Op
 env:Env
 v:AV
def sameAt(P:Program)(op:Op)(env:Env)(v:AV)(h:Heap):Bool:=gZ op P (evalArg env) h fun v' _=>AV.beq v' v
def jE(P:Program)(ms:List Nat)(i:Nat)(h:Heap):List Read->Bool
 |[]=>true
 |r :: rs=>if Ch ms i r.i then jE P ms i h rs else sameAt P r.op r.env r.v h&&jE P ms i h rs
def fO(P:Program)(call:jS)(ops:List Oper)(ms:List Nat):List (Nat×Oper)->List Read->St->(St->Bool)->Bool
 |[],_,s,K=>K s
 |p :: rest,lg,⟨env,n,defs,h⟩,K=>
  match iW ops p.2 env with
  |some true=>
   match fE p.2.op with
   |.pure=>gZ p.2.op P (evalArg env) h fun v _=>iF env n p.2.dst v fun eO=>fO P call ops ms rest lg ⟨eO,n,defs,h⟩ K
   |.read=>gZ p.2.op P (evalArg env) h fun v _=>iF env n p.2.dst v fun eO=>fO P call ops ms rest (⟨p.1,p.2.op,env,v⟩ :: lg) ⟨eO,n,defs,h⟩ K
   |.alloc=>gZ p.2.op P (evalArg env) h fun v h'=>iF env n p.2.dst v fun eO=>fO P call ops ms rest lg ⟨eO,n,defs,h'⟩ K
   |.KO=>
    jk p.2.op P call env defs h fun
     |.ok v jT h'=>if jE P ms p.1 h' lg then iF env n p.2.dst v fun eO=>fO P call ops ms rest lg ⟨eO,n,jT,h'⟩ K else false
     |.panic _ _=>false
  |some false=>iF env n p.2.dst bM fun eO=>fO P call ops ms rest lg ⟨eO,n,defs,h⟩ K
  |none=>false
def aE:List AV->Env
 |[],_=>bM
 |v :: _,0=>v
 |_ :: vs,i+1=>aE vs i
def Lf(env:Env):Nat->Nat->List AV
 |0,_=>[]
 |n+1,i=>env i :: Lf env n (i+1)
def St.tab:St->St
 |⟨env,n,defs,h⟩=>⟨aE (Lf env n 0),n,defs,h⟩
def iter(f:St->(AX->St->Bool)->Bool)(K:AX->St->Bool):Nat->St->Bool
 |0,_=>false
 |n+1,s=>f s fun
  |.normal,s'=>iter f K n s'.tab
  |e,s'=>K e s'
def evalCode(P:Program)(call:jS)(rounds:Nat):Code->St->(AX->St->Bool)->Bool
 |.skip,s,K=>K .normal s
 |.region _ ops draw,s,K=>
  if draw then af (IP ops.toList) fun p=>fO P call ops.toList p.ms p.L [] s fun s'=>K .normal s'
  else ny P call ops.toList ops.toList s fun
   |.ok s'=>K .normal s'
   |.panic v s'=>K (.panic v) s'
 |.seq a b,s,K=>evalCode P call rounds a s fun
  |.normal,s'=>evalCode P call rounds b s' K
  |e,s'=>K e s'
 |.cond c a b,s,K=>
  match evalArg s.env c with
  |.bool true=>evalCode P call rounds a s K
  |.bool false=>evalCode P call rounds b s K
  |_=>false
 |.block id c,s,K=>evalCode P call rounds c s fun
  |.exit Oa,s'=>if Oa=id then K .normal s' else K (.exit Oa) s'
  |e,s'=>K e s'
 |.loop c,s,K=>iter (evalCode P call rounds c) K rounds s
 |.exit id,s,K=>K (.exit id) s
 |.ret,s,K=>K .ret s
 |_,_,_=>false
abbrev yy:=FuncId->Option (List AV->Heap->(Out->Heap->Bool)->Bool)
abbrev qI:=FuncId->Option (List AV->Option AV->Heap->(Option AV->Heap->Bool)->Bool)
def Cm(P:Program)(s:St):ResultVar->Option AV
 |.tmp t=>some (s.env t)
 |.cell a t=>(match wP P t with|some i=>ag i (s.env a) s.h|none=>none)
def dG(P:Program)(s:St):List ResultVar->Option (List AV)
 |[]=>some []
 |r :: rs=>match Cm P s r,dG P s rs with
  |some v,some vs=>some (v :: vs)
  |_,_=>none
def oneOf:List AV->AV
 |[v]=>v
 |vs=>.tuple vs
def leave(P:Program)(D:qI)(rs:List ResultVar)(K:Out->Heap->Bool):List qh->Option AV->St->Bool
 |[],none,s=>af (dG P s rs) fun vs=>K (.ret (oneOf vs)) s.h
 |[],some v,s=>K (.panic v) s.h
 |d :: ds,IQ,s=>
  match D d.f with
  |some g=>g (d.args++d.cap) IQ s.h fun tr h'=>leave P D rs K ds tr ⟨s.env,s.n,s.defs,h'⟩
  |none=>false
def aU(P:Program)(D:qI)(rs:List ResultVar)(K:Out->Heap->Bool):AX->St->Bool
 |.normal,s'=>leave P D rs K s'.defs none s'
 |.ret,s'=>leave P D rs K s'.defs none s'
 |.panic v,s'=>leave P D rs K s'.defs (some v) s'
 |.exit _,_=>false
def P9(P:Program)(D:qI)(call:jS)(rounds:Nat)(fn:Func)(args:List AV)(h:Heap)(K:Out->Heap->Bool):Bool:=
 match fn.body with
 |none=>false
 |some c=>evalCode P call rounds c ⟨aE args,fn.ntmps,[],h⟩ (aU P D fn.results.toList K)
def bU(P:Program)(F:yy)(D:qI):Nat->FuncId->List AV->Heap->(Out->Heap->Bool)->Bool
 |0,_,_,_,_=>false
 |n+1,f,args,h,K=>
  match F f with
  |some g=>g args h K
  |none=>
   match P.funcs[f]? with
   |none=>false
   |some fn=>if decide (args.length<=fn.ntmps)&&fn.name != "runtime.NumGoroutine" then P9 P D (bU P F D n) n fn args h K else false
mutual
def CG:Code->Nat
 |.skip=>1
 |.region _ _ _=>1
 |.seq a b=>CG a*CG b
 |.cond _ a b=>CG a+CG b
 |.block id c=>CG c+vm id c
 |_=>0
def vm(id:Nat):Code->Nat
 |.seq a b=>vm id a+CG a*vm id b
 |.cond _ a b=>vm id a+vm id b
 |.block _ c=>vm id c
 |.exit i=>@Bool.rec (fun _=>Nat) 0 1 (Nat.beq i id)
 |_=>0
end
def CH:Code->Nat
 |.region _ ops _=>ops.toList.length
 |.seq a b=>CH a+CH b
 |.cond _ a b=>CH a+CH b+1
 |.block _ c=>CH c
 |.loop c=>CH c+10
 |_=>1
def IS:List Oper->Bool
 |[]=>false
 |o :: os=>match o.guard with|some _=>true|none=>IS os
def Qa:Code->Bool
 |.cond _ _ _=>true
 |.seq a _=>Qa a
 |_=>false
def WT(a b:Code):Bool:=
 @Bool.rec (fun _=>Bool) false (match a with
  |.region _ ops _=>IS ops.toList&&!Qa b
  |a=>ble 2 (CG a)) (ble 12 (CH b))
end
end Go.AM