/- The abstract machine: a deterministic evaluator over the model's Code. Conditions: none; definitions alone. -/
import Derived.Calls
import GoSem.Core.Utf8
import Derived.Orders
namespace Go.AM
open Go
noncomputable section
inductive AV where
 |undef
 |bool (b:Bool)
 |int (k:IntKind) (n:Int)
 |str (s:List UInt8)
 |nilp
 |ptr (b off:Nat)
 |iptr (cs:List AV) (off:Nat)
 |nils
 |slice (b off len sz:Nat)
 |islice (cs:List AV) (off len sz:Nat)
 |nilm
 |map (b:Nat)
 |nilf
 |func (f:FuncId) (first cap:List AV)
 |nili
 |iface (t:TypeId) (v:AV)
 |agg (cs:List AV)
 |tuple (vs:List AV)
 deriving Inhabited
mutual
def AV.beq:AV→AV→Bool
 |.undef,.undef=>true
 |.bool a,.bool b=>a==b
 |.int k a,.int j b=>decide (k=j)&&decide (a=b)
 |.str a,.str b=>decide (a=b)
 |.nilp,.nilp=>true
 |.ptr a i,.ptr b j=>a==b&&i==j
 |.iptr a i,.iptr b j=>AV.beqL a b&&i==j
 |.nils,.nils=>true
 |.slice a i l s,.slice b j m t=>a==b&&i==j&&l==m&&s==t
 |.islice a i l s,.islice b j m t=>AV.beqL a b&&i==j&&l==m&&s==t
 |.nilm,.nilm=>true
 |.map a,.map b=>a==b
 |.nilf,.nilf=>true
 |.func f a b,.func g c d=>f==g&&AV.beqL a c&&AV.beqL b d
 |.nili,.nili=>true
 |.iface t a,.iface u b=>t==u&&AV.beq a b
 |.agg a,.agg b=>AV.beqL a b
 |.tuple a,.tuple b=>AV.beqL a b
 |_,_=>false
def AV.beqL:List AV→List AV→Bool
 |[],[]=>true
 |a :: as,b :: bs=>AV.beq a b&&AV.beqL as bs
 |_,_=>false
end
inductive iL where
 |dead
 |cells (cs:List AV)
 |map (es:List (AV×AV×Nat)) (clock:Nat)
 |siter (s:List UInt8) (pos:Nat)
 |miter (m:Option Nat) (since:Nat) (seen:List Nat) (stepped:Nat)
 |box (v:AV)
 deriving Inhabited
inductive Trie (α:Type) where
 |leaf
 |node (v:Option α) (l r:Trie α)
 deriving Inhabited
def Trie.get{α:Type}:Trie α→Nat→Option α
 |.leaf,_=>none
 |.node v l r,n=>match n with
  |0=>v
  |m+1=>if m%2=0 then l.get (m/2) else r.get (m/2)
def Trie.val{α:Type}:Trie α→Option α
 |.leaf=>none
 |.node v _ _=>v
def Trie.left{α:Type}:Trie α→Trie α
 |.leaf=>.leaf
 |.node _ l _=>l
def Trie.right{α:Type}:Trie α→Trie α
 |.leaf=>.leaf
 |.node _ _ r=>r
def Trie.DW{α:Type}(o:α):Nat→Trie α→Nat→Trie α
 |0,t,_=>.node (some o) t.left t.right
 |f+1,t,n=>match n with
  |0=>.node (some o) t.left t.right
  |m+1=>if m%2=0 then .node t.val (DW o f t.left (m/2)) t.right else .node t.val t.left (DW o f t.right (m/2))
def Trie.set{α:Type}(t:Trie α)(n:Nat)(o:α):Trie α:=Trie.DW o n t n
structure af where
 next:Nat
 Hh:Trie iL
 deriving Inhabited
def af.get(h:af)(b:Nat):Option iL:=h.Hh.get b
def af.set(h:af)(b:Nat)(o:iL):af:=⟨h.next,h.Hh.set b o⟩
def af.alloc(h:af)(o:iL):af:=⟨h.next+1,h.Hh.set h.next o⟩
def af.empty:af:=⟨0,.leaf⟩
def ag{α:Type}(o:Option α)(f:α→Bool):Bool:=
 match o with
 |some a=>f a
 |none=>false
def jZ:Value→AV
 |.bool b=>.bool b
 |.int k n=>.int k n
 |.string s=>.str s.data.toList
 |.pointer none=>.nilp
 |.slice none 0 0=>.nils
 |.map none=>.nilm
 |.nilFunc=>.nilf
 |.nilIface=>.nili
 |_=>.undef
def ofConst:Value→AV
 |.agg cs=>.agg (cs.toList.map jZ)
 |v=>jZ v
def AV.dh:AV→List AV
 |.agg cs=>cs
 |v=>[v]
def bG:AV:=.tuple []
def AV.one:AV→Bool
 |.agg _|.tuple _|.undef=>false
 |_=>true
def bq:List AV→Bool
 |[]=>true
 |c :: cs=>c.one&&bq cs
section
variable (P:Program)
def kV(t:TypeId):Option Nat:=match P.info? t with|some i=>some i.size|none=>none
def G4(t:TypeId):Option Nat:=match P.info? t with|some i=>some i.bytes|none=>none
def uY(t:TypeId):Option AV:=match P.info? t with
 |some i=>(match i.zero with|some z=>some (ofConst z)|none=>none)
 |none=>none
def qS(t:TypeId):Option (Option Nat):=match P.underlying t with
 |some (.struct _)|some (.array _ _)=>(match kV P t with|some n=>some (some n)|none=>none)
 |some _=>some none
 |none=>none
def E3(t:TypeId):Option TypeId:=match P.underlying t with|some (.slice e)=>some e|_=>none
def Bl(t:TypeId)(i:Nat):Option Field:=match P.underlying t with|some (.struct fs)=>fs[i]?|_=>none
def Ck(t:TypeId):Option (TypeDesc×TypeId):=match P.underlying t with
 |some (.map k e)=>(match P.underlying k with|some d=>some (d,e)|none=>none)
 |_=>none
end
def jJ(P:Program)(t:TypeId):Option (List AV):=
 match uY P t with
 |some z=>if bq z.dh then some z.dh else none
 |none=>none
def gh(i:Option Nat)(cs:List AV)(off:Nat):Option AV:=
 match i with
 |none=>cs[off]?
 |some n=>if off+n≤cs.length then some (.agg ((cs.drop off).take n)) else none
def gQ{α:Type}:List α→Nat→List α→List α
 |cs,_,[]=>cs
 |cs,off,v :: vs=>gQ (cs.set off v) (off+1) vs
def ef(x:AV):Option (List AV):=if bq x.dh then some x.dh else none
def E4(c a b:AV):Option AV:=
 match c with
 |.bool t=>some (if t then a else b)
 |_=>none
def aj(i:Option Nat)(x:AV)(h:af):Option AV:=
 match x with
 |.ptr b off=>(match h.get b with|some (.cells cs)=>gh i cs off|_=>none)
 |.iptr cs off=>gh i cs off
 |_=>none
def bH(n:Nat)(x v:AV)(h:af):Option af:=
 match x with
 |.ptr b off=>(match h.get b with
  |some (.cells cs)=>if v.dh.length=n&&bq v.dh&&decide (off+n≤cs.length) then some (h.set b (.cells (gQ cs off v.dh))) else none
  |_=>none)
 |_=>none
def bY:AV→Option AV
 |.ptr b i=>some (.ptr b i)
 |.iptr c i=>some (.iptr c i)
 |.func f a b=>some (.func f a b)
 |_=>none
def xh(right:Bool)(x y:AV):Option AV:=
 match x,y with
 |.int k a,.int _ b=>if b<0 then none else some (.int k (if right then a.fdiv (2 ^ (min b.toNat k.bits)) else k.wrap (a*2 ^ (min b.toNat k.bits))))
 |_,_=>none
def G5(op:BinOp)(x y:AV):Option AV:=
 match x,y with
 |.int k a,.int k' b=>
  if k=k' then
   match op with
   |.and=>some (.int k (k.wrap (BitVec.ofInt k.bits a &&& BitVec.ofInt k.bits b).toNat))
   |.or=>some (.int k (k.wrap (BitVec.ofInt k.bits a ||| BitVec.ofInt k.bits b).toNat))
   |.xor=>some (.int k (k.wrap (BitVec.ofInt k.bits a ^^^ BitVec.ofInt k.bits b).toNat))
   |_=>none
  else none
 |_,_=>none
def aF(op:BinOp)(x y:AV):Option AV:=
 match op with
 |.shr=>xh true x y
 |.shl=>xh false x y
 |.and=>G5 .and x y
 |.or=>G5 .or x y
 |.xor=>G5 .xor x y
 |op=>match x,y with
 |.int k a,.int k' b=>
  if k=k' then
   match op with
   |.add=>some (.int k (k.wrap (a+b)))
   |.sub=>some (.int k (k.wrap (a-b)))
   |.mul=>some (.int k (k.wrap (a*b)))
   |.quo=>if b=0 then none else some (.int k (k.wrap (a.tdiv b)))
   |.rem=>if b=0 then none else some (.int k (a.tmod b))
   |.lss=>some (.bool (decide (a<b)))
   |.leq=>some (.bool (decide (a≤b)))
   |.gtr=>some (.bool (decide (a>b)))
   |.geq=>some (.bool (decide (a≥b)))
   |_=>none
  else none
 |.str a,.str b=>
  match op with
  |.add=>if a.length+b.length≤4611686018427387904 then some (.str (a++b)) else none
  |.lss=>some (.bool (Op.bytesLess a b))
  |.leq=>some (.bool (Op.bytesLess a b||a==b))
  |.gtr=>some (.bool (!(Op.bytesLess a b||a==b)))
  |.geq=>some (.bool (!(Op.bytesLess a b)))
  |_=>none
 |_,_=>none
def IV(d:TypeDesc)(x y:AV):Option Bool:=
 match x,y with
 |.int k a,.int k' b=>if k=k' then some (a==b) else none
 |.str a,.str b=>some (a==b)
 |.bool a,.bool b=>(match d with|.bool=>some (a==b)|_=>none)
 |.nilp,.nilp=>(match d with|.pointer _=>some true|_=>none)
 |.ptr _ _,.nilp|.nilp,.ptr _ _|.iptr _ _,.nilp|.nilp,.iptr _ _=>(match d with|.pointer _=>some false|_=>none)
 |.nils,.nils=>(match d with|.slice _=>some true|_=>none)
 |.slice _ _ _ _,.nils|.nils,.slice _ _ _ _|.islice _ _ _ _,.nils|.nils,.islice _ _ _ _=>(match d with|.slice _=>some false|_=>none)
 |.nilm,.nilm=>(match d with|.map _ _=>some true|_=>none)
 |.map _,.nilm|.nilm,.map _=>(match d with|.map _ _=>some false|_=>none)
 |.nilf,.nilf=>(match d with|.func _ _ _=>some true|_=>none)
 |.func _ _ _,.nilf|.nilf,.func _ _ _=>(match d with|.func _ _ _=>some false|_=>none)
 |_,_=>none
def gO(d:TypeDesc)(x y:AV):Option AV:=match IV d x y with|some b=>some (.bool b)|none=>none
def oz(d:TypeDesc)(x y:AV):Option AV:=match IV d x y with|some b=>some (.bool (!b))|none=>none
def jl(op:UnOp)(x:AV):Option AV:=
 match op,x with
 |.neg,.int k n=>some (.int k (k.wrap (0-n)))
 |.not,.bool b=>some (.bool (!b))
 |_,_=>none
def asNat(x:AV):Option Nat:=
 match x with
 |.int _ n=>if 0≤n then some n.toNat else none
 |_=>none
def qT(d:TypeDesc)(x y:AV):Option Bool:=
 match d,x,y with
 |.int _,.int k a,.int k' b=>if k=k' then some (a==b) else none
 |.string,.str a,.str b=>some (a==b)
 |.bool,.bool a,.bool b=>some (a==b)
 |_,_,_=>none
abbrev Entry:=AV×AV×Nat
def gJ(d:TypeDesc)(k:AV):List Entry→Nat→Option (Option (Nat×AV))
 |[],_=>some none
 |e :: es,i=>
  match qT d k e.1 with
  |some true=>some (some (i,e.2.1))
  |some false=>gJ d k es (i+1)
  |none=>none
def mJ(d:TypeDesc)(k:AV):Bool:=
 match d,k with
 |.int _,.int _ _=>true
 |.string,.str _=>true
 |.bool,.bool _=>true
 |_,_=>false
def mK(d:TypeDesc)(k:AV)(es:List Entry):Option (Option (Nat×AV)):=if mJ d k then gJ d k es 0 else none
def iF(sz n:Nat)(x:AV)(h:af):Option (List AV):=
 match x with
 |.nils=>if n=0 then some [] else none
 |.slice b off _ s=>
  if s=sz then (match h.get b with
   |some (.cells cs)=>if off+n*sz≤cs.length then some ((cs.drop off).take (n*sz)) else none
   |_=>none) else none
 |.islice cs off _ s=>if s=sz&&decide (off+n*sz≤cs.length) then some ((cs.drop off).take (n*sz)) else none
 |.str s=>if sz=1 then some ((s.take n).map fun b=>.int .u8 b.toNat) else none
 |_=>none
def jK:AV→Option Nat
 |.nils=>some 0
 |.slice _ _ n _=>some n
 |.islice _ _ n _=>some n
 |.str s=>some s.length
 |_=>none
def cZ:Nat:=140737488355328
def cq(sz bytes:Nat)(s x:AV)(h:af):Option (AV×af):=
 match jK x with
 |none=>none
 |some n=>match iF sz n x h with
  |none=>none
  |some new=>
   match s with
   |.nils=>
    if n=0 then some (.nils,h) else
    if n*bytes≤cZ&&bq new then some (.slice h.next 0 n sz,h.alloc (.cells new)) else none
   |.slice b off len s'=>
    if s'=sz then
     if n=0 then some (.slice b off len s',h) else
     match h.get b with
     |some (.cells cs)=>
      if (len+n)*bytes≤cZ&&bq new&&decide (off+len*sz≤cs.length) then
       some (.slice h.next 0 (len+n) sz,(h.set b .dead).alloc (.cells ((cs.drop off).take (len*sz)++new)))
      else none
     |_=>none
    else none
   |_=>none
def G6(sz:Nat)(dst src:AV)(h:af):Option (AV×af):=
 match jK src with
 |none=>none
 |some m=>match dst with
  |.nils=>some (.int .i64 0,h)
  |.slice b off len s'=>
   if s'=sz then
    match iF sz (Nat.min m len) src h with
    |some new=>match h.get b with
     |some (.cells cs)=>
      if bq new&&decide (off+Nat.min m len*sz≤cs.length)&&decide (new.length=Nat.min m len*sz) then
       some (.int .i64 (Nat.min m len),h.set b (.cells (gQ cs off new)))
      else none
     |_=>none
    |none=>none
   else none
  |_=>none
def kW(x:Option AV)(dflt:Nat):Option Nat:=
 match x with
 |none=>some dflt
 |some v=>asNat v
def fq(i:Option Nat)(x:AV)(lo hi:Option AV):Option AV:=
 match jK x with
 |none=>none
 |some len=>match kW hi len,kW lo 0 with
  |some hi,some lo=>
   if lo≤hi&&decide (hi≤len) then
    match i,x with
    |none,.str s=>some (.str ((s.take hi).drop lo))
    |some _,.nils=>some .nils
    |some n,.slice b off _ sz=>if n=sz then some (.slice b (off+lo*sz) (hi-lo) sz) else none
    |some n,.islice cs off _ sz=>if n=sz then some (.islice cs (off+lo*sz) (hi-lo) sz) else none
    |_,_=>none
   else none
  |_,_=>none
def bQ(off:Nat)(x:AV):Option AV:=
 match x with
 |.ptr b o=>some (.ptr b (o+off))
 |.iptr cs o=>some (.iptr cs (o+off))
 |_=>none
def Bn(i:Option Nat)(off:Nat)(x:AV):Option AV:=
 match x with
 |.agg cs=>gh i cs off
 |_=>none
def dx(n:Nat)(x i:AV):Option AV:=
 match asNat i with
 |none=>none
 |some i=>match x with
  |.slice b off len sz=>if i<len&&n==sz then some (.ptr b (off+i*sz)) else none
  |.islice cs off len sz=>if i<len&&n==sz then some (.iptr cs (off+i*sz)) else none
  |_=>none
def G7(len n:Nat)(x i:AV):Option AV:=
 match asNat i with
 |none=>none
 |some i=>match x with
  |.ptr b off=>if i<len then some (.ptr b (off+i*n)) else none
  |.iptr cs off=>if i<len then some (.iptr cs (off+i*n)) else none
  |_=>none
inductive Px where
 |sl (n:Nat)|arr (len n:Nat)
def Py(k:Px)(x i:AV):Option AV:=match k with|.sl n=>dx n x i|.arr len n=>G7 len n x i
def iU(x i:AV):Option AV:=
 match x,asNat i with
 |.str s,some i=>(match s[i]? with|some b=>some (.int .u8 b.toNat)|none=>none)
 |_,_=>none
def E5(len n:Nat)(r:Option Nat)(x i:AV):Option AV:=
 match x,asNat i with
 |.agg cs,some i=>if i<len then gh r cs (i*n) else none
 |_,_=>none
def jm(m:AV)(h:af):Option (List Entry):=
 match m with
 |.nilm=>some []
 |.map b=>(match h.get b with|some (.map es _)=>some es|_=>none)
 |_=>none
def cV(d:TypeDesc)(z:AV)(ok:Bool)(m k:AV)(h:af):Option AV:=
 match jm m h with
 |none=>none
 |some es=>match mK d k es with
  |some (some (_,v))=>some (if ok then .tuple [v,.bool true] else v)
  |some none=>some (if ok then .tuple [z,.bool false] else z)
  |none=>none
def dV(es:List Entry)(i:Nat)(v:AV):List Entry:=
 match es[i]? with
 |some e=>es.set i (e.1,v,e.2.2)
 |none=>es
def dR(d:TypeDesc)(m k v:AV)(h:af):Option af:=
 match m with
 |.map b=>(match h.get b with
  |some (.map es ck)=>(match mK d k es with
   |some (some (i,_))=>some (h.set b (.map (dV es i v) ck))
   |some none=>some (h.set b (.map (es++[(k,v,ck)]) (ck+1)))
   |none=>none)
  |_=>none)
 |_=>none
def Bo(es:List Entry)(i:Nat):Nat:=match es[i]? with|some e=>e.2.2|none=>0
def je(d:TypeDesc)(z:AV)(m k:AV)(h:af):Option (AV×af):=
 match m with
 |.map b=>(match h.get b with
  |some (.map es ck)=>(match mK d k es with
   |some (some (i,v))=>some (.tuple [v,.int .i64 (Bo es i)],h)
   |some none=>some (.tuple [z,.int .i64 ck],h.set b (.map (es++[(k,z,ck)]) (ck+1)))
   |none=>none)
  |_=>none)
 |_=>none
def kX(n:Int):List Entry→Nat→Option Nat
 |[],_=>none
 |e :: es,i=>if (e.2.2:Int)=n then some i else kX n es (i+1)
def gi(m s v:AV)(h:af):Option af:=
 match m,s with
 |.map b,.int _ n=>(match h.get b with
  |some (.map es ck)=>(match kX n es 0 with
   |some i=>some (h.set b (.map (dV es i v) ck))
   |none=>none)
  |_=>none)
 |_,_=>none
def Bp(d:TypeDesc)(m k:AV)(h:af):Option af:=
 match m with
 |.nilm=>if mJ d k then some h else none
 |.map b=>(match h.get b with
  |some (.map es ck)=>(match mK d k es with
   |some (some (i,_))=>some (h.set b (.map (es.eraseIdx i) ck))
   |some none=>some (h.set b (.map es ck))
   |none=>none)
  |_=>none)
 |_=>none
inductive Lw where
 |str|slice|map|array (n:Nat)
def bR(i:Lw)(x:AV)(h:af):Option AV:=
 match i,x with
 |.str,.str s=>some (.int .i64 s.length)
 |.slice,.nils=>some (.int .i64 0)
 |.slice,.slice _ _ n _=>some (.int .i64 n)
 |.slice,.islice _ _ n _=>some (.int .i64 n)
 |.map,.nilm=>some (.int .i64 0)
 |.map,.map b=>(match h.get b with|some (.map es _)=>some (.int .i64 es.length)|_=>none)
 |.array n,_=>some (.int .i64 n)
 |_,_=>none
def DX(mx:Bool)(x y:AV):Option AV:=
 match x,y with
 |.int k a,.int k' b=>if k=k' then some (.int k (if mx then (if b>a then b else a) else (if b<a then b else a))) else none
 |_,_=>none
def qW(mx:Bool):AV→List AV→Option AV
 |x,[]=>some x
 |x,y :: ys=>match DX mx x y with
  |some v=>qW mx v ys
  |none=>none
inductive G8 where
 |int (k:IntKind)|str|bytes|string
def bytesOf:List AV→Option (List UInt8)
 |[]=>some []
 |.int .u8 n :: cs=>(match bytesOf cs with|some bs=>some (UInt8.ofNat n.toNat :: bs)|none=>none)
 |_=>none
def gu(i:G8)(x:AV)(h:af):Option (AV×af):=
 match i,x with
 |.int k,.int _ n=>some (.int k (k.wrap n),h)
 |.str,.str s=>some (.str s,h)
 |.bytes,.str s=>if s.length≤cZ then some (.slice h.next 0 s.length 1,h.alloc (.cells (s.map fun b=>.int .u8 b.toNat))) else none
 |.string,.nils=>some (.str [],h)
 |.string,.slice b off n sz=>(match iF 1 n (.slice b off n sz) h with
  |some cs=>(match bytesOf cs with|some bs=>some (.str bs,h)|none=>none)
  |none=>none)
 |.string,.islice b off n sz=>(match iF 1 n (.islice b off n sz) h with
  |some cs=>(match bytesOf cs with|some bs=>some (.str bs,h)|none=>none)
  |none=>none)
 |_,_=>none
def mM(cells:List AV):List (Nat×Nat)→List AV→Option (List AV)
 |[],[]=>some cells
 |(off,n) :: ps,v :: vs=>
  if v.dh.length=n&&decide (off+n≤cells.length)&&bq v.dh then mM (gQ cells off v.dh) ps vs else none
 |_,_=>none
def gl(zero:List AV):Nat→List AV
 |0=>[]
 |n+1=>zero++gl zero n
def fE(zs:List AV)(ps:List (Nat×Nat))(vs:List AV):Option (List AV):=
 match mM zs ps vs with
 |some cs=>if bq cs then some cs else none
 |none=>none
def jo(zs:List AV)(ps:List (Nat×Nat))(vs:List AV):Option AV:=
 match mM zs ps vs with
 |some cs=>some (.agg cs)
 |none=>none
def tW(bytes:Nat)(len cap:AV):Option Nat:=
 match len,cap with
 |.int .i64 l,.int .i64 c=>if 0≤l&&decide (l≤c)&&decide (bytes*c≤140737488355328) then some l.toNat else none
 |_,_=>none
def eX(sz bytes:Nat)(z:List AV)(len cap:AV)(h:af):Option (AV×af):=
 match tW bytes len cap with
 |some n=>some (.slice h.next 0 n sz,h.alloc (.cells (gl z n)))
 |none=>none
inductive DY where
 |str|map
def jL(i:DY)(x:AV)(h:af):Option (AV×af):=
 match i,x with
 |.str,.str s=>some (.ptr h.next 0,h.alloc (.siter s 0))
 |.map,.nilm=>some (.ptr h.next 0,h.alloc (.miter none 0 [] 0))
 |.map,.map m=>(match h.get m with
  |some (.map _ ck)=>some (.ptr h.next 0,h.alloc (.miter (some m) ck [] ck))
  |_=>none)
 |_,_=>none
def jf(n:Nat):List Entry→Option Entry
 |[]=>none
 |e :: es=>if e.2.2=n then some e else jf n es
def oD(es:List Entry)(since:Nat)(seen:List Nat):List (Option Entry):=
 let left:=es.filter fun e=>!seen.contains e.2.2
 let old:=left.filter fun e=>decide (e.2.2<since)
 let new:=left.filter fun e=>decide (e.2.2≥since)
 (if old.isEmpty then [none] else [])++(old++new).map some
def DZ(r m since:Nat)(seen:List Nat)(ck:Nat)(h:af):Option Entry→AV×af
 |some e=>(.tuple [.bool true,e.1,e.2.1],h.set r (.miter (some m) since (seen++[e.2.2]) ck))
 |none=>(.tuple [.bool false],h)
def sr(isString:Bool)(x:AV)(h:af):Option (List (AV×af)):=
 match x with
 |.ptr r 0=>(match h.get r,isString with
  |some (.siter s pos),true=>
   if pos<s.length then
    some [(.tuple [.bool true,.int .i64 pos,.int .i32 (Utf8.decode ⟨s.toArray⟩ pos).1],h.set r (.siter s (pos+(Utf8.decode ⟨s.toArray⟩ pos).2)))]
   else some [(.tuple [.bool false],h)]
  |some (.miter none _ _ _),false=>some [(.tuple [.bool false],h)]
  |some (.miter (some m) since seen last),false=>(match h.get m with
   |some (.map es ck)=>
    if !seen.isEmpty&&!es.isEmpty&&es.all (fun e=>decide (e.2.2≥last)) then none else
    match oD es since seen with
    |[]=>none
    |c :: cs=>some ((c :: cs).map (DZ r m since seen ck h))
   |_=>none)
  |_,_=>none)
 |_=>none
def oE(x:AV)(h:af):Option AV:=
 match x with
 |.ptr r 0=>(match h.get r with
  |some (.miter (some m) _ seen stepped)=>(match seen.getLast?,h.get m with
   |some stamp,some (.map es ck)=>
    if ck=stepped then (match jf stamp es with|some e=>some (.tuple [e.1,e.2.1])|none=>none) else none
   |_,_=>none)
  |_=>none)
 |_=>none
def wJ(a:TypeId)(z x:AV):Option AV:=
 match x with
 |.nili=>some (.tuple [z,.bool false])
 |.iface t v=>some (if t=a then .tuple [v,.bool true] else .tuple [z,.bool false])
 |_=>none
def bL(x:AV)(i:Nat):Option AV:=match x with|.tuple vs=>vs[i]?|_=>none
def G9(P:Program)(e:Option TypeId):Option (Nat×Nat):=
 match e with
 |none=>none
 |some e=>match kV P e,G4 P e with
  |some s,some b=>if 0<s&&decide (0<b) then some (s,b) else none
  |_,_=>none
def xj(P:Program)(t:TypeId):Option (Nat×Nat):=G9 P (E3 P t)
def Pr(P:Program)(t:TypeId):Option Px:=
 match P.underlying t with
 |some (.array len e)=>(match kV P e with|some s=>some (.arr len s)|none=>none)
 |_=>(match xj P t with|some o=>some (.sl o.1)|none=>none)
def xk(P:Program)(t:TypeId):Option (Nat×Nat×List AV):=
 match xj P t,E3 P t with
 |some (s,b),some e=>(match jJ P e with
  |some z=>if z.length=s then some (s,b,z) else none
  |none=>none)
 |_,_=>none
def E6(places:List (Nat×Nat)):List Nat→Option (List (Nat×Nat))
 |[]=>some []
 |i :: is=>match places[i]?,E6 places is with
  |some p,some ps=>some (p :: ps)
  |_,_=>none
def IZ(P:Program)(fs:List Field):Option (List (Nat×Nat)):=fs.mapM fun f=>(P.info? f.type).map fun i=>(f.offset,i.size)
def Bq(P:Program)(t:TypeId)(is:List Nat):Option (List AV×List (Nat×Nat)):=
 match P.underlying t with
 |some (.struct fs)=>(match uY P t,IZ P fs.toList with
  |some z,some pl=>(match E6 pl is with|some ps=>if bq z.dh then some (z.dh,ps) else none|none=>none)
  |_,_=>none)
 |some (.array _ e)=>(match uY P t,P.info? e with
  |some z,some ie=>if bq z.dh then some (z.dh,is.map fun i=>(i*ie.size,ie.size)) else none
  |_,_=>none)
 |_=>none
def I0(P:Program)(t:TypeId)(len:Nat)(is:List Nat):Option (Nat×List AV×List (Nat×Nat)):=
 match xk P t with
 |some (s,_,z)=>if len*s≤65536 then some (s,gl z len,is.map fun i=>(i*s,s)) else none
 |none=>none
def Pt(P:Program)(t:TypeId)(i:Nat):Option Nat:=
 match Bl P t i with
 |some f=>(match kV P f.type with|some s=>if s=0 then none else some f.offset|none=>none)
 |none=>none
def Br(P:Program)(t:TypeId)(i:Nat):Option (Option Nat×Nat):=
 match Bl P t i with
 |some f=>(match qS P f.type with|some r=>some (r,f.offset)|none=>none)
 |none=>none
def Bt(P:Program)(t:TypeId):Option (Option Nat):=
 match P.underlying t with
 |some .string=>some none
 |some (.slice e)=>(match kV P e with|some s=>some (some s)|none=>none)
 |_=>none
inductive Lx where
 |str|arr (len n:Nat) (r:Option Nat)
def I1(P:Program)(t:TypeId):Option Lx:=
 match P.underlying t with
 |some .string=>some .str
 |some (.array len e)=>(match kV P e,qS P e with|some n,some r=>some (.arr len n r)|_,_=>none)
 |_=>none
def He(i:Lx)(x y:AV):Option AV:=
 match i with
 |.str=>iU x y
 |.arr len n r=>E5 len n r x y
def ni(P:Program)(t:TypeId):Option (TypeDesc×AV):=
 match Ck P t with
 |some (d,e)=>(match uY P e with|some z=>some (d,z)|none=>none)
 |none=>none
def I2(P:Program)(t:TypeId):Option Lw:=
 match P.underlying t with
 |some .string=>some .str
 |some (.slice _)=>some .slice
 |some (.map _ _)=>some .map
 |some (.array n _)=>some (.array n)
 |_=>none
def xl(P:Program)(src dst:TypeId):Option G8:=
 match P.underlying src,P.underlying dst with
 |some (.int _),some (.int k)=>some (.int k)
 |some .string,some .string=>some .str
 |some .string,some (.slice e)=>(match P.underlying e,kV P e with|some (.int .u8),some 1=>some .bytes|_,_=>none)
 |some (.slice e),some .string=>(match P.underlying e with|some (.int .u8)=>some .string|_=>none)
 |_,_=>none
def D2(P:Program)(t:TypeId):Option DY:=
 match P.underlying t with
 |some .string=>some .str
 |some (.map _ _)=>some .map
 |_=>none
def xm(P:Program)(t:TypeId):Option Unit:=
 match P.underlying t with
 |some (.interface _)=>none
 |some _=>some ()
 |none=>none
def wK(P:Program)(a:TypeId)(ok:Bool):Option AV:=
 match ok,P.underlying a with
 |true,some (.interface _)=>none
 |true,some _=>uY P a
 |_,_=>none
def wL(P:Program)(t u:TypeId):Option (Nat×Nat):=
 match P.underlying u,xk P t with
 |some (.slice _),some (s,b,_)=>some (s,b)
 |some .string,some (s,b,_)=>some (s,b)
 |_,_=>none
abbrev Ex:=Program→(Operand→AV)→af→(AV→af→Bool)→Bool
def iG(h:af)(K:AV→af→Bool)(o:Option AV):Bool:=ag o fun v=>K v h
def uZ(K:AV→af→Bool)(o:Option af):Bool:=ag o fun h=>K bG h
def qX(K:AV→af→Bool)(o:Option (AV×af)):Bool:=ag o fun p=>K p.1 p.2
def E7(t:TypeId):Ex:=fun P _ h K=>ag (jJ P t) fun z=>K (.ptr h.next 0) (h.alloc (.cells z))
def Lg(x:Operand):Ex:=fun _ ρ h K=>ag (ef (ρ x)) fun cs=>K (.ptr h.next 0) (h.alloc (.cells cs))
def E8(t:TypeId)(ps:List (Nat×Operand)):Ex:=fun P ρ h K=>ag (Bq P t (ps.map (·.1))) fun i=>iG h K (jo i.1 i.2 (ps.map fun p=>ρ p.2))
def nj(t:TypeId)(n:Nat)(ps:List (Nat×Operand)):Ex:=fun P ρ h K=>
 ag (I0 P t n (ps.map (·.1))) fun i=>ag (fE i.2.1 i.2.2 (ps.map fun p=>ρ p.2)) fun cs=>K (.slice h.next 0 n i.1) (h.alloc (.cells cs))
def Hf(op:BinOp)(t:TypeId)(x y:Operand):Ex:=fun P ρ h K=>
 match op with
 |.eql=>ag (P.underlying t) fun d=>iG h K (gO d (ρ x) (ρ y))
 |.neq=>ag (P.underlying t) fun d=>iG h K (oz d (ρ x) (ρ y))
 |op=>iG h K (aF op (ρ x) (ρ y))
def xo(fn:Fn)(first cap:List Operand):Ex:=fun _ ρ h K=>match fn with
 |.func f=>K (.func f (first.map ρ) (cap.map ρ)) h
 |_=>false
def An(r:Option Operand):Ex:=fun _ _ h K=>match r with
 |none=>K (.map h.next) (h.alloc (.map [] 0))
 |some _=>false
def u0(t:TypeId)(l c:Operand):Ex:=fun P ρ h K=>ag (xk P t) fun i=>qX K (eX i.1 i.2.1 i.2.2 (ρ l) (ρ c) h)
def Bu(t:TypeId)(x:Operand)(lo hi mx:Option Operand):Ex:=fun P ρ h K=>match mx with
 |none=>ag (Bt P t) fun i=>iG h K (fq i (ρ x) (lo.map ρ) (hi.map ρ))
 |some _=>false
def Cl(t:TypeId)(x i:Operand)(ok:Bool):Ex:=fun P ρ h K=>ag (ni P t) fun d=>iG h K (cV d.1 d.2 ok (ρ x) (ρ i) h)
abbrev Lz:=List TypeId→List AV→Program→af→(AV→af→Bool)→Bool
def tX:Lz:=fun ts xs P h K=>match ts,xs with
 |[t,u],[s,x]=>ag (wL P t u) fun i=>qX K (cq i.1 i.2 s x h)
 |_,_=>false
def Bv:Lz:=fun ts xs P h K=>match ts,xs with
 |t :: _,[d,s]=>ag (xj P t) fun i=>qX K (G6 i.1 d s h)
 |_,_=>false
def D3:Lz:=fun ts xs P h K=>match ts,xs with
 |t :: _,[x]=>ag (I2 P t) fun i=>iG h K (bR i x h)
 |_,_=>false
def tY:Lz:=fun ts xs P h K=>match ts,xs with
 |t :: _,[m,k]=>ag (Ck P t) fun i=>uZ K (Bp i.1 m k h)
 |_,_=>false
def p7(mx:Bool):Lz:=fun _ xs _ h K=>match xs with
 |x :: xs=>iG h K (qW mx x xs)
 |_=>false
def D5:Lz:=fun _ _ _ _ _=>false
def Ao:Builtin→Lz
 |.append=>tX
 |.copy=>Bv
 |.len=>D3
 |.delete=>tY
 |.min=>p7 false
 |.max=>p7 true
 |_=>D5
def oF(c:Call):Ex:=fun P ρ h K=>match c.callee with
 |.builtin b=>Ao b c.argTypes.toList (c.args.toList.map ρ) P h K
 |_=>false
def fc:Op→Ex
 |.move x=>fun _ ρ h K=>K (ρ x) h
 |.assign x=>fun _ ρ h K=>K (ρ x) h
 |.pick c a b=>fun _ ρ h K=>iG h K (E4 (ρ c) (ρ a) (ρ b))
 |.alloc t=>E7 t
 |.box _ x=>Lg x
 |.build t ps=>E8 t ps.toList
 |.buildSlice t n ps=>nj t n ps.toList
 |.load t a=>fun P ρ h K=>ag (qS P t) fun i=>iG h K (aj i (ρ a) h)
 |.store t a x=>fun P ρ h K=>ag (kV P t) fun n=>uZ K (bH n (ρ a) (ρ x) h)
 |.nilCheck x=>fun _ ρ h K=>iG h K (bY (ρ x))
 |.binOp op t x y _=>Hf op t x y
 |.unOp op _ x=>fun _ ρ h K=>iG h K (jl op (ρ x))
 |.convert s d x=>fun P ρ h K=>ag (xl P s d) fun i=>qX K (gu i (ρ x) h)
 |.makeInterface t x=>fun P ρ h K=>ag (xm P t) fun _=>K (.iface t (ρ x)) h
 |.makeFunc fn first cap=>xo fn first.toList cap.toList
 |.makeMap _ r=>An r
 |.makeSlice t l c=>u0 t l c
 |.slice t x lo hi mx=>Bu t x lo hi mx
 |.fieldAddr t x i=>fun P ρ h K=>ag (Pt P t i) fun o=>iG h K (bQ o (ρ x))
 |.field t x i=>fun P ρ h K=>ag (Br P t i) fun o=>iG h K (Bn o.1 o.2 (ρ x))
 |.indexAddr t x i=>fun P ρ h K=>ag (Pr P t) fun o=>iG h K (Py o (ρ x) (ρ i))
 |.index t x i=>fun P ρ h K=>ag (I1 P t) fun o=>iG h K (He o (ρ x) (ρ i))
 |.lookup t x i ok=>Cl t x i ok
 |.mapUpdate t m k x=>fun P ρ h K=>ag (Ck P t) fun o=>uZ K (dR o.1 (ρ m) (ρ k) (ρ x) h)
 |.insert t m k x=>fun P ρ h K=>ag (Ck P t) fun o=>uZ K (dR o.1 (ρ m) (ρ k) (ρ x) h)
 |.mapEntry t m k=>fun P ρ h K=>ag (ni P t) fun o=>qX K (je o.1 o.2 (ρ m) (ρ k) h)
 |.entryStore _ m s x=>fun _ ρ h K=>uZ K (gi (ρ m) (ρ s) (ρ x) h)
 |.range t x=>fun P ρ h K=>ag (D2 P t) fun o=>qX K (jL o (ρ x) h)
 |.entry x=>fun _ ρ h K=>iG h K (oE (ρ x) h)
 |.extract t i=>fun _ ρ h K=>iG h K (bL (ρ t) i)
 |.typeAssert x _ a ok=>fun P ρ h K=>ag (wK P a ok) fun z=>iG h K (wJ a z (ρ x))
 |.call c=>oF c
 |_=>fun _ _ _ _=>false
inductive Kind where
 |pure|read|alloc|eff
 deriving DecidableEq
def dW:Callee→Kind
 |.builtin .len=>.read
 |.builtin .min=>.pure
 |.builtin .max=>.pure
 |_=>.eff
def dX:Op→Kind
 |.move _|.assign _|.pick ..|.build ..|.nilCheck _|.binOp ..|.unOp ..|.makeInterface ..|.makeFunc ..|.slice ..|.fieldAddr ..|.field ..|.indexAddr ..|.index ..|.extract ..|.typeAssert ..=>.pure
 |.load ..|.lookup ..=>.read
 |.alloc _|.box ..|.buildSlice ..|.makeMap ..|.makeSlice ..=>.alloc
 |.call c=>dW c.callee
 |_=>.eff
inductive AX where
 |normal
 |exit (id:Nat)
 |ret
 |panic (v:AV)
inductive Out where
 |ret (v:AV)
 |panic (v:AV)
structure kz where
 f:FuncId
 args:List AV
 cap:List AV
abbrev Env:=Nat→AV
def aa(env:Env)(d:Nat)(v:AV):Env:=fun j=>@Bool.rec (fun _=>AV) (env j) v (Nat.beq j d)
structure St where
 env:Env
 n:Nat
 defs:List kz
 h:af
def jC(env:Env)(n:Nat)(dst:Option Tmp)(v:AV):Env:=
 match dst with
 |some d=>if d<n then aa env d v else env
 |none=>env
def fF(env:Env)(n:Nat)(dst:Option Tmp)(v:AV)(k:Env→Bool):Bool:=
 match dst with
 |some d=>@Bool.rec (fun _=>Bool) false (k (aa env d v)) (Nat.ble (d+1) n)
 |none=>k env
def St.LA(s:St)(h:af)(dst:Option Tmp)(v:AV):St:=⟨jC s.env s.n dst v,s.n,s.defs,h⟩
def evalArg(env:Env):Operand→AV
 |.tmp t=>env t
 |.const v=>ofConst v
 |.global _=>.undef
 |.func f=>.func f [] []
inductive R where
 |ok (v:AV) (defs:List kz) (h:af)
 |panic (v:AV) (h:af)
inductive RS where
 |ok (s:St)
 |panic (v:AV) (s:St)
abbrev fQ:=FuncId→List AV→af→(Out→af→Bool)→Bool
def fU(ops:List Oper)(o:Oper)(env:Env):Option Bool:=
 match o.guard with
 |none=>some true
 |some (j,want)=>
  match ops[j]? with
  |some g=>(match g.dst with
   |some d=>(match env d with
    |.bool b=>some (b==want)
    |.tuple _=>some false
    |_=>none)
   |none=>none)
  |none=>none
abbrev LB:=Program→fQ→Env→List kz→af→(R→Bool)→Bool
def Mt(defs:List kz)(K:R→Bool):Out→af→Bool
 |.ret v,h'=>K (.ok v defs h')
 |.panic v,h'=>K (.panic v h')
def l7(op:Op):LB:=fun P _ env defs h K=>fc op P (evalArg env) h fun v h'=>K (.ok v defs h')
def wM(f:Operand)(args:List Operand):LB:=fun _ call env defs h K=>match evalArg env f with
 |.func g first cap=>call g (first++(args.map (evalArg env)++cap)) h (Mt defs K)
 |_=>false
def rD(c:Call):LB:=match c.callee with
 |.value f=>wM f c.args.toList
 |_=>l7 (.call c)
def su(c:Call):LB:=fun _ _ env defs h K=>match c.callee with
 |.value f=>(match evalArg env f with
  |.func g first cap=>K (.ok bG (⟨g,first++c.args.toList.map (evalArg env),cap⟩ :: defs) h)
  |_=>false)
 |_=>false
def sw(x:Operand):LB:=fun _ _ env _ h K=>match evalArg env x with
 |.iface t v=>K (.panic (.iface t v) h)
 |_=>false
def jq(defs:List kz)(K:R→Bool):List (AV×af)→Bool
 |[]=>true
 |p :: ps=>K (.ok p.1 defs p.2)&&jq defs K ps
def Bw(x:Operand)(b:Bool):LB:=fun _ _ env defs h K=>ag (sr b (evalArg env x) h) (jq defs K)
def gm:Op→LB
 |.call c=>rD c
 |.defer c=>su c
 |.panic x=>sw x
 |.next x b=>Bw x b
 |op=>l7 op
def jW(P:Program)(call:fQ)(ops:List Oper):List Oper→St→(RS→Bool)→Bool
 |[],s,K=>K (.ok s)
 |o :: rest,⟨env,n,defs,h⟩,K=>
  match fU ops o env with
  |some true=>gm o.op P call env defs h fun
   |.ok v defs h=>fF env n o.dst v fun env=>jW P call ops rest ⟨env,n,defs,h⟩ K
   |.panic v h=>K (.panic v ⟨env,n,defs,h⟩)
  |some false=>fF env n o.dst bG fun env=>jW P call ops rest ⟨env,n,defs,h⟩ K
  |none=>false
def ke(acc:List Nat):List Edge→Nat
 |[]=>0
 |e :: es=>if Region.binds .any e then (2 ^ e.on ||| acc.getD e.on 0) ||| ke acc es else ke acc es
def kf:List Oper→List Nat→List Nat
 |[],acc=>acc
 |o :: os,acc=>kf os (acc++[ke acc o.after.toList])
def masks(ops:List Oper):List Nat:=kf ops []
def wN(ms:List Nat)(i j:Nat):Bool:=(ms.getD i 0).testBit j
def nR(o:Oper):Bool:=match dX o.op with|.eff=>true|_=>false
def p9:List Oper→Nat→List (Nat×Oper)
 |[],_=>[]
 |o :: os,i=>(i,o) :: p9 os (i+1)
def Bx:List (Nat×Oper)→List Nat
 |[]=>[]
 |p :: ps=>if nR p.2 then p.1 :: Bx ps else Bx ps
def sx(ms:List Nat)(i:Nat):List Nat→Nat
 |[]=>0
 |j :: js=>if wN ms i j then sx ms i js+1 else sx ms i js
def wO(ms:List Nat)(effs:List Nat)(L:List (Nat×Oper)):Nat→Nat→List (Nat×Oper)
 |0,k=>L.filter fun p=>!nR p.2&&sx ms p.1 effs==k
 |n+1,k=>(L.filter fun p=>!nR p.2&&sx ms p.1 effs==k)++((L.filter fun p=>nR p.2&&sx ms p.1 effs==k)++wO ms effs L n (k+1))
def mA(ops:List Oper)(o:Oper):List Tmp:=
 (o.op.operands.toList.filterMap fun|.tmp t=>some t|_=>none) ++
 (match o.guard with
  |some (g,_)=>(match ops[g]? with|some p=>p.dst.toList|none=>[])
  |none=>[])
def D6(ops:List Oper)(ms:List Nat)(a b:Nat×Oper):Bool:=
 a.1 != b.1&&(!(wN ms a.1 b.1)&&((!nR a.2||wN ms b.1 a.1) &&
 ((match a.2.dst with
   |some d=>(match b.2.dst with|some e=>d != e|none=>true)&&(!((mA ops b.2).contains d)||wN ms b.1 a.1)
   |none=>true) &&
  (match b.2.dst with
   |some d=>!((mA ops a.2).contains d)||wN ms b.1 a.1
   |none=>true))))
def wP(ops:List Oper)(ms:List Nat):List (Nat×Oper)→Bool
 |[]=>true
 |p :: ps=>ps.all (D6 ops ms p)&&wP ops ms ps
def wQ(L:List (Nat×Oper)):Nat→Bool
 |0=>true
 |n+1=>L.any (fun p=>p.1==n)&&wQ L n
structure LC where
 ms:List Nat
 L:List (Nat×Oper)
def Hg(ops:List Oper)(ms:List Nat):List (Nat×Oper):=wO ms (Bx (p9 ops 0)) (p9 ops 0) (Bx (p9 ops 0)).length 0
def wT:List Oper→Nat→Bool
 |[],_=>true
 |o :: os,i=>o.after.toList.all (fun e=>!Region.binds .any e||decide (e.on<i))&&wT os (i+1)
def Cm(ops:List Oper):Option LC:=
 if wT ops 0&&wP ops (masks ops) (Hg ops (masks ops))&&wQ (Hg ops (masks ops)) ops.length then some ⟨masks ops,Hg ops (masks ops)⟩ else none
structure Read where
 i:Nat
 op:Op
 env:Env
 v:AV
def sameAt(P:Program)(op:Op)(env:Env)(v:AV)(h:af):Bool:=fc op P (evalArg env) h fun v' _=>AV.beq v' v
def gE(P:Program)(ms:List Nat)(i:Nat)(h:af):List Read→Bool
 |[]=>true
 |r :: rs=>if wN ms i r.i then gE P ms i h rs else sameAt P r.op r.env r.v h&&gE P ms i h rs
def er(P:Program)(call:fQ)(ops:List Oper)(ms:List Nat):List (Nat×Oper)→List Read→St→(St→Bool)→Bool
 |[],_,s,K=>K s
 |p :: rest,lg,⟨env,n,defs,h⟩,K=>
  match fU ops p.2 env with
  |some true=>
   match dX p.2.op with
   |.pure=>fc p.2.op P (evalArg env) h fun v _=>fF env n p.2.dst v fun env'=>er P call ops ms rest lg ⟨env',n,defs,h⟩ K
   |.read=>fc p.2.op P (evalArg env) h fun v _=>fF env n p.2.dst v fun env'=>er P call ops ms rest (⟨p.1,p.2.op,env,v⟩ :: lg) ⟨env',n,defs,h⟩ K
   |.alloc=>fc p.2.op P (evalArg env) h fun v h'=>fF env n p.2.dst v fun env'=>er P call ops ms rest lg ⟨env',n,defs,h'⟩ K
   |.eff=>
    gm p.2.op P call env defs h fun
     |.ok v defs' h'=>if gE P ms p.1 h' lg then fF env n p.2.dst v fun env'=>er P call ops ms rest lg ⟨env',n,defs',h'⟩ K else false
     |.panic _ _=>false
  |some false=>fF env n p.2.dst bG fun env'=>er P call ops ms rest lg ⟨env',n,defs,h⟩ K
  |none=>false
def aB:List AV→Env
 |[],_=>bG
 |v :: _,0=>v
 |_ :: vs,i+1=>aB vs i
def D8(env:Env):Nat→Nat→List AV
 |0,_=>[]
 |n+1,i=>env i :: D8 env n (i+1)
def St.Hh:St→St
 |⟨env,n,defs,h⟩=>⟨aB (D8 env n 0),n,defs,h⟩
def iter(f:St→(AX→St→Bool)→Bool)(K:AX→St→Bool):Nat→St→Bool
 |0,_=>false
 |n+1,s=>f s fun
  |.normal,s'=>iter f K n s'.Hh
  |e,s'=>K e s'
def evalCode(P:Program)(call:fQ)(rounds:Nat):Code→St→(AX→St→Bool)→Bool
 |.skip,s,K=>K .normal s
 |.region _ ops draw,s,K=>
  if draw then ag (Cm ops.toList) fun p=>er P call ops.toList p.ms p.L [] s fun s'=>K .normal s'
  else jW P call ops.toList ops.toList s fun
   |.ok s'=>K .normal s'
   |.panic v s'=>K (.panic v) s'
 |.seq a b,s,K=>evalCode P call rounds a s fun
  |.normal,s'=>evalCode P call rounds b s' K
  |e,s'=>K e s'
 |.cond c a b,s,K=>
  match evalArg s.env c with
  |.bool true=>evalCode P call rounds a s K
  |.bool false=>evalCode P call rounds b s K
  |_=>false
 |.block id c,s,K=>evalCode P call rounds c s fun
  |.exit id',s'=>if id'=id then K .normal s' else K (.exit id') s'
  |e,s'=>K e s'
 |.loop c,s,K=>iter (evalCode P call rounds c) K rounds s
 |.exit id,s,K=>K (.exit id) s
 |.ret,s,K=>K .ret s
 |_,_,_=>false
abbrev sC:=FuncId→Option (List AV→af→(Out→af→Bool)→Bool)
abbrev mB:=FuncId→Option (List AV→Option AV→af→(Option AV→af→Bool)→Bool)
def wU(P:Program)(s:St):ResultVar→Option AV
 |.tmp t=>some (s.env t)
 |.cell a t=>(match qS P t with|some i=>aj i (s.env a) s.h|none=>none)
def eL(P:Program)(s:St):List ResultVar→Option (List AV)
 |[]=>some []
 |r :: rs=>match wU P s r,eL P s rs with
  |some v,some vs=>some (v :: vs)
  |_,_=>none
def oneOf:List AV→AV
 |[v]=>v
 |vs=>.tuple vs
def leave(P:Program)(D:mB)(rs:List ResultVar)(K:Out→af→Bool):List kz→Option AV→St→Bool
 |[],none,s=>ag (eL P s rs) fun vs=>K (.ret (oneOf vs)) s.h
 |[],some v,s=>K (.panic v) s.h
 |d :: ds,pan,s=>
  match D d.f with
  |some g=>g (d.args++d.cap) pan s.h fun pan' h'=>leave P D rs K ds pan' ⟨s.env,s.n,s.defs,h'⟩
  |none=>false
def az(P:Program)(D:mB)(rs:List ResultVar)(K:Out→af→Bool):AX→St→Bool
 |.normal,s'=>leave P D rs K s'.defs none s'
 |.ret,s'=>leave P D rs K s'.defs none s'
 |.panic v,s'=>leave P D rs K s'.defs (some v) s'
 |.exit _,_=>false
def Hi(P:Program)(D:mB)(call:fQ)(rounds:Nat)(fn:Func)(args:List AV)(h:af)(K:Out→af→Bool):Bool:=
 match fn.body with
 |none=>false
 |some c=>evalCode P call rounds c ⟨aB args,fn.ntmps,[],h⟩ (az P D fn.results.toList K)
def bB(P:Program)(F:sC)(D:mB):Nat→FuncId→List AV→af→(Out→af→Bool)→Bool
 |0,_,_,_,_=>false
 |n+1,f,args,h,K=>
  match F f with
  |some g=>g args h K
  |none=>
   match P.funcs[f]? with
   |none=>false
   |some fn=>if decide (args.length≤fn.ntmps)&&fn.name != "runtime.NumGoroutine" then Hi P D (bB P F D n) n fn args h K else false
mutual
def xp:Code→Nat
 |.skip=>1
 |.region _ _ _=>1
 |.seq a b=>xp a*xp b
 |.cond _ a b=>xp a+xp b
 |.block id c=>xp c+leavesN id c
 |_=>0
def leavesN(id:Nat):Code→Nat
 |.seq a b=>leavesN id a+xp a*leavesN id b
 |.cond _ a b=>leavesN id a+leavesN id b
 |.block _ c=>leavesN id c
 |.exit i=>@Bool.rec (fun _=>Nat) 0 1 (Nat.beq i id)
 |_=>0
end
def xq:Code→Nat
 |.region _ ops _=>ops.toList.length
 |.seq a b=>xq a+xq b
 |.cond _ a b=>xq a+xq b+1
 |.block _ c=>xq c
 |.loop c=>xq c+10
 |_=>1
def Cn:List Oper→Bool
 |[]=>false
 |o :: os=>match o.guard with|some _=>true|none=>Cn os
def Hj:Code→Bool
 |.cond _ _ _=>true
 |.seq a _=>Hj a
 |_=>false
def LD(a b:Code):Bool:=
 @Bool.rec (fun _=>Bool) false (match a with
  |.region _ ops _=>Cn ops.toList&&!Hj b
  |a=>Nat.ble 2 (xp a)) (Nat.ble 12 (xq b))
end
end Go.AM