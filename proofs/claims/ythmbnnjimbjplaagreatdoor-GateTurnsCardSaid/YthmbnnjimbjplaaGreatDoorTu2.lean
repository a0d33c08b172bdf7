/- The abstract machine: a deterministic evaluator over the model's Code. Conditions: none; definitions alone. -/
import Derived.Test.YthmbnnjimbjplaaGreatDoorTu1
import Derived.Calls
import GoSem.Core.Utf8
import Derived.Orders
set_option linter.unusedSimpArgs false
set_option linter.unusedVariables false
namespace Go.AM
open List Nat Bool Option
open Go
noncomputable section
inductive AV where
 |undef
 |bool (b:Bool)
 |int (k:IntKind) (n:Int)
 |str (s:List UInt8)
 |jt
 |ptr (b off:Nat)
 |cS (cs:List AV) (off:Nat)
 |aE
 |slice (b off len sz:Nat)
 |aL (cs:List AV) (off len sz:Nat)
 |dI
 |map (b:Nat)
 |j0
 |func (f:FuncId) (first cap:List AV)
 |j3
 |iface (t:TypeId) (v:AV)
 |agg (cs:List AV)
 |tuple (vs:List AV)
 deriving Inhabited
mutual
def AV.beq:AV->AV->Bool
 |.undef,.undef=>true
 |.bool a,.bool b=>a==b
 |.int k a,.int j b=>decide (k=j)&&decide (a=b)
 |.str a,.str b=>decide (a=b)
 |.jt,.jt=>true
 |.ptr a i,.ptr b j=>a==b&&i==j
 |.cS a i,.cS b j=>AV.oX a b&&i==j
 |.aE,.aE=>true
 |.slice a i l s,.slice b j m t=>a==b&&i==j&&l==m&&s==t
 |.aL a i l s,.aL b j m t=>AV.oX a b&&i==j&&l==m&&s==t
 |.dI,.dI=>true
 |.map a,.map b=>a==b
 |.j0,.j0=>true
 |.func f a b,.func g c d=>f==g&&AV.oX a c&&AV.oX b d
 |.j3,.j3=>true
 |.iface t a,.iface u b=>t==u&&AV.beq a b
 |.agg a,.agg b=>AV.oX a b
 |.tuple a,.tuple b=>AV.oX a b
 |_,_=>false
def AV.oX:List AV->List AV->Bool
 |[],[]=>true
 |a :: as,b :: bs=>AV.beq a b&&AV.oX as bs
 |_,_=>false
end
inductive gh where
 |dead
 |mark
 |cells (cs:List AV)
 |map (es:List (AV×AV×Nat)) (clock:Nat)
 |uk (s:List UInt8) (pos:Nat)
 |dX (m:Option Nat) (since:Nat) (seen:List Nat) (CK:Nat)
 |box (v:AV)
 deriving Inhabited
inductive Trie (α:Type) where
 |leaf
 |node (v:Option α) (l r:Trie α)
 deriving Inhabited
def Trie.get{α:Type}:Trie α->Nat->Option α
 |.leaf,_=>none
 |.node v l r,n=>match n with
  |0=>v
  |m+1=>if m%2=0 then l.get (m/2) else r.get (m/2)
def Trie.val{α:Type}:Trie α->Option α
 |.leaf=>none
 |.node v _ _=>v
def Trie.left{α:Type}:Trie α->Trie α
 |.leaf=>.leaf
 |.node _ l _=>l
def Trie.right{α:Type}:Trie α->Trie α
 |.leaf=>.leaf
 |.node _ _ r=>r
def Trie.BG{α:Type}(o:α):Nat->Trie α->Nat->Trie α
 |0,t,_=>.node (some o) t.left t.right
 |f+1,t,n=>match n with
  |0=>.node (some o) t.left t.right
  |m+1=>if m%2=0 then .node t.val (BG o f t.left (m/2)) t.right else .node t.val t.left (BG o f t.right (m/2))
def Trie.set{α:Type}(t:Trie α)(n:Nat)(o:α):Trie α:=Trie.BG o n t n
structure Heap where
 next:Nat
 tab:Trie gh
 deriving Inhabited
def Heap.get(h:Heap)(b:Nat):Option gh:=h.tab.get b
def Heap.set(h:Heap)(b:Nat)(o:gh):Heap:=⟨h.next,h.tab.set b o⟩
def Heap.alloc(h:Heap)(o:gh):Heap:=⟨h.next+1,h.tab.set h.next o⟩
def Heap.empty:Heap:=⟨0,.leaf⟩
def Heap.bk(h:Heap):Bool:=CJ&&(match h.get 0 with|some .mark=>false|_=>true)
def af{α:Type}(o:Option α)(f:α->Bool):Bool:=
 match o with
 |some a=>f a
 |none=>false
def iS:Value->AV
 |.bool b=>.bool b
 |.int k n=>.int k n
 |.string s=>.str s.data.toList
 |.pointer none=>.jt
 |.slice none 0 0=>.aE
 |.map none=>.dI
 |.nilFunc=>.j0
 |.nilIface=>.j3
 |_=>.undef
def ofConst:Value->AV
 |.agg cs=>.agg (cs.toList.map iS)
 |v=>iS v
def AV.bV:AV->List AV
 |.agg cs=>cs
 |v=>[v]
def aZ:AV:=.tuple []
def AV.one:AV->Bool
 |.agg _|.tuple _|.undef=>false
 |_=>true
def bw:List AV->Bool
 |[]=>true
 |c :: cs=>c.one&&bw cs
section
variable (P:Program)
def ju(t:TypeId):Option Nat:=match P.info? t with|some i=>some i.size|none=>none
def EP(t:TypeId):Option Nat:=match P.info? t with|some i=>some i.bytes|none=>none
def r8(t:TypeId):Option AV:=match P.info? t with
 |some i=>(match i.zero with|some z=>some (ofConst z)|none=>none)
 |none=>none
def nG(t:TypeId):Option (Option Nat):=match P.underlying t with
 |some (.struct _)|some (.array _ _)=>(match ju P t with|some n=>some (some n)|none=>none)
 |some _=>some none
 |none=>none
def CL(t:TypeId):Option TypeId:=match P.underlying t with|some (.slice e)=>some e|_=>none
def yB(t:TypeId)(i:Nat):Option Field:=match P.underlying t with|some (.struct fs)=>fs[i]?|_=>none
def zT(t:TypeId):Option (TypeDesc×TypeId):=match P.underlying t with
 |some (.map k e)=>(match P.underlying k with|some d=>some (d,e)|none=>none)
 |_=>none
end
def iA(P:Program)(t:TypeId):Option (List AV):=
 match r8 P t with
 |some z=>if bw z.bV then some z.bV else none
 |none=>none
def ir(i:Option Nat)(cs:List AV)(off:Nat):Option AV:=
 match i with
 |none=>cs[off]?
 |some n=>if off+n<=cs.length then some (.agg ((cs.drop off).take n)) else none
def ct{α:Type}:List α->Nat->List α->List α
 |cs,_,[]=>cs
 |cs,off,v :: vs=>ct (cs.set off v) (off+1) vs
def eR(x:AV):Option (List AV):=if bw x.bV then some x.bV else none
def CM(c a b:AV):Option AV:=
 match c with
 |.bool t=>some (if t then a else b)
 |_=>none
def au(i:Option Nat)(x:AV)(h:Heap):Option AV:=
 match x with
 |.ptr b off=>(match h.get b with|some (.cells cs)=>ir i cs off|_=>none)
 |.cS cs off=>ir i cs off
 |_=>none
def bD(n:Nat)(x v:AV)(h:Heap):Option Heap:=
 match x with
 |.ptr b off=>(match h.get b with
  |some (.cells cs)=>if v.bV.length=n&&bw v.bV&&decide (off+n<=cs.length) then some (h.set b (.cells (ct cs off v.bV))) else none
  |_=>none)
 |_=>none
def eF:AV->Option AV
 |.ptr b i=>some (.ptr b i)
 |.cS c i=>some (.cS c i)
 |.func f a b=>some (.func f a b)
 |_=>none
def um(right:Bool)(x y:AV):Option AV:=
 match x,y with
 |.int k a,.int _ b=>if b<0 then none else some (.int k (if right then a.fdiv (2 ^ (min b.toNat k.bits)) else k.wrap (a*2 ^ (min b.toNat k.bits))))
 |_,_=>none
def ER(op:BinOp)(x y:AV):Option AV:=
 match x,y with
 |.int k a,.int k' b=>
  if k=k' then
   match op with
   |.and=>some (.int k (k.wrap (BitVec.ofInt k.bits a &&& BitVec.ofInt k.bits b).toNat))
   |.or=>some (.int k (k.wrap (BitVec.ofInt k.bits a ||| BitVec.ofInt k.bits b).toNat))
   |.xor=>some (.int k (k.wrap (BitVec.ofInt k.bits a ^^^ BitVec.ofInt k.bits b).toNat))
   |_=>none
  else none
 |_,_=>none
def aC(op:BinOp)(x y:AV):Option AV:=
 match op with
 |.shr=>um true x y
 |.shl=>um false x y
 |.and=>ER .and x y
 |.or=>ER .or x y
 |.xor=>ER .xor x y
 |op=>match x,y with
 |.int k a,.int k' b=>
  if k=k' then
   match op with
   |.add=>some (.int k (k.wrap (a+b)))
   |.sub=>some (.int k (k.wrap (a-b)))
   |.mul=>some (.int k (k.wrap (a*b)))
   |.quo=>if b=0 then none else some (.int k (k.wrap (a.tdiv b)))
   |.rem=>if b=0 then none else some (.int k (a.tmod b))
   |.lss=>some (.bool (decide (a<b)))
   |.leq=>some (.bool (decide (a<=b)))
   |.gtr=>some (.bool (decide (a>b)))
   |.geq=>some (.bool (decide (a>=b)))
   |_=>none
  else none
 |.str a,.str b=>
  match op with
  |.add=>if a.length+b.length<=4611686018427387904 then some (.str (a++b)) else none
  |.lss=>some (.bool (Op.bytesLess a b))
  |.leq=>some (.bool (Op.bytesLess a b||a==b))
  |.gtr=>some (.bool (!(Op.bytesLess a b||a==b)))
  |.geq=>some (.bool (!(Op.bytesLess a b)))
  |_=>none
 |_,_=>none
def Gy(d:TypeDesc)(x y:AV):Option Bool:=
 match x,y with
 |.int k a,.int k' b=>if k=k' then some (a==b) else none
 |.str a,.str b=>some (a==b)
 |.bool a,.bool b=>(match d with|.bool=>some (a==b)|_=>none)
 |.jt,.jt=>(match d with|.pointer _=>some true|_=>none)
 |.ptr _ _,.jt|.jt,.ptr _ _|.cS _ _,.jt|.jt,.cS _ _=>(match d with|.pointer _=>some false|_=>none)
 |.aE,.aE=>(match d with|.slice _=>some true|_=>none)
 |.slice _ _ _ _,.aE|.aE,.slice _ _ _ _|.aL _ _ _ _,.aE|.aE,.aL _ _ _ _=>(match d with|.slice _=>some false|_=>none)
 |.dI,.dI=>(match d with|.map _ _=>some true|_=>none)
 |.map _,.dI|.dI,.map _=>(match d with|.map _ _=>some false|_=>none)
 |.j0,.j0=>(match d with|.func _ _ _=>some true|_=>none)
 |.func _ _ _,.j0|.j0,.func _ _ _=>(match d with|.func _ _ _=>some false|_=>none)
 |_,_=>none
def fQ(d:TypeDesc)(x y:AV):Option AV:=match Gy d x y with|some b=>some (.bool b)|none=>none
def jN(d:TypeDesc)(x y:AV):Option AV:=match Gy d x y with|some b=>some (.bool (!b))|none=>none
def j4(op:UnOp)(x:AV):Option AV:=
 match op,x with
 |.neg,.int k n=>some (.int k (k.wrap (0-n)))
 |.not,.bool b=>some (.bool (!b))
 |_,_=>none
def asNat(x:AV):Option Nat:=
 match x with
 |.int _ n=>if 0<=n then some n.toNat else none
 |_=>none
def nH(d:TypeDesc)(x y:AV):Option Bool:=
 match d,x,y with
 |.int _,.int k a,.int k' b=>if k=k' then some (a==b) else none
 |.string,.str a,.str b=>some (a==b)
 |.bool,.bool a,.bool b=>some (a==b)
 |_,_,_=>none
abbrev Entry:=AV×AV×Nat
def gP(d:TypeDesc)(k:AV):List Entry->Nat->Option (Option (Nat×AV))
 |[],_=>some none
 |e :: es,i=>
  match nH d k e.1 with
  |some true=>some (some (i,e.2.1))
  |some false=>gP d k es (i+1)
  |none=>none
def lI(d:TypeDesc)(k:AV):Bool:=
 match d,k with
 |.int _,.int _ _=>true
 |.string,.str _=>true
 |.bool,.bool _=>true
 |_,_=>false
def lJ(d:TypeDesc)(k:AV)(es:List Entry):Option (Option (Nat×AV)):=if lI d k then gP d k es 0 else none
def fM(sz n:Nat)(x:AV)(h:Heap):Option (List AV):=
 match x with
 |.aE=>if n=0 then some [] else none
 |.slice b off _ s=>
  if s=sz then (match h.get b with
   |some (.cells cs)=>if off+n*sz<=cs.length then some ((cs.drop off).take (n*sz)) else none
   |_=>none) else none
 |.aL cs off _ s=>if s=sz&&decide (off+n*sz<=cs.length) then some ((cs.drop off).take (n*sz)) else none
 |.str s=>if sz=1 then some ((s.take n).map fun b=>.int .u8 b.toNat) else none
 |_=>none
def iB:AV->Option Nat
 |.aE=>some 0
 |.slice _ _ n _=>some n
 |.aL _ _ n _=>some n
 |.str s=>some s.length
 |_=>none
def dg:Nat:=140737488355328
def bP(sz bytes:Nat)(s x:AV)(h:Heap):Option (AV×Heap):=
 match iB x with
 |none=>none
 |some n=>match fM sz n x h with
  |none=>none
  |some new=>
   match s with
   |.aE=>
    if n=0 then some (.aE,h) else
    if n*bytes<=dg&&bw new then some (.slice h.next 0 n sz,h.alloc (.cells new)) else none
   |.slice b off len s'=>
    if s'=sz then
     if n=0 then some (.slice b off len s',h) else
     match h.get b with
     |some (.cells cs)=>
      if (len+n)*bytes<=dg&&bw new&&decide (off+len*sz<=cs.length) then
       some (.slice h.next 0 (len+n) sz,(h.set b .dead).alloc (.cells ((cs.drop off).take (len*sz)++new)))
      else none
     |_=>none
    else none
   |_=>none
def ES(sz:Nat)(dst src:AV)(h:Heap):Option (AV×Heap):=
 match iB src with
 |none=>none
 |some m=>match dst with
  |.aE=>some (.int .i64 0,h)
  |.slice b off len s'=>
   if s'=sz then
    match fM sz (Nat.min m len) src h with
    |some new=>match h.get b with
     |some (.cells cs)=>
      if bw new&&decide (off+Nat.min m len*sz<=cs.length)&&decide (new.length=Nat.min m len*sz) then
       some (.int .i64 (Nat.min m len),h.set b (.cells (ct cs off new)))
      else none
     |_=>none
    |none=>none
   else none
  |_=>none
def j5(x:Option AV)(MT:Nat):Option Nat:=
 match x with
 |none=>some MT
 |some v=>asNat v
def eX(i:Option Nat)(x:AV)(lo hi:Option AV):Option AV:=
 match iB x with
 |none=>none
 |some len=>match j5 hi len,j5 lo 0 with
  |some hi,some lo=>
   if lo<=hi&&decide (hi<=len) then
    match i,x with
    |none,.str s=>some (.str ((s.take hi).drop lo))
    |some _,.aE=>some .aE
    |some n,.slice b off _ sz=>if n=sz then some (.slice b (off+lo*sz) (hi-lo) sz) else none
    |some n,.aL cs off _ sz=>if n=sz then some (.aL cs (off+lo*sz) (hi-lo) sz) else none
    |_,_=>none
   else none
  |_,_=>none
def sV(off:Nat)(x:AV):Option AV:=
 match x with
 |.ptr b o=>some (.ptr b (o+off))
 |.cS cs o=>some (.cS cs (o+off))
 |_=>none
def yC(i:Option Nat)(off:Nat)(x:AV):Option AV:=
 match x with
 |.agg cs=>ir i cs off
 |_=>none
def iZ(n:Nat)(x i:AV):Option AV:=
 match asNat i with
 |none=>none
 |some i=>match x with
  |.slice b off len sz=>if i<len&&n==sz then some (.ptr b (off+i*sz)) else none
  |.aL cs off len sz=>if i<len&&n==sz then some (.cS cs (off+i*sz)) else none
  |_=>none
def ET(len n:Nat)(x i:AV):Option AV:=
 match asNat i with
 |none=>none
 |some i=>match x with
  |.ptr b off=>if i<len then some (.ptr b (off+i*n)) else none
  |.cS cs off=>if i<len then some (.cS cs (off+i*n)) else none
  |_=>none
inductive MU where
 |sl (n:Nat)|arr (len n:Nat)
def MV(k:MU)(x i:AV):Option AV:=match k with|.sl n=>iZ n x i|.arr len n=>ET len n x i
def gE(x i:AV):Option AV:=
 match x,asNat i with
 |.str s,some i=>(match s[i]? with|some b=>some (.int .u8 b.toNat)|none=>none)
 |_,_=>none
def CN(len n:Nat)(r:Option Nat)(x i:AV):Option AV:=
 match x,asNat i with
 |.agg cs,some i=>if i<len then ir r cs (i*n) else none
 |_,_=>none
def iT(m:AV)(h:Heap):Option (List Entry):=
 match m with
 |.dI=>some []
 |.map b=>(match h.get b with|some (.map es _)=>some es|_=>none)
 |_=>none
def dy(d:TypeDesc)(z:AV)(ok:Bool)(m k:AV)(h:Heap):Option AV:=
 match iT m h with
 |none=>none
 |some es=>match lJ d k es with
  |some (some (_,v))=>some (if ok then .tuple [v,.bool true] else v)
  |some none=>some (if ok then .tuple [z,.bool false] else z)
  |none=>none
def cX(es:List Entry)(i:Nat)(v:AV):List Entry:=
 match es[i]? with
 |some e=>es.set i (e.1,v,e.2.2)
 |none=>es
def cF(d:TypeDesc)(m k v:AV)(h:Heap):Option Heap:=
 match m with
 |.map b=>(match h.get b with
  |some (.map es ck)=>(match lJ d k es with
   |some (some (i,_))=>some (h.set b (.map (cX es i v) ck))
   |some none=>some (h.set b (.map (es++[(k,v,ck)]) (ck+1)))
   |none=>none)
  |_=>none)
 |_=>none
def BH(es:List Entry)(i:Nat):Nat:=match es[i]? with|some e=>e.2.2|none=>0
def qK(d:TypeDesc)(z:AV)(m k:AV)(h:Heap):Option (AV×Heap):=
 match m with
 |.map b=>(match h.get b with
  |some (.map es ck)=>(match lJ d k es with
   |some (some (i,v))=>some (.tuple [v,.int .i64 (BH es i)],h)
   |some none=>some (.tuple [z,.int .i64 ck],h.set b (.map (es++[(k,z,ck)]) (ck+1)))
   |none=>none)
  |_=>none)
 |_=>none
def oY(n:Int):List Entry->Nat->Option Nat
 |[],_=>none
 |e :: es,i=>if (e.2.2:Int)=n then some i else oY n es (i+1)
def lY(m s v:AV)(h:Heap):Option Heap:=
 match m,s with
 |.map b,.int _ n=>(match h.get b with
  |some (.map es ck)=>(match oY n es 0 with
   |some i=>some (h.set b (.map (cX es i v) ck))
   |none=>none)
  |_=>none)
 |_,_=>none
def yD(d:TypeDesc)(m k:AV)(h:Heap):Option Heap:=
 match m with
 |.dI=>if lI d k then some h else none
 |.map b=>(match h.get b with
  |some (.map es ck)=>(match lJ d k es with
   |some (some (i,_))=>some (h.set b (.map (es.eraseIdx i) ck))
   |some none=>some (h.set b (.map es ck))
   |none=>none)
  |_=>none)
 |_=>none
inductive I0 where
 |str|slice|map|array (n:Nat)
def bB(i:I0)(x:AV)(h:Heap):Option AV:=
 match i,x with
 |.str,.str s=>some (.int .i64 s.length)
 |.slice,.aE=>some (.int .i64 0)
 |.slice,.slice _ _ n _=>some (.int .i64 n)
 |.slice,.aL _ _ n _=>some (.int .i64 n)
 |.map,.dI=>some (.int .i64 0)
 |.map,.map b=>(match h.get b with|some (.map es _)=>some (.int .i64 es.length)|_=>none)
 |.array n,_=>some (.int .i64 n)
 |_,_=>none
def EU(mx:Bool)(x y:AV):Option AV:=
 match x,y with
 |.int k a,.int k' b=>if k=k' then some (.int k (if mx then (if b>a then b else a) else (if b<a then b else a))) else none
 |_,_=>none
def xD(mx:Bool):AV->List AV->Option AV
 |x,[]=>some x
 |x,y :: ys=>match EU mx x y with
  |some v=>xD mx v ys
  |none=>none
inductive EW where
 |int (k:IntKind)|str|bytes|string
def bytesOf:List AV->Option (List UInt8)
 |[]=>some []
 |.int .u8 n :: cs=>(match bytesOf cs with|some bs=>some (UInt8.ofNat n.toNat :: bs)|none=>none)
 |_=>none
def fC(i:EW)(x:AV)(h:Heap):Option (AV×Heap):=
 match i,x with
 |.int k,.int _ n=>some (.int k (k.wrap n),h)
 |.str,.str s=>some (.str s,h)
 |.bytes,.str s=>if h.bk=true/\s.length<=dg then some (.slice h.next 0 s.length 1,h.alloc (.cells (s.map fun b=>.int .u8 b.toNat))) else none
 |.string,.aE=>some (.str [],h)
 |.string,.slice b off n sz=>(match fM 1 n (.slice b off n sz) h with
  |some cs=>(match bytesOf cs with|some bs=>some (.str bs,h)|none=>none)
  |none=>none)
 |.string,.aL b off n sz=>(match fM 1 n (.aL b off n sz) h with
  |some cs=>(match bytesOf cs with|some bs=>some (.str bs,h)|none=>none)
  |none=>none)
 |_,_=>none
def kj(cells:List AV):List (Nat×Nat)->List AV->Option (List AV)
 |[],[]=>some cells
 |(off,n) :: ps,v :: vs=>
  if v.bV.length=n&&decide (off+n<=cells.length)&&bw v.bV then kj (ct cells off v.bV) ps vs else none
 |_,_=>none
def ec(zero:List AV):Nat->List AV
 |0=>[]
 |n+1=>zero++ec zero n
def eY(zs:List AV)(ps:List (Nat×Nat))(vs:List AV):Option (List AV):=
 match kj zs ps vs with
 |some cs=>if bw cs then some cs else none
 |none=>none
def ko(zs:List AV)(ps:List (Nat×Nat))(vs:List AV):Option AV:=
 match kj zs ps vs with
 |some cs=>some (.agg cs)
 |none=>none
def nU(bytes:Nat)(len cap:AV):Option Nat:=
 match len,cap with
 |.int .i64 l,.int .i64 c=>if 0<=l&&decide (l<=c)&&decide (bytes*c<=140737488355328) then some l.toNat else none
 |_,_=>none
def dS(sz bytes:Nat)(z:List AV)(len cap:AV)(h:Heap):Option (AV×Heap):=
 match nU bytes len cap with
 |some n=>some (.slice h.next 0 n sz,h.alloc (.cells (ec z n)))
 |none=>none
inductive BI where
 |str|map
def nV(i:BI)(x:AV)(h:Heap):Option (AV×Heap):=
 match i,x with
 |.str,.str s=>some (.ptr h.next 0,h.alloc (.uk s 0))
 |.map,.dI=>some (.ptr h.next 0,h.alloc (.dX none 0 [] 0))
 |.map,.map m=>(match h.get m with
  |some (.map _ ck)=>some (.ptr h.next 0,h.alloc (.dX (some m) ck [] ck))
  |_=>none)
 |_,_=>none
def gQ(n:Nat):List Entry->Option Entry
 |[]=>none
 |e :: es=>if e.2.2=n then some e else gQ n es
def lZ(es:List Entry)(since:Nat)(seen:List Nat):List (Option Entry):=
 let left:=es.filter fun e=>!seen.contains e.2.2
 let old:=left.filter fun e=>decide (e.2.2<since)
 let new:=left.filter fun e=>decide (e.2.2>=since)
 (if old.isEmpty then [none] else [])++(old++new).map some
def BJ(r m since:Nat)(seen:List Nat)(ck:Nat)(h:Heap):Option Entry->AV×Heap
 |some e=>(.tuple [.bool true,e.1,e.2.1],h.set r (.dX (some m) since (seen++[e.2.2]) ck))
 |none=>(.tuple [.bool false],h)
def uq(isString:Bool)(x:AV)(h:Heap):Option (List (AV×Heap)):=
 match x with
 |.ptr r 0=>(match h.get r,isString with
  |some (.uk s pos),true=>
   if pos<s.length then
    some [(.tuple [.bool true,.int .i64 pos,.int .i32 (Utf8.decode ⟨s.toArray⟩ pos).1],h.set r (.uk s (pos+(Utf8.decode ⟨s.toArray⟩ pos).2)))]
   else some [(.tuple [.bool false],h)]
  |some (.dX none _ _ _),false=>some [(.tuple [.bool false],h)]
  |some (.dX (some m) since seen last),false=>(match h.get m with
   |some (.map es ck)=>
    if !seen.isEmpty&&!es.isEmpty&&es.all (fun e=>decide (e.2.2>=last)) then none else
    match lZ es since seen with
    |[]=>none
    |c :: cs=>some ((c :: cs).map (BJ r m since seen ck h))
   |_=>none)
  |_,_=>none)
 |_=>none
def qL(x:AV)(h:Heap):Option AV:=
 match x with
 |.ptr r 0=>(match h.get r with
  |some (.dX (some m) _ seen CK)=>(match seen.getLast?,h.get m with
   |some CO,some (.map es ck)=>
    if ck=CK then (match gQ CO es with|some e=>some (.tuple [e.1,e.2.1])|none=>none) else none
   |_,_=>none)
  |_=>none)
 |_=>none
def tO(a:TypeId)(z x:AV):Option AV:=
 match x with
 |.j3=>some (.tuple [z,.bool false])
 |.iface t v=>some (if t=a then .tuple [v,.bool true] else .tuple [z,.bool false])
 |_=>none
def aW(x:AV)(i:Nat):Option AV:=match x with|.tuple vs=>vs[i]?|_=>none
def EX(P:Program)(e:Option TypeId):Option (Nat×Nat):=
 match e with
 |none=>none
 |some e=>match ju P e,EP P e with
  |some s,some b=>if 0<s&&decide (0<b) then some (s,b) else none
  |_,_=>none
def ur(P:Program)(t:TypeId):Option (Nat×Nat):=EX P (CL P t)
def Mq(P:Program)(t:TypeId):Option MU:=
 match P.underlying t with
 |some (.array len e)=>(match ju P e with|some s=>some (.arr len s)|none=>none)
 |_=>(match ur P t with|some o=>some (.sl o.1)|none=>none)
def uu(P:Program)(t:TypeId):Option (Nat×Nat×List AV):=
 match ur P t,CL P t with
 |some (s,b),some e=>(match iA P e with
  |some z=>if z.length=s then some (s,b,z) else none
  |none=>none)
 |_,_=>none
def CP(places:List (Nat×Nat)):List Nat->Option (List (Nat×Nat))
 |[]=>some []
 |i :: is=>match places[i]?,CP places is with
  |some p,some ps=>some (p :: ps)
  |_,_=>none
def GL(P:Program)(fs:List Field):Option (List (Nat×Nat)):=fs.mapM fun f=>(P.info? f.type).map fun i=>(f.offset,i.size)
def yE(P:Program)(t:TypeId)(is:List Nat):Option (List AV×List (Nat×Nat)):=
 match P.underlying t with
 |some (.struct fs)=>(match r8 P t,GL P fs.toList with
  |some z,some pl=>(match CP pl is with|some ps=>if bw z.bV then some (z.bV,ps) else none|none=>none)
  |_,_=>none)
 |some (.array _ e)=>(match r8 P t,P.info? e with
  |some z,some ie=>if bw z.bV then some (z.bV,is.map fun i=>(i*ie.size,ie.size)) else none
  |_,_=>none)
 |_=>none
def GM(P:Program)(t:TypeId)(len:Nat)(is:List Nat):Option (Nat×List AV×List (Nat×Nat)):=
 match uu P t with
 |some (s,_,z)=>if len*s<=65536 then some (s,ec z len,is.map fun i=>(i*s,s)) else none
 |none=>none
def Mr(P:Program)(t:TypeId)(i:Nat):Option Nat:=
 match yB P t i with
 |some f=>(match ju P f.type with|some s=>if s=0 then none else some f.offset|none=>none)
 |none=>none
def yF(P:Program)(t:TypeId)(i:Nat):Option (Option Nat×Nat):=
 match yB P t i with
 |some f=>(match nG P f.type with|some r=>some (r,f.offset)|none=>none)
 |none=>none
def yG(P:Program)(t:TypeId):Option (Option Nat):=
 match P.underlying t with
 |some .string=>some none
 |some (.slice e)=>(match ju P e with|some s=>some (some s)|none=>none)
 |_=>none
inductive I1 where
 |str|arr (len n:Nat) (r:Option Nat)
def GN(P:Program)(t:TypeId):Option I1:=
 match P.underlying t with
 |some .string=>some .str
 |some (.array len e)=>(match ju P e,nG P e with|some n,some r=>some (.arr len n r)|_,_=>none)
 |_=>none
def EY(i:I1)(x y:AV):Option AV:=
 match i with
 |.str=>gE x y
 |.arr len n r=>CN len n r x y
def kP(P:Program)(t:TypeId):Option (TypeDesc×AV):=
 match zT P t with
 |some (d,e)=>(match r8 P e with|some z=>some (d,z)|none=>none)
 |none=>none
def GO(P:Program)(t:TypeId):Option I0:=
 match P.underlying t with
 |some .string=>some .str
 |some (.slice _)=>some .slice
 |some (.map _ _)=>some .map
 |some (.array n _)=>some (.array n)
 |_=>none
def uv(P:Program)(src dst:TypeId):Option EW:=
 match P.underlying src,P.underlying dst with
 |some (.int _),some (.int k)=>some (.int k)
 |some .string,some .string=>some .str
 |some .string,some (.slice e)=>(match P.underlying e,ju P e with|some (.int .u8),some 1=>some .bytes|_,_=>none)
 |some (.slice e),some .string=>(match P.underlying e with|some (.int .u8)=>some .string|_=>none)
 |_,_=>none
def BK(P:Program)(t:TypeId):Option BI:=
 match P.underlying t with
 |some .string=>some .str
 |some (.map _ _)=>some .map
 |_=>none
def uw(P:Program)(t:TypeId):Option Unit:=
 match P.underlying t with
 |some (.interface _)=>none
 |some _=>some ()
 |none=>none
def tP(P:Program)(a:TypeId)(ok:Bool):Option AV:=
 match ok,P.underlying a with
 |true,some (.interface _)=>none
 |true,some _=>r8 P a
 |_,_=>none
def tQ(P:Program)(t u:TypeId):Option (Nat×Nat):=
 match P.underlying u,uu P t with
 |some (.slice _),some (s,b,_)=>some (s,b)
 |some .string,some (s,b,_)=>some (s,b)
 |_,_=>none
abbrev Ex:=Program->(Operand->AV)->Heap->(AV->Heap->Bool)->Bool
def gw(h:Heap)(K:AV->Heap->Bool)(o:Option AV):Bool:=af o fun v=>K v h
def r9(K:AV->Heap->Bool)(o:Option Heap):Bool:=af o fun h=>K aZ h
def nI(K:AV->Heap->Bool)(o:Option (AV×Heap)):Bool:=af o fun p=>K p.1 p.2
def CQ(t:TypeId):Ex:=fun P _ h K=>af (iA P t) fun z=>K (.ptr h.next 0) (h.alloc (.cells z))
def Ir(x:Operand):Ex:=fun _ ρ h K=>af (eR (ρ x)) fun cs=>K (.ptr h.next 0) (h.alloc (.cells cs))
def CR(t:TypeId)(ps:List (Nat×Operand)):Ex:=fun P ρ h K=>af (yE P t (ps.map (·.1))) fun i=>gw h K (ko i.1 i.2 (ps.map fun p=>ρ p.2))
def kQ(t:TypeId)(n:Nat)(ps:List (Nat×Operand)):Ex:=fun P ρ h K=>
 af (GM P t n (ps.map (·.1))) fun i=>af (eY i.2.1 i.2.2 (ps.map fun p=>ρ p.2)) fun cs=>K (.slice h.next 0 n i.1) (h.alloc (.cells cs))
def EZ(op:BinOp)(t:TypeId)(x y:Operand):Ex:=fun P ρ h K=>
 match op with
 |.eql=>af (P.underlying t) fun d=>gw h K (fQ d (ρ x) (ρ y))
 |.neq=>af (P.underlying t) fun d=>gw h K (jN d (ρ x) (ρ y))
 |op=>gw h K (aC op (ρ x) (ρ y))
def uy(fn:Fn)(first cap:List Operand):Ex:=fun _ ρ h K=>match fn with
 |.func f=>K (.func f (first.map ρ) (cap.map ρ)) h
 |_=>false
def xE(r:Option Operand):Ex:=fun _ _ h K=>match r with
 |none=>K (.map h.next) (h.alloc (.map [] 0))
 |some _=>false
def sd(t:TypeId)(l c:Operand):Ex:=fun P ρ h K=>af (uu P t) fun i=>nI K (dS i.1 i.2.1 i.2.2 (ρ l) (ρ c) h)
def yH(t:TypeId)(x:Operand)(lo hi mx:Option Operand):Ex:=fun P ρ h K=>match mx with
 |none=>af (yG P t) fun i=>gw h K (eX i (ρ x) (lo.map ρ) (hi.map ρ))
 |some _=>false
def zU(t:TypeId)(x i:Operand)(ok:Bool):Ex:=fun P ρ h K=>af (kP P t) fun d=>gw h K (dy d.1 d.2 ok (ρ x) (ρ i) h)
abbrev I2:=List TypeId->List AV->Program->Heap->(AV->Heap->Bool)->Bool
def qM:I2:=fun ts xs P h K=>match ts,xs with
 |[t,u],[s,x]=>af (tQ P t u) fun i=>nI K (bP i.1 i.2 s x h)
 |_,_=>false
def yI:I2:=fun ts xs P h K=>match ts,xs with
 |t :: _,[d,s]=>af (ur P t) fun i=>nI K (ES i.1 d s h)
 |_,_=>false
def BL:I2:=fun ts xs P h K=>match ts,xs with
 |t :: _,[x]=>af (GO P t) fun i=>gw h K (bB i x h)
 |_,_=>false
def qN:I2:=fun ts xs P h K=>match ts,xs with
 |t :: _,[m,k]=>af (zT P t) fun i=>r9 K (yD i.1 m k h)
 |_,_=>false
def mV(mx:Bool):I2:=fun _ xs _ h K=>match xs with
 |x :: xs=>gw h K (xD mx x xs)
 |_=>false
def BM:I2:=fun _ _ _ _ _=>false
def xF:Builtin->I2
 |.append=>qM
 |.copy=>yI
 |.len=>BL
 |.delete=>qN
 |.min=>mV false
 |.max=>mV true
 |_=>BM
def l6(c:Call):Ex:=fun P ρ h K=>match c.callee with
 |.builtin b=>xF b c.argTypes.toList (c.args.toList.map ρ) P h K
 |_=>false
def dY:Op->Ex
 |.move x=>fun _ ρ h K=>K (ρ x) h
 |.assign x=>fun _ ρ h K=>K (ρ x) h
 |.pick c a b=>fun _ ρ h K=>gw h K (CM (ρ c) (ρ a) (ρ b))
 |.alloc t=>CQ t
 |.box _ x=>Ir x
 |.build t ps=>CR t ps.toList
 |.buildSlice t n ps=>kQ t n ps.toList
 |.load t a=>fun P ρ h K=>af (nG P t) fun i=>gw h K (au i (ρ a) h)
 |.store t a x=>fun P ρ h K=>af (ju P t) fun n=>r9 K (bD n (ρ a) (ρ x) h)
 |.nilCheck x=>fun _ ρ h K=>gw h K (eF (ρ x))
 |.binOp op t x y _=>EZ op t x y
 |.unOp op _ x=>fun _ ρ h K=>gw h K (j4 op (ρ x))
 |.convert s d x=>fun P ρ h K=>af (uv P s d) fun i=>nI K (fC i (ρ x) h)
 |.makeInterface t x=>fun P ρ h K=>af (uw P t) fun _=>K (.iface t (ρ x)) h
 |.makeFunc fn first cap=>uy fn first.toList cap.toList
 |.makeMap _ r=>xE r
 |.makeSlice t l c=>sd t l c
 |.slice t x lo hi mx=>yH t x lo hi mx
 |.fieldAddr t x i=>fun P ρ h K=>af (Mr P t i) fun o=>gw h K (sV o (ρ x))
 |.field t x i=>fun P ρ h K=>af (yF P t i) fun o=>gw h K (yC o.1 o.2 (ρ x))
 |.indexAddr t x i=>fun P ρ h K=>af (Mq P t) fun o=>gw h K (MV o (ρ x) (ρ i))
 |.index t x i=>fun P ρ h K=>af (GN P t) fun o=>gw h K (EY o (ρ x) (ρ i))
 |.lookup t x i ok=>zU t x i ok
 |.mapUpdate t m k x=>fun P ρ h K=>af (zT P t) fun o=>r9 K (cF o.1 (ρ m) (ρ k) (ρ x) h)
 |.insert t m k x=>fun P ρ h K=>af (zT P t) fun o=>r9 K (cF o.1 (ρ m) (ρ k) (ρ x) h)
 |.mapEntry t m k=>fun P ρ h K=>af (kP P t) fun o=>nI K (qK o.1 o.2 (ρ m) (ρ k) h)
 |.entryStore _ m s x=>fun _ ρ h K=>r9 K (lY (ρ m) (ρ s) (ρ x) h)
 |.range t x=>fun P ρ h K=>af (BK P t) fun o=>nI K (nV o (ρ x) h)
 |.entry x=>fun _ ρ h K=>gw h K (qL (ρ x) h)
 |.extract t i=>fun _ ρ h K=>gw h K (aW (ρ t) i)
 |.typeAssert x _ a ok=>fun P ρ h K=>af (tP P a ok) fun z=>gw h K (tO a z (ρ x))
 |.call c=>l6 c
 |_=>fun _ _ _ _=>false
inductive Kind where
 |pure|read|alloc|Bw
 deriving DecidableEq
def cO:Callee->Kind
 |.builtin .len=>.read
 |.builtin .min=>.pure
 |.builtin .max=>.pure
 |_=>.Bw
def cP:Op->Kind
 |.move _|.assign _|.pick ..|.build ..|.nilCheck _|.binOp ..|.unOp ..|.makeInterface ..|.makeFunc ..|.slice ..|.fieldAddr ..|.field ..|.indexAddr ..|.index ..|.extract ..|.typeAssert ..=>.pure
 |.load ..|.lookup ..=>.read
 |.alloc _|.box ..|.buildSlice ..|.makeMap ..|.makeSlice ..=>.alloc
 |.call c=>cO c.callee
 |_=>.Bw
inductive AX where
 |normal
 |exit (id:Nat)
 |ret
 |panic (v:AV)
inductive Out where
 |ret (v:AV)
 |panic (v:AV)
structure j6 where
 f:FuncId
 args:List AV
 cap:List AV
abbrev Env:=Nat->AV
def bZ(env:Env)(d:Nat)(v:AV):Env:=fun j=>@Bool.rec (fun _=>AV) (env j) v (Nat.beq j d)
structure St where
 env:Env
 n:Nat
 defs:List j6
 h:Heap
def iq(env:Env)(n:Nat)(dst:Option Tmp)(v:AV):Env:=
 match dst with
 |some d=>if d<n then bZ env d v else env
 |none=>env
def eC(env:Env)(n:Nat)(dst:Option Tmp)(v:AV)(k:Env->Bool):Bool:=
 match dst with
 |some d=>@Bool.rec (fun _=>Bool) false (k (bZ env d v)) (ble (d+1) n)
 |none=>k env
def St.I3(s:St)(h:Heap)(dst:Option Tmp)(v:AV):St:=⟨iq s.env s.n dst v,s.n,s.defs,h⟩
def evalArg(env:Env):Operand->AV
 |.tmp t=>env t
 |.const v=>ofConst v
 |.global _=>.undef
 |.func f=>.func f [] []
inductive R where
 |ok (v:AV) (defs:List j6) (h:Heap)
 |panic (v:AV) (h:Heap)
inductive RS where
 |ok (s:St)
 |panic (v:AV) (s:St)
abbrev fT:=FuncId->List AV->Heap->(Out->Heap->Bool)->Bool
def eW(ops:List Oper)(o:Oper)(env:Env):Option Bool:=
 match o.guard with
 |none=>some true
 |some (j,want)=>
  match ops[j]? with
  |some g=>(match g.dst with
   |some d=>(match env d with
    |.bool b=>some (b==want)
    |.tuple _=>some false
    |_=>none)
   |none=>none)
  |none=>none
abbrev I4:=Program->fT->Env->List j6->Heap->(R->Bool)->Bool
def KQ(defs:List j6)(K:R->Bool):Out->Heap->Bool
 |.ret v,h'=>K (.ok v defs h')
 |.panic v,h'=>K (.panic v h')
def jO(op:Op):I4:=fun P _ env defs h K=>dY op P (evalArg env) h fun v h'=>K (.ok v defs h')
def tT(f:Operand)(args:List Operand):I4:=fun _ call env defs h K=>match evalArg env f with
 |.func g first cap=>call g (first++(args.map (evalArg env)++cap)) h (KQ defs K)
 |_=>false
def nW(c:Call):I4:=match c.callee with
 |.value f=>tT f c.args.toList
 |_=>jO (.call c)
def oZ(c:Call):I4:=fun _ _ env defs h K=>match c.callee with
 |.value f=>(match evalArg env f with
  |.func g first cap=>K (.ok aZ (⟨g,first++c.args.toList.map (evalArg env),cap⟩ :: defs) h)
  |_=>false)
 |_=>false
def o8(x:Operand):I4:=fun _ _ env _ h K=>match evalArg env x with
 |.iface t v=>K (.panic (.iface t v) h)
 |_=>false
def jg(defs:List j6)(K:R->Bool):List (AV×Heap)->Bool
 |[]=>true
 |p :: ps=>K (.ok p.1 defs p.2)&&jg defs K ps
def yJ(x:Operand)(b:Bool):I4:=fun _ _ env defs h K=>af (uq b (evalArg env x) h) (jg defs K)
def fm:Op->I4
 |.call c=>nW c
 |.defer c=>oZ c
 |.panic x=>o8 x
 |.next x b=>yJ x b
 |op=>jO op
def iO(P:Program)(call:fT)(ops:List Oper):List Oper->St->(RS->Bool)->Bool
 |[],s,K=>K (.ok s)
 |o :: rest,⟨env,n,defs,h⟩,K=>
  match eW ops o env with
  |some true=>fm o.op P call env defs h fun
   |.ok v defs h=>eC env n o.dst v fun env=>iO P call ops rest ⟨env,n,defs,h⟩ K
   |.panic v h=>K (.panic v ⟨env,n,defs,h⟩)
  |some false=>eC env n o.dst aZ fun env=>iO P call ops rest ⟨env,n,defs,h⟩ K
  |none=>false
def ja(acc:List Nat):List Edge->Nat
 |[]=>0
 |e :: es=>if Region.binds .any e then (2 ^ e.on ||| acc.getD e.on 0) ||| ja acc es else ja acc es
def jb:List Oper->List Nat->List Nat
 |[],acc=>acc
 |o :: os,acc=>jb os (acc++[ja acc o.after.toList])
def iU(ops:List Oper):List Nat:=jb ops []
def tU(ms:List Nat)(i j:Nat):Bool:=(ms.getD i 0).testBit j
def lK(o:Oper):Bool:=match cP o.op with|.Bw=>true|_=>false
def mW:List Oper->Nat->List (Nat×Oper)
 |[],_=>[]
 |o :: os,i=>(i,o) :: mW os (i+1)
def yK:List (Nat×Oper)->List Nat
 |[]=>[]
 |p :: ps=>if lK p.2 then p.1 :: yK ps else yK ps
def o9(ms:List Nat)(i:Nat):List Nat->Nat
 |[]=>0
 |j :: js=>if tU ms i j then o9 ms i js+1 else o9 ms i js
def tV(ms:List Nat)(wH:List Nat)(L:List (Nat×Oper)):Nat->Nat->List (Nat×Oper)
 |0,k=>L.filter fun p=>!lK p.2&&o9 ms p.1 wH==k
 |n+1,k=>(L.filter fun p=>!lK p.2&&o9 ms p.1 wH==k)++((L.filter fun p=>lK p.2&&o9 ms p.1 wH==k)++tV ms wH L n (k+1))
def j7(ops:List Oper)(o:Oper):List Tmp:=
 (o.op.operands.toList.filterMap fun|.tmp t=>some t|_=>none) ++
 (match o.guard with
  |some (g,_)=>(match ops[g]? with|some p=>p.dst.toList|none=>[])
  |none=>[])
def BN(ops:List Oper)(ms:List Nat)(a b:Nat×Oper):Bool:=
 a.1 != b.1&&(!(tU ms a.1 b.1)&&((!lK a.2||tU ms b.1 a.1) &&
 ((match a.2.dst with
   |some d=>(match b.2.dst with|some e=>d != e|none=>true)&&(!((j7 ops b.2).contains d)||tU ms b.1 a.1)
   |none=>true) &&
  (match b.2.dst with
   |some d=>!((j7 ops a.2).contains d)||tU ms b.1 a.1
   |none=>true))))
def tW(ops:List Oper)(ms:List Nat):List (Nat×Oper)->Bool
 |[]=>true
 |p :: ps=>ps.all (BN ops ms p)&&tW ops ms ps
def tX(L:List (Nat×Oper)):Nat->Bool
 |0=>true
 |n+1=>L.any (fun p=>p.1==n)&&tX L n
structure I5 where
 ms:List Nat
 L:List (Nat×Oper)
def E0(ops:List Oper)(ms:List Nat):List (Nat×Oper):=tV ms (yK (mW ops 0)) (mW ops 0) (yK (mW ops 0)).length 0
def tY:List Oper->Nat->Bool
 |[],_=>true
 |o :: os,i=>o.after.toList.all (fun e=>!Region.binds .any e||decide (e.on<i))&&tY os (i+1)
def zV(ops:List Oper):Option I5:=
 if tY ops 0&&tW ops (iU ops) (E0 ops (iU ops))&&tX (E0 ops (iU ops)) ops.length then some ⟨iU ops,E0 ops (iU ops)⟩ else none
structure Read where
 i:Nat
 op:Op
 env:Env
 v:AV
def sameAt(P:Program)(op:Op)(env:Env)(v:AV)(h:Heap):Bool:=dY op P (evalArg env) h fun v' _=>AV.beq v' v
def fJ(P:Program)(ms:List Nat)(i:Nat)(h:Heap):List Read->Bool
 |[]=>true
 |r :: rs=>if tU ms i r.i then fJ P ms i h rs else sameAt P r.op r.env r.v h&&fJ P ms i h rs
def cY(P:Program)(call:fT)(ops:List Oper)(ms:List Nat):List (Nat×Oper)->List Read->St->(St->Bool)->Bool
 |[],_,s,K=>K s
 |p :: rest,lg,⟨env,n,defs,h⟩,K=>
  match eW ops p.2 env with
  |some true=>
   match cP p.2.op with
   |.pure=>dY p.2.op P (evalArg env) h fun v _=>eC env n p.2.dst v fun cu=>cY P call ops ms rest lg ⟨cu,n,defs,h⟩ K
   |.read=>dY p.2.op P (evalArg env) h fun v _=>eC env n p.2.dst v fun cu=>cY P call ops ms rest (⟨p.1,p.2.op,env,v⟩ :: lg) ⟨cu,n,defs,h⟩ K
   |.alloc=>dY p.2.op P (evalArg env) h fun v h'=>eC env n p.2.dst v fun cu=>cY P call ops ms rest lg ⟨cu,n,defs,h'⟩ K
   |.Bw=>
    fm p.2.op P call env defs h fun
     |.ok v fU h'=>if fJ P ms p.1 h' lg then eC env n p.2.dst v fun cu=>cY P call ops ms rest lg ⟨cu,n,fU,h'⟩ K else false
     |.panic _ _=>false
  |some false=>eC env n p.2.dst aZ fun cu=>cY P call ops ms rest lg ⟨cu,n,defs,h⟩ K
  |none=>false
def az:List AV->Env
 |[],_=>aZ
 |v :: _,0=>v
 |_ :: vs,i+1=>az vs i
def BO(env:Env):Nat->Nat->List AV
 |0,_=>[]
 |n+1,i=>env i :: BO env n (i+1)
def St.tab:St->St
 |⟨env,n,defs,h⟩=>⟨az (BO env n 0),n,defs,h⟩
def iter(f:St->(AX->St->Bool)->Bool)(K:AX->St->Bool):Nat->St->Bool
 |0,_=>false
 |n+1,s=>f s fun
  |.normal,s'=>iter f K n s'.tab
  |e,s'=>K e s'
def evalCode(P:Program)(call:fT)(rounds:Nat):Code->St->(AX->St->Bool)->Bool
 |.skip,s,K=>K .normal s
 |.region _ ops draw,s,K=>
  if draw then af (zV ops.toList) fun p=>cY P call ops.toList p.ms p.L [] s fun s'=>K .normal s'
  else iO P call ops.toList ops.toList s fun
   |.ok s'=>K .normal s'
   |.panic v s'=>K (.panic v) s'
 |.seq a b,s,K=>evalCode P call rounds a s fun
  |.normal,s'=>evalCode P call rounds b s' K
  |e,s'=>K e s'
 |.cond c a b,s,K=>
  match evalArg s.env c with
  |.bool true=>evalCode P call rounds a s K
  |.bool false=>evalCode P call rounds b s K
  |_=>false
 |.block id c,s,K=>evalCode P call rounds c s fun
  |.exit DG,s'=>if DG=id then K .normal s' else K (.exit DG) s'
  |e,s'=>K e s'
 |.loop c,s,K=>iter (evalCode P call rounds c) K rounds s
 |.exit id,s,K=>K (.exit id) s
 |.ret,s,K=>K .ret s
 |_,_,_=>false
abbrev xG:=FuncId->Option (List AV->Heap->(Out->Heap->Bool)->Bool)
abbrev j8:=FuncId->Option (List AV->Option AV->Heap->(Option AV->Heap->Bool)->Bool)
def tZ(P:Program)(s:St):ResultVar->Option AV
 |.tmp t=>some (s.env t)
 |.cell a t=>(match nG P t with|some i=>au i (s.env a) s.h|none=>none)
def dz(P:Program)(s:St):List ResultVar->Option (List AV)
 |[]=>some []
 |r :: rs=>match tZ P s r,dz P s rs with
  |some v,some vs=>some (v :: vs)
  |_,_=>none
def oneOf:List AV->AV
 |[v]=>v
 |vs=>.tuple vs
def leave(P:Program)(D:j8)(rs:List ResultVar)(K:Out->Heap->Bool):List j6->Option AV->St->Bool
 |[],none,s=>af (dz P s rs) fun vs=>K (.ret (oneOf vs)) s.h
 |[],some v,s=>K (.panic v) s.h
 |d :: ds,zW,s=>
  match D d.f with
  |some g=>g (d.args++d.cap) zW s.h fun lT h'=>leave P D rs K ds lT ⟨s.env,s.n,s.defs,h'⟩
  |none=>false
def BP(P:Program)(D:j8)(rs:List ResultVar)(K:Out->Heap->Bool):AX->St->Bool
 |.normal,s'=>leave P D rs K s'.defs none s'
 |.ret,s'=>leave P D rs K s'.defs none s'
 |.panic v,s'=>leave P D rs K s'.defs (some v) s'
 |.exit _,_=>false
def E1(P:Program)(D:j8)(call:fT)(rounds:Nat)(fn:Func)(args:List AV)(h:Heap)(K:Out->Heap->Bool):Bool:=
 match fn.body with
 |none=>false
 |some c=>evalCode P call rounds c ⟨az args,fn.ntmps,[],h⟩ (BP P D fn.results.toList K)
def l7(P:Program)(F:xG)(D:j8):Nat->FuncId->List AV->Heap->(Out->Heap->Bool)->Bool
 |0,_,_,_,_=>false
 |n+1,f,args,h,K=>
  match F f with
  |some g=>g args h K
  |none=>
   match P.funcs[f]? with
   |none=>false
   |some fn=>if decide (args.length<=fn.ntmps)&&fn.name != "runtime.NumGoroutine" then E1 P D (l7 P F D n) n fn args h K else false
mutual
def uz:Code->Nat
 |.skip=>1
 |.region _ _ _=>1
 |.seq a b=>uz a*uz b
 |.cond _ a b=>uz a+uz b
 |.block id c=>uz c+mX id c
 |_=>0
def mX(id:Nat):Code->Nat
 |.seq a b=>mX id a+uz a*mX id b
 |.cond _ a b=>mX id a+mX id b
 |.block _ c=>mX id c
 |.exit i=>@Bool.rec (fun _=>Nat) 0 1 (Nat.beq i id)
 |_=>0
end
def uA:Code->Nat
 |.region _ ops _=>ops.toList.length
 |.seq a b=>uA a+uA b
 |.cond _ a b=>uA a+uA b+1
 |.block _ c=>uA c
 |.loop c=>uA c+10
 |_=>1
def zX:List Oper->Bool
 |[]=>false
 |o :: os=>match o.guard with|some _=>true|none=>zX os
def E4:Code->Bool
 |.cond _ _ _=>true
 |.seq a _=>E4 a
 |_=>false
def I7(a b:Code):Bool:=
 @Bool.rec (fun _=>Bool) false (match a with
  |.region _ ops _=>zX ops.toList&&!E4 b
  |a=>ble 2 (uz a)) (ble 12 (uA b))
end
end Go.AM