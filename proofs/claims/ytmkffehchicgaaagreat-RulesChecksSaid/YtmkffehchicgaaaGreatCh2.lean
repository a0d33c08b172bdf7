/- The abstract machine: a deterministic evaluator over the model's Code. Conditions: none; definitions alone. -/
import Derived.Calls
import GoSem.Core.Utf8
import Derived.Orders
namespace Go.AM
open Go
noncomputable section
inductive AV where
 |undef
 |bool (b:Bool)
 |int (k:IntKind) (n:Int)
 |str (s:List UInt8)
 |nilp
 |ptr (b off:Nat)
 |iptr (cs:List AV) (off:Nat)
 |nils
 |slice (b off len sz:Nat)
 |islice (cs:List AV) (off len sz:Nat)
 |nilm
 |map (b:Nat)
 |nilf
 |func (f:FuncId) (first cap:List AV)
 |nili
 |iface (t:TypeId) (v:AV)
 |agg (cs:List AV)
 |tuple (vs:List AV)
 deriving Inhabited
mutual
def AV.beq:AV→AV→Bool
 |.undef,.undef=>true
 |.bool a,.bool b=>a==b
 |.int k a,.int j b=>decide (k=j)&&decide (a=b)
 |.str a,.str b=>decide (a=b)
 |.nilp,.nilp=>true
 |.ptr a i,.ptr b j=>a==b&&i==j
 |.iptr a i,.iptr b j=>AV.beqL a b&&i==j
 |.nils,.nils=>true
 |.slice a i l s,.slice b j m t=>a==b&&i==j&&l==m&&s==t
 |.islice a i l s,.islice b j m t=>AV.beqL a b&&i==j&&l==m&&s==t
 |.nilm,.nilm=>true
 |.map a,.map b=>a==b
 |.nilf,.nilf=>true
 |.func f a b,.func g c d=>f==g&&AV.beqL a c&&AV.beqL b d
 |.nili,.nili=>true
 |.iface t a,.iface u b=>t==u&&AV.beq a b
 |.agg a,.agg b=>AV.beqL a b
 |.tuple a,.tuple b=>AV.beqL a b
 |_,_=>false
def AV.beqL:List AV→List AV→Bool
 |[],[]=>true
 |a :: as,b :: bs=>AV.beq a b&&AV.beqL as bs
 |_,_=>false
end
inductive jG where
 |dead
 |cells (cs:List AV)
 |map (es:List (AV×AV×Nat)) (clock:Nat)
 |siter (s:List UInt8) (pos:Nat)
 |miter (m:Option Nat) (since:Nat) (seen:List Nat) (stepped:Nat)
 |box (v:AV)
 deriving Inhabited
inductive Trie (α:Type) where
 |leaf
 |node (v:Option α) (l r:Trie α)
 deriving Inhabited
def Trie.get{α:Type}:Trie α→Nat→Option α
 |.leaf,_=>none
 |.node v l r,n=>match n with
  |0=>v
  |m+1=>if m%2=0 then l.get (m/2) else r.get (m/2)
def Trie.val{α:Type}:Trie α→Option α
 |.leaf=>none
 |.node v _ _=>v
def Trie.left{α:Type}:Trie α→Trie α
 |.leaf=>.leaf
 |.node _ l _=>l
def Trie.right{α:Type}:Trie α→Trie α
 |.leaf=>.leaf
 |.node _ _ r=>r
def Trie.Gw{α:Type}(o:α):Nat→Trie α→Nat→Trie α
 |0,t,_=>.node (some o) t.left t.right
 |f+1,t,n=>match n with
  |0=>.node (some o) t.left t.right
  |m+1=>if m%2=0 then .node t.val (Gw o f t.left (m/2)) t.right else .node t.val t.left (Gw o f t.right (m/2))
def Trie.set{α:Type}(t:Trie α)(n:Nat)(o:α):Trie α:=Trie.Gw o n t n
structure ag where
 next:Nat
 J3:Trie jG
 deriving Inhabited
def ag.get(h:ag)(b:Nat):Option jG:=h.J3.get b
def ag.set(h:ag)(b:Nat)(o:jG):ag:=⟨h.next,h.J3.set b o⟩
def ag.alloc(h:ag)(o:jG):ag:=⟨h.next+1,h.J3.set h.next o⟩
def ag.empty:ag:=⟨0,.leaf⟩
def af{α:Type}(o:Option α)(f:α→Bool):Bool:=
 match o with
 |some a=>f a
 |none=>false
def lN:Value→AV
 |.bool b=>.bool b
 |.int k n=>.int k n
 |.string s=>.str s.data.toList
 |.pointer none=>.nilp
 |.slice none 0 0=>.nils
 |.map none=>.nilm
 |.nilFunc=>.nilf
 |.nilIface=>.nili
 |_=>.undef
def ofConst:Value→AV
 |.agg cs=>.agg (cs.toList.map lN)
 |v=>lN v
def AV.dP:AV→List AV
 |.agg cs=>cs
 |v=>[v]
def bD:AV:=.tuple []
def AV.one:AV→Bool
 |.agg _|.tuple _|.undef=>false
 |_=>true
def br:List AV→Bool
 |[]=>true
 |c :: cs=>c.one&&br cs
section
variable (P:Program)
def mK(t:TypeId):Option Nat:=match P.info? t with|some i=>some i.size|none=>none
def JT(t:TypeId):Option Nat:=match P.info? t with|some i=>some i.bytes|none=>none
def xj(t:TypeId):Option AV:=match P.info? t with
 |some i=>(match i.zero with|some z=>some (ofConst z)|none=>none)
 |none=>none
def ta(t:TypeId):Option (Option Nat):=match P.underlying t with
 |some (.struct _)|some (.array _ _)=>(match mK P t with|some n=>some (some n)|none=>none)
 |some _=>some none
 |none=>none
def HK(t:TypeId):Option TypeId:=match P.underlying t with|some (.slice e)=>some e|_=>none
def Dl(t:TypeId)(i:Nat):Option Field:=match P.underlying t with|some (.struct fs)=>fs[i]?|_=>none
def Ez(t:TypeId):Option (TypeDesc×TypeId):=match P.underlying t with
 |some (.map k e)=>(match P.underlying k with|some d=>some (d,e)|none=>none)
 |_=>none
end
def kT(P:Program)(t:TypeId):Option (List AV):=
 match xj P t with
 |some z=>if br z.dP then some z.dP else none
 |none=>none
def hG(i:Option Nat)(cs:List AV)(off:Nat):Option AV:=
 match i with
 |none=>cs[off]?
 |some n=>if off+n≤cs.length then some (.agg ((cs.drop off).take n)) else none
def jh{α:Type}:List α→Nat→List α→List α
 |cs,_,[]=>cs
 |cs,off,v :: vs=>jh (cs.set off v) (off+1) vs
def ew(x:AV):Option (List AV):=if br x.dP then some x.dP else none
def HL(c a b:AV):Option AV:=
 match c with
 |.bool t=>some (if t then a else b)
 |_=>none
def ai(i:Option Nat)(x:AV)(h:ag):Option AV:=
 match x with
 |.ptr b off=>(match h.get b with|some (.cells cs)=>hG i cs off|_=>none)
 |.iptr cs off=>hG i cs off
 |_=>none
def bL(n:Nat)(x v:AV)(h:ag):Option ag:=
 match x with
 |.ptr b off=>(match h.get b with
  |some (.cells cs)=>if v.dP.length=n&&br v.dP&&decide (off+n≤cs.length) then some (h.set b (.cells (jh cs off v.dP))) else none
  |_=>none)
 |_=>none
def b6:AV→Option AV
 |.ptr b i=>some (.ptr b i)
 |.iptr c i=>some (.iptr c i)
 |.func f a b=>some (.func f a b)
 |_=>none
def Dm(right:Bool)(x y:AV):Option AV:=
 match x,y with
 |.int k a,.int _ b=>if b<0 then none else some (.int k (if right then a.fdiv (2 ^ (min b.toNat k.bits)) else k.wrap (a*2 ^ (min b.toNat k.bits))))
 |_,_=>none
def JU(op:BinOp)(x y:AV):Option AV:=
 match x,y with
 |.int k a,.int k' b=>
  if k=k' then
   match op with
   |.and=>some (.int k (k.wrap (BitVec.ofInt k.bits a &&& BitVec.ofInt k.bits b).toNat))
   |.or=>some (.int k (k.wrap (BitVec.ofInt k.bits a ||| BitVec.ofInt k.bits b).toNat))
   |.xor=>some (.int k (k.wrap (BitVec.ofInt k.bits a ^^^ BitVec.ofInt k.bits b).toNat))
   |_=>none
  else none
 |_,_=>none
def aJ(op:BinOp)(x y:AV):Option AV:=
 match op with
 |.shr=>Dm true x y
 |.shl=>Dm false x y
 |.and=>JU .and x y
 |.or=>JU .or x y
 |.xor=>JU .xor x y
 |op=>match x,y with
 |.int k a,.int k' b=>
  if k=k' then
   match op with
   |.add=>some (.int k (k.wrap (a+b)))
   |.sub=>some (.int k (k.wrap (a-b)))
   |.mul=>some (.int k (k.wrap (a*b)))
   |.quo=>if b=0 then none else some (.int k (k.wrap (a.tdiv b)))
   |.rem=>if b=0 then none else some (.int k (a.tmod b))
   |.lss=>some (.bool (decide (a<b)))
   |.leq=>some (.bool (decide (a≤b)))
   |.gtr=>some (.bool (decide (a>b)))
   |.geq=>some (.bool (decide (a≥b)))
   |_=>none
  else none
 |.str a,.str b=>
  match op with
  |.add=>if a.length+b.length≤4611686018427387904 then some (.str (a++b)) else none
  |.lss=>some (.bool (Op.bytesLess a b))
  |.leq=>some (.bool (Op.bytesLess a b||a==b))
  |.gtr=>some (.bool (!(Op.bytesLess a b||a==b)))
  |.geq=>some (.bool (!(Op.bytesLess a b)))
  |_=>none
 |_,_=>none
def LD(d:TypeDesc)(x y:AV):Option Bool:=
 match x,y with
 |.int k a,.int k' b=>if k=k' then some (a==b) else none
 |.str a,.str b=>some (a==b)
 |.bool a,.bool b=>(match d with|.bool=>some (a==b)|_=>none)
 |.nilp,.nilp=>(match d with|.pointer _=>some true|_=>none)
 |.ptr _ _,.nilp|.nilp,.ptr _ _|.iptr _ _,.nilp|.nilp,.iptr _ _=>(match d with|.pointer _=>some false|_=>none)
 |.nils,.nils=>(match d with|.slice _=>some true|_=>none)
 |.slice _ _ _ _,.nils|.nils,.slice _ _ _ _|.islice _ _ _ _,.nils|.nils,.islice _ _ _ _=>(match d with|.slice _=>some false|_=>none)
 |.nilm,.nilm=>(match d with|.map _ _=>some true|_=>none)
 |.map _,.nilm|.nilm,.map _=>(match d with|.map _ _=>some false|_=>none)
 |.nilf,.nilf=>(match d with|.func _ _ _=>some true|_=>none)
 |.func _ _ _,.nilf|.nilf,.func _ _ _=>(match d with|.func _ _ _=>some false|_=>none)
 |_,_=>none
def iF(d:TypeDesc)(x y:AV):Option AV:=match LD d x y with|some b=>some (.bool b)|none=>none
def nI(d:TypeDesc)(x y:AV):Option AV:=match LD d x y with|some b=>some (.bool (!b))|none=>none
def ji(op:UnOp)(x:AV):Option AV:=
 match op,x with
 |.neg,.int k n=>some (.int k (k.wrap (0-n)))
 |.not,.bool b=>some (.bool (!b))
 |_,_=>none
def asNat(x:AV):Option Nat:=
 match x with
 |.int _ n=>if 0≤n then some n.toNat else none
 |_=>none
def tc(d:TypeDesc)(x y:AV):Option Bool:=
 match d,x,y with
 |.int _,.int k a,.int k' b=>if k=k' then some (a==b) else none
 |.string,.str a,.str b=>some (a==b)
 |.bool,.bool a,.bool b=>some (a==b)
 |_,_,_=>none
abbrev Entry:=AV×AV×Nat
def iQ(d:TypeDesc)(k:AV):List Entry→Nat→Option (Option (Nat×AV))
 |[],_=>some none
 |e :: es,i=>
  match tc d k e.1 with
  |some true=>some (some (i,e.2.1))
  |some false=>iQ d k es (i+1)
  |none=>none
def nS(d:TypeDesc)(k:AV):Bool:=
 match d,k with
 |.int _,.int _ _=>true
 |.string,.str _=>true
 |.bool,.bool _=>true
 |_,_=>false
def nT(d:TypeDesc)(k:AV)(es:List Entry):Option (Option (Nat×AV)):=if nS d k then iQ d k es 0 else none
def iy(sz n:Nat)(x:AV)(h:ag):Option (List AV):=
 match x with
 |.nils=>if n=0 then some [] else none
 |.slice b off _ s=>
  if s=sz then (match h.get b with
   |some (.cells cs)=>if off+n*sz≤cs.length then some ((cs.drop off).take (n*sz)) else none
   |_=>none) else none
 |.islice cs off _ s=>if s=sz&&decide (off+n*sz≤cs.length) then some ((cs.drop off).take (n*sz)) else none
 |.str s=>if sz=1 then some ((s.take n).map fun b=>.int .u8 b.toNat) else none
 |_=>none
def kI:AV→Option Nat
 |.nils=>some 0
 |.slice _ _ n _=>some n
 |.islice _ _ n _=>some n
 |.str s=>some s.length
 |_=>none
def dm:Nat:=140737488355328
def cz(sz bytes:Nat)(s x:AV)(h:ag):Option (AV×ag):=
 match kI x with
 |none=>none
 |some n=>match iy sz n x h with
  |none=>none
  |some new=>
   match s with
   |.nils=>
    if n=0 then some (.nils,h) else
    if n*bytes≤dm&&br new then some (.slice h.next 0 n sz,h.alloc (.cells new)) else none
   |.slice b off len s'=>
    if s'=sz then
     if n=0 then some (.slice b off len s',h) else
     match h.get b with
     |some (.cells cs)=>
      if (len+n)*bytes≤dm&&br new&&decide (off+len*sz≤cs.length) then
       some (.slice h.next 0 (len+n) sz,(h.set b .dead).alloc (.cells ((cs.drop off).take (len*sz)++new)))
      else none
     |_=>none
    else none
   |_=>none
def JV(sz:Nat)(dst src:AV)(h:ag):Option (AV×ag):=
 match kI src with
 |none=>none
 |some m=>match dst with
  |.nils=>some (.int .i64 0,h)
  |.slice b off len s'=>
   if s'=sz then
    match iy sz (Nat.min m len) src h with
    |some new=>match h.get b with
     |some (.cells cs)=>
      if br new&&decide (off+Nat.min m len*sz≤cs.length)&&decide (new.length=Nat.min m len*sz) then
       some (.int .i64 (Nat.min m len),h.set b (.cells (jh cs off new)))
      else none
     |_=>none
    |none=>none
   else none
  |_=>none
def mM(x:Option AV)(dflt:Nat):Option Nat:=
 match x with
 |none=>some dflt
 |some v=>asNat v
def gr(i:Option Nat)(x:AV)(lo hi:Option AV):Option AV:=
 match kI x with
 |none=>none
 |some len=>match mM hi len,mM lo 0 with
  |some hi,some lo=>
   if lo≤hi&&decide (hi≤len) then
    match i,x with
    |none,.str s=>some (.str ((s.take hi).drop lo))
    |some _,.nils=>some .nils
    |some n,.slice b off _ sz=>if n=sz then some (.slice b (off+lo*sz) (hi-lo) sz) else none
    |some n,.islice cs off _ sz=>if n=sz then some (.islice cs (off+lo*sz) (hi-lo) sz) else none
    |_,_=>none
   else none
  |_,_=>none
def bK(off:Nat)(x:AV):Option AV:=
 match x with
 |.ptr b o=>some (.ptr b (o+off))
 |.iptr cs o=>some (.iptr cs (o+off))
 |_=>none
def Dp(i:Option Nat)(off:Nat)(x:AV):Option AV:=
 match x with
 |.agg cs=>hG i cs off
 |_=>none
def cS(n:Nat)(x i:AV):Option AV:=
 match asNat i with
 |none=>none
 |some i=>match x with
  |.slice b off len sz=>if i<len&&n==sz then some (.ptr b (off+i*sz)) else none
  |.islice cs off len sz=>if i<len&&n==sz then some (.iptr cs (off+i*sz)) else none
  |_=>none
def JW(len n:Nat)(x i:AV):Option AV:=
 match asNat i with
 |none=>none
 |some i=>match x with
  |.ptr b off=>if i<len then some (.ptr b (off+i*n)) else none
  |.iptr cs off=>if i<len then some (.iptr cs (off+i*n)) else none
  |_=>none
inductive SC where
 |sl (n:Nat)|arr (len n:Nat)
def SD(k:SC)(x i:AV):Option AV:=match k with|.sl n=>cS n x i|.arr len n=>JW len n x i
def jN(x i:AV):Option AV:=
 match x,asNat i with
 |.str s,some i=>(match s[i]? with|some b=>some (.int .u8 b.toNat)|none=>none)
 |_,_=>none
def HM(len n:Nat)(r:Option Nat)(x i:AV):Option AV:=
 match x,asNat i with
 |.agg cs,some i=>if i<len then hG r cs (i*n) else none
 |_,_=>none
def kq(m:AV)(h:ag):Option (List Entry):=
 match m with
 |.nilm=>some []
 |.map b=>(match h.get b with|some (.map es _)=>some es|_=>none)
 |_=>none
def ei(d:TypeDesc)(z:AV)(ok:Bool)(m k:AV)(h:ag):Option AV:=
 match kq m h with
 |none=>none
 |some es=>match nT d k es with
  |some (some (_,v))=>some (if ok then .tuple [v,.bool true] else v)
  |some none=>some (if ok then .tuple [z,.bool false] else z)
  |none=>none
def eO(es:List Entry)(i:Nat)(v:AV):List Entry:=
 match es[i]? with
 |some e=>es.set i (e.1,v,e.2.2)
 |none=>es
def eF(d:TypeDesc)(m k v:AV)(h:ag):Option ag:=
 match m with
 |.map b=>(match h.get b with
  |some (.map es ck)=>(match nT d k es with
   |some (some (i,_))=>some (h.set b (.map (eO es i v) ck))
   |some none=>some (h.set b (.map (es++[(k,v,ck)]) (ck+1)))
   |none=>none)
  |_=>none)
 |_=>none
def Dq(es:List Entry)(i:Nat):Nat:=match es[i]? with|some e=>e.2.2|none=>0
def j4(d:TypeDesc)(z:AV)(m k:AV)(h:ag):Option (AV×ag):=
 match m with
 |.map b=>(match h.get b with
  |some (.map es ck)=>(match nT d k es with
   |some (some (i,v))=>some (.tuple [v,.int .i64 (Dq es i)],h)
   |some none=>some (.tuple [z,.int .i64 ck],h.set b (.map (es++[(k,z,ck)]) (ck+1)))
   |none=>none)
  |_=>none)
 |_=>none
def mN(n:Int):List Entry→Nat→Option Nat
 |[],_=>none
 |e :: es,i=>if (e.2.2:Int)=n then some i else mN n es (i+1)
def iu(m s v:AV)(h:ag):Option ag:=
 match m,s with
 |.map b,.int _ n=>(match h.get b with
  |some (.map es ck)=>(match mN n es 0 with
   |some i=>some (h.set b (.map (eO es i v) ck))
   |none=>none)
  |_=>none)
 |_,_=>none
def Dr(d:TypeDesc)(m k:AV)(h:ag):Option ag:=
 match m with
 |.nilm=>if nS d k then some h else none
 |.map b=>(match h.get b with
  |some (.map es ck)=>(match nT d k es with
   |some (some (i,_))=>some (h.set b (.map (es.eraseIdx i) ck))
   |some none=>some (h.set b (.map es ck))
   |none=>none)
  |_=>none)
 |_=>none
inductive Ot where
 |str|slice|map|array (n:Nat)
def bQ(i:Ot)(x:AV)(h:ag):Option AV:=
 match i,x with
 |.str,.str s=>some (.int .i64 s.length)
 |.slice,.nils=>some (.int .i64 0)
 |.slice,.slice _ _ n _=>some (.int .i64 n)
 |.slice,.islice _ _ n _=>some (.int .i64 n)
 |.map,.nilm=>some (.int .i64 0)
 |.map,.map b=>(match h.get b with|some (.map es _)=>some (.int .i64 es.length)|_=>none)
 |.array n,_=>some (.int .i64 n)
 |_,_=>none
def Gx(mx:Bool)(x y:AV):Option AV:=
 match x,y with
 |.int k a,.int k' b=>if k=k' then some (.int k (if mx then (if b>a then b else a) else (if b<a then b else a))) else none
 |_,_=>none
def td(mx:Bool):AV→List AV→Option AV
 |x,[]=>some x
 |x,y :: ys=>match Gx mx x y with
  |some v=>td mx v ys
  |none=>none
inductive JX where
 |int (k:IntKind)|str|bytes|string
def bytesOf:List AV→Option (List UInt8)
 |[]=>some []
 |.int .u8 n :: cs=>(match bytesOf cs with|some bs=>some (UInt8.ofNat n.toNat :: bs)|none=>none)
 |_=>none
def nU(i:JX)(x:AV)(h:ag):Option (AV×ag):=
 match i,x with
 |.int k,.int _ n=>some (.int k (k.wrap n),h)
 |.str,.str s=>some (.str s,h)
 |.bytes,.str s=>if s.length≤dm then some (.slice h.next 0 s.length 1,h.alloc (.cells (s.map fun b=>.int .u8 b.toNat))) else none
 |.string,.nils=>some (.str [],h)
 |.string,.slice b off n sz=>(match iy 1 n (.slice b off n sz) h with
  |some cs=>(match bytesOf cs with|some bs=>some (.str bs,h)|none=>none)
  |none=>none)
 |.string,.islice b off n sz=>(match iy 1 n (.islice b off n sz) h with
  |some cs=>(match bytesOf cs with|some bs=>some (.str bs,h)|none=>none)
  |none=>none)
 |_,_=>none
def qC(cells:List AV):List (Nat×Nat)→List AV→Option (List AV)
 |[],[]=>some cells
 |(off,n) :: ps,v :: vs=>
  if v.dP.length=n&&decide (off+n≤cells.length)&&br v.dP then qC (jh cells off v.dP) ps vs else none
 |_,_=>none
def iz(zero:List AV):Nat→List AV
 |0=>[]
 |n+1=>zero++iz zero n
def fR(zs:List AV)(ps:List (Nat×Nat))(vs:List AV):Option (List AV):=
 match qC zs ps vs with
 |some cs=>if br cs then some cs else none
 |none=>none
def kJ(zs:List AV)(ps:List (Nat×Nat))(vs:List AV):Option AV:=
 match qC zs ps vs with
 |some cs=>some (.agg cs)
 |none=>none
def vG(bytes:Nat)(len cap:AV):Option Nat:=
 match len,cap with
 |.int .i64 l,.int .i64 c=>if 0≤l&&decide (l≤c)&&decide (bytes*c≤140737488355328) then some l.toNat else none
 |_,_=>none
def fy(sz bytes:Nat)(z:List AV)(len cap:AV)(h:ag):Option (AV×ag):=
 match vG bytes len cap with
 |some n=>some (.slice h.next 0 n sz,h.alloc (.cells (iz z n)))
 |none=>none
inductive Gy where
 |str|map
def kV(i:Gy)(x:AV)(h:ag):Option (AV×ag):=
 match i,x with
 |.str,.str s=>some (.ptr h.next 0,h.alloc (.siter s 0))
 |.map,.nilm=>some (.ptr h.next 0,h.alloc (.miter none 0 [] 0))
 |.map,.map m=>(match h.get m with
  |some (.map _ ck)=>some (.ptr h.next 0,h.alloc (.miter (some m) ck [] ck))
  |_=>none)
 |_,_=>none
def j5(n:Nat):List Entry→Option Entry
 |[]=>none
 |e :: es=>if e.2.2=n then some e else j5 n es
def qD(es:List Entry)(since:Nat)(seen:List Nat):List (Option Entry):=
 let left:=es.filter fun e=>!seen.contains e.2.2
 let old:=left.filter fun e=>decide (e.2.2<since)
 let new:=left.filter fun e=>decide (e.2.2≥since)
 (if old.isEmpty then [none] else [])++(old++new).map some
def Gz(r m since:Nat)(seen:List Nat)(ck:Nat)(h:ag):Option Entry→AV×ag
 |some e=>(.tuple [.bool true,e.1,e.2.1],h.set r (.miter (some m) since (seen++[e.2.2]) ck))
 |none=>(.tuple [.bool false],h)
def uy(isString:Bool)(x:AV)(h:ag):Option (List (AV×ag)):=
 match x with
 |.ptr r 0=>(match h.get r,isString with
  |some (.siter s pos),true=>
   if pos<s.length then
    some [(.tuple [.bool true,.int .i64 pos,.int .i32 (Utf8.decode ⟨s.toArray⟩ pos).1],h.set r (.siter s (pos+(Utf8.decode ⟨s.toArray⟩ pos).2)))]
   else some [(.tuple [.bool false],h)]
  |some (.miter none _ _ _),false=>some [(.tuple [.bool false],h)]
  |some (.miter (some m) since seen last),false=>(match h.get m with
   |some (.map es ck)=>
    if !seen.isEmpty&&!es.isEmpty&&es.all (fun e=>decide (e.2.2≥last)) then none else
    match qD es since seen with
    |[]=>none
    |c :: cs=>some ((c :: cs).map (Gz r m since seen ck h))
   |_=>none)
  |_,_=>none)
 |_=>none
def qE(x:AV)(h:ag):Option AV:=
 match x with
 |.ptr r 0=>(match h.get r with
  |some (.miter (some m) _ seen stepped)=>(match seen.getLast?,h.get m with
   |some stamp,some (.map es ck)=>
    if ck=stepped then (match j5 stamp es with|some e=>some (.tuple [e.1,e.2.1])|none=>none) else none
   |_,_=>none)
  |_=>none)
 |_=>none
def y9(a:TypeId)(z x:AV):Option AV:=
 match x with
 |.nili=>some (.tuple [z,.bool false])
 |.iface t v=>some (if t=a then .tuple [v,.bool true] else .tuple [z,.bool false])
 |_=>none
def cj(x:AV)(i:Nat):Option AV:=match x with|.tuple vs=>vs[i]?|_=>none
def JY(P:Program)(e:Option TypeId):Option (Nat×Nat):=
 match e with
 |none=>none
 |some e=>match mK P e,JT P e with
  |some s,some b=>if 0<s&&decide (0<b) then some (s,b) else none
  |_,_=>none
def zC(P:Program)(t:TypeId):Option (Nat×Nat):=JY P (HK P t)
def Su(P:Program)(t:TypeId):Option SC:=
 match P.underlying t with
 |some (.array len e)=>(match mK P e with|some s=>some (.arr len s)|none=>none)
 |_=>(match zC P t with|some o=>some (.sl o.1)|none=>none)
def zD(P:Program)(t:TypeId):Option (Nat×Nat×List AV):=
 match zC P t,HK P t with
 |some (s,b),some e=>(match kT P e with
  |some z=>if z.length=s then some (s,b,z) else none
  |none=>none)
 |_,_=>none
def HN(places:List (Nat×Nat)):List Nat→Option (List (Nat×Nat))
 |[]=>some []
 |i :: is=>match places[i]?,HN places is with
  |some p,some ps=>some (p :: ps)
  |_,_=>none
def LJ(P:Program)(fs:List Field):Option (List (Nat×Nat)):=fs.mapM fun f=>(P.info? f.type).map fun i=>(f.offset,i.size)
def Dt(P:Program)(t:TypeId)(is:List Nat):Option (List AV×List (Nat×Nat)):=
 match P.underlying t with
 |some (.struct fs)=>(match xj P t,LJ P fs.toList with
  |some z,some pl=>(match HN pl is with|some ps=>if br z.dP then some (z.dP,ps) else none|none=>none)
  |_,_=>none)
 |some (.array _ e)=>(match xj P t,P.info? e with
  |some z,some ie=>if br z.dP then some (z.dP,is.map fun i=>(i*ie.size,ie.size)) else none
  |_,_=>none)
 |_=>none
def LK(P:Program)(t:TypeId)(len:Nat)(is:List Nat):Option (Nat×List AV×List (Nat×Nat)):=
 match zD P t with
 |some (s,_,z)=>if len*s≤65536 then some (s,iz z len,is.map fun i=>(i*s,s)) else none
 |none=>none
def Sv(P:Program)(t:TypeId)(i:Nat):Option Nat:=
 match Dl P t i with
 |some f=>(match mK P f.type with|some s=>if s=0 then none else some f.offset|none=>none)
 |none=>none
def Du(P:Program)(t:TypeId)(i:Nat):Option (Option Nat×Nat):=
 match Dl P t i with
 |some f=>(match ta P f.type with|some r=>some (r,f.offset)|none=>none)
 |none=>none
def Dv(P:Program)(t:TypeId):Option (Option Nat):=
 match P.underlying t with
 |some .string=>some none
 |some (.slice e)=>(match mK P e with|some s=>some (some s)|none=>none)
 |_=>none
inductive Ou where
 |str|arr (len n:Nat) (r:Option Nat)
def LL(P:Program)(t:TypeId):Option Ou:=
 match P.underlying t with
 |some .string=>some .str
 |some (.array len e)=>(match mK P e,ta P e with|some n,some r=>some (.arr len n r)|_,_=>none)
 |_=>none
def JZ(i:Ou)(x y:AV):Option AV:=
 match i with
 |.str=>jN x y
 |.arr len n r=>HM len n r x y
def oO(P:Program)(t:TypeId):Option (TypeDesc×AV):=
 match Ez P t with
 |some (d,e)=>(match xj P e with|some z=>some (d,z)|none=>none)
 |none=>none
def LM(P:Program)(t:TypeId):Option Ot:=
 match P.underlying t with
 |some .string=>some .str
 |some (.slice _)=>some .slice
 |some (.map _ _)=>some .map
 |some (.array n _)=>some (.array n)
 |_=>none
def zE(P:Program)(src dst:TypeId):Option JX:=
 match P.underlying src,P.underlying dst with
 |some (.int _),some (.int k)=>some (.int k)
 |some .string,some .string=>some .str
 |some .string,some (.slice e)=>(match P.underlying e,mK P e with|some (.int .u8),some 1=>some .bytes|_,_=>none)
 |some (.slice e),some .string=>(match P.underlying e with|some (.int .u8)=>some .string|_=>none)
 |_,_=>none
def GA(P:Program)(t:TypeId):Option Gy:=
 match P.underlying t with
 |some .string=>some .str
 |some (.map _ _)=>some .map
 |_=>none
def zF(P:Program)(t:TypeId):Option Unit:=
 match P.underlying t with
 |some (.interface _)=>none
 |some _=>some ()
 |none=>none
def za(P:Program)(a:TypeId)(ok:Bool):Option AV:=
 match ok,P.underlying a with
 |true,some (.interface _)=>none
 |true,some _=>xj P a
 |_,_=>none
def zb(P:Program)(t u:TypeId):Option (Nat×Nat):=
 match P.underlying u,zD P t with
 |some (.slice _),some (s,b,_)=>some (s,b)
 |some .string,some (s,b,_)=>some (s,b)
 |_,_=>none
abbrev Ex:=Program→(Operand→AV)→ag→(AV→ag→Bool)→Bool
def jA(h:ag)(K:AV→ag→Bool)(o:Option AV):Bool:=af o fun v=>K v h
def xk(K:AV→ag→Bool)(o:Option ag):Bool:=af o fun h=>K bD h
def tg(K:AV→ag→Bool)(o:Option (AV×ag)):Bool:=af o fun p=>K p.1 p.2
def HO(t:TypeId):Ex:=fun P _ h K=>af (kT P t) fun z=>K (.ptr h.next 0) (h.alloc (.cells z))
def Oa(x:Operand):Ex:=fun _ ρ h K=>af (ew (ρ x)) fun cs=>K (.ptr h.next 0) (h.alloc (.cells cs))
def HP(t:TypeId)(ps:List (Nat×Operand)):Ex:=fun P ρ h K=>af (Dt P t (ps.map (·.1))) fun i=>jA h K (kJ i.1 i.2 (ps.map fun p=>ρ p.2))
def oP(t:TypeId)(n:Nat)(ps:List (Nat×Operand)):Ex:=fun P ρ h K=>
 af (LK P t n (ps.map (·.1))) fun i=>af (fR i.2.1 i.2.2 (ps.map fun p=>ρ p.2)) fun cs=>K (.slice h.next 0 n i.1) (h.alloc (.cells cs))
def J1(op:BinOp)(t:TypeId)(x y:Operand):Ex:=fun P ρ h K=>
 match op with
 |.eql=>af (P.underlying t) fun d=>jA h K (iF d (ρ x) (ρ y))
 |.neq=>af (P.underlying t) fun d=>jA h K (nI d (ρ x) (ρ y))
 |op=>jA h K (aJ op (ρ x) (ρ y))
def zG(fn:Fn)(first cap:List Operand):Ex:=fun _ ρ h K=>match fn with
 |.func f=>K (.func f (first.map ρ) (cap.map ρ)) h
 |_=>false
def Cm(r:Option Operand):Ex:=fun _ _ h K=>match r with
 |none=>K (.map h.next) (h.alloc (.map [] 0))
 |some _=>false
def xl(t:TypeId)(l c:Operand):Ex:=fun P ρ h K=>af (zD P t) fun i=>tg K (fy i.1 i.2.1 i.2.2 (ρ l) (ρ c) h)
def Dw(t:TypeId)(x:Operand)(lo hi mx:Option Operand):Ex:=fun P ρ h K=>match mx with
 |none=>af (Dv P t) fun i=>jA h K (gr i (ρ x) (lo.map ρ) (hi.map ρ))
 |some _=>false
def EA(t:TypeId)(x i:Operand)(ok:Bool):Ex:=fun P ρ h K=>af (oO P t) fun d=>jA h K (ei d.1 d.2 ok (ρ x) (ρ i) h)
abbrev Ov:=List TypeId→List AV→Program→ag→(AV→ag→Bool)→Bool
def vI:Ov:=fun ts xs P h K=>match ts,xs with
 |[t,u],[s,x]=>af (zb P t u) fun i=>tg K (cz i.1 i.2 s x h)
 |_,_=>false
def Dx:Ov:=fun ts xs P h K=>match ts,xs with
 |t :: _,[d,s]=>af (zC P t) fun i=>tg K (JV i.1 d s h)
 |_,_=>false
def GB:Ov:=fun ts xs P h K=>match ts,xs with
 |t :: _,[x]=>af (LM P t) fun i=>jA h K (bQ i x h)
 |_,_=>false
def vJ:Ov:=fun ts xs P h K=>match ts,xs with
 |t :: _,[m,k]=>af (Ez P t) fun i=>xk K (Dr i.1 m k h)
 |_,_=>false
def rS(mx:Bool):Ov:=fun _ xs _ h K=>match xs with
 |x :: xs=>jA h K (td mx x xs)
 |_=>false
def GC:Ov:=fun _ _ _ _ _=>false
def Cn:Builtin→Ov
 |.append=>vI
 |.copy=>Dx
 |.len=>GB
 |.delete=>vJ
 |.min=>rS false
 |.max=>rS true
 |_=>GC
def qF(c:Call):Ex:=fun P ρ h K=>match c.callee with
 |.builtin b=>Cn b c.argTypes.toList (c.args.toList.map ρ) P h K
 |_=>false
def fX:Op→Ex
 |.move x=>fun _ ρ h K=>K (ρ x) h
 |.assign x=>fun _ ρ h K=>K (ρ x) h
 |.pick c a b=>fun _ ρ h K=>jA h K (HL (ρ c) (ρ a) (ρ b))
 |.alloc t=>HO t
 |.box _ x=>Oa x
 |.build t ps=>HP t ps.toList
 |.buildSlice t n ps=>oP t n ps.toList
 |.load t a=>fun P ρ h K=>af (ta P t) fun i=>jA h K (ai i (ρ a) h)
 |.store t a x=>fun P ρ h K=>af (mK P t) fun n=>xk K (bL n (ρ a) (ρ x) h)
 |.nilCheck x=>fun _ ρ h K=>jA h K (b6 (ρ x))
 |.binOp op t x y _=>J1 op t x y
 |.unOp op _ x=>fun _ ρ h K=>jA h K (ji op (ρ x))
 |.convert s d x=>fun P ρ h K=>af (zE P s d) fun i=>tg K (nU i (ρ x) h)
 |.makeInterface t x=>fun P ρ h K=>af (zF P t) fun _=>K (.iface t (ρ x)) h
 |.makeFunc fn first cap=>zG fn first.toList cap.toList
 |.makeMap _ r=>Cm r
 |.makeSlice t l c=>xl t l c
 |.slice t x lo hi mx=>Dw t x lo hi mx
 |.fieldAddr t x i=>fun P ρ h K=>af (Sv P t i) fun o=>jA h K (bK o (ρ x))
 |.field t x i=>fun P ρ h K=>af (Du P t i) fun o=>jA h K (Dp o.1 o.2 (ρ x))
 |.indexAddr t x i=>fun P ρ h K=>af (Su P t) fun o=>jA h K (SD o (ρ x) (ρ i))
 |.index t x i=>fun P ρ h K=>af (LL P t) fun o=>jA h K (JZ o (ρ x) (ρ i))
 |.lookup t x i ok=>EA t x i ok
 |.mapUpdate t m k x=>fun P ρ h K=>af (Ez P t) fun o=>xk K (eF o.1 (ρ m) (ρ k) (ρ x) h)
 |.insert t m k x=>fun P ρ h K=>af (Ez P t) fun o=>xk K (eF o.1 (ρ m) (ρ k) (ρ x) h)
 |.mapEntry t m k=>fun P ρ h K=>af (oO P t) fun o=>tg K (j4 o.1 o.2 (ρ m) (ρ k) h)
 |.entryStore _ m s x=>fun _ ρ h K=>xk K (iu (ρ m) (ρ s) (ρ x) h)
 |.range t x=>fun P ρ h K=>af (GA P t) fun o=>tg K (kV o (ρ x) h)
 |.entry x=>fun _ ρ h K=>jA h K (qE (ρ x) h)
 |.extract t i=>fun _ ρ h K=>jA h K (cj (ρ t) i)
 |.typeAssert x _ a ok=>fun P ρ h K=>af (za P a ok) fun z=>jA h K (y9 a z (ρ x))
 |.call c=>qF c
 |_=>fun _ _ _ _=>false
inductive Kind where
 |pure|read|alloc|eff
 deriving DecidableEq
def eP:Callee→Kind
 |.builtin .len=>.read
 |.builtin .min=>.pure
 |.builtin .max=>.pure
 |_=>.eff
def eR:Op→Kind
 |.move _|.assign _|.pick ..|.build ..|.nilCheck _|.binOp ..|.unOp ..|.makeInterface ..|.makeFunc ..|.slice ..|.fieldAddr ..|.field ..|.indexAddr ..|.index ..|.extract ..|.typeAssert ..=>.pure
 |.load ..|.lookup ..=>.read
 |.alloc _|.box ..|.buildSlice ..|.makeMap ..|.makeSlice ..=>.alloc
 |.call c=>eP c.callee
 |_=>.eff
inductive AX where
 |normal
 |exit (id:Nat)
 |ret
 |panic (v:AV)
inductive Out where
 |ret (v:AV)
 |panic (v:AV)
structure mu where
 f:FuncId
 args:List AV
 cap:List AV
abbrev Env:=Nat→AV
def aa(env:Env)(d:Nat)(v:AV):Env:=fun j=>@Bool.rec (fun _=>AV) (env j) v (Nat.beq j d)
structure St where
 env:Env
 n:Nat
 defs:List mu
 h:ag
def kK(env:Env)(n:Nat)(dst:Option Tmp)(v:AV):Env:=
 match dst with
 |some d=>if d<n then aa env d v else env
 |none=>env
def gG(env:Env)(n:Nat)(dst:Option Tmp)(v:AV)(k:Env→Bool):Bool:=
 match dst with
 |some d=>@Bool.rec (fun _=>Bool) false (k (aa env d v)) (Nat.ble (d+1) n)
 |none=>k env
def St.Ow(s:St)(h:ag)(dst:Option Tmp)(v:AV):St:=⟨kK s.env s.n dst v,s.n,s.defs,h⟩
def evalArg(env:Env):Operand→AV
 |.tmp t=>env t
 |.const v=>ofConst v
 |.global _=>.undef
 |.func f=>.func f [] []
inductive R where
 |ok (v:AV) (defs:List mu) (h:ag)
 |panic (v:AV) (h:ag)
inductive RS where
 |ok (s:St)
 |panic (v:AV) (s:St)
abbrev gW:=FuncId→List AV→ag→(Out→ag→Bool)→Bool
def g9(ops:List Oper)(o:Oper)(env:Env):Option Bool:=
 match o.guard with
 |none=>some true
 |some (j,want)=>
  match ops[j]? with
  |some g=>(match g.dst with
   |some d=>(match env d with
    |.bool b=>some (b==want)
    |.tuple _=>some false
    |_=>none)
   |none=>none)
  |none=>none
abbrev Ox:=Program→gW→Env→List mu→ag→(R→Bool)→Bool
def Pj(defs:List mu)(K:R→Bool):Out→ag→Bool
 |.ret v,h'=>K (.ok v defs h')
 |.panic v,h'=>K (.panic v h')
def nt(op:Op):Ox:=fun P _ env defs h K=>fX op P (evalArg env) h fun v h'=>K (.ok v defs h')
def zc(f:Operand)(args:List Operand):Ox:=fun _ call env defs h K=>match evalArg env f with
 |.func g first cap=>call g (first++(args.map (evalArg env)++cap)) h (Pj defs K)
 |_=>false
def tJ(c:Call):Ox:=match c.callee with
 |.value f=>zc f c.args.toList
 |_=>nt (.call c)
def uz(c:Call):Ox:=fun _ _ env defs h K=>match c.callee with
 |.value f=>(match evalArg env f with
  |.func g first cap=>K (.ok bD (⟨g,first++c.args.toList.map (evalArg env),cap⟩ :: defs) h)
  |_=>false)
 |_=>false
def uB(x:Operand):Ox:=fun _ _ env _ h K=>match evalArg env x with
 |.iface t v=>K (.panic (.iface t v) h)
 |_=>false
def kr(defs:List mu)(K:R→Bool):List (AV×ag)→Bool
 |[]=>true
 |p :: ps=>K (.ok p.1 defs p.2)&&kr defs K ps
def Dy(x:Operand)(b:Bool):Ox:=fun _ _ env defs h K=>af (uy b (evalArg env x) h) (kr defs K)
def iA:Op→Ox
 |.call c=>tJ c
 |.defer c=>uz c
 |.panic x=>uB x
 |.next x b=>Dy x b
 |op=>nt op
def lI(P:Program)(call:gW)(ops:List Oper):List Oper→St→(RS→Bool)→Bool
 |[],s,K=>K (.ok s)
 |o :: rest,⟨env,n,defs,h⟩,K=>
  match g9 ops o env with
  |some true=>iA o.op P call env defs h fun
   |.ok v defs h=>gG env n o.dst v fun env=>lI P call ops rest ⟨env,n,defs,h⟩ K
   |.panic v h=>K (.panic v ⟨env,n,defs,h⟩)
  |some false=>gG env n o.dst bD fun env=>lI P call ops rest ⟨env,n,defs,h⟩ K
  |none=>false
def l7(acc:List Nat):List Edge→Nat
 |[]=>0
 |e :: es=>if Region.binds .any e then (2 ^ e.on ||| acc.getD e.on 0) ||| l7 acc es else l7 acc es
def l9:List Oper→List Nat→List Nat
 |[],acc=>acc
 |o :: os,acc=>l9 os (acc++[l7 acc o.after.toList])
def masks(ops:List Oper):List Nat:=l9 ops []
def ze(ms:List Nat)(i j:Nat):Bool:=(ms.getD i 0).testBit j
def pV(o:Oper):Bool:=match eR o.op with|.eff=>true|_=>false
def rT:List Oper→Nat→List (Nat×Oper)
 |[],_=>[]
 |o :: os,i=>(i,o) :: rT os (i+1)
def Dz:List (Nat×Oper)→List Nat
 |[]=>[]
 |p :: ps=>if pV p.2 then p.1 :: Dz ps else Dz ps
def uC(ms:List Nat)(i:Nat):List Nat→Nat
 |[]=>0
 |j :: js=>if ze ms i j then uC ms i js+1 else uC ms i js
def zf(ms:List Nat)(effs:List Nat)(L:List (Nat×Oper)):Nat→Nat→List (Nat×Oper)
 |0,k=>L.filter fun p=>!pV p.2&&uC ms p.1 effs==k
 |n+1,k=>(L.filter fun p=>!pV p.2&&uC ms p.1 effs==k)++((L.filter fun p=>pV p.2&&uC ms p.1 effs==k)++zf ms effs L n (k+1))
def nJ(ops:List Oper)(o:Oper):List Tmp:=
 (o.op.operands.toList.filterMap fun|.tmp t=>some t|_=>none) ++
 (match o.guard with
  |some (g,_)=>(match ops[g]? with|some p=>p.dst.toList|none=>[])
  |none=>[])
def GD(ops:List Oper)(ms:List Nat)(a b:Nat×Oper):Bool:=
 a.1 != b.1&&(!(ze ms a.1 b.1)&&((!pV a.2||ze ms b.1 a.1) &&
 ((match a.2.dst with
   |some d=>(match b.2.dst with|some e=>d != e|none=>true)&&(!((nJ ops b.2).contains d)||ze ms b.1 a.1)
   |none=>true) &&
  (match b.2.dst with
   |some d=>!((nJ ops a.2).contains d)||ze ms b.1 a.1
   |none=>true))))
def zg(ops:List Oper)(ms:List Nat):List (Nat×Oper)→Bool
 |[]=>true
 |p :: ps=>ps.all (GD ops ms p)&&zg ops ms ps
def zh(L:List (Nat×Oper)):Nat→Bool
 |0=>true
 |n+1=>L.any (fun p=>p.1==n)&&zh L n
structure Oy where
 ms:List Nat
 L:List (Nat×Oper)
def J2(ops:List Oper)(ms:List Nat):List (Nat×Oper):=zf ms (Dz (rT ops 0)) (rT ops 0) (Dz (rT ops 0)).length 0
def zi:List Oper→Nat→Bool
 |[],_=>true
 |o :: os,i=>o.after.toList.all (fun e=>!Region.binds .any e||decide (e.on<i))&&zi os (i+1)
def EB(ops:List Oper):Option Oy:=
 if zi ops 0&&zg ops (masks ops) (J2 ops (masks ops))&&zh (J2 ops (masks ops)) ops.length then some ⟨masks ops,J2 ops (masks ops)⟩ else none
structure Read where
 i:Nat
 op:Op
 env:Env
 v:AV
def sameAt(P:Program)(op:Op)(env:Env)(v:AV)(h:ag):Bool:=fX op P (evalArg env) h fun v' _=>AV.beq v' v
def iK(P:Program)(ms:List Nat)(i:Nat)(h:ag):List Read→Bool
 |[]=>true
 |r :: rs=>if ze ms i r.i then iK P ms i h rs else sameAt P r.op r.env r.v h&&iK P ms i h rs
def eZ(P:Program)(call:gW)(ops:List Oper)(ms:List Nat):List (Nat×Oper)→List Read→St→(St→Bool)→Bool
 |[],_,s,K=>K s
 |p :: rest,lg,⟨env,n,defs,h⟩,K=>
  match g9 ops p.2 env with
  |some true=>
   match eR p.2.op with
   |.pure=>fX p.2.op P (evalArg env) h fun v _=>gG env n p.2.dst v fun env'=>eZ P call ops ms rest lg ⟨env',n,defs,h⟩ K
   |.read=>fX p.2.op P (evalArg env) h fun v _=>gG env n p.2.dst v fun env'=>eZ P call ops ms rest (⟨p.1,p.2.op,env,v⟩ :: lg) ⟨env',n,defs,h⟩ K
   |.alloc=>fX p.2.op P (evalArg env) h fun v h'=>gG env n p.2.dst v fun env'=>eZ P call ops ms rest lg ⟨env',n,defs,h'⟩ K
   |.eff=>
    iA p.2.op P call env defs h fun
     |.ok v defs' h'=>if iK P ms p.1 h' lg then gG env n p.2.dst v fun env'=>eZ P call ops ms rest lg ⟨env',n,defs',h'⟩ K else false
     |.panic _ _=>false
  |some false=>gG env n p.2.dst bD fun env'=>eZ P call ops ms rest lg ⟨env',n,defs,h⟩ K
  |none=>false
def aF:List AV→Env
 |[],_=>bD
 |v :: _,0=>v
 |_ :: vs,i+1=>aF vs i
def GF(env:Env):Nat→Nat→List AV
 |0,_=>[]
 |n+1,i=>env i :: GF env n (i+1)
def St.J3:St→St
 |⟨env,n,defs,h⟩=>⟨aF (GF env n 0),n,defs,h⟩
def iter(f:St→(AX→St→Bool)→Bool)(K:AX→St→Bool):Nat→St→Bool
 |0,_=>false
 |n+1,s=>f s fun
  |.normal,s'=>iter f K n s'.J3
  |e,s'=>K e s'
def evalCode(P:Program)(call:gW)(rounds:Nat):Code→St→(AX→St→Bool)→Bool
 |.skip,s,K=>K .normal s
 |.region _ ops draw,s,K=>
  if draw then af (EB ops.toList) fun p=>eZ P call ops.toList p.ms p.L [] s fun s'=>K .normal s'
  else lI P call ops.toList ops.toList s fun
   |.ok s'=>K .normal s'
   |.panic v s'=>K (.panic v) s'
 |.seq a b,s,K=>evalCode P call rounds a s fun
  |.normal,s'=>evalCode P call rounds b s' K
  |e,s'=>K e s'
 |.cond c a b,s,K=>
  match evalArg s.env c with
  |.bool true=>evalCode P call rounds a s K
  |.bool false=>evalCode P call rounds b s K
  |_=>false
 |.block id c,s,K=>evalCode P call rounds c s fun
  |.exit id',s'=>if id'=id then K .normal s' else K (.exit id') s'
  |e,s'=>K e s'
 |.loop c,s,K=>iter (evalCode P call rounds c) K rounds s
 |.exit id,s,K=>K (.exit id) s
 |.ret,s,K=>K .ret s
 |_,_,_=>false
abbrev xm:=FuncId→Option (List AV→ag→(Out→ag→Bool)→Bool)
abbrev nK:=FuncId→Option (List AV→Option AV→ag→(Option AV→ag→Bool)→Bool)
def zj(P:Program)(s:St):ResultVar→Option AV
 |.tmp t=>some (s.env t)
 |.cell a t=>(match ta P t with|some i=>ai i (s.env a) s.h|none=>none)
def eL(P:Program)(s:St):List ResultVar→Option (List AV)
 |[]=>some []
 |r :: rs=>match zj P s r,eL P s rs with
  |some v,some vs=>some (v :: vs)
  |_,_=>none
def oneOf:List AV→AV
 |[v]=>v
 |vs=>.tuple vs
def leave(P:Program)(D:nK)(rs:List ResultVar)(K:Out→ag→Bool):List mu→Option AV→St→Bool
 |[],none,s=>af (eL P s rs) fun vs=>K (.ret (oneOf vs)) s.h
 |[],some v,s=>K (.panic v) s.h
 |d :: ds,pan,s=>
  match D d.f with
  |some g=>g (d.args++d.cap) pan s.h fun pan' h'=>leave P D rs K ds pan' ⟨s.env,s.n,s.defs,h'⟩
  |none=>false
def ay(P:Program)(D:nK)(rs:List ResultVar)(K:Out→ag→Bool):AX→St→Bool
 |.normal,s'=>leave P D rs K s'.defs none s'
 |.ret,s'=>leave P D rs K s'.defs none s'
 |.panic v,s'=>leave P D rs K s'.defs (some v) s'
 |.exit _,_=>false
def J4(P:Program)(D:nK)(call:gW)(rounds:Nat)(fn:Func)(args:List AV)(h:ag)(K:Out→ag→Bool):Bool:=
 match fn.body with
 |none=>false
 |some c=>evalCode P call rounds c ⟨aF args,fn.ntmps,[],h⟩ (ay P D fn.results.toList K)
def bN(P:Program)(F:xm)(D:nK):Nat→FuncId→List AV→ag→(Out→ag→Bool)→Bool
 |0,_,_,_,_=>false
 |n+1,f,args,h,K=>
  match F f with
  |some g=>g args h K
  |none=>
   match P.funcs[f]? with
   |none=>false
   |some fn=>if decide (args.length≤fn.ntmps)&&fn.name != "runtime.NumGoroutine" then J4 P D (bN P F D n) n fn args h K else false
mutual
def zH:Code→Nat
 |.skip=>1
 |.region _ _ _=>1
 |.seq a b=>zH a*zH b
 |.cond _ a b=>zH a+zH b
 |.block id c=>zH c+leavesN id c
 |_=>0
def leavesN(id:Nat):Code→Nat
 |.seq a b=>leavesN id a+zH a*leavesN id b
 |.cond _ a b=>leavesN id a+leavesN id b
 |.block _ c=>leavesN id c
 |.exit i=>@Bool.rec (fun _=>Nat) 0 1 (Nat.beq i id)
 |_=>0
end
def zI:Code→Nat
 |.region _ ops _=>ops.toList.length
 |.seq a b=>zI a+zI b
 |.cond _ a b=>zI a+zI b+1
 |.block _ c=>zI c
 |.loop c=>zI c+10
 |_=>1
def EC:List Oper→Bool
 |[]=>false
 |o :: os=>match o.guard with|some _=>true|none=>EC os
def J5:Code→Bool
 |.cond _ _ _=>true
 |.seq a _=>J5 a
 |_=>false
def Oz(a b:Code):Bool:=
 @Bool.rec (fun _=>Bool) false (match a with
  |.region _ ops _=>EC ops.toList&&!J5 b
  |a=>Nat.ble 2 (zH a)) (Nat.ble 12 (zI b))
end
end Go.AM