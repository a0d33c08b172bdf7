/- The abstract machine: a deterministic evaluator over the model's Code. Conditions: none; definitions alone. -/
import Derived.Calls
import GoSem.Core.Utf8
import Derived.Orders
namespace Go.AM
open Go
noncomputable section
inductive AV where
 |undef
 |bool (b:Bool)
 |int (k:IntKind) (n:Int)
 |str (s:List UInt8)
 |nilp
 |ptr (b off:Nat)
 |iptr (cs:List AV) (off:Nat)
 |nils
 |slice (b off len sz:Nat)
 |islice (cs:List AV) (off len sz:Nat)
 |nilm
 |map (b:Nat)
 |nilf
 |func (f:FuncId) (first cap:List AV)
 |nili
 |iface (t:TypeId) (v:AV)
 |agg (cs:List AV)
 |tuple (vs:List AV)
 deriving Inhabited
mutual
def AV.beq:AV→AV→Bool
 |.undef,.undef=>true
 |.bool a,.bool b=>a==b
 |.int k a,.int j b=>decide (k=j)&&decide (a=b)
 |.str a,.str b=>decide (a=b)
 |.nilp,.nilp=>true
 |.ptr a i,.ptr b j=>a==b&&i==j
 |.iptr a i,.iptr b j=>AV.beqL a b&&i==j
 |.nils,.nils=>true
 |.slice a i l s,.slice b j m t=>a==b&&i==j&&l==m&&s==t
 |.islice a i l s,.islice b j m t=>AV.beqL a b&&i==j&&l==m&&s==t
 |.nilm,.nilm=>true
 |.map a,.map b=>a==b
 |.nilf,.nilf=>true
 |.func f a b,.func g c d=>f==g&&AV.beqL a c&&AV.beqL b d
 |.nili,.nili=>true
 |.iface t a,.iface u b=>t==u&&AV.beq a b
 |.agg a,.agg b=>AV.beqL a b
 |.tuple a,.tuple b=>AV.beqL a b
 |_,_=>false
def AV.beqL:List AV→List AV→Bool
 |[],[]=>true
 |a :: as,b :: bs=>AV.beq a b&&AV.beqL as bs
 |_,_=>false
end
inductive jj where
 |dead
 |cells (cs:List AV)
 |map (es:List (AV×AV×Nat)) (clock:Nat)
 |siter (s:List UInt8) (pos:Nat)
 |miter (m:Option Nat) (since:Nat) (seen:List Nat) (stepped:Nat)
 |box (v:AV)
 deriving Inhabited
inductive Trie (α:Type) where
 |leaf
 |node (v:Option α) (l r:Trie α)
 deriving Inhabited
def Trie.get{α:Type}:Trie α→Nat→Option α
 |.leaf,_=>none
 |.node v l r,n=>match n with
  |0=>v
  |m+1=>if m%2=0 then l.get (m/2) else r.get (m/2)
def Trie.val{α:Type}:Trie α→Option α
 |.leaf=>none
 |.node v _ _=>v
def Trie.left{α:Type}:Trie α→Trie α
 |.leaf=>.leaf
 |.node _ l _=>l
def Trie.right{α:Type}:Trie α→Trie α
 |.leaf=>.leaf
 |.node _ _ r=>r
def Trie.Fo{α:Type}(o:α):Nat→Trie α→Nat→Trie α
 |0,t,_=>.node (some o) t.left t.right
 |f+1,t,n=>match n with
  |0=>.node (some o) t.left t.right
  |m+1=>if m%2=0 then .node t.val (Fo o f t.left (m/2)) t.right else .node t.val t.left (Fo o f t.right (m/2))
def Trie.set{α:Type}(t:Trie α)(n:Nat)(o:α):Trie α:=Trie.Fo o n t n
structure ag where
 next:Nat
 I0:Trie jj
 deriving Inhabited
def ag.get(h:ag)(b:Nat):Option jj:=h.I0.get b
def ag.set(h:ag)(b:Nat)(o:jj):ag:=⟨h.next,h.I0.set b o⟩
def ag.alloc(h:ag)(o:jj):ag:=⟨h.next+1,h.I0.set h.next o⟩
def ag.empty:ag:=⟨0,.leaf⟩
def af{α:Type}(o:Option α)(f:α→Bool):Bool:=
 match o with
 |some a=>f a
 |none=>false
def kX:Value→AV
 |.bool b=>.bool b
 |.int k n=>.int k n
 |.string s=>.str s.data.toList
 |.pointer none=>.nilp
 |.slice none 0 0=>.nils
 |.map none=>.nilm
 |.nilFunc=>.nilf
 |.nilIface=>.nili
 |_=>.undef
def ofConst:Value→AV
 |.agg cs=>.agg (cs.toList.map kX)
 |v=>kX v
def AV.dM:AV→List AV
 |.agg cs=>cs
 |v=>[v]
def bK:AV:=.tuple []
def AV.one:AV→Bool
 |.agg _|.tuple _|.undef=>false
 |_=>true
def bN:List AV→Bool
 |[]=>true
 |c :: cs=>c.one&&bN cs
section
variable (P:Program)
def mg(t:TypeId):Option Nat:=match P.info? t with|some i=>some i.size|none=>none
def IP(t:TypeId):Option Nat:=match P.info? t with|some i=>some i.bytes|none=>none
def wD(t:TypeId):Option AV:=match P.info? t with
 |some i=>(match i.zero with|some z=>some (ofConst z)|none=>none)
 |none=>none
def rW(t:TypeId):Option (Option Nat):=match P.underlying t with
 |some (.struct _)|some (.array _ _)=>(match mg P t with|some n=>some (some n)|none=>none)
 |some _=>some none
 |none=>none
def GH(t:TypeId):Option TypeId:=match P.underlying t with|some (.slice e)=>some e|_=>none
def Cy(t:TypeId)(i:Nat):Option Field:=match P.underlying t with|some (.struct fs)=>fs[i]?|_=>none
def DD(t:TypeId):Option (TypeDesc×TypeId):=match P.underlying t with
 |some (.map k e)=>(match P.underlying k with|some d=>some (d,e)|none=>none)
 |_=>none
end
def kr(P:Program)(t:TypeId):Option (List AV):=
 match wD P t with
 |some z=>if bN z.dM then some z.dM else none
 |none=>none
def gW(i:Option Nat)(cs:List AV)(off:Nat):Option AV:=
 match i with
 |none=>cs[off]?
 |some n=>if off+n≤cs.length then some (.agg ((cs.drop off).take n)) else none
def hG{α:Type}:List α→Nat→List α→List α
 |cs,_,[]=>cs
 |cs,off,v :: vs=>hG (cs.set off v) (off+1) vs
def cK(x:AV):Option (List AV):=if bN x.dM then some x.dM else none
def GI(c a b:AV):Option AV:=
 match c with
 |.bool t=>some (if t then a else b)
 |_=>none
def ai(i:Option Nat)(x:AV)(h:ag):Option AV:=
 match x with
 |.ptr b off=>(match h.get b with|some (.cells cs)=>gW i cs off|_=>none)
 |.iptr cs off=>gW i cs off
 |_=>none
def bp(n:Nat)(x v:AV)(h:ag):Option ag:=
 match x with
 |.ptr b off=>(match h.get b with
  |some (.cells cs)=>if v.dM.length=n&&bN v.dM&&decide (off+n≤cs.length) then some (h.set b (.cells (hG cs off v.dM))) else none
  |_=>none)
 |_=>none
def bV:AV→Option AV
 |.ptr b i=>some (.ptr b i)
 |.iptr c i=>some (.iptr c i)
 |.func f a b=>some (.func f a b)
 |_=>none
def Cz(right:Bool)(x y:AV):Option AV:=
 match x,y with
 |.int k a,.int _ b=>if b<0 then none else some (.int k (if right then a.fdiv (2 ^ (min b.toNat k.bits)) else k.wrap (a*2 ^ (min b.toNat k.bits))))
 |_,_=>none
def IQ(op:BinOp)(x y:AV):Option AV:=
 match x,y with
 |.int k a,.int k' b=>
  if k=k' then
   match op with
   |.and=>some (.int k (k.wrap (BitVec.ofInt k.bits a &&& BitVec.ofInt k.bits b).toNat))
   |.or=>some (.int k (k.wrap (BitVec.ofInt k.bits a ||| BitVec.ofInt k.bits b).toNat))
   |.xor=>some (.int k (k.wrap (BitVec.ofInt k.bits a ^^^ BitVec.ofInt k.bits b).toNat))
   |_=>none
  else none
 |_,_=>none
def aA(op:BinOp)(x y:AV):Option AV:=
 match op with
 |.shr=>Cz true x y
 |.shl=>Cz false x y
 |.and=>IQ .and x y
 |.or=>IQ .or x y
 |.xor=>IQ .xor x y
 |op=>match x,y with
 |.int k a,.int k' b=>
  if k=k' then
   match op with
   |.add=>some (.int k (k.wrap (a+b)))
   |.sub=>some (.int k (k.wrap (a-b)))
   |.mul=>some (.int k (k.wrap (a*b)))
   |.quo=>if b=0 then none else some (.int k (k.wrap (a.tdiv b)))
   |.rem=>if b=0 then none else some (.int k (a.tmod b))
   |.lss=>some (.bool (decide (a<b)))
   |.leq=>some (.bool (decide (a≤b)))
   |.gtr=>some (.bool (decide (a>b)))
   |.geq=>some (.bool (decide (a≥b)))
   |_=>none
  else none
 |.str a,.str b=>
  match op with
  |.add=>if a.length+b.length≤4611686018427387904 then some (.str (a++b)) else none
  |.lss=>some (.bool (Op.bytesLess a b))
  |.leq=>some (.bool (Op.bytesLess a b||a==b))
  |.gtr=>some (.bool (!(Op.bytesLess a b||a==b)))
  |.geq=>some (.bool (!(Op.bytesLess a b)))
  |_=>none
 |_,_=>none
def Kn(d:TypeDesc)(x y:AV):Option Bool:=
 match x,y with
 |.int k a,.int k' b=>if k=k' then some (a==b) else none
 |.str a,.str b=>some (a==b)
 |.bool a,.bool b=>(match d with|.bool=>some (a==b)|_=>none)
 |.nilp,.nilp=>(match d with|.pointer _=>some true|_=>none)
 |.ptr _ _,.nilp|.nilp,.ptr _ _|.iptr _ _,.nilp|.nilp,.iptr _ _=>(match d with|.pointer _=>some false|_=>none)
 |.nils,.nils=>(match d with|.slice _=>some true|_=>none)
 |.slice _ _ _ _,.nils|.nils,.slice _ _ _ _|.islice _ _ _ _,.nils|.nils,.islice _ _ _ _=>(match d with|.slice _=>some false|_=>none)
 |.nilm,.nilm=>(match d with|.map _ _=>some true|_=>none)
 |.map _,.nilm|.nilm,.map _=>(match d with|.map _ _=>some false|_=>none)
 |.nilf,.nilf=>(match d with|.func _ _ _=>some true|_=>none)
 |.func _ _ _,.nilf|.nilf,.func _ _ _=>(match d with|.func _ _ _=>some false|_=>none)
 |_,_=>none
def fH(d:TypeDesc)(x y:AV):Option AV:=match Kn d x y with|some b=>some (.bool b)|none=>none
def lC(d:TypeDesc)(x y:AV):Option AV:=match Kn d x y with|some b=>some (.bool (!b))|none=>none
def iu(op:UnOp)(x:AV):Option AV:=
 match op,x with
 |.neg,.int k n=>some (.int k (k.wrap (0-n)))
 |.not,.bool b=>some (.bool (!b))
 |_,_=>none
def asNat(x:AV):Option Nat:=
 match x with
 |.int _ n=>if 0≤n then some n.toNat else none
 |_=>none
def rX(d:TypeDesc)(x y:AV):Option Bool:=
 match d,x,y with
 |.int _,.int k a,.int k' b=>if k=k' then some (a==b) else none
 |.string,.str a,.str b=>some (a==b)
 |.bool,.bool a,.bool b=>some (a==b)
 |_,_,_=>none
abbrev Entry:=AV×AV×Nat
def iC(d:TypeDesc)(k:AV):List Entry→Nat→Option (Option (Nat×AV))
 |[],_=>some none
 |e :: es,i=>
  match rX d k e.1 with
  |some true=>some (some (i,e.2.1))
  |some false=>iC d k es (i+1)
  |none=>none
def nA(d:TypeDesc)(k:AV):Bool:=
 match d,k with
 |.int _,.int _ _=>true
 |.string,.str _=>true
 |.bool,.bool _=>true
 |_,_=>false
def nB(d:TypeDesc)(k:AV)(es:List Entry):Option (Option (Nat×AV)):=if nA d k then iC d k es 0 else none
def gY(sz n:Nat)(x:AV)(h:ag):Option (List AV):=
 match x with
 |.nils=>if n=0 then some [] else none
 |.slice b off _ s=>
  if s=sz then (match h.get b with
   |some (.cells cs)=>if off+n*sz≤cs.length then some ((cs.drop off).take (n*sz)) else none
   |_=>none) else none
 |.islice cs off _ s=>if s=sz&&decide (off+n*sz≤cs.length) then some ((cs.drop off).take (n*sz)) else none
 |.str s=>if sz=1 then some ((s.take n).map fun b=>.int .u8 b.toNat) else none
 |_=>none
def ku:AV→Option Nat
 |.nils=>some 0
 |.slice _ _ n _=>some n
 |.islice _ _ n _=>some n
 |.str s=>some s.length
 |_=>none
def cX:Nat:=140737488355328
def cg(sz bytes:Nat)(s x:AV)(h:ag):Option (AV×ag):=
 match ku x with
 |none=>none
 |some n=>match gY sz n x h with
  |none=>none
  |some new=>
   match s with
   |.nils=>
    if n=0 then some (.nils,h) else
    if n*bytes≤cX&&bN new then some (.slice h.next 0 n sz,h.alloc (.cells new)) else none
   |.slice b off len s'=>
    if s'=sz then
     if n=0 then some (.slice b off len s',h) else
     match h.get b with
     |some (.cells cs)=>
      if (len+n)*bytes≤cX&&bN new&&decide (off+len*sz≤cs.length) then
       some (.slice h.next 0 (len+n) sz,(h.set b .dead).alloc (.cells ((cs.drop off).take (len*sz)++new)))
      else none
     |_=>none
    else none
   |_=>none
def IS(sz:Nat)(dst src:AV)(h:ag):Option (AV×ag):=
 match ku src with
 |none=>none
 |some m=>match dst with
  |.nils=>some (.int .i64 0,h)
  |.slice b off len s'=>
   if s'=sz then
    match gY sz (Nat.min m len) src h with
    |some new=>match h.get b with
     |some (.cells cs)=>
      if bN new&&decide (off+Nat.min m len*sz≤cs.length)&&decide (new.length=Nat.min m len*sz) then
       some (.int .i64 (Nat.min m len),h.set b (.cells (hG cs off new)))
      else none
     |_=>none
    |none=>none
   else none
  |_=>none
def nh(x:Option AV)(dflt:Nat):Option Nat:=
 match x with
 |none=>some dflt
 |some v=>asNat v
def gI(i:Option Nat)(x:AV)(lo hi:Option AV):Option AV:=
 match ku x with
 |none=>none
 |some len=>match nh hi len,nh lo 0 with
  |some hi,some lo=>
   if lo≤hi&&decide (hi≤len) then
    match i,x with
    |none,.str s=>some (.str ((s.take hi).drop lo))
    |some _,.nils=>some .nils
    |some n,.slice b off _ sz=>if n=sz then some (.slice b (off+lo*sz) (hi-lo) sz) else none
    |some n,.islice cs off _ sz=>if n=sz then some (.islice cs (off+lo*sz) (hi-lo) sz) else none
    |_,_=>none
   else none
  |_,_=>none
def bD(off:Nat)(x:AV):Option AV:=
 match x with
 |.ptr b o=>some (.ptr b (o+off))
 |.iptr cs o=>some (.iptr cs (o+off))
 |_=>none
def CA(i:Option Nat)(off:Nat)(x:AV):Option AV:=
 match x with
 |.agg cs=>gW i cs off
 |_=>none
def cS(n:Nat)(x i:AV):Option AV:=
 match asNat i with
 |none=>none
 |some i=>match x with
  |.slice b off len sz=>if i<len&&n==sz then some (.ptr b (off+i*sz)) else none
  |.islice cs off len sz=>if i<len&&n==sz then some (.iptr cs (off+i*sz)) else none
  |_=>none
def IU(len n:Nat)(x i:AV):Option AV:=
 match asNat i with
 |none=>none
 |some i=>match x with
  |.ptr b off=>if i<len then some (.ptr b (off+i*n)) else none
  |.iptr cs off=>if i<len then some (.iptr cs (off+i*n)) else none
  |_=>none
inductive Q7 where
 |sl (n:Nat)|arr (len n:Nat)
def Q8(k:Q7)(x i:AV):Option AV:=match k with|.sl n=>cS n x i|.arr len n=>IU len n x i
def iD(x i:AV):Option AV:=
 match x,asNat i with
 |.str s,some i=>(match s[i]? with|some b=>some (.int .u8 b.toNat)|none=>none)
 |_,_=>none
def GJ(len n:Nat)(r:Option Nat)(x i:AV):Option AV:=
 match x,asNat i with
 |.agg cs,some i=>if i<len then gW r cs (i*n) else none
 |_,_=>none
def jT(m:AV)(h:ag):Option (List Entry):=
 match m with
 |.nilm=>some []
 |.map b=>(match h.get b with|some (.map es _)=>some es|_=>none)
 |_=>none
def dz(d:TypeDesc)(z:AV)(ok:Bool)(m k:AV)(h:ag):Option AV:=
 match jT m h with
 |none=>none
 |some es=>match nB d k es with
  |some (some (_,v))=>some (if ok then .tuple [v,.bool true] else v)
  |some none=>some (if ok then .tuple [z,.bool false] else z)
  |none=>none
def eP(es:List Entry)(i:Nat)(v:AV):List Entry:=
 match es[i]? with
 |some e=>es.set i (e.1,v,e.2.2)
 |none=>es
def ep(d:TypeDesc)(m k v:AV)(h:ag):Option ag:=
 match m with
 |.map b=>(match h.get b with
  |some (.map es ck)=>(match nB d k es with
   |some (some (i,_))=>some (h.set b (.map (eP es i v) ck))
   |some none=>some (h.set b (.map (es++[(k,v,ck)]) (ck+1)))
   |none=>none)
  |_=>none)
 |_=>none
def CB(es:List Entry)(i:Nat):Nat:=match es[i]? with|some e=>e.2.2|none=>0
def jJ(d:TypeDesc)(z:AV)(m k:AV)(h:ag):Option (AV×ag):=
 match m with
 |.map b=>(match h.get b with
  |some (.map es ck)=>(match nB d k es with
   |some (some (i,v))=>some (.tuple [v,.int .i64 (CB es i)],h)
   |some none=>some (.tuple [z,.int .i64 ck],h.set b (.map (es++[(k,z,ck)]) (ck+1)))
   |none=>none)
  |_=>none)
 |_=>none
def mh(n:Int):List Entry→Nat→Option Nat
 |[],_=>none
 |e :: es,i=>if (e.2.2:Int)=n then some i else mh n es (i+1)
def gX(m s v:AV)(h:ag):Option ag:=
 match m,s with
 |.map b,.int _ n=>(match h.get b with
  |some (.map es ck)=>(match mh n es 0 with
   |some i=>some (h.set b (.map (eP es i v) ck))
   |none=>none)
  |_=>none)
 |_,_=>none
def CC(d:TypeDesc)(m k:AV)(h:ag):Option ag:=
 match m with
 |.nilm=>if nA d k then some h else none
 |.map b=>(match h.get b with
  |some (.map es ck)=>(match nB d k es with
   |some (some (i,_))=>some (h.set b (.map (es.eraseIdx i) ck))
   |some none=>some (h.set b (.map es ck))
   |none=>none)
  |_=>none)
 |_=>none
inductive M9 where
 |str|slice|map|array (n:Nat)
def bz(i:M9)(x:AV)(h:ag):Option AV:=
 match i,x with
 |.str,.str s=>some (.int .i64 s.length)
 |.slice,.nils=>some (.int .i64 0)
 |.slice,.slice _ _ n _=>some (.int .i64 n)
 |.slice,.islice _ _ n _=>some (.int .i64 n)
 |.map,.nilm=>some (.int .i64 0)
 |.map,.map b=>(match h.get b with|some (.map es _)=>some (.int .i64 es.length)|_=>none)
 |.array n,_=>some (.int .i64 n)
 |_,_=>none
def Fp(mx:Bool)(x y:AV):Option AV:=
 match x,y with
 |.int k a,.int k' b=>if k=k' then some (.int k (if mx then (if b>a then b else a) else (if b<a then b else a))) else none
 |_,_=>none
def rY(mx:Bool):AV→List AV→Option AV
 |x,[]=>some x
 |x,y :: ys=>match Fp mx x y with
  |some v=>rY mx v ys
  |none=>none
inductive IV where
 |int (k:IntKind)|str|bytes|string
def bytesOf:List AV→Option (List UInt8)
 |[]=>some []
 |.int .u8 n :: cs=>(match bytesOf cs with|some bs=>some (UInt8.ofNat n.toNat :: bs)|none=>none)
 |_=>none
def nC(i:IV)(x:AV)(h:ag):Option (AV×ag):=
 match i,x with
 |.int k,.int _ n=>some (.int k (k.wrap n),h)
 |.str,.str s=>some (.str s,h)
 |.bytes,.str s=>if s.length≤cX then some (.slice h.next 0 s.length 1,h.alloc (.cells (s.map fun b=>.int .u8 b.toNat))) else none
 |.string,.nils=>some (.str [],h)
 |.string,.slice b off n sz=>(match gY 1 n (.slice b off n sz) h with
  |some cs=>(match bytesOf cs with|some bs=>some (.str bs,h)|none=>none)
  |none=>none)
 |.string,.islice b off n sz=>(match gY 1 n (.islice b off n sz) h with
  |some cs=>(match bytesOf cs with|some bs=>some (.str bs,h)|none=>none)
  |none=>none)
 |_,_=>none
def nD(cells:List AV):List (Nat×Nat)→List AV→Option (List AV)
 |[],[]=>some cells
 |(off,n) :: ps,v :: vs=>
  if v.dM.length=n&&decide (off+n≤cells.length)&&bN v.dM then nD (hG cells off v.dM) ps vs else none
 |_,_=>none
def gZ(zero:List AV):Nat→List AV
 |0=>[]
 |n+1=>zero++gZ zero n
def fc(zs:List AV)(ps:List (Nat×Nat))(vs:List AV):Option (List AV):=
 match nD zs ps vs with
 |some cs=>if bN cs then some cs else none
 |none=>none
def gw(zs:List AV)(ps:List (Nat×Nat))(vs:List AV):Option AV:=
 match nD zs ps vs with
 |some cs=>some (.agg cs)
 |none=>none
def uZ(bytes:Nat)(len cap:AV):Option Nat:=
 match len,cap with
 |.int .i64 l,.int .i64 c=>if 0≤l&&decide (l≤c)&&decide (bytes*c≤140737488355328) then some l.toNat else none
 |_,_=>none
def c8(sz bytes:Nat)(z:List AV)(len cap:AV)(h:ag):Option (AV×ag):=
 match uZ bytes len cap with
 |some n=>some (.slice h.next 0 n sz,h.alloc (.cells (gZ z n)))
 |none=>none
inductive Fq where
 |str|map
def jD(i:Fq)(x:AV)(h:ag):Option (AV×ag):=
 match i,x with
 |.str,.str s=>some (.ptr h.next 0,h.alloc (.siter s 0))
 |.map,.nilm=>some (.ptr h.next 0,h.alloc (.miter none 0 [] 0))
 |.map,.map m=>(match h.get m with
  |some (.map _ ck)=>some (.ptr h.next 0,h.alloc (.miter (some m) ck [] ck))
  |_=>none)
 |_,_=>none
def jK(n:Nat):List Entry→Option Entry
 |[]=>none
 |e :: es=>if e.2.2=n then some e else jK n es
def pR(es:List Entry)(since:Nat)(seen:List Nat):List (Option Entry):=
 let left:=es.filter fun e=>!seen.contains e.2.2
 let old:=left.filter fun e=>decide (e.2.2<since)
 let new:=left.filter fun e=>decide (e.2.2≥since)
 (if old.isEmpty then [none] else [])++(old++new).map some
def Fs(r m since:Nat)(seen:List Nat)(ck:Nat)(h:ag):Option Entry→AV×ag
 |some e=>(.tuple [.bool true,e.1,e.2.1],h.set r (.miter (some m) since (seen++[e.2.2]) ck))
 |none=>(.tuple [.bool false],h)
def tG(isString:Bool)(x:AV)(h:ag):Option (List (AV×ag)):=
 match x with
 |.ptr r 0=>(match h.get r,isString with
  |some (.siter s pos),true=>
   if pos<s.length then
    some [(.tuple [.bool true,.int .i64 pos,.int .i32 (Utf8.decode ⟨s.toArray⟩ pos).1],h.set r (.siter s (pos+(Utf8.decode ⟨s.toArray⟩ pos).2)))]
   else some [(.tuple [.bool false],h)]
  |some (.miter none _ _ _),false=>some [(.tuple [.bool false],h)]
  |some (.miter (some m) since seen last),false=>(match h.get m with
   |some (.map es ck)=>
    if !seen.isEmpty&&!es.isEmpty&&es.all (fun e=>decide (e.2.2≥last)) then none else
    match pR es since seen with
    |[]=>none
    |c :: cs=>some ((c :: cs).map (Fs r m since seen ck h))
   |_=>none)
  |_,_=>none)
 |_=>none
def pT(x:AV)(h:ag):Option AV:=
 match x with
 |.ptr r 0=>(match h.get r with
  |some (.miter (some m) _ seen stepped)=>(match seen.getLast?,h.get m with
   |some stamp,some (.map es ck)=>
    if ck=stepped then (match jK stamp es with|some e=>some (.tuple [e.1,e.2.1])|none=>none) else none
   |_,_=>none)
  |_=>none)
 |_=>none
def yq(a:TypeId)(z x:AV):Option AV:=
 match x with
 |.nili=>some (.tuple [z,.bool false])
 |.iface t v=>some (if t=a then .tuple [v,.bool true] else .tuple [z,.bool false])
 |_=>none
def bP(x:AV)(i:Nat):Option AV:=match x with|.tuple vs=>vs[i]?|_=>none
def IW(P:Program)(e:Option TypeId):Option (Nat×Nat):=
 match e with
 |none=>none
 |some e=>match mg P e,IP P e with
  |some s,some b=>if 0<s&&decide (0<b) then some (s,b) else none
  |_,_=>none
def yN(P:Program)(t:TypeId):Option (Nat×Nat):=IW P (GH P t)
def Q2(P:Program)(t:TypeId):Option Q7:=
 match P.underlying t with
 |some (.array len e)=>(match mg P e with|some s=>some (.arr len s)|none=>none)
 |_=>(match yN P t with|some o=>some (.sl o.1)|none=>none)
def yO(P:Program)(t:TypeId):Option (Nat×Nat×List AV):=
 match yN P t,GH P t with
 |some (s,b),some e=>(match kr P e with
  |some z=>if z.length=s then some (s,b,z) else none
  |none=>none)
 |_,_=>none
def GK(places:List (Nat×Nat)):List Nat→Option (List (Nat×Nat))
 |[]=>some []
 |i :: is=>match places[i]?,GK places is with
  |some p,some ps=>some (p :: ps)
  |_,_=>none
def Kr(P:Program)(fs:List Field):Option (List (Nat×Nat)):=fs.mapM fun f=>(P.info? f.type).map fun i=>(f.offset,i.size)
def CD(P:Program)(t:TypeId)(is:List Nat):Option (List AV×List (Nat×Nat)):=
 match P.underlying t with
 |some (.struct fs)=>(match wD P t,Kr P fs.toList with
  |some z,some pl=>(match GK pl is with|some ps=>if bN z.dM then some (z.dM,ps) else none|none=>none)
  |_,_=>none)
 |some (.array _ e)=>(match wD P t,P.info? e with
  |some z,some ie=>if bN z.dM then some (z.dM,is.map fun i=>(i*ie.size,ie.size)) else none
  |_,_=>none)
 |_=>none
def Ks(P:Program)(t:TypeId)(len:Nat)(is:List Nat):Option (Nat×List AV×List (Nat×Nat)):=
 match yO P t with
 |some (s,_,z)=>if len*s≤65536 then some (s,gZ z len,is.map fun i=>(i*s,s)) else none
 |none=>none
def Q3(P:Program)(t:TypeId)(i:Nat):Option Nat:=
 match Cy P t i with
 |some f=>(match mg P f.type with|some s=>if s=0 then none else some f.offset|none=>none)
 |none=>none
def CE(P:Program)(t:TypeId)(i:Nat):Option (Option Nat×Nat):=
 match Cy P t i with
 |some f=>(match rW P f.type with|some r=>some (r,f.offset)|none=>none)
 |none=>none
def CF(P:Program)(t:TypeId):Option (Option Nat):=
 match P.underlying t with
 |some .string=>some none
 |some (.slice e)=>(match mg P e with|some s=>some (some s)|none=>none)
 |_=>none
inductive Na where
 |str|arr (len n:Nat) (r:Option Nat)
def Kt(P:Program)(t:TypeId):Option Na:=
 match P.underlying t with
 |some .string=>some .str
 |some (.array len e)=>(match mg P e,rW P e with|some n,some r=>some (.arr len n r)|_,_=>none)
 |_=>none
def IX(i:Na)(x y:AV):Option AV:=
 match i with
 |.str=>iD x y
 |.arr len n r=>GJ len n r x y
def nY(P:Program)(t:TypeId):Option (TypeDesc×AV):=
 match DD P t with
 |some (d,e)=>(match wD P e with|some z=>some (d,z)|none=>none)
 |none=>none
def Ku(P:Program)(t:TypeId):Option M9:=
 match P.underlying t with
 |some .string=>some .str
 |some (.slice _)=>some .slice
 |some (.map _ _)=>some .map
 |some (.array n _)=>some (.array n)
 |_=>none
def yP(P:Program)(src dst:TypeId):Option IV:=
 match P.underlying src,P.underlying dst with
 |some (.int _),some (.int k)=>some (.int k)
 |some .string,some .string=>some .str
 |some .string,some (.slice e)=>(match P.underlying e,mg P e with|some (.int .u8),some 1=>some .bytes|_,_=>none)
 |some (.slice e),some .string=>(match P.underlying e with|some (.int .u8)=>some .string|_=>none)
 |_,_=>none
def Ft(P:Program)(t:TypeId):Option Fq:=
 match P.underlying t with
 |some .string=>some .str
 |some (.map _ _)=>some .map
 |_=>none
def yQ(P:Program)(t:TypeId):Option Unit:=
 match P.underlying t with
 |some (.interface _)=>none
 |some _=>some ()
 |none=>none
def yt(P:Program)(a:TypeId)(ok:Bool):Option AV:=
 match ok,P.underlying a with
 |true,some (.interface _)=>none
 |true,some _=>wD P a
 |_,_=>none
def yu(P:Program)(t u:TypeId):Option (Nat×Nat):=
 match P.underlying u,yO P t with
 |some (.slice _),some (s,b,_)=>some (s,b)
 |some .string,some (s,b,_)=>some (s,b)
 |_,_=>none
abbrev Ex:=Program→(Operand→AV)→ag→(AV→ag→Bool)→Bool
def jk(h:ag)(K:AV→ag→Bool)(o:Option AV):Bool:=af o fun v=>K v h
def wE(K:AV→ag→Bool)(o:Option ag):Bool:=af o fun h=>K bK h
def rZ(K:AV→ag→Bool)(o:Option (AV×ag)):Bool:=af o fun p=>K p.1 p.2
def GL(t:TypeId):Ex:=fun P _ h K=>af (kr P t) fun z=>K (.ptr h.next 0) (h.alloc (.cells z))
def MT(x:Operand):Ex:=fun _ ρ h K=>af (cK (ρ x)) fun cs=>K (.ptr h.next 0) (h.alloc (.cells cs))
def GM(t:TypeId)(ps:List (Nat×Operand)):Ex:=fun P ρ h K=>af (CD P t (ps.map (·.1))) fun i=>jk h K (gw i.1 i.2 (ps.map fun p=>ρ p.2))
def nZ(t:TypeId)(n:Nat)(ps:List (Nat×Operand)):Ex:=fun P ρ h K=>
 af (Ks P t n (ps.map (·.1))) fun i=>af (fc i.2.1 i.2.2 (ps.map fun p=>ρ p.2)) fun cs=>K (.slice h.next 0 n i.1) (h.alloc (.cells cs))
def IY(op:BinOp)(t:TypeId)(x y:Operand):Ex:=fun P ρ h K=>
 match op with
 |.eql=>af (P.underlying t) fun d=>jk h K (fH d (ρ x) (ρ y))
 |.neq=>af (P.underlying t) fun d=>jk h K (lC d (ρ x) (ρ y))
 |op=>jk h K (aA op (ρ x) (ρ y))
def yR(fn:Fn)(first cap:List Operand):Ex:=fun _ ρ h K=>match fn with
 |.func f=>K (.func f (first.map ρ) (cap.map ρ)) h
 |_=>false
def BL(r:Option Operand):Ex:=fun _ _ h K=>match r with
 |none=>K (.map h.next) (h.alloc (.map [] 0))
 |some _=>false
def wF(t:TypeId)(l c:Operand):Ex:=fun P ρ h K=>af (yO P t) fun i=>rZ K (c8 i.1 i.2.1 i.2.2 (ρ l) (ρ c) h)
def CG(t:TypeId)(x:Operand)(lo hi mx:Option Operand):Ex:=fun P ρ h K=>match mx with
 |none=>af (CF P t) fun i=>jk h K (gI i (ρ x) (lo.map ρ) (hi.map ρ))
 |some _=>false
def DE(t:TypeId)(x i:Operand)(ok:Bool):Ex:=fun P ρ h K=>af (nY P t) fun d=>jk h K (dz d.1 d.2 ok (ρ x) (ρ i) h)
abbrev Nb:=List TypeId→List AV→Program→ag→(AV→ag→Bool)→Bool
def u0:Nb:=fun ts xs P h K=>match ts,xs with
 |[t,u],[s,x]=>af (yu P t u) fun i=>rZ K (cg i.1 i.2 s x h)
 |_,_=>false
def CH:Nb:=fun ts xs P h K=>match ts,xs with
 |t :: _,[d,s]=>af (yN P t) fun i=>rZ K (IS i.1 d s h)
 |_,_=>false
def Fu:Nb:=fun ts xs P h K=>match ts,xs with
 |t :: _,[x]=>af (Ku P t) fun i=>jk h K (bz i x h)
 |_,_=>false
def u6:Nb:=fun ts xs P h K=>match ts,xs with
 |t :: _,[m,k]=>af (DD P t) fun i=>wE K (CC i.1 m k h)
 |_,_=>false
def qT(mx:Bool):Nb:=fun _ xs _ h K=>match xs with
 |x :: xs=>jk h K (rY mx x xs)
 |_=>false
def Fv:Nb:=fun _ _ _ _ _=>false
def BM:Builtin→Nb
 |.append=>u0
 |.copy=>CH
 |.len=>Fu
 |.delete=>u6
 |.min=>qT false
 |.max=>qT true
 |_=>Fv
def pU(c:Call):Ex:=fun P ρ h K=>match c.callee with
 |.builtin b=>BM b c.argTypes.toList (c.args.toList.map ρ) P h K
 |_=>false
def fS:Op→Ex
 |.move x=>fun _ ρ h K=>K (ρ x) h
 |.assign x=>fun _ ρ h K=>K (ρ x) h
 |.pick c a b=>fun _ ρ h K=>jk h K (GI (ρ c) (ρ a) (ρ b))
 |.alloc t=>GL t
 |.box _ x=>MT x
 |.build t ps=>GM t ps.toList
 |.buildSlice t n ps=>nZ t n ps.toList
 |.load t a=>fun P ρ h K=>af (rW P t) fun i=>jk h K (ai i (ρ a) h)
 |.store t a x=>fun P ρ h K=>af (mg P t) fun n=>wE K (bp n (ρ a) (ρ x) h)
 |.nilCheck x=>fun _ ρ h K=>jk h K (bV (ρ x))
 |.binOp op t x y _=>IY op t x y
 |.unOp op _ x=>fun _ ρ h K=>jk h K (iu op (ρ x))
 |.convert s d x=>fun P ρ h K=>af (yP P s d) fun i=>rZ K (nC i (ρ x) h)
 |.makeInterface t x=>fun P ρ h K=>af (yQ P t) fun _=>K (.iface t (ρ x)) h
 |.makeFunc fn first cap=>yR fn first.toList cap.toList
 |.makeMap _ r=>BL r
 |.makeSlice t l c=>wF t l c
 |.slice t x lo hi mx=>CG t x lo hi mx
 |.fieldAddr t x i=>fun P ρ h K=>af (Q3 P t i) fun o=>jk h K (bD o (ρ x))
 |.field t x i=>fun P ρ h K=>af (CE P t i) fun o=>jk h K (CA o.1 o.2 (ρ x))
 |.indexAddr t x i=>fun P ρ h K=>af (Q2 P t) fun o=>jk h K (Q8 o (ρ x) (ρ i))
 |.index t x i=>fun P ρ h K=>af (Kt P t) fun o=>jk h K (IX o (ρ x) (ρ i))
 |.lookup t x i ok=>DE t x i ok
 |.mapUpdate t m k x=>fun P ρ h K=>af (DD P t) fun o=>wE K (ep o.1 (ρ m) (ρ k) (ρ x) h)
 |.insert t m k x=>fun P ρ h K=>af (DD P t) fun o=>wE K (ep o.1 (ρ m) (ρ k) (ρ x) h)
 |.mapEntry t m k=>fun P ρ h K=>af (nY P t) fun o=>rZ K (jJ o.1 o.2 (ρ m) (ρ k) h)
 |.entryStore _ m s x=>fun _ ρ h K=>wE K (gX (ρ m) (ρ s) (ρ x) h)
 |.range t x=>fun P ρ h K=>af (Ft P t) fun o=>rZ K (jD o (ρ x) h)
 |.entry x=>fun _ ρ h K=>jk h K (pT (ρ x) h)
 |.extract t i=>fun _ ρ h K=>jk h K (bP (ρ t) i)
 |.typeAssert x _ a ok=>fun P ρ h K=>af (yt P a ok) fun z=>jk h K (yq a z (ρ x))
 |.call c=>pU c
 |_=>fun _ _ _ _=>false
inductive Kind where
 |pure|read|alloc|eff
 deriving DecidableEq
def eR:Callee→Kind
 |.builtin .len=>.read
 |.builtin .min=>.pure
 |.builtin .max=>.pure
 |_=>.eff
def eS:Op→Kind
 |.move _|.assign _|.pick ..|.build ..|.nilCheck _|.binOp ..|.unOp ..|.makeInterface ..|.makeFunc ..|.slice ..|.fieldAddr ..|.field ..|.indexAddr ..|.index ..|.extract ..|.typeAssert ..=>.pure
 |.load ..|.lookup ..=>.read
 |.alloc _|.box ..|.buildSlice ..|.makeMap ..|.makeSlice ..=>.alloc
 |.call c=>eR c.callee
 |_=>.eff
inductive AX where
 |normal
 |exit (id:Nat)
 |ret
 |panic (v:AV)
inductive Out where
 |ret (v:AV)
 |panic (v:AV)
structure lN where
 f:FuncId
 args:List AV
 cap:List AV
abbrev Env:=Nat→AV
def aa(env:Env)(d:Nat)(v:AV):Env:=fun j=>@Bool.rec (fun _=>AV) (env j) v (Nat.beq j d)
structure St where
 env:Env
 n:Nat
 defs:List lN
 h:ag
def ke(env:Env)(n:Nat)(dst:Option Tmp)(v:AV):Env:=
 match dst with
 |some d=>if d<n then aa env d v else env
 |none=>env
def gi(env:Env)(n:Nat)(dst:Option Tmp)(v:AV)(k:Env→Bool):Bool:=
 match dst with
 |some d=>@Bool.rec (fun _=>Bool) false (k (aa env d v)) (Nat.ble (d+1) n)
 |none=>k env
def St.Nc(s:St)(h:ag)(dst:Option Tmp)(v:AV):St:=⟨ke s.env s.n dst v,s.n,s.defs,h⟩
def evalArg(env:Env):Operand→AV
 |.tmp t=>env t
 |.const v=>ofConst v
 |.global _=>.undef
 |.func f=>.func f [] []
inductive R where
 |ok (v:AV) (defs:List lN) (h:ag)
 |panic (v:AV) (h:ag)
inductive RS where
 |ok (s:St)
 |panic (v:AV) (s:St)
abbrev gz:=FuncId→List AV→ag→(Out→ag→Bool)→Bool
def gG(ops:List Oper)(o:Oper)(env:Env):Option Bool:=
 match o.guard with
 |none=>some true
 |some (j,want)=>
  match ops[j]? with
  |some g=>(match g.dst with
   |some d=>(match env d with
    |.bool b=>some (b==want)
    |.tuple _=>some false
    |_=>none)
   |none=>none)
  |none=>none
abbrev Nd:=Program→gz→Env→List lN→ag→(R→Bool)→Bool
def NY(defs:List lN)(K:R→Bool):Out→ag→Bool
 |.ret v,h'=>K (.ok v defs h')
 |.panic v,h'=>K (.panic v h')
def mT(op:Op):Nd:=fun P _ env defs h K=>fS op P (evalArg env) h fun v h'=>K (.ok v defs h')
def yw(f:Operand)(args:List Operand):Nd:=fun _ call env defs h K=>match evalArg env f with
 |.func g first cap=>call g (first++(args.map (evalArg env)++cap)) h (NY defs K)
 |_=>false
def sC(c:Call):Nd:=match c.callee with
 |.value f=>yw f c.args.toList
 |_=>mT (.call c)
def tI(c:Call):Nd:=fun _ _ env defs h K=>match c.callee with
 |.value f=>(match evalArg env f with
  |.func g first cap=>K (.ok bK (⟨g,first++c.args.toList.map (evalArg env),cap⟩ :: defs) h)
  |_=>false)
 |_=>false
def tJ(x:Operand):Nd:=fun _ _ env _ h K=>match evalArg env x with
 |.iface t v=>K (.panic (.iface t v) h)
 |_=>false
def jU(defs:List lN)(K:R→Bool):List (AV×ag)→Bool
 |[]=>true
 |p :: ps=>K (.ok p.1 defs p.2)&&jU defs K ps
def CI(x:Operand)(b:Bool):Nd:=fun _ _ env defs h K=>af (tG b (evalArg env x) h) (jU defs K)
def g8:Op→Nd
 |.call c=>sC c
 |.defer c=>tI c
 |.panic x=>tJ x
 |.next x b=>CI x b
 |op=>mT op
def kQ(P:Program)(call:gz)(ops:List Oper):List Oper→St→(RS→Bool)→Bool
 |[],s,K=>K (.ok s)
 |o :: rest,⟨env,n,defs,h⟩,K=>
  match gG ops o env with
  |some true=>g8 o.op P call env defs h fun
   |.ok v defs h=>gi env n o.dst v fun env=>kQ P call ops rest ⟨env,n,defs,h⟩ K
   |.panic v h=>K (.panic v ⟨env,n,defs,h⟩)
  |some false=>gi env n o.dst bK fun env=>kQ P call ops rest ⟨env,n,defs,h⟩ K
  |none=>false
def lD(acc:List Nat):List Edge→Nat
 |[]=>0
 |e :: es=>if Region.binds .any e then (2 ^ e.on ||| acc.getD e.on 0) ||| lD acc es else lD acc es
def lE:List Oper→List Nat→List Nat
 |[],acc=>acc
 |o :: os,acc=>lE os (acc++[lD acc o.after.toList])
def masks(ops:List Oper):List Nat:=lE ops []
def yy(ms:List Nat)(i j:Nat):Bool:=(ms.getD i 0).testBit j
def oV(o:Oper):Bool:=match eS o.op with|.eff=>true|_=>false
def qW:List Oper→Nat→List (Nat×Oper)
 |[],_=>[]
 |o :: os,i=>(i,o) :: qW os (i+1)
def CJ:List (Nat×Oper)→List Nat
 |[]=>[]
 |p :: ps=>if oV p.2 then p.1 :: CJ ps else CJ ps
def tK(ms:List Nat)(i:Nat):List Nat→Nat
 |[]=>0
 |j :: js=>if yy ms i j then tK ms i js+1 else tK ms i js
def yz(ms:List Nat)(effs:List Nat)(L:List (Nat×Oper)):Nat→Nat→List (Nat×Oper)
 |0,k=>L.filter fun p=>!oV p.2&&tK ms p.1 effs==k
 |n+1,k=>(L.filter fun p=>!oV p.2&&tK ms p.1 effs==k)++((L.filter fun p=>oV p.2&&tK ms p.1 effs==k)++yz ms effs L n (k+1))
def ni(ops:List Oper)(o:Oper):List Tmp:=
 (o.op.operands.toList.filterMap fun|.tmp t=>some t|_=>none) ++
 (match o.guard with
  |some (g,_)=>(match ops[g]? with|some p=>p.dst.toList|none=>[])
  |none=>[])
def Fw(ops:List Oper)(ms:List Nat)(a b:Nat×Oper):Bool:=
 a.1 != b.1&&(!(yy ms a.1 b.1)&&((!oV a.2||yy ms b.1 a.1) &&
 ((match a.2.dst with
   |some d=>(match b.2.dst with|some e=>d != e|none=>true)&&(!((ni ops b.2).contains d)||yy ms b.1 a.1)
   |none=>true) &&
  (match b.2.dst with
   |some d=>!((ni ops a.2).contains d)||yy ms b.1 a.1
   |none=>true))))
def yA(ops:List Oper)(ms:List Nat):List (Nat×Oper)→Bool
 |[]=>true
 |p :: ps=>ps.all (Fw ops ms p)&&yA ops ms ps
def yB(L:List (Nat×Oper)):Nat→Bool
 |0=>true
 |n+1=>L.any (fun p=>p.1==n)&&yB L n
structure Nf where
 ms:List Nat
 L:List (Nat×Oper)
def IZ(ops:List Oper)(ms:List Nat):List (Nat×Oper):=yz ms (CJ (qW ops 0)) (qW ops 0) (CJ (qW ops 0)).length 0
def yC:List Oper→Nat→Bool
 |[],_=>true
 |o :: os,i=>o.after.toList.all (fun e=>!Region.binds .any e||decide (e.on<i))&&yC os (i+1)
def DF(ops:List Oper):Option Nf:=
 if yC ops 0&&yA ops (masks ops) (IZ ops (masks ops))&&yB (IZ ops (masks ops)) ops.length then some ⟨masks ops,IZ ops (masks ops)⟩ else none
structure Read where
 i:Nat
 op:Op
 env:Env
 v:AV
def sameAt(P:Program)(op:Op)(env:Env)(v:AV)(h:ag):Bool:=fS op P (evalArg env) h fun v' _=>AV.beq v' v
def iy(P:Program)(ms:List Nat)(i:Nat)(h:ag):List Read→Bool
 |[]=>true
 |r :: rs=>if yy ms i r.i then iy P ms i h rs else sameAt P r.op r.env r.v h&&iy P ms i h rs
def fe(P:Program)(call:gz)(ops:List Oper)(ms:List Nat):List (Nat×Oper)→List Read→St→(St→Bool)→Bool
 |[],_,s,K=>K s
 |p :: rest,lg,⟨env,n,defs,h⟩,K=>
  match gG ops p.2 env with
  |some true=>
   match eS p.2.op with
   |.pure=>fS p.2.op P (evalArg env) h fun v _=>gi env n p.2.dst v fun env'=>fe P call ops ms rest lg ⟨env',n,defs,h⟩ K
   |.read=>fS p.2.op P (evalArg env) h fun v _=>gi env n p.2.dst v fun env'=>fe P call ops ms rest (⟨p.1,p.2.op,env,v⟩ :: lg) ⟨env',n,defs,h⟩ K
   |.alloc=>fS p.2.op P (evalArg env) h fun v h'=>gi env n p.2.dst v fun env'=>fe P call ops ms rest lg ⟨env',n,defs,h'⟩ K
   |.eff=>
    g8 p.2.op P call env defs h fun
     |.ok v defs' h'=>if iy P ms p.1 h' lg then gi env n p.2.dst v fun env'=>fe P call ops ms rest lg ⟨env',n,defs',h'⟩ K else false
     |.panic _ _=>false
  |some false=>gi env n p.2.dst bK fun env'=>fe P call ops ms rest lg ⟨env',n,defs,h⟩ K
  |none=>false
def aF:List AV→Env
 |[],_=>bK
 |v :: _,0=>v
 |_ :: vs,i+1=>aF vs i
def Fx(env:Env):Nat→Nat→List AV
 |0,_=>[]
 |n+1,i=>env i :: Fx env n (i+1)
def St.I0:St→St
 |⟨env,n,defs,h⟩=>⟨aF (Fx env n 0),n,defs,h⟩
def iter(f:St→(AX→St→Bool)→Bool)(K:AX→St→Bool):Nat→St→Bool
 |0,_=>false
 |n+1,s=>f s fun
  |.normal,s'=>iter f K n s'.I0
  |e,s'=>K e s'
def evalCode(P:Program)(call:gz)(rounds:Nat):Code→St→(AX→St→Bool)→Bool
 |.skip,s,K=>K .normal s
 |.region _ ops draw,s,K=>
  if draw then af (DF ops.toList) fun p=>fe P call ops.toList p.ms p.L [] s fun s'=>K .normal s'
  else kQ P call ops.toList ops.toList s fun
   |.ok s'=>K .normal s'
   |.panic v s'=>K (.panic v) s'
 |.seq a b,s,K=>evalCode P call rounds a s fun
  |.normal,s'=>evalCode P call rounds b s' K
  |e,s'=>K e s'
 |.cond c a b,s,K=>
  match evalArg s.env c with
  |.bool true=>evalCode P call rounds a s K
  |.bool false=>evalCode P call rounds b s K
  |_=>false
 |.block id c,s,K=>evalCode P call rounds c s fun
  |.exit id',s'=>if id'=id then K .normal s' else K (.exit id') s'
  |e,s'=>K e s'
 |.loop c,s,K=>iter (evalCode P call rounds c) K rounds s
 |.exit id,s,K=>K (.exit id) s
 |.ret,s,K=>K .ret s
 |_,_,_=>false
abbrev tL:=FuncId→Option (List AV→ag→(Out→ag→Bool)→Bool)
abbrev nj:=FuncId→Option (List AV→Option AV→ag→(Option AV→ag→Bool)→Bool)
def yD(P:Program)(s:St):ResultVar→Option AV
 |.tmp t=>some (s.env t)
 |.cell a t=>(match rW P t with|some i=>ai i (s.env a) s.h|none=>none)
def eO(P:Program)(s:St):List ResultVar→Option (List AV)
 |[]=>some []
 |r :: rs=>match yD P s r,eO P s rs with
  |some v,some vs=>some (v :: vs)
  |_,_=>none
def oneOf:List AV→AV
 |[v]=>v
 |vs=>.tuple vs
def leave(P:Program)(D:nj)(rs:List ResultVar)(K:Out→ag→Bool):List lN→Option AV→St→Bool
 |[],none,s=>af (eO P s rs) fun vs=>K (.ret (oneOf vs)) s.h
 |[],some v,s=>K (.panic v) s.h
 |d :: ds,pan,s=>
  match D d.f with
  |some g=>g (d.args++d.cap) pan s.h fun pan' h'=>leave P D rs K ds pan' ⟨s.env,s.n,s.defs,h'⟩
  |none=>false
def aK(P:Program)(D:nj)(rs:List ResultVar)(K:Out→ag→Bool):AX→St→Bool
 |.normal,s'=>leave P D rs K s'.defs none s'
 |.ret,s'=>leave P D rs K s'.defs none s'
 |.panic v,s'=>leave P D rs K s'.defs (some v) s'
 |.exit _,_=>false
def I1(P:Program)(D:nj)(call:gz)(rounds:Nat)(fn:Func)(args:List AV)(h:ag)(K:Out→ag→Bool):Bool:=
 match fn.body with
 |none=>false
 |some c=>evalCode P call rounds c ⟨aF args,fn.ntmps,[],h⟩ (aK P D fn.results.toList K)
def bQ(P:Program)(F:tL)(D:nj):Nat→FuncId→List AV→ag→(Out→ag→Bool)→Bool
 |0,_,_,_,_=>false
 |n+1,f,args,h,K=>
  match F f with
  |some g=>g args h K
  |none=>
   match P.funcs[f]? with
   |none=>false
   |some fn=>if decide (args.length≤fn.ntmps)&&fn.name != "runtime.NumGoroutine" then I1 P D (bQ P F D n) n fn args h K else false
mutual
def yS:Code→Nat
 |.skip=>1
 |.region _ _ _=>1
 |.seq a b=>yS a*yS b
 |.cond _ a b=>yS a+yS b
 |.block id c=>yS c+leavesN id c
 |_=>0
def leavesN(id:Nat):Code→Nat
 |.seq a b=>leavesN id a+yS a*leavesN id b
 |.cond _ a b=>leavesN id a+leavesN id b
 |.block _ c=>leavesN id c
 |.exit i=>@Bool.rec (fun _=>Nat) 0 1 (Nat.beq i id)
 |_=>0
end
def yT:Code→Nat
 |.region _ ops _=>ops.toList.length
 |.seq a b=>yT a+yT b
 |.cond _ a b=>yT a+yT b+1
 |.block _ c=>yT c
 |.loop c=>yT c+10
 |_=>1
def DG:List Oper→Bool
 |[]=>false
 |o :: os=>match o.guard with|some _=>true|none=>DG os
def I2:Code→Bool
 |.cond _ _ _=>true
 |.seq a _=>I2 a
 |_=>false
def Ng(a b:Code):Bool:=
 @Bool.rec (fun _=>Bool) false (match a with
  |.region _ ops _=>DG ops.toList&&!I2 b
  |a=>Nat.ble 2 (yS a)) (Nat.ble 12 (yT b))
end
end Go.AM