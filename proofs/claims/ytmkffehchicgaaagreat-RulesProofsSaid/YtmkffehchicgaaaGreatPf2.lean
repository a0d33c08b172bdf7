/- The abstract machine: a deterministic evaluator over the model's Code. Conditions: none; definitions alone. -/
import Derived.Calls
import GoSem.Core.Utf8
import Derived.Orders
namespace Go.AM
open List Nat Bool Option
open Go
noncomputable section
theorem ep{p:Prop}[Decidable p]:¬ p->decide p=false:=_root_.decide_eq_false
theorem ey{p:Prop}[Decidable p]:p->decide p=true:=_root_.decide_eq_true
theorem ec{α:Type}{l:List α}{i:Nat}(h:i<l.length):l[i]?=some l[i]:=getElem?_eq_getElem h
theorem iA{α:Type}{l:List α}{i:Nat}{a:α}(h:l[i]?=some a):a ∈ l:=mem_of_getElem? h
theorem kB{α:Type}{l:List α}{i:Nat}(h:l.length<=i):l.take i=l:=take_of_length_le h
theorem dK(n:Nat):n<=n:=Nat.le_refl n
theorem oB{α:Type}{l:List α}{i:Nat}{a:α}:l[i]?=some a↔∃ h:i<l.length,l[i]=a:=List.getElem?_eq_some_iff
inductive AV where
 |undef
 |bool (b:Bool)
 |int (k:IntKind) (n:Int)
 |str (s:List UInt8)
 |gC
 |ptr (b off:Nat)
 |dI (cs:List AV) (off:Nat)
 |au
 |slice (b off len sz:Nat)
 |ay (cs:List AV) (off len sz:Nat)
 |kX
 |map (b:Nat)
 |qh
 |func (f:FuncId) (first cap:List AV)
 |tc
 |iface (t:TypeId) (v:AV)
 |agg (cs:List AV)
 |tuple (vs:List AV)
 deriving Inhabited
mutual
def AV.beq:AV->AV->Bool
 |.undef,.undef=>true
 |.bool a,.bool b=>a==b
 |.int k a,.int j b=>decide (k=j)&&decide (a=b)
 |.str a,.str b=>decide (a=b)
 |.gC,.gC=>true
 |.ptr a i,.ptr b j=>a==b&&i==j
 |.dI a i,.dI b j=>AV.An a b&&i==j
 |.au,.au=>true
 |.slice a i l s,.slice b j m t=>a==b&&i==j&&l==m&&s==t
 |.ay a i l s,.ay b j m t=>AV.An a b&&i==j&&l==m&&s==t
 |.kX,.kX=>true
 |.map a,.map b=>a==b
 |.qh,.qh=>true
 |.func f a b,.func g c d=>f==g&&AV.An a c&&AV.An b d
 |.tc,.tc=>true
 |.iface t a,.iface u b=>t==u&&AV.beq a b
 |.agg a,.agg b=>AV.An a b
 |.tuple a,.tuple b=>AV.An a b
 |_,_=>false
def AV.An:List AV->List AV->Bool
 |[],[]=>true
 |a :: as,b :: bs=>AV.beq a b&&AV.An as bs
 |_,_=>false
end
inductive mP where
 |dead
 |cells (cs:List AV)
 |map (es:List (AV×AV×Nat)) (clock:Nat)
 |ES (s:List UInt8) (pos:Nat)
 |ij (m:Option Nat) (since:Nat) (seen:List Nat) (Qc:Nat)
 |box (v:AV)
 deriving Inhabited
inductive Trie (α:Type) where
 |leaf
 |node (v:Option α) (l r:Trie α)
 deriving Inhabited
def Trie.get{α:Type}:Trie α->Nat->Option α
 |.leaf,_=>none
 |.node v l r,n=>match n with
  |0=>v
  |m+1=>if m%2=0 then l.get (m/2) else r.get (m/2)
def Trie.val{α:Type}:Trie α->Option α
 |.leaf=>none
 |.node v _ _=>v
def Trie.left{α:Type}:Trie α->Trie α
 |.leaf=>.leaf
 |.node _ l _=>l
def Trie.right{α:Type}:Trie α->Trie α
 |.leaf=>.leaf
 |.node _ _ r=>r
def Trie.N9{α:Type}(o:α):Nat->Trie α->Nat->Trie α
 |0,t,_=>.node (some o) t.left t.right
 |f+1,t,n=>match n with
  |0=>.node (some o) t.left t.right
  |m+1=>if m%2=0 then .node t.val (N9 o f t.left (m/2)) t.right else .node t.val t.left (N9 o f t.right (m/2))
def Trie.set{α:Type}(t:Trie α)(n:Nat)(o:α):Trie α:=Trie.N9 o n t n
structure ag where
 next:Nat
 TF:Trie mP
 deriving Inhabited
def ag.get(h:ag)(b:Nat):Option mP:=h.TF.get b
def ag.set(h:ag)(b:Nat)(o:mP):ag:=⟨h.next,h.TF.set b o⟩
def ag.alloc(h:ag)(o:mP):ag:=⟨h.next+1,h.TF.set h.next o⟩
def ag.empty:ag:=⟨0,.leaf⟩
def af{α:Type}(o:Option α)(f:α->Bool):Bool:=
 match o with
 |some a=>f a
 |none=>false
def pI:Value->AV
 |.bool b=>.bool b
 |.int k n=>.int k n
 |.string s=>.str s.data.toList
 |.pointer none=>.gC
 |.slice none 0 0=>.au
 |.map none=>.kX
 |.nilFunc=>.qh
 |.nilIface=>.tc
 |_=>.undef
def ofConst:Value->AV
 |.agg cs=>.agg (cs.toList.map pI)
 |v=>pI v
def AV.eN:AV->List AV
 |.agg cs=>cs
 |v=>[v]
def bK:AV:=.tuple []
def AV.one:AV->Bool
 |.agg _|.tuple _|.undef=>false
 |_=>true
def bE:List AV->Bool
 |[]=>true
 |c :: cs=>c.one&&bE cs
section
variable (P:Program)
def rz(t:TypeId):Option Nat:=match P.info? t with|some i=>some i.size|none=>none
def TG(t:TypeId):Option Nat:=match P.info? t with|some i=>some i.bytes|none=>none
def CQ(t:TypeId):Option AV:=match P.info? t with
 |some i=>(match i.zero with|some z=>some (ofConst z)|none=>none)
 |none=>none
def yV(t:TypeId):Option (Option Nat):=match P.underlying t with
 |some (.struct _)|some (.array _ _)=>(match rz P t with|some n=>some (some n)|none=>none)
 |some _=>some none
 |none=>none
def Qd(t:TypeId):Option TypeId:=match P.underlying t with|some (.slice e)=>some e|_=>none
def JX(t:TypeId)(i:Nat):Option Field:=match P.underlying t with|some (.struct fs)=>fs[i]?|_=>none
def LC(t:TypeId):Option (TypeDesc×TypeId):=match P.underlying t with
 |some (.map k e)=>(match P.underlying k with|some d=>some (d,e)|none=>none)
 |_=>none
end
def oM(P:Program)(t:TypeId):Option (List AV):=
 match CQ P t with
 |some z=>if bE z.eN then some z.eN else none
 |none=>none
def kC(i:Option Nat)(cs:List AV)(off:Nat):Option AV:=
 match i with
 |none=>cs[off]?
 |some n=>if off+n<=cs.length then some (.agg ((cs.drop off).take n)) else none
def lG{α:Type}:List α->Nat->List α->List α
 |cs,_,[]=>cs
 |cs,off,v :: vs=>lG (cs.set off v) (off+1) vs
def eR(x:AV):Option (List AV):=if bE x.eN then some x.eN else none
def Qe(c a b:AV):Option AV:=
 match c with
 |.bool t=>some (if t then a else b)
 |_=>none
def ah(i:Option Nat)(x:AV)(h:ag):Option AV:=
 match x with
 |.ptr b off=>(match h.get b with|some (.cells cs)=>kC i cs off|_=>none)
 |.dI cs off=>kC i cs off
 |_=>none
def bh(n:Nat)(x v:AV)(h:ag):Option ag:=
 match x with
 |.ptr b off=>(match h.get b with
  |some (.cells cs)=>if v.eN.length=n&&bE v.eN&&decide (off+n<=cs.length) then some (h.set b (.cells (lG cs off v.eN))) else none
  |_=>none)
 |_=>none
def bS:AV->Option AV
 |.ptr b i=>some (.ptr b i)
 |.dI c i=>some (.dI c i)
 |.func f a b=>some (.func f a b)
 |_=>none
def JY(right:Bool)(x y:AV):Option AV:=
 match x,y with
 |.int k a,.int _ b=>if b<0 then none else some (.int k (if right then a.fdiv (2 ^ (min b.toNat k.bits)) else k.wrap (a*2 ^ (min b.toNat k.bits))))
 |_,_=>none
def TH(op:BinOp)(x y:AV):Option AV:=
 match x,y with
 |.int k a,.int k' b=>
  if k=k' then
   match op with
   |.and=>some (.int k (k.wrap (BitVec.ofInt k.bits a &&& BitVec.ofInt k.bits b).toNat))
   |.or=>some (.int k (k.wrap (BitVec.ofInt k.bits a ||| BitVec.ofInt k.bits b).toNat))
   |.xor=>some (.int k (k.wrap (BitVec.ofInt k.bits a ^^^ BitVec.ofInt k.bits b).toNat))
   |_=>none
  else none
 |_,_=>none
def aL(op:BinOp)(x y:AV):Option AV:=
 match op with
 |.shr=>JY true x y
 |.shl=>JY false x y
 |.and=>TH .and x y
 |.or=>TH .or x y
 |.xor=>TH .xor x y
 |op=>match x,y with
 |.int k a,.int k' b=>
  if k=k' then
   match op with
   |.add=>some (.int k (k.wrap (a+b)))
   |.sub=>some (.int k (k.wrap (a-b)))
   |.mul=>some (.int k (k.wrap (a*b)))
   |.quo=>if b=0 then none else some (.int k (k.wrap (a.tdiv b)))
   |.rem=>if b=0 then none else some (.int k (a.tmod b))
   |.lss=>some (.bool (decide (a<b)))
   |.leq=>some (.bool (decide (a<=b)))
   |.gtr=>some (.bool (decide (a>b)))
   |.geq=>some (.bool (decide (a>=b)))
   |_=>none
  else none
 |.str a,.str b=>
  match op with
  |.add=>if a.length+b.length<=4611686018427387904 then some (.str (a++b)) else none
  |.lss=>some (.bool (Op.bytesLess a b))
  |.leq=>some (.bool (Op.bytesLess a b||a==b))
  |.gtr=>some (.bool (!(Op.bytesLess a b||a==b)))
  |.geq=>some (.bool (!(Op.bytesLess a b)))
  |_=>none
 |_,_=>none
def V9(d:TypeDesc)(x y:AV):Option Bool:=
 match x,y with
 |.int k a,.int k' b=>if k=k' then some (a==b) else none
 |.str a,.str b=>some (a==b)
 |.bool a,.bool b=>(match d with|.bool=>some (a==b)|_=>none)
 |.gC,.gC=>(match d with|.pointer _=>some true|_=>none)
 |.ptr _ _,.gC|.gC,.ptr _ _|.dI _ _,.gC|.gC,.dI _ _=>(match d with|.pointer _=>some false|_=>none)
 |.au,.au=>(match d with|.slice _=>some true|_=>none)
 |.slice _ _ _ _,.au|.au,.slice _ _ _ _|.ay _ _ _ _,.au|.au,.ay _ _ _ _=>(match d with|.slice _=>some false|_=>none)
 |.kX,.kX=>(match d with|.map _ _=>some true|_=>none)
 |.map _,.kX|.kX,.map _=>(match d with|.map _ _=>some false|_=>none)
 |.qh,.qh=>(match d with|.func _ _ _=>some true|_=>none)
 |.func _ _ _,.qh|.qh,.func _ _ _=>(match d with|.func _ _ _=>some false|_=>none)
 |_,_=>none
def jU(d:TypeDesc)(x y:AV):Option AV:=match V9 d x y with|some b=>some (.bool b)|none=>none
def sG(d:TypeDesc)(x y:AV):Option AV:=match V9 d x y with|some b=>some (.bool (!b))|none=>none
def kM(op:UnOp)(x:AV):Option AV:=
 match op,x with
 |.neg,.int k n=>some (.int k (k.wrap (0-n)))
 |.not,.bool b=>some (.bool (!b))
 |_,_=>none
def asNat(x:AV):Option Nat:=
 match x with
 |.int _ n=>if 0<=n then some n.toNat else none
 |_=>none
def yW(d:TypeDesc)(x y:AV):Option Bool:=
 match d,x,y with
 |.int _,.int k a,.int k' b=>if k=k' then some (a==b) else none
 |.string,.str a,.str b=>some (a==b)
 |.bool,.bool a,.bool b=>some (a==b)
 |_,_,_=>none
abbrev Entry:=AV×AV×Nat
def jB(d:TypeDesc)(k:AV):List Entry->Nat->Option (Option (Nat×AV))
 |[],_=>some none
 |e :: es,i=>
  match yW d k e.1 with
  |some true=>some (some (i,e.2.1))
  |some false=>jB d k es (i+1)
  |none=>none
def pJ(d:TypeDesc)(k:AV):Bool:=
 match d,k with
 |.int _,.int _ _=>true
 |.string,.str _=>true
 |.bool,.bool _=>true
 |_,_=>false
def pK(d:TypeDesc)(k:AV)(es:List Entry):Option (Option (Nat×AV)):=if pJ d k then jB d k es 0 else none
def jE(sz n:Nat)(x:AV)(h:ag):Option (List AV):=
 match x with
 |.au=>if n=0 then some [] else none
 |.slice b off _ s=>
  if s=sz then (match h.get b with
   |some (.cells cs)=>if off+n*sz<=cs.length then some ((cs.drop off).take (n*sz)) else none
   |_=>none) else none
 |.ay cs off _ s=>if s=sz&&decide (off+n*sz<=cs.length) then some ((cs.drop off).take (n*sz)) else none
 |.str s=>if sz=1 then some ((s.take n).map fun b=>.int .u8 b.toNat) else none
 |_=>none
def nS:AV->Option Nat
 |.au=>some 0
 |.slice _ _ n _=>some n
 |.ay _ _ n _=>some n
 |.str s=>some s.length
 |_=>none
def dw:Nat:=140737488355328
def cz(sz bytes:Nat)(s x:AV)(h:ag):Option (AV×ag):=
 match nS x with
 |none=>none
 |some n=>match jE sz n x h with
  |none=>none
  |some new=>
   match s with
   |.au=>
    if n=0 then some (.au,h) else
    if n*bytes<=dw&&bE new then some (.slice h.next 0 n sz,h.alloc (.cells new)) else none
   |.slice b off len s'=>
    if s'=sz then
     if n=0 then some (.slice b off len s',h) else
     match h.get b with
     |some (.cells cs)=>
      if (len+n)*bytes<=dw&&bE new&&decide (off+len*sz<=cs.length) then
       some (.slice h.next 0 (len+n) sz,(h.set b .dead).alloc (.cells ((cs.drop off).take (len*sz)++new)))
      else none
     |_=>none
    else none
   |_=>none
def TI(sz:Nat)(dst src:AV)(h:ag):Option (AV×ag):=
 match nS src with
 |none=>none
 |some m=>match dst with
  |.au=>some (.int .i64 0,h)
  |.slice b off len s'=>
   if s'=sz then
    match jE sz (Nat.min m len) src h with
    |some new=>match h.get b with
     |some (.cells cs)=>
      if bE new&&decide (off+Nat.min m len*sz<=cs.length)&&decide (new.length=Nat.min m len*sz) then
       some (.int .i64 (Nat.min m len),h.set b (.cells (lG cs off new)))
      else none
     |_=>none
    |none=>none
   else none
  |_=>none
def rA(x:Option AV)(aiG:Nat):Option Nat:=
 match x with
 |none=>some aiG
 |some v=>asNat v
def jr(i:Option Nat)(x:AV)(lo hi:Option AV):Option AV:=
 match nS x with
 |none=>none
 |some len=>match rA hi len,rA lo 0 with
  |some hi,some lo=>
   if lo<=hi&&decide (hi<=len) then
    match i,x with
    |none,.str s=>some (.str ((s.take hi).drop lo))
    |some _,.au=>some .au
    |some n,.slice b off _ sz=>if n=sz then some (.slice b (off+lo*sz) (hi-lo) sz) else none
    |some n,.ay cs off _ sz=>if n=sz then some (.ay cs (off+lo*sz) (hi-lo) sz) else none
    |_,_=>none
   else none
  |_,_=>none
def bL(off:Nat)(x:AV):Option AV:=
 match x with
 |.ptr b o=>some (.ptr b (o+off))
 |.dI cs o=>some (.dI cs (o+off))
 |_=>none
def JZ(i:Option Nat)(off:Nat)(x:AV):Option AV:=
 match x with
 |.agg cs=>kC i cs off
 |_=>none
def dg(n:Nat)(x i:AV):Option AV:=
 match asNat i with
 |none=>none
 |some i=>match x with
  |.slice b off len sz=>if i<len&&n==sz then some (.ptr b (off+i*sz)) else none
  |.ay cs off len sz=>if i<len&&n==sz then some (.dI cs (off+i*sz)) else none
  |_=>none
def TJ(len n:Nat)(x i:AV):Option AV:=
 match asNat i with
 |none=>none
 |some i=>match x with
  |.ptr b off=>if i<len then some (.ptr b (off+i*n)) else none
  |.dI cs off=>if i<len then some (.dI cs (off+i*n)) else none
  |_=>none
inductive IaK where
 |sl (n:Nat)|arr (len n:Nat)
def iaV(k:IaK)(x i:AV):Option AV:=match k with|.sl n=>dg n x i|.arr len n=>TJ len n x i
def mY(x i:AV):Option AV:=
 match x,asNat i with
 |.str s,some i=>(match s[i]? with|some b=>some (.int .u8 b.toNat)|none=>none)
 |_,_=>none
def Qf(len n:Nat)(r:Option Nat)(x i:AV):Option AV:=
 match x,asNat i with
 |.agg cs,some i=>if i<len then kC r cs (i*n) else none
 |_,_=>none
def lH(m:AV)(h:ag):Option (List Entry):=
 match m with
 |.kX=>some []
 |.map b=>(match h.get b with|some (.map es _)=>some es|_=>none)
 |_=>none
def dc(d:TypeDesc)(z:AV)(ok:Bool)(m k:AV)(h:ag):Option AV:=
 match lH m h with
 |none=>none
 |some es=>match pK d k es with
  |some (some (_,v))=>some (if ok then .tuple [v,.bool true] else v)
  |some none=>some (if ok then .tuple [z,.bool false] else z)
  |none=>none
def fG(es:List Entry)(i:Nat)(v:AV):List Entry:=
 match es[i]? with
 |some e=>es.set i (e.1,v,e.2.2)
 |none=>es
def fT(d:TypeDesc)(m k v:AV)(h:ag):Option ag:=
 match m with
 |.map b=>(match h.get b with
  |some (.map es ck)=>(match pK d k es with
   |some (some (i,_))=>some (h.set b (.map (fG es i v) ck))
   |some none=>some (h.set b (.map (es++[(k,v,ck)]) (ck+1)))
   |none=>none)
  |_=>none)
 |_=>none
def zu(es:List Entry)(i:Nat):Nat:=match es[i]? with|some e=>e.2.2|none=>0
def iR(d:TypeDesc)(z:AV)(m k:AV)(h:ag):Option (AV×ag):=
 match m with
 |.map b=>(match h.get b with
  |some (.map es ck)=>(match pK d k es with
   |some (some (i,v))=>some (.tuple [v,.int .i64 (zu es i)],h)
   |some none=>some (.tuple [z,.int .i64 ck],h.set b (.map (es++[(k,z,ck)]) (ck+1)))
   |none=>none)
  |_=>none)
 |_=>none
def rB(n:Int):List Entry->Nat->Option Nat
 |[],_=>none
 |e :: es,i=>if (e.2.2:Int)=n then some i else rB n es (i+1)
def fX(m s v:AV)(h:ag):Option ag:=
 match m,s with
 |.map b,.int _ n=>(match h.get b with
  |some (.map es ck)=>(match rB n es 0 with
   |some i=>some (h.set b (.map (fG es i v) ck))
   |none=>none)
  |_=>none)
 |_,_=>none
def J1(d:TypeDesc)(m k:AV)(h:ag):Option ag:=
 match m with
 |.kX=>if pJ d k then some h else none
 |.map b=>(match h.get b with
  |some (.map es ck)=>(match pK d k es with
   |some (some (i,_))=>some (h.set b (.map (es.eraseIdx i) ck))
   |some none=>some (h.set b (.map es ck))
   |none=>none)
  |_=>none)
 |_=>none
inductive aaf where
 |str|slice|map|array (n:Nat)
def b6(i:aaf)(x:AV)(h:ag):Option AV:=
 match i,x with
 |.str,.str s=>some (.int .i64 s.length)
 |.slice,.au=>some (.int .i64 0)
 |.slice,.slice _ _ n _=>some (.int .i64 n)
 |.slice,.ay _ _ n _=>some (.int .i64 n)
 |.map,.kX=>some (.int .i64 0)
 |.map,.map b=>(match h.get b with|some (.map es _)=>some (.int .i64 es.length)|_=>none)
 |.array n,_=>some (.int .i64 n)
 |_,_=>none
def J2(mx:Bool)(x y:AV):Option AV:=
 match x,y with
 |.int k a,.int k' b=>if k=k' then some (.int k (if mx then (if b>a then b else a) else (if b<a then b else a))) else none
 |_,_=>none
def tL(mx:Bool):AV->List AV->Option AV
 |x,[]=>some x
 |x,y :: ys=>match J2 mx x y with
  |some v=>tL mx v ys
  |none=>none
inductive TK where
 |int (k:IntKind)|str|bytes|string
def bytesOf:List AV->Option (List UInt8)
 |[]=>some []
 |.int .u8 n :: cs=>(match bytesOf cs with|some bs=>some (UInt8.ofNat n.toNat :: bs)|none=>none)
 |_=>none
def jK(i:TK)(x:AV)(h:ag):Option (AV×ag):=
 match i,x with
 |.int k,.int _ n=>some (.int k (k.wrap n),h)
 |.str,.str s=>some (.str s,h)
 |.bytes,.str s=>if s.length<=dw then some (.slice h.next 0 s.length 1,h.alloc (.cells (s.map fun b=>.int .u8 b.toNat))) else none
 |.string,.au=>some (.str [],h)
 |.string,.slice b off n sz=>(match jE 1 n (.slice b off n sz) h with
  |some cs=>(match bytesOf cs with|some bs=>some (.str bs,h)|none=>none)
  |none=>none)
 |.string,.ay b off n sz=>(match jE 1 n (.ay b off n sz) h with
  |some cs=>(match bytesOf cs with|some bs=>some (.str bs,h)|none=>none)
  |none=>none)
 |_,_=>none
def sH(cells:List AV):List (Nat×Nat)->List AV->Option (List AV)
 |[],[]=>some cells
 |(off,n) :: ps,v :: vs=>
  if v.eN.length=n&&decide (off+n<=cells.length)&&bE v.eN then sH (lG cells off v.eN) ps vs else none
 |_,_=>none
def jL(zero:List AV):Nat->List AV
 |0=>[]
 |n+1=>zero++jL zero n
def ig(zs:List AV)(ps:List (Nat×Nat))(vs:List AV):Option (List AV):=
 match sH zs ps vs with
 |some cs=>if bE cs then some cs else none
 |none=>none
def jM(zs:List AV)(ps:List (Nat×Nat))(vs:List AV):Option AV:=
 match sH zs ps vs with
 |some cs=>some (.agg cs)
 |none=>none
def zw(bytes:Nat)(len cap:AV):Option Nat:=
 match len,cap with
 |.int .i64 l,.int .i64 c=>if 0<=l&&decide (l<=c)&&decide (bytes*c<=140737488355328) then some l.toNat else none
 |_,_=>none
def fo(sz bytes:Nat)(z:List AV)(len cap:AV)(h:ag):Option (AV×ag):=
 match zw bytes len cap with
 |some n=>some (.slice h.next 0 n sz,h.alloc (.cells (jL z n)))
 |none=>none
inductive Oa where
 |str|map
def oN(i:Oa)(x:AV)(h:ag):Option (AV×ag):=
 match i,x with
 |.str,.str s=>some (.ptr h.next 0,h.alloc (.ES s 0))
 |.map,.kX=>some (.ptr h.next 0,h.alloc (.ij none 0 [] 0))
 |.map,.map m=>(match h.get m with
  |some (.map _ ck)=>some (.ptr h.next 0,h.alloc (.ij (some m) ck [] ck))
  |_=>none)
 |_,_=>none
def nG(n:Nat):List Entry->Option Entry
 |[]=>none
 |e :: es=>if e.2.2=n then some e else nG n es
def wu(es:List Entry)(since:Nat)(seen:List Nat):List (Option Entry):=
 let left:=es.filter fun e=>!seen.contains e.2.2
 let old:=left.filter fun e=>decide (e.2.2<since)
 let new:=left.filter fun e=>decide (e.2.2>=since)
 (if old.isEmpty then [none] else [])++(old++new).map some
def Ob(r m since:Nat)(seen:List Nat)(ck:Nat)(h:ag):Option Entry->AV×ag
 |some e=>(.tuple [.bool true,e.1,e.2.1],h.set r (.ij (some m) since (seen++[e.2.2]) ck))
 |none=>(.tuple [.bool false],h)
def Ao(isString:Bool)(x:AV)(h:ag):Option (List (AV×ag)):=
 match x with
 |.ptr r 0=>(match h.get r,isString with
  |some (.ES s pos),true=>
   if pos<s.length then
    some [(.tuple [.bool true,.int .i64 pos,.int .i32 (Utf8.decode ⟨s.toArray⟩ pos).1],h.set r (.ES s (pos+(Utf8.decode ⟨s.toArray⟩ pos).2)))]
   else some [(.tuple [.bool false],h)]
  |some (.ij none _ _ _),false=>some [(.tuple [.bool false],h)]
  |some (.ij (some m) since seen last),false=>(match h.get m with
   |some (.map es ck)=>
    if !seen.isEmpty&&!es.isEmpty&&es.all (fun e=>decide (e.2.2>=last)) then none else
    match wu es since seen with
    |[]=>none
    |c :: cs=>some ((c :: cs).map (Ob r m since seen ck h))
   |_=>none)
  |_,_=>none)
 |_=>none
def wv(x:AV)(h:ag):Option AV:=
 match x with
 |.ptr r 0=>(match h.get r with
  |some (.ij (some m) _ seen Qc)=>(match seen.getLast?,h.get m with
   |some Qg,some (.map es ck)=>
    if ck=Qc then (match nG Qg es with|some e=>some (.tuple [e.1,e.2.1])|none=>none) else none
   |_,_=>none)
  |_=>none)
 |_=>none
def Ev(a:TypeId)(z x:AV):Option AV:=
 match x with
 |.tc=>some (.tuple [z,.bool false])
 |.iface t v=>some (if t=a then .tuple [v,.bool true] else .tuple [z,.bool false])
 |_=>none
def bY(x:AV)(i:Nat):Option AV:=match x with|.tuple vs=>vs[i]?|_=>none
def TL(P:Program)(e:Option TypeId):Option (Nat×Nat):=
 match e with
 |none=>none
 |some e=>match rz P e,TG P e with
  |some s,some b=>if 0<s&&decide (0<b) then some (s,b) else none
  |_,_=>none
def ET(P:Program)(t:TypeId):Option (Nat×Nat):=TL P (Qd P t)
def iaI(P:Program)(t:TypeId):Option IaK:=
 match P.underlying t with
 |some (.array len e)=>(match rz P e with|some s=>some (.arr len s)|none=>none)
 |_=>(match ET P t with|some o=>some (.sl o.1)|none=>none)
def EU(P:Program)(t:TypeId):Option (Nat×Nat×List AV):=
 match ET P t,Qd P t with
 |some (s,b),some e=>(match oM P e with
  |some z=>if z.length=s then some (s,b,z) else none
  |none=>none)
 |_,_=>none
def Qh(EW:List (Nat×Nat)):List Nat->Option (List (Nat×Nat))
 |[]=>some []
 |i :: is=>match EW[i]?,Qh EW is with
  |some p,some ps=>some (p :: ps)
  |_,_=>none
def Wp(P:Program)(fs:List Field):Option (List (Nat×Nat)):=fs.mapM fun f=>(P.info? f.type).map fun i=>(f.offset,i.size)
def J3(P:Program)(t:TypeId)(is:List Nat):Option (List AV×List (Nat×Nat)):=
 match P.underlying t with
 |some (.struct fs)=>(match CQ P t,Wp P fs.toList with
  |some z,some pl=>(match Qh pl is with|some ps=>if bE z.eN then some (z.eN,ps) else none|none=>none)
  |_,_=>none)
 |some (.array _ e)=>(match CQ P t,P.info? e with
  |some z,some ie=>if bE z.eN then some (z.eN,is.map fun i=>(i*ie.size,ie.size)) else none
  |_,_=>none)
 |_=>none
def Wq(P:Program)(t:TypeId)(len:Nat)(is:List Nat):Option (Nat×List AV×List (Nat×Nat)):=
 match EU P t with
 |some (s,_,z)=>if len*s<=65536 then some (s,jL z len,is.map fun i=>(i*s,s)) else none
 |none=>none
def faI(P:Program)(t:TypeId)(i:Nat):Option Nat:=
 match JX P t i with
 |some f=>(match rz P f.type with|some s=>if s=0 then none else some f.offset|none=>none)
 |none=>none
def J4(P:Program)(t:TypeId)(i:Nat):Option (Option Nat×Nat):=
 match JX P t i with
 |some f=>(match yV P f.type with|some r=>some (r,f.offset)|none=>none)
 |none=>none
def J5(P:Program)(t:TypeId):Option (Option Nat):=
 match P.underlying t with
 |some .string=>some none
 |some (.slice e)=>(match rz P e with|some s=>some (some s)|none=>none)
 |_=>none
inductive aag where
 |str|arr (len n:Nat) (r:Option Nat)
def Wr(P:Program)(t:TypeId):Option aag:=
 match P.underlying t with
 |some .string=>some .str
 |some (.array len e)=>(match rz P e,yV P e with|some n,some r=>some (.arr len n r)|_,_=>none)
 |_=>none
def TM(i:aag)(x y:AV):Option AV:=
 match i with
 |.str=>mY x y
 |.arr len n r=>Qf len n r x y
def uy(P:Program)(t:TypeId):Option (TypeDesc×AV):=
 match LC P t with
 |some (d,e)=>(match CQ P e with|some z=>some (d,z)|none=>none)
 |none=>none
def Ws(P:Program)(t:TypeId):Option aaf:=
 match P.underlying t with
 |some .string=>some .str
 |some (.slice _)=>some .slice
 |some (.map _ _)=>some .map
 |some (.array n _)=>some (.array n)
 |_=>none
def EX(P:Program)(src dst:TypeId):Option TK:=
 match P.underlying src,P.underlying dst with
 |some (.int _),some (.int k)=>some (.int k)
 |some .string,some .string=>some .str
 |some .string,some (.slice e)=>(match P.underlying e,rz P e with|some (.int .u8),some 1=>some .bytes|_,_=>none)
 |some (.slice e),some .string=>(match P.underlying e with|some (.int .u8)=>some .string|_=>none)
 |_,_=>none
def Oc(P:Program)(t:TypeId):Option Oa:=
 match P.underlying t with
 |some .string=>some .str
 |some (.map _ _)=>some .map
 |_=>none
def EY(P:Program)(t:TypeId):Option Unit:=
 match P.underlying t with
 |some (.interface _)=>none
 |some _=>some ()
 |none=>none
def Ew(P:Program)(a:TypeId)(ok:Bool):Option AV:=
 match ok,P.underlying a with
 |true,some (.interface _)=>none
 |true,some _=>CQ P a
 |_,_=>none
def Ey(P:Program)(t u:TypeId):Option (Nat×Nat):=
 match P.underlying u,EU P t with
 |some (.slice _),some (s,b,_)=>some (s,b)
 |some .string,some (s,b,_)=>some (s,b)
 |_,_=>none
abbrev Ex:=Program->(Operand->AV)->ag->(AV->ag->Bool)->Bool
def mC(h:ag)(K:AV->ag->Bool)(o:Option AV):Bool:=af o fun v=>K v h
def CR(K:AV->ag->Bool)(o:Option ag):Bool:=af o fun h=>K bK h
def yX(K:AV->ag->Bool)(o:Option (AV×ag)):Bool:=af o fun p=>K p.1 p.2
def Qi(t:TypeId):Ex:=fun P _ h K=>af (oM P t) fun z=>K (.ptr h.next 0) (h.alloc (.cells z))
def Zo(x:Operand):Ex:=fun _ ρ h K=>af (eR (ρ x)) fun cs=>K (.ptr h.next 0) (h.alloc (.cells cs))
def Qj(t:TypeId)(ps:List (Nat×Operand)):Ex:=fun P ρ h K=>af (J3 P t (ps.map (·.1))) fun i=>mC h K (jM i.1 i.2 (ps.map fun p=>ρ p.2))
def uz(t:TypeId)(n:Nat)(ps:List (Nat×Operand)):Ex:=fun P ρ h K=>
 af (Wq P t n (ps.map (·.1))) fun i=>af (ig i.2.1 i.2.2 (ps.map fun p=>ρ p.2)) fun cs=>K (.slice h.next 0 n i.1) (h.alloc (.cells cs))
def TN(op:BinOp)(t:TypeId)(x y:Operand):Ex:=fun P ρ h K=>
 match op with
 |.eql=>af (P.underlying t) fun d=>mC h K (jU d (ρ x) (ρ y))
 |.neq=>af (P.underlying t) fun d=>mC h K (sG d (ρ x) (ρ y))
 |op=>mC h K (aL op (ρ x) (ρ y))
def EZ(fn:Fn)(first cap:List Operand):Ex:=fun _ ρ h K=>match fn with
 |.func f=>K (.func f (first.map ρ) (cap.map ρ)) h
 |_=>false
def IG(r:Option Operand):Ex:=fun _ _ h K=>match r with
 |none=>K (.map h.next) (h.alloc (.map [] 0))
 |some _=>false
def CS(t:TypeId)(l c:Operand):Ex:=fun P ρ h K=>af (EU P t) fun i=>yX K (fo i.1 i.2.1 i.2.2 (ρ l) (ρ c) h)
def J6(t:TypeId)(x:Operand)(lo hi mx:Option Operand):Ex:=fun P ρ h K=>match mx with
 |none=>af (J5 P t) fun i=>mC h K (jr i (ρ x) (lo.map ρ) (hi.map ρ))
 |some _=>false
def LD(t:TypeId)(x i:Operand)(ok:Bool):Ex:=fun P ρ h K=>af (uy P t) fun d=>mC h K (dc d.1 d.2 ok (ρ x) (ρ i) h)
abbrev Blt:=List TypeId->List AV->Program->ag->(AV->ag->Bool)->Bool
def BJ:Blt:=fun ts xs P h K=>match ts,xs with
 |[t,u],[s,x]=>af (Ey P t u) fun i=>yX K (cz i.1 i.2 s x h)
 |_,_=>false
def J7:Blt:=fun ts xs P h K=>match ts,xs with
 |t :: _,[d,s]=>af (ET P t) fun i=>yX K (TI i.1 d s h)
 |_,_=>false
def Od:Blt:=fun ts xs P h K=>match ts,xs with
 |t :: _,[x]=>af (Ws P t) fun i=>mC h K (b6 i x h)
 |_,_=>false
def BK:Blt:=fun ts xs P h K=>match ts,xs with
 |t :: _,[m,k]=>af (LC P t) fun i=>CR K (J1 i.1 m k h)
 |_,_=>false
def xU(mx:Bool):Blt:=fun _ xs _ h K=>match xs with
 |x :: xs=>mC h K (tL mx x xs)
 |_=>false
def Oe:Blt:=fun _ _ _ _ _=>false
def II:Builtin->Blt
 |.append=>BJ
 |.copy=>J7
 |.len=>Od
 |.delete=>BK
 |.min=>xU false
 |.max=>xU true
 |_=>Oe
def wz(c:Call):Ex:=fun P ρ h K=>match c.callee with
 |.builtin b=>II b c.argTypes.toList (c.args.toList.map ρ) P h K
 |_=>false
def iW:Op->Ex
 |.move x=>fun _ ρ h K=>K (ρ x) h
 |.assign x=>fun _ ρ h K=>K (ρ x) h
 |.pick c a b=>fun _ ρ h K=>mC h K (Qe (ρ c) (ρ a) (ρ b))
 |.alloc t=>Qi t
 |.box _ x=>Zo x
 |.build t ps=>Qj t ps.toList
 |.buildSlice t n ps=>uz t n ps.toList
 |.load t a=>fun P ρ h K=>af (yV P t) fun i=>mC h K (ah i (ρ a) h)
 |.store t a x=>fun P ρ h K=>af (rz P t) fun n=>CR K (bh n (ρ a) (ρ x) h)
 |.nilCheck x=>fun _ ρ h K=>mC h K (bS (ρ x))
 |.binOp op t x y _=>TN op t x y
 |.unOp op _ x=>fun _ ρ h K=>mC h K (kM op (ρ x))
 |.convert s d x=>fun P ρ h K=>af (EX P s d) fun i=>yX K (jK i (ρ x) h)
 |.makeInterface t x=>fun P ρ h K=>af (EY P t) fun _=>K (.iface t (ρ x)) h
 |.makeFunc fn first cap=>EZ fn first.toList cap.toList
 |.makeMap _ r=>IG r
 |.makeSlice t l c=>CS t l c
 |.slice t x lo hi mx=>J6 t x lo hi mx
 |.fieldAddr t x i=>fun P ρ h K=>af (faI P t i) fun o=>mC h K (bL o (ρ x))
 |.field t x i=>fun P ρ h K=>af (J4 P t i) fun o=>mC h K (JZ o.1 o.2 (ρ x))
 |.indexAddr t x i=>fun P ρ h K=>af (iaI P t) fun o=>mC h K (iaV o (ρ x) (ρ i))
 |.index t x i=>fun P ρ h K=>af (Wr P t) fun o=>mC h K (TM o (ρ x) (ρ i))
 |.lookup t x i ok=>LD t x i ok
 |.mapUpdate t m k x=>fun P ρ h K=>af (LC P t) fun o=>CR K (fT o.1 (ρ m) (ρ k) (ρ x) h)
 |.insert t m k x=>fun P ρ h K=>af (LC P t) fun o=>CR K (fT o.1 (ρ m) (ρ k) (ρ x) h)
 |.mapEntry t m k=>fun P ρ h K=>af (uy P t) fun o=>yX K (iR o.1 o.2 (ρ m) (ρ k) h)
 |.entryStore _ m s x=>fun _ ρ h K=>CR K (fX (ρ m) (ρ s) (ρ x) h)
 |.range t x=>fun P ρ h K=>af (Oc P t) fun o=>yX K (oN o (ρ x) h)
 |.entry x=>fun _ ρ h K=>mC h K (wv (ρ x) h)
 |.extract t i=>fun _ ρ h K=>mC h K (bY (ρ t) i)
 |.typeAssert x _ a ok=>fun P ρ h K=>af (Ew P a ok) fun z=>mC h K (Ev a z (ρ x))
 |.call c=>wz c
 |_=>fun _ _ _ _=>false
inductive Kind where
 |pure|read|alloc|NO
 deriving DecidableEq
def gi:Callee->Kind
 |.builtin .len=>.read
 |.builtin .min=>.pure
 |.builtin .max=>.pure
 |_=>.NO
def gj:Op->Kind
 |.move _|.assign _|.pick ..|.build ..|.nilCheck _|.binOp ..|.unOp ..|.makeInterface ..|.makeFunc ..|.slice ..|.fieldAddr ..|.field ..|.indexAddr ..|.index ..|.extract ..|.typeAssert ..=>.pure
 |.load ..|.lookup ..=>.read
 |.alloc _|.box ..|.buildSlice ..|.makeMap ..|.makeSlice ..=>.alloc
 |.call c=>gi c.callee
 |_=>.NO
inductive AX where
 |normal
 |exit (id:Nat)
 |ret
 |panic (v:AV)
inductive Out where
 |ret (v:AV)
 |panic (v:AV)
structure su where
 f:FuncId
 args:List AV
 cap:List AV
abbrev Env:=Nat->AV
def aa(env:Env)(d:Nat)(v:AV):Env:=fun j=>@Bool.rec (fun _=>AV) (env j) v (beq j d)
structure St where
 env:Env
 n:Nat
 defs:List su
 h:ag
def oC(env:Env)(n:Nat)(dst:Option Tmp)(v:AV):Env:=
 match dst with
 |some d=>if d<n then aa env d v else env
 |none=>env
def jF(env:Env)(n:Nat)(dst:Option Tmp)(v:AV)(k:Env->Bool):Bool:=
 match dst with
 |some d=>@Bool.rec (fun _=>Bool) false (k (aa env d v)) (ble (d+1) n)
 |none=>k env
def St.aai(s:St)(h:ag)(dst:Option Tmp)(v:AV):St:=⟨oC s.env s.n dst v,s.n,s.defs,h⟩
def evalArg(env:Env):Operand->AV
 |.tmp t=>env t
 |.const v=>ofConst v
 |.global _=>.undef
 |.func f=>.func f [] []
inductive R where
 |ok (v:AV) (defs:List su) (h:ag)
 |panic (v:AV) (h:ag)
inductive RS where
 |ok (s:St)
 |panic (v:AV) (s:St)
abbrev lI:=FuncId->List AV->ag->(Out->ag->Bool)->Bool
def j9(ops:List Oper)(o:Oper)(env:Env):Option Bool:=
 match o.guard with
 |none=>some true
 |some (j,want)=>
  match ops[j]? with
  |some g=>(match g.dst with
   |some d=>(match env d with
    |.bool b=>some (b==want)
    |.tuple _=>some false
    |_=>none)
   |none=>none)
  |none=>none
abbrev Stp:=Program->lI->Env->List su->ag->(R->Bool)->Bool
def acN(defs:List su)(K:R->Bool):Out->ag->Bool
 |.ret v,h'=>K (.ok v defs h')
 |.panic v,h'=>K (.panic v h')
def sI(op:Op):Stp:=fun P _ env defs h K=>iW op P (evalArg env) h fun v h'=>K (.ok v defs h')
def Ez(f:Operand)(args:List Operand):Stp:=fun _ call env defs h K=>match evalArg env f with
 |.func g first cap=>call g (first++(args.map (evalArg env)++cap)) h (acN defs K)
 |_=>false
def zy(c:Call):Stp:=match c.callee with
 |.value f=>Ez f c.args.toList
 |_=>sI (.call c)
def Ap(c:Call):Stp:=fun _ _ env defs h K=>match c.callee with
 |.value f=>(match evalArg env f with
  |.func g first cap=>K (.ok bK (⟨g,first++c.args.toList.map (evalArg env),cap⟩ :: defs) h)
  |_=>false)
 |_=>false
def Aq(x:Operand):Stp:=fun _ _ env _ h K=>match evalArg env x with
 |.iface t v=>K (.panic (.iface t v) h)
 |_=>false
def nX(defs:List su)(K:R->Bool):List (AV×ag)->Bool
 |[]=>true
 |p :: ps=>K (.ok p.1 defs p.2)&&nX defs K ps
def J8(x:Operand)(b:Bool):Stp:=fun _ _ env defs h K=>af (Ao b (evalArg env x) h) (nX defs K)
def kG:Op->Stp
 |.call c=>zy c
 |.defer c=>Ap c
 |.panic x=>Aq x
 |.next x b=>J8 x b
 |op=>sI op
def pE(P:Program)(call:lI)(ops:List Oper):List Oper->St->(RS->Bool)->Bool
 |[],s,K=>K (.ok s)
 |o :: rest,⟨env,n,defs,h⟩,K=>
  match j9 ops o env with
  |some true=>kG o.op P call env defs h fun
   |.ok v defs h=>jF env n o.dst v fun env=>pE P call ops rest ⟨env,n,defs,h⟩ K
   |.panic v h=>K (.panic v ⟨env,n,defs,h⟩)
  |some false=>jF env n o.dst bK fun env=>pE P call ops rest ⟨env,n,defs,h⟩ K
  |none=>false
def qi(acc:List Nat):List Edge->Nat
 |[]=>0
 |e :: es=>if Region.binds .any e then (2 ^ e.on ||| acc.getD e.on 0) ||| qi acc es else qi acc es
def qj:List Oper->List Nat->List Nat
 |[],acc=>acc
 |o :: os,acc=>qj os (acc++[qi acc o.after.toList])
def pL(ops:List Oper):List Nat:=qj ops []
def EA(ms:List Nat)(i j:Nat):Bool:=(ms.getD i 0).testBit j
def vp(o:Oper):Bool:=match gj o.op with|.NO=>true|_=>false
def xW:List Oper->Nat->List (Nat×Oper)
 |[],_=>[]
 |o :: os,i=>(i,o) :: xW os (i+1)
def J9:List (Nat×Oper)->List Nat
 |[]=>[]
 |p :: ps=>if vp p.2 then p.1 :: J9 ps else J9 ps
def Ar(ms:List Nat)(i:Nat):List Nat->Nat
 |[]=>0
 |j :: js=>if EA ms i j then Ar ms i js+1 else Ar ms i js
def EB(ms:List Nat)(Hw:List Nat)(L:List (Nat×Oper)):Nat->Nat->List (Nat×Oper)
 |0,k=>L.filter fun p=>!vp p.2&&Ar ms p.1 Hw==k
 |n+1,k=>(L.filter fun p=>!vp p.2&&Ar ms p.1 Hw==k)++((L.filter fun p=>vp p.2&&Ar ms p.1 Hw==k)++EB ms Hw L n (k+1))
def td(ops:List Oper)(o:Oper):List Tmp:=
 (o.op.operands.toList.filterMap fun|.tmp t=>some t|_=>none) ++
 (match o.guard with
  |some (g,_)=>(match ops[g]? with|some p=>p.dst.toList|none=>[])
  |none=>[])
def Of(ops:List Oper)(ms:List Nat)(a b:Nat×Oper):Bool:=
 a.1 != b.1&&(!(EA ms a.1 b.1)&&((!vp a.2||EA ms b.1 a.1) &&
 ((match a.2.dst with
   |some d=>(match b.2.dst with|some e=>d != e|none=>true)&&(!((td ops b.2).contains d)||EA ms b.1 a.1)
   |none=>true) &&
  (match b.2.dst with
   |some d=>!((td ops a.2).contains d)||EA ms b.1 a.1
   |none=>true))))
def EC(ops:List Oper)(ms:List Nat):List (Nat×Oper)->Bool
 |[]=>true
 |p :: ps=>ps.all (Of ops ms p)&&EC ops ms ps
def ED(L:List (Nat×Oper)):Nat->Bool
 |0=>true
 |n+1=>L.any (fun p=>p.1==n)&&ED L n
structure aak where
 ms:List Nat
 L:List (Nat×Oper)
def TO(ops:List Oper)(ms:List Nat):List (Nat×Oper):=EB ms (J9 (xW ops 0)) (xW ops 0) (J9 (xW ops 0)).length 0
def EE:List Oper->Nat->Bool
 |[],_=>true
 |o :: os,i=>o.after.toList.all (fun e=>!Region.binds .any e||decide (e.on<i))&&EE os (i+1)
def LF(ops:List Oper):Option aak:=
 if EE ops 0&&EC ops (pL ops) (TO ops (pL ops))&&ED (TO ops (pL ops)) ops.length then some ⟨pL ops,TO ops (pL ops)⟩ else none
structure Read where
 i:Nat
 op:Op
 env:Env
 v:AV
def sameAt(P:Program)(op:Op)(env:Env)(v:AV)(h:ag):Bool:=iW op P (evalArg env) h fun v' _=>AV.beq v' v
def kT(P:Program)(ms:List Nat)(i:Nat)(h:ag):List Read->Bool
 |[]=>true
 |r :: rs=>if EA ms i r.i then kT P ms i h rs else sameAt P r.op r.env r.v h&&kT P ms i h rs
def gG(P:Program)(call:lI)(ops:List Oper)(ms:List Nat):List (Nat×Oper)->List Read->St->(St->Bool)->Bool
 |[],_,s,K=>K s
 |p :: rest,lg,⟨env,n,defs,h⟩,K=>
  match j9 ops p.2 env with
  |some true=>
   match gj p.2.op with
   |.pure=>iW p.2.op P (evalArg env) h fun v _=>jF env n p.2.dst v fun fH=>gG P call ops ms rest lg ⟨fH,n,defs,h⟩ K
   |.read=>iW p.2.op P (evalArg env) h fun v _=>jF env n p.2.dst v fun fH=>gG P call ops ms rest (⟨p.1,p.2.op,env,v⟩ :: lg) ⟨fH,n,defs,h⟩ K
   |.alloc=>iW p.2.op P (evalArg env) h fun v h'=>jF env n p.2.dst v fun fH=>gG P call ops ms rest lg ⟨fH,n,defs,h'⟩ K
   |.NO=>
    kG p.2.op P call env defs h fun
     |.ok v lJ h'=>if kT P ms p.1 h' lg then jF env n p.2.dst v fun fH=>gG P call ops ms rest lg ⟨fH,n,lJ,h'⟩ K else false
     |.panic _ _=>false
  |some false=>jF env n p.2.dst bK fun fH=>gG P call ops ms rest lg ⟨fH,n,defs,h⟩ K
  |none=>false
def aI:List AV->Env
 |[],_=>bK
 |v :: _,0=>v
 |_ :: vs,i+1=>aI vs i
def Og(env:Env):Nat->Nat->List AV
 |0,_=>[]
 |n+1,i=>env i :: Og env n (i+1)
def St.TF:St->St
 |⟨env,n,defs,h⟩=>⟨aI (Og env n 0),n,defs,h⟩
def iter(f:St->(AX->St->Bool)->Bool)(K:AX->St->Bool):Nat->St->Bool
 |0,_=>false
 |n+1,s=>f s fun
  |.normal,s'=>iter f K n s'.TF
  |e,s'=>K e s'
def evalCode(P:Program)(call:lI)(rounds:Nat):Code->St->(AX->St->Bool)->Bool
 |.skip,s,K=>K .normal s
 |.region _ ops draw,s,K=>
  if draw then af (LF ops.toList) fun p=>gG P call ops.toList p.ms p.L [] s fun s'=>K .normal s'
  else pE P call ops.toList ops.toList s fun
   |.ok s'=>K .normal s'
   |.panic v s'=>K (.panic v) s'
 |.seq a b,s,K=>evalCode P call rounds a s fun
  |.normal,s'=>evalCode P call rounds b s' K
  |e,s'=>K e s'
 |.cond c a b,s,K=>
  match evalArg s.env c with
  |.bool true=>evalCode P call rounds a s K
  |.bool false=>evalCode P call rounds b s K
  |_=>false
 |.block id c,s,K=>evalCode P call rounds c s fun
  |.exit Ro,s'=>if Ro=id then K .normal s' else K (.exit Ro) s'
  |e,s'=>K e s'
 |.loop c,s,K=>iter (evalCode P call rounds c) K rounds s
 |.exit id,s,K=>K (.exit id) s
 |.ret,s,K=>K .ret s
 |_,_,_=>false
abbrev CT:=FuncId->Option (List AV->ag->(Out->ag->Bool)->Bool)
abbrev tg:=FuncId->Option (List AV->Option AV->ag->(Option AV->ag->Bool)->Bool)
def EF(P:Program)(s:St):ResultVar->Option AV
 |.tmp t=>some (s.env t)
 |.cell a t=>(match yV P t with|some i=>ah i (s.env a) s.h|none=>none)
def dV(P:Program)(s:St):List ResultVar->Option (List AV)
 |[]=>some []
 |r :: rs=>match EF P s r,dV P s rs with
  |some v,some vs=>some (v :: vs)
  |_,_=>none
def oneOf:List AV->AV
 |[v]=>v
 |vs=>.tuple vs
def leave(P:Program)(D:tg)(rs:List ResultVar)(K:Out->ag->Bool):List su->Option AV->St->Bool
 |[],none,s=>af (dV P s rs) fun vs=>K (.ret (oneOf vs)) s.h
 |[],some v,s=>K (.panic v) s.h
 |d :: ds,LG,s=>
  match D d.f with
  |some g=>g (d.args++d.cap) LG s.h fun vJ h'=>leave P D rs K ds vJ ⟨s.env,s.n,s.defs,h'⟩
  |none=>false
def bp(P:Program)(D:tg)(rs:List ResultVar)(K:Out->ag->Bool):AX->St->Bool
 |.normal,s'=>leave P D rs K s'.defs none s'
 |.ret,s'=>leave P D rs K s'.defs none s'
 |.panic v,s'=>leave P D rs K s'.defs (some v) s'
 |.exit _,_=>false
def TQ(P:Program)(D:tg)(call:lI)(rounds:Nat)(fn:Func)(args:List AV)(h:ag)(K:Out->ag->Bool):Bool:=
 match fn.body with
 |none=>false
 |some c=>evalCode P call rounds c ⟨aI args,fn.ntmps,[],h⟩ (bp P D fn.results.toList K)
def b8(P:Program)(F:CT)(D:tg):Nat->FuncId->List AV->ag->(Out->ag->Bool)->Bool
 |0,_,_,_,_=>false
 |n+1,f,args,h,K=>
  match F f with
  |some g=>g args h K
  |none=>
   match P.funcs[f]? with
   |none=>false
   |some fn=>if decide (args.length<=fn.ntmps)&&fn.name != "runtime.NumGoroutine" then TQ P D (b8 P F D n) n fn args h K else false
mutual
def E0:Code->Nat
 |.skip=>1
 |.region _ _ _=>1
 |.seq a b=>E0 a*E0 b
 |.cond _ a b=>E0 a+E0 b
 |.block id c=>E0 c+xX id c
 |_=>0
def xX(id:Nat):Code->Nat
 |.seq a b=>xX id a+E0 a*xX id b
 |.cond _ a b=>xX id a+xX id b
 |.block _ c=>xX id c
 |.exit i=>@Bool.rec (fun _=>Nat) 0 1 (beq i id)
 |_=>0
end
def E3:Code->Nat
 |.region _ ops _=>ops.toList.length
 |.seq a b=>E3 a+E3 b
 |.cond _ a b=>E3 a+E3 b+1
 |.block _ c=>E3 c
 |.loop c=>E3 c+10
 |_=>1
def LH:List Oper->Bool
 |[]=>false
 |o :: os=>match o.guard with|some _=>true|none=>LH os
def TR:Code->Bool
 |.cond _ _ _=>true
 |.seq a _=>TR a
 |_=>false
def aal(a b:Code):Bool:=
 @Bool.rec (fun _=>Bool) false (match a with
  |.region _ ops _=>LH ops.toList&&!TR b
  |a=>ble 2 (E0 a)) (ble 12 (E3 b))
end
end Go.AM