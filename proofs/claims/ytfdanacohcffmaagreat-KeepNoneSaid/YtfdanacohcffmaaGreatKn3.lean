/- The abstract machine: a deterministic evaluator over the model's Code. Conditions: none; definitions alone. -/
import Derived.Test.YtfdanacohcffmaaGreatKn1
import Derived.Calls
import GoSem.Core.Utf8
import Derived.Orders
set_option linter.unusedVariables false
namespace Go.AM
open Go
noncomputable section
inductive AV where
  | undef
  | bool (b : Bool)
  | int (k : IntKind) (n : Int)
  | str (s : List UInt8)
  | nilp
  | ptr (b off : Nat)
  | iptr (cs : List AV) (off : Nat)
  | nils
  | slice (b off len sz : Nat)
  | islice (cs : List AV) (off len sz : Nat)
  | nilm
  | map (b : Nat)
  | nilf
  | func (f : FuncId) (first cap : List AV)
  | nili
  | iface (t : TypeId) (v : AV)
  | agg (cs : List AV)
  | tuple (vs : List AV)
  deriving Inhabited
mutual
def AV.beq : AV → AV → Bool
  | .undef, .undef => true
  | .bool a, .bool b => a == b
  | .int k a, .int j b => decide (k = j) && decide (a = b)
  | .str a, .str b => decide (a = b)
  | .nilp, .nilp => true
  | .ptr a i, .ptr b j => a == b && i == j
  | .iptr a i, .iptr b j => AV.beqL a b && i == j
  | .nils, .nils => true
  | .slice a i l s, .slice b j m t => a == b && i == j && l == m && s == t
  | .islice a i l s, .islice b j m t => AV.beqL a b && i == j && l == m && s == t
  | .nilm, .nilm => true
  | .map a, .map b => a == b
  | .nilf, .nilf => true
  | .func f a b, .func g c d => f == g && AV.beqL a c && AV.beqL b d
  | .nili, .nili => true
  | .iface t a, .iface u b => t == u && AV.beq a b
  | .agg a, .agg b => AV.beqL a b
  | .tuple a, .tuple b => AV.beqL a b
  | _, _ => false
def AV.beqL : List AV → List AV → Bool
  | [], [] => true
  | a :: as, b :: bs => AV.beq a b && AV.beqL as bs
  | _, _ => false
end
inductive AObj where
  | dead
  | cells (cs : List AV)
  | map (es : List (AV × AV × Nat)) (clock : Nat)
  | siter (s : List UInt8) (pos : Nat)
  | miter (m : Option Nat) (since : Nat) (seen : List Nat) (stepped : Nat)
  | box (v : AV)                                
  deriving Inhabited
inductive Trie (α : Type) where
  | leaf
  | node (v : Option α) (l r : Trie α)
  deriving Inhabited
def Trie.get {α : Type} : Trie α → Nat → Option α
  | .leaf, _ => none
  | .node v l r, n => match n with
    | 0 => v
    | m + 1 => if m % 2 = 0 then l.get (m / 2) else r.get (m / 2)
def Trie.val {α : Type} : Trie α → Option α
  | .leaf => none
  | .node v _ _ => v
def Trie.left {α : Type} : Trie α → Trie α
  | .leaf => .leaf
  | .node _ l _ => l
def Trie.right {α : Type} : Trie α → Trie α
  | .leaf => .leaf
  | .node _ _ r => r
def Trie.setF {α : Type} (o : α) : Nat → Trie α → Nat → Trie α
  | 0, t, _ => .node (some o) t.left t.right
  | f + 1, t, n => match n with
    | 0 => .node (some o) t.left t.right
    | m + 1 => if m % 2 = 0 then .node t.val (setF o f t.left (m / 2)) t.right else .node t.val t.left (setF o f t.right (m / 2))
def Trie.set {α : Type} (t : Trie α) (n : Nat) (o : α) : Trie α := Trie.setF o n t n
structure Heap where
  next : Nat
  tab : Trie AObj
  deriving Inhabited
def Heap.get (h : Heap) (b : Nat) : Option AObj := h.tab.get b
def Heap.set (h : Heap) (b : Nat) (o : AObj) : Heap := ⟨h.next, h.tab.set b o⟩
def Heap.alloc (h : Heap) (o : AObj) : Heap := ⟨h.next + 1, h.tab.set h.next o⟩
def Heap.empty : Heap := ⟨0, .leaf⟩
def bindO {α : Type} (o : Option α) (f : α → Bool) : Bool :=
  match o with
  | some a => f a
  | none => false
def ofScalar : Value → AV
  | .bool b => .bool b
  | .int k n => .int k n
  | .string s => .str s.data.toList
  | .pointer none => .nilp
  | .slice none 0 0 => .nils
  | .map none => .nilm
  | .nilFunc => .nilf
  | .nilIface => .nili
  | _ => .undef
def ofConst : Value → AV
  | .agg cs => .agg (cs.toList.map ofScalar)
  | v => ofScalar v
def AV.cellsL : AV → List AV
  | .agg cs => cs
  | v => [v]
def noV : AV := .tuple []
def AV.one : AV → Bool
  | .agg _ | .tuple _ | .undef => false
  | _ => true
def oneAll : List AV → Bool
  | [] => true
  | c :: cs => c.one && oneAll cs
section
variable (P : Program)
def sizeT (t : TypeId) : Option Nat := match P.info? t with | some i => some i.size | none => none
def bytesT (t : TypeId) : Option Nat := match P.info? t with | some i => some i.bytes | none => none
def zeroT (t : TypeId) : Option AV := match P.info? t with
  | some i => (match i.zero with | some z => some (ofConst z) | none => none)
  | none => none
def readT (t : TypeId) : Option (Option Nat) := match P.underlying t with
  | some (.struct _) | some (.array _ _) => (match sizeT P t with | some n => some (some n) | none => none)
  | some _ => some none
  | none => none
def elemT (t : TypeId) : Option TypeId := match P.underlying t with | some (.slice e) => some e | _ => none
def fieldT (t : TypeId) (i : Nat) : Option Field := match P.underlying t with | some (.struct fs) => fs[i]? | _ => none
def mapT (t : TypeId) : Option (TypeDesc × TypeId) := match P.underlying t with
  | some (.map k e) => (match P.underlying k with | some d => some (d, e) | none => none)
  | _ => none
end
def zeroCellsI (P : Program) (t : TypeId) : Option (List AV) :=
  match zeroT P t with
  | some z => if oneAll z.cellsL then some z.cellsL else none
  | none => none
def partS (i : Option Nat) (cs : List AV) (off : Nat) : Option AV :=
  match i with
  | none => cs[off]?
  | some n => if off + n ≤ cs.length then some (.agg ((cs.drop off).take n)) else none
def putL {α : Type} : List α → Nat → List α → List α
  | cs, _, [] => cs
  | cs, off, v :: vs => putL (cs.set off v) (off + 1) vs
def boxS (x : AV) : Option (List AV) := if oneAll x.cellsL then some x.cellsL else none
def pickS (c a b : AV) : Option AV :=
  match c with
  | .bool t => some (if t then a else b)
  | _ => none
def loadS (i : Option Nat) (x : AV) (h : Heap) : Option AV :=
  match x with
  | .ptr b off => (match h.get b with | some (.cells cs) => partS i cs off | _ => none)
  | .iptr cs off => partS i cs off
  | _ => none
def storeS (n : Nat) (x v : AV) (h : Heap) : Option Heap :=
  match x with
  | .ptr b off => (match h.get b with
    | some (.cells cs) => if v.cellsL.length = n && oneAll v.cellsL && decide (off + n ≤ cs.length) then some (h.set b (.cells (putL cs off v.cellsL))) else none
    | _ => none)
  | _ => none
def nilCheckS : AV → Option AV
  | .ptr b i => some (.ptr b i)
  | .iptr c i => some (.iptr c i)
  | .func f a b => some (.func f a b)
  | _ => none
def shiftS (right : Bool) (x y : AV) : Option AV :=
  match x, y with
  | .int k a, .int _ b => if b < 0 then none else some (.int k (if right then a.fdiv (2 ^ (min b.toNat k.bits)) else k.wrap (a * 2 ^ (min b.toNat k.bits))))
  | _, _ => none
def bitS (op : BinOp) (x y : AV) : Option AV :=
  match x, y with
  | .int k a, .int k' b =>
    if k = k' then
      match op with
      | .and => some (.int k (k.wrap (BitVec.ofInt k.bits a &&& BitVec.ofInt k.bits b).toNat))
      | .or => some (.int k (k.wrap (BitVec.ofInt k.bits a ||| BitVec.ofInt k.bits b).toNat))
      | .xor => some (.int k (k.wrap (BitVec.ofInt k.bits a ^^^ BitVec.ofInt k.bits b).toNat))
      | _ => none
    else none
  | _, _ => none
def binS (op : BinOp) (x y : AV) : Option AV :=
  match op with
  | .shr => shiftS true x y
  | .shl => shiftS false x y
  | .and => bitS .and x y
  | .or => bitS .or x y
  | .xor => bitS .xor x y
  | op => match x, y with
  | .int k a, .int k' b =>
    if k = k' then
      match op with
      | .add => some (.int k (k.wrap (a + b)))
      | .sub => some (.int k (k.wrap (a - b)))
      | .mul => some (.int k (k.wrap (a * b)))
      | .quo => if b = 0 then none else some (.int k (k.wrap (a.tdiv b)))
      | .rem => if b = 0 then none else some (.int k (a.tmod b))
      | .lss => some (.bool (decide (a < b)))
      | .leq => some (.bool (decide (a ≤ b)))
      | .gtr => some (.bool (decide (a > b)))
      | .geq => some (.bool (decide (a ≥ b)))
      | _ => none
    else none
  | .str a, .str b =>
    match op with
    | .add => if a.length + b.length ≤ 4611686018427387904 then some (.str (a ++ b)) else none
    | .lss => some (.bool (Op.bytesLess a b))
    | .leq => some (.bool (Op.bytesLess a b || a == b))
    | .gtr => some (.bool (!(Op.bytesLess a b || a == b)))
    | .geq => some (.bool (!(Op.bytesLess a b)))
    | _ => none
  | _, _ => none
def eqS (d : TypeDesc) (x y : AV) : Option Bool :=
  match x, y with
  | .int k a, .int k' b => if k = k' then some (a == b) else none
  | .str a, .str b => some (a == b)
  | .bool a, .bool b => (match d with | .bool => some (a == b) | _ => none)
  | .nilp, .nilp => (match d with | .pointer _ => some true | _ => none)
  | .ptr _ _, .nilp | .nilp, .ptr _ _ | .iptr _ _, .nilp | .nilp, .iptr _ _ => (match d with | .pointer _ => some false | _ => none)
  | .nils, .nils => (match d with | .slice _ => some true | _ => none)
  | .slice _ _ _ _, .nils | .nils, .slice _ _ _ _ | .islice _ _ _ _, .nils | .nils, .islice _ _ _ _ => (match d with | .slice _ => some false | _ => none)
  | .nilm, .nilm => (match d with | .map _ _ => some true | _ => none)
  | .map _, .nilm | .nilm, .map _ => (match d with | .map _ _ => some false | _ => none)
  | .nilf, .nilf => (match d with | .func _ _ _ => some true | _ => none)
  | .func _ _ _, .nilf | .nilf, .func _ _ _ => (match d with | .func _ _ _ => some false | _ => none)
  | _, _ => none
def eqV (d : TypeDesc) (x y : AV) : Option AV := match eqS d x y with | some b => some (.bool b) | none => none
def neV (d : TypeDesc) (x y : AV) : Option AV := match eqS d x y with | some b => some (.bool (!b)) | none => none
def unS (op : UnOp) (x : AV) : Option AV :=
  match op, x with
  | .neg, .int k n => some (.int k (k.wrap (0 - n)))
  | .not, .bool b => some (.bool (!b))
  | _, _ => none
def asNat (x : AV) : Option Nat :=
  match x with
  | .int _ n => if 0 ≤ n then some n.toNat else none
  | _ => none
def keyEq (d : TypeDesc) (x y : AV) : Option Bool :=
  match d, x, y with
  | .int _, .int k a, .int k' b => if k = k' then some (a == b) else none
  | .string, .str a, .str b => some (a == b)
  | .bool, .bool a, .bool b => some (a == b)
  | _, _, _ => none
abbrev Entry := AV × AV × Nat
def findA (d : TypeDesc) (k : AV) : List Entry → Nat → Option (Option (Nat × AV))
  | [], _ => some none
  | e :: es, i =>
    match keyEq d k e.1 with
    | some true => some (some (i, e.2.1))
    | some false => findA d k es (i + 1)
    | none => none
def keyOk (d : TypeDesc) (k : AV) : Bool :=
  match d, k with
  | .int _, .int _ _ => true
  | .string, .str _ => true
  | .bool, .bool _ => true
  | _, _ => false
def findK (d : TypeDesc) (k : AV) (es : List Entry) : Option (Option (Nat × AV)) := if keyOk d k then findA d k es 0 else none
def firstS (sz n : Nat) (x : AV) (h : Heap) : Option (List AV) :=
  match x with
  | .nils => if n = 0 then some [] else none
  | .slice b off _ s =>
    if s = sz then (match h.get b with
      | some (.cells cs) => if off + n * sz ≤ cs.length then some ((cs.drop off).take (n * sz)) else none
      | _ => none) else none
  | .islice cs off _ s => if s = sz && decide (off + n * sz ≤ cs.length) then some ((cs.drop off).take (n * sz)) else none
  | .str s => if sz = 1 then some ((s.take n).map fun b => .int .u8 b.toNat) else none
  | _ => none
def lenA : AV → Option Nat
  | .nils => some 0
  | .slice _ _ n _ => some n
  | .islice _ _ n _ => some n
  | .str s => some s.length
  | _ => none
def maxBytes : Nat := 140737488355328
def appendS (sz bytes : Nat) (s x : AV) (h : Heap) : Option (AV × Heap) :=
  match lenA x with
  | none => none
  | some n => match firstS sz n x h with
    | none => none
    | some new =>
      match s with
      | .nils =>
        if n = 0 then some (.nils, h) else
        if n * bytes ≤ maxBytes && oneAll new then some (.slice h.next 0 n sz, h.alloc (.cells new)) else none
      | .slice b off len s' =>
        if s' = sz then
          if n = 0 then some (.slice b off len s', h) else
          match h.get b with
          | some (.cells cs) =>
            if (len + n) * bytes ≤ maxBytes && oneAll new && decide (off + len * sz ≤ cs.length) then
              some (.slice h.next 0 (len + n) sz, (h.set b .dead).alloc (.cells ((cs.drop off).take (len * sz) ++ new)))
            else none
          | _ => none
        else none
      | _ => none
def copyS (sz : Nat) (dst src : AV) (h : Heap) : Option (AV × Heap) :=
  match lenA src with
  | none => none
  | some m => match dst with
    | .nils => some (.int .i64 0, h)
    | .slice b off len s' =>
      if s' = sz then
        match firstS sz (Nat.min m len) src h with
        | some new => match h.get b with
          | some (.cells cs) =>
            if oneAll new && decide (off + Nat.min m len * sz ≤ cs.length) && decide (new.length = Nat.min m len * sz) then
              some (.int .i64 (Nat.min m len), h.set b (.cells (putL cs off new)))
            else none
          | _ => none
        | none => none
      else none
    | _ => none
def boundS (x : Option AV) (dflt : Nat) : Option Nat :=
  match x with
  | none => some dflt
  | some v => asNat v
def sliceS (i : Option Nat) (x : AV) (lo hi : Option AV) : Option AV :=
  match lenA x with
  | none => none
  | some len => match boundS hi len, boundS lo 0 with
    | some hi, some lo =>
      if lo ≤ hi && decide (hi ≤ len) then
        match i, x with
        | none, .str s => some (.str ((s.take hi).drop lo))
        | some _, .nils => some .nils
        | some n, .slice b off _ sz => if n = sz then some (.slice b (off + lo * sz) (hi - lo) sz) else none
        | some n, .islice cs off _ sz => if n = sz then some (.islice cs (off + lo * sz) (hi - lo) sz) else none
        | _, _ => none
      else none
    | _, _ => none
def faS (off : Nat) (x : AV) : Option AV :=
  match x with
  | .ptr b o => some (.ptr b (o + off))
  | .iptr cs o => some (.iptr cs (o + off))
  | _ => none
def fieldS (i : Option Nat) (off : Nat) (x : AV) : Option AV :=
  match x with
  | .agg cs => partS i cs off
  | _ => none
def iaS (n : Nat) (x i : AV) : Option AV :=
  match asNat i with
  | none => none
  | some i => match x with
    | .slice b off len sz => if i < len && n == sz then some (.ptr b (off + i * sz)) else none
    | .islice cs off len sz => if i < len && n == sz then some (.iptr cs (off + i * sz)) else none
    | _ => none
def iarrS (len n : Nat) (x i : AV) : Option AV :=
  match asNat i with
  | none => none
  | some i => match x with
    | .ptr b off => if i < len then some (.ptr b (off + i * n)) else none
    | .iptr cs off => if i < len then some (.iptr cs (off + i * n)) else none
    | _ => none
inductive IaK where
  | sl (n : Nat) | arr (len n : Nat)
def iaV (k : IaK) (x i : AV) : Option AV := match k with | .sl n => iaS n x i | .arr len n => iarrS len n x i
def strIdxS (x i : AV) : Option AV :=
  match x, asNat i with
  | .str s, some i => (match s[i]? with | some b => some (.int .u8 b.toNat) | none => none)
  | _, _ => none
def arrIdxS (len n : Nat) (r : Option Nat) (x i : AV) : Option AV :=
  match x, asNat i with
  | .agg cs, some i => if i < len then partS r cs (i * n) else none
  | _, _ => none
def entriesS (m : AV) (h : Heap) : Option (List Entry) :=
  match m with
  | .nilm => some []
  | .map b => (match h.get b with | some (.map es _) => some es | _ => none)
  | _ => none
def lookupS (d : TypeDesc) (z : AV) (ok : Bool) (m k : AV) (h : Heap) : Option AV :=
  match entriesS m h with
  | none => none
  | some es => match findK d k es with
    | some (some (_, v)) => some (if ok then .tuple [v, .bool true] else v)
    | some none => some (if ok then .tuple [z, .bool false] else z)
    | none => none
def setEntry (es : List Entry) (i : Nat) (v : AV) : List Entry :=
  match es[i]? with
  | some e => es.set i (e.1, v, e.2.2)
  | none => es
def mapUpdateS (d : TypeDesc) (m k v : AV) (h : Heap) : Option Heap :=
  match m with
  | .map b => (match h.get b with
    | some (.map es ck) => (match findK d k es with
      | some (some (i, _)) => some (h.set b (.map (setEntry es i v) ck))
      | some none => some (h.set b (.map (es ++ [(k, v, ck)]) (ck + 1)))
      | none => none)
    | _ => none)
  | _ => none
def bornAt (es : List Entry) (i : Nat) : Nat := match es[i]? with | some e => e.2.2 | none => 0
def mapEntryS (d : TypeDesc) (z : AV) (m k : AV) (h : Heap) : Option (AV × Heap) :=
  match m with
  | .map b => (match h.get b with
    | some (.map es ck) => (match findK d k es with
      | some (some (i, v)) => some (.tuple [v, .int .i64 (bornAt es i)], h)
      | some none => some (.tuple [z, .int .i64 ck], h.set b (.map (es ++ [(k, z, ck)]) (ck + 1)))
      | none => none)
    | _ => none)
  | _ => none
def findBorn (n : Int) : List Entry → Nat → Option Nat
  | [], _ => none
  | e :: es, i => if (e.2.2 : Int) = n then some i else findBorn n es (i + 1)
def entryStoreS (m s v : AV) (h : Heap) : Option Heap :=
  match m, s with
  | .map b, .int _ n => (match h.get b with
    | some (.map es ck) => (match findBorn n es 0 with
      | some i => some (h.set b (.map (setEntry es i v) ck))
      | none => none)
    | _ => none)
  | _, _ => none
def deleteS (d : TypeDesc) (m k : AV) (h : Heap) : Option Heap :=
  match m with
  | .nilm => if keyOk d k then some h else none
  | .map b => (match h.get b with
    | some (.map es ck) => (match findK d k es with
      | some (some (i, _)) => some (h.set b (.map (es.eraseIdx i) ck))
      | some none => some (h.set b (.map es ck))
      | none => none)
    | _ => none)
  | _ => none
inductive LenK where
  | str | slice | map | array (n : Nat)
def lenS (i : LenK) (x : AV) (h : Heap) : Option AV :=
  match i, x with
  | .str, .str s => some (.int .i64 s.length)
  | .slice, .nils => some (.int .i64 0)
  | .slice, .slice _ _ n _ => some (.int .i64 n)
  | .slice, .islice _ _ n _ => some (.int .i64 n)
  | .map, .nilm => some (.int .i64 0)
  | .map, .map b => (match h.get b with | some (.map es _) => some (.int .i64 es.length) | _ => none)
  | .array n, _ => some (.int .i64 n)
  | _, _ => none
def minmax (mx : Bool) (x y : AV) : Option AV :=
  match x, y with
  | .int k a, .int k' b => if k = k' then some (.int k (if mx then (if b > a then b else a) else (if b < a then b else a))) else none
  | _, _ => none
def foldS (mx : Bool) : AV → List AV → Option AV
  | x, [] => some x
  | x, y :: ys => match minmax mx x y with
    | some v => foldS mx v ys
    | none => none
inductive ConvK where
  | int (k : IntKind) | str | bytes | string
def bytesOf : List AV → Option (List UInt8)
  | [] => some []
  | .int .u8 n :: cs => (match bytesOf cs with | some bs => some (UInt8.ofNat n.toNat :: bs) | none => none)
  | _ => none
def convertS (i : ConvK) (x : AV) (h : Heap) : Option (AV × Heap) :=
  match i, x with
  | .int k, .int _ n => some (.int k (k.wrap n), h)
  | .str, .str s => some (.str s, h)
  | .bytes, .str s => if bytesOk = true ∧ s.length ≤ maxBytes then some (.slice h.next 0 s.length 1, h.alloc (.cells (s.map fun b => .int .u8 b.toNat))) else none
  | .string, .nils => some (.str [], h)
  | .string, .slice b off n sz => (match firstS 1 n (.slice b off n sz) h with
    | some cs => (match bytesOf cs with | some bs => some (.str bs, h) | none => none)
    | none => none)
  | .string, .islice b off n sz => (match firstS 1 n (.islice b off n sz) h with
    | some cs => (match bytesOf cs with | some bs => some (.str bs, h) | none => none)
    | none => none)
  | _, _ => none
def fillS (cells : List AV) : List (Nat × Nat) → List AV → Option (List AV)
  | [], [] => some cells
  | (off, n) :: ps, v :: vs =>
    if v.cellsL.length = n && decide (off + n ≤ cells.length) && oneAll v.cellsL then fillS (putL cells off v.cellsL) ps vs else none
  | _, _ => none
def repZero (zero : List AV) : Nat → List AV
  | 0 => []
  | n + 1 => zero ++ repZero zero n
def rowS (zs : List AV) (ps : List (Nat × Nat)) (vs : List AV) : Option (List AV) :=
  match fillS zs ps vs with
  | some cs => if oneAll cs then some cs else none
  | none => none
def aggS (zs : List AV) (ps : List (Nat × Nat)) (vs : List AV) : Option AV :=
  match fillS zs ps vs with
  | some cs => some (.agg cs)
  | none => none
def makeOk (bytes : Nat) (len cap : AV) : Option Nat :=
  match len, cap with
  | .int .i64 l, .int .i64 c => if 0 ≤ l && decide (l ≤ c) && decide (bytes * c ≤ 140737488355328) then some l.toNat else none
  | _, _ => none
def makeSliceS (sz bytes : Nat) (z : List AV) (len cap : AV) (h : Heap) : Option (AV × Heap) :=
  match makeOk bytes len cap with
  | some n => some (.slice h.next 0 n sz, h.alloc (.cells (repZero z n)))
  | none => none
inductive RangeK where
  | str | map
def rangeS (i : RangeK) (x : AV) (h : Heap) : Option (AV × Heap) :=
  match i, x with
  | .str, .str s => some (.ptr h.next 0, h.alloc (.siter s 0))
  | .map, .nilm => some (.ptr h.next 0, h.alloc (.miter none 0 [] 0))
  | .map, .map m => (match h.get m with
    | some (.map _ ck) => some (.ptr h.next 0, h.alloc (.miter (some m) ck [] ck))
    | _ => none)
  | _, _ => none
def findBornNat (n : Nat) : List Entry → Option Entry
  | [] => none
  | e :: es => if e.2.2 = n then some e else findBornNat n es
def candsA (es : List Entry) (since : Nat) (seen : List Nat) : List (Option Entry) :=
  let left := es.filter fun e => !seen.contains e.2.2
  let old := left.filter fun e => decide (e.2.2 < since)
  let new := left.filter fun e => decide (e.2.2 ≥ since)
  (if old.isEmpty then [none] else []) ++ (old ++ new).map some
def yieldA (r m since : Nat) (seen : List Nat) (ck : Nat) (h : Heap) : Option Entry → AV × Heap
  | some e => (.tuple [.bool true, e.1, e.2.1], h.set r (.miter (some m) since (seen ++ [e.2.2]) ck))
  | none => (.tuple [.bool false], h)
def nextS (isString : Bool) (x : AV) (h : Heap) : Option (List (AV × Heap)) :=
  match x with
  | .ptr r 0 => (match h.get r, isString with
    | some (.siter s pos), true =>
      if pos < s.length then
        some [(.tuple [.bool true, .int .i64 pos, .int .i32 (Utf8.decode ⟨s.toArray⟩ pos).1], h.set r (.siter s (pos + (Utf8.decode ⟨s.toArray⟩ pos).2)))]
      else some [(.tuple [.bool false], h)]
    | some (.miter none _ _ _), false => some [(.tuple [.bool false], h)]
    | some (.miter (some m) since seen last), false => (match h.get m with
      | some (.map es ck) =>
        if !seen.isEmpty && !es.isEmpty && es.all (fun e => decide (e.2.2 ≥ last)) then none else
        match candsA es since seen with
        | [] => none
        | c :: cs => some ((c :: cs).map (yieldA r m since seen ck h))
      | _ => none)
    | _, _ => none)
  | _ => none
def entryS (x : AV) (h : Heap) : Option AV :=
  match x with
  | .ptr r 0 => (match h.get r with
    | some (.miter (some m) _ seen stepped) => (match seen.getLast?, h.get m with
      | some stamp, some (.map es ck) =>
        if ck = stepped then (match findBornNat stamp es with | some e => some (.tuple [e.1, e.2.1]) | none => none) else none
      | _, _ => none)
    | _ => none)
  | _ => none
def assertS (a : TypeId) (z x : AV) : Option AV :=
  match x with
  | .nili => some (.tuple [z, .bool false])
  | .iface t v => some (if t = a then .tuple [v, .bool true] else .tuple [z, .bool false])
  | _ => none
def extractS (x : AV) (i : Nat) : Option AV := match x with | .tuple vs => vs[i]? | _ => none
def sizesI (P : Program) (e : Option TypeId) : Option (Nat × Nat) :=
  match e with
  | none => none
  | some e => match sizeT P e, bytesT P e with
    | some s, some b => if 0 < s && decide (0 < b) then some (s, b) else none
    | _, _ => none
def elemI (P : Program) (t : TypeId) : Option (Nat × Nat) := sizesI P (elemT P t)
def iaI (P : Program) (t : TypeId) : Option IaK :=
  match P.underlying t with
  | some (.array len e) => (match sizeT P e with | some s => some (.arr len s) | none => none)
  | _ => (match elemI P t with | some o => some (.sl o.1) | none => none)
def makeI (P : Program) (t : TypeId) : Option (Nat × Nat × List AV) :=
  match elemI P t, elemT P t with
  | some (s, b), some e => (match zeroCellsI P e with
    | some z => if z.length = s then some (s, b, z) else none
    | none => none)
  | _, _ => none
def pickL (places : List (Nat × Nat)) : List Nat → Option (List (Nat × Nat))
  | [] => some []
  | i :: is => match places[i]?, pickL places is with
    | some p, some ps => some (p :: ps)
    | _, _ => none
def placesT (P : Program) (fs : List Field) : Option (List (Nat × Nat)) := fs.mapM fun f => (P.info? f.type).map fun i => (f.offset, i.size)
def buildI (P : Program) (t : TypeId) (is : List Nat) : Option (List AV × List (Nat × Nat)) :=
  match P.underlying t with
  | some (.struct fs) => (match zeroT P t, placesT P fs.toList with
    | some z, some pl => (match pickL pl is with | some ps => if oneAll z.cellsL then some (z.cellsL, ps) else none | none => none)
    | _, _ => none)
  | some (.array _ e) => (match zeroT P t, P.info? e with
    | some z, some ie => if oneAll z.cellsL then some (z.cellsL, is.map fun i => (i * ie.size, ie.size)) else none
    | _, _ => none)
  | _ => none
def rowI (P : Program) (t : TypeId) (len : Nat) (is : List Nat) : Option (Nat × List AV × List (Nat × Nat)) :=
  match makeI P t with
  | some (s, _, z) => if len * s ≤ 65536 then some (s, repZero z len, is.map fun i => (i * s, s)) else none
  | none => none
def faI (P : Program) (t : TypeId) (i : Nat) : Option Nat :=
  match fieldT P t i with
  | some f => (match sizeT P f.type with | some s => if s = 0 then none else some f.offset | none => none)
  | none => none
def fieldI (P : Program) (t : TypeId) (i : Nat) : Option (Option Nat × Nat) :=
  match fieldT P t i with
  | some f => (match readT P f.type with | some r => some (r, f.offset) | none => none)
  | none => none
def sliceI (P : Program) (t : TypeId) : Option (Option Nat) :=
  match P.underlying t with
  | some .string => some none
  | some (.slice e) => (match sizeT P e with | some s => some (some s) | none => none)
  | _ => none
inductive IdxK where
  | str | arr (len n : Nat) (r : Option Nat)
def idxI (P : Program) (t : TypeId) : Option IdxK :=
  match P.underlying t with
  | some .string => some .str
  | some (.array len e) => (match sizeT P e, readT P e with | some n, some r => some (.arr len n r) | _, _ => none)
  | _ => none
def idxS (i : IdxK) (x y : AV) : Option AV :=
  match i with
  | .str => strIdxS x y
  | .arr len n r => arrIdxS len n r x y
def lookupI (P : Program) (t : TypeId) : Option (TypeDesc × AV) :=
  match mapT P t with
  | some (d, e) => (match zeroT P e with | some z => some (d, z) | none => none)
  | none => none
def lenI (P : Program) (t : TypeId) : Option LenK :=
  match P.underlying t with
  | some .string => some .str
  | some (.slice _) => some .slice
  | some (.map _ _) => some .map
  | some (.array n _) => some (.array n)
  | _ => none
def convertI (P : Program) (src dst : TypeId) : Option ConvK :=
  match P.underlying src, P.underlying dst with
  | some (.int _), some (.int k) => some (.int k)
  | some .string, some .string => some .str
  | some .string, some (.slice e) => (match P.underlying e, sizeT P e with | some (.int .u8), some 1 => some .bytes | _, _ => none)
  | some (.slice e), some .string => (match P.underlying e with | some (.int .u8) => some .string | _ => none)
  | _, _ => none
def rangeI (P : Program) (t : TypeId) : Option RangeK :=
  match P.underlying t with
  | some .string => some .str
  | some (.map _ _) => some .map
  | _ => none
def ifaceI (P : Program) (t : TypeId) : Option Unit :=
  match P.underlying t with
  | some (.interface _) => none
  | some _ => some ()
  | none => none
def assertI (P : Program) (a : TypeId) (ok : Bool) : Option AV :=
  match ok, P.underlying a with
  | true, some (.interface _) => none
  | true, some _ => zeroT P a
  | _, _ => none
def appendI (P : Program) (t u : TypeId) : Option (Nat × Nat) :=
  match P.underlying u, makeI P t with
  | some (.slice _), some (s, b, _) => some (s, b)
  | some .string, some (s, b, _) => some (s, b)
  | _, _ => none
abbrev Ex := Program → (Operand → AV) → Heap → (AV → Heap → Bool) → Bool
def valK (h : Heap) (K : AV → Heap → Bool) (o : Option AV) : Bool := bindO o fun v => K v h
def heapK (K : AV → Heap → Bool) (o : Option Heap) : Bool := bindO o fun h => K noV h
def bothK (K : AV → Heap → Bool) (o : Option (AV × Heap)) : Bool := bindO o fun p => K p.1 p.2
def exAlloc (t : TypeId) : Ex := fun P _ h K => bindO (zeroCellsI P t) fun z => K (.ptr h.next 0) (h.alloc (.cells z))
def exBox (x : Operand) : Ex := fun _ ρ h K => bindO (boxS (ρ x)) fun cs => K (.ptr h.next 0) (h.alloc (.cells cs))
def exBuild (t : TypeId) (ps : List (Nat × Operand)) : Ex := fun P ρ h K => bindO (buildI P t (ps.map (·.1))) fun i => valK h K (aggS i.1 i.2 (ps.map fun p => ρ p.2))
def exBuildSlice (t : TypeId) (n : Nat) (ps : List (Nat × Operand)) : Ex := fun P ρ h K =>
  bindO (rowI P t n (ps.map (·.1))) fun i => bindO (rowS i.2.1 i.2.2 (ps.map fun p => ρ p.2)) fun cs => K (.slice h.next 0 n i.1) (h.alloc (.cells cs))
def exBin (op : BinOp) (t : TypeId) (x y : Operand) : Ex := fun P ρ h K =>
  match op with
  | .eql => bindO (P.underlying t) fun d => valK h K (eqV d (ρ x) (ρ y))
  | .neq => bindO (P.underlying t) fun d => valK h K (neV d (ρ x) (ρ y))
  | op => valK h K (binS op (ρ x) (ρ y))
def exMakeFunc (fn : Fn) (first cap : List Operand) : Ex := fun _ ρ h K => match fn with
  | .func f => K (.func f (first.map ρ) (cap.map ρ)) h
  | _ => false
def exMakeMap (r : Option Operand) : Ex := fun _ _ h K => match r with
  | none => K (.map h.next) (h.alloc (.map [] 0))
  | some _ => false
def exMakeSlice (t : TypeId) (l c : Operand) : Ex := fun P ρ h K => bindO (makeI P t) fun i => bothK K (makeSliceS i.1 i.2.1 i.2.2 (ρ l) (ρ c) h)
def exSlice (t : TypeId) (x : Operand) (lo hi mx : Option Operand) : Ex := fun P ρ h K => match mx with
  | none => bindO (sliceI P t) fun i => valK h K (sliceS i (ρ x) (lo.map ρ) (hi.map ρ))
  | some _ => false
def exLookup (t : TypeId) (x i : Operand) (ok : Bool) : Ex := fun P ρ h K => bindO (lookupI P t) fun d => valK h K (lookupS d.1 d.2 ok (ρ x) (ρ i) h)
abbrev Blt := List TypeId → List AV → Program → Heap → (AV → Heap → Bool) → Bool
def bltAppend : Blt := fun ts xs P h K => match ts, xs with
  | [t, u], [s, x] => bindO (appendI P t u) fun i => bothK K (appendS i.1 i.2 s x h)
  | _, _ => false
def bltCopy : Blt := fun ts xs P h K => match ts, xs with
  | t :: _, [d, s] => bindO (elemI P t) fun i => bothK K (copyS i.1 d s h)
  | _, _ => false
def bltLen : Blt := fun ts xs P h K => match ts, xs with
  | t :: _, [x] => bindO (lenI P t) fun i => valK h K (lenS i x h)
  | _, _ => false
def bltDelete : Blt := fun ts xs P h K => match ts, xs with
  | t :: _, [m, k] => bindO (mapT P t) fun i => heapK K (deleteS i.1 m k h)
  | _, _ => false
def bltFold (mx : Bool) : Blt := fun _ xs _ h K => match xs with
  | x :: xs => valK h K (foldS mx x xs)
  | _ => false
def bltBad : Blt := fun _ _ _ _ _ => false
def bltFn : Builtin → Blt
  | .append => bltAppend
  | .copy => bltCopy
  | .len => bltLen
  | .delete => bltDelete
  | .min => bltFold false
  | .max => bltFold true
  | _ => bltBad
def exCall (c : Call) : Ex := fun P ρ h K => match c.callee with
  | .builtin b => bltFn b c.argTypes.toList (c.args.toList.map ρ) P h K
  | _ => false
def opFn : Op → Ex
  | .move x => fun _ ρ h K => K (ρ x) h
  | .assign x => fun _ ρ h K => K (ρ x) h
  | .pick c a b => fun _ ρ h K => valK h K (pickS (ρ c) (ρ a) (ρ b))
  | .alloc t => exAlloc t
  | .box _ x => exBox x
  | .build t ps => exBuild t ps.toList
  | .buildSlice t n ps => exBuildSlice t n ps.toList
  | .load t a => fun P ρ h K => bindO (readT P t) fun i => valK h K (loadS i (ρ a) h)
  | .store t a x => fun P ρ h K => bindO (sizeT P t) fun n => heapK K (storeS n (ρ a) (ρ x) h)
  | .nilCheck x => fun _ ρ h K => valK h K (nilCheckS (ρ x))
  | .binOp op t x y _ => exBin op t x y
  | .unOp op _ x => fun _ ρ h K => valK h K (unS op (ρ x))
  | .convert s d x => fun P ρ h K => bindO (convertI P s d) fun i => bothK K (convertS i (ρ x) h)
  | .makeInterface t x => fun P ρ h K => bindO (ifaceI P t) fun _ => K (.iface t (ρ x)) h
  | .makeFunc fn first cap => exMakeFunc fn first.toList cap.toList
  | .makeMap _ r => exMakeMap r
  | .makeSlice t l c => exMakeSlice t l c
  | .slice t x lo hi mx => exSlice t x lo hi mx
  | .fieldAddr t x i => fun P ρ h K => bindO (faI P t i) fun o => valK h K (faS o (ρ x))
  | .field t x i => fun P ρ h K => bindO (fieldI P t i) fun o => valK h K (fieldS o.1 o.2 (ρ x))
  | .indexAddr t x i => fun P ρ h K => bindO (iaI P t) fun o => valK h K (iaV o (ρ x) (ρ i))
  | .index t x i => fun P ρ h K => bindO (idxI P t) fun o => valK h K (idxS o (ρ x) (ρ i))
  | .lookup t x i ok => exLookup t x i ok
  | .mapUpdate t m k x => fun P ρ h K => bindO (mapT P t) fun o => heapK K (mapUpdateS o.1 (ρ m) (ρ k) (ρ x) h)
  | .insert t m k x => fun P ρ h K => bindO (mapT P t) fun o => heapK K (mapUpdateS o.1 (ρ m) (ρ k) (ρ x) h)
  | .mapEntry t m k => fun P ρ h K => bindO (lookupI P t) fun o => bothK K (mapEntryS o.1 o.2 (ρ m) (ρ k) h)
  | .entryStore _ m s x => fun _ ρ h K => heapK K (entryStoreS (ρ m) (ρ s) (ρ x) h)
  | .range t x => fun P ρ h K => bindO (rangeI P t) fun o => bothK K (rangeS o (ρ x) h)
  | .entry x => fun _ ρ h K => valK h K (entryS (ρ x) h)
  | .extract t i => fun _ ρ h K => valK h K (extractS (ρ t) i)
  | .typeAssert x _ a ok => fun P ρ h K => bindO (assertI P a ok) fun z => valK h K (assertS a z (ρ x))
  | .call c => exCall c
  | _ => fun _ _ _ _ => false
inductive Kind where
  | pure | read | alloc | eff
  deriving DecidableEq
def callKind : Callee → Kind
  | .builtin .len => .read
  | .builtin .min => .pure
  | .builtin .max => .pure
  | _ => .eff
def opKind : Op → Kind
  | .move _ | .assign _ | .pick .. | .build .. | .nilCheck _ | .binOp .. | .unOp .. | .makeInterface .. | .makeFunc .. | .slice .. | .fieldAddr .. | .field .. | .indexAddr .. | .index .. | .extract .. | .typeAssert .. => .pure
  | .load .. | .lookup .. => .read
  | .alloc _ | .box .. | .buildSlice .. | .makeMap .. | .makeSlice .. => .alloc
  | .call c => callKind c.callee
  | _ => .eff
inductive AX where
  | normal
  | exit (id : Nat)
  | ret
  | panic (v : AV)
inductive Out where
  | ret (v : AV)
  | panic (v : AV)
structure ADef where
  f : FuncId
  args : List AV
  cap : List AV
abbrev Env := Nat → AV
def setV (env : Env) (d : Nat) (v : AV) : Env := fun j => @Bool.rec (fun _ => AV) (env j) v (Nat.beq j d)
structure St where
  env : Env
  n : Nat
  defs : List ADef
  h : Heap
def putE (env : Env) (n : Nat) (dst : Option Tmp) (v : AV) : Env :=
  match dst with
  | some d => if d < n then setV env d v else env
  | none => env
def putK (env : Env) (n : Nat) (dst : Option Tmp) (v : AV) (k : Env → Bool) : Bool :=
  match dst with
  | some d => @Bool.rec (fun _ => Bool) false (k (setV env d v)) (Nat.ble (d + 1) n)
  | none => k env
def St.putH (s : St) (h : Heap) (dst : Option Tmp) (v : AV) : St := ⟨putE s.env s.n dst v, s.n, s.defs, h⟩
def evalArg (env : Env) : Operand → AV
  | .tmp t => env t
  | .const v => ofConst v
  | .global _ => .undef
  | .func f => .func f [] []
inductive R where
  | ok (v : AV) (defs : List ADef) (h : Heap)
  | panic (v : AV) (h : Heap)
inductive RS where
  | ok (s : St)
  | panic (v : AV) (s : St)
abbrev CallF := FuncId → List AV → Heap → (Out → Heap → Bool) → Bool
def wantedA (ops : List Oper) (o : Oper) (env : Env) : Option Bool :=
  match o.guard with
  | none => some true
  | some (j, want) =>
    match ops[j]? with
    | some g => (match g.dst with
      | some d => (match env d with
        | .bool b => some (b == want)
        | .tuple _ => some false
        | _ => none)
      | none => none)
    | none => none
abbrev Stp := Program → CallF → Env → List ADef → Heap → (R → Bool) → Bool
def callK (defs : List ADef) (K : R → Bool) : Out → Heap → Bool
  | .ret v, h' => K (.ok v defs h')
  | .panic v, h' => K (.panic v h')
def stPlain (op : Op) : Stp := fun P _ env defs h K => opFn op P (evalArg env) h fun v h' => K (.ok v defs h')
def stCallV (f : Operand) (args : List Operand) : Stp := fun _ call env defs h K => match evalArg env f with
  | .func g first cap => call g (first ++ (args.map (evalArg env) ++ cap)) h (callK defs K)
  | _ => false
def stCall (c : Call) : Stp := match c.callee with
  | .value f => stCallV f c.args.toList
  | _ => stPlain (.call c)
def stDefer (c : Call) : Stp := fun _ _ env defs h K => match c.callee with
  | .value f => (match evalArg env f with
    | .func g first cap => K (.ok noV (⟨g, first ++ c.args.toList.map (evalArg env), cap⟩ :: defs) h)
    | _ => false)
  | _ => false
def stPanic (x : Operand) : Stp := fun _ _ env _ h K => match evalArg env x with
  | .iface t v => K (.panic (.iface t v) h)
  | _ => false
def allNext (defs : List ADef) (K : R → Bool) : List (AV × Heap) → Bool
  | [] => true
  | p :: ps => K (.ok p.1 defs p.2) && allNext defs K ps
def stNext (x : Operand) (b : Bool) : Stp := fun _ _ env defs h K => bindO (nextS b (evalArg env x) h) (allNext defs K)
def stepFn : Op → Stp
  | .call c => stCall c
  | .defer c => stDefer c
  | .panic x => stPanic x
  | .next x b => stNext x b
  | op => stPlain op
def evalOps (P : Program) (call : CallF) (ops : List Oper) : List Oper → St → (RS → Bool) → Bool
  | [], s, K => K (.ok s)
  | o :: rest, ⟨env, n, defs, h⟩, K =>
    match wantedA ops o env with
    | some true => stepFn o.op P call env defs h fun
      | .ok v defs h => putK env n o.dst v fun env => evalOps P call ops rest ⟨env, n, defs, h⟩ K
      | .panic v h => K (.panic v ⟨env, n, defs, h⟩)
    | some false => putK env n o.dst noV fun env => evalOps P call ops rest ⟨env, n, defs, h⟩ K
    | none => false
def maskOf (acc : List Nat) : List Edge → Nat
  | [] => 0
  | e :: es => if Region.binds .any e then (2 ^ e.on ||| acc.getD e.on 0) ||| maskOf acc es else maskOf acc es
def masksF : List Oper → List Nat → List Nat
  | [], acc => acc
  | o :: os, acc => masksF os (acc ++ [maskOf acc o.after.toList])
def masks (ops : List Oper) : List Nat := masksF ops []
def bef (ms : List Nat) (i j : Nat) : Bool := (ms.getD i 0).testBit j
def isEff (o : Oper) : Bool := match opKind o.op with | .eff => true | _ => false
def withIdx : List Oper → Nat → List (Nat × Oper)
  | [], _ => []
  | o :: os, i => (i, o) :: withIdx os (i + 1)
def effsOf : List (Nat × Oper) → List Nat
  | [] => []
  | p :: ps => if isEff p.2 then p.1 :: effsOf ps else effsOf ps
def levelOf (ms : List Nat) (i : Nat) : List Nat → Nat
  | [] => 0
  | j :: js => if bef ms i j then levelOf ms i js + 1 else levelOf ms i js
def levelsL (ms : List Nat) (effs : List Nat) (L : List (Nat × Oper)) : Nat → Nat → List (Nat × Oper)
  | 0, k => L.filter fun p => !isEff p.2 && levelOf ms p.1 effs == k
  | n + 1, k => (L.filter fun p => !isEff p.2 && levelOf ms p.1 effs == k) ++ ((L.filter fun p => isEff p.2 && levelOf ms p.1 effs == k) ++ levelsL ms effs L n (k + 1))
def looksD (ops : List Oper) (o : Oper) : List Tmp :=
  (o.op.operands.toList.filterMap fun | .tmp t => some t | _ => none) ++
  (match o.guard with
   | some (g, _) => (match ops[g]? with | some p => p.dst.toList | none => [])
   | none => [])
def pairOk (ops : List Oper) (ms : List Nat) (a b : Nat × Oper) : Bool :=
  a.1 != b.1 && (!(bef ms a.1 b.1) && ((!isEff a.2 || bef ms b.1 a.1) &&
  ((match a.2.dst with
    | some d => (match b.2.dst with | some e => d != e | none => true) && (!((looksD ops b.2).contains d) || bef ms b.1 a.1)
    | none => true) &&
   (match b.2.dst with
    | some d => !((looksD ops a.2).contains d) || bef ms b.1 a.1
    | none => true))))
def pairsOk (ops : List Oper) (ms : List Nat) : List (Nat × Oper) → Bool
  | [] => true
  | p :: ps => ps.all (pairOk ops ms p) && pairsOk ops ms ps
def coverOk (L : List (Nat × Oper)) : Nat → Bool
  | 0 => true
  | n + 1 => L.any (fun p => p.1 == n) && coverOk L n
structure Plan where
  ms : List Nat
  L : List (Nat × Oper)
def planL (ops : List Oper) (ms : List Nat) : List (Nat × Oper) := levelsL ms (effsOf (withIdx ops 0)) (withIdx ops 0) (effsOf (withIdx ops 0)).length 0
def edgesOk : List Oper → Nat → Bool
  | [], _ => true
  | o :: os, i => o.after.toList.all (fun e => !Region.binds .any e || decide (e.on < i)) && edgesOk os (i + 1)
def planD (ops : List Oper) : Option Plan :=
  if edgesOk ops 0 && pairsOk ops (masks ops) (planL ops (masks ops)) && coverOk (planL ops (masks ops)) ops.length then some ⟨masks ops, planL ops (masks ops)⟩ else none
structure Read where
  i : Nat
  op : Op
  env : Env
  v : AV
def sameAt (P : Program) (op : Op) (env : Env) (v : AV) (h : Heap) : Bool := opFn op P (evalArg env) h fun v' _ => AV.beq v' v
def sameReads (P : Program) (ms : List Nat) (i : Nat) (h : Heap) : List Read → Bool
  | [] => true
  | r :: rs => if bef ms i r.i then sameReads P ms i h rs else sameAt P r.op r.env r.v h && sameReads P ms i h rs
def evalOpsD (P : Program) (call : CallF) (ops : List Oper) (ms : List Nat) : List (Nat × Oper) → List Read → St → (St → Bool) → Bool
  | [], _, s, K => K s
  | p :: rest, lg, ⟨env, n, defs, h⟩, K =>
    match wantedA ops p.2 env with
    | some true =>
      match opKind p.2.op with
      | .pure => opFn p.2.op P (evalArg env) h fun v _ => putK env n p.2.dst v fun env' => evalOpsD P call ops ms rest lg ⟨env', n, defs, h⟩ K
      | .read => opFn p.2.op P (evalArg env) h fun v _ => putK env n p.2.dst v fun env' => evalOpsD P call ops ms rest (⟨p.1, p.2.op, env, v⟩ :: lg) ⟨env', n, defs, h⟩ K
      | .alloc => opFn p.2.op P (evalArg env) h fun v h' => putK env n p.2.dst v fun env' => evalOpsD P call ops ms rest lg ⟨env', n, defs, h'⟩ K
      | .eff =>
        stepFn p.2.op P call env defs h fun
          | .ok v defs' h' => if sameReads P ms p.1 h' lg then putK env n p.2.dst v fun env' => evalOpsD P call ops ms rest lg ⟨env', n, defs', h'⟩ K else false
          | .panic _ _ => false
    | some false => putK env n p.2.dst noV fun env' => evalOpsD P call ops ms rest lg ⟨env', n, defs, h⟩ K
    | none => false
def mkEnv : List AV → Env
  | [], _ => noV
  | v :: _, 0 => v
  | _ :: vs, i + 1 => mkEnv vs i
def rowE (env : Env) : Nat → Nat → List AV
  | 0, _ => []
  | n + 1, i => env i :: rowE env n (i + 1)
def St.tab : St → St
  | ⟨env, n, defs, h⟩ => ⟨mkEnv (rowE env n 0), n, defs, h⟩
def iter (f : St → (AX → St → Bool) → Bool) (K : AX → St → Bool) : Nat → St → Bool
  | 0, _ => false
  | n + 1, s => f s fun
    | .normal, s' => iter f K n s'.tab
    | e, s' => K e s'
def evalCode (P : Program) (call : CallF) (rounds : Nat) : Code → St → (AX → St → Bool) → Bool
  | .skip, s, K => K .normal s
  | .region _ ops draw, s, K =>
    if draw then bindO (planD ops.toList) fun p => evalOpsD P call ops.toList p.ms p.L [] s fun s' => K .normal s'
    else evalOps P call ops.toList ops.toList s fun
      | .ok s' => K .normal s'
      | .panic v s' => K (.panic v) s'
  | .seq a b, s, K => evalCode P call rounds a s fun
    | .normal, s' => evalCode P call rounds b s' K
    | e, s' => K e s'
  | .cond c a b, s, K =>
    match evalArg s.env c with
    | .bool true => evalCode P call rounds a s K
    | .bool false => evalCode P call rounds b s K
    | _ => false
  | .block id c, s, K => evalCode P call rounds c s fun
    | .exit id', s' => if id' = id then K .normal s' else K (.exit id') s'
    | e, s' => K e s'
  | .loop c, s, K => iter (evalCode P call rounds c) K rounds s
  | .exit id, s, K => K (.exit id) s
  | .ret, s, K => K .ret s
  | _, _, _ => false
abbrev Prims := FuncId → Option (List AV → Heap → (Out → Heap → Bool) → Bool)
abbrev DPrims := FuncId → Option (List AV → Option AV → Heap → (Option AV → Heap → Bool) → Bool)
def resultA (P : Program) (s : St) : ResultVar → Option AV
  | .tmp t => some (s.env t)
  | .cell a t => (match readT P t with | some i => loadS i (s.env a) s.h | none => none)
def resultL (P : Program) (s : St) : List ResultVar → Option (List AV)
  | [] => some []
  | r :: rs => match resultA P s r, resultL P s rs with
    | some v, some vs => some (v :: vs)
    | _, _ => none
def oneOf : List AV → AV
  | [v] => v
  | vs => .tuple vs
def leave (P : Program) (D : DPrims) (rs : List ResultVar) (K : Out → Heap → Bool) : List ADef → Option AV → St → Bool
  | [], none, s => bindO (resultL P s rs) fun vs => K (.ret (oneOf vs)) s.h
  | [], some v, s => K (.panic v) s.h
  | d :: ds, pan, s =>
    match D d.f with
    | some g => g (d.args ++ d.cap) pan s.h fun pan' h' => leave P D rs K ds pan' ⟨s.env, s.n, s.defs, h'⟩
    | none => false
def leaveK (P : Program) (D : DPrims) (rs : List ResultVar) (K : Out → Heap → Bool) : AX → St → Bool
  | .normal, s' => leave P D rs K s'.defs none s'
  | .ret, s' => leave P D rs K s'.defs none s'
  | .panic v, s' => leave P D rs K s'.defs (some v) s'
  | .exit _, _ => false
def bodyFn (P : Program) (D : DPrims) (call : CallF) (rounds : Nat) (fn : Func) (args : List AV) (h : Heap) (K : Out → Heap → Bool) : Bool :=
  match fn.body with
  | none => false
  | some c => evalCode P call rounds c ⟨mkEnv args, fn.ntmps, [], h⟩ (leaveK P D fn.results.toList K)
def evalFn (P : Program) (F : Prims) (D : DPrims) : Nat → FuncId → List AV → Heap → (Out → Heap → Bool) → Bool
  | 0, _, _, _, _ => false
  | n + 1, f, args, h, K =>
    match F f with
    | some g => g args h K
    | none =>
      match P.funcs[f]? with
      | none => false
      | some fn => if decide (args.length ≤ fn.ntmps) && fn.name != "runtime.NumGoroutine" then bodyFn P D (evalFn P F D n) n fn args h K else false
mutual
def endsN : Code → Nat
  | .skip => 1
  | .region _ _ _ => 1
  | .seq a b => endsN a * endsN b
  | .cond _ a b => endsN a + endsN b
  | .block id c => endsN c + leavesN id c
  | _ => 0
def leavesN (id : Nat) : Code → Nat
  | .seq a b => leavesN id a + endsN a * leavesN id b
  | .cond _ a b => leavesN id a + leavesN id b
  | .block _ c => leavesN id c
  | .exit i => @Bool.rec (fun _ => Nat) 0 1 (Nat.beq i id)
  | _ => 0
end
def sizeN : Code → Nat
  | .region _ ops _ => ops.toList.length
  | .seq a b => sizeN a + sizeN b
  | .cond _ a b => sizeN a + sizeN b + 1
  | .block _ c => sizeN c
  | .loop c => sizeN c + 10
  | _ => 1
def guardedL : List Oper → Bool
  | [] => false
  | o :: os => match o.guard with | some _ => true | none => guardedL os
def condAt : Code → Bool
  | .cond _ _ _ => true
  | .seq a _ => condAt a
  | _ => false
def joinAt (a b : Code) : Bool :=
  @Bool.rec (fun _ => Bool) false (match a with
    | .region _ ops _ => guardedL ops.toList && !condAt b
    | a => Nat.ble 2 (endsN a)) (Nat.ble 12 (sizeN b))
end
end Go.AM
