/- The relation between the abstract machine's heap and the model's world, and how it abides. Conditions: none. -/
import Derived.Test.YthmbnnjimbjplaaGreatDoorAmCore
import Derived.Below
import Derived.Laws.Sem
import Derived.Laws.Cells
import Derived.WalkKit
set_option linter.unusedVariables false
namespace Go.AM
open Go Go.RowKit

/-! ### The persistent map -/
theorem Trie.get_leaf {α : Type} (n : Nat) : (Trie.leaf : Trie α).get n = none := by cases n <;> rfl
theorem Trie.get_left {α : Type} (t : Trie α) (n : Nat) : t.left.get n = t.get (2 * n + 1) := by
  cases t with
  | leaf => simp [Trie.left, Trie.get_leaf]
  | node v l r =>
    simp only [Trie.left, Trie.get]
    rw [if_pos (by omega), show 2 * n / 2 = n by omega]
theorem Trie.get_right {α : Type} (t : Trie α) (n : Nat) : t.right.get n = t.get (2 * n + 2) := by
  cases t with
  | leaf => simp [Trie.right, Trie.get_leaf]
  | node v l r =>
    simp only [Trie.right, Trie.get]
    rw [if_neg (by omega), show (2 * n + 1) / 2 = n by omega]
theorem Trie.get_val {α : Type} (t : Trie α) : t.val = t.get 0 := by cases t <;> rfl
theorem Trie.get_setF {α : Type} (o : α) : ∀ (f : Nat) (t : Trie α) (n m : Nat), n ≤ f → (Trie.setF o f t n).get m = if m = n then some o else t.get m := by
  intro f
  induction f with
  | zero =>
    intro t n m h
    obtain rfl : n = 0 := by omega
    simp only [Trie.setF]
    cases m with
    | zero => simp [Trie.get]
    | succ m =>
      simp only [Trie.get]
      split
      · rw [Trie.get_left, show 2 * (m / 2) + 1 = m + 1 by omega]; simp
      · rw [Trie.get_right, show 2 * (m / 2) + 2 = m + 1 by omega]; simp
  | succ f ih =>
    intro t n m h
    cases n with
    | zero =>
      simp only [Trie.setF]
      cases m with
      | zero => simp [Trie.get]
      | succ m =>
        simp only [Trie.get]
        split
        · rw [Trie.get_left, show 2 * (m / 2) + 1 = m + 1 by omega]; simp
        · rw [Trie.get_right, show 2 * (m / 2) + 2 = m + 1 by omega]; simp
    | succ n =>
      simp only [Trie.setF]
      split
      · rename_i hn
        cases m with
        | zero => simp [Trie.get, Trie.get_val]
        | succ m =>
          simp only [Trie.get]
          split
          · rename_i hm
            rw [ih _ _ _ (by omega), Trie.get_left, show 2 * (m / 2) + 1 = m + 1 by omega]
            by_cases e : m = n
            · subst e; simp
            · rw [if_neg (by omega), if_neg (by omega)]
          · rename_i hm
            rw [Trie.get_right, show 2 * (m / 2) + 2 = m + 1 by omega, if_neg (by omega)]
      · rename_i hn
        cases m with
        | zero => simp [Trie.get, Trie.get_val]
        | succ m =>
          simp only [Trie.get]
          split
          · rename_i hm
            rw [Trie.get_left, show 2 * (m / 2) + 1 = m + 1 by omega, if_neg (by omega)]
          · rename_i hm
            rw [ih _ _ _ (by omega), Trie.get_right, show 2 * (m / 2) + 2 = m + 1 by omega]
            by_cases e : m = n
            · subst e; simp
            · rw [if_neg (by omega), if_neg (by omega)]
theorem Heap.get_set (h : Heap) (b : Nat) (o : AObj) (c : Nat) : (h.set b o).get c = if c = b then some o else h.get c := Trie.get_setF o b h.tab b c (Nat.le_refl _)
theorem Heap.get_alloc (h : Heap) (o : AObj) (c : Nat) : (h.alloc o).get c = if c = h.next then some o else h.get c := Trie.get_setF o h.next h.tab h.next c (Nat.le_refl _)
@[simp] theorem Heap.next_set (h : Heap) (b : Nat) (o : AObj) : (h.set b o).next = h.next := rfl
@[simp] theorem Heap.next_alloc (h : Heap) (o : AObj) : (h.alloc o).next = h.next + 1 := rfl

/-! ### Values -/
structure Blk where
  c : Nat
  base : Nat
  size : Nat
/-- Where the abstract heap's blocks lie, and the blocks that never change any more, with their cells. -/
structure Mu where
  m : Nat → Option Blk
  z : Nat → Option (List Value)
instance : CoeFun Mu (fun _ => Nat → Option Blk) := ⟨Mu.m⟩
def Mu.cell (μ : Mu) (g i : Nat) : Option Value := (μ.z g).bind (·[i]?)
def Mu.zero : Mu := ⟨fun _ => .none, fun _ => .none⟩

inductive VR (w0 : World) (μ : Mu) : AV → Value → Prop where
  | undef (v : Value) : VR w0 μ .undef v
  | bool (b : Bool) : VR w0 μ (.bool b) (.bool b)
  | int (k : IntKind) (n : Int) : VR w0 μ (.int k n) (.int k n)
  | str (s : ByteArray) : VR w0 μ (.str s.data.toList) (.string s)
  | nilp : VR w0 μ .nilp (.pointer none)
  | ptr (b off : Nat) (k : Blk) (hk : μ b = some k) : VR w0 μ (.ptr b off) (.pointer (some ⟨k.c, k.base + off, none⟩))
  | iptr (cs : List AV) (off : Nat) (g o : Nat) (vs : List Value) (hg : True) (hl : cs.length = vs.length)
      (hv : ∀ (i : Nat) (v : Value), vs[i]? = some v → μ.cell g (o + i) = some v) (hr : ∀ (i : Nat) (x : AV) (v : Value), cs[i]? = some x → vs[i]? = some v → VR w0 μ x v) :
      VR w0 μ (.iptr cs off) (.pointer (some ⟨g, o + off, none⟩))
  | nils : VR w0 μ .nils (.slice none 0 0)
  | slice (b off len sz cap : Nat) (a : Addr) (k : Blk) (hk : μ b = some k) (hc : len ≤ cap)
      (ha : cap ≠ 0 → a = ⟨k.c, k.base + off, none⟩ ∧ k.base + off + cap * sz ≤ k.size) : VR w0 μ (.slice b off len sz) (.slice (some a) len cap)
  | islice (cs : List AV) (off len sz cap : Nat) (a : Addr) (g o : Nat) (vs : List Value) (hg : True) (hl : cs.length = vs.length)
      (hv : ∀ (i : Nat) (v : Value), vs[i]? = some v → μ.cell g (o + i) = some v) (hr : ∀ (i : Nat) (x : AV) (v : Value), cs[i]? = some x → vs[i]? = some v → VR w0 μ x v)
      (hc : len ≤ cap) (ha : cap ≠ 0 → a = ⟨g, o + off, none⟩) : VR w0 μ (.islice cs off len sz) (.slice (some a) len cap)
  | nilm : VR w0 μ .nilm (.map none)
  | map (b : Nat) (k : Blk) (hk : μ b = some k) : VR w0 μ (.map b) (.map (some k.c))
  | nilf : VR w0 μ .nilf .nilFunc
  | func (f : FuncId) (xs ys : List AV) (us vs : List Value) (h1 : xs.length = us.length) (h2 : ys.length = vs.length)
      (r1 : ∀ (i : Nat) (x : AV) (v : Value), xs[i]? = some x → us[i]? = some v → VR w0 μ x v) (r2 : ∀ (i : Nat) (x : AV) (v : Value), ys[i]? = some x → vs[i]? = some v → VR w0 μ x v) :
      VR w0 μ (.func f xs ys) (.func (.func f) us.toArray vs.toArray)
  | nili : VR w0 μ .nili .nilIface
  | iface (t : TypeId) (x : AV) (v : Value) (h : VR w0 μ x v) : VR w0 μ (.iface t x) (.iface t v)
  | agg (cs : List AV) (vs : List Value) (hl : cs.length = vs.length) (hr : ∀ (i : Nat) (x : AV) (v : Value), cs[i]? = some x → vs[i]? = some v → VR w0 μ x v) : VR w0 μ (.agg cs) (.agg vs.toArray)
  | tuple (cs : List AV) (vs : List Value) (hl : cs.length = vs.length) (hr : ∀ (i : Nat) (x : AV) (v : Value), cs[i]? = some x → vs[i]? = some v → VR w0 μ x v) : VR w0 μ (.tuple cs) (.tuple vs.toArray)

/-- Two rows, cell by cell. -/
structure VRL (w0 : World) (μ : Mu) (cs : List AV) (vs : List Value) : Prop where
  len : cs.length = vs.length
  rel : ∀ (i : Nat) (x : AV) (v : Value), cs[i]? = some x → vs[i]? = some v → VR w0 μ x v

structure Mu.le (μ μ' : Mu) : Prop where
  own : ∀ b k, μ b = some k → μ' b = some k
  frz : ∀ c vs, μ.z c = some vs → μ'.z c = some vs
theorem Mu.le.refl (μ : Mu) : μ.le μ := ⟨fun _ _ h => h, fun _ _ h => h⟩
theorem Mu.le.trans {a b c : Mu} (h : a.le b) (k : b.le c) : a.le c := ⟨fun x y e => k.own x y (h.own x y e), fun x y e => k.frz x y (h.frz x y e)⟩
theorem Mu.le.cell {μ μ' : Mu} (h : μ.le μ') {g i : Nat} {v : Value} (hc : μ.cell g i = some v) : μ'.cell g i = some v := by
  unfold Mu.cell at hc ⊢
  obtain ⟨vs, hv, hi⟩ := Option.bind_eq_some_iff.1 hc
  rw [h.frz _ _ hv]; exact hi

section
variable {w0 : World} {μ μ' : Mu}
theorem VR.mono (hm : μ.le μ') {x : AV} {v : Value} (h : VR w0 μ x v) : VR w0 μ' x v := by
  induction h with
  | undef v => exact .undef v
  | bool b => exact .bool b
  | int k n => exact .int k n
  | str s => exact .str s
  | nilp => exact .nilp
  | ptr b off k hk => exact .ptr b off k (hm.own _ _ hk)
  | iptr cs off g o vs hg hl hv hr ih => exact .iptr cs off g o vs trivial hl (fun i v h => hm.cell (hv i v h)) ih
  | nils => exact .nils
  | slice b off len sz cap a k hk hc ha => exact .slice b off len sz cap a k (hm.own _ _ hk) hc ha
  | islice cs off len sz cap a g o vs hg hl hv hr hc ha ih => exact .islice cs off len sz cap a g o vs trivial hl (fun i v h => hm.cell (hv i v h)) ih hc ha
  | nilm => exact .nilm
  | map b k hk => exact .map b k (hm.own _ _ hk)
  | nilf => exact .nilf
  | func f xs ys us vs h1 h2 r1 r2 ih1 ih2 => exact .func f xs ys us vs h1 h2 ih1 ih2
  | nili => exact .nili
  | iface t x v h ih => exact .iface t x v ih
  | agg cs vs hl hr ih => exact .agg cs vs hl ih
  | tuple cs vs hl hr ih => exact .tuple cs vs hl ih

theorem VRL.mono (hm : μ.le μ') {xs : List AV} {vs : List Value} (h : VRL w0 μ xs vs) : VRL w0 μ' xs vs := ⟨h.len, fun i x v a b => (h.rel i x v a b).mono hm⟩
theorem VRL.nil : VRL w0 μ [] [] := ⟨rfl, by simp⟩
theorem VRL.cons {x : AV} {v : Value} {xs : List AV} {vs : List Value} (h : VR w0 μ x v) (t : VRL w0 μ xs vs) : VRL w0 μ (x :: xs) (v :: vs) :=
  ⟨by simp [t.len], fun i y u a b => by
    cases i with
    | zero => simp at a b; subst a; subst b; exact h
    | succ i => simp at a b; exact t.rel i y u a b⟩
theorem VRL.head {x : AV} {v : Value} {xs : List AV} {vs : List Value} (h : VRL w0 μ (x :: xs) (v :: vs)) : VR w0 μ x v := h.rel 0 x v rfl rfl
theorem VRL.tail {x : AV} {v : Value} {xs : List AV} {vs : List Value} (h : VRL w0 μ (x :: xs) (v :: vs)) : VRL w0 μ xs vs :=
  ⟨by have := h.len; simpa using this, fun i y u a b => h.rel (i + 1) y u (by simpa using a) (by simpa using b)⟩
theorem VRL.append {xs ys : List AV} {us vs : List Value} (h : VRL w0 μ xs us) (k : VRL w0 μ ys vs) : VRL w0 μ (xs ++ ys) (us ++ vs) := by
  induction xs generalizing us with
  | nil => cases us with
    | nil => exact k
    | cons u us => exact absurd h.len (by simp)
  | cons x xs ih => cases us with
    | nil => exact absurd h.len (by simp)
    | cons u us => exact .cons h.head (ih h.tail)
theorem VRL.map {α : Type} {f : α → AV} {g : α → Value} (l : List α) (h : ∀ a, a ∈ l → VR w0 μ (f a) (g a)) : VRL w0 μ (l.map f) (l.map g) := by
  induction l with
  | nil => exact .nil
  | cons a l ih => exact .cons (h a (by simp)) (ih fun b hb => h b (by simp [hb]))
theorem VRL.get {xs : List AV} {vs : List Value} (h : VRL w0 μ xs vs) {i : Nat} {x : AV} (hx : xs[i]? = some x) : ∃ v, vs[i]? = some v ∧ VR w0 μ x v := by
  have hi : i < xs.length := (List.getElem?_eq_some_iff.1 hx).1
  have hj : i < vs.length := h.len ▸ hi
  exact ⟨vs[i], by simp [hj], h.rel i x _ hx (by simp [hj])⟩
theorem VRL.drop {xs : List AV} {vs : List Value} (h : VRL w0 μ xs vs) (n : Nat) : VRL w0 μ (xs.drop n) (vs.drop n) :=
  ⟨by simp [h.len], fun i x v a b => h.rel (n + i) x v (by simpa using a) (by simpa using b)⟩
theorem VRL.take {xs : List AV} {vs : List Value} (h : VRL w0 μ xs vs) (n : Nat) : VRL w0 μ (xs.take n) (vs.take n) :=
  ⟨by simp [h.len], fun i x v a b => by
    rw [List.getElem?_take] at a b
    split at a
    · rename_i hi; rw [if_pos hi] at b; exact h.rel i x v a b
    · cases a⟩
theorem VRL.set {xs : List AV} {vs : List Value} (h : VRL w0 μ xs vs) (n : Nat) {x : AV} {v : Value} (hx : VR w0 μ x v) : VRL w0 μ (xs.set n x) (vs.set n v) :=
  ⟨by simp [h.len], fun i y u a b => by
    rw [List.getElem?_set] at a b
    split at a
    · rename_i hi
      subst hi
      simp only [if_true] at b
      split at a
      · rename_i hlt
        rw [if_pos (h.len ▸ hlt)] at b
        cases a; cases b; exact hx
      · cases a
    · rename_i hi
      rw [if_neg hi] at b
      exact h.rel i y u a b⟩
theorem VRL.nil_inv {vs : List Value} (h : VRL w0 μ [] vs) : vs = [] := by
  have := h.len
  exact List.eq_nil_of_length_eq_zero (by simpa using this.symm)
theorem VRL.cons_inv {x : AV} {xs : List AV} {vs : List Value} (h : VRL w0 μ (x :: xs) vs) : ∃ u us, vs = u :: us ∧ VR w0 μ x u ∧ VRL w0 μ xs us := by
  cases vs with
  | nil => exact absurd h.len (by simp)
  | cons u us => exact ⟨u, us, rfl, h.head, h.tail⟩

/-- The cells of a value. -/
theorem VR.cells {x : AV} {v : Value} (h : VR w0 μ x v) (hx : oneAll x.cellsL = true) : VRL w0 μ x.cellsL v.cells.toList := by
  cases h with
  | agg cs vs hl hr => exact ⟨by simpa [AV.cellsL, Value.cells] using hl, by simpa [AV.cellsL, Value.cells] using hr⟩
  | undef v => simp [AV.cellsL, oneAll, AV.one] at hx
  | tuple cs vs hl hr => simp [AV.cellsL, oneAll, AV.one] at hx
  | bool b => exact .cons (.bool b) .nil
  | int k n => exact .cons (.int k n) .nil
  | str s => exact .cons (.str s) .nil
  | nilp => exact .cons .nilp .nil
  | ptr b off k hk => exact .cons (.ptr b off k hk) .nil
  | iptr cs off g o vs hg hl hv hr => exact .cons (.iptr cs off g o vs hg hl hv hr) .nil
  | nils => exact .cons .nils .nil
  | slice b off len sz cap a k hk hc ha => exact .cons (.slice b off len sz cap a k hk hc ha) .nil
  | islice cs off len sz cap a g o vs hg hl hv hr hc ha => exact .cons (.islice cs off len sz cap a g o vs hg hl hv hr hc ha) .nil
  | nilm => exact .cons .nilm .nil
  | map b k hk => exact .cons (.map b k hk) .nil
  | nilf => exact .cons .nilf .nil
  | func f xs ys us vs h1 h2 r1 r2 => exact .cons (.func f xs ys us vs h1 h2 r1 r2) .nil
  | nili => exact .cons .nili .nil
  | iface t x v h => exact .cons (.iface t x v h) .nil
theorem VR.oneCell {x : AV} {v : Value} (h : VR w0 μ x v) (hx : x.one = true) : v.oneCell' = true := by
  cases h <;> simp_all [AV.one, Value.oneCell']
theorem oneAll_mem {cs : List AV} (h : oneAll cs = true) : ∀ (i : Nat) (x : AV), cs[i]? = some x → x.one = true := by
  induction cs with
  | nil => intro i x hx; simp at hx
  | cons c cs ih =>
    simp only [oneAll, Bool.and_eq_true] at h
    intro i x hx
    cases i with
    | zero => simp at hx; subst hx; exact h.1
    | succ i => exact ih h.2 i x (by simpa using hx)
theorem VRL.oneCells {xs : List AV} {vs : List Value} (h : VRL w0 μ xs vs) (hx : oneAll xs = true) : ∀ v ∈ vs, v.oneCell' = true := by
  intro v hv
  obtain ⟨i, hi, rfl⟩ := List.getElem_of_mem hv
  have hi' : i < xs.length := h.len ▸ hi
  exact (h.rel i xs[i] vs[i] (by simp [hi']) (by simp [hi])).oneCell (oneAll_mem hx i _ (by simp [hi']))

theorem VR.ofScalar (v : Value) : VR w0 μ (ofScalar v) v := by
  unfold Go.AM.ofScalar
  split
  · exact .bool _
  · exact .int _ _
  · exact .str _
  · exact .nilp
  · exact .nils
  · exact .nilm
  · exact .nilf
  · exact .nili
  · exact .undef _
theorem VR.ofConst (v : Value) : VR w0 μ (ofConst v) v := by
  unfold Go.AM.ofConst
  split
  · rename_i cs
    have h := VRL.map (w0 := w0) (μ := μ) (f := Go.AM.ofScalar) (g := fun v => v) cs.toList (fun a _ => VR.ofScalar a)
    simp only [List.map_id'] at h
    have := VR.agg (w0 := w0) (μ := μ) _ _ h.len h.rel
    simpa using this
  · exact VR.ofScalar _
end
end Go.AM
