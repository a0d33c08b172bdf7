/- Heaps that are related to worlds, and how they abide new blocks and stores. Conditions: none. -/
import Derived.Test.YthmbnnjimbjplaaGreatDoorAmRel
set_option linter.unusedVariables false
namespace Go.AM
open Go Go.RowKit

def ObjR (w0 : World) (μ : Mu) (o : AObj) (k : Blk) (ob : Option Obj) : Prop :=
  match o with
  | .dead => True
  | .cells cs => ∃ vs e fr, ob = some (.cells vs e fr) ∧ vs.size = k.size ∧ k.base + cs.length ≤ k.size ∧ (fr.2 ≤ fr.1 ∨ k.size ≤ fr.1) ∧
      ∀ (i : Nat) (x : AV), cs[i]? = some x → ∃ v, vs[k.base + i]? = some v ∧ VR w0 μ x v
  | .map es ck => ∃ ces, ob = some (.map ces ck) ∧ ces.size = es.length ∧
      ∀ (i : Nat) (k v : AV) (n : Nat), es[i]? = some (k, v, n) → ∃ e, ces[i]? = some e ∧ VR w0 μ k e.key ∧ VR w0 μ v e.val ∧ e.born = n
  | .siter s pos => k.base = 0 ∧ ∃ s', ob = some (.stringIter s' pos) ∧ s'.data.toList = s
  | .miter m since seen st => k.base = 0 ∧ ∃ r, ob = some (.mapIter r since seen.toArray st) ∧ (match m with
      | none => r = none
      | some b => ∃ k, μ b = some k ∧ r = some k.c)
  | .box x => k.base = 0 ∧ ∃ v e, ob = some (.cells #[v] e (0, 0)) ∧ VR w0 μ x v

structure Good (w0 : World) (μ : Mu) (h : Heap) (w : World) : Prop where
  below : Below w0.heap.size w0 w
  clean : ∀ b, h.next ≤ b → h.get b = none
  fresh : ∀ b k, μ b = some k → b < h.next
  own : ∀ b k, μ b = some k → w0.heap.size ≤ k.c ∧ k.c < w.heap.size
  frz : ∀ c vs, μ.z c = some vs → ∃ arr e fr, w.heap[c]? = some (.cells arr e fr) ∧ arr.toList = vs
  apart : ∀ b k, μ b = some k → μ.z k.c = none
  obj : ∀ b k o, μ b = some k → h.get b = some o → ObjR w0 μ o k (w.heap[k.c]?)
  inj : ∀ b b' k k' o o', μ b = some k → μ b' = some k' → h.get b = some o → h.get b' = some o' → o ≠ .dead → o' ≠ .dead → k.c = k'.c → b = b'

structure Ext (μ : Mu) (h : Heap) (w : World) (μ' : Mu) (h' : Heap) (w' : World) : Prop where
  mono : μ.le μ'
  frame : ∀ k, k < w.heap.size → (∀ b kk, μ b = some kk → kk.c ≠ k) → w'.heap[k]? = w.heap[k]?
  new : ∀ b k, μ' b = some k → μ b = some k ∨ w.heap.size ≤ k.c ∨ ∃ b0 k0, μ b0 = some k0 ∧ k0.c = k.c
  size : w.heap.size ≤ w'.heap.size
  next : h.next ≤ h'.next
  keep : ∀ b, b < h.next → (∀ k, μ b ≠ some k) → h'.get b = h.get b
  fresh : ∀ b k, μ' b = some k → μ b = some k ∨ h.next ≤ b
  iced : ∀ c vs, μ'.z c = some vs → μ.z c = some vs ∨ w.heap.size ≤ c

theorem Ext.refl (μ : Mu) (h : Heap) (w : World) : Ext μ h w μ h w := ⟨Mu.le.refl μ, fun _ _ _ => rfl, fun _ _ h => .inl h, Nat.le_refl _, Nat.le_refl _, fun _ _ _ => rfl, fun _ _ h => .inl h, fun _ _ h => .inl h⟩
theorem Ext.trans {a b c : Mu} {x y z : Heap} {u v w : World} (h : Ext a x u b y v) (k : Ext b y v c z w) : Ext a x u c z w := by
  refine ⟨h.mono.trans k.mono, fun i hi hn => ?_, fun x kk hx => ?_, Nat.le_trans h.size k.size, Nat.le_trans h.next k.next, fun i hi hn => ?_, fun i kk hx => ?_, fun c vs hx => ?_⟩
  · rw [k.frame i (Nat.lt_of_lt_of_le hi h.size) ?_, h.frame i hi hn]
    intro b' kk hb'
    rcases h.new b' kk hb' with h1 | h1 | ⟨b0, k0, h1, h2⟩
    · exact hn _ _ h1
    · omega
    · rw [← h2]; exact hn _ _ h1
  · rcases k.new x kk hx with h1 | h1 | ⟨b0, k0, h1, h2⟩
    · exact h.new x kk h1
    · exact .inr (.inl (Nat.le_trans h.size h1))
    · rcases h.new b0 k0 h1 with h3 | h3 | ⟨b1, k1, h3, h4⟩
      · exact .inr (.inr ⟨b0, k0, h3, h2⟩)
      · exact .inr (.inl (by omega))
      · exact .inr (.inr ⟨b1, k1, h3, by omega⟩)
  · rw [k.keep i (Nat.lt_of_lt_of_le hi h.next) ?_, h.keep i hi hn]
    intro kk hk
    rcases h.fresh i kk hk with h1 | h1
    · exact hn kk h1
    · omega
  · rcases k.fresh i kk hx with h1 | h1
    · exact h.fresh i kk h1
    · exact .inr (Nat.le_trans h.next h1)
  · rcases k.iced c vs hx with h1 | h1
    · exact h.iced c vs h1
    · exact .inr (Nat.le_trans h.size h1)
/-- Only the worlds' heaps count. -/
theorem Ext.of_same {μ μ' : Mu} {h h' : Heap} {w v w' : World} (e : v.heap = w.heap) (x : Ext μ h v μ' h' w') : Ext μ h w μ' h' w' :=
  ⟨x.mono, fun i hi => by rw [← e] at hi ⊢; exact x.frame i hi, fun b kk hb => by rw [← e]; exact x.new b kk hb, by rw [← e]; exact x.size, x.next, x.keep, x.fresh, fun c vs hc => by rw [← e]; exact x.iced c vs hc⟩

section
variable {w0 : World} {μ μ' : Mu} {h : Heap} {w : World}

theorem ObjR.mono (hm : μ.le μ') {o : AObj} {k : Blk} {ob : Option Obj} (hr : ObjR w0 μ o k ob) : ObjR w0 μ' o k ob := by
  cases o with
  | dead => trivial
  | cells cs =>
    obtain ⟨vs, e, fr, h1, h2, h3, h4, h5⟩ := hr
    exact ⟨vs, e, fr, h1, h2, h3, h4, fun i x hx => let ⟨v, a, b⟩ := h5 i x hx; ⟨v, a, b.mono hm⟩⟩
  | map es ck =>
    obtain ⟨ces, h1, h2, h3⟩ := hr
    exact ⟨ces, h1, h2, fun i k v n hx => let ⟨e, a, b, c, d⟩ := h3 i k v n hx; ⟨e, a, b.mono hm, c.mono hm, d⟩⟩
  | siter s pos => exact hr
  | miter m since seen st =>
    obtain ⟨h0, r, h1, h2⟩ := hr
    refine ⟨h0, r, h1, ?_⟩
    cases m with
    | none => exact h2
    | some b => obtain ⟨k, a, b⟩ := h2; exact ⟨k, hm.own _ _ a, b⟩
  | box x =>
    obtain ⟨h0, v, e, h1, h2⟩ := hr
    exact ⟨h0, v, e, h1, h2.mono hm⟩

/-- The frame of draws alone. -/
theorem Good.same (hg : Good w0 μ h w) {w' : World} (hh : w'.heap = w.heap) (h1 : w'.os = w.os) (h2 : w'.tape = w.tape) (h3 : w'.output = w.output) : Good w0 μ h w' :=
  ⟨⟨h1.trans hg.below.os, h2.trans hg.below.tape, h3.trans hg.below.output, by rw [hh]; exact hg.below.size, fun k hk => by rw [hh]; exact hg.below.block k hk⟩,
   hg.clean, hg.fresh, fun b k hb => by rw [hh]; exact hg.own b k hb, fun c vs hc => by rw [hh]; exact hg.frz c vs hc, hg.apart, fun b k o hb ho => by rw [hh]; exact hg.obj b k o hb ho, hg.inj⟩

theorem Good.ptr_lt (hg : Good w0 μ h w) {b : Nat} {k : Blk} (hb : μ b = some k) : b ≠ h.next := fun e => by have := hg.fresh b k hb; omega

/-! ### A new block -/
def Mu.add (μ : Mu) (b : Nat) (k : Blk) : Mu := ⟨fun x => if x = b then some k else μ x, μ.z⟩
theorem Mu.add_m (μ : Mu) (b : Nat) (k : Blk) (x : Nat) : (μ.add b k) x = if x = b then some k else μ x := rfl
theorem Mu.add_z (μ : Mu) (b : Nat) (k : Blk) (c : Nat) : (μ.add b k).z c = μ.z c := rfl
theorem Mu.add_same (μ : Mu) (b : Nat) (k : Blk) : μ.add b k b = some k := if_pos rfl
theorem Mu.le_add {b : Nat} {k : Blk} (hb : ∀ kk, μ b ≠ some kk) : μ.le (μ.add b k) := ⟨fun x kk hx => by
  show (if x = b then some k else μ x) = some kk
  by_cases e : x = b
  · subst e; exact absurd hx (hb kk)
  · rw [if_neg e]; exact hx, fun _ _ h => h⟩
theorem Good.frz_lt (hg : Good w0 μ h w) {c : Nat} {vs : List Value} (hc : μ.z c = some vs) : c < w.heap.size := by
  obtain ⟨arr, e, fr, h1, _⟩ := hg.frz c vs hc
  exact (Array.getElem?_eq_some_iff.1 h1).1
theorem Good.frz_keep (hg : Good w0 μ h w) {w' : World} (hk : ∀ c vs, μ.z c = some vs → w'.heap[c]? = w.heap[c]?) : ∀ c vs, μ.z c = some vs → ∃ arr e fr, w'.heap[c]? = some (.cells arr e fr) ∧ arr.toList = vs :=
  fun c vs hc => by rw [hk c vs hc]; exact hg.frz c vs hc
theorem Good.not_next (hg : Good w0 μ h w) : ∀ kk, μ h.next ≠ some kk := fun kk e => by have := hg.fresh _ _ e; omega

theorem Good.apart_add (hg : Good w0 μ h w) {b : Nat} {k : Blk} (hk : μ.z k.c = none) : ∀ b' k', (μ.add b k) b' = some k' → (μ.add b k).z k'.c = none := fun b' k' hb' => by
  rw [Mu.add_m] at hb'
  by_cases e : b' = b
  · rw [if_pos e] at hb'; cases hb'; exact hk
  · rw [if_neg e] at hb'; exact hg.apart b' k' hb'
theorem Good.frz_new (hg : Good w0 μ h w) : μ.z w.heap.size = none := by
  cases hz : μ.z w.heap.size with
  | none => rfl
  | some vs => have := hg.frz_lt hz; omega

theorem Good.alloc (hg : Good w0 μ h w) (o : AObj) (O : Obj) (n : Nat) (hr : ObjR w0 μ o ⟨w.heap.size, 0, n⟩ (some O)) :
    Good w0 (μ.add h.next ⟨w.heap.size, 0, n⟩) (h.alloc o) (w.alloc O) ∧ Ext μ h w (μ.add h.next ⟨w.heap.size, 0, n⟩) (h.alloc o) (w.alloc O) := by
  have hm : μ.le (μ.add h.next ⟨w.heap.size, 0, n⟩) := Mu.le_add hg.not_next
  have hnew : (w.alloc O).heap[w.heap.size]? = some O := by show (w.heap.push O)[w.heap.size]? = some O; simp
  have hold : ∀ k, k < w.heap.size → (w.alloc O).heap[k]? = w.heap[k]? := fun k hk => Below.heap_alloc w O k hk
  have hsz : (w.alloc O).heap.size = w.heap.size + 1 := by show (w.heap.push O).size = _; simp
  refine ⟨⟨hg.below.alloc (hg.below.size) O, fun b hb => by rw [Heap.get_alloc, if_neg (by simp at hb; omega)]; exact hg.clean b (by simp at hb; omega), ?_, ?_, hg.frz_keep (fun c vs hc => hold c (hg.frz_lt hc)), hg.apart_add hg.frz_new, ?_, ?_⟩, ⟨hm, fun k hk _ => hold k hk, ?_, by omega, Nat.le_succ _, fun b hb _ => by rw [Heap.get_alloc, if_neg (by omega)], fun b k hb => by
      replace hb : (if b = h.next then _ else μ b) = some k := hb
      by_cases e : b = h.next
      · exact .inr (by omega)
      · rw [if_neg e] at hb; exact .inl hb, fun _ _ h => .inl h⟩⟩
  · intro b k hb
    rw [Mu.add_m] at hb
    by_cases e : b = h.next
    · subst e; simp
    · rw [if_neg e] at hb; have := hg.fresh b k hb; simp; omega
  · intro b k hb
    rw [Mu.add_m] at hb
    by_cases e : b = h.next
    · rw [if_pos e] at hb; cases hb; exact ⟨hg.below.size, by rw [hsz]; simp⟩
    · rw [if_neg e] at hb; have := hg.own b k hb; exact ⟨this.1, by rw [hsz]; omega⟩
  · intro b k o' hb ho
    rw [Mu.add_m] at hb
    rw [Heap.get_alloc] at ho
    by_cases e : b = h.next
    · rw [if_pos e] at hb ho
      cases hb; cases ho
      rw [hnew]
      exact hr.mono hm
    · rw [if_neg e] at hb ho
      rw [hold _ (hg.own b k hb).2]
      exact (hg.obj b k o' hb ho).mono hm
  · intro b b' k k' o1 o2 hb hb' ho ho' n1 n2 hc
    rw [Mu.add_m] at hb hb'
    rw [Heap.get_alloc] at ho ho'
    by_cases e : b = h.next
    · by_cases e' : b' = h.next
      · omega
      · rw [if_pos e] at hb; rw [if_neg e'] at hb'
        cases hb
        have := (hg.own b' k' hb').2
        simp at hc; omega
    · by_cases e' : b' = h.next
      · rw [if_neg e] at hb; rw [if_pos e'] at hb'
        cases hb'
        have := (hg.own b k hb).2
        simp at hc; omega
      · rw [if_neg e] at hb ho; rw [if_neg e'] at hb' ho'
        exact hg.inj b b' k k' o1 o2 hb hb' ho ho' n1 n2 hc
  · intro b k hb
    rw [Mu.add_m] at hb
    by_cases e : b = h.next
    · rw [if_pos e] at hb; cases hb; exact .inr (.inl (Nat.le_refl _))
    · rw [if_neg e] at hb; exact .inl hb

/-! ### A block of one's own turned -/
def setO (w : World) (c : Nat) (O : Obj) : World := { w with heap := w.heap.setIfInBounds c O }
theorem setO_same {c : Nat} (hc : c < w.heap.size) (O : Obj) : (setO w c O).heap[c]? = some O := by simp [setO, hc]
theorem setO_other {c k : Nat} (h : k ≠ c) (O : Obj) : (setO w c O).heap[k]? = w.heap[k]? := by
  simp only [setO, Array.getElem?_setIfInBounds]; rw [if_neg (by omega)]
@[simp] theorem setO_size (c : Nat) (O : Obj) : (setO w c O).heap.size = w.heap.size := by simp [setO]

theorem Good.set (hg : Good w0 μ h w) {b : Nat} {k : Blk} (hb : μ b = some k) {o0 : AObj} (ho : h.get b = some o0) (hn : o0 ≠ .dead) (o : AObj) (O : Obj)
    (hr : ObjR w0 μ o k (some O)) : Good w0 μ (h.set b o) (setO w k.c O) ∧ Ext μ h w μ (h.set b o) (setO w k.c O) := by
  have hk := hg.own b k hb
  refine ⟨⟨⟨hg.below.os, hg.below.tape, hg.below.output, by rw [setO_size]; exact hg.below.size, fun i hi => by
      rw [setO_other (by omega)]; exact hg.below.block i hi⟩, fun b' hb' => by rw [Heap.get_set, if_neg (fun e => by have := hg.fresh b k hb; simp at hb'; omega)]; exact hg.clean b' hb', ?_, ?_, hg.frz_keep (fun c vs hc => setO_other (fun e => by rw [e, hg.apart b k hb] at hc; cases hc) O), hg.apart, ?_, ?_⟩, ⟨Mu.le.refl μ, fun i hi hne => ?_, fun _ _ h => .inl h, by rw [setO_size]; exact Nat.le_refl _, Nat.le_refl _,
      fun b' _ hb' => by rw [Heap.get_set, if_neg (by rintro rfl; exact hb' k hb)], fun _ _ h => .inl h, fun _ _ h => .inl h⟩⟩
  · intro b' k' hb'; exact hg.fresh b' k' hb'
  · intro b' k' hb'; rw [setO_size]; exact hg.own b' k' hb'
  · intro b' k' o' hb' ho'
    rw [Heap.get_set] at ho'
    by_cases e : b' = b
    · subst e
      rw [if_pos rfl] at ho'
      cases ho'
      rw [hb] at hb'; cases hb'
      rw [setO_same hk.2]; exact hr
    · rw [if_neg e] at ho'
      by_cases hd : o' = .dead
      · subst hd; trivial
      · have : k'.c ≠ k.c := fun hc => e (hg.inj b' b k' k o' o0 hb' hb ho' ho hd hn hc)
        rw [setO_other this]
        exact hg.obj b' k' o' hb' ho'
  · intro b1 b2 k1 k2 o1 o2 h1 h2 g1 g2 n1 n2 hc
    rw [Heap.get_set] at g1 g2
    by_cases e1 : b1 = b
    · by_cases e2 : b2 = b
      · omega
      · subst e1
        rw [if_neg e2] at g2
        rw [hb] at h1; cases h1
        exact hg.inj b1 b2 k k2 o0 o2 hb h2 ho g2 hn n2 hc
    · by_cases e2 : b2 = b
      · subst e2
        rw [if_neg e1] at g1
        rw [hb] at h2; cases h2
        exact hg.inj b1 b2 k1 k o1 o0 h1 hb g1 ho n1 hn hc
      · rw [if_neg e1] at g1; rw [if_neg e2] at g2
        exact hg.inj b1 b2 k1 k2 o1 o2 h1 h2 g1 g2 n1 n2 hc
  · exact setO_other (fun e => hne b k hb e.symm) O

/-- A block is given up: nothing is asked of it any more. -/
theorem Good.kill (hg : Good w0 μ h w) {b : Nat} {k : Blk} (hb : μ b = some k) : Good w0 μ (h.set b .dead) w := by
  refine ⟨hg.below, fun b' hb' => by rw [Heap.get_set, if_neg (fun e => by have := hg.fresh b k hb; simp at hb'; omega)]; exact hg.clean b' hb', hg.fresh, hg.own, hg.frz, hg.apart, ?_, ?_⟩
  · intro b' k' o' hb' ho'
    rw [Heap.get_set] at ho'
    by_cases e : b' = b
    · rw [if_pos e] at ho'; cases ho'; trivial
    · rw [if_neg e] at ho'; exact hg.obj b' k' o' hb' ho'
  · intro b1 b2 k1 k2 o1 o2 h1 h2 g1 g2 n1 n2 hc
    rw [Heap.get_set] at g1 g2
    by_cases e1 : b1 = b
    · rw [if_pos e1] at g1; cases g1; exact absurd rfl n1
    · by_cases e2 : b2 = b
      · rw [if_pos e2] at g2; cases g2; exact absurd rfl n2
      · rw [if_neg e1] at g1; rw [if_neg e2] at g2
        exact hg.inj b1 b2 k1 k2 o1 o2 h1 h2 g1 g2 n1 n2 hc

theorem Ext.kill {b : Nat} {k : Blk} (hb : μ b = some k) : Ext μ h w μ (h.set b .dead) w :=
  ⟨Mu.le.refl μ, fun _ _ _ => rfl, fun _ _ h => .inl h, Nat.le_refl _, Nat.le_refl _, fun b' _ hb' => by rw [Heap.get_set, if_neg (by rintro rfl; exact hb' k hb)], fun _ _ h => .inl h, fun _ _ h => .inl h⟩

/-- A block that is none yet in the world. -/
theorem Good.unborn (hg : Good w0 μ h w) (o : AObj) : Good w0 μ (h.alloc o) w ∧ Ext μ h w μ (h.alloc o) w := by
  have hne : ∀ b k, μ b = some k → b ≠ h.next := fun b k hb e => by have := hg.fresh b k hb; omega
  refine ⟨⟨hg.below, fun b hb => by rw [Heap.get_alloc, if_neg (by simp at hb; omega)]; exact hg.clean b (by simp at hb; omega), fun b k hb => by have := hg.fresh b k hb; simp; omega, hg.own, hg.frz, hg.apart,
    fun b k o' hb ho => by rw [Heap.get_alloc, if_neg (hne b k hb)] at ho; exact hg.obj b k o' hb ho,
    fun b1 b2 k1 k2 o1 o2 h1 h2 g1 g2 n1 n2 hc => by
      rw [Heap.get_alloc, if_neg (hne _ _ h1)] at g1
      rw [Heap.get_alloc, if_neg (hne _ _ h2)] at g2
      exact hg.inj b1 b2 k1 k2 o1 o2 h1 h2 g1 g2 n1 n2 hc⟩,
    ⟨Mu.le.refl μ, fun _ _ _ => rfl, fun _ _ h => .inl h, Nat.le_refl _, Nat.le_succ _, fun b hb _ => by rw [Heap.get_alloc, if_neg (by omega)], fun _ _ h => .inl h, fun _ _ h => .inl h⟩⟩

/-- A block that the abstract heap holds already comes to be. -/
theorem Good.adopt (hg : Good w0 μ h w) {b : Nat} (hb : b < h.next) (hn : ∀ k, μ b ≠ some k) {o : AObj} (ho : h.get b = some o) (O : Obj) (n : Nat) (hr : ObjR w0 μ o ⟨w.heap.size, 0, n⟩ (some O)) :
    Good w0 (μ.add b ⟨w.heap.size, 0, n⟩) h (w.alloc O) := by
  have hm : μ.le (μ.add b ⟨w.heap.size, 0, n⟩) := Mu.le_add hn
  have hnew : (w.alloc O).heap[w.heap.size]? = some O := by show (w.heap.push O)[w.heap.size]? = some O; simp
  have hold : ∀ k, k < w.heap.size → (w.alloc O).heap[k]? = w.heap[k]? := fun k hk => Below.heap_alloc w O k hk
  have hsz : (w.alloc O).heap.size = w.heap.size + 1 := by show (w.heap.push O).size = _; simp
  refine ⟨hg.below.alloc (hg.below.size) O, hg.clean, ?_, ?_, hg.frz_keep (fun c vs hc => hold c (hg.frz_lt hc)), hg.apart_add hg.frz_new, ?_, ?_⟩
  · intro b' k hb'
    rw [Mu.add_m] at hb'
    by_cases e : b' = b
    · subst e; exact hb
    · rw [if_neg e] at hb'; exact hg.fresh b' k hb'
  · intro b' k hb'
    rw [Mu.add_m] at hb'
    by_cases e : b' = b
    · rw [if_pos e] at hb'; cases hb'; exact ⟨hg.below.size, by rw [hsz]; simp⟩
    · rw [if_neg e] at hb'; have := hg.own b' k hb'; exact ⟨this.1, by rw [hsz]; omega⟩
  · intro b' k o' hb' ho'
    rw [Mu.add_m] at hb'
    by_cases e : b' = b
    · rw [if_pos e] at hb'
      subst e
      rw [ho] at ho'
      cases hb'; cases ho'
      rw [hnew]
      exact hr.mono hm
    · rw [if_neg e] at hb'
      rw [hold _ (hg.own b' k hb').2]
      exact (hg.obj b' k o' hb' ho').mono hm
  · intro b1 b2 k1 k2 o1 o2 h1 h2 g1 g2 n1 n2 hc
    rw [Mu.add_m] at h1 h2
    by_cases e : b1 = b
    · by_cases e' : b2 = b
      · omega
      · rw [if_pos e] at h1; rw [if_neg e'] at h2
        cases h1
        have := (hg.own b2 k2 h2).2
        simp at hc; omega
    · by_cases e' : b2 = b
      · rw [if_neg e] at h1; rw [if_pos e'] at h2
        cases h2
        have := (hg.own b1 k1 h1).2
        simp at hc; omega
      · rw [if_neg e] at h1; rw [if_neg e'] at h2
        exact hg.inj b1 b2 k1 k2 o1 o2 h1 h2 g1 g2 n1 n2 hc

/-- A block given up goes on under a new number, its row turned (an append in place). -/
theorem Good.renew (hg : Good w0 μ h w) {b : Nat} {k : Blk} (hb : μ b = some k) {o0 : AObj} (ho : h.get b = some o0) (hn : o0 ≠ .dead) (base : Nat) (o : AObj) (O : Obj)
    (hr : ObjR w0 μ o ⟨k.c, base, k.size⟩ (some O)) :
    Good w0 (μ.add h.next ⟨k.c, base, k.size⟩) ((h.set b .dead).alloc o) (setO w k.c O) ∧ Ext μ h w (μ.add h.next ⟨k.c, base, k.size⟩) ((h.set b .dead).alloc o) (setO w k.c O) := by
  have hk := hg.own b k hb
  have hbn : b ≠ h.next := hg.ptr_lt hb
  have hm : μ.le (μ.add h.next ⟨k.c, base, k.size⟩) := Mu.le_add hg.not_next
  refine ⟨⟨⟨hg.below.os, hg.below.tape, hg.below.output, by rw [setO_size]; exact hg.below.size, fun i hi => by
      rw [setO_other (by omega)]; exact hg.below.block i hi⟩, fun b' hb' => by
      have := hg.fresh b k hb
      rw [Heap.get_alloc, Heap.next_set, if_neg (by simp at hb'; omega), Heap.get_set, if_neg (by simp at hb'; omega)]; exact hg.clean b' (by simp at hb'; omega), ?_, ?_, hg.frz_keep (fun c vs hc => setO_other (fun e => by rw [e, hg.apart b k hb] at hc; cases hc) O), hg.apart_add (hg.apart b k hb), ?_, ?_⟩, ⟨hm, fun i hi hne => ?_, ?_, by rw [setO_size]; exact Nat.le_refl _, by show h.next ≤ h.next + 1; omega,
      fun b' hb1 hb2 => by rw [Heap.get_alloc, Heap.next_set, if_neg (by omega), Heap.get_set, if_neg (by rintro rfl; exact hb2 k hb)], fun b' k' hb' => by
        rw [Mu.add_m] at hb'
        by_cases e : b' = h.next
        · exact .inr (by omega)
        · rw [if_neg e] at hb'; exact .inl hb', fun _ _ h => .inl h⟩⟩
  · intro b' k' hb'
    rw [Mu.add_m] at hb'
    by_cases e : b' = h.next
    · subst e; simp
    · rw [if_neg e] at hb'; have := hg.fresh b' k' hb'; simp; omega
  · intro b' k' hb'
    rw [setO_size]
    rw [Mu.add_m] at hb'
    by_cases e : b' = h.next
    · rw [if_pos e] at hb'; cases hb'; exact hk
    · rw [if_neg e] at hb'; exact hg.own b' k' hb'
  · intro b' k' o' hb' ho'
    rw [Heap.get_alloc, Heap.next_set] at ho'
    rw [Mu.add_m] at hb'
    by_cases e : b' = h.next
    · rw [if_pos e] at hb' ho'
      cases hb'; cases ho'
      rw [setO_same hk.2]; exact hr.mono hm
    · rw [if_neg e] at hb' ho'
      rw [Heap.get_set] at ho'
      by_cases e' : b' = b
      · rw [if_pos e'] at ho'; cases ho'; trivial
      · rw [if_neg e'] at ho'
        by_cases hd : o' = .dead
        · subst hd; trivial
        · have : k'.c ≠ k.c := fun hc => e' (hg.inj b' b k' k o' o0 hb' hb ho' ho hd hn hc)
          rw [setO_other this]
          exact (hg.obj b' k' o' hb' ho').mono hm
  · intro b1 b2 k1 k2 o1 o2 h1 h2 g1 g2 n1 n2 hc
    rw [Heap.get_alloc, Heap.next_set] at g1 g2
    rw [Mu.add_m] at h1 h2
    have key : ∀ b' k' o', μ b' = some k' → (h.set b .dead).get b' = some o' → o' ≠ .dead → k'.c ≠ k.c := by
      intro b' k' o' hb' ho' hd hc
      rw [Heap.get_set] at ho'
      by_cases e' : b' = b
      · rw [if_pos e'] at ho'; cases ho'; exact hd rfl
      · rw [if_neg e'] at ho'; exact e' (hg.inj b' b k' k o' o0 hb' hb ho' ho hd hn hc)
    by_cases e1 : b1 = h.next
    · by_cases e2 : b2 = h.next
      · omega
      · rw [if_pos e1] at h1 g1; rw [if_neg e2] at h2 g2
        cases h1
        exact absurd hc.symm (key b2 k2 o2 h2 g2 n2)
    · by_cases e2 : b2 = h.next
      · rw [if_neg e1] at h1 g1; rw [if_pos e2] at h2 g2
        cases h2
        exact absurd hc (key b1 k1 o1 h1 g1 n1)
      · rw [if_neg e1] at h1 g1; rw [if_neg e2] at h2 g2
        rw [Heap.get_set] at g1 g2
        by_cases d1 : b1 = b
        · rw [if_pos d1] at g1; cases g1; exact absurd rfl n1
        · by_cases d2 : b2 = b
          · rw [if_pos d2] at g2; cases g2; exact absurd rfl n2
          · rw [if_neg d1] at g1; rw [if_neg d2] at g2
            exact hg.inj b1 b2 k1 k2 o1 o2 h1 h2 g1 g2 n1 n2 hc
  · exact setO_other (fun e => hne b k hb e.symm) O
  · intro b' k' hb'
    rw [Mu.add_m] at hb'
    by_cases e : b' = h.next
    · rw [if_pos e] at hb'; cases hb'; exact .inr (.inr ⟨b, k, hb, rfl⟩)
    · rw [if_neg e] at hb'; exact .inl hb'
end
end Go.AM
