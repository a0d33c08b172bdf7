/- Closed calls as functions whose contracts are given. Conditions: none. -/
import Derived.Test.YthmbnnjimbjplaaGreatDoorAmFn
set_option linter.unusedVariables false
set_option linter.unusedSimpArgs false
namespace Go.AM
open Go Go.RowKit

def entsBeq : List Entry → List Entry → Bool
  | [], [] => true
  | a :: as, b :: bs => AV.beq a.1 b.1 && (AV.beq a.2.1 b.2.1 && (Nat.beq a.2.2 b.2.2 && entsBeq as bs))
  | _, _ => false
def AObj.beq : AObj → AObj → Bool
  | .dead, .dead => true
  | .cells a, .cells b => AV.beqL a b
  | .map es c, .map fs d => entsBeq es fs && Nat.beq c d
  | .siter s p, .siter t q => decide (s = t) && Nat.beq p q
  | .miter m s l k, .miter m' s' l' k' => decide (m = m') && (Nat.beq s s' && (decide (l = l') && Nat.beq k k'))
  | .box a, .box b => AV.beq a b
  | _, _ => false
def optBeq : Option AObj → Option AObj → Bool
  | some a, some b => AObj.beq a b
  | none, none => true
  | _, _ => false
/-- The first n blocks are the same. -/
def sameTo (h h' : Heap) : Nat → Bool
  | 0 => true
  | n + 1 => optBeq (h.get n) (h'.get n) && sameTo h h' n
def sameH (h h' : Heap) : Bool := Nat.beq h.next h'.next && sameTo h h' h.next
/-- What h1 holds alive among the first n blocks, h holds. -/
def liveTo (h1 h : Heap) : Nat → Bool
  | 0 => true
  | n + 1 => (match h1.get n with
    | some .dead => true
    | none => true
    | some o => optBeq (some o) (h.get n)) && liveTo h1 h n
def allocAll : List AObj → Heap → Heap
  | [], h => h
  | o :: os, h => allocAll os (h.alloc o)
/-- A heap written out. -/
def Heap.ofList (l : List AObj) : Heap := allocAll l Heap.empty

theorem entsBeq_eq : ∀ (a b : List Entry), entsBeq a b = true → a = b
  | [], [], _ => rfl
  | [], _ :: _, h => by cases h
  | _ :: _, [], h => by cases h
  | (k, v, n) :: as, (k', v', n') :: bs, h => by
    simp only [entsBeq, Bool.and_eq_true] at h
    rw [AV.beq_eq _ _ h.1, AV.beq_eq _ _ h.2.1, Nat.eq_of_beq_eq_true h.2.2.1, entsBeq_eq as bs h.2.2.2]
theorem AObj.beq_eq : ∀ (a b : AObj), AObj.beq a b = true → a = b := by
  intro a b h
  cases a <;> cases b <;> simp only [AObj.beq, Bool.false_eq_true, Bool.and_eq_true, decide_eq_true_eq] at h
  · rfl
  · rw [AV.beqL_eq _ _ h]
  · rw [entsBeq_eq _ _ h.1, Nat.eq_of_beq_eq_true h.2]
  · rw [h.1, Nat.eq_of_beq_eq_true h.2]
  · rw [h.1, Nat.eq_of_beq_eq_true h.2.1, h.2.2.1, Nat.eq_of_beq_eq_true h.2.2.2]
  · rw [AV.beq_eq _ _ h]
theorem optBeq_eq {a b : Option AObj} (h : optBeq a b = true) : a = b := by
  cases a <;> cases b <;> simp only [optBeq, Bool.false_eq_true] at h
  · rfl
  · rw [AObj.beq_eq _ _ h]
theorem sameTo_spec {h h' : Heap} : ∀ {n : Nat}, sameTo h h' n = true → ∀ b, b < n → h.get b = h'.get b
  | 0, _, b, hb => by omega
  | n + 1, hs, b, hb => by
    simp only [sameTo, Bool.and_eq_true] at hs
    by_cases e : b = n
    · subst e; exact optBeq_eq hs.1
    · exact sameTo_spec hs.2 b (by omega)
theorem liveTo_spec {h1 h : Heap} : ∀ {n : Nat}, liveTo h1 h n = true → ∀ b o, b < n → h1.get b = some o → o ≠ .dead → h.get b = some o
  | 0, _, b, o, hb, _, _ => by omega
  | n + 1, hs, b, o, hb, ho, hd => by
    simp only [liveTo, Bool.and_eq_true] at hs
    by_cases e : b = n
    · subst e
      rw [ho] at hs
      cases o <;> first | exact absurd rfl hd | exact (optBeq_eq hs.1).symm
    · exact liveTo_spec hs.2 b o (by omega) ho hd

def Heap.Clean (h : Heap) : Prop := ∀ b, h.next ≤ b → h.get b = none
theorem Heap.clean_empty : Heap.empty.Clean := fun b _ => Trie.get_leaf b
theorem Heap.clean_alloc {h : Heap} (hc : h.Clean) (o : AObj) : (h.alloc o).Clean := fun b hb => by
  simp at hb
  rw [Heap.get_alloc, if_neg (by omega)]
  exact hc b (by omega)
theorem Heap.clean_ofList (l : List AObj) : (Heap.ofList l).Clean := by
  have : ∀ (l : List AObj) (h : Heap), h.Clean → (allocAll l h).Clean := by
    intro l
    induction l with
    | nil => intro h hc; exact hc
    | cons o os ih => intro h hc; exact ih _ (Heap.clean_alloc hc o)
  exact this l _ Heap.clean_empty

section
variable {P : Program} {w0 w : World} {μ μ' : Mu} {h h' h1 : Heap}

def Mu.bare (μ : Mu) : Mu := ⟨fun _ => Option.none, μ.z⟩
/-- The blocks of the one, what is frozen of the other. -/
def Mu.iced (μ μ' : Mu) : Mu := ⟨μ.m, μ'.z⟩
theorem Good.weaken (hg : Good w0 μ h w) (hn : h1.next = h.next) (hc : h1.Clean) (hl : ∀ b o, h1.get b = some o → o ≠ .dead → h.get b = some o) : Good w0 μ h1 w := by
  refine ⟨hg.below, hc, fun b k hb => by rw [hn]; exact hg.fresh b k hb, hg.own, hg.frz, hg.apart, fun b k o hb ho => ?_, fun b1 b2 k1 k2 o1 o2 a1 a2 g1 g2 n1 n2 hc' => hg.inj b1 b2 k1 k2 o1 o2 a1 a2 (hl _ _ g1 n1) (hl _ _ g2 n2) n1 n2 hc'⟩
  cases o with
  | dead => trivial
  | _ => exact hg.obj b k _ hb (hl b _ ho (by simp))

theorem Good.nothing (hg : Good w0 μ h w) : Good w0 μ.bare Heap.empty w :=
  ⟨hg.below, Heap.clean_empty, by simp [Mu.bare], by simp [Mu.bare], hg.frz, by simp [Mu.bare], by simp [Mu.bare], by simp [Mu.bare]⟩

/-- A call from nothing leaves what was there as it was. -/
theorem Good.around (hg : Good w0 μ h w) {w' : World} (hg' : Good w0 μ' h' w') (hx : Ext μ.bare Heap.empty w μ' h' w') : Good w0 (μ.iced μ') h w' ∧ Ext μ h w (μ.iced μ') h w' := by
  have hf : ∀ k, k < w.heap.size → w'.heap[k]? = w.heap[k]? := fun k hk => hx.frame k hk (by simp [Mu.bare])
  refine ⟨⟨hg'.below, hg.clean, hg.fresh, fun b k hb => ?_, hg'.frz, fun b k hb => ?_, fun b k o hb ho => ?_, hg.inj⟩, ⟨⟨fun _ _ h => h, hx.mono.frz⟩, fun k hk _ => hf k hk, fun _ _ h => .inl h, hx.size, Nat.le_refl _, fun _ _ _ => rfl, fun _ _ h => .inl h, hx.iced⟩⟩
  · have := hg.own b k hb; have := hx.size; omega
  · show μ'.z k.c = none
    cases hz : μ'.z k.c with
    | none => rfl
    | some vs =>
      rcases hx.iced _ _ hz with h1 | h1
      · have h1' : μ.z k.c = some vs := h1
        rw [hg.apart b k hb] at h1'; cases h1'
      · have := (hg.own b k hb).2; omega
  · have hb' : μ b = some k := hb
    rw [hf _ (hg.own b k hb').2]
    exact ObjR.mono (μ := μ) (μ' := μ.iced μ') ⟨fun _ _ h => h, hx.mono.frz⟩ (hg.obj b k o hb' ho)

/-- A closed call whose answer is a bool, in any heap. -/
def boolP (b : Bool) : List AV → Heap → (Out → Heap → Bool) → Bool := fun args h K =>
  match args with
  | [] => K (.ret (.bool b)) h
  | _ => false
def boolK (b : Bool) : Out → Heap → Bool
  | .ret v, _ => AV.beq v (.bool b)
  | _, _ => false
theorem boolP_sound {call : CallF} (hs : CallSound P call) {f : FuncId} {b : Bool} (he : call f [] Heap.empty (boolK b) = true) (args : List AV) (h : Heap) (K : Out → Heap → Bool) (hK : boolP b args h K = true) :
    Enters P f ∧ ∀ (w0 : World) (μ : Mu) (w : World) (vs : List Value), Good w0 μ h w → VRL w0 μ args vs → Calls P f vs.toArray w (OutR w0 μ h w K) := by
  obtain ⟨hen, hc⟩ := hs _ _ _ _ he
  refine ⟨hen, fun w0 μ w vs hg hv => ?_⟩
  unfold boolP at hK
  split at hK
  · obtain rfl := hv.nil_inv
    refine Calls.mono (hc w0 _ w [] hg.nothing .nil) fun e w' hR => ?_
    cases e with
    | returned vc =>
      obtain ⟨v, h', μ', k1, k2, k3, k4⟩ := hR
      obtain rfl := AV.beq_eq _ _ k1
      obtain ⟨g1, g2⟩ := hg.around k3 k4
      rw [k2.bool_inv]
      exact ⟨_, h, μ.iced μ', hK, .bool b, g1, g2⟩
    | panicked c =>
      obtain ⟨v, vc, h', μ', k1, _⟩ := hR
      cases k1
    | outgrown => exact hR.elim
  · cases hK

/-- A closed call at a heap that is written out. -/
def stageP (a0 : List AV) (hA : Heap) (v1 : AV) (h1 : Heap) : List AV → Heap → (Out → Heap → Bool) → Bool := fun args h K =>
  AV.beqL args a0 && (sameH h hA && K (.ret v1) h1)
def stageK (v1 : AV) (h1 : Heap) (base : Nat) : Out → Heap → Bool
  | .ret v, h => AV.beq v v1 && (Nat.beq h1.next h.next && (sameTo h1 h base && liveTo h1 h h1.next))
  | _, _ => false
theorem stageP_sound {call : CallF} (hs : CallSound P call) {f : FuncId} {a0 : List AV} {lA l1 : List AObj} {v1 : AV} (he : call f a0 (Heap.ofList lA) (stageK v1 (Heap.ofList l1) (Heap.ofList lA).next) = true)
    (args : List AV) (h : Heap) (K : Out → Heap → Bool) (hK : stageP a0 (Heap.ofList lA) v1 (Heap.ofList l1) args h K = true) :
    Enters P f ∧ ∀ (w0 : World) (μ : Mu) (w : World) (vs : List Value), Good w0 μ h w → VRL w0 μ args vs → Calls P f vs.toArray w (OutR w0 μ h w K) := by
  obtain ⟨hen, hc⟩ := hs _ _ _ _ he
  refine ⟨hen, fun w0 μ w vs hg hv => ?_⟩
  simp only [stageP, sameH, Bool.and_eq_true] at hK
  obtain ⟨e1, ⟨e2, e3⟩, e4⟩ := hK
  obtain rfl := AV.beqL_eq _ _ e1
  have hn := Nat.eq_of_beq_eq_true e2
  have hsame := sameTo_spec e3
  have hgA : Good w0 μ (Heap.ofList lA) w := hg.weaken hn.symm (Heap.clean_ofList _) fun b o ho _ => by
    by_cases hb : b < h.next
    · rw [hsame b hb]; exact ho
    · rw [Heap.clean_ofList lA b (by omega)] at ho; cases ho
  refine Calls.mono (hc w0 _ w vs hgA hv) fun e w' hR => ?_
  cases e with
  | returned vc =>
    obtain ⟨v, h', μ', k1, k2, k3, k4⟩ := hR
    simp only [stageK, Bool.and_eq_true] at k1
    obtain ⟨q1, q2, q3, q4⟩ := k1
    obtain rfl := AV.beq_eq _ _ q1
    have hn1 := Nat.eq_of_beq_eq_true q2
    have hs1 := sameTo_spec q3
    have hl1 := liveTo_spec q4
    refine ⟨_, Heap.ofList l1, μ', e4, k2, k3.weaken hn1 (Heap.clean_ofList _) fun b o ho hd => ?_, k4.mono, k4.frame, k4.new, k4.size, ?_, fun b hb hu => ?_, fun b k hb => ?_, k4.iced⟩
    · by_cases hb : b < (Heap.ofList l1).next
      · exact hl1 b o hb ho hd
      · rw [Heap.clean_ofList l1 b (by omega)] at ho; cases ho
    · have := k4.next; omega
    · rw [hs1 b (by omega), k4.keep b (by omega) hu, hsame b hb]
    · rcases k4.fresh b k hb with q | q
      · exact .inl q
      · exact .inr (by omega)
  | panicked c =>
    obtain ⟨v, vc, h', μ', k1, _⟩ := hR
    cases k1
  | outgrown => exact hR.elim
end
end Go.AM
