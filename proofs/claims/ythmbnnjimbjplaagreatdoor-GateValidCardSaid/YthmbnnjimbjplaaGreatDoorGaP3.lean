/- Gates and circuits: which are valid. Conditions: none. -/
import Derived.Test.YthmbnnjimbjplaaGreatDoorGaP2
namespace Go.AM
open Go Go.Proofs
set_option linter.unusedVariables false
set_option linter.unusedSimpArgs false
noncomputable section

theorem get_ints {x : Sl Int} {i : Nat} {v : Int} (hv : x.l[i]? = some v) {h : Heap} : loadS none (.iptr (x.l.flatMap encI) (i * 1)) h = some (.int .i64 v) := by
  rw [load_elem1 len_encI hv]; rfl
def inB (n : Int) (l : List Int) : Bool := l.all fun x => !decide (x < 0) && !decide (n ≤ x)
theorem ref01_In {n : Int} {x : Sl Int} (hx : x.l.length ≤ big) {h : Heap} {K : Out → Heap → Bool} (hK : K (.ret (.bool (inB n x.l))) h = true) : Sem Tryz.prog 108 [.int .i64 n, encSl encI 1 x] h K := by
  refine F.ref01_In_sem ?_
  refine loopB_range 0 x.l.length (Nat.zero_le _) (fun i e h' => h' = h ∧ e 0 = .int .i64 n ∧ e 1 = encSl encI 1 x ∧ e 5 = .int .i64 (i : Int) ∧ inB n (x.l.take i) = true) ⟨rfl, rfl, rfl, rfl, rfl⟩ ?_ ?_
  · rintro i e h' _ hi ⟨rfl, e0, e1, e5, ht⟩ K' hn hx' hr hp
    have hv : x.l[i]? = some x.l[i] := List.getElem?_eq_getElem hi
    rw [F.ref01_In.L0_eq]
    simp only [e0, e1, e5, bindO_some, bindO2_some, outK_ret, condB_bool, cond_t, cond_f, fa_ptr, fa_iptr, part_none, Nat.zero_add, Nat.add_zero, Nat.reduceAdd, List.getElem?_cons_zero, List.getElem?_cons_succ, len_str, lenS_enc, lss_int, leq_int, gtr_int, geq_int, eq_int, ne_int, eq_str, ne_str, eq_bool, ne_bool, not_bool, extract_0, extract_1, extract_2, setV_eq, Nat.reduceEqDiff, reduceIte, lt_true hi, iaS_enc x hi, get_ints hv]
    by_cases h1 : x.l[i] < 0
    · simp only [decide_eq_true h1, cond_t]
      rw [hr, F.ref01_In.L0_r_eq]
      have : inB n x.l = false := all_false hv (by simp [h1])
      rw [this] at hK; exact hK
    · simp only [decide_eq_false h1, cond_f]
      by_cases h2 : n ≤ x.l[i]
      · simp only [decide_eq_true h2, cond_t]
        rw [hr, F.ref01_In.L0_r_eq]
        have : inB n x.l = false := all_false hv (by simp [h2])
        rw [this] at hK; exact hK
      · simp only [decide_eq_false h2, cond_f, succ_i64 hi hx, bindO_some]
        exact hn _ _ ⟨rfl, e0, e1, rfl, take_all hv ht (by simp [h1, h2])⟩
  · rintro e h' ⟨rfl, e0, e1, e5, ht⟩ K' hx'
    rw [F.ref01_In.L0_eq]
    simp only [e0, e1, e5, bindO_some, bindO2_some, outK_ret, condB_bool, cond_t, cond_f, fa_ptr, fa_iptr, part_none, Nat.zero_add, Nat.add_zero, Nat.reduceAdd, List.getElem?_cons_zero, List.getElem?_cons_succ, len_str, lenS_enc, lss_int, leq_int, gtr_int, geq_int, eq_int, ne_int, eq_str, ne_str, eq_bool, ne_bool, not_bool, extract_0, extract_1, extract_2, setV_eq, Nat.reduceEqDiff, reduceIte, lt_false]
    rw [hx', F.ref01_In.L0_x0_eq]
    rw [List.take_of_length_le (Nat.le_refl _)] at ht
    rw [ht] at hK; exact hK

/-- slices.IndexFunc over numbers, its function known at this heap. -/
theorem IndexFunc_int {x : Sl Int} (hx : x.l.length ≤ big) {g : FuncId} {a b : List AV} {h : Heap} {p : Int → Bool} (hp : ∀ (v : Int) (K : Out → Heap → Bool), K (.ret (.bool (p v))) h = true → Sem Tryz.prog g (a ++ ([.int .i64 v] ++ b)) h K)
    {K : Out → Heap → Bool} (hK : ∀ n : Int, decide (0 ≤ n) = x.l.any p → K (.ret (.int .i64 n)) h = true) : Sem Tryz.prog 168 [encSl encI 1 x, .func g a b] h K := by
  refine F.slices_IndexFunc_S_int_int_sem ?_
  simp only [bindO_some, bindO2_some, outK_ret, condB_bool, cond_t, cond_f, fa_ptr, fa_iptr, part_none, Nat.zero_add, Nat.add_zero, Nat.reduceAdd, List.getElem?_cons_zero, List.getElem?_cons_succ, len_str, lenS_enc, lss_int, leq_int, gtr_int, geq_int, eq_int, ne_int, eq_str, ne_str, eq_bool, ne_bool, not_bool, extract_0, extract_1, extract_2, setV_eq, Nat.reduceEqDiff, reduceIte]
  refine loopB_range 0 x.l.length (Nat.zero_le _) (fun i e h' => h' = h ∧ e 0 = encSl encI 1 x ∧ e 1 = .func g a b ∧ e 7 = .int .i64 (x.l.length : Int) ∧ e 8 = .int .i64 (i : Int) ∧ (x.l.take i).any p = false) ⟨rfl, rfl, rfl, rfl, rfl, rfl⟩ ?_ ?_
  · rintro i e h' _ hi ⟨rfl, e0, e1, e7, e8, ht⟩ K' hn hx' hr hp'
    have hv : x.l[i]? = some x.l[i] := List.getElem?_eq_getElem hi
    rw [F.slices_IndexFunc_S_int_int.L0_eq]
    simp only [e0, e1, e7, e8, bindO_some, bindO2_some, outK_ret, condB_bool, cond_t, cond_f, fa_ptr, fa_iptr, part_none, Nat.zero_add, Nat.add_zero, Nat.reduceAdd, List.getElem?_cons_zero, List.getElem?_cons_succ, len_str, lenS_enc, lss_int, leq_int, gtr_int, geq_int, eq_int, ne_int, eq_str, ne_str, eq_bool, ne_bool, not_bool, extract_0, extract_1, extract_2, setV_eq, Nat.reduceEqDiff, reduceIte, lt_true hi, iaS_enc x hi, get_ints hv, callV_func]
    refine semCall_true (hp _ _ ?_)
    simp only [bindO_some, bindO2_some, outK_ret, condB_bool, cond_t, cond_f, fa_ptr, fa_iptr, part_none, Nat.zero_add, Nat.add_zero, Nat.reduceAdd, List.getElem?_cons_zero, List.getElem?_cons_succ, len_str, lenS_enc, lss_int, leq_int, gtr_int, geq_int, eq_int, ne_int, eq_str, ne_str, eq_bool, ne_bool, not_bool, extract_0, extract_1, extract_2, setV_eq, Nat.reduceEqDiff, reduceIte]
    cases hq : p x.l[i] with
    | true =>
      simp only [cond_t]
      rw [hr, F.slices_IndexFunc_S_int_int.L0_r_eq]
      refine hK (i : Int) ?_
      rw [decide_eq_true (by omega : (0 : Int) ≤ (i : Int))]
      exact (List.any_eq_true.2 ⟨_, List.mem_of_getElem? hv, hq⟩).symm
    | false =>
      simp only [cond_f, succ_i64 hi hx, bindO_some]
      exact hn _ _ ⟨rfl, e0, e1, e7, rfl, by rw [List.take_add_one, hv, List.any_append, ht]; simp [hq]⟩
  · rintro e h' ⟨rfl, e0, e1, e7, e8, ht⟩ K' hx'
    rw [F.slices_IndexFunc_S_int_int.L0_eq]
    simp only [e0, e1, e7, e8, bindO_some, bindO2_some, outK_ret, condB_bool, cond_t, cond_f, fa_ptr, fa_iptr, part_none, Nat.zero_add, Nat.add_zero, Nat.reduceAdd, List.getElem?_cons_zero, List.getElem?_cons_succ, len_str, lenS_enc, lss_int, leq_int, gtr_int, geq_int, eq_int, ne_int, eq_str, ne_str, eq_bool, ne_bool, not_bool, extract_0, extract_1, extract_2, setV_eq, Nat.reduceEqDiff, reduceIte, lt_false]
    rw [hx', F.slices_IndexFunc_S_int_int.L0_x0_eq]
    rw [List.take_of_length_le (Nat.le_refl _)] at ht
    exact hK (-1) (by rw [ht]; rfl)
theorem ContainsFunc_int {x : Sl Int} (hx : x.l.length ≤ big) {g : FuncId} {a b : List AV} {h : Heap} {p : Int → Bool} (hp : ∀ (v : Int) (K : Out → Heap → Bool), K (.ret (.bool (p v))) h = true → Sem Tryz.prog g (a ++ ([.int .i64 v] ++ b)) h K)
    {K : Out → Heap → Bool} (hK : K (.ret (.bool (x.l.any p))) h = true) : Sem Tryz.prog 112 [encSl encI 1 x, .func g a b] h K := by
  refine F.slices_ContainsFunc_S_int_int_sem ?_
  refine semCall_true (IndexFunc_int hx hp fun n hn => ?_)
  simp only [bindO_some, bindO2_some, outK_ret, condB_bool, cond_t, cond_f, fa_ptr, fa_iptr, part_none, Nat.zero_add, Nat.add_zero, Nat.reduceAdd, List.getElem?_cons_zero, List.getElem?_cons_succ, len_str, lenS_enc, lss_int, leq_int, gtr_int, geq_int, eq_int, ne_int, eq_str, ne_str, eq_bool, ne_bool, not_bool, extract_0, extract_1, extract_2, setV_eq, Nat.reduceEqDiff, reduceIte]
  rw [hn]; exact hK

structure Gate where
  kind : Int
  name : Str
  at_ : Sl Int
  kids : Sl Int
def encGate (g : Gate) : List AV := [.int .i64 g.kind, .str g.name, encSl encI 1 g.at_, encSl encI 1 g.kids]
theorem len_encGate (g : Gate) : (encGate g).length = 4 := rfl
theorem pure_encGate (g : Gate) : AV.pureL (encGate g) = true := by simp [encGate, AV.pureL, AV.pure, pure_encSl pure_encI]
theorem one_encGate (g : Gate) : oneAll (encGate g) = true := by
  unfold encGate; simp only [oneAll, one_encSl, Bool.and_true]; rfl
def Gate.ok (g : Gate) : Prop := g.name.length ≤ big ∧ g.at_.l.length ≤ big ∧ g.kids.l.length ≤ big
structure Circ where
  size : Int
  gates : Sl Gate
def encCirc (c : Circ) : List AV := [.int .i64 c.size, encSl encGate 4 c.gates]
theorem pure_encCirc (c : Circ) : AV.pureL (encCirc c) = true := by simp [encCirc, AV.pureL, AV.pure, pure_encSl pure_encGate]
theorem one_encCirc (c : Circ) : oneAll (encCirc c) = true := by
  unfold encCirc; simp only [oneAll, one_encSl, Bool.and_true]; rfl
def Circ.ok (c : Circ) : Prop := c.gates.l.length ≤ big ∧ ∀ g ∈ c.gates.l, g.ok

def outB (n : Int) (x : Int) : Bool := decide (x < 0) || decide (n ≤ x)
theorem fitting_1 {b : Nat} {h : Heap} {n : Int} (hb : h.get b = some (.cells [.int .i64 n])) (v : Int) (K : Out → Heap → Bool) (hK : K (.ret (.bool (outB n v))) h = true) : Sem Tryz.prog 166 ([] ++ ([.int .i64 v] ++ [.ptr b 0])) h K := by
  refine F.gate_fitting_1_sem ?_
  simp only [load_ptr hb, bindO_some, bindO2_some, outK_ret, condB_bool, cond_t, cond_f, fa_ptr, fa_iptr, part_none, Nat.zero_add, Nat.add_zero, Nat.reduceAdd, List.getElem?_cons_zero, List.getElem?_cons_succ, len_str, lenS_enc, lss_int, leq_int, gtr_int, geq_int, eq_int, ne_int, eq_str, ne_str, eq_bool, ne_bool, not_bool, extract_0, extract_1, extract_2, setV_eq, Nat.reduceEqDiff, reduceIte]
  unfold outB at hK
  by_cases h1 : v < 0 <;> by_cases h2 : n ≤ v <;> simpa [h1, h2] using hK
theorem fitting_2 {b : Nat} {h : Heap} {n : Int} (hb : h.get b = some (.cells [.int .i64 n])) (v : Int) (K : Out → Heap → Bool) (hK : K (.ret (.bool (outB n v))) h = true) : Sem Tryz.prog 167 ([] ++ ([.int .i64 v] ++ [.ptr b 0])) h K := by
  refine F.gate_fitting_2_sem ?_
  simp only [load_ptr hb, bindO_some, bindO2_some, outK_ret, condB_bool, cond_t, cond_f, fa_ptr, fa_iptr, part_none, Nat.zero_add, Nat.add_zero, Nat.reduceAdd, List.getElem?_cons_zero, List.getElem?_cons_succ, len_str, lenS_enc, lss_int, leq_int, gtr_int, geq_int, eq_int, ne_int, eq_str, ne_str, eq_bool, ne_bool, not_bool, extract_0, extract_1, extract_2, setV_eq, Nat.reduceEqDiff, reduceIte]
  unfold outB at hK
  by_cases h1 : v < 0 <;> by_cases h2 : n ≤ v <;> simpa [h1, h2] using hK

theorem in_out (n : Int) (l : List Int) : inB n l = !(l.any (outB n)) := by
  unfold inB outB
  induction l with
  | nil => rfl
  | cons a l ih => simp only [List.all_cons, List.any_cons, ih]; cases decide (a < 0) <;> cases decide (n ≤ a) <;> rfl
/-- A gate at a place is what its kind asks. -/
def fitB (n : Int) (i : Nat) (g : Gate) : Bool :=
  decide (0 ≤ g.kind) && (decide (g.kind ≤ 4) && (inB (i : Int) g.kids.l &&
    (if g.kind = 1 then nameB g.name && (decide (g.at_.l.length ≤ 12) && (decide (g.kids.l.length = 0) && inB n g.at_.l))
    else decide (g.name = []) && (decide (g.at_.l.length = 0) && ((!decide (g.kind = 0) || decide (g.kids.l.length = 0)) && (!decide (g.kind = 2) || decide (g.kids.l.length = 1)))))))

theorem gate_fitting {g : Gate} (hg : g.ok) {i : Nat} {n : Int} {h : Heap} {K : Out → Heap → Bool} (hK : K (.ret (.bool (fitB n i g))) h = true) : Sem Tryz.prog 109 [.agg (encGate g), .int .i64 (i : Int), .int .i64 n] h K := by
  refine Sem.data (r := .bool (fitB n i g)) ?_ (by simp [AV.pureL, AV.pure, pure_encGate]) hK
  clear hK
  refine F.gate_fitting_sem ?_
  simp only [box_agg (one_encGate g), box_one (x := .int .i64 _) rfl, bindO_some, next_empty, Heap.next_alloc]
  have g0 : (Heap.alloc (Heap.alloc (Heap.alloc Heap.empty (.cells (encGate g))) (.cells [.int .i64 (i : Int)])) (.cells [.int .i64 n])).get 0 = some (.cells (encGate g)) := by simp [Heap.get_alloc, next_empty]
  have g1 : (Heap.alloc (Heap.alloc (Heap.alloc Heap.empty (.cells (encGate g))) (.cells [.int .i64 (i : Int)])) (.cells [.int .i64 n])).get 1 = some (.cells [.int .i64 (i : Int)]) := by simp [Heap.get_alloc, next_empty]
  have g2 : (Heap.alloc (Heap.alloc (Heap.alloc Heap.empty (.cells (encGate g))) (.cells [.int .i64 (i : Int)])) (.cells [.int .i64 n])).get 2 = some (.cells [.int .i64 n]) := by simp [Heap.get_alloc, next_empty]
  generalize (Heap.alloc (Heap.alloc (Heap.alloc Heap.empty (.cells (encGate g))) (.cells [.int .i64 (i : Int)])) (.cells [.int .i64 n])) = H at g0 g1 g2 ⊢
  have fin : ∀ b : Bool, b = fitB n i g → frzK (.bool (fitB n i g)) (.ret (.bool b)) H = true := fun b hb => by rw [hb]; exact frzK_same rfl
  simp only [bindO_some, bindO2_some, outK_ret, condB_bool, cond_t, cond_f, fa_ptr, fa_iptr, part_none, Nat.zero_add, Nat.add_zero, Nat.reduceAdd, List.getElem?_cons_zero, List.getElem?_cons_succ, len_str, lenS_enc, lss_int, leq_int, gtr_int, geq_int, eq_int, ne_int, eq_str, ne_str, eq_bool, ne_bool, not_bool, extract_0, extract_1, extract_2, setV_eq, Nat.reduceEqDiff, reduceIte, load_ptr g0, encGate]
  by_cases k0 : g.kind < 0
  · simp only [decide_eq_true k0, cond_t]
    exact fin _ (by simp only [fitB]; rw [decide_eq_false (by omega)]; rfl)
  simp only [decide_eq_false k0, cond_f]
  by_cases k4 : 5 ≤ g.kind
  · simp only [decide_eq_true k4, cond_t]
    exact fin _ (by simp only [fitB]; rw [decide_eq_false (by omega : ¬ g.kind ≤ 4), Bool.false_and, Bool.and_false])
  simp only [decide_eq_false k4, cond_f]
  have hf : fitB n i g = (inB (i : Int) g.kids.l &&
    (if g.kind = 1 then nameB g.name && (decide (g.at_.l.length ≤ 12) && (decide (g.kids.l.length = 0) && inB n g.at_.l))
    else decide (g.name = []) && (decide (g.at_.l.length = 0) && ((!decide (g.kind = 0) || decide (g.kids.l.length = 0)) && (!decide (g.kind = 2) || decide (g.kids.l.length = 1)))))) := by
    simp only [fitB]; rw [decide_eq_true (by omega : 0 ≤ g.kind), decide_eq_true (by omega : g.kind ≤ 4), Bool.true_and, Bool.true_and]
  rw [hf] at fin ⊢
  clear hf
  refine semCall_true (ContainsFunc_int hg.2.2 (fitting_1 g1) ?_)
  simp only [bindO_some, bindO2_some, outK_ret, condB_bool, cond_t, cond_f, fa_ptr, fa_iptr, part_none, Nat.zero_add, Nat.add_zero, Nat.reduceAdd, List.getElem?_cons_zero, List.getElem?_cons_succ, len_str, lenS_enc, lss_int, leq_int, gtr_int, geq_int, eq_int, ne_int, eq_str, ne_str, eq_bool, ne_bool, not_bool, extract_0, extract_1, extract_2, setV_eq, Nat.reduceEqDiff, reduceIte]
  rw [in_out] at fin ⊢
  cases hq : g.kids.l.any (outB (i : Int)) with
  | true =>
    rw [hq] at fin
    simp only [cond_t]; exact fin _ (by simp)
  | false =>
    rw [hq] at fin
    simp only [cond_f, Bool.not_false, Bool.true_and] at fin ⊢
    simp only [load_ptr g0, bindO_some, bindO2_some, outK_ret, condB_bool, cond_t, cond_f, fa_ptr, fa_iptr, part_none, Nat.zero_add, Nat.add_zero, Nat.reduceAdd, List.getElem?_cons_zero, List.getElem?_cons_succ, len_str, lenS_enc, lss_int, leq_int, gtr_int, geq_int, eq_int, ne_int, eq_str, ne_str, eq_bool, ne_bool, not_bool, extract_0, extract_1, extract_2, setV_eq, Nat.reduceEqDiff, reduceIte, encGate, int_beq]
    by_cases k1 : g.kind = 1
    · simp only [decide_eq_true k1, cond_t]
      rw [if_pos k1] at fin ⊢
      refine semCall_true (shape_Name ?_)
      simp only [bindO_some, bindO2_some, outK_ret, condB_bool, cond_t, cond_f, fa_ptr, fa_iptr, part_none, Nat.zero_add, Nat.add_zero, Nat.reduceAdd, List.getElem?_cons_zero, List.getElem?_cons_succ, len_str, lenS_enc, lss_int, leq_int, gtr_int, geq_int, eq_int, ne_int, eq_str, ne_str, eq_bool, ne_bool, not_bool, extract_0, extract_1, extract_2, setV_eq, Nat.reduceEqDiff, reduceIte, load_ptr g0, encGate, int_beq]
      generalize nameB g.name = nb at fin ⊢
      cases nb with
      | false => simp only [cond_f]; exact fin _ (by rw [Bool.false_and])
      | true =>
        simp only [cond_t, Bool.true_and] at fin ⊢
        by_cases h12 : g.at_.l.length ≤ 12
        · simp only [decide_eq_true (by omega : (g.at_.l.length : Int) ≤ 12), cond_t]
          rw [decide_eq_true h12, Bool.true_and] at fin ⊢
          by_cases hk : g.kids.l.length = 0
          · rw [decide_eq_true hk, Bool.true_and] at fin ⊢
            simp only [decide_eq_true (by omega : (g.kids.l.length : Int) = 0), cond_t]
            refine semCall_true (ContainsFunc_int hg.2.1 (fitting_2 g2) ?_)
            simp only [bindO_some, bindO2_some, outK_ret, condB_bool, cond_t, cond_f, fa_ptr, fa_iptr, part_none, Nat.zero_add, Nat.add_zero, Nat.reduceAdd, List.getElem?_cons_zero, List.getElem?_cons_succ, len_str, lenS_enc, lss_int, leq_int, gtr_int, geq_int, eq_int, ne_int, eq_str, ne_str, eq_bool, ne_bool, not_bool, extract_0, extract_1, extract_2, setV_eq, Nat.reduceEqDiff, reduceIte]
            rw [in_out] at fin ⊢
            exact fin _ rfl
          · rw [decide_eq_false hk, Bool.false_and] at fin ⊢
            simp only [decide_eq_false (by omega : ¬ (g.kids.l.length : Int) = 0), cond_f]
            exact fin _ rfl
        · simp only [decide_eq_false (by omega : ¬ (g.at_.l.length : Int) ≤ 12), cond_f]
          rw [decide_eq_false h12, Bool.false_and] at fin ⊢
          exact fin _ rfl
    · simp only [decide_eq_false k1, cond_f]
      rw [if_neg k1] at fin ⊢
      have e1 : (g.name == ([] : Str)) = decide (g.name = []) := by cases g.name <;> simp
      have e2 : decide ((g.at_.l.length : Int) = 0) = decide (g.at_.l.length = 0) := by simp
      have e3 : decide ((g.kids.l.length : Int) = 0) = decide (g.kids.l.length = 0) := by simp
      have e4 : decide ((g.kids.l.length : Int) = 1) = decide (g.kids.l.length = 1) := by simp; omega
      simp only [e1, e2, e3, e4]
      generalize decide (g.name = []) = b1 at fin ⊢
      generalize decide (g.at_.l.length = 0) = b2 at fin ⊢
      generalize decide (g.kids.l.length = 0) = b3 at fin ⊢
      generalize decide (g.kids.l.length = 1) = b4 at fin ⊢
      generalize decide (g.kind = 0) = b5 at fin ⊢
      generalize decide (g.kind = 2) = b6 at fin ⊢
      cases b1 <;> cases b2 <;> cases b5 <;> cases b6 <;> simp only [cond_t, cond_f, Bool.not_true, Bool.not_false, Bool.true_and, Bool.false_and, Bool.true_or, Bool.false_or, Bool.and_true] at fin ⊢ <;> (try exact fin _ rfl) <;> cases b3 <;> simp only [cond_t, cond_f, Bool.true_and, Bool.false_and] at fin ⊢ <;> exact fin _ rfl
end
end Go.AM
