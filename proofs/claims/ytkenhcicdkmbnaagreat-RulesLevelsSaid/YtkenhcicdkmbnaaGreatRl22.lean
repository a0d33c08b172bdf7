/- The law RulesLevels. Conditions: none. -/
import Derived.Test.YtkenhcicdkmbnaaGreatRl12
import Derived.Test.YtkenhcicdkmbnaaGreatRl19
import Derived.Test.YtkenhcicdkmbnaaGreatRl20
namespace Go.AM
open Go Go.Proofs
set_option linter.unusedVariables false
set_option linter.unusedSimpArgs false
noncomputable section

theorem quo_big {a b : Nat} (hb : 0 < b) (ha : a ≤ big) : binS .quo (.int .i64 (a : Int)) (.int .i64 (b : Int)) = some (.int .i64 ((a / b : Nat) : Int)) := by
  have h : ¬ (b : Int) = 0 := by omega
  simp only [binS, if_true, if_neg h]
  have e : ((a : Int).tdiv (b : Int)) = ((a / b : Nat) : Int) := by rw [Int.tdiv_eq_ediv_of_nonneg (by omega)]; rfl
  have : a / b ≤ a := Nat.div_le_self _ _
  unfold big at ha
  rw [e]
  generalize a / b = q at this
  rw [IntWalk.i64_in _ (by omega)]
theorem load_sub {α : Type} {enc : α → List AV} {sz : Nat} (he : ∀ a, (enc a).length = sz) {l : List α} {i : Nat} {a : α} (ha : l[i]? = some a) {k n : Nat} (hk : k + n ≤ sz) {h : Heap} :
    loadS (some n) (.iptr (l.flatMap enc) (i * sz + k)) h = some (.agg (((enc a).drop k).take n)) := by
  have hi : i < l.length := (List.getElem?_eq_some_iff.1 ha).1
  have hle : i * sz + sz ≤ (l.flatMap enc).length := by
    rw [len_flatMap he]
    have : (i + 1) * sz ≤ l.length * sz := Nat.mul_le_mul_right _ hi
    rw [Nat.add_mul] at this; omega
  show partS (some n) _ _ = _
  simp only [partS]
  rw [if_pos (by omega), ← part_flatMap he l i a ha, List.drop_take, List.take_take, List.drop_drop, Nat.min_eq_left (by omega)]
theorem law07_atom {nm : Str} {xs : Sl Str} (h1 : nm.length ≤ big) (h2 : xs.l.length ≤ big) (h3 : ∀ s ∈ xs.l, s.length ≤ big) {h : Heap} {K : Out → Heap → Bool}
    (hK : ∀ n : Int, (xs.l.length : Int) ≤ n → n ≤ 5000000000000000000 → K (.ret (.int .i64 n)) h = true) : Sem Tryz.prog 20 [.agg [.str nm, encSl encS 1 xs]] h K := by
  have hbb : big = 4611686018427387904 := rfl
  have gen : ∀ R : Out → Heap → Bool, (∀ (n : Int) h', (xs.l.length : Int) ≤ n → n ≤ 5000000000000000000 → R (.ret (.int .i64 n)) h' = true) → Sem Tryz.prog 20 [.agg [.str nm, encSl encS 1 xs]] Heap.empty R := by
    intro R fin
    refine F.law07_atom_sem ?_
    have g0 : (Heap.alloc Heap.empty (.cells (encAt nm xs))).get 0 = some (.cells (encAt nm xs)) := get_alloc_same _ _
    have hb : boxS (.agg [.str nm, encSl encS 1 xs]) = some (encAt nm xs) := box_agg (one_encAt nm xs)
    simp only [hb, bindO_some, next_empty]
    generalize (Heap.alloc Heap.empty (.cells (encAt nm xs))) = H at g0 ⊢
    have hq := quo_big (a := nm.length) (b := 20) (by omega) h1
    have hq' : binS .quo (.int .i64 (nm.length : Int)) (.int .i64 20) = some (.int .i64 ((nm.length / 20 : Nat) : Int)) := hq
    have hdl : nm.length / 20 ≤ 240000000000000000 := by omega
    have hadd := add_i64 (a := (xs.l.length : Int)) (b := ((nm.length / 20 : Nat) : Int)) (by omega) (by omega)
    simp only [bindO_some, bindO2_some, outK_ret, condB_bool, cond_t, cond_f, fa_ptr, fa_iptr, part_none, Nat.zero_add, Nat.add_zero, Nat.reduceAdd, List.getElem?_cons_zero, List.getElem?_cons_succ, len_str, lenS_enc, lss_int, leq_int, gtr_int, geq_int, eq_int, ne_int, eq_str, ne_str, eq_bool, ne_bool, not_bool, extract_0, extract_1, extract_2, setV_eq, Nat.reduceEqDiff, reduceIte, load_ptr g0, encAt, hq', hadd]
    generalize hs0 : (xs.l.length : Int) + ((nm.length / 20 : Nat) : Int) = s0
    refine loopB_range 0 xs.l.length (Nat.zero_le _) (fun i e h' => h' = H ∧ e 1 = .ptr 0 0 ∧ e 4 = .int .i64 (i : Int) ∧ ∃ n : Int, e 3 = .int .i64 n ∧ (xs.l.length : Int) ≤ n ∧ n ≤ 5000000000000000000) ⟨rfl, rfl, rfl, s0, rfl, by omega, by omega⟩ ?_ ?_
    · rintro i e h' _ hi ⟨rfl, e1, e4, n, e3, n1, n2⟩ K' hn hx hr hp
      have hv : xs.l[i]? = some xs.l[i] := List.getElem?_eq_getElem hi
      generalize xs.l[i] = t at hv
      have ht := h3 t (List.mem_of_getElem? hv)
      have hqt : binS .quo (.int .i64 (t.length : Int)) (.int .i64 20) = some (.int .i64 ((t.length / 20 : Nat) : Int)) := quo_big (a := t.length) (b := 20) (by omega) ht
      have hdt : t.length / 20 ≤ 240000000000000000 := by omega
      rw [F.law07_atom.L0_eq]
      simp only [e1, e3, e4, bindO_some, bindO2_some, outK_ret, condB_bool, cond_t, cond_f, fa_ptr, fa_iptr, part_none, Nat.zero_add, Nat.add_zero, Nat.reduceAdd, List.getElem?_cons_zero, List.getElem?_cons_succ, len_str, lenS_enc, lss_int, leq_int, gtr_int, geq_int, eq_int, ne_int, eq_str, ne_str, eq_bool, ne_bool, not_bool, extract_0, extract_1, extract_2, setV_eq, Nat.reduceEqDiff, reduceIte, load_ptr g0, encAt, lt_true hi]
      by_cases hsm : n < 10000
      · have hadd2 := add_i64 (a := n) (b := ((t.length / 20 : Nat) : Int)) (by omega) (by omega)
        simp only [decide_eq_true hsm, cond_t, e1, e4, bindO_some, bindO2_some, outK_ret, condB_bool, cond_t, cond_f, fa_ptr, fa_iptr, part_none, Nat.zero_add, Nat.add_zero, Nat.reduceAdd, List.getElem?_cons_zero, List.getElem?_cons_succ, len_str, lenS_enc, lss_int, leq_int, gtr_int, geq_int, eq_int, ne_int, eq_str, ne_str, eq_bool, ne_bool, not_bool, extract_0, extract_1, extract_2, setV_eq, Nat.reduceEqDiff, reduceIte, load_ptr g0, encAt, iaS_enc xs hi, get_strs hv, hqt, hadd2, succ_i64 hi h2]
        exact hn _ _ ⟨rfl, e1, rfl, _, rfl, by omega, by omega⟩
      · simp only [decide_eq_false hsm, cond_f]
        rw [hx, F.law07_atom.L0_x0_eq]
        simp only [setV_eq, Nat.reduceEqDiff, reduceIte, e3]
        exact fin n _ n1 n2
    · rintro e h' ⟨rfl, e1, e4, n, e3, n1, n2⟩ K' hx
      rw [F.law07_atom.L0_eq]
      simp only [e1, e4, bindO_some, bindO2_some, outK_ret, condB_bool, cond_t, cond_f, fa_ptr, fa_iptr, part_none, Nat.zero_add, Nat.add_zero, Nat.reduceAdd, List.getElem?_cons_zero, List.getElem?_cons_succ, len_str, lenS_enc, lss_int, leq_int, gtr_int, geq_int, eq_int, ne_int, eq_str, ne_str, eq_bool, ne_bool, not_bool, extract_0, extract_1, extract_2, setV_eq, Nat.reduceEqDiff, reduceIte, load_ptr g0, encAt, lt_false]
      rw [hx, F.law07_atom.L0_x0_eq]
      simp only [setV_eq, Nat.reduceEqDiff, reduceIte, e3]
      exact fin n _ n1 n2
  have main := gen (fun o h' => yes (∃ n : Int, o = .ret (.int .i64 n) ∧ (xs.l.length : Int) ≤ n ∧ n ≤ 5000000000000000000)) (fun n h' q1 q2 => yes_eq.2 ⟨n, rfl, q1, q2⟩)
  refine main.frozen (by simp [AV.pureL, AV.pure, pure_encSl pure_encS]) fun o h' ho => ?_
  obtain ⟨n, rfl, q1, q2⟩ := yes_eq.1 ho
  exact ⟨_, _, rfl, .scalar _ rfl, hK n q1 q2⟩

set_option maxHeartbeats 1000000 in
theorem law07_Few {rules : Sl RuleD} (hok : ∀ r ∈ rules.l, r.ok) {h : Heap} {K : Out → Heap → Bool} (hK : ∀ b : Bool, (b = true → ∀ r ∈ rules.l, r.few) → K (.ret (.bool b)) h = true) : Sem Tryz.prog 5 [encSl encRu 3 rules, .int .i64 1500] h K := by
  have gen : ∀ R : Out → Heap → Bool, (∀ (b : Bool) h', (b = true → ∀ r ∈ rules.l, r.few) → R (.ret (.bool b)) h' = true) → Sem Tryz.prog 5 [encSl encRu 3 rules, .int .i64 1500] Heap.empty R := by
    intro R fin
    refine F.law07_Few_sem ?_
    simp only [bindO_some, bindO2_some, outK_ret, condB_bool, cond_t, cond_f, fa_ptr, fa_iptr, part_none, Nat.zero_add, Nat.add_zero, Nat.reduceAdd, List.getElem?_cons_zero, List.getElem?_cons_succ, len_str, lenS_enc, lss_int, leq_int, gtr_int, geq_int, eq_int, ne_int, eq_str, ne_str, eq_bool, ne_bool, not_bool, extract_0, extract_1, extract_2, setV_eq, Nat.reduceEqDiff, reduceIte]
    by_cases h71 : 70 < rules.l.length
    · simp only [decide_eq_true (by omega : (70 : Int) < (rules.l.length : Int)), cond_t]
      exact fin false _ (fun h => by cases h)
    have hbig : rules.l.length ≤ big := by unfold big; omega
    simp only [decide_eq_false (by omega : ¬ (70 : Int) < (rules.l.length : Int)), cond_f]
    refine loopB_range 0 rules.l.length (Nat.zero_le _) (fun i e h' => e 0 = encSl encRu 3 rules ∧ e 1 = .int .i64 1500 ∧ e 6 = .int .i64 (i : Int) ∧ ∃ s : Int, e 5 = .int .i64 s ∧ 0 ≤ s ∧ s ≤ 6000000000000000000 ∧ (s ≤ 1500 → ∀ r ∈ rules.l.take i, r.few)) ⟨rfl, rfl, rfl, 0, rfl, by omega, by omega, fun _ r hr => by simp at hr⟩ ?_ ?_
    · rintro i e h' _ hi ⟨e0, e1, e6, s, e5, s0, s1, hs⟩ K' hn hx hr hp
      have hv : rules.l[i]? = some rules.l[i] := List.getElem?_eq_getElem hi
      generalize rules.l[i] = r at hv
      have hrok := hok r (List.mem_of_getElem? hv)
      have hbb := hrok.2.2.2.1
      have ld : ∀ j, j < 3 → ∀ h, loadS none (.iptr (rules.l.flatMap encRu) (i * 3 + j)) h = (encRu r)[j]? := fun j hj h => load_elem len_encRu hv hj
      have lh : ∀ h, loadS (some 2) (.iptr (rules.l.flatMap encRu) (i * 3)) h = some (.agg [.str r.name, encSl encS 1 r.args]) := fun h => load_sub (k := 0) (n := 2) len_encRu hv (by omega)
      rw [F.law07_Few.L0_eq]
      simp only [e0, e1, e5, e6, bindO_some, bindO2_some, outK_ret, condB_bool, cond_t, cond_f, fa_ptr, fa_iptr, part_none, Nat.zero_add, Nat.add_zero, Nat.reduceAdd, List.getElem?_cons_zero, List.getElem?_cons_succ, len_str, lenS_enc, lss_int, leq_int, gtr_int, geq_int, eq_int, ne_int, eq_str, ne_str, eq_bool, ne_bool, not_bool, extract_0, extract_1, extract_2, setV_eq, Nat.reduceEqDiff, reduceIte, lt_true hi]
      by_cases hle : s ≤ 1500
      · have had1 := add_i64 (a := s) (b := 1) (by omega) (by omega)
        simp only [decide_eq_true hle, cond_t, had1, e0, e6, bindO_some, bindO2_some, outK_ret, condB_bool, cond_t, cond_f, fa_ptr, fa_iptr, part_none, Nat.zero_add, Nat.add_zero, Nat.reduceAdd, List.getElem?_cons_zero, List.getElem?_cons_succ, len_str, lenS_enc, lss_int, leq_int, gtr_int, geq_int, eq_int, ne_int, eq_str, ne_str, eq_bool, ne_bool, not_bool, extract_0, extract_1, extract_2, setV_eq, Nat.reduceEqDiff, reduceIte, iaS_enc rules hi, lh]
        refine semCall_true (law07_atom hrok.1 hrok.2.1 hrok.2.2.1 fun n n1 n2 => ?_)
        have had2 := add_i64 (a := s + 1) (b := n) (by omega) (by omega)
        simp only [bindO_some, bindO2_some, outK_ret, condB_bool, cond_t, cond_f, fa_ptr, fa_iptr, part_none, Nat.zero_add, Nat.add_zero, Nat.reduceAdd, List.getElem?_cons_zero, List.getElem?_cons_succ, len_str, lenS_enc, lss_int, leq_int, gtr_int, geq_int, eq_int, ne_int, eq_str, ne_str, eq_bool, ne_bool, not_bool, extract_0, extract_1, extract_2, setV_eq, Nat.reduceEqDiff, reduceIte, had2]
        refine loopB_range 0 r.body.l.length (Nat.zero_le _) (fun j e h' => e 0 = encSl encRu 3 rules ∧ e 1 = .int .i64 1500 ∧ e 6 = .int .i64 (i : Int) ∧ e 7 = .int .i64 (j : Int) ∧ ∃ s : Int, e 5 = .int .i64 s ∧ 0 ≤ s ∧ s ≤ 6000000000000000000 ∧
          (s ≤ 1500 → (∀ r ∈ rules.l.take i, r.few) ∧ r.args.l.length ≤ 1500 ∧ (j : Int) ≤ s ∧ ∀ c ∈ r.body.l.take j, c.args.l.length ≤ 1500)) ⟨e0, e1, e6, rfl, s + 1 + n, rfl, by omega, by omega, fun h => ⟨hs hle, by omega, by omega, fun c hc => by simp at hc⟩⟩ ?_ ?_
        · rintro j e h' _ hj ⟨e0, e1, e6, e7, s, e5, s0, s1, hs⟩ K2 hn2 hx2 hr2 hp2
          have hc : r.body.l[j]? = some r.body.l[j] := List.getElem?_eq_getElem hj
          generalize r.body.l[j] = c at hc
          have hcok := hrok.2.2.2.2 c (List.mem_of_getElem? hc)
          have lc : ∀ h, loadS (some 2) (.iptr (r.body.l.flatMap encCo) (j * 4 + 2)) h = some (.agg [.str c.name, encSl encS 1 c.args]) := fun h => load_sub (k := 2) (n := 2) len_encCo hc (by omega)
          rw [F.law07_Few.L1_eq]
          simp only [e0, e1, e5, e6, e7, bindO_some, bindO2_some, outK_ret, condB_bool, cond_t, cond_f, fa_ptr, fa_iptr, part_none, Nat.zero_add, Nat.add_zero, Nat.reduceAdd, List.getElem?_cons_zero, List.getElem?_cons_succ, len_str, lenS_enc, lss_int, leq_int, gtr_int, geq_int, eq_int, ne_int, eq_str, ne_str, eq_bool, ne_bool, not_bool, extract_0, extract_1, extract_2, setV_eq, Nat.reduceEqDiff, reduceIte, iaS_enc rules hi, ld 2 (by omega), encRu, lt_true hj]
          by_cases hle : s ≤ 1500
          · have had1 := add_i64 (a := s) (b := 1) (by omega) (by omega)
            simp only [decide_eq_true hle, cond_t, had1, e0, e6, e7, bindO_some, bindO2_some, outK_ret, condB_bool, cond_t, cond_f, fa_ptr, fa_iptr, part_none, Nat.zero_add, Nat.add_zero, Nat.reduceAdd, List.getElem?_cons_zero, List.getElem?_cons_succ, len_str, lenS_enc, lss_int, leq_int, gtr_int, geq_int, eq_int, ne_int, eq_str, ne_str, eq_bool, ne_bool, not_bool, extract_0, extract_1, extract_2, setV_eq, Nat.reduceEqDiff, reduceIte, iaS_enc rules hi, ld 2 (by omega), encRu, iaS_enc r.body hj, lc]
            refine semCall_true (law07_atom hcok.1 hcok.2.1 hcok.2.2 fun n n1 n2 => ?_)
            have had2 := add_i64 (a := s + 1) (b := n) (by omega) (by omega)
            simp only [bindO_some, bindO2_some, outK_ret, condB_bool, cond_t, cond_f, fa_ptr, fa_iptr, part_none, Nat.zero_add, Nat.add_zero, Nat.reduceAdd, List.getElem?_cons_zero, List.getElem?_cons_succ, len_str, lenS_enc, lss_int, leq_int, gtr_int, geq_int, eq_int, ne_int, eq_str, ne_str, eq_bool, ne_bool, not_bool, extract_0, extract_1, extract_2, setV_eq, Nat.reduceEqDiff, reduceIte, had2, succ_i64 hj hbb]
            refine hn2 _ _ ⟨e0, e1, e6, rfl, s + 1 + n, rfl, by omega, by omega, fun h => ?_⟩
            obtain ⟨q1, q2, q3, q4⟩ := hs hle
            refine ⟨q1, q2, by omega, fun d hd => ?_⟩
            rw [List.take_add_one, hc] at hd
            rcases List.mem_append.1 hd with hd | hd
            · exact q4 d hd
            · simp only [Option.toList_some, List.mem_singleton] at hd; subst hd; omega
          · simp only [decide_eq_false hle, cond_f]
            rw [hx2, F.law07_Few.L1_x2_eq]
            simp only [bindO_some, bindO2_some, outK_ret, condB_bool, cond_t, cond_f, fa_ptr, fa_iptr, part_none, Nat.zero_add, Nat.add_zero, Nat.reduceAdd, List.getElem?_cons_zero, List.getElem?_cons_succ, len_str, lenS_enc, lss_int, leq_int, gtr_int, geq_int, eq_int, ne_int, eq_str, ne_str, eq_bool, ne_bool, not_bool, extract_0, extract_1, extract_2, setV_eq, Nat.reduceEqDiff, reduceIte, e6, succ_i64 hi hbig]
            exact hn _ _ ⟨e0, e1, rfl, s, e5, s0, s1, fun h => absurd h hle⟩
        · rintro e h' ⟨e0, e1, e6, e7, s, e5, s0, s1, hs⟩ K2 hx2
          rw [F.law07_Few.L1_eq]
          simp only [e0, e6, e7, bindO_some, bindO2_some, outK_ret, condB_bool, cond_t, cond_f, fa_ptr, fa_iptr, part_none, Nat.zero_add, Nat.add_zero, Nat.reduceAdd, List.getElem?_cons_zero, List.getElem?_cons_succ, len_str, lenS_enc, lss_int, leq_int, gtr_int, geq_int, eq_int, ne_int, eq_str, ne_str, eq_bool, ne_bool, not_bool, extract_0, extract_1, extract_2, setV_eq, Nat.reduceEqDiff, reduceIte, iaS_enc rules hi, ld 2 (by omega), encRu, lt_false]
          rw [hx2, F.law07_Few.L1_x2_eq]
          simp only [bindO_some, bindO2_some, outK_ret, condB_bool, cond_t, cond_f, fa_ptr, fa_iptr, part_none, Nat.zero_add, Nat.add_zero, Nat.reduceAdd, List.getElem?_cons_zero, List.getElem?_cons_succ, len_str, lenS_enc, lss_int, leq_int, gtr_int, geq_int, eq_int, ne_int, eq_str, ne_str, eq_bool, ne_bool, not_bool, extract_0, extract_1, extract_2, setV_eq, Nat.reduceEqDiff, reduceIte, e6, succ_i64 hi hbig]
          refine hn _ _ ⟨e0, e1, rfl, s, e5, s0, s1, fun h => ?_⟩
          obtain ⟨q1, q2, q3, q4⟩ := hs h
          rw [List.take_of_length_le (Nat.le_refl _)] at q4
          intro q hq
          rw [List.take_add_one, hv] at hq
          rcases List.mem_append.1 hq with hq | hq
          · exact q1 q hq
          · simp only [Option.toList_some, List.mem_singleton] at hq; subst hq; exact ⟨q2, by omega, q4⟩
      · simp only [decide_eq_false hle, cond_f]
        rw [hx, F.law07_Few.L0_x0_eq]
        simp only [bindO_some, bindO2_some, outK_ret, condB_bool, cond_t, cond_f, fa_ptr, fa_iptr, part_none, Nat.zero_add, Nat.add_zero, Nat.reduceAdd, List.getElem?_cons_zero, List.getElem?_cons_succ, len_str, lenS_enc, lss_int, leq_int, gtr_int, geq_int, eq_int, ne_int, eq_str, ne_str, eq_bool, ne_bool, not_bool, extract_0, extract_1, extract_2, setV_eq, Nat.reduceEqDiff, reduceIte, e1, e5]
        exact fin _ _ (fun h => absurd (of_decide_eq_true h) hle)
    · rintro e h' ⟨e0, e1, e6, s, e5, s0, s1, hs⟩ K' hx
      rw [List.take_of_length_le (Nat.le_refl _)] at hs
      rw [F.law07_Few.L0_eq]
      simp only [e0, e6, bindO_some, bindO2_some, outK_ret, condB_bool, cond_t, cond_f, fa_ptr, fa_iptr, part_none, Nat.zero_add, Nat.add_zero, Nat.reduceAdd, List.getElem?_cons_zero, List.getElem?_cons_succ, len_str, lenS_enc, lss_int, leq_int, gtr_int, geq_int, eq_int, ne_int, eq_str, ne_str, eq_bool, ne_bool, not_bool, extract_0, extract_1, extract_2, setV_eq, Nat.reduceEqDiff, reduceIte, lt_false]
      rw [hx, F.law07_Few.L0_x0_eq]
      simp only [bindO_some, bindO2_some, outK_ret, condB_bool, cond_t, cond_f, fa_ptr, fa_iptr, part_none, Nat.zero_add, Nat.add_zero, Nat.reduceAdd, List.getElem?_cons_zero, List.getElem?_cons_succ, len_str, lenS_enc, lss_int, leq_int, gtr_int, geq_int, eq_int, ne_int, eq_str, ne_str, eq_bool, ne_bool, not_bool, extract_0, extract_1, extract_2, setV_eq, Nat.reduceEqDiff, reduceIte, e1, e5]
      exact fin _ _ (fun h => hs (of_decide_eq_true h))
  have main := gen (fun o h' => yes (∃ b : Bool, o = .ret (.bool b) ∧ (b = true → ∀ r ∈ rules.l, r.few))) (fun b h' hb => yes_eq.2 ⟨b, rfl, hb⟩)
  refine main.frozen (by simp [AV.pureL, AV.pure, pure_encSl pure_encRu]) fun o h' ho => ?_
  obtain ⟨b, rfl, hb⟩ := yes_eq.1 ho
  exact ⟨_, _, rfl, .scalar _ rfl, hK b hb⟩

/-- THE LAW. -/
theorem law_RulesLevels {rules : Sl RuleD} (hok : ∀ r ∈ rules.l, r.ok) : Sem Tryz.prog 3 [encSl encRu 3 rules] Heap.empty trueK := by
  refine F.law07_RulesLevels_sem ?_
  have lnil : ∀ h, lenS .slice .nils h = some (.int .i64 0) := fun _ => rfl
  refine semCall_true (law07_Few hok fun b hb => ?_)
  simp only [bindO_some, bindO2_some, outK_ret, condB_bool, cond_t, cond_f, fa_ptr, fa_iptr, part_none, Nat.zero_add, Nat.add_zero, Nat.reduceAdd, List.getElem?_cons_zero, List.getElem?_cons_succ, len_str, lenS_enc, lss_int, leq_int, gtr_int, geq_int, eq_int, ne_int, eq_str, ne_str, eq_bool, ne_bool, not_bool, extract_0, extract_1, extract_2, setV_eq, Nat.reduceEqDiff, reduceIte]
  cases b with
  | false =>
    simp only [Bool.not_false, cond_t]
    refine semCall_true (alive_sem ?_)
    simp only [bindO_some, bindO2_some, outK_ret, condB_bool, cond_t, cond_f, fa_ptr, fa_iptr, part_none, Nat.zero_add, Nat.add_zero, Nat.reduceAdd, List.getElem?_cons_zero, List.getElem?_cons_succ, len_str, lenS_enc, lss_int, leq_int, gtr_int, geq_int, eq_int, ne_int, eq_str, ne_str, eq_bool, ne_bool, not_bool, extract_0, extract_1, extract_2, setV_eq, Nat.reduceEqDiff, reduceIte]; rfl
  | true =>
    have hfew := hb rfl
    simp only [Bool.not_true, cond_f]
    refine semCall_true (rules_Levels hok hfew (fun hbad => ?_) (fun x y k hg hst hs hmem hy => ?_))
    · simp only [bindO_some, bindO2_some, outK_ret, condB_bool, cond_t, cond_f, fa_ptr, fa_iptr, part_none, Nat.zero_add, Nat.add_zero, Nat.reduceAdd, List.getElem?_cons_zero, List.getElem?_cons_succ, len_str, lenS_enc, lss_int, leq_int, gtr_int, geq_int, eq_int, ne_int, eq_str, ne_str, eq_bool, ne_bool, not_bool, extract_0, extract_1, extract_2, setV_eq, Nat.reduceEqDiff, reduceIte]
      refine semCall_true (ref07_Valid hok hfew fun b hb => ?_)
      cases b with
      | true => exact absurd (hb.1 rfl) hbad
      | false =>
        simp only [bindO_some, bindO2_some, outK_ret, condB_bool, cond_t, cond_f, fa_ptr, fa_iptr, part_none, Nat.zero_add, Nat.add_zero, Nat.reduceAdd, List.getElem?_cons_zero, List.getElem?_cons_succ, len_str, lenS_enc, lss_int, leq_int, gtr_int, geq_int, eq_int, ne_int, eq_str, ne_str, eq_bool, ne_bool, not_bool, extract_0, extract_1, extract_2, setV_eq, Nat.reduceEqDiff, reduceIte, lnil, Bool.not_false, cond_t, int_beq, show decide ((1 : Int) = 1) = true from rfl]
        have h00 : binS .add (.int .i64 0) (.int .i64 0) = some (.int .i64 0) := rfl
        simp only [bindO_some, bindO2_some, outK_ret, condB_bool, cond_t, cond_f, fa_ptr, fa_iptr, part_none, Nat.zero_add, Nat.add_zero, Nat.reduceAdd, List.getElem?_cons_zero, List.getElem?_cons_succ, len_str, lenS_enc, lss_int, leq_int, gtr_int, geq_int, eq_int, ne_int, eq_str, ne_str, eq_bool, ne_bool, not_bool, extract_0, extract_1, extract_2, setV_eq, Nat.reduceEqDiff, reduceIte, lnil, h00, cond_t, int_beq, show decide ((0 : Int) = 0) = true from rfl]
        refine semCall_true (alive_sem ?_)
        simp only [bindO_some, bindO2_some, outK_ret, condB_bool, cond_t, cond_f, fa_ptr, fa_iptr, part_none, Nat.zero_add, Nat.add_zero, Nat.reduceAdd, List.getElem?_cons_zero, List.getElem?_cons_succ, len_str, lenS_enc, lss_int, leq_int, gtr_int, geq_int, eq_int, ne_int, eq_str, ne_str, eq_bool, ne_bool, not_bool, extract_0, extract_1, extract_2, setV_eq, Nat.reduceEqDiff, reduceIte]; rfl
    · obtain ⟨h60, hall, _, _⟩ := (goodP_iff _).1 hg
      have h20 : ∀ r ∈ rules.l, r.body.l.length ≤ 20 := fun r hr => by
        have := List.all_eq_true.1 hall r hr
        unfold ruleOk at this
        simp only [Bool.and_eq_true, decide_eq_true_eq] at this
        exact this.2.2.1
      have hxd : x.l = defL rules.l := sorted_unique hs (defL_sorted _) fun s => by rw [hmem, defL_mem]
      have hxl : x.l.length ≤ big := by rw [hxd]; have := defL_len rules.l; unfold big; omega
      simp only [bindO_some, bindO2_some, outK_ret, condB_bool, cond_t, cond_f, fa_ptr, fa_iptr, part_none, Nat.zero_add, Nat.add_zero, Nat.reduceAdd, List.getElem?_cons_zero, List.getElem?_cons_succ, len_str, lenS_enc, lss_int, leq_int, gtr_int, geq_int, eq_int, ne_int, eq_str, ne_str, eq_bool, ne_bool, not_bool, extract_0, extract_1, extract_2, setV_eq, Nat.reduceEqDiff, reduceIte]
      refine semCall_true (ref07_Valid hok hfew fun b hb => ?_)
      have hbt : b = true := hb.2 hg
      subst hbt
      simp only [bindO_some, bindO2_some, outK_ret, condB_bool, cond_t, cond_f, fa_ptr, fa_iptr, part_none, Nat.zero_add, Nat.add_zero, Nat.reduceAdd, List.getElem?_cons_zero, List.getElem?_cons_succ, len_str, lenS_enc, lss_int, leq_int, gtr_int, geq_int, eq_int, ne_int, eq_str, ne_str, eq_bool, ne_bool, not_bool, extract_0, extract_1, extract_2, setV_eq, Nat.reduceEqDiff, reduceIte, Bool.not_true, cond_f]
      refine semCall_true (ref07_Levels h60 h20 (fun hk => absurd hst (hk k)) (fun y2 k2 hst2 hy2 => ?_))
      simp only [bindO_some, bindO2_some, outK_ret, condB_bool, cond_t, cond_f, fa_ptr, fa_iptr, part_none, Nat.zero_add, Nat.add_zero, Nat.reduceAdd, List.getElem?_cons_zero, List.getElem?_cons_succ, len_str, lenS_enc, lss_int, leq_int, gtr_int, geq_int, eq_int, ne_int, eq_str, ne_str, eq_bool, ne_bool, not_bool, extract_0, extract_1, extract_2, setV_eq, Nat.reduceEqDiff, reduceIte, int_beq, show decide ((0 : Int) = 0) = true from rfl, cond_t]
      refine semCall_true (ref07_Defined h60 fun x2 hx2 => ?_)
      simp only [bindO_some, bindO2_some, outK_ret, condB_bool, cond_t, cond_f, fa_ptr, fa_iptr, part_none, Nat.zero_add, Nat.add_zero, Nat.reduceAdd, List.getElem?_cons_zero, List.getElem?_cons_succ, len_str, lenS_enc, lss_int, leq_int, gtr_int, geq_int, eq_int, ne_int, eq_str, ne_str, eq_bool, ne_bool, not_bool, extract_0, extract_1, extract_2, setV_eq, Nat.reduceEqDiff, reduceIte]
      refine semCall_true (ref02_SameNames hxl ?_)
      rw [show (x.l == x2.l) = true by rw [hxd, hx2]; simp]
      simp only [bindO_some, bindO2_some, outK_ret, condB_bool, cond_t, cond_f, fa_ptr, fa_iptr, part_none, Nat.zero_add, Nat.add_zero, Nat.reduceAdd, List.getElem?_cons_zero, List.getElem?_cons_succ, len_str, lenS_enc, lss_int, leq_int, gtr_int, geq_int, eq_int, ne_int, eq_str, ne_str, eq_bool, ne_bool, not_bool, extract_0, extract_1, extract_2, setV_eq, Nat.reduceEqDiff, reduceIte, cond_t]
      have hyl : y.l = y2.l := by
        rw [hy, hy2, hxd, Lev.stable_eq hst hst2]; rfl
      refine semCall_true (ref01_Equal (by rw [hy, List.length_map]; exact hxl) ?_)
      rw [show (y.l == y2.l) = true by rw [hyl]; simp]
      simp only [bindO_some, bindO2_some, outK_ret, condB_bool, cond_t, cond_f, fa_ptr, fa_iptr, part_none, Nat.zero_add, Nat.add_zero, Nat.reduceAdd, List.getElem?_cons_zero, List.getElem?_cons_succ, len_str, lenS_enc, lss_int, leq_int, gtr_int, geq_int, eq_int, ne_int, eq_str, ne_str, eq_bool, ne_bool, not_bool, extract_0, extract_1, extract_2, setV_eq, Nat.reduceEqDiff, reduceIte, cond_t]
      refine semCall_true (alive_sem ?_)
      simp only [bindO_some, bindO2_some, outK_ret, condB_bool, cond_t, cond_f, fa_ptr, fa_iptr, part_none, Nat.zero_add, Nat.add_zero, Nat.reduceAdd, List.getElem?_cons_zero, List.getElem?_cons_succ, len_str, lenS_enc, lss_int, leq_int, gtr_int, geq_int, eq_int, ne_int, eq_str, ne_str, eq_bool, ne_bool, not_bool, extract_0, extract_1, extract_2, setV_eq, Nat.reduceEqDiff, reduceIte]; rfl
end
end Go.AM
