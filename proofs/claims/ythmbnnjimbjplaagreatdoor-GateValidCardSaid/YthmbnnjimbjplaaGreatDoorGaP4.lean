/- The reference's gates. Conditions: none. -/
import Derived.Test.YthmbnnjimbjplaaGreatDoorGaP3
namespace Go.AM
open Go Go.Proofs
set_option linter.unusedVariables false
set_option linter.unusedSimpArgs false
noncomputable section

theorem ref11_gate {c : Circ} (hc : c.ok) {i : Nat} {g : Gate} (hg : c.gates.l[i]? = some g) {h : Heap} {K : Out → Heap → Bool} (hK : K (.ret (.bool (fitB c.size i g))) h = true) : Sem Tryz.prog 53 [.agg (encCirc c), .int .i64 (i : Int)] h K := by
  refine Sem.data (r := .bool (fitB c.size i g)) ?_ (by simp [AV.pureL, AV.pure, pure_encCirc]) hK
  clear hK
  have hi : i < c.gates.l.length := (List.getElem?_eq_some_iff.1 hg).1
  have hgo : g.ok := hc.2 g (List.mem_of_getElem? hg)
  refine F.ref11_gate_sem ?_
  have b0 : (Heap.alloc Heap.empty (.cells (encCirc c))).get 0 = some (.cells (encCirc c)) := get_alloc_same _ _
  have bn : (Heap.alloc Heap.empty (.cells (encCirc c))).next = 1 := rfl
  simp only [box_agg (one_encCirc c), bindO_some, next_empty]
  generalize (Heap.alloc Heap.empty (.cells (encCirc c))) = H0 at b0 bn ⊢
  obtain ⟨H, hs, g1, go, gn⟩ := store_new (h := H0) (zs := [.int .i64 0, .str [], .nils, .nils]) (cs := encGate g) (n := 4) rfl rfl (one_encGate g)
  rw [bn] at hs g1
  have g0 : H.get 0 = some (.cells (encCirc c)) := by rw [go 0 (by omega)]; exact b0
  simp only [bindO_some, bindO2_some, outK_ret, condB_bool, cond_t, cond_f, fa_ptr, fa_iptr, part_none, Nat.zero_add, Nat.add_zero, Nat.reduceAdd, List.getElem?_cons_zero, List.getElem?_cons_succ, len_str, lenS_enc, lss_int, leq_int, gtr_int, geq_int, eq_int, ne_int, eq_str, ne_str, eq_bool, ne_bool, not_bool, extract_0, extract_1, extract_2, setV_eq, Nat.reduceEqDiff, reduceIte, load_ptr b0, encCirc, iaS_enc c.gates hi, load_agg len_encGate hg, bn, hs]
  simp only [bindO_some, bindO2_some, outK_ret, condB_bool, cond_t, cond_f, fa_ptr, fa_iptr, part_none, Nat.zero_add, Nat.add_zero, Nat.reduceAdd, List.getElem?_cons_zero, List.getElem?_cons_succ, len_str, lenS_enc, lss_int, leq_int, gtr_int, geq_int, eq_int, ne_int, eq_str, ne_str, eq_bool, ne_bool, not_bool, extract_0, extract_1, extract_2, setV_eq, Nat.reduceEqDiff, reduceIte, load_ptr g1, encGate, int_beq]
  have fin : ∀ b : Bool, b = fitB c.size i g → frzK (.bool (fitB c.size i g)) (.ret (.bool b)) H = true := fun b hb => by rw [hb]; exact frzK_same rfl
  have L : ∀ e0 : Env, e0 1 = .int .i64 (i : Int) → e0 2 = .ptr 0 0 → e0 5 = .ptr 1 0 → e0 6 = .int .i64 0 → (g.kind ≠ 1 → g.name = [] ∧ g.at_.l.length = 0) →
      loopB (evalS Tryz.prog (semCall Tryz.prog) F.ref11_gate.L0) ⟨e0, 89, [], H⟩ (F.ref11_gate.L0k (frzK (.bool (fitB c.size i g)))) = true := by
    intro e0 q1 q2 q5 q6 hpre
    refine loopB_range 0 g.kids.l.length (Nat.zero_le _) (fun k e h' => h' = H ∧ e 1 = .int .i64 (i : Int) ∧ e 2 = .ptr 0 0 ∧ e 5 = .ptr 1 0 ∧ e 6 = .int .i64 (k : Int) ∧ inB (i : Int) (g.kids.l.take k) = true) ⟨rfl, q1, q2, q5, q6, rfl⟩ ?_ ?_
    · rintro k e h' _ hk ⟨rfl, e1, e2, e5, e6, ht⟩ K' hn hx hr hp
      have hv : g.kids.l[k]? = some g.kids.l[k] := List.getElem?_eq_getElem hk
      rw [F.ref11_gate.L0_eq]
      simp only [e1, e2, e5, e6, bindO_some, bindO2_some, outK_ret, condB_bool, cond_t, cond_f, fa_ptr, fa_iptr, part_none, Nat.zero_add, Nat.add_zero, Nat.reduceAdd, List.getElem?_cons_zero, List.getElem?_cons_succ, len_str, lenS_enc, lss_int, leq_int, gtr_int, geq_int, eq_int, ne_int, eq_str, ne_str, eq_bool, ne_bool, not_bool, extract_0, extract_1, extract_2, setV_eq, Nat.reduceEqDiff, reduceIte, load_ptr g1, encGate, lt_true hk, iaS_enc g.kids hk, get_ints hv]
      by_cases h1 : g.kids.l[k] < 0
      · simp only [decide_eq_true h1, cond_t]
        rw [hr, F.ref11_gate.L0_r_eq]
        have : inB (i : Int) g.kids.l = false := all_false hv (by simp [h1])
        exact fin _ (by simp [fitB, this])
      · simp only [decide_eq_false h1, cond_f]
        by_cases h2 : (i : Int) ≤ g.kids.l[k]
        · simp only [decide_eq_true h2, cond_t]
          rw [hr, F.ref11_gate.L0_r_eq]
          have : inB (i : Int) g.kids.l = false := all_false hv (by simp [h2])
          exact fin _ (by simp [fitB, this])
        · simp only [decide_eq_false h2, cond_f, succ_i64 hk hgo.2.2, bindO_some]
          exact hn _ _ ⟨rfl, e1, e2, e5, rfl, take_all hv ht (by simp [h1, h2])⟩
    · rintro e h' ⟨rfl, e1, e2, e5, e6, ht⟩ K' hx
      rw [F.ref11_gate.L0_eq]
      simp only [e1, e2, e5, e6, bindO_some, bindO2_some, outK_ret, condB_bool, cond_t, cond_f, fa_ptr, fa_iptr, part_none, Nat.zero_add, Nat.add_zero, Nat.reduceAdd, List.getElem?_cons_zero, List.getElem?_cons_succ, len_str, lenS_enc, lss_int, leq_int, gtr_int, geq_int, eq_int, ne_int, eq_str, ne_str, eq_bool, ne_bool, not_bool, extract_0, extract_1, extract_2, setV_eq, Nat.reduceEqDiff, reduceIte, load_ptr g1, encGate, lt_false]
      rw [hx, F.ref11_gate.L0_x0_eq]
      rw [List.take_of_length_le (Nat.le_refl _)] at ht
      simp only [e1, e2, e5, e6, bindO_some, bindO2_some, outK_ret, condB_bool, cond_t, cond_f, fa_ptr, fa_iptr, part_none, Nat.zero_add, Nat.add_zero, Nat.reduceAdd, List.getElem?_cons_zero, List.getElem?_cons_succ, len_str, lenS_enc, lss_int, leq_int, gtr_int, geq_int, eq_int, ne_int, eq_str, ne_str, eq_bool, ne_bool, not_bool, extract_0, extract_1, extract_2, setV_eq, Nat.reduceEqDiff, reduceIte, load_ptr g1, encGate, int_beq]
      simp only [fitB, ht, Bool.true_and] at fin ⊢
      have k3 : decide ((g.kids.l.length : Int) = 0) = decide (g.kids.l.length = 0) := by simp
      have k4 : decide ((g.kids.l.length : Int) = 1) = decide (g.kids.l.length = 1) := by simp; omega
      by_cases c0 : g.kind = 0
      · simp only [c0, decide_true, cond_t] at fin ⊢
        have := hpre (by omega)
        refine fin _ ?_
        simp [this.1, this.2]
      by_cases c1 : g.kind = 1
      · simp only [c1, decide_true, cond_t, if_true] at fin ⊢
        simp only [show decide ((1 : Int) = 0) = false from rfl, show decide ((0 : Int) ≤ 1) = true from rfl, show decide ((1 : Int) ≤ 4) = true from rfl, cond_f, Bool.true_and, k3] at fin ⊢
        by_cases z : g.kids.l.length = 0
        · simp only [decide_eq_true z, cond_t, Bool.true_and] at fin ⊢
          refine semCall_true (ref01_Name ?_)
          simp only [bindO_some, bindO2_some, outK_ret, condB_bool, cond_t, cond_f, fa_ptr, fa_iptr, part_none, Nat.zero_add, Nat.add_zero, Nat.reduceAdd, List.getElem?_cons_zero, List.getElem?_cons_succ, len_str, lenS_enc, lss_int, leq_int, gtr_int, geq_int, eq_int, ne_int, eq_str, ne_str, eq_bool, ne_bool, not_bool, extract_0, extract_1, extract_2, setV_eq, Nat.reduceEqDiff, reduceIte, load_ptr g1, encGate]
          generalize nameB g.name = nb at fin ⊢
          cases nb with
          | false => simp only [cond_f, Bool.false_and] at fin ⊢; exact fin _ rfl
          | true =>
            simp only [cond_t, Bool.true_and] at fin ⊢
            by_cases h12 : g.at_.l.length ≤ 12
            · simp only [decide_eq_true (by omega : (g.at_.l.length : Int) ≤ 12), cond_t, load_ptr g0, encCirc, bindO_some, bindO2_some, outK_ret, condB_bool, cond_t, cond_f, fa_ptr, fa_iptr, part_none, Nat.zero_add, Nat.add_zero, Nat.reduceAdd, List.getElem?_cons_zero, List.getElem?_cons_succ, len_str, lenS_enc, lss_int, leq_int, gtr_int, geq_int, eq_int, ne_int, eq_str, ne_str, eq_bool, ne_bool, not_bool, extract_0, extract_1, extract_2, setV_eq, Nat.reduceEqDiff, reduceIte, load_ptr g1, encGate]
              refine semCall_true (ref01_In hgo.2.1 ?_)
              simp only [bindO_some, bindO2_some, outK_ret, condB_bool, cond_t, cond_f, fa_ptr, fa_iptr, part_none, Nat.zero_add, Nat.add_zero, Nat.reduceAdd, List.getElem?_cons_zero, List.getElem?_cons_succ, len_str, lenS_enc, lss_int, leq_int, gtr_int, geq_int, eq_int, ne_int, eq_str, ne_str, eq_bool, ne_bool, not_bool, extract_0, extract_1, extract_2, setV_eq, Nat.reduceEqDiff, reduceIte]
              refine fin _ ?_
              rw [decide_eq_true h12, Bool.true_and]
            · simp only [decide_eq_false (by omega : ¬ (g.at_.l.length : Int) ≤ 12), cond_f]
              refine fin _ ?_
              rw [decide_eq_false h12, Bool.false_and]
        · simp only [decide_eq_false z, cond_f, Bool.false_and, Bool.and_false] at fin ⊢
          exact fin _ rfl
      have pre := hpre c1
      by_cases c2 : g.kind = 2
      · simp only [c2, show decide ((2 : Int) = 0) = false from rfl, show decide ((2 : Int) = 1) = false from rfl, decide_true, cond_t, cond_f, k4] at fin ⊢
        refine fin _ ?_
        simp [pre.1, pre.2]
      by_cases c3 : g.kind = 3
      · simp only [c3, show decide ((3 : Int) = 0) = false from rfl, show decide ((3 : Int) = 1) = false from rfl, show decide ((3 : Int) = 2) = false from rfl, decide_true, cond_t, cond_f] at fin ⊢
        refine fin _ ?_
        simp [pre.1, pre.2]
      by_cases c4 : g.kind = 4
      · simp only [c4, show decide ((4 : Int) = 0) = false from rfl, show decide ((4 : Int) = 1) = false from rfl, show decide ((4 : Int) = 2) = false from rfl, show decide ((4 : Int) = 3) = false from rfl, decide_true, cond_t, cond_f] at fin ⊢
        refine fin _ ?_
        simp [pre.1, pre.2]
      · simp only [decide_eq_false c0, decide_eq_false c1, decide_eq_false c2, decide_eq_false c3, decide_eq_false c4, cond_f] at fin ⊢
        refine fin _ ?_
        by_cases q : 0 ≤ g.kind
        · rw [decide_eq_false (by omega : ¬ g.kind ≤ 4)]; simp
        · rw [decide_eq_false q]; rfl
  by_cases c1 : g.kind = 1
  · simp only [decide_eq_true c1, Bool.not_true, cond_f]
    exact L _ rfl rfl rfl rfl (fun h => absurd c1 h)
  · simp only [decide_eq_false c1, Bool.not_false, cond_t]
    by_cases hn : g.name = []
    · have e1 : (g.name == ([] : Str)) = true := by rw [hn]; rfl
      simp only [e1, Bool.not_true, cond_f]
      by_cases ha : g.at_.l.length = 0
      · simp only [decide_eq_false (by omega : ¬ (0 : Int) < (g.at_.l.length : Int)), cond_f]
        exact L _ rfl rfl rfl rfl (fun _ => ⟨hn, ha⟩)
      · simp only [decide_eq_true (by omega : (0 : Int) < (g.at_.l.length : Int)), cond_t]
        exact fin _ (by simp only [fitB, if_neg c1, decide_eq_false ha, Bool.false_and, Bool.and_false])
    · have e1 : (g.name == ([] : Str)) = false := by cases hq : g.name with | nil => exact absurd hq hn | cons a l => rfl
      simp only [e1, Bool.not_false, cond_t]
      exact fin _ (by simp only [fitB, if_neg c1, decide_eq_false hn, Bool.false_and, Bool.and_false])
end
end Go.AM
