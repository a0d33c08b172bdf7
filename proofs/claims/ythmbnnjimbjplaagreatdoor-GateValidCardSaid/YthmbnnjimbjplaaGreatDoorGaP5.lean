/- Which circuits are valid: the program and the reference agree. Conditions: none. -/
import Derived.Test.YthmbnnjimbjplaaGreatDoorGaP4
namespace Go.AM
open Go Go.Proofs
set_option linter.unusedVariables false
set_option linter.unusedSimpArgs false
noncomputable section

theorem part_whole {cs : List AV} {n : Nat} (h : cs.length = n) : partS (some n) cs 0 = some (.agg cs) := by
  simp [partS, h, List.take_of_length_le]
/-- The inputs' names with their places, gate by gate; none where a gate is not as it should be. -/
def symsGo (n : Int) : List Gate → Nat → MapL → Option MapL
  | [], _, m => some m
  | g :: gs, i, m => bif fitB n i g then
      (if g.kind = 1 then
        (match m.find g.name with
          | some k => if k = (g.at_.l.length : Int) then symsGo n gs (i + 1) (m.upd g.name g.at_.l.length) else none
          | none => symsGo n gs (i + 1) (m.upd g.name g.at_.l.length))
      else symsGo n gs (i + 1) m) else none
def sizeB (c : Circ) : Bool := !decide (c.size < 1) && (!decide (64 < c.size) && (!decide ((c.gates.l.length : Int) < 1) && !decide (20000 < (c.gates.l.length : Int))))
def symsOf (c : Circ) : Option MapL := bif sizeB c then symsGo c.size c.gates.l 0 [] else none
theorem symsGo_step {n : Int} {l : List Gate} {i : Nat} {g : Gate} (hg : l[i]? = some g) (m : MapL) : symsGo n (l.drop i) i m = symsGo n (g :: l.drop (i + 1)) i m := by
  have hi : i < l.length := (List.getElem?_eq_some_iff.1 hg).1
  rw [List.drop_eq_getElem_cons hi]
  rw [List.getElem?_eq_getElem hi] at hg
  cases hg; rfl

theorem gate_symbols {c : Circ} (hc : c.ok) {h : Heap} {K : Out → Heap → Bool} (hno : symsOf c = none → ∀ h', HExt h h' → K (.ret (.tuple [.nilm, .bool false])) h' = true)
    (hyes : ∀ m h' es ck, symsOf c = some m → HExt h h' → h'.get (h.next + 1) = some (.map es ck) → MapI es m → h.next + 1 < h'.next → K (.ret (.tuple [.map (h.next + 1), .bool true])) h' = true) : Sem Tryz.prog 54 [.agg (encCirc c)] h K := by
  refine F.gate_symbols_sem ?_
  simp only [box_agg (one_encCirc c), bindO_some, Heap.next_alloc]
  have b0 : (Heap.alloc (Heap.alloc h (.cells (encCirc c))) (.map [] 0)).get h.next = some (.cells (encCirc c)) := by
    rw [Heap.get_alloc, Heap.next_alloc, if_neg (by omega)]; exact get_alloc_same _ _
  have b1 : (Heap.alloc (Heap.alloc h (.cells (encCirc c))) (.map [] 0)).get (h.next + 1) = some (.map [] 0) := get_alloc_same _ _
  have bn : (Heap.alloc (Heap.alloc h (.cells (encCirc c))) (.map [] 0)).next = h.next + 2 := rfl
  have bx : HExt h (Heap.alloc (Heap.alloc h (.cells (encCirc c))) (.map [] 0)) := (HExt.alloc _ _).trans (HExt.alloc _ _)
  generalize (Heap.alloc (Heap.alloc h (.cells (encCirc c))) (.map [] 0)) = H0 at b0 b1 bn bx ⊢
  simp only [bindO_some, bindO2_some, outK_ret, condB_bool, cond_t, cond_f, fa_ptr, fa_iptr, part_none, Nat.zero_add, Nat.add_zero, Nat.reduceAdd, List.getElem?_cons_zero, List.getElem?_cons_succ, len_str, lenS_enc, lss_int, leq_int, gtr_int, geq_int, eq_int, ne_int, eq_str, ne_str, eq_bool, ne_bool, not_bool, extract_0, extract_1, extract_2, setV_eq, Nat.reduceEqDiff, reduceIte, load_ptr b0, encCirc]
  cases s1 : decide (c.size < 1) with
  | true => simp only [cond_t]; exact hno (by simp only [symsOf, sizeB, s1]; rfl) _ bx
  | false =>
  simp only [cond_f]
  cases s2 : decide (64 < c.size) with
  | true => simp only [cond_t]; exact hno (by simp only [symsOf, sizeB, s1, s2]; rfl) _ bx
  | false =>
  simp only [cond_f]
  cases s3 : decide ((c.gates.l.length : Int) < 1) with
  | true => simp only [cond_t]; exact hno (by simp only [symsOf, sizeB, s1, s2, s3]; rfl) _ bx
  | false =>
  simp only [cond_f]
  cases s4 : decide (20000 < (c.gates.l.length : Int)) with
  | true => simp only [cond_t]; exact hno (by simp only [symsOf, sizeB, s1, s2, s3, s4]; rfl) _ bx
  | false =>
  simp only [cond_f]
  have hsy : symsOf c = symsGo c.size c.gates.l 0 [] := by simp only [symsOf, sizeB, s1, s2, s3, s4]; rfl
  rw [hsy] at hno
  simp only [hsy] at hyes
  refine loopB_range 0 c.gates.l.length (Nat.zero_le _) (fun i e h' => ∃ m es ck, symsGo c.size c.gates.l 0 [] = symsGo c.size (c.gates.l.drop i) i m ∧ MapI es m ∧ h'.get h.next = some (.cells (encCirc c)) ∧ h'.get (h.next + 1) = some (.map es ck) ∧
    HExt h h' ∧ h.next + 2 ≤ h'.next ∧ e 1 = .ptr h.next 0 ∧ e 4 = .map (h.next + 1) ∧ e 31 = encSl encGate 4 c.gates ∧ e 32 = .int .i64 (c.gates.l.length : Int) ∧ e 33 = .int .i64 (i : Int))
    ⟨[], [], 0, rfl, trivial, b0, b1, bx, by omega, rfl, rfl, rfl, rfl, rfl⟩ ?_ ?_
  · rintro i e h' _ hi ⟨m, es, ck, hm, he, q0, q1, qx, qn, e1, e4, e31, e32, e33⟩ K' hn hx hr hp
    have hg : c.gates.l[i]? = some c.gates.l[i] := List.getElem?_eq_getElem hi
    generalize c.gates.l[i] = g at hg
    have hgo : g.ok := hc.2 g (List.mem_of_getElem? hg)
    rw [symsGo_step hg] at hm
    obtain ⟨H, hs, g1, go, gn⟩ := store_new (h := h') (zs := [.int .i64 0, .str [], .nils, .nils]) (cs := encGate g) (n := 4) rfl rfl (one_encGate g)
    have p0 : H.get h.next = some (.cells (encCirc c)) := by rw [go _ (by omega)]; exact q0
    have p1 : H.get (h.next + 1) = some (.map es ck) := by rw [go _ (by omega)]; exact q1
    have px : HExt h H := qx.trans ⟨by omega, fun b hb => go b (by omega)⟩
    rw [F.gate_symbols.L0_eq]
    simp only [e1, e4, e31, e32, e33, bindO_some, bindO2_some, outK_ret, condB_bool, cond_t, cond_f, fa_ptr, fa_iptr, part_none, Nat.zero_add, Nat.add_zero, Nat.reduceAdd, List.getElem?_cons_zero, List.getElem?_cons_succ, len_str, lenS_enc, lss_int, leq_int, gtr_int, geq_int, eq_int, ne_int, eq_str, ne_str, eq_bool, ne_bool, not_bool, extract_0, extract_1, extract_2, setV_eq, Nat.reduceEqDiff, reduceIte, lt_true hi, iaS_enc c.gates hi, load_agg len_encGate hg, hs, load_ptr g1, load_ptr p0, part_whole (len_encGate g), encCirc]
    refine semCall_true (gate_fitting hgo ?_)
    simp only [bindO_some, bindO2_some, outK_ret, condB_bool, cond_t, cond_f, fa_ptr, fa_iptr, part_none, Nat.zero_add, Nat.add_zero, Nat.reduceAdd, List.getElem?_cons_zero, List.getElem?_cons_succ, len_str, lenS_enc, lss_int, leq_int, gtr_int, geq_int, eq_int, ne_int, eq_str, ne_str, eq_bool, ne_bool, not_bool, extract_0, extract_1, extract_2, setV_eq, Nat.reduceEqDiff, reduceIte]
    simp only [symsGo] at hm
    cases hf : fitB c.size i g with
    | false =>
      simp only [Bool.not_false, cond_t]
      rw [hf] at hm
      rw [hr, F.gate_symbols.L0_r_eq]
      exact hno hm _ px
    | true =>
      rw [hf] at hm
      simp only [Bool.not_true, cond_f, cond_t, load_ptr g1, encGate, bindO_some, bindO2_some, outK_ret, condB_bool, cond_t, cond_f, fa_ptr, fa_iptr, part_none, Nat.zero_add, Nat.add_zero, Nat.reduceAdd, List.getElem?_cons_zero, List.getElem?_cons_succ, len_str, lenS_enc, lss_int, leq_int, gtr_int, geq_int, eq_int, ne_int, eq_str, ne_str, eq_bool, ne_bool, not_bool, extract_0, extract_1, extract_2, setV_eq, Nat.reduceEqDiff, reduceIte, int_beq] at hm ⊢
      by_cases k1 : g.kind = 1
      · rw [if_pos k1] at hm
        simp only [decide_eq_true k1, Bool.not_true, cond_f, e4, lookup_map p1 he, bindO_some, bindO2_some, outK_ret, condB_bool, cond_t, cond_f, fa_ptr, fa_iptr, part_none, Nat.zero_add, Nat.add_zero, Nat.reduceAdd, List.getElem?_cons_zero, List.getElem?_cons_succ, len_str, lenS_enc, lss_int, leq_int, gtr_int, geq_int, eq_int, ne_int, eq_str, ne_str, eq_bool, ne_bool, not_bool, extract_0, extract_1, extract_2, setV_eq, Nat.reduceEqDiff, reduceIte, int_beq]
        obtain ⟨es', ck', hu, hue⟩ := update_map p1 he g.name g.at_.l.length
        have hgoon : symsGo c.size c.gates.l 0 [] = symsGo c.size (c.gates.l.drop (i + 1)) (i + 1) (m.upd g.name g.at_.l.length) → ∃ m es ck, symsGo c.size c.gates.l 0 [] = symsGo c.size (c.gates.l.drop (i + 1)) (i + 1) m ∧ MapI es m ∧ (H.set (h.next + 1) (.map es' ck')).get h.next = some (.cells (encCirc c)) ∧ (H.set (h.next + 1) (.map es' ck')).get (h.next + 1) = some (.map es ck) ∧ HExt h (H.set (h.next + 1) (.map es' ck')) ∧ h.next + 2 ≤ (H.set (h.next + 1) (.map es' ck')).next := by
          intro hh
          exact ⟨_, es', ck', hh, hue, by rw [Heap.get_set, if_neg (by omega)]; exact p0, by rw [Heap.get_set, if_pos rfl], px.set (by omega) _, by rw [Heap.next_set]; omega⟩
        cases hmf : m.find g.name with
        | none =>
          rw [hmf] at hm
          simp only [Option.isSome_none, cond_f, load_ptr g1, encGate, bindO_some, bindO2_some, outK_ret, condB_bool, cond_t, cond_f, fa_ptr, fa_iptr, part_none, Nat.zero_add, Nat.add_zero, Nat.reduceAdd, List.getElem?_cons_zero, List.getElem?_cons_succ, len_str, lenS_enc, lss_int, leq_int, gtr_int, geq_int, eq_int, ne_int, eq_str, ne_str, eq_bool, ne_bool, not_bool, extract_0, extract_1, extract_2, setV_eq, Nat.reduceEqDiff, reduceIte, e4, hu, e33, succ_i64 hi hc.1]
          obtain ⟨m', es1, ck1, a1, a2, a3, a4, a5, a6⟩ := hgoon hm
          exact hn _ _ ⟨m', es1, ck1, a1, a2, a3, a4, a5, a6, e1, e4, e31, e32, rfl⟩
        | some k =>
          rw [hmf] at hm
          simp only [Option.isSome_some, cond_t, Option.getD_some, load_ptr g1, encGate, bindO_some, bindO2_some, outK_ret, condB_bool, cond_t, cond_f, fa_ptr, fa_iptr, part_none, Nat.zero_add, Nat.add_zero, Nat.reduceAdd, List.getElem?_cons_zero, List.getElem?_cons_succ, len_str, lenS_enc, lss_int, leq_int, gtr_int, geq_int, eq_int, ne_int, eq_str, ne_str, eq_bool, ne_bool, not_bool, extract_0, extract_1, extract_2, setV_eq, Nat.reduceEqDiff, reduceIte, int_beq] at hm ⊢
          by_cases hk : k = (g.at_.l.length : Int)
          · rw [if_pos hk] at hm
            simp only [decide_eq_true hk, Bool.not_true, cond_f, load_ptr g1, encGate, bindO_some, bindO2_some, outK_ret, condB_bool, cond_t, cond_f, fa_ptr, fa_iptr, part_none, Nat.zero_add, Nat.add_zero, Nat.reduceAdd, List.getElem?_cons_zero, List.getElem?_cons_succ, len_str, lenS_enc, lss_int, leq_int, gtr_int, geq_int, eq_int, ne_int, eq_str, ne_str, eq_bool, ne_bool, not_bool, extract_0, extract_1, extract_2, setV_eq, Nat.reduceEqDiff, reduceIte, e4, hu, e33, succ_i64 hi hc.1]
            obtain ⟨m', es1, ck1, a1, a2, a3, a4, a5, a6⟩ := hgoon hm
            exact hn _ _ ⟨m', es1, ck1, a1, a2, a3, a4, a5, a6, e1, e4, e31, e32, rfl⟩
          · rw [if_neg hk] at hm
            simp only [decide_eq_false hk, Bool.not_false, cond_t]
            rw [hr, F.gate_symbols.L0_r_eq]
            exact hno hm _ px
      · rw [if_neg k1] at hm
        simp only [decide_eq_false k1, Bool.not_false, cond_t, e33, succ_i64 hi hc.1, bindO_some]
        exact hn _ _ ⟨m, es, ck, hm, he, p0, p1, px, by omega, e1, e4, e31, e32, rfl⟩
  · rintro e h' ⟨m, es, ck, hm, he, q0, q1, qx, qn, e1, e4, e31, e32, e33⟩ K' hx
    rw [F.gate_symbols.L0_eq]
    simp only [e32, e33, bindO_some, bindO2_some, outK_ret, condB_bool, cond_t, cond_f, fa_ptr, fa_iptr, part_none, Nat.zero_add, Nat.add_zero, Nat.reduceAdd, List.getElem?_cons_zero, List.getElem?_cons_succ, len_str, lenS_enc, lss_int, leq_int, gtr_int, geq_int, eq_int, ne_int, eq_str, ne_str, eq_bool, ne_bool, not_bool, extract_0, extract_1, extract_2, setV_eq, Nat.reduceEqDiff, reduceIte, lt_false]
    rw [hx, F.gate_symbols.L0_x0_eq]
    simp only [bindO_some, bindO2_some, outK_ret, condB_bool, cond_t, cond_f, fa_ptr, fa_iptr, part_none, Nat.zero_add, Nat.add_zero, Nat.reduceAdd, List.getElem?_cons_zero, List.getElem?_cons_succ, len_str, lenS_enc, lss_int, leq_int, gtr_int, geq_int, eq_int, ne_int, eq_str, ne_str, eq_bool, ne_bool, not_bool, extract_0, extract_1, extract_2, setV_eq, Nat.reduceEqDiff, reduceIte, e4]
    rw [List.drop_of_length_le (Nat.le_refl _)] at hm
    exact hyes m _ es ck hm qx q1 he (by omega)

def validB (c : Circ) : Bool := (symsOf c).isSome
theorem gate_Valid {c : Circ} (hc : c.ok) {h : Heap} {K : Out → Heap → Bool} (hK : K (.ret (.bool (validB c))) h = true) : Sem Tryz.prog 15 [.agg (encCirc c)] h K := by
  refine Sem.data (r := .bool (validB c)) ?_ (by simp [AV.pureL, AV.pure, pure_encCirc]) hK
  clear hK
  refine F.gate_Valid_sem ?_
  simp only [box_agg (one_encCirc c), bindO_some, load_ptr (get_alloc_same _ _), part_whole (cs := encCirc c) rfl]
  refine semCall_true (gate_symbols hc (fun hs h' hx => ?_) (fun m h' es ck hs hx _ _ _ => ?_))
  · simp only [bindO_some, bindO2_some, outK_ret, condB_bool, cond_t, cond_f, fa_ptr, fa_iptr, part_none, Nat.zero_add, Nat.add_zero, Nat.reduceAdd, List.getElem?_cons_zero, List.getElem?_cons_succ, len_str, lenS_enc, lss_int, leq_int, gtr_int, geq_int, eq_int, ne_int, eq_str, ne_str, eq_bool, ne_bool, not_bool, extract_0, extract_1, extract_2, setV_eq, Nat.reduceEqDiff, reduceIte]
    exact frzK_ret (by simp only [validB, hs]; exact .of_pure rfl)
  · simp only [bindO_some, bindO2_some, outK_ret, condB_bool, cond_t, cond_f, fa_ptr, fa_iptr, part_none, Nat.zero_add, Nat.add_zero, Nat.reduceAdd, List.getElem?_cons_zero, List.getElem?_cons_succ, len_str, lenS_enc, lss_int, leq_int, gtr_int, geq_int, eq_int, ne_int, eq_str, ne_str, eq_bool, ne_bool, not_bool, extract_0, extract_1, extract_2, setV_eq, Nat.reduceEqDiff, reduceIte]
    exact frzK_ret (by simp only [validB, hs]; exact .of_pure rfl)

theorem ref11_Valid {c : Circ} (hc : c.ok) {h : Heap} {K : Out → Heap → Bool} (hK : K (.ret (.bool (validB c))) h = true) : Sem Tryz.prog 13 [.agg (encCirc c)] h K := by
  refine Sem.data (r := .bool (validB c)) ?_ (by simp [AV.pureL, AV.pure, pure_encCirc]) hK
  clear hK
  have fin : ∀ (b : Bool) (H : Heap), b = validB c → frzK (.bool (validB c)) (.ret (.bool b)) H = true := fun b H hb => by rw [hb]; exact frzK_same rfl
  generalize frzK (.bool (validB c)) = K at fin ⊢
  refine F.ref11_Valid_sem ?_
  have b0 : (Heap.alloc Heap.empty (.cells (encCirc c))).get 0 = some (.cells (encCirc c)) := get_alloc_same _ _
  have bn : (Heap.alloc Heap.empty (.cells (encCirc c))).next = 1 := rfl
  simp only [box_agg (one_encCirc c), bindO_some, next_empty]
  generalize (Heap.alloc Heap.empty (.cells (encCirc c))) = H0 at b0 bn ⊢
  simp only [bindO_some, bindO2_some, outK_ret, condB_bool, cond_t, cond_f, fa_ptr, fa_iptr, part_none, Nat.zero_add, Nat.add_zero, Nat.reduceAdd, List.getElem?_cons_zero, List.getElem?_cons_succ, len_str, lenS_enc, lss_int, leq_int, gtr_int, geq_int, eq_int, ne_int, eq_str, ne_str, eq_bool, ne_bool, not_bool, extract_0, extract_1, extract_2, setV_eq, Nat.reduceEqDiff, reduceIte, load_ptr b0, encCirc, bn]
  cases s1 : decide (c.size < 1) with
  | true => simp only [cond_t]; exact fin _ _ (by simp only [validB, symsOf, sizeB, s1]; rfl)
  | false =>
  simp only [cond_f]
  cases s2 : decide (64 < c.size) with
  | true => simp only [cond_t]; exact fin _ _ (by simp only [validB, symsOf, sizeB, s1, s2]; rfl)
  | false =>
  simp only [cond_f]
  cases s3 : decide ((c.gates.l.length : Int) < 1) with
  | true => simp only [cond_t]; exact fin _ _ (by simp only [validB, symsOf, sizeB, s1, s2, s3]; rfl)
  | false =>
  simp only [cond_f]
  cases s4 : decide (20000 < (c.gates.l.length : Int)) with
  | true => simp only [cond_t]; exact fin _ _ (by simp only [validB, symsOf, sizeB, s1, s2, s3, s4]; rfl)
  | false =>
  simp only [cond_f]
  have hsy : validB c = (symsGo c.size c.gates.l 0 []).isSome := by simp only [validB, symsOf, sizeB, s1, s2, s3, s4]; rfl
  rw [hsy] at fin
  refine loopB_range 0 c.gates.l.length (Nat.zero_le _) (fun i e h' => ∃ m es ck, symsGo c.size c.gates.l 0 [] = symsGo c.size (c.gates.l.drop i) i m ∧ MapI es m ∧ h'.get 0 = some (.cells (encCirc c)) ∧ h'.get 1 = some (.map es ck) ∧
    2 ≤ h'.next ∧ e 1 = .ptr 0 0 ∧ e 3 = .map 1 ∧ e 4 = .int .i64 (i : Int))
    ⟨[], [], 0, rfl, trivial, by rw [Heap.get_alloc, bn, if_neg (by omega)]; exact b0, by rw [← bn]; exact get_alloc_same _ _, by rw [Heap.next_alloc, bn]; omega, rfl, rfl, rfl⟩ ?_ ?_
  · rintro i e h' _ hi ⟨m, es, ck, hm, he, q0, q1, qn, e1, e3, e4⟩ K' hn hx hr hp
    have hg : c.gates.l[i]? = some c.gates.l[i] := List.getElem?_eq_getElem hi
    generalize c.gates.l[i] = g at hg
    have hgo : g.ok := hc.2 g (List.mem_of_getElem? hg)
    rw [symsGo_step hg] at hm
    obtain ⟨H, hs, g1, go, gn⟩ := store_new (h := h') (zs := [.int .i64 0, .str [], .nils, .nils]) (cs := encGate g) (n := 4) rfl rfl (one_encGate g)
    have p0 : H.get 0 = some (.cells (encCirc c)) := by rw [go _ (by omega)]; exact q0
    have p1 : H.get 1 = some (.map es ck) := by rw [go _ (by omega)]; exact q1
    rw [F.ref11_Valid.L0_eq]
    simp only [e1, e3, e4, bindO_some, bindO2_some, outK_ret, condB_bool, cond_t, cond_f, fa_ptr, fa_iptr, part_none, Nat.zero_add, Nat.add_zero, Nat.reduceAdd, List.getElem?_cons_zero, List.getElem?_cons_succ, len_str, lenS_enc, lss_int, leq_int, gtr_int, geq_int, eq_int, ne_int, eq_str, ne_str, eq_bool, ne_bool, not_bool, extract_0, extract_1, extract_2, setV_eq, Nat.reduceEqDiff, reduceIte, load_ptr q0, lt_true hi, part_whole (cs := encCirc c) (n := 2) rfl]
    rw [show (encCirc c)[1]? = some (encSl encGate 4 c.gates) from rfl]
    simp only [bindO_some, bindO2_some, outK_ret, condB_bool, cond_t, cond_f, fa_ptr, fa_iptr, part_none, Nat.zero_add, Nat.add_zero, Nat.reduceAdd, List.getElem?_cons_zero, List.getElem?_cons_succ, len_str, lenS_enc, lss_int, leq_int, gtr_int, geq_int, eq_int, ne_int, eq_str, ne_str, eq_bool, ne_bool, not_bool, extract_0, extract_1, extract_2, setV_eq, Nat.reduceEqDiff, reduceIte, lt_true hi]
    refine semCall_true (ref11_gate hc hg ?_)
    simp only [bindO_some, bindO2_some, outK_ret, condB_bool, cond_t, cond_f, fa_ptr, fa_iptr, part_none, Nat.zero_add, Nat.add_zero, Nat.reduceAdd, List.getElem?_cons_zero, List.getElem?_cons_succ, len_str, lenS_enc, lss_int, leq_int, gtr_int, geq_int, eq_int, ne_int, eq_str, ne_str, eq_bool, ne_bool, not_bool, extract_0, extract_1, extract_2, setV_eq, Nat.reduceEqDiff, reduceIte]
    simp only [symsGo] at hm
    cases hf : fitB c.size i g with
    | false =>
      simp only [Bool.not_false, cond_t]
      rw [hf] at hm
      rw [hr, F.ref11_Valid.L0_r_eq]
      exact fin _ _ (by rw [hm]; rfl)
    | true =>
      rw [hf] at hm
      simp only [Bool.not_true, cond_f, cond_t, e1, e4, load_ptr q0, encCirc, bindO_some, bindO2_some, outK_ret, condB_bool, cond_t, cond_f, fa_ptr, fa_iptr, part_none, Nat.zero_add, Nat.add_zero, Nat.reduceAdd, List.getElem?_cons_zero, List.getElem?_cons_succ, len_str, lenS_enc, lss_int, leq_int, gtr_int, geq_int, eq_int, ne_int, eq_str, ne_str, eq_bool, ne_bool, not_bool, extract_0, extract_1, extract_2, setV_eq, Nat.reduceEqDiff, reduceIte, iaS_enc c.gates hi, load_agg len_encGate hg, hs] at hm ⊢
      simp only [load_ptr g1, encGate, bindO_some, bindO2_some, outK_ret, condB_bool, cond_t, cond_f, fa_ptr, fa_iptr, part_none, Nat.zero_add, Nat.add_zero, Nat.reduceAdd, List.getElem?_cons_zero, List.getElem?_cons_succ, len_str, lenS_enc, lss_int, leq_int, gtr_int, geq_int, eq_int, ne_int, eq_str, ne_str, eq_bool, ne_bool, not_bool, extract_0, extract_1, extract_2, setV_eq, Nat.reduceEqDiff, reduceIte, int_beq]
      by_cases k1 : g.kind = 1
      · rw [if_pos k1] at hm
        simp only [decide_eq_true k1, cond_t, e3, lookup_map p1 he, bindO_some, bindO2_some, outK_ret, condB_bool, cond_t, cond_f, fa_ptr, fa_iptr, part_none, Nat.zero_add, Nat.add_zero, Nat.reduceAdd, List.getElem?_cons_zero, List.getElem?_cons_succ, len_str, lenS_enc, lss_int, leq_int, gtr_int, geq_int, eq_int, ne_int, eq_str, ne_str, eq_bool, ne_bool, not_bool, extract_0, extract_1, extract_2, setV_eq, Nat.reduceEqDiff, reduceIte, int_beq]
        obtain ⟨es', ck', hu, hue⟩ := update_map p1 he g.name g.at_.l.length
        have hgoon : symsGo c.size c.gates.l 0 [] = symsGo c.size (c.gates.l.drop (i + 1)) (i + 1) (m.upd g.name g.at_.l.length) → ∃ m es ck, symsGo c.size c.gates.l 0 [] = symsGo c.size (c.gates.l.drop (i + 1)) (i + 1) m ∧ MapI es m ∧ (H.set 1 (.map es' ck')).get 0 = some (.cells (encCirc c)) ∧ (H.set 1 (.map es' ck')).get 1 = some (.map es ck) ∧ 2 ≤ (H.set 1 (.map es' ck')).next := by
          intro hh
          exact ⟨_, es', ck', hh, hue, by rw [Heap.get_set, if_neg (by omega)]; exact p0, by rw [Heap.get_set, if_pos rfl], by rw [Heap.next_set]; omega⟩
        cases hmf : m.find g.name with
        | none =>
          rw [hmf] at hm
          simp only [Option.isSome_none, cond_f, load_ptr g1, encGate, bindO_some, bindO2_some, outK_ret, condB_bool, cond_t, cond_f, fa_ptr, fa_iptr, part_none, Nat.zero_add, Nat.add_zero, Nat.reduceAdd, List.getElem?_cons_zero, List.getElem?_cons_succ, len_str, lenS_enc, lss_int, leq_int, gtr_int, geq_int, eq_int, ne_int, eq_str, ne_str, eq_bool, ne_bool, not_bool, extract_0, extract_1, extract_2, setV_eq, Nat.reduceEqDiff, reduceIte, e3, hu, e4, succ_i64 hi hc.1]
          obtain ⟨m', es1, ck1, a1, a2, a3, a4, a6⟩ := hgoon hm
          exact hn _ _ ⟨m', es1, ck1, a1, a2, a3, a4, a6, e1, e3, rfl⟩
        | some k =>
          rw [hmf] at hm
          simp only [Option.isSome_some, cond_t, Option.getD_some, load_ptr g1, encGate, bindO_some, bindO2_some, outK_ret, condB_bool, cond_t, cond_f, fa_ptr, fa_iptr, part_none, Nat.zero_add, Nat.add_zero, Nat.reduceAdd, List.getElem?_cons_zero, List.getElem?_cons_succ, len_str, lenS_enc, lss_int, leq_int, gtr_int, geq_int, eq_int, ne_int, eq_str, ne_str, eq_bool, ne_bool, not_bool, extract_0, extract_1, extract_2, setV_eq, Nat.reduceEqDiff, reduceIte, int_beq] at hm ⊢
          by_cases hk : k = (g.at_.l.length : Int)
          · rw [if_pos hk] at hm
            simp only [decide_eq_true hk, Bool.not_true, cond_f, load_ptr g1, encGate, bindO_some, bindO2_some, outK_ret, condB_bool, cond_t, cond_f, fa_ptr, fa_iptr, part_none, Nat.zero_add, Nat.add_zero, Nat.reduceAdd, List.getElem?_cons_zero, List.getElem?_cons_succ, len_str, lenS_enc, lss_int, leq_int, gtr_int, geq_int, eq_int, ne_int, eq_str, ne_str, eq_bool, ne_bool, not_bool, extract_0, extract_1, extract_2, setV_eq, Nat.reduceEqDiff, reduceIte, e3, hu, e4, succ_i64 hi hc.1]
            obtain ⟨m', es1, ck1, a1, a2, a3, a4, a6⟩ := hgoon hm
            exact hn _ _ ⟨m', es1, ck1, a1, a2, a3, a4, a6, e1, e3, rfl⟩
          · rw [if_neg hk] at hm
            simp only [decide_eq_false hk, Bool.not_false, cond_t]
            rw [hr, F.ref11_Valid.L0_r_eq]
            exact fin _ _ (by rw [hm]; rfl)
      · rw [if_neg k1] at hm
        simp only [decide_eq_false k1, cond_f, e4, succ_i64 hi hc.1, bindO_some]
        exact hn _ _ ⟨m, es, ck, hm, he, p0, p1, by omega, e1, e3, rfl⟩
  · rintro e h' ⟨m, es, ck, hm, he, q0, q1, qn, e1, e3, e4⟩ K' hx
    rw [F.ref11_Valid.L0_eq]
    simp only [e1, e4, load_ptr q0, bindO_some, bindO2_some, outK_ret, condB_bool, cond_t, cond_f, fa_ptr, fa_iptr, part_none, Nat.zero_add, Nat.add_zero, Nat.reduceAdd, List.getElem?_cons_zero, List.getElem?_cons_succ, len_str, lenS_enc, lss_int, leq_int, gtr_int, geq_int, eq_int, ne_int, eq_str, ne_str, eq_bool, ne_bool, not_bool, extract_0, extract_1, extract_2, setV_eq, Nat.reduceEqDiff, reduceIte]
    rw [show (encCirc c)[1]? = some (encSl encGate 4 c.gates) from rfl]
    simp only [bindO_some, bindO2_some, outK_ret, condB_bool, cond_t, cond_f, fa_ptr, fa_iptr, part_none, Nat.zero_add, Nat.add_zero, Nat.reduceAdd, List.getElem?_cons_zero, List.getElem?_cons_succ, len_str, lenS_enc, lss_int, leq_int, gtr_int, geq_int, eq_int, ne_int, eq_str, ne_str, eq_bool, ne_bool, not_bool, extract_0, extract_1, extract_2, setV_eq, Nat.reduceEqDiff, reduceIte, lt_false]
    rw [hx, F.ref11_Valid.L0_x0_eq]
    rw [List.drop_of_length_le (Nat.le_refl _)] at hm
    exact fin _ _ (by rw [hm]; rfl)
end
end Go.AM
