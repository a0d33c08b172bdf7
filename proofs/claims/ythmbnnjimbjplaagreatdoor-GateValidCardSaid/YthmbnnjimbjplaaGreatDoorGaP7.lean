/- Depth, and the law GateValid. Conditions: none. -/
import Derived.Test.YthmbnnjimbjplaaGreatDoorGaP6
import Derived.Test.YthmbnnjimbjplaaGreatDoorAmTop
import Derived.Test.YthmbnnjimbjplaaGreatDoorAmBridge
namespace Go.AM
open Go Go.Proofs
set_option linter.unusedVariables false
set_option linter.unusedSimpArgs false
noncomputable section

def lastD (c : Circ) : Int := (depthsOf c).getD (c.gates.l.length - 1) 0
def depthI (c : Circ) : Int := bif validB c then lastD c else -1
theorem lastD_get {c : Circ} (hf : c.fits) : (depthsOf c)[c.gates.l.length - 1]? = some (lastD c) := by
  have hl := depthsOf_len c
  obtain ⟨h1, h2, _⟩ := hf
  have : c.gates.l.length - 1 < (depthsOf c).length := by omega
  unfold lastD
  rw [List.getD_eq_getElem?_getD, List.getElem?_eq_getElem this]; rfl
theorem pred_i64 {n : Nat} (h1 : 1 ≤ n) (h2 : n ≤ big) : binS .sub (.int .i64 (n : Int)) (.int .i64 1) = some (.int .i64 ((n - 1 : Nat) : Int)) := by
  unfold big at h2
  rw [sub_i64 (by omega) (by omega)]
  congr 2; omega

theorem gate_Depth {c : Circ} (hc : c.ok) {h : Heap} {K : Out → Heap → Bool} (hK : K (.ret (.int .i64 (depthI c))) h = true) : Sem Tryz.prog 16 [.agg (encCirc c)] h K := by
  refine Sem.data (r := .int .i64 (depthI c)) ?_ (by simp [AV.pureL, AV.pure, pure_encCirc]) hK
  clear hK
  refine F.gate_Depth_sem ?_
  have b0 : (Heap.alloc Heap.empty (.cells (encCirc c))).get 0 = some (.cells (encCirc c)) := get_alloc_same _ _
  simp only [box_agg (one_encCirc c), bindO_some, next_empty]
  generalize (Heap.alloc Heap.empty (.cells (encCirc c))) = H at b0 ⊢
  simp only [load_ptr b0, part_whole (cs := encCirc c) (n := 2) rfl, bindO_some]
  refine semCall_true (gate_Valid hc ?_)
  simp only [bindO_some, bindO2_some, outK_ret, condB_bool, cond_t, cond_f, fa_ptr, fa_iptr, part_none, Nat.zero_add, Nat.add_zero, Nat.reduceAdd, List.getElem?_cons_zero, List.getElem?_cons_succ, len_str, lenS_enc, lss_int, leq_int, gtr_int, geq_int, eq_int, ne_int, eq_str, ne_str, eq_bool, ne_bool, not_bool, extract_0, extract_1, extract_2, setV_eq, Nat.reduceEqDiff, reduceIte]
  cases hv : validB c with
  | false =>
    simp only [Bool.not_false, cond_t]
    have : depthI c = -1 := by unfold depthI; rw [hv]; rfl
    rw [this]; exact frzK_same rfl
  | true =>
    have hf := fits_valid hv
    have hl := depthsOf_len c
    have hg := lastD_get hf
    have hd : depthI c = lastD c := by unfold depthI; rw [hv]; rfl
    rw [hd]
    simp only [Bool.not_true, cond_f, load_ptr b0, bindO_some, bindO2_some, outK_ret, condB_bool, cond_t, cond_f, fa_ptr, fa_iptr, part_none, Nat.zero_add, Nat.add_zero, Nat.reduceAdd, List.getElem?_cons_zero, List.getElem?_cons_succ, len_str, lenS_enc, lss_int, leq_int, gtr_int, geq_int, eq_int, ne_int, eq_str, ne_str, eq_bool, ne_bool, not_bool, extract_0, extract_1, extract_2, setV_eq, Nat.reduceEqDiff, reduceIte, encCirc]
    refine semCall_true (gate_depths hc hf ?_)
    have hi : c.gates.l.length - 1 < (Sl.l (some (depthsOf c))).length := by simp only [Sl.l_some]; have := hf.2.1; omega
    simp only [bindO_some, bindO2_some, outK_ret, condB_bool, cond_t, cond_f, fa_ptr, fa_iptr, part_none, Nat.zero_add, Nat.add_zero, Nat.reduceAdd, List.getElem?_cons_zero, List.getElem?_cons_succ, len_str, lenS_enc, lss_int, leq_int, gtr_int, geq_int, eq_int, ne_int, eq_str, ne_str, eq_bool, ne_bool, not_bool, extract_0, extract_1, extract_2, setV_eq, Nat.reduceEqDiff, reduceIte, Sl.l_some, hl, pred_i64 hf.2.1 hc.1, iaS_enc (some (depthsOf c)) hi]
    rw [show (depthsOf c).flatMap encI = (Sl.l (some (depthsOf c))).flatMap encI from rfl, get_ints (x := some (depthsOf c)) hg]
    simp only [bindO_some]
    exact frzK_same rfl

theorem ref11_Depth {c : Circ} (hc : c.ok) (hf : c.fits) {h : Heap} {K : Out → Heap → Bool} (hK : K (.ret (.int .i64 (lastD c))) h = true) : Sem Tryz.prog 14 [.agg (encCirc c)] h K := by
  refine Sem.data (r := .int .i64 (lastD c)) ?_ (by simp [AV.pureL, AV.pure, pure_encCirc]) hK
  clear hK
  have hlast := lastD_get hf
  obtain ⟨hl1, hl2, hfit⟩ := hf
  refine F.ref11_Depth_sem ?_
  have b0 : (Heap.alloc Heap.empty (.cells (encCirc c))).get 0 = some (.cells (encCirc c)) := get_alloc_same _ _
  have bn : (Heap.alloc Heap.empty (.cells (encCirc c))).next = 1 := rfl
  simp only [box_agg (one_encCirc c), bindO_some, next_empty]
  generalize (Heap.alloc Heap.empty (.cells (encCirc c))) = H0 at b0 bn ⊢
  simp only [bindO_some, bindO2_some, outK_ret, condB_bool, cond_t, cond_f, fa_ptr, fa_iptr, part_none, Nat.zero_add, Nat.add_zero, Nat.reduceAdd, List.getElem?_cons_zero, List.getElem?_cons_succ, len_str, lenS_enc, lss_int, leq_int, gtr_int, geq_int, eq_int, ne_int, eq_str, ne_str, eq_bool, ne_bool, not_bool, extract_0, extract_1, extract_2, setV_eq, Nat.reduceEqDiff, reduceIte, load_ptr b0, encCirc]
  simp only [bindO_some, bindO2_some, outK_ret, condB_bool, cond_t, cond_f, fa_ptr, fa_iptr, part_none, Nat.zero_add, Nat.add_zero, Nat.reduceAdd, List.getElem?_cons_zero, List.getElem?_cons_succ, len_str, lenS_enc, lss_int, leq_int, gtr_int, geq_int, eq_int, ne_int, eq_str, ne_str, eq_bool, ne_bool, not_bool, extract_0, extract_1, extract_2, setV_eq, Nat.reduceEqDiff, reduceIte, make_sl (show c.gates.l.length ≤ 1000000 by omega), bn]
  refine loopB_range 0 c.gates.l.length (Nat.zero_le _) (fun i e h' => ∃ d, depthsOf c = dGo (c.gates.l.drop i) i d ∧ d.length = c.gates.l.length ∧ Bd d i ∧ Zs d i ∧ h'.get 0 = some (.cells (encCirc c)) ∧ h'.get 1 = some (.cells (d.map iv)) ∧ 2 ≤ h'.next ∧
    e 1 = .ptr 0 0 ∧ e 3 = .slice 1 0 c.gates.l.length 1 ∧ e 4 = .int .i64 (i : Int))
    ⟨_, rfl, by simp, fun v hv => by rw [List.eq_of_mem_replicate hv]; omega, fun j _ hj => by simp at hj; simp [hj], by rw [Heap.get_alloc, bn, if_neg (by omega)]; exact b0, by rw [← bn]; exact get_alloc_same _ _, by rw [Heap.next_alloc, bn]; omega, rfl, rfl, rfl⟩ ?_ ?_
  · rintro i e h' _ hi ⟨d, hd, hl, hb, hz, q0, q1, qn, e1, e3, e4⟩ K' hn hx hr hp
    have hg : c.gates.l[i]? = some c.gates.l[i] := List.getElem?_eq_getElem hi
    generalize c.gates.l[i] = g at hg
    have hgo : g.ok := hc.2 g (List.mem_of_getElem? hg)
    have hfg := hfit i g hg
    rw [dGo_step hg] at hd
    obtain ⟨H, hs, g1, go, gn⟩ := store_new (h := h') (zs := [.int .i64 0, .str [], .nils, .nils]) (cs := encGate g) (n := 4) rfl rfl (one_encGate g)
    have p0 : H.get 0 = some (.cells (encCirc c)) := by rw [go _ (by omega)]; exact q0
    have p1 : H.get 1 = some (.cells (d.map iv)) := by rw [go _ (by omega)]; exact q1
    generalize hN : h'.next = N at g1 gn qn
    rw [F.ref11_Depth.L0_eq]
    rw [hN] at hs
    simp only [e1, e3, e4, load_ptr q0, encCirc, bindO_some, bindO2_some, outK_ret, condB_bool, cond_t, cond_f, fa_ptr, fa_iptr, part_none, Nat.zero_add, Nat.add_zero, Nat.reduceAdd, List.getElem?_cons_zero, List.getElem?_cons_succ, len_str, lenS_enc, lss_int, leq_int, gtr_int, geq_int, eq_int, ne_int, eq_str, ne_str, eq_bool, ne_bool, not_bool, extract_0, extract_1, extract_2, setV_eq, Nat.reduceEqDiff, reduceIte, hN]
    simp only [bindO_some, bindO2_some, outK_ret, condB_bool, cond_t, cond_f, fa_ptr, fa_iptr, part_none, Nat.zero_add, Nat.add_zero, Nat.reduceAdd, List.getElem?_cons_zero, List.getElem?_cons_succ, len_str, lenS_enc, lss_int, leq_int, gtr_int, geq_int, eq_int, ne_int, eq_str, ne_str, eq_bool, ne_bool, not_bool, extract_0, extract_1, extract_2, setV_eq, Nat.reduceEqDiff, reduceIte, lt_true hi, iaS_enc c.gates hi, load_agg len_encGate hg, hs]
    have hd0 : d[i]? = some 0 := hz i (Nat.le_refl _) (by omega)
    have hdi : i < d.length := by omega
    refine loopB_range 0 g.kids.l.length (Nat.zero_le _) (fun k e h2 => h2.get 0 = some (.cells (encCirc c)) ∧ h2.get N = some (.cells (encGate g)) ∧ h2.get 1 = some (.cells ((d.set i (accD d (g.kids.l.take k))).map iv)) ∧ N < h2.next ∧
      e 1 = .ptr 0 0 ∧ e 3 = .slice 1 0 c.gates.l.length 1 ∧ e 4 = .int .i64 (i : Int) ∧ e 5 = .ptr N 0 ∧ e 6 = .int .i64 (k : Int))
      ⟨p0, g1, by rw [List.take_zero, accD, List.foldl_nil, set_self hd0]; exact p1, by omega, e1, e3, e4, rfl, rfl⟩ ?_ ?_
    · rintro k e h2 _ hk ⟨r0, rg, r1, rn, e1, e3, e4, e5, e6⟩ K2 hn2 hx2 hr2 hp2
      have hv : g.kids.l[k]? = some g.kids.l[k] := List.getElem?_eq_getElem hk
      generalize g.kids.l[k] = v at hv
      obtain ⟨v0, v1⟩ := fit_kids hfg hv
      obtain ⟨vn, rfl⟩ : ∃ vn : Nat, v = (vn : Int) := ⟨v.toNat, by omega⟩
      have hat : d[vn]? = some (at0 d (vn : Int)) := by simpa using at0_get v0 v1 (by omega : i ≤ d.length)
      have ha : (d.set i (accD d (g.kids.l.take k)))[i]? = some (accD d (g.kids.l.take k)) := List.getElem?_set_self hdi
      have hb' : (d.set i (accD d (g.kids.l.take k)))[vn]? = some (at0 d (vn : Int)) := by rw [List.getElem?_set_ne (by omega)]; exact hat
      rw [F.ref11_Depth.L1_eq]
      simp only [e3, e4, e5, e6, load_ptr rg, encGate, bindO_some, bindO2_some, outK_ret, condB_bool, cond_t, cond_f, fa_ptr, fa_iptr, part_none, Nat.zero_add, Nat.add_zero, Nat.reduceAdd, List.getElem?_cons_zero, List.getElem?_cons_succ, len_str, lenS_enc, lss_int, leq_int, gtr_int, geq_int, eq_int, ne_int, eq_str, ne_str, eq_bool, ne_bool, not_bool, extract_0, extract_1, extract_2, setV_eq, Nat.reduceEqDiff, reduceIte]
      simp only [bindO_some, bindO2_some, outK_ret, condB_bool, cond_t, cond_f, fa_ptr, fa_iptr, part_none, Nat.zero_add, Nat.add_zero, Nat.reduceAdd, List.getElem?_cons_zero, List.getElem?_cons_succ, len_str, lenS_enc, lss_int, leq_int, gtr_int, geq_int, eq_int, ne_int, eq_str, ne_str, eq_bool, ne_bool, not_bool, extract_0, extract_1, extract_2, setV_eq, Nat.reduceEqDiff, reduceIte, lt_true hk, iaS_enc g.kids hk, get_ints hv, ia_sl hi, load_sl r1 ha, ia_sl (show vn < c.gates.l.length by omega), load_sl r1 hb', fold_mx, store_sl r1 (show i < (d.set i (accD d (g.kids.l.take k))).length by simpa using hdi), succ_i64 hk hgo.2.2]
      refine hn2 _ _ ⟨by rw [Heap.get_set, if_neg (by omega)]; exact r0, by rw [Heap.get_set, if_neg (by omega)]; exact rg, ?_, by rw [Heap.next_set]; exact rn, e1, e3, e4, e5, rfl⟩
      rw [Heap.get_set, if_pos rfl, List.set_set, accD_step hv]
    · rintro e h2 ⟨r0, rg, r1, rn, e1, e3, e4, e5, e6⟩ K2 hx2
      rw [F.ref11_Depth.L1_eq]
      simp only [e5, e6, load_ptr rg, encGate, bindO_some, bindO2_some, outK_ret, condB_bool, cond_t, cond_f, fa_ptr, fa_iptr, part_none, Nat.zero_add, Nat.add_zero, Nat.reduceAdd, List.getElem?_cons_zero, List.getElem?_cons_succ, len_str, lenS_enc, lss_int, leq_int, gtr_int, geq_int, eq_int, ne_int, eq_str, ne_str, eq_bool, ne_bool, not_bool, extract_0, extract_1, extract_2, setV_eq, Nat.reduceEqDiff, reduceIte]
      simp only [bindO_some, bindO2_some, outK_ret, condB_bool, cond_t, cond_f, fa_ptr, fa_iptr, part_none, Nat.zero_add, Nat.add_zero, Nat.reduceAdd, List.getElem?_cons_zero, List.getElem?_cons_succ, len_str, lenS_enc, lss_int, leq_int, gtr_int, geq_int, eq_int, ne_int, eq_str, ne_str, eq_bool, ne_bool, not_bool, extract_0, extract_1, extract_2, setV_eq, Nat.reduceEqDiff, reduceIte, lt_false]
      rw [hx2, F.ref11_Depth.L1_x2_eq]
      rw [List.take_of_length_le (Nat.le_refl _)] at r1
      have ha : (d.set i (accD d g.kids.l))[i]? = some (accD d g.kids.l) := List.getElem?_set_self hdi
      have hab := accD_bd hb g.kids.l
      simp only [bindO_some, bindO2_some, outK_ret, condB_bool, cond_t, cond_f, fa_ptr, fa_iptr, part_none, Nat.zero_add, Nat.add_zero, Nat.reduceAdd, List.getElem?_cons_zero, List.getElem?_cons_succ, len_str, lenS_enc, lss_int, leq_int, gtr_int, geq_int, eq_int, ne_int, eq_str, ne_str, eq_bool, ne_bool, not_bool, extract_0, extract_1, extract_2, setV_eq, Nat.reduceEqDiff, reduceIte, e1, e3, e4, e5, load_ptr rg, encGate, int_beq]
      have hzz := stepD_zs hz g
      have hbb := stepD_bd hb g
      by_cases c0 : g.kind = 0
      · rw [stepD, if_pos (.inl c0)] at hd hzz hbb
        rw [fit_none hfg (.inl c0), accD, List.foldl_nil, set_self hd0] at r1
        simp only [decide_eq_true c0, Bool.not_true, cond_f, succ_i64 hi hc.1, bindO_some]
        exact hn _ _ ⟨d, hd, hl, hbb, hzz, r0, r1, by omega, e1, e3, rfl⟩
      simp only [decide_eq_false c0, Bool.not_false, cond_t, load_ptr rg, encGate, bindO_some, bindO2_some, outK_ret, condB_bool, cond_t, cond_f, fa_ptr, fa_iptr, part_none, Nat.zero_add, Nat.add_zero, Nat.reduceAdd, List.getElem?_cons_zero, List.getElem?_cons_succ, len_str, lenS_enc, lss_int, leq_int, gtr_int, geq_int, eq_int, ne_int, eq_str, ne_str, eq_bool, ne_bool, not_bool, extract_0, extract_1, extract_2, setV_eq, Nat.reduceEqDiff, reduceIte, int_beq, e5]
      by_cases c1 : g.kind = 1
      · rw [stepD, if_pos (.inr c1)] at hd hzz hbb
        rw [fit_none hfg (.inr c1), accD, List.foldl_nil, set_self hd0] at r1
        simp only [decide_eq_true c1, Bool.not_true, cond_f, succ_i64 hi hc.1, bindO_some, e4]
        exact hn _ _ ⟨d, hd, hl, hbb, hzz, r0, r1, by omega, e1, e3, rfl⟩
      · rw [stepD, if_neg (by omega)] at hd hzz hbb
        simp only [decide_eq_false c1, Bool.not_false, cond_t, bindO_some, bindO2_some, outK_ret, condB_bool, cond_t, cond_f, fa_ptr, fa_iptr, part_none, Nat.zero_add, Nat.add_zero, Nat.reduceAdd, List.getElem?_cons_zero, List.getElem?_cons_succ, len_str, lenS_enc, lss_int, leq_int, gtr_int, geq_int, eq_int, ne_int, eq_str, ne_str, eq_bool, ne_bool, not_bool, extract_0, extract_1, extract_2, setV_eq, Nat.reduceEqDiff, reduceIte, e3, e4, ia_sl hi, load_sl r1 ha, add_i64 (a := accD d g.kids.l) (b := 1) (by omega) (by omega), store_sl r1 (show i < (d.set i (accD d g.kids.l)).length by simpa using hdi), succ_i64 hi hc.1]
        exact hn _ _ ⟨d.set i (accD d g.kids.l + 1), hd, by simpa using hl, hbb, hzz, by rw [Heap.get_set, if_neg (by omega)]; exact r0, by rw [Heap.get_set, if_pos rfl, List.set_set], by rw [Heap.next_set]; omega, e1, e3, rfl⟩
  · rintro e h' ⟨d, hd, hl, hb, hz, q0, q1, qn, e1, e3, e4⟩ K' hx
    rw [F.ref11_Depth.L0_eq]
    simp only [e1, e4, load_ptr q0, encCirc, bindO_some, bindO2_some, outK_ret, condB_bool, cond_t, cond_f, fa_ptr, fa_iptr, part_none, Nat.zero_add, Nat.add_zero, Nat.reduceAdd, List.getElem?_cons_zero, List.getElem?_cons_succ, len_str, lenS_enc, lss_int, leq_int, gtr_int, geq_int, eq_int, ne_int, eq_str, ne_str, eq_bool, ne_bool, not_bool, extract_0, extract_1, extract_2, setV_eq, Nat.reduceEqDiff, reduceIte]
    simp only [bindO_some, bindO2_some, outK_ret, condB_bool, cond_t, cond_f, fa_ptr, fa_iptr, part_none, Nat.zero_add, Nat.add_zero, Nat.reduceAdd, List.getElem?_cons_zero, List.getElem?_cons_succ, len_str, lenS_enc, lss_int, leq_int, gtr_int, geq_int, eq_int, ne_int, eq_str, ne_str, eq_bool, ne_bool, not_bool, extract_0, extract_1, extract_2, setV_eq, Nat.reduceEqDiff, reduceIte, lt_false]
    rw [hx, F.ref11_Depth.L0_x0_eq]
    rw [List.drop_of_length_le (Nat.le_refl _)] at hd
    simp only [dGo] at hd
    rw [hd] at hlast
    have hlen : ∀ h : Heap, lenS .slice (.slice 1 0 c.gates.l.length 1) h = some (.int .i64 (c.gates.l.length : Int)) := fun _ => rfl
    simp only [bindO_some, bindO2_some, outK_ret, condB_bool, cond_t, cond_f, fa_ptr, fa_iptr, part_none, Nat.zero_add, Nat.add_zero, Nat.reduceAdd, List.getElem?_cons_zero, List.getElem?_cons_succ, len_str, lenS_enc, lss_int, leq_int, gtr_int, geq_int, eq_int, ne_int, eq_str, ne_str, eq_bool, ne_bool, not_bool, extract_0, extract_1, extract_2, setV_eq, Nat.reduceEqDiff, reduceIte, e3, hlen, pred_i64 hl2 hc.1, ia_sl (show c.gates.l.length - 1 < c.gates.l.length by omega), load_sl q1 hlast]
    exact frzK_same rfl

theorem add_ex (a b : Int) : ∃ v, binS .add (.int .i64 a) (.int .i64 b) = some (.int .i64 v) := ⟨_, add_any a b⟩
theorem quo_ex (a : Int) {b : Int} (hb : b ≠ 0) : ∃ v, binS .quo (.int .i64 a) (.int .i64 b) = some (.int .i64 v) := ⟨_, quo_any a hb⟩
/-- Few answers something. -/
theorem law11_Few {c : Circ} (hc : c.ok) {n : Int} {h : Heap} {K : Out → Heap → Bool} (hK : ∀ b, K (.ret (.bool b)) h = true) : Sem Tryz.prog 11 [.agg (encCirc c), .int .i64 n] h K := by
  have main : Sem Tryz.prog 11 [.agg (encCirc c), .int .i64 n] Heap.empty (fun o h' => yes (∃ b, o = .ret (.bool b))) := by
    refine F.law11_Few_sem ?_
    have b0 : (Heap.alloc Heap.empty (.cells (encCirc c))).get 0 = some (.cells (encCirc c)) := get_alloc_same _ _
    simp only [box_agg (one_encCirc c), bindO_some, next_empty]
    generalize (Heap.alloc Heap.empty (.cells (encCirc c))) = H at b0 ⊢
    refine loopB_range 0 c.gates.l.length (Nat.zero_le _) (fun i e h' => h' = H ∧ (∃ k : Int, e 5 = .int .i64 k) ∧ e 1 = .int .i64 n ∧ e 2 = .ptr 0 0 ∧ e 6 = .int .i64 (i : Int)) ⟨rfl, ⟨0, rfl⟩, rfl, rfl, rfl⟩ ?_ ?_
    · rintro i e h' _ hi ⟨rfl, ⟨k, e5⟩, e1, e2, e6⟩ K' hn hx hr hp
      have hg : c.gates.l[i]? = some c.gates.l[i] := List.getElem?_eq_getElem hi
      generalize c.gates.l[i] = g at hg
      have hgo : g.ok := hc.2 g (List.mem_of_getElem? hg)
      have ld : ∀ j, j < 4 → ∀ h, loadS none (.iptr (c.gates.l.flatMap encGate) (i * 4 + j)) h = (encGate g)[j]? := fun j hj h => load_elem len_encGate hg hj
      rw [F.law11_Few.L0_eq]
      simp only [e1, e2, e5, e6, load_ptr b0, encCirc, bindO_some, bindO2_some, outK_ret, condB_bool, cond_t, cond_f, fa_ptr, fa_iptr, part_none, Nat.zero_add, Nat.add_zero, Nat.reduceAdd, List.getElem?_cons_zero, List.getElem?_cons_succ, len_str, lenS_enc, lss_int, leq_int, gtr_int, geq_int, eq_int, ne_int, eq_str, ne_str, eq_bool, ne_bool, not_bool, extract_0, extract_1, extract_2, setV_eq, Nat.reduceEqDiff, reduceIte]
      simp only [bindO_some, bindO2_some, outK_ret, condB_bool, cond_t, cond_f, fa_ptr, fa_iptr, part_none, Nat.zero_add, Nat.add_zero, Nat.reduceAdd, List.getElem?_cons_zero, List.getElem?_cons_succ, len_str, lenS_enc, lss_int, leq_int, gtr_int, geq_int, eq_int, ne_int, eq_str, ne_str, eq_bool, ne_bool, not_bool, extract_0, extract_1, extract_2, setV_eq, Nat.reduceEqDiff, reduceIte, lt_true hi]
      obtain ⟨k1, hk1⟩ := add_ex k 1
      obtain ⟨k2, hk2⟩ := add_ex k1 (g.kids.l.length : Int)
      obtain ⟨k3, hk3⟩ := add_ex k2 (g.at_.l.length : Int)
      obtain ⟨q, hq⟩ := quo_ex (g.name.length : Int) (b := 20) (by omega)
      obtain ⟨k4, hk4⟩ := add_ex k3 q
      cases decide (k ≤ n) with
      | true =>
        simp only [cond_t, bindO_some, bindO2_some, outK_ret, condB_bool, cond_t, cond_f, fa_ptr, fa_iptr, part_none, Nat.zero_add, Nat.add_zero, Nat.reduceAdd, List.getElem?_cons_zero, List.getElem?_cons_succ, len_str, lenS_enc, lss_int, leq_int, gtr_int, geq_int, eq_int, ne_int, eq_str, ne_str, eq_bool, ne_bool, not_bool, extract_0, extract_1, extract_2, setV_eq, Nat.reduceEqDiff, reduceIte, iaS_enc c.gates hi, ld 3 (by omega), ld 2 (by omega), ld 1 (by omega), encGate, hk1, hk2, hk3, hq, hk4, succ_i64 hi hc.1]
        exact hn _ _ ⟨rfl, ⟨_, rfl⟩, e1, e2, rfl⟩
      | false =>
        simp only [cond_f]
        rw [hx, F.law11_Few.L0_x0_eq]
        simp only [bindO_some, bindO2_some, outK_ret, condB_bool, cond_t, cond_f, fa_ptr, fa_iptr, part_none, Nat.zero_add, Nat.add_zero, Nat.reduceAdd, List.getElem?_cons_zero, List.getElem?_cons_succ, len_str, lenS_enc, lss_int, leq_int, gtr_int, geq_int, eq_int, ne_int, eq_str, ne_str, eq_bool, ne_bool, not_bool, extract_0, extract_1, extract_2, setV_eq, Nat.reduceEqDiff, reduceIte, e1, e5]
        exact yes_eq.2 ⟨_, rfl⟩
    · rintro e h' ⟨rfl, ⟨k, e5⟩, e1, e2, e6⟩ K' hx
      rw [F.law11_Few.L0_eq]
      simp only [e2, e6, load_ptr b0, encCirc, bindO_some, bindO2_some, outK_ret, condB_bool, cond_t, cond_f, fa_ptr, fa_iptr, part_none, Nat.zero_add, Nat.add_zero, Nat.reduceAdd, List.getElem?_cons_zero, List.getElem?_cons_succ, len_str, lenS_enc, lss_int, leq_int, gtr_int, geq_int, eq_int, ne_int, eq_str, ne_str, eq_bool, ne_bool, not_bool, extract_0, extract_1, extract_2, setV_eq, Nat.reduceEqDiff, reduceIte]
      simp only [bindO_some, bindO2_some, outK_ret, condB_bool, cond_t, cond_f, fa_ptr, fa_iptr, part_none, Nat.zero_add, Nat.add_zero, Nat.reduceAdd, List.getElem?_cons_zero, List.getElem?_cons_succ, len_str, lenS_enc, lss_int, leq_int, gtr_int, geq_int, eq_int, ne_int, eq_str, ne_str, eq_bool, ne_bool, not_bool, extract_0, extract_1, extract_2, setV_eq, Nat.reduceEqDiff, reduceIte, lt_false]
      rw [hx, F.law11_Few.L0_x0_eq]
      simp only [bindO_some, bindO2_some, outK_ret, condB_bool, cond_t, cond_f, fa_ptr, fa_iptr, part_none, Nat.zero_add, Nat.add_zero, Nat.reduceAdd, List.getElem?_cons_zero, List.getElem?_cons_succ, len_str, lenS_enc, lss_int, leq_int, gtr_int, geq_int, eq_int, ne_int, eq_str, ne_str, eq_bool, ne_bool, not_bool, extract_0, extract_1, extract_2, setV_eq, Nat.reduceEqDiff, reduceIte, e1, e5]
      exact yes_eq.2 ⟨_, rfl⟩
  refine main.frozen (by simp [AV.pureL, AV.pure, pure_encCirc]) fun o h' ho => ?_
  obtain ⟨b, rfl⟩ := yes_eq.1 ho
  exact ⟨_, _, rfl, .scalar _ rfl, hK b⟩

/-- THE LAW. -/
theorem law_GateValid {c : Circ} (hc : c.ok) : Sem Tryz.prog 3 [.agg (encCirc c)] Heap.empty trueK := by
  refine F.law11_GateValid_sem ?_
  have b0 : (Heap.alloc Heap.empty (.cells (encCirc c))).get 0 = some (.cells (encCirc c)) := get_alloc_same _ _
  simp only [box_agg (one_encCirc c), bindO_some, next_empty]
  generalize (Heap.alloc Heap.empty (.cells (encCirc c))) = H at b0 ⊢
  simp only [load_ptr b0, part_whole (cs := encCirc c) (n := 2) rfl, bindO_some]
  refine semCall_true (law11_Few hc fun b => ?_)
  simp only [bindO_some, bindO2_some, outK_ret, condB_bool, cond_t, cond_f, fa_ptr, fa_iptr, part_none, Nat.zero_add, Nat.add_zero, Nat.reduceAdd, List.getElem?_cons_zero, List.getElem?_cons_succ, len_str, lenS_enc, lss_int, leq_int, gtr_int, geq_int, eq_int, ne_int, eq_str, ne_str, eq_bool, ne_bool, not_bool, extract_0, extract_1, extract_2, setV_eq, Nat.reduceEqDiff, reduceIte]
  cases b with
  | false =>
    simp only [Bool.not_false, cond_t]
    refine semCall_true (alive_sem ?_)
    rfl
  | true =>
    simp only [Bool.not_true, cond_f, load_ptr b0, part_whole (cs := encCirc c) (n := 2) rfl, bindO_some]
    refine semCall_true (ref11_Valid hc ?_)
    simp only [bindO_some, bindO2_some, outK_ret, condB_bool, cond_t, cond_f, fa_ptr, fa_iptr, part_none, Nat.zero_add, Nat.add_zero, Nat.reduceAdd, List.getElem?_cons_zero, List.getElem?_cons_succ, len_str, lenS_enc, lss_int, leq_int, gtr_int, geq_int, eq_int, ne_int, eq_str, ne_str, eq_bool, ne_bool, not_bool, extract_0, extract_1, extract_2, setV_eq, Nat.reduceEqDiff, reduceIte]
    have J : ∀ e : Env, e 1 = .ptr 0 0 → e 4 = .bool (validB c) → e 3 = .int .i64 (depthI c) → F.law11_GateValid.J0 trueK ⟨e, 27, [], H⟩ = true := by
      intro e e1 e4 e3
      rw [F.law11_GateValid.J0_eq]
      simp only [e1, load_ptr b0, part_whole (cs := encCirc c) (n := 2) rfl, bindO_some]
      refine semCall_true (gate_Valid hc ?_)
      simp only [bindO_some, bindO2_some, outK_ret, condB_bool, cond_t, cond_f, fa_ptr, fa_iptr, part_none, Nat.zero_add, Nat.add_zero, Nat.reduceAdd, List.getElem?_cons_zero, List.getElem?_cons_succ, len_str, lenS_enc, lss_int, leq_int, gtr_int, geq_int, eq_int, ne_int, eq_str, ne_str, eq_bool, ne_bool, not_bool, extract_0, extract_1, extract_2, setV_eq, Nat.reduceEqDiff, reduceIte, e4, beq_self_eq_true, e1, load_ptr b0, part_whole (cs := encCirc c) (n := 2) rfl]
      refine semCall_true (gate_Depth hc ?_)
      simp only [bindO_some, bindO2_some, outK_ret, condB_bool, cond_t, cond_f, fa_ptr, fa_iptr, part_none, Nat.zero_add, Nat.add_zero, Nat.reduceAdd, List.getElem?_cons_zero, List.getElem?_cons_succ, len_str, lenS_enc, lss_int, leq_int, gtr_int, geq_int, eq_int, ne_int, eq_str, ne_str, eq_bool, ne_bool, not_bool, extract_0, extract_1, extract_2, setV_eq, Nat.reduceEqDiff, reduceIte, e3, beq_self_eq_true]
      refine semCall_true (alive_sem ?_)
      rfl
    cases hv : validB c with
    | true =>
      simp only [cond_t, load_ptr b0, part_whole (cs := encCirc c) (n := 2) rfl, bindO_some]
      refine semCall_true (ref11_Depth hc (fits_valid hv) ?_)
      simp only [outK_ret]
      exact J _ rfl (by rw [hv]; rfl) (by unfold depthI; rw [hv]; rfl)
    | false =>
      simp only [cond_f]
      exact J _ rfl (by rw [hv]; rfl) (by unfold depthI; rw [hv]; rfl)
end
end Go.AM
