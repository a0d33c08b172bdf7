/- Parts of a proof, merged out of smaller texts: the abstract machine and what functions do. Conditions: none. -/
import Derived.Test.YthmbnnjimbjplaaGreatDoorFl11
import Derived.Test.YthmbnnjimbjplaaGreatDoorFl13
import Derived.Test.YthmbnnjimbjplaaGreatDoorFl14
/- Depth, and the law GateValid. Conditions: none. -/
namespace Go.AM
open Go Go.Proofs
set_option linter.unusedVariables false
set_option linter.unusedSimpArgs false
noncomputable section

def lastD (c : Circ) : Int := (depthsOf c).getD (c.gates.l.length - 1) 0
def depthI (c : Circ) : Int := bif validB c then lastD c else -1
theorem pred_i64 {n : Nat} (h1 : 1 ≤ n) (h2 : n ≤ big) : binS .sub (.int .i64 (n : Int)) (.int .i64 1) = some (.int .i64 ((n - 1 : Nat) : Int)) := by
  unfold big at h2
  rw [sub_i64 (by omega) (by omega)]
  congr 2; omega

theorem add_ex (a b : Int) : ∃ v, binS .add (.int .i64 a) (.int .i64 b) = some (.int .i64 v) := ⟨_, add_any a b⟩
theorem quo_ex (a : Int) {b : Int} (hb : b ≠ 0) : ∃ v, binS .quo (.int .i64 a) (.int .i64 b) = some (.int .i64 v) := ⟨_, quo_any a hb⟩
/-- Few answers something. -/
theorem law11_Few {c : Circ} (hc : c.ok) {n : Int} {h : Heap} {K : Out → Heap → Bool} (hK : ∀ b, K (.ret (.bool b)) h = true) : Sem Tryz.prog 11 [.agg (encCirc c), .int .i64 n] h K := by
  have main : Sem Tryz.prog 11 [.agg (encCirc c), .int .i64 n] Heap.empty (fun o h' => yes (∃ b, o = .ret (.bool b))) := by
    refine F.law11_Few_sem ?_
    have b0 : (Heap.alloc Heap.empty (.cells (encCirc c))).get 0 = some (.cells (encCirc c)) := get_alloc_same _ _
    simp only [box_agg (one_encCirc c), bindO_some, next_empty]
    generalize (Heap.alloc Heap.empty (.cells (encCirc c))) = H at b0 ⊢
    refine loopB_range 0 c.gates.l.length (Nat.zero_le _) (fun i e h' => h' = H ∧ (∃ k : Int, e 5 = .int .i64 k) ∧ e 1 = .int .i64 n ∧ e 2 = .ptr 0 0 ∧ e 6 = .int .i64 (i : Int)) ⟨rfl, ⟨0, rfl⟩, rfl, rfl, rfl⟩ ?_ ?_
    · rintro i e h' _ hi ⟨rfl, ⟨k, e5⟩, e1, e2, e6⟩ K' hn hx hr hp
      have hg : c.gates.l[i]? = some c.gates.l[i] := List.getElem?_eq_getElem hi
      generalize c.gates.l[i] = g at hg
      have hgo : g.ok := hc.2 g (List.mem_of_getElem? hg)
      have ld : ∀ j, j < 4 → ∀ h, loadS none (.iptr (c.gates.l.flatMap encGate) (i * 4 + j)) h = (encGate g)[j]? := fun j hj h => load_elem len_encGate hg hj
      rw [F.law11_Few.L0_eq]
      simp only [e1, e2, e5, e6, load_ptr b0, encCirc, bindO_some, bindO2_some, outK_ret, condB_bool, cond_t, cond_f, fa_ptr, fa_iptr, part_none, Nat.zero_add, Nat.add_zero, Nat.reduceAdd, List.getElem?_cons_zero, List.getElem?_cons_succ, len_str, lenS_enc, lss_int, leq_int, gtr_int, geq_int, eq_int, ne_int, eq_str, ne_str, eq_bool, ne_bool, not_bool, extract_0, extract_1, extract_2, setV_eq, Nat.reduceEqDiff, reduceIte]
      simp only [bindO_some, bindO2_some, outK_ret, condB_bool, cond_t, cond_f, fa_ptr, fa_iptr, part_none, Nat.zero_add, Nat.add_zero, Nat.reduceAdd, List.getElem?_cons_zero, List.getElem?_cons_succ, len_str, lenS_enc, lss_int, leq_int, gtr_int, geq_int, eq_int, ne_int, eq_str, ne_str, eq_bool, ne_bool, not_bool, extract_0, extract_1, extract_2, setV_eq, Nat.reduceEqDiff, reduceIte, lt_true hi]
      obtain ⟨k1, hk1⟩ := add_ex k 1
      obtain ⟨k2, hk2⟩ := add_ex k1 (g.kids.l.length : Int)
      obtain ⟨k3, hk3⟩ := add_ex k2 (g.at_.l.length : Int)
      obtain ⟨q, hq⟩ := quo_ex (g.name.length : Int) (b := 20) (by omega)
      obtain ⟨k4, hk4⟩ := add_ex k3 q
      cases decide (k ≤ n) with
      | true =>
        simp only [cond_t, bindO_some, bindO2_some, outK_ret, condB_bool, cond_t, cond_f, fa_ptr, fa_iptr, part_none, Nat.zero_add, Nat.add_zero, Nat.reduceAdd, List.getElem?_cons_zero, List.getElem?_cons_succ, len_str, lenS_enc, lss_int, leq_int, gtr_int, geq_int, eq_int, ne_int, eq_str, ne_str, eq_bool, ne_bool, not_bool, extract_0, extract_1, extract_2, setV_eq, Nat.reduceEqDiff, reduceIte, iaS_enc c.gates hi, ld 3 (by omega), ld 2 (by omega), ld 1 (by omega), encGate, hk1, hk2, hk3, hq, hk4, succ_i64 hi hc.1]
        exact hn _ _ ⟨rfl, ⟨_, rfl⟩, e1, e2, rfl⟩
      | false =>
        simp only [cond_f]
        rw [hx, F.law11_Few.L0_x0_eq]
        simp only [bindO_some, bindO2_some, outK_ret, condB_bool, cond_t, cond_f, fa_ptr, fa_iptr, part_none, Nat.zero_add, Nat.add_zero, Nat.reduceAdd, List.getElem?_cons_zero, List.getElem?_cons_succ, len_str, lenS_enc, lss_int, leq_int, gtr_int, geq_int, eq_int, ne_int, eq_str, ne_str, eq_bool, ne_bool, not_bool, extract_0, extract_1, extract_2, setV_eq, Nat.reduceEqDiff, reduceIte, e1, e5]
        exact yes_eq.2 ⟨_, rfl⟩
    · rintro e h' ⟨rfl, ⟨k, e5⟩, e1, e2, e6⟩ K' hx
      rw [F.law11_Few.L0_eq]
      simp only [e2, e6, load_ptr b0, encCirc, bindO_some, bindO2_some, outK_ret, condB_bool, cond_t, cond_f, fa_ptr, fa_iptr, part_none, Nat.zero_add, Nat.add_zero, Nat.reduceAdd, List.getElem?_cons_zero, List.getElem?_cons_succ, len_str, lenS_enc, lss_int, leq_int, gtr_int, geq_int, eq_int, ne_int, eq_str, ne_str, eq_bool, ne_bool, not_bool, extract_0, extract_1, extract_2, setV_eq, Nat.reduceEqDiff, reduceIte]
      simp only [bindO_some, bindO2_some, outK_ret, condB_bool, cond_t, cond_f, fa_ptr, fa_iptr, part_none, Nat.zero_add, Nat.add_zero, Nat.reduceAdd, List.getElem?_cons_zero, List.getElem?_cons_succ, len_str, lenS_enc, lss_int, leq_int, gtr_int, geq_int, eq_int, ne_int, eq_str, ne_str, eq_bool, ne_bool, not_bool, extract_0, extract_1, extract_2, setV_eq, Nat.reduceEqDiff, reduceIte, lt_false]
      rw [hx, F.law11_Few.L0_x0_eq]
      simp only [bindO_some, bindO2_some, outK_ret, condB_bool, cond_t, cond_f, fa_ptr, fa_iptr, part_none, Nat.zero_add, Nat.add_zero, Nat.reduceAdd, List.getElem?_cons_zero, List.getElem?_cons_succ, len_str, lenS_enc, lss_int, leq_int, gtr_int, geq_int, eq_int, ne_int, eq_str, ne_str, eq_bool, ne_bool, not_bool, extract_0, extract_1, extract_2, setV_eq, Nat.reduceEqDiff, reduceIte, e1, e5]
      exact yes_eq.2 ⟨_, rfl⟩
  refine main.frozen (by simp [AV.pureL, AV.pure, pure_encCirc]) fun o h' ho => ?_
  obtain ⟨b, rfl⟩ := yes_eq.1 ho
  exact ⟨_, _, rfl, .scalar _ rfl, hK b⟩

end
end Go.AM
/- The bounds' question about structures answers something; own rows of values. Conditions: none. -/
namespace Go.AM
open Go Go.Proofs
set_option linter.unusedVariables false
set_option linter.unusedSimpArgs false
noncomputable section

theorem get_tups {s : Strc} {i : Nat} {r : Rel} (hr : s.rels.l[i]? = some r) {h : Heap} : loadS none (.iptr (s.rels.l.flatMap encRel) (i * 3 + 2)) h = some (encSl encT 1 r.tuples) := by
  rw [load_elem len_encRel hr (by omega)]; rfl
theorem law01_Few {s : Strc} (hs : s.ok) {b : Nat} {h : Heap} (hb : h.get b = some (.cells (encStrc s))) {K : Out → Heap → Bool} (hK : ∀ x, K (.ret (.bool x)) h = true) : Sem Tryz.prog 17 [.slice b 0 1 2] h K := by
  refine F.law01_Few_sem ?_
  have lr : loadS none (.ptr b 1) h = some (encSl encRel 3 s.rels) := by rw [load_ptr hb]; rfl
  have ia : iaS 2 (.slice b 0 1 2) (.int .i64 ((0 : Nat) : Int)) = some (.ptr b 0) := rfl
  have hl : ∀ h : Heap, lenS .slice (.slice b 0 1 2) h = some (.int .i64 ((1 : Nat) : Int)) := fun _ => rfl
  have num : ∀ e : Env, (∃ x : Int, e 4 = .int .i64 x) → F.law01_Few.L0k K (.exit 0) ⟨e, 89, [], h⟩ = true := fun e ⟨x, hx⟩ => by
    rw [F.law01_Few.L0_x0_eq]
    simp only [hx, bindO_some, bindO2_some, outK_ret, condB_bool, cond_t, cond_f, fa_ptr, fa_iptr, part_none, Nat.zero_add, Nat.add_zero, Nat.reduceAdd, List.getElem?_cons_zero, List.getElem?_cons_succ, len_str, lenS_enc, lss_int, leq_int, gtr_int, geq_int, eq_int, ne_int, eq_str, ne_str, eq_bool, ne_bool, not_bool, extract_0, extract_1, extract_2, setV_eq, Nat.reduceEqDiff, reduceIte]
    exact hK _
  refine loopB_range 0 1 (Nat.zero_le _) (fun i e h' => h' = h ∧ e 0 = .slice b 0 1 2 ∧ (∃ x : Int, e 3 = .int .i64 x) ∧ (∃ x : Int, e 4 = .int .i64 x) ∧ e 5 = .int .i64 (i : Int)) ⟨rfl, rfl, ⟨0, rfl⟩, ⟨0, rfl⟩, rfl⟩ ?_ ?_
  · rintro i e h' _ hi ⟨rfl, e0, e3, e4, e5⟩ K' hn hx hr hp
    obtain rfl : i = 0 := by omega
    rw [F.law01_Few.L0_eq]
    simp only [e0, e5, hl, ia, lr, bindO_some, bindO2_some, outK_ret, condB_bool, cond_t, cond_f, fa_ptr, fa_iptr, part_none, Nat.zero_add, Nat.add_zero, Nat.reduceAdd, List.getElem?_cons_zero, List.getElem?_cons_succ, len_str, lenS_enc, lss_int, leq_int, gtr_int, geq_int, eq_int, ne_int, eq_str, ne_str, eq_bool, ne_bool, not_bool, extract_0, extract_1, extract_2, setV_eq, Nat.reduceEqDiff, reduceIte, lt_true hi]
    by_cases q1 : 12 < s.rels.l.length
    · simp only [decide_eq_true (by omega : (12 : Int) < (s.rels.l.length : Int)), cond_t]
      rw [hr, F.law01_Few.L0_r_eq]
      simp only [setV_eq, Nat.reduceEqDiff, reduceIte]
      exact hK _
    simp only [decide_eq_false (by omega : ¬ (12 : Int) < (s.rels.l.length : Int)), cond_f]
    refine loopB_range 0 s.rels.l.length (Nat.zero_le _) (fun k e h2 => h2 = h' ∧ e 0 = .slice b 0 1 2 ∧ (∃ x : Int, e 3 = .int .i64 x) ∧ (∃ x : Int, e 4 = .int .i64 x) ∧ e 5 = .int .i64 ((0 : Nat) : Int) ∧ e 6 = .int .i64 (k : Int)) ⟨rfl, e0, e3, e4, e5, rfl⟩ ?_ ?_
    · rintro k e h2 _ hk ⟨rfl, e0, ⟨x3, e3⟩, e4, e5, e6⟩ K2 hn2 hx2 hr2 hp2
      have hv : s.rels.l[k]? = some s.rels.l[k] := List.getElem?_eq_getElem hk
      generalize s.rels.l[k] = r at hv
      have hro : r.ok := hs.2 r (List.mem_of_getElem? hv)
      obtain ⟨y, hy⟩ := add_ex x3 (r.tuples.l.length : Int)
      have ret : ∀ e : Env, e 2 = .bool false → F.law01_Few.L1k K' .ret ⟨e, 89, [], h2⟩ = true := fun e he => by
        rw [F.law01_Few.L1_r_eq, hr, F.law01_Few.L0_r_eq, he]
        exact hK _
      rw [F.law01_Few.L1_eq]
      simp only [e0, e3, e5, e6, ia, lr, bindO_some, bindO2_some, outK_ret, condB_bool, cond_t, cond_f, fa_ptr, fa_iptr, part_none, Nat.zero_add, Nat.add_zero, Nat.reduceAdd, List.getElem?_cons_zero, List.getElem?_cons_succ, len_str, lenS_enc, lss_int, leq_int, gtr_int, geq_int, eq_int, ne_int, eq_str, ne_str, eq_bool, ne_bool, not_bool, extract_0, extract_1, extract_2, setV_eq, Nat.reduceEqDiff, reduceIte, lt_true hk, iaS_enc s.rels hk, get_tups hv, get_name hv, hy]
      cases decide ((1500 : Int) < y) with
      | true =>
        simp only [cond_t]
        rw [hr2]
        exact ret _ rfl
      | false =>
      simp only [cond_f]
      cases decide ((1000 : Int) < (r.name.length : Int)) with
      | true =>
        simp only [cond_t]
        rw [hr2]
        exact ret _ rfl
      | false =>
      simp only [cond_f]
      refine loopB_range 0 r.tuples.l.length (Nat.zero_le _) (fun j e h3 => h3 = h2 ∧ e 0 = .slice b 0 1 2 ∧ (∃ x : Int, e 3 = .int .i64 x) ∧ (∃ x : Int, e 4 = .int .i64 x) ∧ e 5 = .int .i64 ((0 : Nat) : Int) ∧ e 6 = .int .i64 (k : Int) ∧ e 7 = .int .i64 (j : Int)) ⟨rfl, e0, ⟨y, rfl⟩, e4, e5, e6, rfl⟩ ?_ ?_
      · rintro j e h3 _ hj ⟨rfl, e0, e3, ⟨x4, e4⟩, e5, e6, e7⟩ K3 hn3 hx3 hr3 hp3
        have ht : r.tuples.l[j]? = some r.tuples.l[j] := List.getElem?_eq_getElem hj
        generalize r.tuples.l[j] = t at ht
        obtain ⟨z, hz⟩ := add_ex x4 (t.l.length : Int)
        rw [F.law01_Few.L2_eq]
        simp only [e0, e4, e5, e6, e7, ia, lr, bindO_some, bindO2_some, outK_ret, condB_bool, cond_t, cond_f, fa_ptr, fa_iptr, part_none, Nat.zero_add, Nat.add_zero, Nat.reduceAdd, List.getElem?_cons_zero, List.getElem?_cons_succ, len_str, lenS_enc, lss_int, leq_int, gtr_int, geq_int, eq_int, ne_int, eq_str, ne_str, eq_bool, ne_bool, not_bool, extract_0, extract_1, extract_2, setV_eq, Nat.reduceEqDiff, reduceIte, iaS_enc s.rels hk, get_tups hv, lt_true hj, iaS_enc r.tuples hj, get_tup ht, hz, succ_i64 hj hro.2.1]
        exact hn3 _ _ ⟨rfl, e0, e3, ⟨z, rfl⟩, e5, e6, rfl⟩
      · rintro e h3 ⟨rfl, e0, e3, e4, e5, e6, e7⟩ K3 hx3
        rw [F.law01_Few.L2_eq]
        simp only [e0, e5, e6, e7, ia, lr, bindO_some, bindO2_some, outK_ret, condB_bool, cond_t, cond_f, fa_ptr, fa_iptr, part_none, Nat.zero_add, Nat.add_zero, Nat.reduceAdd, List.getElem?_cons_zero, List.getElem?_cons_succ, len_str, lenS_enc, lss_int, leq_int, gtr_int, geq_int, eq_int, ne_int, eq_str, ne_str, eq_bool, ne_bool, not_bool, extract_0, extract_1, extract_2, setV_eq, Nat.reduceEqDiff, reduceIte, iaS_enc s.rels hk, get_tups hv, lt_false]
        rw [hx3, F.law01_Few.L2_x4_eq]
        simp only [bindO_some, bindO2_some, outK_ret, condB_bool, cond_t, cond_f, fa_ptr, fa_iptr, part_none, Nat.zero_add, Nat.add_zero, Nat.reduceAdd, List.getElem?_cons_zero, List.getElem?_cons_succ, len_str, lenS_enc, lss_int, leq_int, gtr_int, geq_int, eq_int, ne_int, eq_str, ne_str, eq_bool, ne_bool, not_bool, extract_0, extract_1, extract_2, setV_eq, Nat.reduceEqDiff, reduceIte, e6, succ_i64 hk hs.1]
        exact hn2 _ _ ⟨rfl, e0, e3, e4, e5, rfl⟩
    · rintro e h2 ⟨rfl, e0, e3, e4, e5, e6⟩ K2 hx2
      rw [F.law01_Few.L1_eq]
      simp only [e0, e5, e6, ia, lr, bindO_some, bindO2_some, outK_ret, condB_bool, cond_t, cond_f, fa_ptr, fa_iptr, part_none, Nat.zero_add, Nat.add_zero, Nat.reduceAdd, List.getElem?_cons_zero, List.getElem?_cons_succ, len_str, lenS_enc, lss_int, leq_int, gtr_int, geq_int, eq_int, ne_int, eq_str, ne_str, eq_bool, ne_bool, not_bool, extract_0, extract_1, extract_2, setV_eq, Nat.reduceEqDiff, reduceIte, lt_false]
      rw [hx2, F.law01_Few.L1_x2_eq]
      simp only [bindO_some, bindO2_some, outK_ret, condB_bool, cond_t, cond_f, fa_ptr, fa_iptr, part_none, Nat.zero_add, Nat.add_zero, Nat.reduceAdd, List.getElem?_cons_zero, List.getElem?_cons_succ, len_str, lenS_enc, lss_int, leq_int, gtr_int, geq_int, eq_int, ne_int, eq_str, ne_str, eq_bool, ne_bool, not_bool, extract_0, extract_1, extract_2, setV_eq, Nat.reduceEqDiff, reduceIte, e5, succ_i64 hi (show (1 : Nat) ≤ big by unfold big; omega)]
      exact hn _ _ ⟨rfl, e0, e3, e4, rfl⟩
  · rintro e h' ⟨rfl, e0, e3, e4, e5⟩ K' hx
    rw [F.law01_Few.L0_eq]
    simp only [e0, e5, hl, bindO_some, bindO2_some, outK_ret, condB_bool, cond_t, cond_f, fa_ptr, fa_iptr, part_none, Nat.zero_add, Nat.add_zero, Nat.reduceAdd, List.getElem?_cons_zero, List.getElem?_cons_succ, len_str, lenS_enc, lss_int, leq_int, gtr_int, geq_int, eq_int, ne_int, eq_str, ne_str, eq_bool, ne_bool, not_bool, extract_0, extract_1, extract_2, setV_eq, Nat.reduceEqDiff, reduceIte, lt_false]
    rw [hx]
    exact num _ e4

/-! ### Own rows -/
/-- `a` is a row of ours that holds `l`; its block is not older than `k`. -/
inductive Own {α : Type} (enc : α → List AV) (sz k : Nat) (h : Heap) : AV → List α → Prop
  | nil : Own enc sz k h .nils []
  | row (b : Nat) (l : List α) : k ≤ b → b < h.next → h.get b = some (.cells (l.flatMap enc)) → Own enc sz k h (.slice b 0 l.length sz) l
variable {α : Type} {enc : α → List AV} {sz k : Nat}
theorem Own.len {h h' : Heap} {a : AV} {l : List α} (o : Own enc sz k h a l) : lenS .slice a h' = some (.int .i64 (l.length : Int)) := by
  cases o <;> rfl
theorem Own.ext {h h' : Heap} {a : AV} {l : List α} (o : Own enc sz k h a l) (hx : HExt h h') : Own enc sz k h' a l := by
  cases o with
  | nil => exact .nil
  | row b l h1 h2 h3 => exact .row b l h1 (Nat.lt_of_lt_of_le h2 hx.next) (by rw [hx.get b h2]; exact h3)
theorem Own.get {h : Heap} {a : AV} {l : List α} (o : Own enc sz k h a l) (he : ∀ x, (enc x).length = sz) {i : Nat} {v : α} (hv : l[i]? = some v) :
    ∃ b, k ≤ b ∧ b < h.next ∧ (∀ q : IntKind, iaS sz a (.int q (i : Int)) = some (.ptr b (i * sz))) ∧ loadS (some sz) (.ptr b (i * sz)) h = some (.agg (enc v)) ∧ ∀ m, m < sz → loadS none (.ptr b (i * sz + m)) h = (enc v)[m]? := by
  cases o with
  | nil => simp at hv
  | row b l h1 h2 h3 =>
    have hi := (List.getElem?_eq_some_iff.1 hv).1
    refine ⟨b, h1, h2, fun q => by simp [iaS, asNat, hi], ?_, fun m hm => by rw [load_ptr h3, part_none, get_flatMap he l i m v hv hm]⟩
    rw [load_ptr h3]
    have hp := part_flatMap he l i v hv
    simp only [partS]
    have hlen : i * sz + sz ≤ (l.flatMap enc).length := by
      rw [len_flatMap he]
      have : (i + 1) * sz ≤ l.length * sz := Nat.mul_le_mul_right sz hi
      rw [Nat.succ_mul] at this; exact this
    rw [if_pos (by simpa using hlen), hp]
theorem Own.frz {h : Heap} {a : AV} {l : List α} (o : Own enc sz k h a l) (hf : ∀ v ∈ l, ∀ x ∈ enc v, Fz true h x x) : Fz true h a (encSl enc sz (match a with | .nils => none | _ => some l)) := by
  cases o with
  | nil => exact .of_pure rfl
  | row b l h1 h2 h3 =>
    refine .slice b 0 l.length sz _ _ h3 rfl fun i x y hx hy => ?_
    rw [hx] at hy
    cases hy
    have := List.mem_of_getElem? hx
    rw [List.mem_flatMap] at this
    obtain ⟨v, hv, hxv⟩ := this
    exact hf v hv x hxv
end
end Go.AM
/- Rows of our own that grow; lists of names in order. Conditions: none. -/
namespace Go.AM
open Go Go.Proofs
set_option linter.unusedVariables false
set_option linter.unusedSimpArgs false
noncomputable section

section
variable {α : Type} {enc : α → List AV} {sz k : Nat}
/-- `x` is a row that can be read: `l`. -/
structure Row (enc : α → List AV) (sz : Nat) (h : Heap) (x : AV) (l : List α) : Prop where
  len : lenA x = some l.length
  cells : firstS sz l.length x h = some (l.flatMap enc)
theorem flat_take (he : ∀ x, (enc x).length = sz) : ∀ (l : List α) (i : Nat), (l.flatMap enc).take (i * sz) = (l.take i).flatMap enc
  | [], i => by simp
  | x :: l, 0 => by simp
  | x :: l, i + 1 => by
    rw [List.flatMap_cons, List.take_succ_cons, List.flatMap_cons, List.take_append, he, Nat.succ_mul, Nat.add_sub_cancel, flat_take he l i, List.take_of_length_le (by rw [he]; omega)]
theorem flat_drop (he : ∀ x, (enc x).length = sz) : ∀ (l : List α) (i : Nat), (l.flatMap enc).drop (i * sz) = (l.drop i).flatMap enc
  | [], i => by simp
  | x :: l, 0 => by simp
  | x :: l, i + 1 => by
    rw [List.flatMap_cons, List.drop_succ_cons, List.drop_append, he, Nat.succ_mul, Nat.add_sub_cancel, flat_drop he l i, List.drop_of_length_le (by rw [he]; omega), List.nil_append]
theorem Own.takeRow {h : Heap} {a : AV} {l : List α} (o : Own enc sz k h a l) (he : ∀ x, (enc x).length = sz) {i : Nat} (hi : i ≤ l.length) :
    ∃ x, (∀ q : IntKind, sliceS (some sz) a none (some (.int q (i : Int))) = some x) ∧ ∀ h', HExt h h' → Row enc sz h' x (l.take i) := by
  cases o with
  | nil => simp at hi; subst hi; exact ⟨.nils, fun q => by simp [sliceS, lenA, boundS, asNat], fun h' _ => ⟨rfl, rfl⟩⟩
  | row b l h1 h2 h3 =>
    refine ⟨.slice b 0 i sz, fun q => by simp [sliceS, lenA, boundS, asNat, hi], fun h' hx => ⟨by simp [lenA, Nat.min_eq_left hi], ?_⟩⟩
    have h3' : h'.get b = some (.cells (l.flatMap enc)) := by rw [hx.get b h2]; exact h3
    have hl : (l.flatMap enc).length = l.length * sz := len_flatMap he l
    have hm : (l.take i).length = i := by rw [List.length_take, Nat.min_eq_left hi]
    simp only [firstS, h3', if_true, Nat.zero_add, hl, hm, List.drop_zero]
    rw [if_pos (Nat.mul_le_mul_right sz hi), flat_take he]
theorem Own.dropRow {h : Heap} {a : AV} {l : List α} (o : Own enc sz k h a l) (he : ∀ x, (enc x).length = sz) {i : Nat} (hi : i ≤ l.length) :
    ∃ x, (∀ q : IntKind, sliceS (some sz) a (some (.int q (i : Int))) none = some x) ∧ ∀ h', HExt h h' → Row enc sz h' x (l.drop i) := by
  cases o with
  | nil => simp at hi; subst hi; exact ⟨.nils, fun q => by simp [sliceS, lenA, boundS, asNat], fun h' _ => ⟨rfl, rfl⟩⟩
  | row b l h1 h2 h3 =>
    refine ⟨.slice b (i * sz) (l.length - i) sz, fun q => by simp [sliceS, lenA, boundS, asNat, hi], fun h' hx => ⟨by simp [lenA], ?_⟩⟩
    have h3' : h'.get b = some (.cells (l.flatMap enc)) := by rw [hx.get b h2]; exact h3
    have hl : (l.flatMap enc).length = l.length * sz := len_flatMap he l
    have hm : (l.drop i).length = l.length - i := by rw [List.length_drop]
    simp only [firstS, h3', if_true, hl, hm]
    have hle : i * sz + (l.length - i) * sz ≤ l.length * sz := by rw [← Nat.add_mul]; exact Nat.mul_le_mul_right sz (by omega)
    rw [if_pos hle, flat_drop he, List.take_of_length_le]
    rw [len_flatMap he, hm]; exact Nat.le_refl _
theorem one_flatMap (h1 : ∀ x, oneAll (enc x) = true) : ∀ l : List α, oneAll (l.flatMap enc) = true
  | [] => rfl
  | x :: l => by
    have app : ∀ a b : List AV, oneAll a = true → oneAll b = true → oneAll (a ++ b) = true := by
      intro a b ha hb
      induction a with
      | nil => exact hb
      | cons y a ih =>
        simp only [oneAll, List.cons_append, Bool.and_eq_true] at ha ⊢
        exact ⟨ha.1, ih ha.2⟩
    rw [List.flatMap_cons]
    exact app _ _ (h1 x) (one_flatMap h1 l)
def blkOf : AV → Option Nat
  | .slice b _ _ _ => some b
  | _ => none
/-- A row of ours grows by another row. -/
theorem Own.append {h : Heap} {a x : AV} {l m : List α} (o : Own enc sz k h a l) (he : ∀ x, (enc x).length = sz) (h1 : ∀ x, oneAll (enc x) = true) (r : Row enc sz h x m) (hk : k ≤ h.next) {bytes : Nat} (hroom : (l.length + m.length) * bytes ≤ maxBytes) :
    ∃ a' h', appendS sz bytes a x h = some (a', h') ∧ Own enc sz k h' a' (l ++ m) ∧ (∀ c, c < h.next → blkOf a ≠ some c → h'.get c = h.get c) ∧ h.next ≤ h'.next ∧ (m ≠ [] → ∀ c, blkOf a' = some c → h.next ≤ c) := by
  cases o with
  | nil =>
    rw [List.length_nil, Nat.zero_add] at hroom
    cases m with
    | nil =>
      refine ⟨.nils, h, ?_, .nil, fun _ _ _ => rfl, Nat.le_refl _, fun h => absurd rfl h⟩
      have hc := r.cells
      have hl := r.len
      simp only [List.length_nil] at hc hl
      simp [appendS, hl, hc]
    | cons y m =>
      refine ⟨.slice h.next 0 (y :: m).length sz, h.alloc (.cells ((y :: m).flatMap enc)), ?_, .row _ _ hk (Nat.lt_succ_self _) (get_alloc_same _ _), fun c hc _ => by rw [Heap.get_alloc, if_neg (by omega)], Nat.le_succ _, fun _ c hc => by cases hc; exact Nat.le_refl _⟩
      have h0 : ¬ (y :: m).length = 0 := by simp
      simp only [appendS, r.len, r.cells, if_neg h0]
      rw [if_pos (by rw [Bool.and_eq_true]; exact ⟨decide_eq_true hroom, one_flatMap h1 _⟩)]
  | row b l hb1 hb2 hb3 =>
    cases m with
    | nil =>
      rw [List.append_nil]
      refine ⟨.slice b 0 l.length sz, h, ?_, .row b l hb1 hb2 hb3, fun _ _ _ => rfl, Nat.le_refl _, fun h => absurd rfl h⟩
      have hc := r.cells
      have hl := r.len
      simp only [List.length_nil] at hc hl
      simp [appendS, hl, hc]
    | cons y m =>
      have h0 : ¬ (y :: m).length = 0 := by simp
      have hl : (l.flatMap enc).length = l.length * sz := len_flatMap he l
      refine ⟨.slice h.next 0 (l ++ y :: m).length sz, (h.set b .dead).alloc (.cells ((l ++ y :: m).flatMap enc)), ?_, .row _ _ hk ?_ ?_, fun c hc hne => ?_, ?_, fun _ c hc => by cases hc; exact Nat.le_refl _⟩
      · simp only [appendS, r.len, r.cells, if_neg h0, if_true, hb3, List.drop_zero, Nat.zero_add]
        rw [if_pos (by rw [Bool.and_eq_true, Bool.and_eq_true]; exact ⟨⟨decide_eq_true hroom, one_flatMap h1 _⟩, decide_eq_true (by omega)⟩), ← hl, List.take_length, List.flatMap_append, List.length_append]
      · rw [Heap.next_alloc, Heap.next_set]; omega
      · have := get_alloc_same (h.set b .dead) (.cells ((l ++ y :: m).flatMap enc))
        rwa [Heap.next_set] at this
      · rw [Heap.get_alloc, Heap.next_set, if_neg (by omega), Heap.get_set, if_neg (fun e => hne (by rw [e]; rfl))]
      · rw [Heap.next_alloc, Heap.next_set]; omega
end

/-! ### Names in order -/
theorem one_encS (s : Str) : oneAll (encS s) = true := rfl
def strLt (a b : Str) : Bool := Op.bytesLess a b
def risingL : List Str → Str → List Str
  | [], s => [s]
  | x :: l, s => if strLt x s = true then x :: risingL l s else if x = s then x :: l else s :: x :: l
theorem lss_str (a b : Str) : binS .lss (.str a) (.str b) = some (.bool (strLt a b)) := by simp [binS, strLt]
theorem str_beq (a b : Str) : (a == b) = decide (a = b) := by
  by_cases h : a = b
  · subst h; simp
  · rw [decide_eq_false h]; simp [h]
theorem rising_drop {l : List Str} {i : Nat} {x s : Str} (hx : l[i]? = some x) : l.take i ++ risingL (l.drop i) s = if strLt x s = true then l.take (i + 1) ++ risingL (l.drop (i + 1)) s else if x = s then l else l.take i ++ (s :: l.drop i) := by
  have h1 := (List.getElem?_eq_some_iff.1 hx).1
  have hd : l.drop i = x :: l.drop (i + 1) := by
    rw [List.drop_eq_getElem_cons h1]
    rw [List.getElem?_eq_getElem h1] at hx
    cases hx; rfl
  rw [hd, risingL]
  split
  · rw [List.take_add_one, hx]; simp
  · split
    · rw [← hd, List.take_append_drop]
    · rfl
theorem Own.ge {α : Type} {enc : α → List AV} {sz k : Nat} {h : Heap} {a : AV} {l : List α} (o : Own enc sz k h a l) {c : Nat} (hc : blkOf a = some c) : k ≤ c := by
  cases o with
  | nil => cases hc
  | row b l h1 _ _ => cases hc; exact h1
theorem Own.weak {α : Type} {enc : α → List AV} {sz k j : Nat} {h : Heap} {a : AV} {l : List α} (o : Own enc sz k h a l) (hj : j ≤ k) : Own enc sz j h a l := by
  cases o with
  | nil => exact .nil
  | row b l h1 h2 h3 => exact .row b l (Nat.le_trans hj h1) h2 h3
theorem rising_len : ∀ (l : List Str) (s : Str), (risingL l s).length ≤ l.length + 1
  | [], s => Nat.le_refl _
  | x :: l, s => by
    rw [risingL]
    split
    · simp only [List.length_cons]; have := rising_len l s; omega
    · split <;> simp
theorem ref07_rising {k : Nat} {h : Heap} {a : AV} {l : List Str} {s : Str} (o : Own encS 1 k h a l) (hk : k ≤ h.next) (hl : l.length ≤ 100000) {K : Out → Heap → Bool}
    (hK : ∀ a' h', HExt h h' → Own encS 1 k h' a' (risingL l s) → K (.ret a') h' = true) : Sem Tryz.prog 139 [a, .str s] h K := by
  have hbig : l.length ≤ big := by unfold big; omega
  refine F.ref07_rising_sem ?_
  -- the three rows put together
  have app : ∀ i, i ≤ l.length → risingL l s = l.take i ++ (s :: l.drop i) → ∀ e : Env, e 0 = a → e 1 = .str s → e 5 = .int .i64 (i : Int) →
      (bindO (rowS [] [] []) fun c11 =>
        bindO (sliceS (some 1) (e 0) none (some (e 5))) fun x12 =>
        bindO (rowS [(.str [])] [(0, 1)] [(e 1)]) fun c13 =>
        bindO (sliceS (some 1) (e 0) (some (e 5)) none) fun x14 =>
        bindO2 (appendS 1 16 (.slice (Heap.next h) 0 0 1) x12 (Heap.alloc (Heap.alloc h (.cells c11)) (.cells c13))) fun x15 h16 =>
        bindO2 (appendS 1 16 x15 (.slice (Heap.next (Heap.alloc h (.cells c11))) 0 1 1) h16) fun x17 h18 =>
        bindO2 (appendS 1 16 x17 x14 h18) fun x19 h20 =>
        K (.ret x19) h20) = true := by
    intro i hi he e e0 e1 e5
    obtain ⟨x12, hx12, r12⟩ := o.takeRow len_encS hi
    obtain ⟨x14, hx14, r14⟩ := o.dropRow len_encS hi
    rw [show rowS [] [] [] = some [] from rfl]
    simp only [bindO_some, e0, e1, e5, hx12, hx14]
    rw [show rowS [(.str [])] [(0, 1)] [.str s] = some [.str s] from rfl]
    simp only [bindO_some]
    have hx1 : HExt h (Heap.alloc (Heap.alloc h (.cells [])) (.cells [.str s])) := (HExt.alloc _ _).trans (HExt.alloc _ _)
    have g0 : (Heap.alloc (Heap.alloc h (.cells [])) (.cells [.str s])).get h.next = some (.cells []) := by
      rw [Heap.get_alloc, Heap.next_alloc, if_neg (by omega)]; exact get_alloc_same _ _
    have g1 : (Heap.alloc (Heap.alloc h (.cells [])) (.cells [.str s])).get (h.next + 1) = some (.cells [.str s]) := get_alloc_same _ _
    have gn : (Heap.alloc (Heap.alloc h (.cells [])) (.cells [.str s])).next = h.next + 2 := rfl
    rw [Heap.next_alloc]
    generalize (Heap.alloc (Heap.alloc h (.cells [])) (.cells [.str s])) = H at hx1 g0 g1 gn ⊢
    have o0 : Own encS 1 h.next H (.slice h.next 0 0 1) ([] : List Str) := .row h.next [] (Nat.le_refl _) (by omega) g0
    have hm : maxBytes = 140737488355328 := rfl
    have lt : (l.take i).length = i := by rw [List.length_take, Nat.min_eq_left hi]
    have ld : (l.drop i).length = l.length - i := List.length_drop
    obtain ⟨a1, h1, p1, o1, f1, n1, _⟩ := o0.append len_encS one_encS (r12 H hx1) (by omega) (bytes := 16) (by rw [hm, lt, List.length_nil]; omega)
    simp only [p1, bindO2_some]
    have q1 : h1.get (h.next + 1) = some (.cells [.str s]) := by rw [f1 _ (by omega) (by simp [blkOf])]; exact g1
    have rs : Row encS 1 h1 (.slice (h.next + 1) 0 1 1) [s] := ⟨rfl, by simp [firstS, q1, encS]⟩
    have e1x : HExt h h1 := ⟨by have := hx1.next; omega, fun c hc => by rw [f1 c (by omega) (by simp [blkOf]; omega)]; exact hx1.get c hc⟩
    obtain ⟨a2, h2, p2, o2, f2, n2, _⟩ := o1.append len_encS one_encS rs (by omega) (bytes := 16) (by rw [hm, List.nil_append, lt]; simp; omega)
    simp only [p2, bindO2_some]
    have e2x : HExt h h2 := ⟨by have := e1x.next; omega, fun c hc => by rw [f2 c (by have := e1x.next; omega) (fun hb => by have := o1.ge hb; omega)]; exact e1x.get c hc⟩
    obtain ⟨a3, h3, p3, o3, f3, n3, _⟩ := o2.append len_encS one_encS (r14 h2 e2x) (by have := e2x.next; omega) (bytes := 16) (by rw [hm, ld, List.nil_append, List.length_append, lt]; simp; omega)
    simp only [p3, bindO2_some]
    have e3x : HExt h h3 := ⟨by have := e2x.next; omega, fun c hc => by rw [f3 c (by have := e2x.next; omega) (fun hb => by have := o2.ge hb; omega)]; exact e2x.get c hc⟩
    refine hK a3 h3 e3x ?_
    rw [he]
    have := o3.weak hk
    rw [List.nil_append, List.append_assoc] at this
    exact this
  have get : ∀ (i : Nat) (x : Str), l[i]? = some x → ∃ b, (∀ q : IntKind, iaS 1 a (.int q (i : Int)) = some (.ptr b (i * 1))) ∧ loadS none (.ptr b (i * 1)) h = some (.str x) := fun i x hx => by
    obtain ⟨b, _, _, h3, _, h5⟩ := o.get len_encS hx
    exact ⟨b, h3, by have := h5 0 (by omega); rw [Nat.add_zero] at this; rw [this]; rfl⟩
  refine loopB_range 0 l.length (Nat.zero_le _) (fun i e h' => h' = h ∧ e 0 = a ∧ e 1 = .str s ∧ e 5 = .int .i64 (i : Int) ∧ risingL l s = l.take i ++ risingL (l.drop i) s) ⟨rfl, rfl, rfl, rfl, rfl⟩ ?_ ?_
  · rintro i e h' _ hi ⟨rfl, e0, e1, e5, ht⟩ K' hn hx hr hp
    have hv : l[i]? = some l[i] := List.getElem?_eq_getElem hi
    generalize l[i] = x at hv
    obtain ⟨b, g1, g2⟩ := get i x hv
    rw [rising_drop hv] at ht
    rw [F.ref07_rising.L0_eq]
    simp only [e0, e1, e5, o.len, bindO_some, bindO2_some, outK_ret, condB_bool, cond_t, cond_f, fa_ptr, fa_iptr, part_none, Nat.zero_add, Nat.add_zero, Nat.reduceAdd, List.getElem?_cons_zero, List.getElem?_cons_succ, len_str, lenS_enc, lss_int, leq_int, gtr_int, geq_int, eq_int, ne_int, eq_str, ne_str, eq_bool, ne_bool, not_bool, extract_0, extract_1, extract_2, setV_eq, Nat.reduceEqDiff, reduceIte, lt_true hi, g1, g2, lss_str]
    cases hlt : strLt x s with
    | true =>
      rw [if_pos hlt] at ht
      simp only [cond_t, succ_i64 hi hbig, bindO_some]
      exact hn _ _ ⟨rfl, e0, e1, rfl, ht⟩
    | false =>
      rw [if_neg (by rw [hlt]; decide)] at ht
      simp only [cond_f]
      rw [hx, F.ref07_rising.L0_x0_eq]
      simp only [bindO_some, bindO2_some, outK_ret, condB_bool, cond_t, cond_f, fa_ptr, fa_iptr, part_none, Nat.zero_add, Nat.add_zero, Nat.reduceAdd, List.getElem?_cons_zero, List.getElem?_cons_succ, len_str, lenS_enc, lss_int, leq_int, gtr_int, geq_int, eq_int, ne_int, eq_str, ne_str, eq_bool, ne_bool, not_bool, extract_0, extract_1, extract_2, setV_eq, Nat.reduceEqDiff, reduceIte, e0, e1, e5, o.len, lt_true hi, g1, g2, cond_t, str_beq]
      by_cases hxs : x = s
      · rw [if_pos hxs] at ht
        simp only [decide_eq_true hxs, cond_t]
        exact hK _ _ (HExt.refl _) (by rw [ht]; exact o)
      · rw [if_neg hxs] at ht
        simp only [decide_eq_false hxs, cond_f]
        have := app i (Nat.le_of_lt hi) ht e e0 e1 e5
        simp only [e0, e1, e5] at this
        exact this
  · rintro e h' ⟨rfl, e0, e1, e5, ht⟩ K' hx
    rw [F.ref07_rising.L0_eq]
    simp only [e0, e5, o.len, bindO_some, bindO2_some, outK_ret, condB_bool, cond_t, cond_f, fa_ptr, fa_iptr, part_none, Nat.zero_add, Nat.add_zero, Nat.reduceAdd, List.getElem?_cons_zero, List.getElem?_cons_succ, len_str, lenS_enc, lss_int, leq_int, gtr_int, geq_int, eq_int, ne_int, eq_str, ne_str, eq_bool, ne_bool, not_bool, extract_0, extract_1, extract_2, setV_eq, Nat.reduceEqDiff, reduceIte, lt_false]
    rw [hx, F.ref07_rising.L0_x0_eq]
    simp only [bindO_some, bindO2_some, outK_ret, condB_bool, cond_t, cond_f, fa_ptr, fa_iptr, part_none, Nat.zero_add, Nat.add_zero, Nat.reduceAdd, List.getElem?_cons_zero, List.getElem?_cons_succ, len_str, lenS_enc, lss_int, leq_int, gtr_int, geq_int, eq_int, ne_int, eq_str, ne_str, eq_bool, ne_bool, not_bool, extract_0, extract_1, extract_2, setV_eq, Nat.reduceEqDiff, reduceIte, e0, e1, e5, o.len, lt_false, cond_f]
    have := app l.length (Nat.le_refl _) (by rw [ht, List.drop_of_length_le (Nat.le_refl _)]; rfl) e e0 e1 e5
    simp only [e0, e1, e5] at this
    exact this
end
end Go.AM
/- Maps: their entries' births, going through them in any order, maps from strings to values. Conditions: none. -/
namespace Go.AM
open Go Go.Proofs
set_option linter.unusedVariables false
set_option linter.unusedSimpArgs false
noncomputable section

/-- The entries were born at different times, ahead of now. -/
structure Births (es : List Entry) (ck : Nat) : Prop where
  nodup : (es.map (·.2.2)).Nodup
  lt : ∀ e ∈ es, e.2.2 < ck
theorem Births.nil (ck : Nat) : Births [] ck := ⟨List.nodup_nil, fun _ h => by cases h⟩
theorem Births.push {es : List Entry} {ck : Nat} (b : Births es ck) (k v : AV) : Births (es ++ [(k, v, ck)]) (ck + 1) := by
  refine ⟨?_, fun e he => ?_⟩
  · rw [List.map_append, List.nodup_append]
    refine ⟨b.nodup, by simp, fun a ha c hc => ?_⟩
    rw [List.mem_map] at ha
    obtain ⟨e, he, rfl⟩ := ha
    have := b.lt e he
    simp at hc
    omega
  · rw [List.mem_append] at he
    rcases he with he | he
    · have := b.lt e he; omega
    · simp at he; rw [he]; exact Nat.lt_succ_self _
theorem born_set (es : List Entry) (i : Nat) (v : AV) : (setEntry es i v).map (·.2.2) = es.map (·.2.2) := by
  unfold setEntry
  cases h : es[i]? with
  | none => rfl
  | some e =>
    simp only [List.map_set]
    apply List.ext_getElem?
    intro j
    by_cases hj : i = j
    · subst hj
      have hi := (List.getElem?_eq_some_iff.1 h).1
      rw [List.getElem?_set_self (by simpa using hi), List.getElem?_map, h]; rfl
    · rw [List.getElem?_set_ne hj]
theorem Births.set {es : List Entry} {ck : Nat} (b : Births es ck) (i : Nat) (v : AV) : Births (setEntry es i v) ck := by
  refine ⟨by rw [born_set]; exact b.nodup, fun e he => ?_⟩
  have : e.2.2 ∈ (setEntry es i v).map (·.2.2) := List.mem_map_of_mem he
  rw [born_set, List.mem_map] at this
  obtain ⟨e', he', h⟩ := this
  rw [← h]; exact b.lt e' he'
theorem update_births {d : TypeDesc} {b : Nat} {h h' : Heap} {es es' : List Entry} {ck ck' : Nat} {k v : AV} (hb : h.get b = some (.map es ck)) (hB : Births es ck) (hu : mapUpdateS d (.map b) k v h = some h') (hg : h'.get b = some (.map es' ck')) : Births es' ck' := by
  simp only [mapUpdateS, hb] at hu
  split at hu
  · cases hu
    rw [Heap.get_set, if_pos rfl] at hg
    cases hg
    exact hB.set _ _
  · cases hu
    rw [Heap.get_set, if_pos rfl] at hg
    cases hg
    exact hB.push k v
  · cases hu

/-! ### Going through a map -/
theorem findBorn_of {es : List Entry} (hn : (es.map (·.2.2)).Nodup) {e : Entry} (he : e ∈ es) : findBornNat e.2.2 es = some e := by
  induction es with
  | nil => cases he
  | cons a es ih =>
    rw [List.map_cons, List.nodup_cons] at hn
    rw [findBornNat]
    by_cases h : a.2.2 = e.2.2
    · rw [if_pos h]
      rw [List.mem_cons] at he
      rcases he with rfl | he
      · rfl
      · exact absurd (by rw [h]; exact List.mem_map_of_mem he) hn.1
    · rw [if_neg h]
      rw [List.mem_cons] at he
      rcases he with rfl | he
      · exact absurd rfl h
      · exact ih hn.2 he
theorem allNext_of {defs : List ADef} {K : R → Bool} : ∀ {ps : List (AV × Heap)}, (∀ p ∈ ps, K (.ok p.1 defs p.2) = true) → allNext defs K ps = true
  | [], _ => rfl
  | p :: ps, h => by
    rw [allNext, h p List.mem_cons_self, Bool.true_and]
    exact allNext_of fun q hq => h q (List.mem_cons_of_mem _ hq)
theorem next_map {r m : Nat} {es : List Entry} {ck : Nat} {seen : List Nat} {h : Heap} {defs : List ADef} {K : R → Bool} (hr : h.get r = some (.miter (some m) ck seen ck)) (hm : h.get m = some (.map es ck)) (hB : Births es ck) (hrm : r ≠ m)
    (hdone : (∀ e ∈ es, e.2.2 ∈ seen) → K (.ok (.tuple [.bool false]) defs h) = true)
    (hstep : ∀ e ∈ es, e.2.2 ∉ seen → entryS (.ptr r 0) (h.set r (.miter (some m) ck (seen ++ [e.2.2]) ck)) = some (.tuple [e.1, e.2.1]) → K (.ok (.tuple [.bool true, e.1, e.2.1]) defs (h.set r (.miter (some m) ck (seen ++ [e.2.2]) ck))) = true) :
    bindO (nextS false (.ptr r 0) h) (allNext defs K) = true := by
  have hc : ∀ o ∈ candsA es ck seen, (o = none ∧ ∀ e ∈ es, e.2.2 ∈ seen) ∨ ∃ e, o = some e ∧ e ∈ es ∧ e.2.2 ∉ seen := by
    intro o ho
    unfold candsA at ho
    simp only [List.mem_append, List.mem_map] at ho
    rcases ho with ho | ⟨e, he, rfl⟩
    · split at ho
      · rename_i hem
        simp only [List.mem_singleton] at ho
        refine .inl ⟨ho, fun e he => ?_⟩
        rw [List.isEmpty_iff, List.filter_eq_nil_iff] at hem
        have hlt := hB.lt e he
        by_cases hs : e.2.2 ∈ seen
        · exact hs
        · exact absurd (decide_eq_true hlt) (hem e (by rw [List.mem_filter]; exact ⟨he, by simpa using hs⟩))
      · cases ho
    · refine .inr ⟨e, rfl, ?_⟩
      have : e ∈ es.filter fun e => !seen.contains e.2.2 := by
        rcases he with he | he
        · exact (List.mem_filter.1 he).1
        · exact (List.mem_filter.1 he).1
      rw [List.mem_filter] at this
      exact ⟨this.1, by simpa using this.2⟩
  have hne : candsA es ck seen ≠ [] := by
    unfold candsA
    intro he
    simp only [List.append_eq_nil_iff, List.map_eq_nil_iff] at he
    obtain ⟨h1, h2, _⟩ := he
    rw [h2] at h1
    simp at h1
  have hbad : (!seen.isEmpty && !es.isEmpty && es.all (fun e => decide (e.2.2 ≥ ck))) = false := by
    cases es with
    | nil => simp
    | cons e es =>
      have := hB.lt e List.mem_cons_self
      rw [List.all_cons, decide_eq_false (by omega), Bool.false_and, Bool.and_false]
  unfold nextS
  simp only [hr, hm, hbad, Bool.false_eq_true, if_false]
  cases hcs : candsA es ck seen with
  | nil => exact absurd hcs hne
  | cons c cs =>
    rw [hcs] at hc
    simp only [bindO_some]
    refine allNext_of fun p hp => ?_
    rw [List.mem_map] at hp
    obtain ⟨o, ho, rfl⟩ := hp
    rcases hc o ho with ⟨rfl, hall⟩ | ⟨e, rfl, he, hs⟩
    · exact hdone hall
    · refine hstep e he hs ?_
      unfold entryS
      simp only [Heap.get_set, if_true, if_neg (Ne.symm hrm), hm, List.getLast?_concat, findBorn_of hB.nodup he]
end
end Go.AM
/- Maps from strings to values; the reference's lists of names and symbols. Conditions: none. -/
namespace Go.AM
open Go Go.Proofs
set_option linter.unusedVariables false
set_option linter.unusedSimpArgs false
noncomputable section

/-! ### Maps from strings to values -/
abbrev MapA := List (Str × AV)
def MapA.find (m : MapA) (k : Str) : Option AV := (List.find? (fun p => k == p.1) m).map (·.2)
def MapA.upd : MapA → Str → AV → MapA
  | [], k, v => [(k, v)]
  | p :: m, k, v => if k == p.1 then (p.1, v) :: m else p :: MapA.upd m k v
def MapE : List Entry → MapA → Prop
  | [], [] => True
  | e :: es, p :: m => e.1 = .str p.1 ∧ e.2.1 = p.2 ∧ MapE es m
  | _, _ => False
theorem MapE.findA {k : Str} : ∀ {es : List Entry} {m : MapA} (i : Nat), MapE es m → ∃ r, findA .string (.str k) es i = some r ∧ match r with
    | none => m.find k = none
    | some (j, v) => ∃ n, j = i + n ∧ m.find k = some v ∧ ∀ w, MapE (setEntry es n w) (m.upd k w)
  | [], [], i, _ => ⟨none, rfl, rfl⟩
  | e :: es, p :: m, i, ⟨h1, h2, h3⟩ => by
    obtain ⟨ek, ev, en⟩ := e
    simp only at h1 h2
    subst h1; subst h2
    by_cases hk : k = p.1
    · subst hk
      refine ⟨some (i, p.2), by simp [Go.AM.findA, keyEq], 0, rfl, by simp [MapA.find], fun w => ?_⟩
      simp [setEntry, MapE, MapA.upd, h3]
    · obtain ⟨r, hr, hm⟩ := MapE.findA (k := k) (i + 1) h3
      have hkb : (k == p.1) = false := by simpa using hk
      refine ⟨r, by simp only [Go.AM.findA, keyEq, hkb, hr], ?_⟩
      cases r with
      | none => simpa [MapA.find, hk] using hm
      | some jv =>
        obtain ⟨n, a, b, e⟩ := hm
        refine ⟨n + 1, by omega, by simpa [MapA.find, hk] using b, fun w => ?_⟩
        have := e w
        simp only [setEntry, List.getElem?_cons_succ, MapA.upd, hkb] at this ⊢
        split at this <;> simp_all [MapE]
theorem MapE.append {es : List Entry} {m : MapA} (h : MapE es m) {k : Str} (hk : m.find k = none) (v : AV) (n : Nat) : MapE (es ++ [(.str k, v, n)]) (m.upd k v) := by
  induction es generalizing m with
  | nil => cases m with
    | nil => simp [MapE, MapA.upd]
    | cons p m => exact h.elim
  | cons e es ih => cases m with
    | nil => exact h.elim
    | cons p m =>
      obtain ⟨h1, h2, h3⟩ := h
      have hne : k ≠ p.1 := fun e => by subst e; simp [MapA.find] at hk
      have hk' : MapA.find m k = none := by simpa [MapA.find, hne] using hk
      have := ih h3 hk'
      simp only [List.cons_append, MapA.upd]
      rw [if_neg (by simpa using hne)]
      exact ⟨h1, h2, this⟩
theorem lookup_mapA {b : Nat} {h : Heap} {es : List Entry} {ck : Nat} {m : MapA} (hb : h.get b = some (.map es ck)) (hm : MapE es m) (z : AV) (k : Str) :
    lookupS .string z false (.map b) (.str k) h = some ((m.find k).getD z) := by
  obtain ⟨r, hr, hm'⟩ := MapE.findA (k := k) 0 hm
  simp only [lookupS, entriesS, hb, findK, keyOk, if_true, hr]
  cases r with
  | none => simp at hm'; simp [hm']
  | some jv =>
    obtain ⟨n, _, b, _⟩ := hm'
    obtain ⟨j, v⟩ := jv
    simp [b]
theorem update_mapA {b : Nat} {h : Heap} {es : List Entry} {ck : Nat} {m : MapA} (hb : h.get b = some (.map es ck)) (hm : MapE es m) (k : Str) (v : AV) :
    ∃ es' ck', mapUpdateS .string (.map b) (.str k) v h = some (h.set b (.map es' ck')) ∧ MapE es' (m.upd k v) := by
  obtain ⟨r, hr, hm'⟩ := MapE.findA (k := k) 0 hm
  simp only [mapUpdateS, hb, findK, keyOk, if_true, hr]
  cases r with
  | none => simp at hm'; exact ⟨_, _, rfl, hm.append hm' v ck⟩
  | some jv =>
    obtain ⟨n, hj, _, e⟩ := hm'
    obtain ⟨j, w⟩ := jv
    simp only [Nat.zero_add] at hj
    subst hj
    exact ⟨_, _, rfl, e v⟩
theorem find_upd (m : MapA) (k j : Str) (v : AV) : (m.upd k v).find j = if j = k then some v else m.find j := by
  induction m with
  | nil =>
    simp only [MapA.upd, MapA.find, List.find?_cons, List.find?_nil]
    by_cases h : j = k
    · subst h; simp
    · have : (j == k) = false := by simpa using h
      rw [this, if_neg h]
  | cons p m ih =>
    simp only [MapA.upd]
    by_cases hk : k = p.1
    · rw [if_pos (by simpa using hk)]
      subst hk
      simp only [MapA.find, List.find?_cons]
      by_cases h : j = p.1
      · subst h; simp
      · have : (j == p.1) = false := by simpa using h
        rw [this, if_neg h]
    · rw [if_neg (by simpa using hk)]
      simp only [MapA.find, List.find?_cons] at ih ⊢
      by_cases h : j = p.1
      · subst h
        simp only [beq_self_eq_true, Option.map_some]
        rw [if_neg (Ne.symm hk)]
      · have : (j == p.1) = false := by simpa using h
        rw [this]
        exact ih

/-! ### Lists of names -/
theorem own_name {k : Nat} {h : Heap} {a : AV} {l : List Str} (o : Own encS 1 k h a l) {i : Nat} {x : Str} (hx : l[i]? = some x) :
    ∃ b, b < h.next ∧ (∀ q : IntKind, iaS 1 a (.int q (i : Int)) = some (.ptr b (i * 1))) ∧ loadS none (.ptr b (i * 1)) h = some (.str x) := by
  obtain ⟨b, _, h2, h3, _, h5⟩ := o.get len_encS hx
  exact ⟨b, h2, h3, by have := h5 0 (by omega); rw [Nat.add_zero] at this; rw [this]; rfl⟩
theorem ref02_Among {k : Nat} {h : Heap} {a : AV} {l : List Str} {s : Str} (o : Own encS 1 k h a l) (hl : l.length ≤ big) {K : Out → Heap → Bool} (hK : K (.ret (.bool (l.any fun x => x == s))) h = true) : Sem Tryz.prog 119 [a, .str s] h K := by
  refine F.ref02_Among_sem ?_
  refine loopB_range 0 l.length (Nat.zero_le _) (fun i e h' => h' = h ∧ e 0 = a ∧ e 1 = .str s ∧ e 5 = .int .i64 (i : Int) ∧ ((l.take i).any fun x => x == s) = false) ⟨rfl, rfl, rfl, rfl, rfl⟩ ?_ ?_
  · rintro i e h' _ hi ⟨rfl, e0, e1, e5, ht⟩ K' hn hx hr hp
    have hv : l[i]? = some l[i] := List.getElem?_eq_getElem hi
    generalize l[i] = x at hv
    obtain ⟨b, _, g1, g2⟩ := own_name o hv
    rw [F.ref02_Among.L0_eq]
    simp only [e0, e1, e5, o.len, bindO_some, bindO2_some, outK_ret, condB_bool, cond_t, cond_f, fa_ptr, fa_iptr, part_none, Nat.zero_add, Nat.add_zero, Nat.reduceAdd, List.getElem?_cons_zero, List.getElem?_cons_succ, len_str, lenS_enc, lss_int, leq_int, gtr_int, geq_int, eq_int, ne_int, eq_str, ne_str, eq_bool, ne_bool, not_bool, extract_0, extract_1, extract_2, setV_eq, Nat.reduceEqDiff, reduceIte, lt_true hi, g1, g2]
    cases hq : x == s with
    | true =>
      simp only [cond_t]
      rw [hr, F.ref02_Among.L0_r_eq]
      simp only [setV_eq, Nat.reduceEqDiff, reduceIte]
      rw [List.any_eq_true.2 ⟨x, List.mem_of_getElem? hv, hq⟩] at hK
      exact hK
    | false =>
      simp only [cond_f, succ_i64 hi hl, bindO_some]
      exact hn _ _ ⟨rfl, e0, e1, rfl, any_take hv ht hq⟩
  · rintro e h' ⟨rfl, e0, e1, e5, ht⟩ K' hx
    rw [F.ref02_Among.L0_eq]
    simp only [e0, e5, o.len, bindO_some, bindO2_some, outK_ret, condB_bool, cond_t, cond_f, fa_ptr, fa_iptr, part_none, Nat.zero_add, Nat.add_zero, Nat.reduceAdd, List.getElem?_cons_zero, List.getElem?_cons_succ, len_str, lenS_enc, lss_int, leq_int, gtr_int, geq_int, eq_int, ne_int, eq_str, ne_str, eq_bool, ne_bool, not_bool, extract_0, extract_1, extract_2, setV_eq, Nat.reduceEqDiff, reduceIte, lt_false]
    rw [hx, F.ref02_Among.L0_x0_eq]
    rw [List.take_of_length_le (Nat.le_refl _)] at ht
    rw [ht] at hK; exact hK

/-! ### A program of one rule, its conditions ours -/
structure CondA where
  name : Str
  blk : Nat
  n : Nat
def encC (c : CondA) : List AV := [.int .i64 0, .bool false, .str c.name, .slice c.blk 0 c.n 1]
theorem len_encC (c : CondA) : (encC c).length = 4 := rfl
theorem one_encC (c : CondA) : oneAll (encC c) = true := rfl
def encY (y : Str × Nat) : List AV := [.str y.1, .int .i64 (y.2 : Int)]
/-- The rule that stands in block `rb`: an empty head, the conditions `cs`. -/
structure Rule1 (h : Heap) (rb : Nat) (k : Nat) (body : AV) (cs : List CondA) : Prop where
  get : h.get rb = some (.cells [.str [], .nils, body])
  lt : rb < h.next
  own : Own encC 4 k h body cs
theorem Rule1.ext {h h' : Heap} {rb k : Nat} {body : AV} {cs : List CondA} (r : Rule1 h rb k body cs) (hx : HExt h h') : Rule1 h' rb k body cs :=
  ⟨by rw [hx.get rb r.lt]; exact r.get, Nat.lt_of_lt_of_le r.lt hx.next, r.own.ext hx⟩

theorem ref07_Defined {h : Heap} {rb k : Nat} {body : AV} {cs : List CondA} (r : Rule1 h rb k body cs) {K : Out → Heap → Bool} (hK : ∀ a' h', HExt h h' → Own encS 1 h.next h' a' [[]] → K (.ret a') h' = true) : Sem Tryz.prog 137 [.slice rb 0 1 3] h K := by
  refine F.ref07_Defined_sem ?_
  have hl : ∀ h : Heap, lenS .slice (.slice rb 0 1 3) h = some (.int .i64 ((1 : Nat) : Int)) := fun _ => rfl
  have ia : iaS 3 (.slice rb 0 1 3) (.int .i64 ((0 : Nat) : Int)) = some (.ptr rb 0) := rfl
  have l0 : loadS none (.ptr rb 0) h = some (.str []) := by rw [load_ptr r.get]; rfl
  refine loopB_range 0 1 (Nat.zero_le _) (fun i e h' => HExt h h' ∧ e 0 = .slice rb 0 1 3 ∧ e 4 = .int .i64 (i : Int) ∧ ((i = 0 ∧ h' = h ∧ e 3 = .nils) ∨ (i = 1 ∧ Own encS 1 h.next h' (e 3) [[]]))) ⟨HExt.refl _, rfl, rfl, .inl ⟨rfl, rfl, rfl⟩⟩ ?_ ?_
  · rintro i e h' _ hi ⟨hx0, e0, e4, hc⟩ K' hn hx hr hp
    obtain rfl : i = 0 := by omega
    rcases hc with ⟨_, rfl, e3⟩ | ⟨h1, _⟩
    · rw [F.ref07_Defined.L0_eq]
      simp only [e0, e3, e4, hl, ia, l0, bindO_some, bindO2_some, outK_ret, condB_bool, cond_t, cond_f, fa_ptr, fa_iptr, part_none, Nat.zero_add, Nat.add_zero, Nat.reduceAdd, List.getElem?_cons_zero, List.getElem?_cons_succ, len_str, lenS_enc, lss_int, leq_int, gtr_int, geq_int, eq_int, ne_int, eq_str, ne_str, eq_bool, ne_bool, not_bool, extract_0, extract_1, extract_2, setV_eq, Nat.reduceEqDiff, reduceIte, lt_true hi]
      refine semCall_true (ref07_rising (k := h'.next) (l := []) .nil (Nat.le_refl _) (by simp) fun a' h2 hx2 ho => ?_)
      simp only [bindO_some, bindO2_some, outK_ret, condB_bool, cond_t, cond_f, fa_ptr, fa_iptr, part_none, Nat.zero_add, Nat.add_zero, Nat.reduceAdd, List.getElem?_cons_zero, List.getElem?_cons_succ, len_str, lenS_enc, lss_int, leq_int, gtr_int, geq_int, eq_int, ne_int, eq_str, ne_str, eq_bool, ne_bool, not_bool, extract_0, extract_1, extract_2, setV_eq, Nat.reduceEqDiff, reduceIte, succ_i64 hi (show (1 : Nat) ≤ big by unfold big; omega)]
      exact hn _ _ ⟨hx2, e0, rfl, .inr ⟨rfl, ho⟩⟩
    · omega
  · rintro e h' ⟨hx0, e0, e4, hc⟩ K' hx
    rcases hc with ⟨h1, _⟩ | ⟨_, ho⟩
    · omega
    rw [F.ref07_Defined.L0_eq]
    simp only [e0, e4, hl, bindO_some, bindO2_some, outK_ret, condB_bool, cond_t, cond_f, fa_ptr, fa_iptr, part_none, Nat.zero_add, Nat.add_zero, Nat.reduceAdd, List.getElem?_cons_zero, List.getElem?_cons_succ, len_str, lenS_enc, lss_int, leq_int, gtr_int, geq_int, eq_int, ne_int, eq_str, ne_str, eq_bool, ne_bool, not_bool, extract_0, extract_1, extract_2, setV_eq, Nat.reduceEqDiff, reduceIte, lt_false]
    rw [hx, F.ref07_Defined.L0_x0_eq]
    exact hK _ _ hx0 ho
end
end Go.AM
/- The reference's symbols of a program of one rule. Conditions: none. -/
namespace Go.AM
open Go Go.Proofs
set_option linter.unusedVariables false
set_option linter.unusedSimpArgs false
noncomputable section

theorem Own.push {α : Type} {enc : α → List AV} {sz k : Nat} {h : Heap} {a : AV} {l : List α} (o : Own enc sz k h a l) (he : ∀ x, (enc x).length = sz) (h1 : ∀ x, oneAll (enc x) = true) (hk : k ≤ h.next) {bytes : Nat} (hroom : (l.length + 1) * bytes ≤ maxBytes) (v : α) :
    ∃ a' h', appendS sz bytes a (.slice h.next 0 1 sz) (h.alloc (.cells (enc v))) = some (a', h') ∧ Own enc sz k h' a' (l ++ [v]) ∧ (∀ c, c < h.next → blkOf a ≠ some c → h'.get c = h.get c) ∧ h.next ≤ h'.next ∧ (∀ h0, HExt h0 h → h0.next ≤ k → HExt h0 h') ∧ ∀ c, blkOf a' = some c → h.next ≤ c := by
  have g := get_alloc_same h (.cells (enc v))
  have hn : (h.alloc (.cells (enc v))).next = h.next + 1 := Heap.next_alloc h _
  have hx : HExt h (h.alloc (.cells (enc v))) := HExt.alloc _ _
  have r : Row enc sz (h.alloc (.cells (enc v))) (.slice h.next 0 1 sz) [v] := by
    refine ⟨rfl, ?_⟩
    have hl : (enc v).length = sz := he v
    simp only [firstS, g, if_true, List.length_singleton, Nat.one_mul, Nat.zero_add, hl, Nat.le_refl, List.drop_zero]
    rw [← hl, List.take_length]; simp
  obtain ⟨a', h', p, o', f, n, hf⟩ := (o.ext hx).append he h1 r (by omega) (bytes := bytes) (by simpa using hroom)
  have f' : ∀ c, c < h.next → blkOf a ≠ some c → h'.get c = h.get c := fun c hc hb => by rw [f c (by omega) hb]; exact hx.get c hc
  refine ⟨a', h', p, o', f', by omega, fun h0 e0 hk0 => ⟨by have := e0.next; omega, fun c hc => ?_⟩, fun c hc => by have := hf (by simp) c hc; omega⟩
  rw [f' c (by have := e0.next; omega) (fun hb => by have := o.ge hb; omega)]
  exact e0.get c hc

def encZ (y : Str × Int) : List AV := [.str y.1, .int .i64 y.2]
theorem len_encZ (y : Str × Int) : (encZ y).length = 2 := rfl
theorem one_encZ (y : Str × Int) : oneAll (encZ y) = true := rfl
def atomOf (c : CondA) : Str × Int := (c.name, (c.n : Int))
def atomsL (cs : List CondA) : List (Str × Int) := ([], 0) :: cs.map atomOf
theorem atoms_take {cs : List CondA} {i : Nat} {c : CondA} (hc : cs[i]? = some c) : atomsL (cs.take (i + 1)) = atomsL (cs.take i) ++ [atomOf c] := by
  simp only [atomsL, List.take_add_one, hc]; simp
theorem agg_Z (s : Str) (n : Int) : aggS [.str [], .int .i64 0] [(0, 1), (1, 1)] [.str s, .int .i64 n] = some (.agg (encZ (s, n))) := rfl
theorem row_Z (y : Str × Int) : rowS [.str [], .int .i64 0] [(0, 2)] [.agg (encZ y)] = some (encZ y) := rfl
theorem own_z {k : Nat} {h : Heap} {a : AV} {l : List (Str × Int)} (o : Own encZ 2 k h a l) {i : Nat} {y : Str × Int} (hy : l[i]? = some y) :
    ∃ b, b < h.next ∧ (∀ q : IntKind, iaS 2 a (.int q (i : Int)) = some (.ptr b (i * 2))) ∧ loadS none (.ptr b (i * 2)) h = some (.str y.1) ∧ loadS none (.ptr b (i * 2 + 1)) h = some (.int .i64 y.2) := by
  obtain ⟨b, _, h2, h3, _, h5⟩ := o.get len_encZ hy
  exact ⟨b, h2, h3, by have := h5 0 (by omega); rw [Nat.add_zero] at this; rw [this]; rfl, by rw [h5 1 (by omega)]; rfl⟩

theorem ref07_atoms {h : Heap} {rb k : Nat} {body : AV} {cs : List CondA} (r : Rule1 h rb k body cs) (hcs : cs.length ≤ 100000) {K : Out → Heap → Bool} (hK : ∀ a' h', HExt h h' → Own encZ 2 h.next h' a' (atomsL cs) → K (.ret a') h' = true) : Sem Tryz.prog 138 [.slice rb 0 1 3] h K := by
  have hbig : cs.length ≤ big := by unfold big; omega
  have h1b : (1 : Nat) ≤ big := by unfold big; omega
  have hm : maxBytes = 140737488355328 := rfl
  refine F.ref07_atoms_sem ?_
  have hl : ∀ h : Heap, lenS .slice (.slice rb 0 1 3) h = some (.int .i64 ((1 : Nat) : Int)) := fun _ => rfl
  have ia : iaS 3 (.slice rb 0 1 3) (.int .i64 ((0 : Nat) : Int)) = some (.ptr rb 0) := rfl
  have hn0 : ∀ h : Heap, lenS .slice .nils h = some (.int .i64 0) := fun _ => rfl
  refine loopB_range 0 1 (Nat.zero_le _) (fun i e h' => HExt h h' ∧ e 0 = .slice rb 0 1 3 ∧ e 4 = .int .i64 (i : Int) ∧ ((i = 0 ∧ h' = h ∧ e 3 = .nils) ∨ (i = 1 ∧ Own encZ 2 h.next h' (e 3) (atomsL cs)))) ⟨HExt.refl _, rfl, rfl, .inl ⟨rfl, rfl, rfl⟩⟩ ?_ ?_
  · rintro i e h' _ hi ⟨hx0, e0, e4, hc⟩ K' hn hx hr hp
    obtain rfl : i = 0 := by omega
    rcases hc with ⟨_, rfl, e3⟩ | ⟨h1, _⟩
    · have l0 : loadS none (.ptr rb 0) h' = some (.str []) := by rw [load_ptr r.get]; rfl
      have l1 : loadS none (.ptr rb 1) h' = some .nils := by rw [load_ptr r.get]; rfl
      rw [F.ref07_atoms.L0_eq]
      simp only [e0, e3, e4, hl, ia, l0, l1, hn0, bindO_some, bindO2_some, outK_ret, condB_bool, cond_t, cond_f, fa_ptr, fa_iptr, part_none, Nat.zero_add, Nat.add_zero, Nat.reduceAdd, List.getElem?_cons_zero, List.getElem?_cons_succ, len_str, lenS_enc, lss_int, leq_int, gtr_int, geq_int, eq_int, ne_int, eq_str, ne_str, eq_bool, ne_bool, not_bool, extract_0, extract_1, extract_2, setV_eq, Nat.reduceEqDiff, reduceIte, lt_true hi, agg_Z, row_Z]
      obtain ⟨a1, h1, p1, o1, f1, n1, x1, _⟩ := (Own.nil (enc := encZ) (sz := 2) (k := h'.next) (h := h')).push len_encZ one_encZ (Nat.le_refl _) (bytes := 24) (by rw [hm]; simp) ([], 0)
      simp only [p1, bindO2_some]
      refine loopB_range 0 cs.length (Nat.zero_le _) (fun j e h2 => HExt h' h2 ∧ e 0 = .slice rb 0 1 3 ∧ e 4 = .int .i64 ((0 : Nat) : Int) ∧ e 5 = .int .i64 (j : Int) ∧ Own encZ 2 h'.next h2 (e 3) (atomsL (cs.take j))) ⟨x1 _ (HExt.refl _) (Nat.le_refl _), e0, e4, rfl, o1⟩ ?_ ?_
      · rintro j e h2 _ hj ⟨hx2, e0, e4, e5, o⟩ K2 hn2 hxx hrr hpp
        have hv : cs[j]? = some cs[j] := List.getElem?_eq_getElem hj
        generalize cs[j] = c at hv
        have r2 := r.ext hx2
        have l2 : loadS none (.ptr rb 2) h2 = some body := by rw [load_ptr r2.get]; rfl
        obtain ⟨b, _, _, g3, g4, _⟩ := r2.own.get len_encC hv
        obtain ⟨H, hst, q1, go, gn⟩ := store_new (h := h2) (zs := [.int .i64 0, .bool false, .str [], .nils]) (cs := encC c) (n := 4) rfl rfl (one_encC c)
        have hxH : HExt h2 H := ⟨by omega, fun d hd => go d (by omega)⟩
        have l3 : loadS none (.ptr h2.next 0) H = some (.int .i64 0) := by rw [load_ptr q1]; rfl
        have l4 : loadS none (.ptr h2.next 2) H = some (.str c.name) := by rw [load_ptr q1]; rfl
        have l5 : loadS none (.ptr h2.next 3) H = some (.slice c.blk 0 c.n 1) := by rw [load_ptr q1]; rfl
        have ln : lenS .slice (.slice c.blk 0 c.n 1) H = some (.int .i64 (c.n : Int)) := rfl
        have oH := o.ext hxH
        have hlen : (atomsL (cs.take j)).length ≤ 100001 := by simp [atomsL]; omega
        obtain ⟨a3, h3, p3, o3, f3, n3, x3, _⟩ := oH.push len_encZ one_encZ (by have := hx2.next; have := hxH.next; omega) (bytes := 24) (by rw [hm]; omega) (atomOf c)
        rw [F.ref07_atoms.L1_eq]
        simp only [e0, e4, e5, ia, bindO_some, bindO2_some, outK_ret, condB_bool, cond_t, cond_f, fa_ptr, fa_iptr, part_none, Nat.zero_add, Nat.add_zero, Nat.reduceAdd, List.getElem?_cons_zero, List.getElem?_cons_succ, len_str, lenS_enc, lss_int, leq_int, gtr_int, geq_int, eq_int, ne_int, eq_str, ne_str, eq_bool, ne_bool, not_bool, extract_0, extract_1, extract_2, setV_eq, Nat.reduceEqDiff, reduceIte, l2, r2.own.len, lt_true hj, g3, g4, hst, l3, l4, l5, ln, agg_Z, row_Z, beq_self_eq_true, cond_t]
        rw [show encZ (c.name, (c.n : Int)) = encZ (atomOf c) from rfl]
        simp only [p3, bindO2_some, succ_i64 hj hbig, bindO_some]
        exact hn2 _ _ ⟨x3 h' (hx2.trans hxH) (Nat.le_refl _), e0, e4, rfl, by rw [atoms_take hv]; exact o3⟩
      · rintro e h2 ⟨hx2, e0, e4, e5, o⟩ K2 hxx
        have r2 := r.ext hx2
        have l2 : loadS none (.ptr rb 2) h2 = some body := by rw [load_ptr r2.get]; rfl
        rw [F.ref07_atoms.L1_eq]
        simp only [e0, e4, e5, ia, bindO_some, bindO2_some, outK_ret, condB_bool, cond_t, cond_f, fa_ptr, fa_iptr, part_none, Nat.zero_add, Nat.add_zero, Nat.reduceAdd, List.getElem?_cons_zero, List.getElem?_cons_succ, len_str, lenS_enc, lss_int, leq_int, gtr_int, geq_int, eq_int, ne_int, eq_str, ne_str, eq_bool, ne_bool, not_bool, extract_0, extract_1, extract_2, setV_eq, Nat.reduceEqDiff, reduceIte, l2, r2.own.len, lt_false]
        rw [hxx, F.ref07_atoms.L1_x2_eq]
        simp only [bindO_some, bindO2_some, outK_ret, condB_bool, cond_t, cond_f, fa_ptr, fa_iptr, part_none, Nat.zero_add, Nat.add_zero, Nat.reduceAdd, List.getElem?_cons_zero, List.getElem?_cons_succ, len_str, lenS_enc, lss_int, leq_int, gtr_int, geq_int, eq_int, ne_int, eq_str, ne_str, eq_bool, ne_bool, not_bool, extract_0, extract_1, extract_2, setV_eq, Nat.reduceEqDiff, reduceIte, e4, succ_i64 hi h1b]
        rw [List.take_of_length_le (Nat.le_refl _)] at o
        exact hn _ _ ⟨hx2, e0, rfl, .inr ⟨rfl, o⟩⟩
    · omega
  · rintro e h' ⟨hx0, e0, e4, hc⟩ K' hx
    rcases hc with ⟨h1, _⟩ | ⟨_, ho⟩
    · omega
    rw [F.ref07_atoms.L0_eq]
    simp only [e0, e4, hl, bindO_some, bindO2_some, outK_ret, condB_bool, cond_t, cond_f, fa_ptr, fa_iptr, part_none, Nat.zero_add, Nat.add_zero, Nat.reduceAdd, List.getElem?_cons_zero, List.getElem?_cons_succ, len_str, lenS_enc, lss_int, leq_int, gtr_int, geq_int, eq_int, ne_int, eq_str, ne_str, eq_bool, ne_bool, not_bool, extract_0, extract_1, extract_2, setV_eq, Nat.reduceEqDiff, reduceIte, lt_false]
    rw [hx, F.ref07_atoms.L0_x0_eq]
    exact hK _ _ hx0 ho

def arI (ys : List (Str × Int)) (s : Str) : Int := match ys.find? (fun y => y.1 == s) with
  | some y => y.2
  | none => -1
theorem arI_drop {ys : List (Str × Int)} {i : Nat} {y : Str × Int} (hy : ys[i]? = some y) (s : Str) : arI (ys.drop i) s = if (y.1 == s) = true then y.2 else arI (ys.drop (i + 1)) s := by
  have h1 := (List.getElem?_eq_some_iff.1 hy).1
  rw [List.drop_eq_getElem_cons h1]
  rw [List.getElem?_eq_getElem h1] at hy
  cases hy
  unfold arI
  rw [List.find?_cons]
  cases ys[i].1 == s <;> rfl
theorem ref07_Arity {h : Heap} {rb k : Nat} {body : AV} {cs : List CondA} (r : Rule1 h rb k body cs) (hcs : cs.length ≤ 100000) {s : Str} {K : Out → Heap → Bool} (hK : ∀ h', HExt h h' → K (.ret (.int .i64 (arI (atomsL cs) s))) h' = true) : Sem Tryz.prog 140 [.slice rb 0 1 3, .str s] h K := by
  refine F.ref07_Arity_sem ?_
  refine semCall_true (ref07_atoms r hcs fun a H hx o => ?_)
  have hlen : (atomsL cs).length ≤ big := by unfold big; simp [atomsL]; omega
  simp only [outK_ret]
  generalize atomsL cs = ys at o hK hlen ⊢
  refine loopB_range 0 ys.length (Nat.zero_le _) (fun i e h' => h' = H ∧ e 1 = .str s ∧ e 5 = a ∧ e 6 = .int .i64 (i : Int) ∧ arI ys s = arI (ys.drop i) s) ⟨rfl, rfl, rfl, rfl, rfl⟩ ?_ ?_
  · rintro i e h' _ hi ⟨rfl, e1, e5, e6, ht⟩ K' hn hx' hr hp
    have hv : ys[i]? = some ys[i] := List.getElem?_eq_getElem hi
    generalize ys[i] = y at hv
    obtain ⟨b, _, g1, g2, g3⟩ := own_z o hv
    rw [arI_drop hv] at ht
    rw [F.ref07_Arity.L0_eq]
    simp only [e1, e5, e6, o.len, bindO_some, bindO2_some, outK_ret, condB_bool, cond_t, cond_f, fa_ptr, fa_iptr, part_none, Nat.zero_add, Nat.add_zero, Nat.reduceAdd, List.getElem?_cons_zero, List.getElem?_cons_succ, len_str, lenS_enc, lss_int, leq_int, gtr_int, geq_int, eq_int, ne_int, eq_str, ne_str, eq_bool, ne_bool, not_bool, extract_0, extract_1, extract_2, setV_eq, Nat.reduceEqDiff, reduceIte, lt_true hi, g1, g2]
    cases hq : y.1 == s with
    | true =>
      rw [if_pos hq] at ht
      simp only [cond_t, bindO_some, bindO2_some, outK_ret, condB_bool, cond_t, cond_f, fa_ptr, fa_iptr, part_none, Nat.zero_add, Nat.add_zero, Nat.reduceAdd, List.getElem?_cons_zero, List.getElem?_cons_succ, len_str, lenS_enc, lss_int, leq_int, gtr_int, geq_int, eq_int, ne_int, eq_str, ne_str, eq_bool, ne_bool, not_bool, extract_0, extract_1, extract_2, setV_eq, Nat.reduceEqDiff, reduceIte, e5, e6, g1, g3]
      rw [hr, F.ref07_Arity.L0_r_eq]
      simp only [setV_eq, Nat.reduceEqDiff, reduceIte]
      rw [ht] at hK
      exact hK _ hx
    | false =>
      rw [if_neg (by rw [hq]; decide)] at ht
      simp only [cond_f, succ_i64 hi hlen, bindO_some]
      exact hn _ _ ⟨rfl, e1, e5, rfl, ht⟩
  · rintro e h' ⟨rfl, e1, e5, e6, ht⟩ K' hx'
    rw [F.ref07_Arity.L0_eq]
    simp only [e5, e6, o.len, bindO_some, bindO2_some, outK_ret, condB_bool, cond_t, cond_f, fa_ptr, fa_iptr, part_none, Nat.zero_add, Nat.add_zero, Nat.reduceAdd, List.getElem?_cons_zero, List.getElem?_cons_succ, len_str, lenS_enc, lss_int, leq_int, gtr_int, geq_int, eq_int, ne_int, eq_str, ne_str, eq_bool, ne_bool, not_bool, extract_0, extract_1, extract_2, setV_eq, Nat.reduceEqDiff, reduceIte, lt_false]
    rw [hx', F.ref07_Arity.L0_x0_eq]
    rw [List.drop_of_length_le (Nat.le_refl _)] at ht
    rw [ht] at hK
    exact hK _ hx
end
end Go.AM
/- The reference's symbols. Conditions: none. -/
namespace Go.AM
open Go Go.Proofs
set_option linter.unusedVariables false
set_option linter.unusedSimpArgs false
noncomputable section

/-- The names in order, those that are defined left out. -/
def orderGo : List (Str × Int) → List Str → List Str
  | [], o => o
  | y :: ys, o => orderGo ys (if (([[]] : List Str).any fun x => x == y.1) = true then o else risingL o y.1)
theorem order_drop {ys : List (Str × Int)} {i : Nat} {y : Str × Int} (hy : ys[i]? = some y) (o : List Str) : orderGo (ys.drop i) o = orderGo (ys.drop (i + 1)) (if (([[]] : List Str).any fun x => x == y.1) = true then o else risingL o y.1) := by
  have h1 := (List.getElem?_eq_some_iff.1 hy).1
  rw [List.drop_eq_getElem_cons h1]
  rw [List.getElem?_eq_getElem h1] at hy
  cases hy; rfl
def orderL (ys : List (Str × Int)) : List Str := orderGo ys []
def symsL (cs : List CondA) : List (Str × Int) := (orderL (atomsL cs)).map fun s => (s, arI (atomsL cs) s)

theorem ref07_Symbols {h : Heap} {rb k : Nat} {body : AV} {cs : List CondA} (r : Rule1 h rb k body cs) (hcs : cs.length ≤ 99000) {K : Out → Heap → Bool} (hK : ∀ a' h', HExt h h' → Own encZ 2 h.next h' a' (symsL cs) → K (.ret a') h' = true) : Sem Tryz.prog 77 [.slice rb 0 1 3] h K := by
  have hm : maxBytes = 140737488355328 := rfl
  refine F.ref07_Symbols_sem ?_
  refine semCall_true (ref07_Defined r fun ad h1 x1 od => ?_)
  simp only [outK_ret]
  refine semCall_true (ref07_atoms (r.ext x1) (by omega) fun aa h2 x2 oa => ?_)
  simp only [outK_ret]
  have x12 : HExt h h2 := x1.trans x2
  have od2 := (od.ext x2)
  have oa2 := oa.weak x1.next
  have hys : (atomsL cs).length ≤ 99001 := by simp [atomsL]; omega
  have hyb : (atomsL cs).length ≤ big := by unfold big; omega
  have L1 : ∀ (e : Env) (H : Heap) (ao : AV) (os : List Str), HExt h H → Own encS 1 h.next H ao os → os.length ≤ 99001 → e 0 = .slice rb 0 1 3 → e 4 = ao → e 7 = .nils → e 8 = .int .i64 0 → orderL (atomsL cs) = os →
      loopB (evalS Tryz.prog (semCall Tryz.prog) F.ref07_Symbols.L1) ⟨e, 55, [], H⟩ (F.ref07_Symbols.L1k K) = true := by
    intro e H ao os hxH oo hol q0 q4 q7 q8 hos
    have hob : os.length ≤ big := by unfold big; omega
    refine loopB_range 0 os.length (Nat.zero_le _) (fun i e h' => HExt h h' ∧ e 0 = .slice rb 0 1 3 ∧ e 4 = ao ∧ Own encS 1 h.next h' ao os ∧ e 8 = .int .i64 (i : Int) ∧ (∀ c, blkOf ao = some c → blkOf (e 7) ≠ some c) ∧ Own encZ 2 h.next h' (e 7) ((os.take i).map fun s => (s, arI (atomsL cs) s))) ⟨hxH, q0, q4, oo, q8, fun c _ => by rw [q7]; simp [blkOf], by rw [q7]; exact .nil⟩ ?_ ?_
    · rintro i e h' _ hi ⟨hx0, e0, e4, o4, e8, hne, o7⟩ K' hn hx hr hp
      have hv : os[i]? = some os[i] := List.getElem?_eq_getElem hi
      generalize os[i] = s at hv
      obtain ⟨b, hbl, g1, g2⟩ := own_name o4 hv
      rw [F.ref07_Symbols.L1_eq]
      simp only [e0, e4, e8, o4.len, bindO_some, bindO2_some, outK_ret, condB_bool, cond_t, cond_f, fa_ptr, fa_iptr, part_none, Nat.zero_add, Nat.add_zero, Nat.reduceAdd, List.getElem?_cons_zero, List.getElem?_cons_succ, len_str, lenS_enc, lss_int, leq_int, gtr_int, geq_int, eq_int, ne_int, eq_str, ne_str, eq_bool, ne_bool, not_bool, extract_0, extract_1, extract_2, setV_eq, Nat.reduceEqDiff, reduceIte, lt_true hi, g1, g2]
      refine semCall_true (ref07_Arity (r.ext hx0) (by omega) fun h3 x3 => ?_)
      have g3 : loadS none (.ptr b (i * 1)) h3 = some (.str s) := by
        rw [← g2]
        simp only [loadS, x3.get b hbl]
      have o73 := o7.ext x3
      have hlen : ((os.take i).map fun s => (s, arI (atomsL cs) s)).length ≤ 99001 := by rw [List.length_map, List.length_take]; omega
      obtain ⟨a5, h5, p5, o5, f5, n5, x5, b5⟩ := o73.push len_encZ one_encZ (by have := hx0.next; have := x3.next; omega) (bytes := 24) (by rw [hm]; omega) (s, arI (atomsL cs) s)
      simp only [outK_ret, g3, bindO_some, show AV.beq (.str s) (.str s) = true by simp [AV.beq], Bool.and_self, Bool.and_true, if_true, agg_Z, row_Z, p5, bindO2_some, e8, succ_i64 hi hob]
      refine hn _ _ ⟨x5 h (hx0.trans x3) (Nat.le_refl _), e0, e4, ?_, rfl, ?_, ?_⟩
      · cases o4 with
        | nil => exact .nil
        | row bo _ w1 w2 w3 => exact .row bo os w1 (by have := x3.next; omega) (by rw [f5 bo (by have := x3.next; omega) (hne bo rfl), x3.get bo w2]; exact w3)
      · intro c hc
        intro hb
        have hb' : blkOf a5 = some c := hb
        have hc2 : c < h'.next := by
          cases o4 with
          | nil => cases hc
          | row bo _ w1 w2 w3 => cases hc; exact w2
        have := b5 c hb'
        have := x3.next
        omega
      · rw [List.take_add_one, hv, List.map_append]; exact o5
    · rintro e h' ⟨hx0, e0, e4, o4, e8, hne, o7⟩ K' hx
      rw [F.ref07_Symbols.L1_eq]
      simp only [e4, e8, o4.len, bindO_some, bindO2_some, outK_ret, condB_bool, cond_t, cond_f, fa_ptr, fa_iptr, part_none, Nat.zero_add, Nat.add_zero, Nat.reduceAdd, List.getElem?_cons_zero, List.getElem?_cons_succ, len_str, lenS_enc, lss_int, leq_int, gtr_int, geq_int, eq_int, ne_int, eq_str, ne_str, eq_bool, ne_bool, not_bool, extract_0, extract_1, extract_2, setV_eq, Nat.reduceEqDiff, reduceIte, lt_false]
      rw [hx, F.ref07_Symbols.L1_x2_eq]
      rw [List.take_of_length_le (Nat.le_refl _)] at o7
      exact hK _ _ hx0 (by rw [symsL, hos]; exact o7)
  have rlen : ∀ (o : List Str) (s : Str), (risingL o s).length ≤ o.length + 1 := rising_len
  refine loopB_range 0 (atomsL cs).length (Nat.zero_le _) (fun i e h' => ∃ os, HExt h2 h' ∧ e 0 = .slice rb 0 1 3 ∧ e 3 = ad ∧ e 5 = aa ∧ e 6 = .int .i64 (i : Int) ∧ Own encS 1 h2.next h' (e 4) os ∧ os.length ≤ i ∧ orderL (atomsL cs) = orderGo ((atomsL cs).drop i) os) ⟨[], HExt.refl _, rfl, rfl, rfl, rfl, .nil, Nat.le_refl _, rfl⟩ ?_ ?_
  · rintro i e h' _ hi ⟨os, hx0, e0, e3, e5, e6, o4, hol, hos⟩ K' hn hx hr hp
    have hv : (atomsL cs)[i]? = some (atomsL cs)[i] := List.getElem?_eq_getElem hi
    generalize (atomsL cs)[i] = y at hv
    obtain ⟨b, hbl, g1, g2, _⟩ := own_z (oa2.ext hx0) hv
    rw [order_drop hv] at hos
    rw [F.ref07_Symbols.L0_eq]
    simp only [e0, e3, e5, e6, (oa2.ext hx0).len, bindO_some, bindO2_some, outK_ret, condB_bool, cond_t, cond_f, fa_ptr, fa_iptr, part_none, Nat.zero_add, Nat.add_zero, Nat.reduceAdd, List.getElem?_cons_zero, List.getElem?_cons_succ, len_str, lenS_enc, lss_int, leq_int, gtr_int, geq_int, eq_int, ne_int, eq_str, ne_str, eq_bool, ne_bool, not_bool, extract_0, extract_1, extract_2, setV_eq, Nat.reduceEqDiff, reduceIte, lt_true hi, g1, g2]
    refine semCall_true (ref02_Among (od2.ext hx0) (by unfold big; simp) ?_)
    simp only [bindO_some, bindO2_some, outK_ret, condB_bool, cond_t, cond_f, fa_ptr, fa_iptr, part_none, Nat.zero_add, Nat.add_zero, Nat.reduceAdd, List.getElem?_cons_zero, List.getElem?_cons_succ, len_str, lenS_enc, lss_int, leq_int, gtr_int, geq_int, eq_int, ne_int, eq_str, ne_str, eq_bool, ne_bool, not_bool, extract_0, extract_1, extract_2, setV_eq, Nat.reduceEqDiff, reduceIte]
    cases hq : ([[]] : List Str).any fun x => x == y.1 with
    | true =>
      rw [if_pos hq] at hos
      simp only [Bool.not_true, cond_f, e6, succ_i64 hi hyb, bindO_some]
      exact hn _ _ ⟨os, hx0, e0, e3, e5, rfl, o4, by omega, hos⟩
    | false =>
      rw [if_neg (by rw [hq]; decide)] at hos
      simp only [Bool.not_false, cond_t, bindO_some, bindO2_some, outK_ret, condB_bool, cond_t, cond_f, fa_ptr, fa_iptr, part_none, Nat.zero_add, Nat.add_zero, Nat.reduceAdd, List.getElem?_cons_zero, List.getElem?_cons_succ, len_str, lenS_enc, lss_int, leq_int, gtr_int, geq_int, eq_int, ne_int, eq_str, ne_str, eq_bool, ne_bool, not_bool, extract_0, extract_1, extract_2, setV_eq, Nat.reduceEqDiff, reduceIte, e5, e6, g1, g2]
      refine semCall_true (ref07_rising o4 hx0.next (by omega) fun a' h3 x3 o3 => ?_)
      simp only [bindO_some, bindO2_some, outK_ret, condB_bool, cond_t, cond_f, fa_ptr, fa_iptr, part_none, Nat.zero_add, Nat.add_zero, Nat.reduceAdd, List.getElem?_cons_zero, List.getElem?_cons_succ, len_str, lenS_enc, lss_int, leq_int, gtr_int, geq_int, eq_int, ne_int, eq_str, ne_str, eq_bool, ne_bool, not_bool, extract_0, extract_1, extract_2, setV_eq, Nat.reduceEqDiff, reduceIte, e6, succ_i64 hi hyb]
      exact hn _ _ ⟨risingL os y.1, hx0.trans x3, e0, e3, e5, rfl, o3, by have := rlen os y.1; omega, hos⟩
  · rintro e h' ⟨os, hx0, e0, e3, e5, e6, o4, hol, hos⟩ K' hx
    rw [F.ref07_Symbols.L0_eq]
    simp only [e5, e6, (oa2.ext hx0).len, bindO_some, bindO2_some, outK_ret, condB_bool, cond_t, cond_f, fa_ptr, fa_iptr, part_none, Nat.zero_add, Nat.add_zero, Nat.reduceAdd, List.getElem?_cons_zero, List.getElem?_cons_succ, len_str, lenS_enc, lss_int, leq_int, gtr_int, geq_int, eq_int, ne_int, eq_str, ne_str, eq_bool, ne_bool, not_bool, extract_0, extract_1, extract_2, setV_eq, Nat.reduceEqDiff, reduceIte, lt_false]
    rw [hx, F.ref07_Symbols.L0_x0_eq]
    rw [List.drop_of_length_le (Nat.le_refl _)] at hos
    exact L1 _ h' (e 4) os (x12.trans hx0) (o4.weak x12.next) (by omega) e0 rfl rfl rfl hos
end
end Go.AM
/- The reference's symbols of a circuit. Conditions: none. -/
namespace Go.AM
open Go Go.Proofs
set_option linter.unusedVariables false
set_option linter.unusedSimpArgs false
noncomputable section

theorem Own.frzx {α : Type} {enc : α → List AV} {sz k : Nat} {h : Heap} {a : AV} {l : List α} (o : Own enc sz k h a l) (hf : ∀ v, ∀ x ∈ enc v, Fz true h x x) : ∃ x : Sl α, x.l = l ∧ Fz true h a (encSl enc sz x) := by
  cases o with
  | nil => exact ⟨none, rfl, .of_pure rfl⟩
  | row b l h1 h2 h3 =>
    refine ⟨some l, rfl, .slice b 0 l.length sz _ _ h3 rfl fun i x y hx hy => ?_⟩
    rw [hx] at hy
    cases hy
    have := List.mem_of_getElem? hx
    rw [List.mem_flatMap] at this
    obtain ⟨v, hv, hxv⟩ := this
    exact hf v x hxv
theorem Own.cells1 {α : Type} {enc : α → List AV} {sz k : Nat} {h : Heap} {a : AV} {l : List α} (o : Own enc sz k h a l) : oneAll (AV.cellsL a) = true ∧ (AV.cellsL a).length = 1 ∧ AV.cellsL a = [a] := by cases o <;> exact ⟨rfl, rfl, rfl⟩
theorem Own.setLow {α : Type} {enc : α → List AV} {sz k : Nat} {h : Heap} {a : AV} {l : List α} (o : Own enc sz k h a l) {d : Nat} (hd : d < k) (x : AObj) : Own enc sz k (h.set d x) a l := by
  cases o with
  | nil => exact .nil
  | row b _ w1 w2 w3 => exact .row b l w1 (by rw [Heap.next_set]; exact w2) (by rw [Heap.get_set, if_neg (by omega)]; exact w3)
/-- The inputs' names with their places, each name once. -/
def inGo : List Gate → List (Str × Nat) → List (Str × Nat)
  | [], o => o
  | g :: gs, o => inGo gs (if g.kind = 1 ∧ (o.any fun y => y.1 == g.name) = false then o ++ [(g.name, g.at_.l.length)] else o)
theorem in_drop {l : List Gate} {i : Nat} {g : Gate} (hg : l[i]? = some g) (o : List (Str × Nat)) : inGo (l.drop i) o = inGo (l.drop (i + 1)) (if g.kind = 1 ∧ (o.any fun y => y.1 == g.name) = false then o ++ [(g.name, g.at_.l.length)] else o) := by
  have h1 := (List.getElem?_eq_some_iff.1 hg).1
  rw [List.drop_eq_getElem_cons h1]
  rw [List.getElem?_eq_getElem h1] at hg
  cases hg; rfl
def inputs (c : Circ) : List (Str × Nat) := inGo c.gates.l []
def atomsP (o : List (Str × Nat)) : List (Str × Int) := ([], 0) :: o.map fun y => (y.1, (y.2 : Int))
def symsC (c : Circ) : List (Str × Int) := (orderL (atomsP (inputs c))).map fun s => (s, arI (atomsP (inputs c)) s)
def pairOf (c : CondA) : Str × Nat := (c.name, c.n)
theorem atomsL_P (cs : List CondA) : atomsL cs = atomsP (cs.map pairOf) := by
  simp only [atomsL, atomsP, List.map_map]; rfl
theorem symsL_C {c : Circ} {cs : List CondA} (h : cs.map pairOf = inputs c) : symsL cs = symsC c := by
  rw [symsL, symsC, atomsL_P, h]

theorem ref11_Symbols {c : Circ} (hc : c.ok) (hf : c.fits) {h : Heap} {K : Out → Heap → Bool} (hK : ∀ x : Sl (Str × Int), x.l = symsC c → K (.ret (encSl encZ 2 x)) h = true) : Sem Tryz.prog 29 [.agg (encCirc c)] h K := by
  have main : Sem Tryz.prog 29 [.agg (encCirc c)] Heap.empty (fun o h' => yes (∃ v, ∃ x : Sl (Str × Int), o = .ret v ∧ x.l = symsC c ∧ Fz true h' v (encSl encZ 2 x))) := by
    obtain ⟨hl1, hl2, hfit⟩ := hf
    have hm : maxBytes = 140737488355328 := rfl
    refine F.ref11_Symbols_sem ?_
    simp only [box_agg (one_encCirc c), bindO_some, next_empty, Heap.next_alloc]
    have g0 : (Heap.alloc (Heap.alloc (Heap.alloc Heap.empty (.cells (encCirc c))) (.cells [.str [], .nils, .nils])) (.map [] 0)).get 0 = some (.cells (encCirc c)) := by simp [Heap.get_alloc, next_empty]
    have g1 : (Heap.alloc (Heap.alloc (Heap.alloc Heap.empty (.cells (encCirc c))) (.cells [.str [], .nils, .nils])) (.map [] 0)).get 1 = some (.cells [.str [], .nils, .nils]) := by simp [Heap.get_alloc, next_empty]
    have g2 : (Heap.alloc (Heap.alloc (Heap.alloc Heap.empty (.cells (encCirc c))) (.cells [.str [], .nils, .nils])) (.map [] 0)).get 2 = some (.map [] 0) := by simp [Heap.get_alloc, next_empty]
    have gn : (Heap.alloc (Heap.alloc (Heap.alloc Heap.empty (.cells (encCirc c))) (.cells [.str [], .nils, .nils])) (.map [] 0)).next = 3 := rfl
    generalize (Heap.alloc (Heap.alloc (Heap.alloc Heap.empty (.cells (encCirc c))) (.cells [.str [], .nils, .nils])) (.map [] 0)) = H0 at g0 g1 g2 gn ⊢
    refine loopB_range 0 c.gates.l.length (Nat.zero_le _) (fun i e h' => ∃ body cs ms es ck, h'.get 0 = some (.cells (encCirc c)) ∧ h'.get 1 = some (.cells [.str [], .nils, body]) ∧ h'.get 2 = some (.map es ck) ∧ MapE es ms ∧ (∀ s, ms.find s = if ((cs.map pairOf).any fun y => y.1 == s) = true then some (.bool true) else none) ∧
      Own encC 4 3 h' body cs ∧ 3 ≤ h'.next ∧ cs.length ≤ i ∧ inputs c = inGo (c.gates.l.drop i) (cs.map pairOf) ∧ e 1 = .ptr 0 0 ∧ e 3 = .ptr 1 0 ∧ e 4 = .map 2 ∧ e 5 = .int .i64 (i : Int))
      ⟨.nils, [], [], [], 0, g0, g1, g2, trivial, fun s => rfl, .nil, by omega, Nat.le_refl _, rfl, rfl, rfl, rfl, rfl⟩ ?_ ?_
    · rintro i e h' _ hi ⟨body, cs, ms, es, ck, q0, q1, q2, hE, hms, ob, hn3, hci, hin, e1, e3, e4, e5⟩ K' hn hx hr hp
      have hg : c.gates.l[i]? = some c.gates.l[i] := List.getElem?_eq_getElem hi
      generalize c.gates.l[i] = g at hg
      have hgo : g.ok := hc.2 g (List.mem_of_getElem? hg)
      have hfg := hfit i g hg
      rw [in_drop hg] at hin
      obtain ⟨H, hs, p3, go, gn⟩ := store_new (h := h') (zs := [.int .i64 0, .str [], .nils, .nils]) (cs := encGate g) (n := 4) rfl rfl (one_encGate g)
      have p0 : H.get 0 = some (.cells (encCirc c)) := by rw [go _ (by omega)]; exact q0
      have p1 : H.get 1 = some (.cells [.str [], .nils, body]) := by rw [go _ (by omega)]; exact q1
      have p2 : H.get 2 = some (.map es ck) := by rw [go _ (by omega)]; exact q2
      have hxH : HExt h' H := ⟨by omega, fun d hd => go d (by omega)⟩
      have oH := ob.ext hxH
      rw [F.ref11_Symbols.L0_eq]
      simp only [e1, e3, e4, e5, load_ptr q0, bindO_some, bindO2_some, outK_ret, condB_bool, cond_t, cond_f, fa_ptr, fa_iptr, part_none, Nat.zero_add, Nat.add_zero, Nat.reduceAdd, List.getElem?_cons_zero, List.getElem?_cons_succ, len_str, lenS_enc, lss_int, leq_int, gtr_int, geq_int, eq_int, ne_int, eq_str, ne_str, eq_bool, ne_bool, not_bool, extract_0, extract_1, extract_2, setV_eq, Nat.reduceEqDiff, reduceIte]
      rw [show (encCirc c)[1]? = some (encSl encGate 4 c.gates) from rfl]
      have ln0 : loadS none (.ptr h'.next 0) H = some (.int .i64 g.kind) := by rw [load_ptr p3]; rfl
      have ln1 : loadS none (.ptr h'.next 1) H = some (.str g.name) := by rw [load_ptr p3]; rfl
      simp only [bindO_some, bindO2_some, outK_ret, condB_bool, cond_t, cond_f, fa_ptr, fa_iptr, part_none, Nat.zero_add, Nat.add_zero, Nat.reduceAdd, List.getElem?_cons_zero, List.getElem?_cons_succ, len_str, lenS_enc, lss_int, leq_int, gtr_int, geq_int, eq_int, ne_int, eq_str, ne_str, eq_bool, ne_bool, not_bool, extract_0, extract_1, extract_2, setV_eq, Nat.reduceEqDiff, reduceIte, lt_true hi, iaS_enc c.gates hi, load_agg len_encGate hg, hs, ln0, int_beq]
      by_cases k1 : g.kind = 1
      · simp only [decide_eq_true k1, cond_t, ln1, lookup_mapA p2 hE (.bool false), bindO_some]
        have hat : g.at_.l.length ≤ 12 := by
          simp only [fitB, if_pos k1, Bool.and_eq_true, decide_eq_true_eq] at hfg
          exact hfg.2.2.2.2.1
        cases hany : (cs.map pairOf).any fun y => y.1 == g.name with
        | true =>
          rw [if_neg (by rw [hany]; simp)] at hin
          rw [hms, if_pos hany]
          simp only [Option.getD_some, bindO_some, bindO2_some, outK_ret, condB_bool, cond_t, cond_f, fa_ptr, fa_iptr, part_none, Nat.zero_add, Nat.add_zero, Nat.reduceAdd, List.getElem?_cons_zero, List.getElem?_cons_succ, len_str, lenS_enc, lss_int, leq_int, gtr_int, geq_int, eq_int, ne_int, eq_str, ne_str, eq_bool, ne_bool, not_bool, extract_0, extract_1, extract_2, setV_eq, Nat.reduceEqDiff, reduceIte, Bool.not_true, cond_f, succ_i64 hi hc.1]
          exact hn _ _ ⟨body, cs, ms, es, ck, p0, p1, p2, hE, hms, oH, by omega, by omega, hin, e1, e3, e4, rfl⟩
        | false =>
          rw [if_pos ⟨k1, hany⟩] at hin
          rw [hms, if_neg (by rw [hany]; decide)]
          obtain ⟨es', ck', hu, hE'⟩ := update_mapA p2 hE g.name (.bool true)
          have r1 : (H.set 2 (.map es' ck')).get 1 = some (.cells [.str [], .nils, body]) := by rw [Heap.get_set, if_neg (by omega)]; exact p1
          have r3 : (H.set 2 (.map es' ck')).get h'.next = some (.cells (encGate g)) := by rw [Heap.get_set, if_neg (by omega)]; exact p3
          have rb : loadS none (.ptr 1 2) (H.set 2 (.map es' ck')) = some body := by rw [load_ptr r1]; rfl
          have rn1 : loadS none (.ptr h'.next 1) (H.set 2 (.map es' ck')) = some (.str g.name) := by rw [load_ptr r3]; rfl
          have rn2 : loadS none (.ptr h'.next 2) (H.set 2 (.map es' ck')) = some (encSl encI 1 g.at_) := by rw [load_ptr r3]; rfl
          have mk : ∀ h : Heap, makeSliceS 1 16 [(.str [])] (.int .i64 (g.at_.l.length : Int)) (.int .i64 (g.at_.l.length : Int)) h = some (.slice h.next 0 g.at_.l.length 1, h.alloc (.cells (repZero [.str []] g.at_.l.length))) := fun h => by
            have : (16 * (g.at_.l.length : Int)) ≤ 140737488355328 := by omega
            simp [makeSliceS, makeOk, this]
          have o1 : Own encC 4 3 ((H.set 2 (.map es' ck')).alloc (.cells (repZero [.str []] g.at_.l.length))) body cs := by
            have : Own encC 4 3 (H.set 2 (.map es' ck')) body cs := by
              cases oH with
              | nil => exact .nil
              | row b _ w1 w2 w3 => exact .row b cs w1 (by rw [Heap.next_set]; exact w2) (by rw [Heap.get_set, if_neg (by omega)]; exact w3)
            exact this.ext (HExt.alloc _ _)
          have on : ((H.set 2 (.map es' ck')).alloc (.cells (repZero [.str []] g.at_.l.length))).next = h'.next + 2 := by rw [Heap.next_alloc, Heap.next_set]; omega
          have og : ∀ d, d < 3 → ((H.set 2 (.map es' ck')).alloc (.cells (repZero [.str []] g.at_.l.length))).get d = (H.set 2 (.map es' ck')).get d := fun d hd => by rw [Heap.get_alloc, Heap.next_set, if_neg (by omega)]
          obtain ⟨a5, h5, p5, o5, f5, n5, _, b5⟩ := o1.push len_encC one_encC (by omega) (bytes := 56) (by rw [hm]; omega) ⟨g.name, (H.set 2 (.map es' ck')).next, g.at_.l.length⟩
          have agg1 : aggS [(.str []), .nils] [(0, 1), (1, 1)] [.str g.name, .slice (H.set 2 (.map es' ck')).next 0 g.at_.l.length 1] = some (.agg [.str g.name, .slice (H.set 2 (.map es' ck')).next 0 g.at_.l.length 1]) := rfl
          have agg2 : aggS [(.int .i64 0), (.bool false), (.str []), .nils] [(0, 1), (2, 2)] [(.int .i64 0), .agg [.str g.name, .slice (H.set 2 (.map es' ck')).next 0 g.at_.l.length 1]] = some (.agg (encC ⟨g.name, (H.set 2 (.map es' ck')).next, g.at_.l.length⟩)) := rfl
          have row1 : ∀ d : CondA, rowS [(.int .i64 0), (.bool false), (.str []), .nils] [(0, 4)] [.agg (encC d)] = some (encC d) := fun _ => rfl
          have hne : ∀ d, d < 3 → blkOf body ≠ some d := fun d hd hb => by have := o1.ge hb; omega
          have s1 : h5.get 1 = some (.cells [.str [], .nils, body]) := by rw [f5 1 (by omega) (hne 1 (by omega)), og 1 (by omega)]; exact r1
          have one5 : oneAll (AV.cellsL a5) = true ∧ (AV.cellsL a5).length = 1 ∧ AV.cellsL a5 = [a5] := o5.cells1
          have st : storeS 1 (.ptr 1 2) a5 h5 = some (h5.set 1 (.cells [.str [], .nils, a5])) := by
            rw [store_ptr (n := 1) s1 one5.2.1 one5.1 (by simp), one5.2.2]; rfl
          simp only [Option.getD_none, bindO_some, bindO2_some, outK_ret, condB_bool, cond_t, cond_f, fa_ptr, fa_iptr, part_none, Nat.zero_add, Nat.add_zero, Nat.reduceAdd, List.getElem?_cons_zero, List.getElem?_cons_succ, len_str, lenS_enc, lss_int, leq_int, gtr_int, geq_int, eq_int, ne_int, eq_str, ne_str, eq_bool, ne_bool, not_bool, extract_0, extract_1, extract_2, setV_eq, Nat.reduceEqDiff, reduceIte, Bool.not_false, cond_t, ln1, hu, rb, rn1, rn2, mk, agg1, agg2, row1, p5, st, succ_i64 hi hc.1]
          refine hn _ _ ⟨a5, cs ++ [⟨g.name, (H.set 2 (.map es' ck')).next, g.at_.l.length⟩], ms.upd g.name (.bool true), es', ck', ?_, ?_, ?_, hE', ?_, ?_, ?_, ?_, ?_, e1, e3, e4, rfl⟩
          · rw [Heap.get_set, if_neg (by omega), f5 0 (by omega) (hne 0 (by omega)), og 0 (by omega), Heap.get_set, if_neg (by omega)]; exact p0
          · rw [Heap.get_set, if_pos rfl]
          · rw [Heap.get_set, if_neg (by omega), f5 2 (by omega) (hne 2 (by omega)), og 2 (by omega), Heap.get_set, if_pos rfl]
          · intro s
            rw [find_upd, hms, List.map_append, List.any_append]
            by_cases hs2 : s = g.name
            · subst hs2
              rw [if_pos rfl, if_pos (by simp [pairOf])]
            · rw [if_neg hs2]
              have : (g.name == s) = false := by simpa using Ne.symm hs2
              simp only [List.map_cons, List.map_nil, List.any_cons, List.any_nil, pairOf, this, Bool.or_false]
          · exact o5.setLow (by omega) _
          · rw [Heap.next_set]; omega
          · simp; omega
          · rw [List.map_append]; exact hin
      · rw [if_neg (fun hh => k1 hh.1)] at hin
        simp only [decide_eq_false k1, cond_f, succ_i64 hi hc.1, bindO_some]
        exact hn _ _ ⟨body, cs, ms, es, ck, p0, p1, p2, hE, hms, oH, by omega, by omega, hin, e1, e3, e4, rfl⟩
    · rintro e h' ⟨body, cs, ms, es, ck, q0, q1, q2, hE, hms, ob, hn3, hci, hin, e1, e3, e4, e5⟩ K' hx
      rw [F.ref11_Symbols.L0_eq]
      simp only [e1, e5, load_ptr q0, bindO_some, bindO2_some, outK_ret, condB_bool, cond_t, cond_f, fa_ptr, fa_iptr, part_none, Nat.zero_add, Nat.add_zero, Nat.reduceAdd, List.getElem?_cons_zero, List.getElem?_cons_succ, len_str, lenS_enc, lss_int, leq_int, gtr_int, geq_int, eq_int, ne_int, eq_str, ne_str, eq_bool, ne_bool, not_bool, extract_0, extract_1, extract_2, setV_eq, Nat.reduceEqDiff, reduceIte]
      rw [show (encCirc c)[1]? = some (encSl encGate 4 c.gates) from rfl]
      simp only [bindO_some, bindO2_some, outK_ret, condB_bool, cond_t, cond_f, fa_ptr, fa_iptr, part_none, Nat.zero_add, Nat.add_zero, Nat.reduceAdd, List.getElem?_cons_zero, List.getElem?_cons_succ, len_str, lenS_enc, lss_int, leq_int, gtr_int, geq_int, eq_int, ne_int, eq_str, ne_str, eq_bool, ne_bool, not_bool, extract_0, extract_1, extract_2, setV_eq, Nat.reduceEqDiff, reduceIte, lt_false]
      rw [hx, F.ref11_Symbols.L0_x0_eq]
      have hrow : rowS [(.str []), .nils, .nils] [(0, 3)] [.agg [.str [], .nils, body]] = some [.str [], .nils, body] := by cases ob <;> rfl
      simp only [e3, load_ptr q1, part_whole (cs := [.str [], .nils, body]) (n := 3) rfl, bindO_some, hrow, setV_eq, Nat.reduceEqDiff, reduceIte]
      have r : Rule1 (h'.alloc (.cells [.str [], .nils, body])) h'.next 3 body cs := ⟨get_alloc_same _ _, by rw [Heap.next_alloc]; omega, ob.ext (HExt.alloc _ _)⟩
      refine semCall_true (ref07_Symbols r (by omega) fun a' h2 hx2 o => ?_)
      simp only [outK_ret]
      rw [List.drop_of_length_le (Nat.le_refl _)] at hin
      rw [symsL_C hin.symm] at o
      obtain ⟨x, hx1, hx3⟩ := o.frzx (fun v y hy => by
        simp only [encZ, List.mem_cons, List.not_mem_nil, or_false] at hy
        rcases hy with rfl | rfl <;> exact .scalar _ rfl)
      exact yes_eq.2 ⟨a', x, rfl, hx1, hx3⟩
  refine main.frozen (by simp [AV.pureL, AV.pure, pure_encCirc]) fun o h' ho => ?_
  obtain ⟨v, x, rfl, hx, hf⟩ := yes_eq.1 ho
  exact ⟨v, _, rfl, hf, hK x hx⟩
end
end Go.AM
/- Fits and Check. Conditions: none. -/
namespace Go.AM
open Go Go.Proofs
set_option linter.unusedVariables false
set_option linter.unusedSimpArgs false
noncomputable section

def fitZ (s : Strc) (y : Str × Int) : Bool := match s.rels.l.find? (namedB y.1) with
  | some r => decide (r.arity = y.2)
  | none => false
theorem where_find {α : Type} (p : α → Bool) : ∀ (l : List α) (i : Nat), (idxGo p l i = -1 ∧ l.find? p = none) ∨ ∃ (j : Nat) (v : α), idxGo p l i = ((i + j : Nat) : Int) ∧ l[j]? = some v ∧ l.find? p = some v
  | [], i => .inl ⟨rfl, rfl⟩
  | x :: l, i => by
    rw [idxGo, List.find?_cons]
    cases hp : p x with
    | true => exact .inr ⟨0, x, by simp, rfl, rfl⟩
    | false =>
      simp only [Bool.false_eq_true, if_false]
      rcases where_find p l (i + 1) with ⟨h1, h2⟩ | ⟨j, v, h1, h2, h3⟩
      · exact .inl ⟨h1, h2⟩
      · exact .inr ⟨j + 1, v, by rw [h1]; congr 1; omega, by simpa using h2, h3⟩
theorem whereI_find {α : Type} (p : α → Bool) (l : List α) : (whereI p l = -1 ∧ l.find? p = none) ∨ ∃ (j : Nat) (v : α), whereI p l = (j : Int) ∧ l[j]? = some v ∧ l.find? p = some v := by
  rcases where_find p l 0 with h | ⟨j, v, h1, h2, h3⟩
  · exact .inl h
  · exact .inr ⟨j, v, by rw [whereI, h1, Nat.zero_add], h2, h3⟩
theorem get_arity {s : Strc} {i : Nat} {r : Rel} (hr : s.rels.l[i]? = some r) {h : Heap} : loadS none (.iptr (s.rels.l.flatMap encRel) (i * 3 + 1)) h = some (.int .i64 r.arity) := by
  rw [load_elem len_encRel hr (by omega)]; rfl
theorem get_z {x : Sl (Str × Int)} {i : Nat} {y : Str × Int} (hy : x.l[i]? = some y) {h : Heap} : loadS none (.iptr (x.l.flatMap encZ) (i * 2)) h = some (.str y.1) := by
  have := load_elem (h := h) len_encZ hy (k := 0) (by omega)
  rw [Nat.add_zero] at this
  rw [this]; rfl
theorem get_z1 {x : Sl (Str × Int)} {i : Nat} {y : Str × Int} (hy : x.l[i]? = some y) {h : Heap} : loadS none (.iptr (x.l.flatMap encZ) (i * 2 + 1)) h = some (.int .i64 y.2) := by
  rw [load_elem len_encZ hy (by omega)]; rfl
theorem pure_encZ (y : Str × Int) : AV.pureL (encZ y) = true := rfl

theorem ref01_Fits {s : Strc} (hs : s.ok) {x : Sl (Str × Int)} (hx : x.l.length ≤ big) {h : Heap} {K : Out → Heap → Bool} (hK : K (.ret (.bool (x.l.all (fitZ s)))) h = true) : Sem Tryz.prog 59 [.agg (encStrc s), encSl encZ 2 x] h K := by
  refine Sem.data (r := .bool (x.l.all (fitZ s))) ?_ (by simp [AV.pureL, AV.pure, pure_encStrc, pure_encSl pure_encZ]) hK
  clear hK
  refine F.ref01_Fits_sem ?_
  have b0 : (Heap.alloc Heap.empty (.cells (encStrc s))).get 0 = some (.cells (encStrc s)) := get_alloc_same _ _
  simp only [box_agg (one_encStrc s), bindO_some, next_empty]
  generalize (Heap.alloc Heap.empty (.cells (encStrc s))) = H at b0 ⊢
  have fin : ∀ b : Bool, b = x.l.all (fitZ s) → frzK (.bool (x.l.all (fitZ s))) (.ret (.bool b)) H = true := fun b hb => by rw [hb]; exact frzK_same rfl
  have lr : loadS none (.ptr 0 1) H = some (encSl encRel 3 s.rels) := by rw [load_ptr b0]; rfl
  have lw : loadS (some 2) (.ptr 0 0) H = some (.agg (encStrc s)) := by rw [load_ptr b0, part_whole (cs := encStrc s) (n := 2) rfl]
  refine loopB_range 0 x.l.length (Nat.zero_le _) (fun i e h' => h' = H ∧ e 1 = encSl encZ 2 x ∧ e 2 = .ptr 0 0 ∧ e 5 = .int .i64 (i : Int) ∧ (x.l.take i).all (fitZ s) = true) ⟨rfl, rfl, rfl, rfl, rfl⟩ ?_ ?_
  · rintro i e h' _ hi ⟨rfl, e1, e2, e5, ht⟩ K' hn hx' hr hp
    have hv : x.l[i]? = some x.l[i] := List.getElem?_eq_getElem hi
    generalize x.l[i] = y at hv
    rw [F.ref01_Fits.L0_eq]
    simp only [e1, e2, e5, bindO_some, bindO2_some, outK_ret, condB_bool, cond_t, cond_f, fa_ptr, fa_iptr, part_none, Nat.zero_add, Nat.add_zero, Nat.reduceAdd, List.getElem?_cons_zero, List.getElem?_cons_succ, len_str, lenS_enc, lss_int, leq_int, gtr_int, geq_int, eq_int, ne_int, eq_str, ne_str, eq_bool, ne_bool, not_bool, extract_0, extract_1, extract_2, setV_eq, Nat.reduceEqDiff, reduceIte, lw, lt_true hi, iaS_enc x hi, get_z hv]
    refine semCall_true (ref01_Find hs ?_)
    simp only [bindO_some, bindO2_some, outK_ret, condB_bool, cond_t, cond_f, fa_ptr, fa_iptr, part_none, Nat.zero_add, Nat.add_zero, Nat.reduceAdd, List.getElem?_cons_zero, List.getElem?_cons_succ, len_str, lenS_enc, lss_int, leq_int, gtr_int, geq_int, eq_int, ne_int, eq_str, ne_str, eq_bool, ne_bool, not_bool, extract_0, extract_1, extract_2, setV_eq, Nat.reduceEqDiff, reduceIte]
    rcases whereI_find (namedB y.1) s.rels.l with ⟨h1, h2⟩ | ⟨j, r, h1, h2, h3⟩
    · rw [h1]
      simp only [show decide ((-1 : Int) < 0) = true from rfl, cond_t]
      rw [hr, F.ref01_Fits.L0_r_eq]
      simp only [setV_eq, Nat.reduceEqDiff, reduceIte]
      exact fin _ (all_false hv (by rw [fitZ, h2])).symm
    · rw [h1]
      have hj : j < s.rels.l.length := (List.getElem?_eq_some_iff.1 h2).1
      simp only [decide_eq_false (by omega : ¬ ((j : Int) < 0)), cond_f, bindO_some, bindO2_some, outK_ret, condB_bool, cond_t, cond_f, fa_ptr, fa_iptr, part_none, Nat.zero_add, Nat.add_zero, Nat.reduceAdd, List.getElem?_cons_zero, List.getElem?_cons_succ, len_str, lenS_enc, lss_int, leq_int, gtr_int, geq_int, eq_int, ne_int, eq_str, ne_str, eq_bool, ne_bool, not_bool, extract_0, extract_1, extract_2, setV_eq, Nat.reduceEqDiff, reduceIte, e1, e2, e5, lr, iaS_enc s.rels hj, get_arity h2, iaS_enc x hi, get_z1 hv, int_beq]
      by_cases hq : r.arity = y.2
      · simp only [decide_eq_true hq, Bool.not_true, cond_f, succ_i64 hi hx, bindO_some]
        exact hn _ _ ⟨rfl, e1, e2, rfl, take_all hv ht (by rw [fitZ, h3]; exact decide_eq_true hq)⟩
      · simp only [decide_eq_false hq, Bool.not_false, cond_t]
        rw [hr, F.ref01_Fits.L0_r_eq]
        simp only [setV_eq, Nat.reduceEqDiff, reduceIte]
        exact fin _ (all_false hv (by rw [fitZ, h3]; exact decide_eq_false hq)).symm
  · rintro e h' ⟨rfl, e1, e2, e5, ht⟩ K' hx'
    rw [F.ref01_Fits.L0_eq]
    simp only [e1, e5, bindO_some, bindO2_some, outK_ret, condB_bool, cond_t, cond_f, fa_ptr, fa_iptr, part_none, Nat.zero_add, Nat.add_zero, Nat.reduceAdd, List.getElem?_cons_zero, List.getElem?_cons_succ, len_str, lenS_enc, lss_int, leq_int, gtr_int, geq_int, eq_int, ne_int, eq_str, ne_str, eq_bool, ne_bool, not_bool, extract_0, extract_1, extract_2, setV_eq, Nat.reduceEqDiff, reduceIte, lt_false]
    rw [hx', F.ref01_Fits.L0_x0_eq]
    rw [List.take_of_length_le (Nat.le_refl _)] at ht
    exact fin _ ht.symm

theorem orderGo_len : ∀ (ys : List (Str × Int)) (o : List Str), (orderGo ys o).length ≤ ys.length + o.length
  | [], o => by simp [orderGo]
  | y :: ys, o => by
    rw [orderGo]
    have h2 := rising_len o y.1
    by_cases hq : (([[]] : List Str).any fun x => x == y.1) = true
    · rw [if_pos hq]
      have := orderGo_len ys o
      simp only [List.length_cons]; omega
    · rw [if_neg hq]
      have := orderGo_len ys (risingL o y.1)
      simp only [List.length_cons]; omega
theorem inGo_len : ∀ (l : List Gate) (o : List (Str × Nat)), (inGo l o).length ≤ l.length + o.length
  | [], o => by simp [inGo]
  | g :: l, o => by
    rw [inGo]
    by_cases hq : g.kind = 1 ∧ (o.any fun y => y.1 == g.name) = false
    · rw [if_pos hq]
      have := inGo_len l (o ++ [(g.name, g.at_.l.length)])
      simp only [List.length_cons, List.length_append, List.length_nil] at this ⊢; omega
    · rw [if_neg hq]
      have := inGo_len l o
      simp only [List.length_cons]; omega
theorem symsC_len {c : Circ} (hf : c.fits) : (symsC c).length ≤ big := by
  obtain ⟨h1, _, _⟩ := hf
  have a := orderGo_len (atomsP (inputs c)) []
  have b := inGo_len c.gates.l []
  simp only [symsC, orderL, List.length_map, List.length_nil] at a b ⊢
  have e : (atomsP (inputs c)).length = (inputs c).length + 1 := by simp [atomsP]
  have e2 : (inputs c).length ≤ c.gates.l.length := by rw [inputs]; omega
  unfold big; omega

/-- Run's error. -/
def errI (c : Circ) (s : Strc) : Int := if validB c = false ∨ strcB s = false then 1 else if c.size ≠ s.size then 2 else if (symsC c).all (fitZ s) = false then 4 else 0
theorem ref11_Check {c : Circ} {s : Strc} (hc : c.ok) (hs : s.ok) {h : Heap} {K : Out → Heap → Bool} (hK : K (.ret (.int .i64 (errI c s))) h = true) : Sem Tryz.prog 19 [.agg (encCirc c), .agg (encStrc s)] h K := by
  refine Sem.data (r := .int .i64 (errI c s)) ?_ (by simp [AV.pureL, AV.pure, pure_encStrc, pure_encCirc]) hK
  clear hK
  have fin : ∀ (n : Int) (H : Heap), n = errI c s → frzK (.int .i64 (errI c s)) (.ret (.int .i64 n)) H = true := fun n H hn => by rw [hn]; exact frzK_same rfl
  generalize frzK (.int .i64 (errI c s)) = K at fin ⊢
  refine F.ref11_Check_sem ?_
  simp only [box_agg (one_encCirc c), box_agg (one_encStrc s), bindO_some, next_empty, Heap.next_alloc]
  have g0 : (Heap.alloc (Heap.alloc Heap.empty (.cells (encCirc c))) (.cells (encStrc s))).get 0 = some (.cells (encCirc c)) := by simp [Heap.get_alloc, next_empty]
  have g1 : (Heap.alloc (Heap.alloc Heap.empty (.cells (encCirc c))) (.cells (encStrc s))).get 1 = some (.cells (encStrc s)) := by simp [Heap.get_alloc, next_empty]
  generalize (Heap.alloc (Heap.alloc Heap.empty (.cells (encCirc c))) (.cells (encStrc s))) = H at g0 g1 ⊢
  have l0 : loadS (some 2) (.ptr 0 0) H = some (.agg (encCirc c)) := by rw [load_ptr g0, part_whole (cs := encCirc c) (n := 2) rfl]
  have l1 : loadS (some 2) (.ptr 1 0) H = some (.agg (encStrc s)) := by rw [load_ptr g1, part_whole (cs := encStrc s) (n := 2) rfl]
  have z0 : loadS none (.ptr 0 0) H = some (.int .i64 c.size) := by rw [load_ptr g0]; rfl
  have z1 : loadS none (.ptr 1 0) H = some (.int .i64 s.size) := by rw [load_ptr g1]; rfl
  simp only [Nat.zero_add, l0, l1, bindO_some]
  refine semCall_true (ref11_Valid hc ?_)
  simp only [bindO_some, bindO2_some, outK_ret, condB_bool, cond_t, cond_f, fa_ptr, fa_iptr, part_none, Nat.zero_add, Nat.add_zero, Nat.reduceAdd, List.getElem?_cons_zero, List.getElem?_cons_succ, len_str, lenS_enc, lss_int, leq_int, gtr_int, geq_int, eq_int, ne_int, eq_str, ne_str, eq_bool, ne_bool, not_bool, extract_0, extract_1, extract_2, setV_eq, Nat.reduceEqDiff, reduceIte]
  cases hv : validB c with
  | false => simp only [Bool.not_false, cond_t]; exact fin _ _ (by rw [errI, if_pos (.inl hv)])
  | true =>
  simp only [Bool.not_true, cond_f, l1, bindO_some]
  refine semCall_true (ref01_Valid hs ?_)
  simp only [bindO_some, bindO2_some, outK_ret, condB_bool, cond_t, cond_f, fa_ptr, fa_iptr, part_none, Nat.zero_add, Nat.add_zero, Nat.reduceAdd, List.getElem?_cons_zero, List.getElem?_cons_succ, len_str, lenS_enc, lss_int, leq_int, gtr_int, geq_int, eq_int, ne_int, eq_str, ne_str, eq_bool, ne_bool, not_bool, extract_0, extract_1, extract_2, setV_eq, Nat.reduceEqDiff, reduceIte]
  cases hsv : strcB s with
  | false => simp only [Bool.not_false, cond_t]; exact fin _ _ (by rw [errI, if_pos (.inr hsv)])
  | true =>
  have hno : ¬ (validB c = false ∨ strcB s = false) := by rw [hv, hsv]; simp
  simp only [Bool.not_true, cond_f, bindO_some, bindO2_some, outK_ret, condB_bool, cond_t, cond_f, fa_ptr, fa_iptr, part_none, Nat.zero_add, Nat.add_zero, Nat.reduceAdd, List.getElem?_cons_zero, List.getElem?_cons_succ, len_str, lenS_enc, lss_int, leq_int, gtr_int, geq_int, eq_int, ne_int, eq_str, ne_str, eq_bool, ne_bool, not_bool, extract_0, extract_1, extract_2, setV_eq, Nat.reduceEqDiff, reduceIte, z0, z1, int_beq]
  by_cases hz : c.size = s.size
  · simp only [decide_eq_true hz, Bool.not_true, cond_f, l0, l1, bindO_some]
    refine semCall_true (ref11_Symbols hc (fits_valid hv) fun x hx => ?_)
    simp only [outK_ret, l1, bindO_some, AV.beq_refl, Bool.and_self, if_true]
    refine semCall_true (ref01_Fits hs (by rw [hx]; exact symsC_len (fits_valid hv)) ?_)
    simp only [bindO_some, bindO2_some, outK_ret, condB_bool, cond_t, cond_f, fa_ptr, fa_iptr, part_none, Nat.zero_add, Nat.add_zero, Nat.reduceAdd, List.getElem?_cons_zero, List.getElem?_cons_succ, len_str, lenS_enc, lss_int, leq_int, gtr_int, geq_int, eq_int, ne_int, eq_str, ne_str, eq_bool, ne_bool, not_bool, extract_0, extract_1, extract_2, setV_eq, Nat.reduceEqDiff, reduceIte, hx]
    cases hf : (symsC c).all (fitZ s) with
    | false => simp only [Bool.not_false, cond_t]; exact fin _ _ (by rw [errI, if_neg hno, if_neg (by simp [hz]), if_pos hf])
    | true => simp only [Bool.not_true, cond_f]; exact fin _ _ (by rw [errI, if_neg hno, if_neg (by simp [hz]), if_neg (by rw [hf]; decide)])
  · simp only [decide_eq_false hz, Bool.not_false, cond_t]
    exact fin _ _ (by rw [errI, if_neg hno, if_pos hz])
end
end Go.AM
/- Rows of rows of numbers that are ours; all tuples in order. Conditions: none. -/
namespace Go.AM
open Go Go.Proofs
set_option linter.unusedVariables false
set_option linter.unusedSimpArgs false
noncomputable section

/-! ### Functions of data, lent -/
theorem Fz.scalar_inv {old : Bool} {h : Heap} {v r : AV} (hr : r.scalar = true) (hf : Fz old h v r) : v = r := by
  cases hf <;> first | rfl | (simp [AV.scalar] at hr)
theorem Sem.dataL {P : Program} {f : FuncId} {args args' : List AV} {r : AV} {h : Heap} {K : Out → Heap → Bool} (hr : r.scalar = true) (hs : Sem P f args' Heap.empty (frzK r)) (hp : FzL true h args args') (hK : K (.ret r) h = true) : Sem P f args h K :=
  hs.lent hp fun o h' ho => by
    obtain ⟨v, rfl, hf⟩ := yes_eq.1 ho
    obtain rfl := hf.scalar_inv hr
    exact ⟨_, _, rfl, .scalar _ hr, hK⟩
theorem fz_ints {old : Bool} {d : List Int} {h : Heap} {b : Nat} (hb : h.get b = some (.cells (d.map iv))) : Fz old h (.slice b 0 d.length 1) (encSl encI 1 (some d)) := by
  refine .slice b 0 d.length 1 _ _ hb (by rw [map_iv]) fun i x y hx hy => ?_
  rw [map_iv, hy] at hx
  cases hx
  rw [← map_iv, List.getElem?_map] at hy
  obtain ⟨v, hv, rfl⟩ := Option.map_eq_some_iff.1 hy
  exact .scalar _ rfl
theorem row_enc {α : Type} {enc : α → List AV} {sz : Nat} (he : ∀ a, (enc a).length = sz) (x : Sl α) (h : Heap) : Row enc sz h (encSl enc sz x) x.l := by
  cases x with
  | none => exact ⟨rfl, rfl⟩
  | some l =>
    refine ⟨rfl, ?_⟩
    have hl : (l.flatMap enc).length = l.length * sz := len_flatMap he l
    simp only [encSl, firstS, Sl.l_some, Nat.zero_add, hl, beq_self_eq_true, Nat.le_refl, decide_true, Bool.and_self, if_true, List.drop_zero]
    rw [← hl, List.take_length]

/-! ### Rows of rows -/
abbrev PB := Nat × List Int
def encP (p : PB) : List AV := [.slice p.1 0 p.2.length 1]
theorem len_encP (p : PB) : (encP p).length = 1 := rfl
theorem one_encP (p : PB) : oneAll (encP p) = true := rfl
structure Nest (k : Nat) (h : Heap) (a : AV) (ps : List PB) : Prop where
  own : Own encP 1 k h a ps
  cell : ∀ p ∈ ps, k ≤ p.1 ∧ p.1 < h.next ∧ blkOf a ≠ some p.1 ∧ h.get p.1 = some (.cells (p.2.map iv))
theorem Nest.nil (k : Nat) (h : Heap) : Nest k h .nils [] := ⟨.nil, fun p hp => by cases hp⟩
theorem Own.lt {α : Type} {enc : α → List AV} {sz k : Nat} {h : Heap} {a : AV} {l : List α} (o : Own enc sz k h a l) {c : Nat} (hc : blkOf a = some c) : c < h.next := by
  cases o with
  | nil => cases hc
  | row b l h1 h2 h3 => cases hc; exact h2
theorem Nest.ext {k : Nat} {h h' : Heap} {a : AV} {ps : List PB} (n : Nest k h a ps) (hx : HExt h h') : Nest k h' a ps :=
  ⟨n.own.ext hx, fun p hp => by
    obtain ⟨h1, h2, h3, h4⟩ := n.cell p hp
    exact ⟨h1, Nat.lt_of_lt_of_le h2 hx.next, h3, by rw [hx.get _ h2]; exact h4⟩⟩
theorem Nest.frz {old : Bool} {k : Nat} {h : Heap} {a : AV} {ps : List PB} (n : Nest k h a ps) : ∃ x : Sl (Sl Int), x.l.map Sl.l = ps.map (·.2) ∧ Fz old h a (encSl encT 1 x) := by
  obtain ⟨o, hc⟩ := n
  cases o with
  | nil => exact ⟨none, rfl, .scalar _ rfl⟩
  | row b ps h1 h2 h3 =>
    refine ⟨some (ps.map fun p => some p.2), by simp [List.map_map, Function.comp_def], ?_⟩
    have e1 : ps.flatMap encP = ps.map fun p => AV.slice p.1 0 p.2.length 1 := by
      induction ps with
      | nil => rfl
      | cons p ps ih => rw [List.flatMap_cons, List.map_cons]; exact congrArg _ (by
          clear ih h3 hc
          induction ps with
          | nil => rfl
          | cons q ps ih => rw [List.flatMap_cons, List.map_cons, ih]; rfl)
    have e2 : (ps.map fun p => (some p.2 : Sl Int)).flatMap encT = ps.map fun p => encSl encI 1 (some p.2) := by
      clear h3 hc e1
      induction ps with
      | nil => rfl
      | cons q ps ih => rw [List.map_cons, List.flatMap_cons, List.map_cons, ih]; rfl
    rw [e1] at h3
    have hf : Fz old h (.slice b 0 ps.length 1) (.islice (ps.map fun p => encSl encI 1 (some p.2)) 0 ps.length 1) := by
      refine .slice b 0 ps.length 1 _ _ h3 (by simp) fun i x y hx hy => ?_
      rw [List.getElem?_map] at hx hy
      obtain ⟨p, hp, rfl⟩ := Option.map_eq_some_iff.1 hx
      rw [hp] at hy; cases hy
      exact fz_ints (hc p (List.mem_of_getElem? hp)).2.2.2
    have : encSl encT 1 (some (ps.map fun p => (some p.2 : Sl Int))) = .islice (ps.map fun p => encSl encI 1 (some p.2)) 0 ps.length 1 := by
      simp only [encSl, e2, List.length_map]
    rw [this]; exact hf
theorem Nest.push {k : Nat} {h : Heap} {a : AV} {ps : List PB} (n : Nest k h a ps) (hk : k ≤ h.next) (hroom : (ps.length + 1) * 24 ≤ maxBytes) (p : PB) (p1 : k ≤ p.1) (p2 : p.1 < h.next) (p3 : blkOf a ≠ some p.1) (p4 : h.get p.1 = some (.cells (p.2.map iv))) :
    ∃ a' h', appendS 1 24 a (.slice h.next 0 1 1) (h.alloc (.cells (encP p))) = some (a', h') ∧ Nest k h' a' (ps ++ [p]) ∧ h.next ≤ h'.next ∧ (∀ c, c < h.next → blkOf a ≠ some c → h'.get c = h.get c) ∧ (∀ h0, HExt h0 h → h0.next ≤ k → HExt h0 h') ∧ ∀ c, blkOf a' = some c → h.next ≤ c := by
  obtain ⟨a', h', e1, o1, f1, n1, x1, b1⟩ := n.own.push len_encP one_encP hk hroom p
  refine ⟨a', h', e1, ⟨o1, fun q hq => ?_⟩, n1, f1, x1, b1⟩
  have hq' : k ≤ q.1 ∧ q.1 < h.next ∧ blkOf a ≠ some q.1 ∧ h.get q.1 = some (.cells (q.2.map iv)) := by
    rcases List.mem_append.1 hq with hq | hq
    · exact n.cell q hq
    · rw [List.mem_singleton] at hq; subst hq; exact ⟨p1, p2, p3, p4⟩
  obtain ⟨q1, q2, q3, q4⟩ := hq'
  exact ⟨q1, by omega, fun hb => by have := b1 _ hb; omega, by rw [f1 _ q2 q3]; exact q4⟩
theorem Nest.at_ {k : Nat} {h : Heap} {a : AV} {ps : List PB} (n : Nest k h a ps) {i : Nat} {p : PB} (hp : ps[i]? = some p) :
    ∃ b, (∀ q : IntKind, iaS 1 a (.int q (i : Int)) = some (.ptr b (i * 1))) ∧ b < h.next ∧ (∀ h', HExt h h' → loadS none (.ptr b (i * 1)) h' = some (.slice p.1 0 p.2.length 1)) := by
  obtain ⟨b, b1, b2, b3, _, b5⟩ := n.own.get len_encP hp
  refine ⟨b, b3, b2, fun h' hx => ?_⟩
  obtain ⟨b', _, _, c3, _, c5⟩ := (n.own.ext hx).get len_encP hp
  obtain rfl : b = b' := by have := b3 .i64; rw [c3 .i64] at this; cases this; rfl
  have := c5 0 (by omega)
  rw [Nat.add_zero] at this
  rw [this]; rfl

/-! ### Copies of tuples -/
theorem app_one (l : List Int) : oneAll (l.map iv) = true := by
  induction l with
  | nil => rfl
  | cons a l ih => simp only [List.map_cons, oneAll, ih, Bool.and_true]; rfl
theorem clone_tup {h : Heap} {src : AV} {l : List Int} (r : Row encI 1 (h.alloc (.cells [])) src l) (hl : l.length ≤ 1000000) :
    ∃ b h', appendS 1 8 (.slice h.next 0 0 1) src (h.alloc (.cells [])) = some (.slice b 0 l.length 1, h') ∧ h'.get b = some (.cells (l.map iv)) ∧ HExt h h' ∧ h.next ≤ b ∧ b < h'.next := by
  have hm : maxBytes = 140737488355328 := rfl
  have g : (h.alloc (.cells [])).get h.next = some (.cells []) := get_alloc_same _ _
  have rc := r.cells
  rw [← map_iv] at rc
  by_cases hz : l.length = 0
  · have : l = [] := List.eq_nil_of_length_eq_zero hz
    subst this
    refine ⟨h.next, h.alloc (.cells []), ?_, g, HExt.alloc _ _, Nat.le_refl _, Nat.lt_succ_self _⟩
    simp only [List.length_nil] at rc
    simp [appendS, r.len, rc]
  · refine ⟨h.next + 1, ((h.alloc (.cells [])).set h.next .dead).alloc (.cells (l.map iv)), ?_, ?_, ?_, by omega, ?_⟩
    · simp only [appendS, r.len, rc, if_true, if_neg hz, g]
      rw [if_pos (by simp [app_one]; omega)]
      simp [Heap.next_set, Heap.next_alloc]
    · have := get_alloc_same ((h.alloc (.cells [])).set h.next .dead) (.cells (l.map iv))
      rwa [Heap.next_set, Heap.next_alloc] at this
    · exact ((HExt.alloc h (.cells [])).set (Nat.le_refl _) _).trans (HExt.alloc _ _)
    · rw [Heap.next_alloc, Heap.next_set, Heap.next_alloc]; omega
theorem push_tup {h : Heap} {b : Nat} {l : List Int} (hb : h.get b = some (.cells (l.map iv))) (hbn : b < h.next) (hl : l.length ≤ 1000000) (x : Int) :
    ∃ b' h', appendS 1 8 (.slice b 0 l.length 1) (.slice h.next 0 1 1) (h.alloc (.cells [.int .i64 x])) = some (.slice b' 0 (l ++ [x]).length 1, h') ∧ h'.get b' = some (.cells ((l ++ [x]).map iv)) ∧ (∀ c, c < h.next → c ≠ b → h'.get c = h.get c) ∧ h.next ≤ b' ∧ b' < h'.next := by
  have hm : maxBytes = 140737488355328 := rfl
  have g : (h.alloc (.cells [.int .i64 x])).get h.next = some (.cells [.int .i64 x]) := get_alloc_same _ _
  have g2 : (h.alloc (.cells [.int .i64 x])).get b = some (.cells (l.map iv)) := by rw [Heap.get_alloc, if_neg (by omega)]; exact hb
  refine ⟨h.next + 1, ((h.alloc (.cells [.int .i64 x])).set b .dead).alloc (.cells ((l ++ [x]).map iv)), ?_, ?_, fun c hc hcb => ?_, by omega, ?_⟩
  · have hf : firstS 1 1 (.slice h.next 0 1 1) (h.alloc (.cells [.int .i64 x])) = some [.int .i64 x] := by simp [firstS, g]
    simp only [appendS, lenA, hf, if_true, g2]
    rw [if_neg (by decide), if_pos (by simp [oneAll, AV.one]; omega)]
    simp only [Heap.next_set, Heap.next_alloc, List.drop_zero, Nat.mul_one]
    congr 2
    · simp
    · congr 2
      rw [List.take_of_length_le (by simp), List.map_append]; rfl
  · have := get_alloc_same ((h.alloc (.cells [.int .i64 x])).set b .dead) (.cells ((l ++ [x]).map iv))
    rwa [Heap.next_set, Heap.next_alloc] at this
  · rw [Heap.get_alloc, Heap.next_set, Heap.next_alloc, if_neg (by omega), Heap.get_set, if_neg hcb, Heap.get_alloc, if_neg (by omega)]
  · rw [Heap.next_alloc, Heap.next_set, Heap.next_alloc]; omega

/-! ### All tuples -/
def extT (n : Nat) (t : List Int) : List (List Int) := (List.range n).map fun (x : Nat) => t ++ [(x : Int)]
def stepT (n : Nat) (out : List (List Int)) : List (List Int) := out.flatMap (extT n)
def iterT (n : Nat) : Nat → List (List Int)
  | 0 => [[]]
  | k + 1 => stepT n (iterT n k)
theorem stepT_len (n : Nat) (l : List (List Int)) : (stepT n l).length = l.length * n := by
  induction l with
  | nil => simp [stepT]
  | cons t l ih =>
    rw [stepT, List.flatMap_cons, List.length_append, ← stepT, ih, List.length_cons, Nat.succ_mul]
    simp [extT]; omega
theorem iterT_len (n : Nat) : ∀ k, (iterT n k).length = n ^ k
  | 0 => rfl
  | k + 1 => by rw [iterT, stepT_len, iterT_len n k, Nat.pow_succ]
theorem stepT_take {n : Nat} {out : List (List Int)} {j : Nat} {t : List Int} (ht : out[j]? = some t) : stepT n (out.take (j + 1)) = stepT n (out.take j) ++ extT n t := by
  rw [List.take_add_one, ht, stepT, List.flatMap_append]; simp [stepT]
theorem extT_len (n : Nat) (t : List Int) : (extT n t).length = n := by simp [extT]
theorem extT_take {n : Nat} {t : List Int} {x : Nat} (hx : x < n) : (extT n t).take (x + 1) = (extT n t).take x ++ [t ++ [(x : Int)]] := by
  rw [List.take_add_one]
  congr 1
  simp [extT, List.getElem?_range hx]
theorem stepT_get {n : Nat} : ∀ {out : List (List Int)} {r x : Nat} {t : List Int}, out[r]? = some t → x < n → (stepT n out)[r * n + x]? = some (t ++ [(x : Int)])
  | [], r, x, t, h, _ => by simp at h
  | u :: out, 0, x, t, h, hx => by
    simp at h; subst h
    rw [stepT, List.flatMap_cons, Nat.zero_mul, Nat.zero_add, List.getElem?_append_left (by rw [extT_len]; exact hx)]
    simp [extT, List.getElem?_range hx]
  | u :: out, r + 1, x, t, h, hx => by
    rw [stepT, List.flatMap_cons, List.getElem?_append_right (by rw [extT_len, Nat.succ_mul]; omega), extT_len]
    have : (r + 1) * n + x - n = r * n + x := by rw [Nat.succ_mul]; omega
    rw [this]
    exact stepT_get (out := out) (by simpa using h) hx
theorem in_snoc {n : Nat} {t : List Int} {x : Nat} (ht : inB n t = true) (hx : x < n) : inB n (t ++ [(x : Int)]) = true := by
  unfold inB at ht ⊢
  rw [List.all_append, ht]
  simp; omega
/-- The tuple at a place has that place as its rank. -/
theorem iterT_get {n : Nat} (hn : 1 ≤ n) : ∀ (k r : Nat), r < n ^ k → ∃ t, (iterT n k)[r]? = some t ∧ t.length = k ∧ inB n t = true ∧ rkN n t = r
  | 0, r, h => by
    obtain rfl : r = 0 := by simp at h; omega
    exact ⟨[], rfl, rfl, rfl, rfl⟩
  | k + 1, r, h => by
    have hr : r / n < n ^ k := Nat.div_lt_of_lt_mul (by rw [Nat.mul_comm, ← Nat.pow_succ]; exact h)
    have hx : r % n < n := Nat.mod_lt _ hn
    obtain ⟨t, h1, h2, h3, h4⟩ := iterT_get hn k (r / n) hr
    refine ⟨t ++ [((r % n : Nat) : Int)], ?_, by simp [h2], in_snoc h3 hx, ?_⟩
    · have := stepT_get (n := n) h1 hx
      rw [iterT]
      rwa [Nat.div_add_mod' r n] at this
    · unfold rkN at h4 ⊢
      rw [rkGo_append, h4]
      simp only [rkGo, Int.toNat_natCast]
      exact Nat.div_add_mod' r n
/-- Every tuple stands at its rank. -/
theorem rkGo_inj {n : Nat} : ∀ (a b : List Int) (r s : Nat), a.length = b.length → inB n a = true → inB n b = true → rkGo n a r = rkGo n b s → a = b ∧ r = s
  | [], [], r, s, _, _, _, h => ⟨rfl, h⟩
  | x :: a, y :: b, r, s, hl, ha, hb, h => by
    simp only [inB, List.all_cons, Bool.and_eq_true, Bool.not_eq_true', decide_eq_false_iff_not] at ha hb
    obtain ⟨e1, e2⟩ := rkGo_inj a b _ _ (by simpa using hl) (by unfold inB; simpa using ha.2) (by unfold inB; simpa using hb.2) h
    subst e1
    have hn : 0 < n := by omega
    have hx : x.toNat < n := by omega
    have hy : y.toNat < n := by omega
    have h1 : r = s := by
      have q1 : (r * n + x.toNat) / n = r := by rw [Nat.mul_comm, Nat.mul_add_div hn, Nat.div_eq_of_lt hx]; rfl
      have q2 : (s * n + y.toNat) / n = s := by rw [Nat.mul_comm, Nat.mul_add_div hn, Nat.div_eq_of_lt hy]; rfl
      rw [← q1, ← q2, e2]
    subst h1
    exact ⟨by congr 1; omega, rfl⟩
theorem rkN_inj {n : Nat} {a b : List Int} (hl : a.length = b.length) (ha : inB n a = true) (hb : inB n b = true) (h : rkN n a = rkN n b) : a = b := (rkGo_inj a b 0 0 hl ha hb h).1

theorem ref01_Tuples {n k : Nat} (hn : 1 ≤ n) (hk : k ≤ 12) (hc : n ^ k ≤ 4096) {h : Heap} {K : Out → Heap → Bool} (hK : ∀ x : Sl (Sl Int), x.l.map Sl.l = iterT n k → K (.ret (encSl encT 1 x)) h = true) : Sem Tryz.prog 35 [.int .i64 (n : Int), .int .i64 (k : Int)] h K := by
  have hm : maxBytes = 140737488355328 := rfl
  have main : Sem Tryz.prog 35 [.int .i64 (n : Int), .int .i64 (k : Int)] Heap.empty (fun o h' => yes (∃ v, ∃ x : Sl (Sl Int), o = .ret v ∧ x.l.map Sl.l = iterT n k ∧ Fz true h' v (encSl encT 1 x))) := by
    refine F.ref01_Tuples_sem ?_
    have r0 : rowS [] [] [] = some [] := rfl
    have r1 : ∀ p : PB, rowS [.nils] [(0, 1)] [.slice p.1 0 p.2.length 1] = some (encP p) := fun _ => rfl
    have r2 : ∀ x : Int, rowS [.int .i64 0] [(0, 1)] [.int .i64 x] = some [.int .i64 x] := fun _ => rfl
    have r1' : rowS [.nils] [(0, 1)] [.slice 0 0 0 1] = some (encP (0, [])) := rfl
    simp only [r0, bindO_some, next_empty, r1']
    have g0 : (Heap.alloc (Heap.alloc Heap.empty (.cells [])) (.cells (encP (0, [])))).get 0 = some (.cells []) := by simp [Heap.get_alloc, next_empty]
    have g1 : (Heap.alloc (Heap.alloc Heap.empty (.cells [])) (.cells (encP (0, [])))).get 1 = some (.cells (encP (0, []))) := by simp [Heap.get_alloc, next_empty]
    have gn : (Heap.alloc (Heap.alloc Heap.empty (.cells [])) (.cells (encP (0, [])))).next = 2 := rfl
    have ge : (Heap.alloc Heap.empty (.cells [])).next = 1 := rfl
    rw [ge]
    generalize (Heap.alloc (Heap.alloc Heap.empty (.cells [])) (.cells (encP (0, [])))) = H at g0 g1 gn ⊢
    have nest0 : Nest 0 H (.slice 1 0 1 1) [(0, [])] := ⟨.row 1 [(0, [])] (Nat.zero_le _) (by omega) (by simpa using g1), fun p hp => by
      rw [List.mem_singleton] at hp; subst hp; exact ⟨Nat.le_refl _, by show 0 < H.next; omega, by simp [blkOf], g0⟩⟩
    refine loopB_range 0 k (Nat.zero_le _) (fun i e h' => ∃ a ps, Nest 0 h' a ps ∧ ps.map (·.2) = iterT n i ∧ e 0 = .int .i64 (n : Int) ∧ e 1 = .int .i64 (k : Int) ∧ e 5 = a ∧ e 6 = .int .i64 (i : Int)) ⟨_, _, nest0, rfl, rfl, rfl, rfl, rfl⟩ ?_ ?_
    · rintro i e h' _ hi ⟨a, ps, nst, hps, e0, e1, e5, e6⟩ K' hn0 hx0 hr0 hp0
      have hpl : ps.length = n ^ i := by have := congrArg List.length hps; rwa [List.length_map, iterT_len] at this
      have hin : n ^ i * n ≤ 4096 := by rw [← Nat.pow_succ]; exact Nat.le_trans (pow_up hn hi) hc
      have hps4 : ps.length ≤ big := by unfold big; have := Nat.le_mul_of_pos_right (n ^ i) hn; omega
      rw [F.ref01_Tuples.L0_eq]
      simp only [e0, e1, e5, e6, bindO_some, bindO2_some, outK_ret, condB_bool, cond_t, cond_f, fa_ptr, fa_iptr, part_none, Nat.zero_add, Nat.add_zero, Nat.reduceAdd, List.getElem?_cons_zero, List.getElem?_cons_succ, len_str, lenS_enc, lss_int, leq_int, gtr_int, geq_int, eq_int, ne_int, eq_str, ne_str, eq_bool, ne_bool, not_bool, extract_0, extract_1, extract_2, setV_eq, Nat.reduceEqDiff, reduceIte, lt_true hi]
      refine loopB_range 0 ps.length (Nat.zero_le _) (fun j e h2 => HExt h' h2 ∧ ∃ c qs, Nest h'.next h2 c qs ∧ qs.map (·.2) = stepT n ((ps.map (·.2)).take j) ∧ e 0 = .int .i64 (n : Int) ∧ e 1 = .int .i64 (k : Int) ∧ e 5 = a ∧ e 6 = .int .i64 (i : Int) ∧ e 7 = c ∧ e 8 = .int .i64 (j : Int))
        ⟨HExt.refl _, _, _, .nil _ _, rfl, e0, e1, e5, e6, rfl, rfl⟩ ?_ ?_
      · rintro j e h2 _ hj ⟨hx2, c, qs, nst2, hqs, e0, e1, e5, e6, e7, e8⟩ K2 hn2 hx2' hr2 hp2
        have hpj : ps[j]? = some ps[j] := List.getElem?_eq_getElem hj
        generalize ps[j] = p at hpj
        have hpj2 : (ps.map (·.2))[j]? = some p.2 := by rw [List.getElem?_map, hpj]; rfl
        have hql : qs.length = j * n := by
          have := congrArg List.length hqs
          rw [List.length_map, stepT_len, List.length_take, List.length_map, Nat.min_eq_left (by omega)] at this; exact this
        have hjn : j * n + n ≤ 4096 := by
          have : (j + 1) * n ≤ ps.length * n := Nat.mul_le_mul_right n hj
          rw [hpl, Nat.succ_mul] at this; omega
        rw [F.ref01_Tuples.L1_eq]
        simp only [e5, e8, nst.own.len, bindO_some, bindO2_some, outK_ret, condB_bool, cond_t, cond_f, fa_ptr, fa_iptr, part_none, Nat.zero_add, Nat.add_zero, Nat.reduceAdd, List.getElem?_cons_zero, List.getElem?_cons_succ, len_str, lenS_enc, lss_int, leq_int, gtr_int, geq_int, eq_int, ne_int, eq_str, ne_str, eq_bool, ne_bool, not_bool, extract_0, extract_1, extract_2, setV_eq, Nat.reduceEqDiff, reduceIte, lt_true hj]
        refine loopB_range 0 n (Nat.zero_le _) (fun x e h3 => HExt h' h3 ∧ ∃ c qs, Nest h'.next h3 c qs ∧ qs.map (·.2) = stepT n ((ps.map (·.2)).take j) ++ (extT n p.2).take x ∧ e 0 = .int .i64 (n : Int) ∧ e 1 = .int .i64 (k : Int) ∧ e 5 = a ∧ e 6 = .int .i64 (i : Int) ∧ e 7 = c ∧ e 8 = .int .i64 (j : Int) ∧ e 9 = .int .i64 (x : Int))
          ⟨hx2, c, qs, nst2, by rw [List.take_zero, List.append_nil]; exact hqs, e0, e1, e5, e6, e7, e8, rfl⟩ ?_ ?_
        · rintro x e h3 _ hx ⟨hx3, c, qs, nst3, hqs3, e0, e1, e5, e6, e7, e8, e9⟩ K3 hn3 hx3' hr3 hp3
          have hql3 : qs.length = j * n + x := by
            have := congrArg List.length hqs3
            rw [List.length_map, List.length_append, stepT_len, List.length_take, List.length_map, Nat.min_eq_left (by omega), List.length_take, extT_len, Nat.min_eq_left (by omega)] at this; exact this
          obtain ⟨b, b1, b2, b3⟩ := nst.at_ hpj
          obtain ⟨p1, p2, p3, p4⟩ := nst.cell p (List.mem_of_getElem? hpj)
          have xa : HExt h' (h3.alloc (.cells [])) := hx3.trans (HExt.alloc _ _)
          have hrow : Row encI 1 (h3.alloc (.cells [])) (.slice p.1 0 p.2.length 1) p.2 := by
            have hg : (h3.alloc (.cells [])).get p.1 = some (.cells (p.2.map iv)) := by rw [xa.get _ p2]; exact p4
            refine ⟨rfl, ?_⟩
            simp only [firstS, hg, if_true]
            rw [if_pos (by simp), ← map_iv]
            simp only [List.drop_zero, Nat.mul_one]
            rw [List.take_of_length_le (by simp)]
          have hpk : p.2.length ≤ 1000000 := by
            have : p.2 ∈ iterT n i := by rw [← hps]; exact List.mem_map_of_mem (List.mem_of_getElem? hpj)
            obtain ⟨r, hr⟩ := List.getElem?_of_mem this
            have hlt : r < n ^ i := by have := (List.getElem?_eq_some_iff.1 hr).1; rwa [iterT_len] at this
            obtain ⟨t, q1, q2, _⟩ := iterT_get hn i r hlt
            rw [hr] at q1; cases q1; omega
          obtain ⟨b4, h4, a4, g4, x4, l4, m4⟩ := clone_tup hrow hpk
          obtain ⟨b5, h5, a5, g5, f5, l5, m5⟩ := push_tup (h := h4) g4 m4 hpk (x : Int)
          have x5 : HExt h3 h5 := ⟨by have := x4.next; omega, fun d hd => by rw [f5 d (by have := x4.next; omega) (by omega), x4.get d hd]⟩
          have nst5 := nst3.ext x5
          have hx5 : HExt h' h5 := hx3.trans x5
          obtain ⟨a6, h6, e6', nst6, n6, _, x6, _⟩ := nst5.push (by have := hx5.next; omega) (by rw [hm]; omega) (b5, p.2 ++ [(x : Int)]) (by have := x4.next; have := hx3.next; show h'.next ≤ b5; omega) m5 (fun hb => by have := nst3.own.lt hb; simp only at this; have := x4.next; omega) g5
          rw [F.ref01_Tuples.L2_eq]
          simp only [e0, e5, e7, e8, e9, bindO_some, bindO2_some, outK_ret, condB_bool, cond_t, cond_f, fa_ptr, fa_iptr, part_none, Nat.zero_add, Nat.add_zero, Nat.reduceAdd, List.getElem?_cons_zero, List.getElem?_cons_succ, len_str, lenS_enc, lss_int, leq_int, gtr_int, geq_int, eq_int, ne_int, eq_str, ne_str, eq_bool, ne_bool, not_bool, extract_0, extract_1, extract_2, setV_eq, Nat.reduceEqDiff, reduceIte, lt_true hx, r0, b1, b3 _ xa, a4, r2, a5, r1 (b5, p.2 ++ [(x : Int)]), e6', succ_i64 hx (show n ≤ big by unfold big; omega)]
          refine hn3 _ _ ⟨x6 _ hx5 (Nat.le_refl _), a6, _, nst6, ?_, e0, e1, e5, e6, rfl, e8, rfl⟩
          rw [List.map_append, hqs3, extT_take hx, List.append_assoc]; rfl
        · rintro e h3 ⟨hx3, c, qs, nst3, hqs3, e0, e1, e5, e6, e7, e8, e9⟩ K3 hx3'
          rw [F.ref01_Tuples.L2_eq]
          simp only [e0, e9, bindO_some, bindO2_some, outK_ret, condB_bool, cond_t, cond_f, fa_ptr, fa_iptr, part_none, Nat.zero_add, Nat.add_zero, Nat.reduceAdd, List.getElem?_cons_zero, List.getElem?_cons_succ, len_str, lenS_enc, lss_int, leq_int, gtr_int, geq_int, eq_int, ne_int, eq_str, ne_str, eq_bool, ne_bool, not_bool, extract_0, extract_1, extract_2, setV_eq, Nat.reduceEqDiff, reduceIte, lt_false]
          rw [hx3', F.ref01_Tuples.L2_x4_eq]
          simp only [bindO_some, bindO2_some, outK_ret, condB_bool, cond_t, cond_f, fa_ptr, fa_iptr, part_none, Nat.zero_add, Nat.add_zero, Nat.reduceAdd, List.getElem?_cons_zero, List.getElem?_cons_succ, len_str, lenS_enc, lss_int, leq_int, gtr_int, geq_int, eq_int, ne_int, eq_str, ne_str, eq_bool, ne_bool, not_bool, extract_0, extract_1, extract_2, setV_eq, Nat.reduceEqDiff, reduceIte, e8, succ_i64 hj hps4]
          refine hn2 _ _ ⟨hx3, c, qs, nst3, ?_, e0, e1, e5, e6, e7, rfl⟩
          rw [hqs3, stepT_take hpj2, List.take_of_length_le (l := extT n p.2) (by rw [extT_len]; exact Nat.le_refl _)]
      · rintro e h2 ⟨hx2, c, qs, nst2, hqs, e0, e1, e5, e6, e7, e8⟩ K2 hx2'
        rw [F.ref01_Tuples.L1_eq]
        simp only [e5, e8, nst.own.len, bindO_some, bindO2_some, outK_ret, condB_bool, cond_t, cond_f, fa_ptr, fa_iptr, part_none, Nat.zero_add, Nat.add_zero, Nat.reduceAdd, List.getElem?_cons_zero, List.getElem?_cons_succ, len_str, lenS_enc, lss_int, leq_int, gtr_int, geq_int, eq_int, ne_int, eq_str, ne_str, eq_bool, ne_bool, not_bool, extract_0, extract_1, extract_2, setV_eq, Nat.reduceEqDiff, reduceIte, lt_false]
        rw [hx2', F.ref01_Tuples.L1_x2_eq]
        simp only [bindO_some, bindO2_some, outK_ret, condB_bool, cond_t, cond_f, fa_ptr, fa_iptr, part_none, Nat.zero_add, Nat.add_zero, Nat.reduceAdd, List.getElem?_cons_zero, List.getElem?_cons_succ, len_str, lenS_enc, lss_int, leq_int, gtr_int, geq_int, eq_int, ne_int, eq_str, ne_str, eq_bool, ne_bool, not_bool, extract_0, extract_1, extract_2, setV_eq, Nat.reduceEqDiff, reduceIte, e6, e7, succ_i64 hi (show k ≤ big by unfold big; omega)]
        refine hn0 _ _ ⟨c, qs, ⟨nst2.own.weak (Nat.zero_le _), fun p hp => ?_⟩, ?_, e0, e1, rfl, rfl⟩
        · obtain ⟨q1, q2, q3, q4⟩ := nst2.cell p hp
          exact ⟨Nat.zero_le _, q2, q3, q4⟩
        · rw [hqs, List.take_of_length_le (by simp), hps]; rfl
    · rintro e h' ⟨a, ps, nst, hps, e0, e1, e5, e6⟩ K' hx0
      rw [F.ref01_Tuples.L0_eq]
      simp only [e1, e6, bindO_some, bindO2_some, outK_ret, condB_bool, cond_t, cond_f, fa_ptr, fa_iptr, part_none, Nat.zero_add, Nat.add_zero, Nat.reduceAdd, List.getElem?_cons_zero, List.getElem?_cons_succ, len_str, lenS_enc, lss_int, leq_int, gtr_int, geq_int, eq_int, ne_int, eq_str, ne_str, eq_bool, ne_bool, not_bool, extract_0, extract_1, extract_2, setV_eq, Nat.reduceEqDiff, reduceIte, lt_false]
      rw [hx0, F.ref01_Tuples.L0_x0_eq]
      simp only [setV_eq, Nat.reduceEqDiff, reduceIte, e5]
      obtain ⟨x, hx1, hx2⟩ := nst.frz (old := true)
      exact yes_eq.2 ⟨a, x, rfl, hx1.trans hps, hx2⟩
  refine main.frozen (by simp [AV.pureL, AV.pure]) fun o h' ho => ?_
  obtain ⟨v, x, rfl, hx, hf⟩ := yes_eq.1 ho
  exact ⟨v, _, rfl, hf, hK x hx⟩
end
end Go.AM
/- The reference's Equal, copied and Sorted. Conditions: none. -/
namespace Go.AM
open Go Go.Proofs
set_option linter.unusedVariables false
set_option linter.unusedSimpArgs false
noncomputable section

/-! ### Equal -/
theorem list_drop_eq {α : Type} [BEq α] [LawfulBEq α] {l m : List α} {i : Nat} {a b : α} (ha : l[i]? = some a) (hb : m[i]? = some b) : (l.drop i == m.drop i) = ((a == b) && (l.drop (i + 1) == m.drop (i + 1))) := by
  have h1 := (List.getElem?_eq_some_iff.1 ha).1
  have h2 := (List.getElem?_eq_some_iff.1 hb).1
  rw [List.drop_eq_getElem_cons h1, List.drop_eq_getElem_cons h2]
  rw [List.getElem?_eq_getElem h1] at ha
  rw [List.getElem?_eq_getElem h2] at hb
  cases ha; cases hb; rfl
theorem ref01_Equal {x y : Sl Int} (hx : x.l.length ≤ big) {h : Heap} {K : Out → Heap → Bool} (hK : K (.ret (.bool (x.l == y.l))) h = true) : Sem Tryz.prog 52 [encSl encI 1 x, encSl encI 1 y] h K := by
  refine F.ref01_Equal_sem ?_
  simp only [bindO_some, bindO2_some, outK_ret, condB_bool, cond_t, cond_f, fa_ptr, fa_iptr, part_none, Nat.zero_add, Nat.add_zero, Nat.reduceAdd, List.getElem?_cons_zero, List.getElem?_cons_succ, len_str, lenS_enc, lss_int, leq_int, gtr_int, geq_int, eq_int, ne_int, eq_str, ne_str, eq_bool, ne_bool, not_bool, extract_0, extract_1, extract_2, setV_eq, Nat.reduceEqDiff, reduceIte, int_beq]
  by_cases hl : x.l.length = y.l.length
  · simp only [decide_eq_true (by omega : (x.l.length : Int) = (y.l.length : Int)), Bool.not_true, cond_f]
    refine loopB_range 0 x.l.length (Nat.zero_le _) (fun i e h' => h' = h ∧ e 0 = encSl encI 1 x ∧ e 1 = encSl encI 1 y ∧ e 5 = .int .i64 (i : Int) ∧ (x.l == y.l) = (x.l.drop i == y.l.drop i)) ⟨rfl, rfl, rfl, rfl, rfl⟩ ?_ ?_
    · rintro i e h' _ hi ⟨rfl, e0, e1, e5, ht⟩ K' hn hx' hr hp
      have hi2 : i < y.l.length := by omega
      have hv : x.l[i]? = some x.l[i] := List.getElem?_eq_getElem hi
      have hw : y.l[i]? = some y.l[i] := List.getElem?_eq_getElem hi2
      rw [list_drop_eq hv hw] at ht
      generalize x.l[i] = a at hv ht
      generalize y.l[i] = b at hw ht
      rw [F.ref01_Equal.L0_eq]
      simp only [e0, e1, e5, bindO_some, bindO2_some, outK_ret, condB_bool, cond_t, cond_f, fa_ptr, fa_iptr, part_none, Nat.zero_add, Nat.add_zero, Nat.reduceAdd, List.getElem?_cons_zero, List.getElem?_cons_succ, len_str, lenS_enc, lss_int, leq_int, gtr_int, geq_int, eq_int, ne_int, eq_str, ne_str, eq_bool, ne_bool, not_bool, extract_0, extract_1, extract_2, setV_eq, Nat.reduceEqDiff, reduceIte, lt_true hi, iaS_enc x hi, iaS_enc y hi2, get_ints hv, get_ints hw]
      cases hq : a == b with
      | false =>
        simp only [Bool.not_false, cond_t]
        rw [hr, F.ref01_Equal.L0_r_eq]
        simp only [setV_eq, Nat.reduceEqDiff, reduceIte]
        rw [ht, hq] at hK; exact hK
      | true =>
        simp only [Bool.not_true, cond_f, succ_i64 hi hx, bindO_some]
        exact hn _ _ ⟨rfl, e0, e1, rfl, by rw [ht, hq, Bool.true_and]⟩
    · rintro e h' ⟨rfl, e0, e1, e5, ht⟩ K' hx'
      rw [F.ref01_Equal.L0_eq]
      simp only [e0, e5, bindO_some, bindO2_some, outK_ret, condB_bool, cond_t, cond_f, fa_ptr, fa_iptr, part_none, Nat.zero_add, Nat.add_zero, Nat.reduceAdd, List.getElem?_cons_zero, List.getElem?_cons_succ, len_str, lenS_enc, lss_int, leq_int, gtr_int, geq_int, eq_int, ne_int, eq_str, ne_str, eq_bool, ne_bool, not_bool, extract_0, extract_1, extract_2, setV_eq, Nat.reduceEqDiff, reduceIte, lt_false]
      rw [hx', F.ref01_Equal.L0_x0_eq]
      rw [List.drop_of_length_le (Nat.le_refl _), List.drop_of_length_le (by omega)] at ht
      rw [ht] at hK; exact hK
  · simp only [decide_eq_false (by omega : ¬ (x.l.length : Int) = (y.l.length : Int)), Bool.not_false, cond_t]
    have : (x.l == y.l) = false := by
      simp only [beq_eq_false_iff_ne]; exact fun e => hl (congrArg List.length e)
    rw [this] at hK; exact hK

/-! ### copied -/
theorem row_nils : rowS [.nils] [(0, 1)] [.nils] = some [.nils] := rfl
theorem row_empty : rowS [] [] [] = some [] := rfl
theorem row_P (p : PB) : rowS [.nils] [(0, 1)] [.slice p.1 0 p.2.length 1] = some (encP p) := rfl
theorem ref01_copied {x : Sl (Sl Int)} (hx : x.l.length ≤ 1000000) (ht : ∀ t ∈ x.l, t.l.length ≤ 1000000) {h : Heap} {K : Out → Heap → Bool} (hK : ∀ y : Sl (Sl Int), y.l.map Sl.l = x.l.map Sl.l → K (.ret (encSl encT 1 y)) h = true) : Sem Tryz.prog 96 [encSl encT 1 x] h K := by
  have hm : maxBytes = 140737488355328 := rfl
  have hbig : x.l.length ≤ big := by unfold big; omega
  have main : Sem Tryz.prog 96 [encSl encT 1 x] Heap.empty (fun o h' => yes (∃ v, ∃ y : Sl (Sl Int), o = .ret v ∧ y.l.map Sl.l = x.l.map Sl.l ∧ Fz true h' v (encSl encT 1 y))) := by
    refine F.ref01_copied_sem ?_
    refine loopB_range 0 x.l.length (Nat.zero_le _) (fun i e h' => ∃ a ps, Nest 0 h' a ps ∧ ps.map (·.2) = (x.l.take i).map Sl.l ∧ e 0 = encSl encT 1 x ∧ e 3 = a ∧ e 4 = .int .i64 (i : Int)) ⟨_, _, .nil _ _, rfl, rfl, rfl, rfl⟩ ?_ ?_
    · rintro i e h' _ hi ⟨a, ps, nst, hps, e0, e3, e4⟩ K' hn hx' hr hp
      have hv : x.l[i]? = some x.l[i] := List.getElem?_eq_getElem hi
      generalize x.l[i] = t at hv
      have htl := ht t (List.mem_of_getElem? hv)
      have hpl : ps.length = i := by have := congrArg List.length hps; rw [List.length_map, List.length_map, List.length_take, Nat.min_eq_left (by omega)] at this; exact this
      obtain ⟨b, h5, a5, g5, x5, l5, m5⟩ := clone_tup (row_enc len_encI t (h'.alloc (.cells []))) htl
      have nst5 := nst.ext x5
      obtain ⟨a6, h6, e6, nst6, _⟩ := nst5.push (Nat.zero_le _) (by rw [hm]; omega) (b, t.l) (Nat.zero_le _) m5 (fun hb => by have := nst.own.lt hb; simp only at this; omega) g5
      rw [F.ref01_copied.L0_eq]
      simp only [e0, e3, e4, bindO_some, bindO2_some, outK_ret, condB_bool, cond_t, cond_f, fa_ptr, fa_iptr, part_none, Nat.zero_add, Nat.add_zero, Nat.reduceAdd, List.getElem?_cons_zero, List.getElem?_cons_succ, len_str, lenS_enc, lss_int, leq_int, gtr_int, geq_int, eq_int, ne_int, eq_str, ne_str, eq_bool, ne_bool, not_bool, extract_0, extract_1, extract_2, setV_eq, Nat.reduceEqDiff, reduceIte, lt_true hi, row_empty, iaS_enc x hi, get_tup hv, a5, row_P (b, t.l), e6, succ_i64 hi hbig]
      exact hn _ _ ⟨_, _, nst6, by rw [List.map_append, hps, List.take_add_one, hv, List.map_append]; rfl, e0, rfl, rfl⟩
    · rintro e h' ⟨a, ps, nst, hps, e0, e3, e4⟩ K' hx'
      rw [F.ref01_copied.L0_eq]
      simp only [e0, e4, bindO_some, bindO2_some, outK_ret, condB_bool, cond_t, cond_f, fa_ptr, fa_iptr, part_none, Nat.zero_add, Nat.add_zero, Nat.reduceAdd, List.getElem?_cons_zero, List.getElem?_cons_succ, len_str, lenS_enc, lss_int, leq_int, gtr_int, geq_int, eq_int, ne_int, eq_str, ne_str, eq_bool, ne_bool, not_bool, extract_0, extract_1, extract_2, setV_eq, Nat.reduceEqDiff, reduceIte, lt_false]
      rw [hx', F.ref01_copied.L0_x0_eq]
      simp only [setV_eq, Nat.reduceEqDiff, reduceIte, e3]
      obtain ⟨y, hy1, hy2⟩ := nst.frz (old := true)
      exact yes_eq.2 ⟨a, y, rfl, by rw [hy1, hps, List.take_of_length_le (Nat.le_refl _)], hy2⟩
  refine main.frozen (by simp [AV.pureL, pure_encSl pure_encT]) fun o h' ho => ?_
  obtain ⟨v, y, rfl, hy, hf⟩ := yes_eq.1 ho
  exact ⟨v, _, rfl, hf, hK y hy⟩

theorem lessB_trans : ∀ {a b c : List Int}, lessB a b = true → lessB b c = true → lessB a c = true
  | x :: a, y :: b, z :: c, h1, h2 => by
    rw [lessB] at h1 h2 ⊢
    by_cases e1 : x = y
    · rw [if_pos e1] at h1
      subst e1
      by_cases e2 : x = z
      · rw [if_pos e2] at h2 ⊢; exact lessB_trans h1 h2
      · rw [if_neg e2] at h2 ⊢; exact h2
    · rw [if_neg e1] at h1
      have q1 := of_decide_eq_true h1
      by_cases e2 : y = z
      · subst e2; rw [if_neg e1]; exact h1
      · rw [if_neg e2] at h2
        have q2 := of_decide_eq_true h2
        rw [if_neg (by omega)]; exact decide_eq_true (by omega)
  | [], _, _, h1, _ => by simp [lessB] at h1
  | _ :: _, [], _, h1, _ => by simp [lessB] at h1
  | _ :: _, _ :: _, [], _, h2 => by simp [lessB] at h2
theorem lessB_tri : ∀ {a b : List Int}, a.length = b.length → lessB a b = false → a ≠ b → lessB b a = true
  | [], [], _, _, h => absurd rfl h
  | x :: a, y :: b, hl, h1, h2 => by
    rw [lessB] at h1 ⊢
    by_cases e : x = y
    · subst e
      rw [if_pos rfl] at h1 ⊢
      exact lessB_tri (by simpa using hl) h1 (fun h => h2 (by rw [h]))
    · rw [if_neg e] at h1
      rw [if_neg (Ne.symm e)]
      have := of_decide_eq_false h1
      exact decide_eq_true (by omega)
  | [], _ :: _, hl, _, _ => by simp at hl
  | _ :: _, [], hl, _, _ => by simp at hl
def SortT (l : List (List Int)) : Prop := l.Pairwise fun a b => lessB a b = true
theorem ins_sorted {l : List (List Int)} (hs : SortT l) {k : Nat} {x : List Int} (h1 : ∀ y ∈ l.drop k, lessB x y = true) (h2 : ∀ y ∈ l.take k, lessB y x = true) : SortT (l.take k ++ x :: l.drop k) := by
  have hs' : SortT (l.take k ++ l.drop k) := by rw [List.take_append_drop]; exact hs
  obtain ⟨p1, p2, p3⟩ := List.pairwise_append.1 hs'
  refine List.pairwise_append.2 ⟨p1, List.pairwise_cons.2 ⟨h1, p2⟩, fun a ha b hb => ?_⟩
  rcases List.mem_cons.1 hb with rfl | hb
  · exact h2 a ha
  · exact p3 a ha b hb
theorem ins_before {l : List (List Int)} (hs : SortT l) {k : Nat} {x y : List Int} (hy : l[k]? = some y) (h : lessB y x = true) : ∀ z ∈ l.take (k + 1), lessB z x = true := by
  intro z hz
  rw [List.take_add_one, hy] at hz
  rcases List.mem_append.1 hz with hz | hz
  · have hk := (List.getElem?_eq_some_iff.1 hy).1
    have hs' : SortT (l.take k ++ l.drop k) := by rw [List.take_append_drop]; exact hs
    have := (List.pairwise_append.1 hs').2.2 z hz y (by
      rw [List.drop_eq_getElem_cons hk]
      rw [List.getElem?_eq_getElem hk] at hy; cases hy
      exact List.mem_cons_self)
    exact lessB_trans this h
  · simp at hz; subst hz; exact h

/-! ### A row with a place made in it -/
theorem putL_eq : ∀ (new cs : List AV) (off : Nat), off + new.length ≤ cs.length → putL cs off new = cs.take off ++ new ++ cs.drop (off + new.length)
  | [], cs, off, _ => by simp [putL]
  | v :: vs, cs, off, h => by
    simp only [List.length_cons] at h
    rw [putL, putL_eq vs _ _ (by simp; omega)]
    have h1 : (cs.set off v).take (off + 1) = cs.take off ++ [v] := by
      rw [List.take_add_one, List.getElem?_set_self (by omega), List.take_set_of_le (Nat.le_refl _)]; rfl
    have h2 : (cs.set off v).drop (off + 1 + vs.length) = cs.drop (off + (v :: vs).length) := by
      rw [List.drop_set_of_lt (by omega)]; congr 1; simp; omega
    rw [h1, h2]; simp
def celP (p : PB) : AV := .slice p.1 0 p.2.length 1
theorem flat_P : ∀ ps : List PB, ps.flatMap encP = ps.map celP
  | [] => rfl
  | p :: ps => by rw [List.flatMap_cons, flat_P ps]; rfl
theorem one_celP : ∀ ps : List PB, oneAll (ps.map celP) = true
  | [] => rfl
  | p :: ps => by rw [List.map_cons, oneAll, one_celP ps]; rfl
theorem push_nil {k : Nat} {h : Heap} {a : AV} {ps : List PB} (n : Nest k h a ps) (hroom : ps.length ≤ 1000000) :
    ∃ h', appendS 1 24 a (.slice h.next 0 1 1) (h.alloc (.cells [.nils])) = some (.slice (h.next + 1) 0 (ps.length + 1) 1, h') ∧ h'.get (h.next + 1) = some (.cells (ps.map celP ++ [.nils])) ∧ h'.next = h.next + 2 ∧ ∀ c, c < h.next → blkOf a ≠ some c → h'.get c = h.get c := by
  have hm : maxBytes = 140737488355328 := rfl
  have g : (h.alloc (.cells [.nils])).get h.next = some (.cells [.nils]) := get_alloc_same _ _
  have hf : firstS 1 1 (.slice h.next 0 1 1) (h.alloc (.cells [.nils])) = some [.nils] := by simp [firstS, g]
  obtain ⟨o, _⟩ := n
  cases o with
  | nil =>
    refine ⟨(h.alloc (.cells [.nils])).alloc (.cells [.nils]), ?_, ?_, rfl, fun c hc _ => ?_⟩
    · simp only [appendS, lenA, hf]
      rw [if_neg (by decide), if_pos (by simp [oneAll, AV.one]; omega)]
      rfl
    · have := get_alloc_same (h.alloc (.cells [.nils])) (.cells [.nils])
      rwa [Heap.next_alloc] at this
    · rw [Heap.get_alloc, Heap.next_alloc, if_neg (by omega), Heap.get_alloc, if_neg (by omega)]
  | row b ps h1 h2 h3 =>
    rw [flat_P] at h3
    have g2 : (h.alloc (.cells [.nils])).get b = some (.cells (ps.map celP)) := by rw [Heap.get_alloc, if_neg (by omega)]; exact h3
    refine ⟨((h.alloc (.cells [.nils])).set b .dead).alloc (.cells (ps.map celP ++ [.nils])), ?_, ?_, ?_, fun c hc hb => ?_⟩
    · simp only [appendS, lenA, hf, if_true, g2]
      rw [if_neg (by decide), if_pos (by simp [oneAll, AV.one]; omega)]
      simp only [Heap.next_set, Heap.next_alloc, List.drop_zero, Nat.mul_one]
      rw [List.take_of_length_le (by simp)]
    · have := get_alloc_same ((h.alloc (.cells [.nils])).set b .dead) (.cells (ps.map celP ++ [.nils]))
      rwa [Heap.next_set, Heap.next_alloc] at this
    · rw [Heap.next_alloc, Heap.next_set, Heap.next_alloc]
    · rw [Heap.get_alloc, Heap.next_set, Heap.next_alloc, if_neg (by omega), Heap.get_set, if_neg (fun e => hb (by rw [e]; rfl)), Heap.get_alloc, if_neg (by omega)]
theorem ins_chain {k0 : Nat} {h : Heap} {a : AV} {ps : List PB} (n : Nest k0 h a ps) (hk0 : k0 ≤ h.next) (hroom : ps.length ≤ 1000000) {k : Nat} (hk : k ≤ ps.length) (t : Sl Int) (ht : t.l.length ≤ 1000000) :
    ∃ x22 h23 x25 x26 x27 h28 x32 h33 x34 h35 p, appendS 1 24 a (.slice h.next 0 1 1) (h.alloc (.cells [.nils])) = some (x22, h23) ∧
      (∀ q : IntKind, sliceS (some 1) x22 (some (.int q ((k + 1 : Nat) : Int))) none = some x25) ∧ (∀ q : IntKind, sliceS (some 1) x22 (some (.int q (k : Int))) none = some x26) ∧ copyS 1 x25 x26 h23 = some (x27, h28) ∧
      appendS 1 8 (.slice h28.next 0 0 1) (encSl encI 1 t) (h28.alloc (.cells [])) = some (x32, h33) ∧ (∀ q : IntKind, iaS 1 x22 (.int q (k : Int)) = some x34) ∧ storeS 1 x34 x32 h33 = some h35 ∧ p.2 = t.l ∧ Nest k0 h35 x22 (ps.take k ++ p :: ps.drop k) ∧ k0 ≤ h35.next := by
  obtain ⟨h1, a1, g1, n1, f1⟩ := push_nil n hroom
  have hc1 : (ps.map celP ++ [AV.nils]).length = ps.length + 1 := by simp
  have hs1 : ∀ q : IntKind, sliceS (some 1) (.slice (h.next + 1) 0 (ps.length + 1) 1) (some (.int q ((k + 1 : Nat) : Int))) none = some (.slice (h.next + 1) (k + 1) (ps.length - k) 1) := fun q => by
    have hh : ((k + 1 : Nat) : Int).toNat = k + 1 := rfl
    simp only [sliceS, lenA, boundS, asNat]
    rw [if_pos (by omega)]
    simp only [hh]
    rw [if_pos (by simp; omega)]
    simp
  have hs2 : ∀ q : IntKind, sliceS (some 1) (.slice (h.next + 1) 0 (ps.length + 1) 1) (some (.int q (k : Int))) none = some (.slice (h.next + 1) k (ps.length + 1 - k) 1) := fun q => by
    simp only [sliceS, lenA, boundS, asNat]
    rw [if_pos (by omega)]
    simp only [Int.toNat_natCast]
    rw [if_pos (by simp; omega)]
    simp
  have hmin : Nat.min (ps.length - k) (ps.length + 1 - k) = ps.length - k := Nat.min_eq_left (by omega)
  have hmin' : Nat.min (ps.length + 1 - k) (ps.length - k) = ps.length - k := Nat.min_eq_right (by omega)
  have hnew : ((ps.map celP ++ [AV.nils]).drop k).take (ps.length - k) = (ps.drop k).map celP := by
    rw [List.drop_append_of_le_length (by simp; omega), List.take_append_of_le_length (by simp), ← List.map_drop, List.take_of_length_le (by simp)]
  have hput : putL (ps.map celP ++ [AV.nils]) (k + 1) ((ps.drop k).map celP) = (ps.map celP ++ [AV.nils]).take (k + 1) ++ (ps.drop k).map celP := by
    have hl : (k + 1) + ((ps.drop k).map celP).length ≤ (ps.map celP ++ [AV.nils]).length := by simp; omega
    have hd : (ps.map celP ++ [AV.nils]).drop (k + 1 + ((ps.drop k).map celP).length) = [] := List.drop_of_length_le (by simp; omega)
    rw [putL_eq _ _ _ hl, hd, List.append_nil]
  have hcp : copyS 1 (.slice (h.next + 1) (k + 1) (ps.length - k) 1) (.slice (h.next + 1) k (ps.length + 1 - k) 1) h1 = some (.int .i64 ((ps.length - k : Nat) : Int), h1.set (h.next + 1) (.cells ((ps.map celP ++ [AV.nils]).take (k + 1) ++ (ps.drop k).map celP))) := by
    have hfs : firstS 1 (ps.length - k) (.slice (h.next + 1) k (ps.length + 1 - k) 1) h1 = some ((ps.drop k).map celP) := by
      simp only [firstS, g1, if_true, Nat.mul_one]
      rw [if_pos (by simp; omega), hnew]
    simp only [copyS, lenA, if_true, hmin, hmin', hfs, g1]
    rw [if_pos (by rw [Bool.and_eq_true, Bool.and_eq_true]; exact ⟨⟨one_celP _, decide_eq_true (by rw [hc1]; omega)⟩, decide_eq_true (by simp)⟩), hput]
  have hx : ∀ c, c < h.next → blkOf a ≠ some c → (h1.set (h.next + 1) (.cells ((ps.map celP ++ [AV.nils]).take (k + 1) ++ (ps.drop k).map celP))).get c = h.get c := fun c hc hb => by rw [Heap.get_set, if_neg (by omega)]; exact f1 c hc hb
  have g2 : (h1.set (h.next + 1) (.cells ((ps.map celP ++ [AV.nils]).take (k + 1) ++ (ps.drop k).map celP))).get (h.next + 1) = some (.cells ((ps.map celP ++ [AV.nils]).take (k + 1) ++ (ps.drop k).map celP)) := by rw [Heap.get_set, if_pos rfl]
  have n2 : (h1.set (h.next + 1) (.cells ((ps.map celP ++ [AV.nils]).take (k + 1) ++ (ps.drop k).map celP))).next = h.next + 2 := by rw [Heap.next_set]; exact n1
  generalize (h1.set (h.next + 1) (.cells ((ps.map celP ++ [AV.nils]).take (k + 1) ++ (ps.drop k).map celP))) = h2 at hcp hx g2 n2
  obtain ⟨b, h3, a3, g3, x3, l3, m3⟩ := clone_tup (row_enc len_encI t (h2.alloc (.cells []))) ht
  have g4 : h3.get (h.next + 1) = some (.cells ((ps.map celP ++ [AV.nils]).take (k + 1) ++ (ps.drop k).map celP)) := by rw [x3.get _ (by omega)]; exact g2
  have hset : ((ps.map celP ++ [AV.nils]).take (k + 1) ++ (ps.drop k).map celP).set k (.slice b 0 t.l.length 1) = (ps.take k ++ (b, t.l) :: ps.drop k).map celP := by
    have hlt : ((ps.map celP ++ [AV.nils]).take (k + 1)).length = k + 1 := by simp; omega
    have h5 : (ps.map celP ++ [AV.nils]).take (k + 1) = (ps.take k).map celP ++ [((ps.map celP ++ [AV.nils]).getD k AV.nils)] := by
      rw [List.take_add_one, List.take_append_of_le_length (by simp; omega), List.map_take]
      congr 1
      rw [List.getD_eq_getElem?_getD, List.getElem?_eq_getElem (by simp; omega)]; rfl
    rw [h5, List.append_assoc, List.set_append_right _ _ (by simp; omega)]
    have : k - ((ps.take k).map celP).length = 0 := by simp; omega
    rw [this]
    simp [celP]
  have hst : storeS 1 (.ptr (h.next + 1) (0 + k * 1)) (.slice b 0 t.l.length 1) h3 = some (h3.set (h.next + 1) (.cells ((ps.take k ++ (b, t.l) :: ps.drop k).map celP))) := by
    rw [store_ptr (n := 1) g4 rfl rfl (by simp; omega), Nat.zero_add, Nat.mul_one, ← hset]; rfl
  refine ⟨_, _, _, _, _, _, _, _, _, _, (b, t.l), a1, hs1, hs2, hcp, a3, fun q => ?_, hst, rfl, ⟨?_, fun p hp => ?_⟩, by rw [Heap.next_set]; have := x3.next; omega⟩
  · simp only [iaS, asNat]
    rw [if_pos (by omega)]
    simp only [Int.toNat_natCast]
    rw [if_pos (by simp; omega)]
  · have hlen : (ps.take k ++ (b, t.l) :: ps.drop k).length = ps.length + 1 := by simp; omega
    have := Own.row (enc := encP) (sz := 1) (k := k0) (h := h3.set (h.next + 1) (.cells ((ps.take k ++ (b, t.l) :: ps.drop k).map celP))) (h.next + 1) (ps.take k ++ (b, t.l) :: ps.drop k) (by omega) (by rw [Heap.next_set]; have := x3.next; omega) (by rw [Heap.get_set, if_pos rfl, flat_P])
    rwa [hlen] at this
  · have hq : (p ∈ ps) ∨ p = (b, t.l) := by
      rcases List.mem_append.1 hp with h5 | h5
      · exact .inl (List.mem_of_mem_take h5)
      · rcases List.mem_cons.1 h5 with h5 | h5
        · exact .inr h5
        · exact .inl (List.mem_of_mem_drop h5)
    rcases hq with hq | rfl
    · obtain ⟨c1, c2, c3, c4⟩ := n.cell p hq
      exact ⟨c1, by rw [Heap.next_set]; have := x3.next; omega, by simp only [blkOf, ne_eq, Option.some.injEq]; omega, by rw [Heap.get_set, if_neg (by omega), x3.get _ (by omega), hx _ c2 c3]; exact c4⟩
    · exact ⟨by show k0 ≤ b; omega, by rw [Heap.next_set]; exact m3, by simp only [blkOf, ne_eq, Option.some.injEq]; omega, by rw [Heap.get_set, if_neg (by show b ≠ _; omega)]; exact g3⟩
end
end Go.AM
/- The reference's Sorted, Copy and Put. Conditions: none. -/
namespace Go.AM
open Go Go.Proofs
set_option linter.unusedVariables false
set_option linter.unusedSimpArgs false
noncomputable section

theorem mem_ins {α : Type} {l : List α} {k : Nat} {x u : α} : u ∈ l.take k ++ x :: l.drop k ↔ u ∈ l ∨ u = x := by
  have : u ∈ l ↔ u ∈ l.take k ∨ u ∈ l.drop k := by rw [← List.mem_append, List.take_append_drop]
  rw [List.mem_append, List.mem_cons, this]
  constructor
  · rintro (h | h | h)
    · exact .inl (.inl h)
    · exact .inr h
    · exact .inl (.inr h)
  · rintro ((h | h) | h)
    · exact .inl h
    · exact .inr (.inr h)
    · exact .inr (.inl h)
theorem ref01_Sorted {x : Sl (Sl Int)} {m : Nat} (hx : x.l.length ≤ 100000) (ht : ∀ t ∈ x.l, t.l.length = m) (hm : m ≤ 1000000) :
    Sem Tryz.prog 86 [encSl encT 1 x] Heap.empty (fun o h' => yes (∃ v, ∃ y : Sl (Sl Int), o = .ret v ∧ SortT (y.l.map Sl.l) ∧ (∀ u, u ∈ y.l.map Sl.l ↔ u ∈ x.l.map Sl.l) ∧ Fz false h' v (encSl encT 1 y))) := by
  have hbig : x.l.length ≤ big := by unfold big; omega
  refine F.ref01_Sorted_sem ?_
  refine loopB_range 0 x.l.length (Nat.zero_le _) (fun i e h' => ∃ a ps, Nest 0 h' a ps ∧ SortT (ps.map (·.2)) ∧ (∀ u, u ∈ ps.map (·.2) ↔ u ∈ (x.l.take i).map Sl.l) ∧ ps.length ≤ i ∧ e 0 = encSl encT 1 x ∧ e 3 = a ∧ e 4 = .int .i64 (i : Int)) ⟨_, _, .nil _ _, List.Pairwise.nil, fun u => Iff.rfl, Nat.le_refl _, rfl, rfl, rfl⟩ ?_ ?_
  · rintro i e h' _ hi ⟨a, ps, nst, hso, hmem, hpl, e0, e3, e4⟩ K' hn hx' hr hp
    have hv : x.l[i]? = some x.l[i] := List.getElem?_eq_getElem hi
    generalize x.l[i] = t at hv
    have htl := ht t (List.mem_of_getElem? hv)
    have hpm : ∀ p ∈ ps, p.2.length = m := fun p hp => by
      have := (hmem p.2).1 (List.mem_map_of_mem hp)
      obtain ⟨u, hu, hue⟩ := List.mem_map.1 this
      rw [← hue]; exact ht u (List.mem_of_mem_take hu)
    have hstep : ∀ u, u ∈ (x.l.take (i + 1)).map Sl.l ↔ u ∈ (x.l.take i).map Sl.l ∨ u = t.l := fun u => by
      rw [List.take_add_one, hv, List.map_append, List.mem_append]; simp
    have done : ∀ k, k ≤ ps.length → (∀ y ∈ (ps.map (·.2)).drop k, lessB t.l y = true) → (∀ y ∈ (ps.map (·.2)).take k, lessB y t.l = true) → ∀ p : PB, p.2 = t.l → SortT ((ps.take k ++ p :: ps.drop k).map (·.2)) ∧ (∀ u, u ∈ (ps.take k ++ p :: ps.drop k).map (·.2) ↔ u ∈ (x.l.take (i + 1)).map Sl.l) ∧ (ps.take k ++ p :: ps.drop k).length ≤ i + 1 := by
      intro k hk h1 h2 p hp2
      have he : (ps.take k ++ p :: ps.drop k).map (·.2) = (ps.map (·.2)).take k ++ t.l :: (ps.map (·.2)).drop k := by rw [List.map_append, List.map_cons, hp2, List.map_take, List.map_drop]
      rw [he]
      refine ⟨ins_sorted hso h1 h2, fun u => ?_, by simp; omega⟩
      rw [mem_ins, hstep, hmem]
    rw [F.ref01_Sorted.L0_eq]
    simp only [e0, e3, e4, nst.own.len, bindO_some, bindO2_some, outK_ret, condB_bool, cond_t, cond_f, fa_ptr, fa_iptr, part_none, Nat.zero_add, Nat.add_zero, Nat.reduceAdd, List.getElem?_cons_zero, List.getElem?_cons_succ, len_str, lenS_enc, lss_int, leq_int, gtr_int, geq_int, eq_int, ne_int, eq_str, ne_str, eq_bool, ne_bool, not_bool, extract_0, extract_1, extract_2, setV_eq, Nat.reduceEqDiff, reduceIte, lt_true hi]
    refine loopB_rule (fun k e h2 => h2 = h' ∧ k ≤ ps.length ∧ (∀ y ∈ (ps.map (·.2)).drop k, lessB t.l y = true) ∧ e 0 = encSl encT 1 x ∧ e 3 = a ∧ e 4 = .int .i64 (i : Int) ∧ e 5 = .int .i64 (k : Int)) ps.length ⟨rfl, Nat.le_refl _, fun y hy => (by rw [List.drop_of_length_le (by simp)] at hy; cases hy), e0, e3, e4, rfl⟩ ?_
    rintro k e h2 ⟨rfl, hk, hdr, e0, e3, e4, e5⟩
    obtain ⟨x22, h23, x25, x26, x27, h28, x32, h33, x34, h35, p, c1, c2, c3, c4, c5, c6, c7, c8, c9, _⟩ := ins_chain nst (Nat.zero_le _) (by omega) hk t (by omega)
    have hk1 : binS .add (.int .i64 (k : Int)) (.int .i64 1) = some (.int .i64 ((k + 1 : Nat) : Int)) := succ_i64 (show k < k + 1 by omega) (show k + 1 ≤ big by unfold big; omega)
    rw [F.ref01_Sorted.L1_eq]
    cases k with
    | zero =>
      simp only [e5, gtr_int, bindO_some, condB_bool, show decide ((0 : Int) < ((0 : Nat) : Int)) = false from rfl, cond_f, loopK_exit]
      rw [F.ref01_Sorted.L1_x2_eq]
      simp only [setV_eq, Nat.reduceEqDiff, reduceIte, e0, e3, e4, e5, gtr_int, bindO_some, condB_bool, show decide ((0 : Int) < ((0 : Nat) : Int)) = false from rfl, cond_f, row_nils, c1, bindO2_some, hk1, c2, c3, c4, row_empty, iaS_enc x hi, get_tup hv, c5, c6, c7, succ_i64 hi hbig]
      obtain ⟨d1, d2, d3⟩ := done 0 hk hdr (fun y hy => (by rw [List.take_zero] at hy; cases hy)) p c8
      exact hn _ _ ⟨_, _, c9, d1, d2, d3, e0, rfl, rfl⟩
    | succ k =>
      have hk' : k < ps.length := by omega
      have hpk : ps[k]? = some ps[k] := List.getElem?_eq_getElem hk'
      generalize hq : ps[k] = q at hpk
      have hpk2 : (ps.map (·.2))[k]? = some q.2 := by rw [List.getElem?_map, hpk]; rfl
      have hqm := hpm q (List.mem_of_getElem? hpk)
      obtain ⟨b, b1, _, b3⟩ := nst.at_ hpk
      obtain ⟨_, _, _, q4⟩ := nst.cell q (List.mem_of_getElem? hpk)
      have hsub : binS .sub (.int .i64 ((k + 1 : Nat) : Int)) (.int .i64 1) = some (.int .i64 (k : Int)) := by
        rw [sub_i64 (by omega) (by omega)]; congr 2; omega
      have hpos : decide ((0 : Int) < ((k + 1 : Nat) : Int)) = true := decide_eq_true (by omega)
      simp only [e0, e3, e4, e5, gtr_int, bindO_some, condB_bool, hpos, cond_t, iaS_enc x hi, get_tup hv, hsub, b1, b3 h2 (HExt.refl _)]
      refine semCall_true (Sem.dataL (r := .bool (lessB t.l q.2)) rfl (ref01_Less (x := t) (y := some q.2) (by unfold big; omega) (by simp only [Sl.l_some]; omega) (frzK_same rfl)) (.cons (.of_pure (pure_encSl pure_encI t)) (.cons (fz_ints q4) .nil)) ?_)
      simp only [outK_ret, condB_bool]
      cases hl : lessB t.l q.2 with
      | true =>
        simp only [cond_t, e5, hsub, bindO_some]
        refine yes_eq.2 ⟨k, by omega, rfl, rfl, ⟨rfl, by omega, fun y hy => ?_, e0, e3, e4, rfl⟩⟩
        rw [List.drop_eq_getElem_cons (by simp; omega)] at hy
        rcases List.mem_cons.1 hy with rfl | hy
        · simp only [List.getElem_map, hq]; exact hl
        · exact hdr y hy
      | false =>
        simp only [cond_f, loopK_exit]
        rw [F.ref01_Sorted.L1_x2_eq]
        simp only [setV_eq, Nat.reduceEqDiff, reduceIte, e0, e3, e4, e5, gtr_int, bindO_some, condB_bool, hpos, cond_t, iaS_enc x hi, get_tup hv, hsub, b1, b3 h2 (HExt.refl _)]
        refine semCall_true (Sem.dataL (r := .bool (q.2 == t.l)) rfl (ref01_Equal (x := some q.2) (y := t) (by simp only [Sl.l_some]; unfold big; omega) (frzK_same rfl)) (.cons (fz_ints q4) (.cons (.of_pure (pure_encSl pure_encI t)) .nil)) ?_)
        simp only [outK_ret, condB_bool]
        cases he : q.2 == t.l with
        | true =>
          simp only [cond_t, setV_eq, Nat.reduceEqDiff, reduceIte, e4, succ_i64 hi hbig, bindO_some]
          refine hn _ _ ⟨a, ps, nst, hso, fun u => ?_, by omega, e0, e3, rfl⟩
          rw [hstep, hmem]
          refine ⟨.inl, fun h => h.elim id fun h => ?_⟩
          subst h
          rw [← hmem, ← (eq_of_beq he : q.2 = t.l)]
          exact List.mem_of_getElem? hpk2
        | false =>
          simp only [setV_eq, Nat.reduceEqDiff, reduceIte, e0, e3, e4, e5, bindO_some, cond_f, row_nils, c1, bindO2_some, hk1, c2, c3, c4, row_empty, iaS_enc x hi, get_tup hv, c5, c6, c7, succ_i64 hi hbig]
          have hne : t.l ≠ q.2 := fun h => by rw [h] at he; simp at he
          have hlt : lessB q.2 t.l = true := lessB_tri (by omega) hl hne
          obtain ⟨d1, d2, d3⟩ := done (k + 1) hk hdr (ins_before hso hpk2 hlt) p c8
          exact hn _ _ ⟨_, _, c9, d1, d2, d3, e0, rfl, rfl⟩
  · rintro e h' ⟨a, ps, nst, hso, hmem, hpl, e0, e3, e4⟩ K' hx'
    rw [F.ref01_Sorted.L0_eq]
    simp only [e0, e4, bindO_some, bindO2_some, outK_ret, condB_bool, cond_t, cond_f, fa_ptr, fa_iptr, part_none, Nat.zero_add, Nat.add_zero, Nat.reduceAdd, List.getElem?_cons_zero, List.getElem?_cons_succ, len_str, lenS_enc, lss_int, leq_int, gtr_int, geq_int, eq_int, ne_int, eq_str, ne_str, eq_bool, ne_bool, not_bool, extract_0, extract_1, extract_2, setV_eq, Nat.reduceEqDiff, reduceIte, lt_false]
    rw [hx', F.ref01_Sorted.L0_x0_eq]
    simp only [setV_eq, Nat.reduceEqDiff, reduceIte, e3]
    obtain ⟨y, hy1, hy2⟩ := nst.frz (old := false)
    refine yes_eq.2 ⟨a, y, rfl, by rw [hy1]; exact hso, fun u => ?_, hy2⟩
    rw [hy1, hmem, List.take_of_length_le (Nat.le_refl _)]
theorem ref01_Sorted_l {a : AV} {x : Sl (Sl Int)} {m : Nat} {h : Heap} (ha : Fz true h a (encSl encT 1 x)) (hx : x.l.length ≤ 100000) (ht : ∀ t ∈ x.l, t.l.length = m) (hm : m ≤ 1000000) {K : Out → Heap → Bool}
    (hK : ∀ y : Sl (Sl Int), SortT (y.l.map Sl.l) → (∀ u, u ∈ y.l.map Sl.l ↔ u ∈ x.l.map Sl.l) → K (.ret (encSl encT 1 y)) h = true) : Sem Tryz.prog 86 [a] h K :=
  (ref01_Sorted hx ht hm).lent (.cons ha .nil) fun o h' ho => by
    obtain ⟨v, y, rfl, h1, h2, h3⟩ := yes_eq.1 ho
    exact ⟨v, _, rfl, h3, hK y h1 h2⟩

/-! ### Copy -/
/-- What a relation says. -/
def datR (r : Rel) : Str × Int × List (List Int) := (r.name, r.arity, r.tuples.l.map Sl.l)
/-- Structures whose parts are small. -/
structure Strc.small (s : Strc) : Prop where
  rels : s.rels.l.length ≤ 1000
  tups : ∀ r ∈ s.rels.l, r.tuples.l.length ≤ 10000
  tup : ∀ r ∈ s.rels.l, ∀ t ∈ r.tuples.l, t.l.length ≤ 1000
theorem Strc.small.ok' {s : Strc} (hs : s.small) : s.rels.l.length ≤ big := by have := hs.rels; unfold big; omega
theorem agg_rel (nm : Str) (k : Int) (y : Sl (Sl Int)) : aggS [.str [], .int .i64 0, .nils] [(0, 1), (1, 1), (2, 1)] [.str nm, .int .i64 k, encSl encT 1 y] = some (.agg (encRel ⟨nm, k, y⟩)) := by cases y <;> rfl
theorem row_rel (r : Rel) : rowS [.str [], .int .i64 0, .nils] [(0, 3)] [.agg (encRel r)] = some (encRel r) := by
  obtain ⟨nm, k, y⟩ := r
  cases y <;> rfl
theorem copy_res (s : St) : resultL Tryz.prog s Tryz.f45.results.toList = (match loadS (some 2) (s.env 2) s.h, (some [] : Option (List AV)) with | some v, some vs => some (v :: vs) | _, _ => none) := by kernel_rfl
theorem put_res (s : St) : resultL Tryz.prog s Tryz.f36.results.toList = (match loadS (some 2) (s.env 8) s.h, (some [] : Option (List AV)) with | some v, some vs => some (v :: vs) | _, _ => none) := by kernel_rfl
theorem ref01_Copy {s : Strc} (hs : s.small) {h : Heap} {K : Out → Heap → Bool} (hK : ∀ a h' rs, HExt h h' → Own encRel 3 h.next h' a rs → rs.map datR = s.rels.l.map datR → K (.ret (.agg [.int .i64 s.size, a])) h' = true) : Sem Tryz.prog 45 [.agg (encStrc s)] h K := by
  have hm : maxBytes = 140737488355328 := rfl
  refine F.ref01_Copy_sem ?_
  simp only [box_agg (one_encStrc s), bindO_some, Heap.next_alloc]
  have g0 : (Heap.alloc (Heap.alloc h (.cells (encStrc s))) (.cells [.int .i64 0, .nils])).get h.next = some (.cells (encStrc s)) := by rw [Heap.get_alloc, Heap.next_alloc, if_neg (by omega)]; exact get_alloc_same _ _
  have g1 : (Heap.alloc (Heap.alloc h (.cells (encStrc s))) (.cells [.int .i64 0, .nils])).get (h.next + 1) = some (.cells [.int .i64 0, .nils]) := get_alloc_same _ _
  have gn : (Heap.alloc (Heap.alloc h (.cells (encStrc s))) (.cells [.int .i64 0, .nils])).next = h.next + 2 := rfl
  have gx : HExt h (Heap.alloc (Heap.alloc h (.cells (encStrc s))) (.cells [.int .i64 0, .nils])) := (HExt.alloc _ _).trans (HExt.alloc _ _)
  generalize (Heap.alloc (Heap.alloc h (.cells (encStrc s))) (.cells [.int .i64 0, .nils])) = H1 at g0 g1 gn gx ⊢
  have lz : loadS none (.ptr h.next 0) H1 = some (.int .i64 s.size) := by rw [load_ptr g0]; rfl
  have ha : aggS [.int .i64 0, .nils] [(0, 1)] [.int .i64 s.size] = some (.agg [.int .i64 s.size, .nils]) := rfl
  obtain ⟨H2, hs2, p2, po, pn⟩ := store_new (h := H1) (zs := [.int .i64 0, .nils]) (cs := [.int .i64 s.size, .nils]) (n := 2) rfl rfl rfl
  rw [gn] at p2 po pn hs2
  have p0 : H2.get h.next = some (.cells (encStrc s)) := by rw [po _ (by omega)]; exact g0
  have p1 : H2.get (h.next + 1) = some (.cells [.int .i64 0, .nils]) := by rw [po _ (by omega)]; exact g1
  have px : HExt h H2 := ⟨by omega, fun b hb => by rw [po _ (by omega)]; exact gx.get b hb⟩
  simp only [bindO_some, bindO2_some, outK_ret, condB_bool, cond_t, cond_f, fa_ptr, fa_iptr, part_none, Nat.zero_add, Nat.add_zero, Nat.reduceAdd, List.getElem?_cons_zero, List.getElem?_cons_succ, len_str, lenS_enc, lss_int, leq_int, gtr_int, geq_int, eq_int, ne_int, eq_str, ne_str, eq_bool, ne_bool, not_bool, extract_0, extract_1, extract_2, setV_eq, Nat.reduceEqDiff, reduceIte, lz, ha, gn, hs2]
  refine loopB_range 0 s.rels.l.length (Nat.zero_le _) (fun i e h' => ∃ a rs, h'.get h.next = some (.cells (encStrc s)) ∧ h'.get (h.next + 1) = some (.cells [.int .i64 0, .nils]) ∧ h'.get (h.next + 2) = some (.cells [.int .i64 s.size, a]) ∧ Own encRel 3 (h.next + 3) h' a rs ∧ rs.map datR = (s.rels.l.take i).map datR ∧ HExt h h' ∧ h.next + 3 ≤ h'.next ∧
    e 1 = .ptr h.next 0 ∧ e 2 = .ptr (h.next + 1) 0 ∧ e 3 = .ptr (h.next + 2) 0 ∧ e 4 = .int .i64 (i : Int)) ⟨_, [], p0, p1, p2, .nil, rfl, px, by omega, rfl, rfl, rfl, rfl⟩ ?_ ?_
  · rintro i e h' _ hi ⟨a, rs, q0, q1, q2, o, hrs, qx, qn, e1, e2, e3, e4⟩ K' hn hx' hr hp
    have hv : s.rels.l[i]? = some s.rels.l[i] := List.getElem?_eq_getElem hi
    generalize s.rels.l[i] = r at hv
    have hrm := List.mem_of_getElem? hv
    have lr : loadS none (.ptr h.next 1) h' = some (encSl encRel 3 s.rels) := by rw [load_ptr q0]; rfl
    have lo : loadS none (.ptr (h.next + 2) 1) h' = some a := by rw [load_ptr q2]; rfl
    have hrl : rs.length = i := by have := congrArg List.length hrs; rw [List.length_map, List.length_map, List.length_take, Nat.min_eq_left (by omega)] at this; exact this
    rw [F.ref01_Copy.L0_eq]
    simp only [e1, e3, e4, bindO_some, bindO2_some, outK_ret, condB_bool, cond_t, cond_f, fa_ptr, fa_iptr, part_none, Nat.zero_add, Nat.add_zero, Nat.reduceAdd, List.getElem?_cons_zero, List.getElem?_cons_succ, len_str, lenS_enc, lss_int, leq_int, gtr_int, geq_int, eq_int, ne_int, eq_str, ne_str, eq_bool, ne_bool, not_bool, extract_0, extract_1, extract_2, setV_eq, Nat.reduceEqDiff, reduceIte, lr, lo, lt_true hi, iaS_enc s.rels hi, get_name hv, get_arity hv, get_tups hv]
    refine semCall_true (ref01_copied (by have := hs.tups r hrm; omega) (fun t ht => by have := hs.tup r hrm t ht; omega) fun y hy => ?_)
    obtain ⟨a5, h5, p5, o5, f5, n5, x5, b5⟩ := o.push len_encRel one_encRel (by omega) (bytes := 48) (by have := hs.rels; rw [hm]; omega) ⟨r.name, r.arity, y⟩
    have hne : blkOf a ≠ some (h.next + 2) := fun hb => by have := o.ge hb; omega
    have s2 : h5.get (h.next + 2) = some (.cells [.int .i64 s.size, a]) := by rw [f5 _ (by omega) hne]; exact q2
    have c5 := o5.cells1
    have st : storeS 1 (.ptr (h.next + 2) 1) a5 h5 = some (h5.set (h.next + 2) (.cells [.int .i64 s.size, a5])) := by
      rw [store_ptr (n := 1) s2 c5.2.1 c5.1 (by simp), c5.2.2]; rfl
    simp only [outK_ret, lr, lo, get_name hv, get_arity hv, bindO_some, AV.beq_refl, Bool.and_self, if_true, agg_rel, row_rel, p5, bindO2_some, e3, e4, fa_ptr, Nat.zero_add, st, succ_i64 hi hs.ok']
    refine hn _ _ ⟨a5, rs ++ [⟨r.name, r.arity, y⟩], ?_, ?_, ?_, o5.setLow (by omega) _, ?_, ?_, by rw [Heap.next_set]; omega, e1, e2, e3, rfl⟩
    · rw [Heap.get_set, if_neg (by omega), f5 _ (by omega) (fun hb => by have := o.ge hb; omega)]; exact q0
    · rw [Heap.get_set, if_neg (by omega), f5 _ (by omega) (fun hb => by have := o.ge hb; omega)]; exact q1
    · rw [Heap.get_set, if_pos rfl]
    · rw [List.map_append, hrs, List.take_add_one, hv, List.map_append]
      simp [datR, hy]
    · exact (x5 h qx (by omega)).set (by omega) _
  · rintro e h' ⟨a, rs, q0, q1, q2, o, hrs, qx, qn, e1, e2, e3, e4⟩ K' hx'
    have lr : loadS none (.ptr h.next 1) h' = some (encSl encRel 3 s.rels) := by rw [load_ptr q0]; rfl
    have lo : loadS (some 2) (.ptr (h.next + 2) 0) h' = some (.agg [.int .i64 s.size, a]) := by rw [load_ptr q2]; rfl
    have c := o.cells1
    have one2 : oneAll [.int .i64 s.size, a] = true := by
      have := c.1; rw [c.2.2] at this; simp only [oneAll, Bool.and_true] at this ⊢; rw [this]; rfl
    have st : storeS 2 (.ptr (h.next + 1) 0) (.agg [.int .i64 s.size, a]) h' = some (h'.set (h.next + 1) (.cells [.int .i64 s.size, a])) := by
      rw [store_ptr (n := 2) (v := .agg [.int .i64 s.size, a]) q1 rfl one2 (by simp)]; rfl
    have lo2 : loadS (some 2) (.ptr (h.next + 1) 0) (h'.set (h.next + 1) (.cells [.int .i64 s.size, a])) = some (.agg [.int .i64 s.size, a]) := by rw [load_ptr (cs := [.int .i64 s.size, a]) (by rw [Heap.get_set, if_pos rfl])]; rfl
    rw [F.ref01_Copy.L0_eq]
    simp only [e1, e4, bindO_some, bindO2_some, outK_ret, condB_bool, cond_t, cond_f, fa_ptr, fa_iptr, part_none, Nat.zero_add, Nat.add_zero, Nat.reduceAdd, List.getElem?_cons_zero, List.getElem?_cons_succ, len_str, lenS_enc, lss_int, leq_int, gtr_int, geq_int, eq_int, ne_int, eq_str, ne_str, eq_bool, ne_bool, not_bool, extract_0, extract_1, extract_2, setV_eq, Nat.reduceEqDiff, reduceIte, lr, lt_false]
    rw [hx', F.ref01_Copy.L0_x0_eq]
    simp only [setV_eq, Nat.reduceEqDiff, reduceIte, e2, e3, lo, st, bindO_some, copy_res, lo2, oneOf]
    rw [List.take_of_length_le (Nat.le_refl _)] at hrs
    exact hK a _ rs (qx.set (by omega) _) ((o.setLow (by omega) _).weak (by omega)) hrs

/-! ### Put -/
theorem flat_set {α : Type} {enc : α → List AV} {sz : Nat} (he : ∀ a, (enc a).length = sz) : ∀ {l : List α} {i m : Nat} {a a' : α} {v : AV}, l[i]? = some a → m < sz → enc a' = (enc a).set m v → (l.flatMap enc).set (i * sz + m) v = (l.set i a').flatMap enc
  | [], i, m, a, a', v, h, _, _ => by simp at h
  | b :: l, 0, m, a, a', v, h, hm, hv => by
    simp at h; subst h
    rw [List.flatMap_cons, Nat.zero_mul, Nat.zero_add, List.set_append_left _ _ (by rw [he]; exact hm), ← hv]; rfl
  | b :: l, i + 1, m, a, a', v, h, hm, hv => by
    rw [List.flatMap_cons, List.set_append_right _ _ (by rw [he, Nat.succ_mul]; omega), he]
    have : (i + 1) * sz + m - sz = i * sz + m := by rw [Nat.succ_mul]; omega
    rw [this, flat_set he (l := l) (a' := a') (by simpa using h) hm hv]; rfl
theorem Own.store {α : Type} {enc : α → List AV} {sz k : Nat} {h : Heap} {a : AV} {l : List α} (o : Own enc sz k h a l) (he : ∀ x, (enc x).length = sz) {i m : Nat} {x x' : α} {v : AV} (hx : l[i]? = some x) (hm : m < sz) (hv : enc x' = (enc x).set m v) (h1 : v.cellsL = [v]) (h2 : oneAll [v] = true) :
    ∃ b h', (∀ q : IntKind, iaS sz a (.int q (i : Int)) = some (.ptr b (i * sz))) ∧ storeS 1 (.ptr b (i * sz + m)) v h = some h' ∧ Own enc sz k h' a (l.set i x') ∧ h'.next = h.next ∧ k ≤ b ∧ ∀ c, c ≠ b → h'.get c = h.get c := by
  cases o with
  | nil => simp at hx
  | row b l g1 g2 g3 =>
    have hi := (List.getElem?_eq_some_iff.1 hx).1
    have hlen : (l.flatMap enc).length = l.length * sz := len_flatMap he l
    have hle : i * sz + m + 1 ≤ (l.flatMap enc).length := by
      rw [hlen]
      have : (i + 1) * sz ≤ l.length * sz := Nat.mul_le_mul_right sz hi
      rw [Nat.succ_mul] at this; omega
    refine ⟨b, h.set b (.cells ((l.set i x').flatMap enc)), fun q => by simp [iaS, asNat, hi], ?_, ?_, Heap.next_set _ _ _, g1, fun c hc => by rw [Heap.get_set, if_neg hc]⟩
    · rw [store_ptr (n := 1) g3 (by rw [h1]; rfl) (by rw [h1]; exact h2) hle, h1, ← flat_set he hx hm hv]; rfl
    · have := Own.row (enc := enc) (sz := sz) (k := k) (h := h.set b (.cells ((l.set i x').flatMap enc))) b (l.set i x') g1 (by rw [Heap.next_set]; exact g2) (by rw [Heap.get_set, if_pos rfl])
      rwa [List.length_set] at this
structure PutR (s : Strc) (j : Nat) (r : Rel) (t : List Int) (is : Bool) (s' : Strc) : Prop where
  size : s'.size = s.size
  rels : ∃ ts, SortT ts ∧ (∀ u, u ∈ ts ↔ (u ∈ r.tuples.l.map Sl.l ∧ u ≠ t) ∨ (is = true ∧ u = t)) ∧ s'.rels.l.map datR = (s.rels.l.map datR).set j (r.name, r.arity, ts)
theorem one_encT (t : Sl Int) : oneAll (encT t) = true := by cases t <;> rfl
theorem row_T (t : Sl Int) : rowS [.nils] [(0, 1)] [encSl encI 1 t] = some (encT t) := by cases t <;> rfl
theorem ref01_Put {s : Strc} {nm : Str} {j : Nat} {r : Rel} {t : Sl Int} {is : Bool} (hok : s.ok) (hs : s.small) (hj : whereI (namedB nm) s.rels.l = (j : Int)) (hr : s.rels.l[j]? = some r) (hlen : ∀ u ∈ r.tuples.l, u.l.length = t.l.length) (ht : t.l.length ≤ 1000)
    {h : Heap} {K : Out → Heap → Bool} (hK : ∀ s', PutR s j r t.l is s' → K (.ret (.agg (encStrc s'))) h = true) : Sem Tryz.prog 36 [.agg (encStrc s), .str nm, encSl encI 1 t, .bool is] h K := by
  have hm : maxBytes = 140737488355328 := rfl
  have hrm := List.mem_of_getElem? hr
  have hrt := hs.tups r hrm
  have hjl : j < s.rels.l.length := (List.getElem?_eq_some_iff.1 hr).1
  have main : Sem Tryz.prog 36 [.agg (encStrc s), .str nm, encSl encI 1 t, .bool is] Heap.empty (fun o h' => yes (∃ v s', o = .ret v ∧ PutR s j r t.l is s' ∧ Fz true h' v (.agg (encStrc s')))) := by
    refine F.ref01_Put_sem ?_
    simp only [box_agg (one_encStrc s), bindO_some, Heap.next_alloc, next_empty]
    have g0 : (Heap.alloc (Heap.alloc Heap.empty (.cells (encStrc s))) (.cells [.int .i64 0, .nils])).get 0 = some (.cells (encStrc s)) := by simp [Heap.get_alloc, next_empty]
    have g1 : (Heap.alloc (Heap.alloc Heap.empty (.cells (encStrc s))) (.cells [.int .i64 0, .nils])).get 1 = some (.cells [.int .i64 0, .nils]) := by simp [Heap.get_alloc, next_empty]
    have gn : (Heap.alloc (Heap.alloc Heap.empty (.cells (encStrc s))) (.cells [.int .i64 0, .nils])).next = 2 := rfl
    generalize (Heap.alloc (Heap.alloc Heap.empty (.cells (encStrc s))) (.cells [.int .i64 0, .nils])) = H1 at g0 g1 gn ⊢
    have l0 : loadS (some 2) (.ptr 0 0) H1 = some (.agg (encStrc s)) := by rw [load_ptr g0, part_whole (cs := encStrc s) (n := 2) rfl]
    simp only [l0, bindO_some]
    refine semCall_true (ref01_Copy hs fun a h3 rs hx3 o hrs => ?_)
    have hrl : rs.length = s.rels.l.length := by have := congrArg List.length hrs; simpa using this
    have c := o.cells1
    have one2 : oneAll [.int .i64 s.size, a] = true := by
      have := c.1; rw [c.2.2] at this; simp only [oneAll, Bool.and_true] at this ⊢; rw [this]; rfl
    obtain ⟨h6, hs6, p6, po, pn⟩ := store_new (h := h3) (zs := [.int .i64 0, .nils]) (cs := [.int .i64 s.size, a]) (n := 2) rfl rfl one2
    have hn3 := hx3.next
    rw [gn] at hn3 o
    have x6 : HExt h3 h6 := ⟨by omega, fun b hb => po b (by omega)⟩
    have q0 : h6.get 0 = some (.cells (encStrc s)) := by rw [x6.get _ (by omega), hx3.get _ (by omega)]; exact g0
    have q1 : h6.get 1 = some (.cells [.int .i64 0, .nils]) := by rw [x6.get _ (by omega), hx3.get _ (by omega)]; exact g1
    have l6 : loadS (some 2) (.ptr 0 0) h6 = some (.agg (encStrc s)) := by rw [load_ptr q0, part_whole (cs := encStrc s) (n := 2) rfl]
    have o6 := o.ext x6
    simp only [outK_ret, hs6, l6, bindO_some]
    refine semCall_true (ref01_Find hok ?_)
    simp only [outK_ret, hj]
    refine loopB_range 0 r.tuples.l.length (Nat.zero_le _) (fun i e h' => ∃ b us, Own encT 1 h6.next h' b us ∧ (∀ u, u ∈ us.map Sl.l ↔ u ∈ (r.tuples.l.take i).map Sl.l ∧ u ≠ t.l) ∧ us.length ≤ i ∧ HExt h6 h' ∧
      e 2 = encSl encI 1 t ∧ e 3 = .bool is ∧ e 4 = .ptr 0 0 ∧ e 8 = .ptr 1 0 ∧ e 9 = .ptr h3.next 0 ∧ e 10 = .int .i64 (j : Int) ∧ e 11 = b ∧ e 12 = .int .i64 (i : Int))
      ⟨_, [], .nil, fun u => by simp, Nat.le_refl _, HExt.refl _, rfl, rfl, rfl, rfl, rfl, rfl, rfl, rfl⟩ ?_ ?_
    · rintro i e h' _ hi ⟨b, us, ob, hus, hul, hx', e2, e3, e4, e8, e9, e10, e11, e12⟩ K' hn hxx hrr hp
      have hv : r.tuples.l[i]? = some r.tuples.l[i] := List.getElem?_eq_getElem hi
      generalize r.tuples.l[i] = w at hv
      have lr : loadS none (.ptr 0 1) h' = some (encSl encRel 3 s.rels) := by rw [load_ptr (cs := encStrc s) (by rw [hx'.get _ (by omega)]; exact q0)]; rfl
      have hstep : ∀ u, u ∈ (r.tuples.l.take (i + 1)).map Sl.l ↔ u ∈ (r.tuples.l.take i).map Sl.l ∨ u = w.l := fun u => by
        rw [List.take_add_one, hv, List.map_append, List.mem_append]; simp
      rw [F.ref01_Put.L0_eq]
      simp only [e2, e4, e10, e12, bindO_some, bindO2_some, outK_ret, condB_bool, cond_t, cond_f, fa_ptr, fa_iptr, part_none, Nat.zero_add, Nat.add_zero, Nat.reduceAdd, List.getElem?_cons_zero, List.getElem?_cons_succ, len_str, lenS_enc, lss_int, leq_int, gtr_int, geq_int, eq_int, ne_int, eq_str, ne_str, eq_bool, ne_bool, not_bool, extract_0, extract_1, extract_2, setV_eq, Nat.reduceEqDiff, reduceIte, lr, iaS_enc s.rels hjl, get_tups hr, lt_true hi, iaS_enc r.tuples hi, get_tup hv]
      refine semCall_true (ref01_Equal (by have := hs.tup r hrm w (List.mem_of_getElem? hv); unfold big; omega) ?_)
      simp only [bindO_some, bindO2_some, outK_ret, condB_bool, cond_t, cond_f, fa_ptr, fa_iptr, part_none, Nat.zero_add, Nat.add_zero, Nat.reduceAdd, List.getElem?_cons_zero, List.getElem?_cons_succ, len_str, lenS_enc, lss_int, leq_int, gtr_int, geq_int, eq_int, ne_int, eq_str, ne_str, eq_bool, ne_bool, not_bool, extract_0, extract_1, extract_2, setV_eq, Nat.reduceEqDiff, reduceIte]
      cases hq : w.l == t.l with
      | true =>
        simp only [Bool.not_true, cond_f, e12, succ_i64 hi (show r.tuples.l.length ≤ big by unfold big; omega), bindO_some]
        refine hn _ _ ⟨b, us, ob, fun u => ?_, by omega, hx', e2, e3, e4, e8, e9, e10, e11, rfl⟩
        rw [hstep, hus]
        refine ⟨fun h => ⟨.inl h.1, h.2⟩, fun h => ⟨h.1.elim id fun e => absurd (e.trans (eq_of_beq hq)) h.2, h.2⟩⟩
      | false =>
        obtain ⟨a5, h5, p5, o5, f5, n5, x5, b5⟩ := ob.push len_encT one_encT hx'.next (bytes := 24) (by rw [hm]; omega) w
        simp only [Bool.not_false, cond_t, e4, e10, e11, e12, bindO_some, bindO2_some, outK_ret, condB_bool, cond_t, cond_f, fa_ptr, fa_iptr, part_none, Nat.zero_add, Nat.add_zero, Nat.reduceAdd, List.getElem?_cons_zero, List.getElem?_cons_succ, len_str, lenS_enc, lss_int, leq_int, gtr_int, geq_int, eq_int, ne_int, eq_str, ne_str, eq_bool, ne_bool, not_bool, extract_0, extract_1, extract_2, setV_eq, Nat.reduceEqDiff, reduceIte, lr, iaS_enc s.rels hjl, get_tups hr, iaS_enc r.tuples hi, get_tup hv, row_T, p5, succ_i64 hi (show r.tuples.l.length ≤ big by unfold big; omega)]
        refine hn _ _ ⟨a5, _, o5, fun u => ?_, by simp; omega, x5 _ hx' (Nat.le_refl _), e2, e3, e4, e8, e9, e10, rfl, rfl⟩
        rw [List.map_append, List.mem_append, hstep, hus]
        have hne : w.l ≠ t.l := fun e => by rw [e] at hq; simp at hq
        constructor
        · rintro (h | h)
          · exact ⟨.inl h.1, h.2⟩
          · simp at h; subst h; exact ⟨.inr rfl, hne⟩
        · rintro ⟨h | h, h2⟩
          · exact .inl ⟨h, h2⟩
          · subst h; exact .inr (by simp)
    · rintro e h' ⟨b, us, ob, hus, hul, hx', e2, e3, e4, e8, e9, e10, e11, e12⟩ K' hxx
      have lr : loadS none (.ptr 0 1) h' = some (encSl encRel 3 s.rels) := by rw [load_ptr (cs := encStrc s) (by rw [hx'.get _ (by omega)]; exact q0)]; rfl
      rw [F.ref01_Put.L0_eq]
      simp only [e4, e10, e12, bindO_some, bindO2_some, outK_ret, condB_bool, cond_t, cond_f, fa_ptr, fa_iptr, part_none, Nat.zero_add, Nat.add_zero, Nat.reduceAdd, List.getElem?_cons_zero, List.getElem?_cons_succ, len_str, lenS_enc, lss_int, leq_int, gtr_int, geq_int, eq_int, ne_int, eq_str, ne_str, eq_bool, ne_bool, not_bool, extract_0, extract_1, extract_2, setV_eq, Nat.reduceEqDiff, reduceIte, lr, iaS_enc s.rels hjl, get_tups hr, lt_false]
      rw [hxx, F.ref01_Put.L0_x0_eq]
      rw [List.take_of_length_le (Nat.le_refl _)] at hus
      -- what follows once the row is there
      have fin : ∀ (vs : List (Sl Int)) (d : AV) (hh : Heap), Own encT 1 h6.next hh d vs → HExt h6 hh → (∀ u, u ∈ vs.map Sl.l ↔ (u ∈ r.tuples.l.map Sl.l ∧ u ≠ t.l) ∨ (is = true ∧ u = t.l)) → vs.length ≤ 20000 →
          loadS none (.ptr h3.next 1) hh = some a ∧ ∃ x : Sl (Sl Int), Fz true hh d (encSl encT 1 x) ∧ x.l.length ≤ 100000 ∧ (∀ w ∈ x.l, w.l.length = t.l.length) ∧
          ∀ y : Sl (Sl Int), SortT (y.l.map Sl.l) → (∀ u, u ∈ y.l.map Sl.l ↔ u ∈ x.l.map Sl.l) → ∃ bb h53 h55, iaS 3 a (.int .i64 (j : Int)) = some (.ptr bb (j * 3)) ∧ storeS 1 (.ptr bb (j * 3 + 2)) (encSl encT 1 y) hh = some h53 ∧ loadS (some 2) (.ptr h3.next 0) h53 = some (.agg [.int .i64 s.size, a]) ∧
            storeS 2 (.ptr 1 0) (.agg [.int .i64 s.size, a]) h53 = some h55 ∧ loadS (some 2) (.ptr 1 0) h55 = some (.agg [.int .i64 s.size, a]) ∧ ∃ s', PutR s j r t.l is s' ∧ Fz true h55 (.agg [.int .i64 s.size, a]) (.agg (encStrc s')) := by
        intro vs d hh od hxh hvs hvl
        have ra : hh.get h3.next = some (.cells [.int .i64 s.size, a]) := by rw [hxh.get _ (by omega)]; exact p6
        have r1 : hh.get 1 = some (.cells [.int .i64 0, .nils]) := by rw [hxh.get _ (by omega)]; exact q1
        refine ⟨by rw [load_ptr ra]; rfl, ?_⟩
        obtain ⟨x, hx1, hx2⟩ := od.frzx (fun v y hy => by
          simp only [encT, List.mem_singleton] at hy; subst hy; exact .of_pure (pure_encSl pure_encI v))
        have hvlen : ∀ w ∈ vs, w.l.length = t.l.length := fun w hw => by
          rcases (hvs w.l).1 (List.mem_map_of_mem hw) with ⟨h1, _⟩ | ⟨_, h1⟩
          · obtain ⟨u, hu, he⟩ := List.mem_map.1 h1
            rw [← he]; exact hlen u hu
          · rw [h1]
        refine ⟨x, hx2, by rw [hx1]; omega, by rw [hx1]; exact hvlen, fun y hy1 hy2 => ?_⟩
        have oh := o6.ext hxh
        obtain ⟨rj, hrj⟩ : ∃ rj, rs[j]? = some rj := ⟨rs[j]'(by omega), List.getElem?_eq_getElem (by omega)⟩
        have hrd : datR rj = datR r := by
          have := congrArg (·[j]?) hrs
          simp only [List.getElem?_map, hrj, hr, Option.map_some, Option.some.injEq] at this
          exact this
        have oneY : (encSl encT 1 y).cellsL = [encSl encT 1 y] := by cases y <;> rfl
        have oneY2 : oneAll [encSl encT 1 y] = true := by cases y <;> rfl
        obtain ⟨bb, h53, i1, i2, i3, i4, i5, i6⟩ := oh.store len_encRel (m := 2) (x' := ⟨rj.name, rj.arity, y⟩) (v := encSl encT 1 y) hrj (by omega) rfl oneY oneY2
        have hb3 : bb ≠ h3.next := by
          intro hb
          have hlt : ∀ c, blkOf a = some c → c < h3.next := fun c hc => o.lt hc
          have hia := i1 .i64
          cases hoo : a with
          | slice ab ao al asz =>
            rw [hoo] at hia
            simp only [iaS, asNat] at hia
            rw [if_pos (by omega)] at hia
            simp only at hia
            split at hia
            · simp only [Option.some.injEq, AV.ptr.injEq] at hia; have := hlt _ (by rw [hoo]; rfl); omega
            · cases hia
          | _ => rw [hoo] at oh; cases oh <;> simp at hrj
        have w3 : h53.get h3.next = some (.cells [.int .i64 s.size, a]) := by rw [i6 _ (Ne.symm hb3)]; exact ra
        have w1 : h53.get 1 = some (.cells [.int .i64 0, .nils]) := by rw [i6 _ (by omega)]; exact r1
        have st : storeS 2 (.ptr 1 0) (.agg [.int .i64 s.size, a]) h53 = some (h53.set 1 (.cells [.int .i64 s.size, a])) := by rw [store_ptr (n := 2) (v := .agg [.int .i64 s.size, a]) w1 rfl one2 (by simp)]; rfl
        refine ⟨bb, h53, _, i1 _, i2, by rw [load_ptr w3]; rfl, st, by rw [load_ptr (cs := [.int .i64 s.size, a]) (by rw [Heap.get_set, if_pos rfl])]; rfl, ?_⟩
        have o55 := i3.setLow (d := 1) (by omega) (.cells [.int .i64 s.size, a])
        obtain ⟨z, hz1, hz2⟩ := o55.frzx (fun v y hy => by
          simp only [encRel, List.mem_cons, List.not_mem_nil, or_false] at hy
          rcases hy with rfl | rfl | rfl
          · exact .scalar _ rfl
          · exact .scalar _ rfl
          · exact .of_pure (pure_encSl pure_encT _))
        refine ⟨⟨s.size, z⟩, ⟨rfl, y.l.map Sl.l, hy1, fun u => by rw [hy2, hx1, hvs], ?_⟩, ?_⟩
        · have e1 : rj.name = r.name := congrArg (·.1) hrd
          have e2 : rj.arity = r.arity := congrArg (·.2.1) hrd
          rw [hz1, List.map_set, hrs, datR, e1, e2]
        · have := FzL.cons (.scalar (.int .i64 s.size) rfl) (FzL.cons hz2 FzL.nil)
          exact .agg _ _ this.len this.rel
      cases is with
      | true =>
        obtain ⟨a5, h5, p5, o5, f5, n5, x5, b5⟩ := ob.push len_encT one_encT hx'.next (bytes := 24) (by rw [hm]; omega) t
        obtain ⟨la, x, fx, xl, xt, fy⟩ := fin (us ++ [t]) a5 h5 o5 (x5 _ hx' (Nat.le_refl _)) (fun u => by
          rw [List.map_append, List.mem_append, hus]; simp) (by simp; omega)
        simp only [setV_eq, Nat.reduceEqDiff, reduceIte, e2, e3, e9, e11, condB_bool, cond_t, row_T, p5, bindO_some, bindO2_some, fa_ptr, Nat.zero_add, la]
        refine semCall_true (ref01_Sorted_l fx xl xt (by omega) fun y hy1 hy2 => ?_)
        obtain ⟨bb, h53, h55, i1, i2, i3, i4, i5, s', hs', hf⟩ := fy y hy1 hy2
        simp only [setV_eq, Nat.reduceEqDiff, reduceIte, outK_ret, la, bindO_some, AV.beq_refl, Bool.and_self, if_true, e8, e9, e10, i1, fa_ptr, i2, i3, i4, put_res, i5, oneOf]
        exact yes_eq.2 ⟨_, s', rfl, hs', hf⟩
      | false =>
        obtain ⟨la, x, fx, xl, xt, fy⟩ := fin us b h' ob hx' (fun u => by rw [hus]; simp) (by omega)
        simp only [setV_eq, Nat.reduceEqDiff, reduceIte, e2, e3, e9, e11, condB_bool, cond_f, bindO_some, fa_ptr, Nat.zero_add, la]
        refine semCall_true (ref01_Sorted_l fx xl xt (by omega) fun y hy1 hy2 => ?_)
        obtain ⟨bb, h53, h55, i1, i2, i3, i4, i5, s', hs', hf⟩ := fy y hy1 hy2
        simp only [setV_eq, Nat.reduceEqDiff, reduceIte, outK_ret, la, bindO_some, AV.beq_refl, Bool.and_self, if_true, e8, e9, e10, i1, fa_ptr, i2, i3, i4, put_res, i5, oneOf]
        exact yes_eq.2 ⟨_, s', rfl, hs', hf⟩
  refine main.frozen (by simp [AV.pureL, AV.pure, pure_encStrc, pure_encSl pure_encI]) fun o h' ho => ?_
  obtain ⟨v, s', rfl, hs', hf⟩ := yes_eq.1 ho
  exact ⟨v, _, rfl, hf, hK s' hs'⟩
end
end Go.AM
/- Rows of bits; the rank of the reference's tables. Conditions: none. -/
namespace Go.AM
open Go Go.Proofs
set_option linter.unusedVariables false
set_option linter.unusedSimpArgs false
noncomputable section

def bv (b : Bool) : AV := .bool b
theorem map_bv (d : List Bool) : d.map bv = d.flatMap encB := by
  induction d with
  | nil => rfl
  | cons a d ih => rw [List.map_cons, List.flatMap_cons, ih]; rfl
theorem load_bl {b i : Nat} {h : Heap} {d : List Bool} {v : Bool} (hb : h.get b = some (.cells (d.map bv))) (hv : d[i]? = some v) : loadS none (.ptr b i) h = some (.bool v) := by
  rw [load_ptr hb, part_none, List.getElem?_map, hv]; rfl
theorem store_bl {b i : Nat} {h : Heap} {d : List Bool} {v : Bool} (hb : h.get b = some (.cells (d.map bv))) (hi : i < d.length) : storeS 1 (.ptr b i) (.bool v) h = some (h.set b (.cells ((d.set i v).map bv))) := by
  rw [store_ptr (n := 1) hb rfl rfl (by simp; omega), List.map_set]; rfl
theorem rep_bv (n : Nat) : repZero [.bool false] n = (List.replicate n false).map bv := by
  induction n with
  | zero => rfl
  | succ n ih => rw [repZero, ih]; rfl
theorem make_bl {n : Nat} (hn : n ≤ 1000000) (h : Heap) : makeSliceS 1 1 [.bool false] (.int .i64 (n : Int)) (.int .i64 (n : Int)) h = some (.slice h.next 0 n 1, h.alloc (.cells ((List.replicate n false).map bv))) := by
  have : ((n : Int)) ≤ 140737488355328 := by omega
  simp [makeSliceS, makeOk, this, rep_bv]
theorem frz_bits {d : List Bool} {h : Heap} {b : Nat} (hb : h.get b = some (.cells (d.map bv))) : Fz true h (.slice b 0 d.length 1) (encSl encB 1 (some d)) := by
  refine .slice b 0 d.length 1 _ _ hb (by rw [map_bv]) fun i x y hx hy => ?_
  rw [map_bv, hy] at hx
  cases hx
  rw [← map_bv, List.getElem?_map] at hy
  obtain ⟨v, hv, rfl⟩ := Option.map_eq_some_iff.1 hy
  exact .scalar _ rfl
theorem get_bits {x : Sl Bool} {i : Nat} {v : Bool} (hv : x.l[i]? = some v) {h : Heap} : loadS none (.iptr (x.l.flatMap encB) (i * 1)) h = some (.bool v) := by
  rw [load_elem1 len_encB hv]; rfl

theorem ref03_rank {n : Nat} (h1 : 1 ≤ n) {x : Sl Int} (hx : x.l.length ≤ 12) (hc : n ^ x.l.length ≤ 4096) (hb : inB n x.l = true) {h : Heap} {K : Out → Heap → Bool}
    (hK : K (.ret (.int .i64 ((rkN n x.l : Nat) : Int))) h = true) : Sem Tryz.prog 178 [.int .i64 (n : Int), encSl encI 1 x] h K := by
  have hbig : x.l.length ≤ big := by unfold big; omega
  refine F.ref03_rank_sem ?_
  refine loopB_range 0 x.l.length (Nat.zero_le _) (fun i e h' => h' = h ∧ e 0 = .int .i64 (n : Int) ∧ e 5 = .int .i64 ((rkN n (x.l.take i) : Nat) : Int) ∧ e 1 = encSl encI 1 x ∧ e 6 = .int .i64 (i : Int)) ⟨rfl, rfl, rfl, rfl, rfl⟩ ?_ ?_
  · rintro i e h' _ hi ⟨rfl, e0, e5, e1, e6⟩ K' hn hx' hr hp
    have hv : x.l[i]? = some x.l[i] := List.getElem?_eq_getElem hi
    rw [F.ref03_rank.L0_eq]
    simp only [e0, e1, e5, e6, bindO_some, bindO2_some, outK_ret, condB_bool, cond_t, cond_f, fa_ptr, fa_iptr, part_none, Nat.zero_add, Nat.add_zero, Nat.reduceAdd, List.getElem?_cons_zero, List.getElem?_cons_succ, len_str, lenS_enc, lss_int, leq_int, gtr_int, geq_int, eq_int, ne_int, eq_str, ne_str, eq_bool, ne_bool, not_bool, extract_0, extract_1, extract_2, setV_eq, Nat.reduceEqDiff, reduceIte, lt_true hi, iaS_enc x hi, get_ints hv, (rank_ops hb h1 hc hv).1, (rank_ops hb h1 hc hv).2, succ_i64 hi hbig]
    exact hn _ _ ⟨rfl, e0, rfl, e1, rfl⟩
  · rintro e h' ⟨rfl, e0, e5, e1, e6⟩ K' hx'
    rw [F.ref03_rank.L0_eq]
    simp only [e1, e6, bindO_some, bindO2_some, outK_ret, condB_bool, cond_t, cond_f, fa_ptr, fa_iptr, part_none, Nat.zero_add, Nat.add_zero, Nat.reduceAdd, List.getElem?_cons_zero, List.getElem?_cons_succ, len_str, lenS_enc, lss_int, leq_int, gtr_int, geq_int, eq_int, ne_int, eq_str, ne_str, eq_bool, ne_bool, not_bool, extract_0, extract_1, extract_2, setV_eq, Nat.reduceEqDiff, reduceIte, lt_false]
    rw [hx', F.ref03_rank.L0_x0_eq]
    simp only [e5, setV_eq, Nat.reduceEqDiff, reduceIte]
    rw [List.take_of_length_le (Nat.le_refl _)]
    exact hK

/-- The bits of a relation, by ranks. -/
def bitsGo (n : Nat) : List (Sl Int) → List Bool → List Bool
  | [], d => d
  | t :: ts, d => bitsGo n ts (d.set (rkN n t.l) true)
theorem bits_drop {n : Nat} {l : List (Sl Int)} {i : Nat} {t : Sl Int} (ht : l[i]? = some t) (d : List Bool) : bitsGo n (l.drop i) d = bitsGo n (l.drop (i + 1)) (d.set (rkN n t.l) true) := by
  have h1 := (List.getElem?_eq_some_iff.1 ht).1
  rw [List.drop_eq_getElem_cons h1]
  rw [List.getElem?_eq_getElem h1] at ht
  cases ht; rfl
theorem bitsGo_len (n : Nat) : ∀ (l : List (Sl Int)) (d : List Bool), (bitsGo n l d).length = d.length
  | [], _ => rfl
  | t :: l, d => by rw [bitsGo, bitsGo_len n l]; simp
def bitsOf (n k : Nat) (ts : List (Sl Int)) : List Bool := bitsGo n ts (List.replicate (n ^ k) false)
theorem bitsOf_len (n k : Nat) (ts : List (Sl Int)) : (bitsOf n k ts).length = n ^ k := by rw [bitsOf, bitsGo_len]; simp
end
end Go.AM
/- The reference's tables. Conditions: none. -/
namespace Go.AM
open Go Go.Proofs
set_option linter.unusedVariables false
set_option linter.unusedSimpArgs false
noncomputable section

theorem table_res (s : St) : resultL Tryz.prog s Tryz.f143.results.toList = (match loadS (some 3) (s.env 8) s.h, (some [] : Option (List AV)) with | some v, some vs => some (v :: vs) | _, _ => none) := by kernel_rfl
def encTab (nm : Str) (k : Nat) (d : List Bool) : List AV := [.str nm, .int .i64 (k : Int), encSl encB 1 (some d)]
theorem pure_encTab (nm : Str) (k : Nat) (d : List Bool) : AV.pureL (encTab nm k d) = true := by simp [encTab, AV.pureL, AV.pure, pure_encSl pure_encB]

theorem ref03_TableOf {n k : Nat} (h1 : 1 ≤ n) (h2 : n ≤ 64) (hk : k ≤ 12) (hc : n ^ k ≤ 4096) {nm : Str} {ts : Sl (Sl Int)} (hl : ts.l.length ≤ big) (ht : tupB n k ts.l = true) {h : Heap} {K : Out → Heap → Bool}
    (hK : K (.ret (.agg (encTab nm k (bitsOf n k ts.l)))) h = true) : Sem Tryz.prog 143 [.int .i64 (n : Int), .str nm, .int .i64 (k : Int), encSl encT 1 ts] h K := by
  refine Sem.data (r := .agg (encTab nm k (bitsOf n k ts.l))) ?_ (by simp [AV.pureL, AV.pure, pure_encSl pure_encT]) hK
  clear hK
  have hkb : k ≤ big := by unfold big; omega
  refine F.ref03_TableOf_sem ?_
  refine semCall_true (ref01_Pow h1 h2 hkb fun v v1 v2 => ?_)
  have hv := v1 hc
  subst hv
  simp only [outK_ret, make_bl (show n ^ k ≤ 1000000 by omega), bindO2_some, next_empty, Heap.next_alloc]
  have ha : ∀ b : Nat, aggS [(.str []), (.int .i64 0), .nils] [(0, 1), (1, 1), (2, 1)] [.str nm, .int .i64 (k : Int), .slice b 0 (n ^ k) 1] = some (.agg [.str nm, .int .i64 (k : Int), .slice b 0 (n ^ k) 1]) := fun _ => rfl
  simp only [ha, bindO_some]
  have g0 : ((Heap.alloc Heap.empty (.cells [(.str []), (.int .i64 0), .nils])).alloc (.cells ((List.replicate (n ^ k) false).map bv))).get 0 = some (.cells [(.str []), (.int .i64 0), .nils]) := by simp [Heap.get_alloc, next_empty]
  have g1 : ((Heap.alloc Heap.empty (.cells [(.str []), (.int .i64 0), .nils])).alloc (.cells ((List.replicate (n ^ k) false).map bv))).get 1 = some (.cells ((List.replicate (n ^ k) false).map bv)) := by simp [Heap.get_alloc, next_empty]
  have gn : ((Heap.alloc Heap.empty (.cells [(.str []), (.int .i64 0), .nils])).alloc (.cells ((List.replicate (n ^ k) false).map bv))).next = 2 := rfl
  generalize ((Heap.alloc Heap.empty (.cells [(.str []), (.int .i64 0), .nils])).alloc (.cells ((List.replicate (n ^ k) false).map bv))) = H0 at g0 g1 gn ⊢
  obtain ⟨H, hs, p2, go, hn⟩ := store_new (h := H0) (zs := [.str [], .int .i64 0, .nils]) (cs := [.str nm, .int .i64 (k : Int), .slice 1 0 (n ^ k) 1]) (n := 3) rfl rfl rfl
  rw [gn] at hs p2
  have p0 : H.get 0 = some (.cells [(.str []), (.int .i64 0), .nils]) := by rw [go 0 (by omega)]; exact g0
  have p1 : H.get 1 = some (.cells ((List.replicate (n ^ k) false).map bv)) := by rw [go 1 (by omega)]; exact g1
  simp only [Nat.zero_add, Nat.reduceAdd, gn, hs, bindO_some]
  refine loopB_range 0 ts.l.length (Nat.zero_le _) (fun i e h' => ∃ d, bitsOf n k ts.l = bitsGo n (ts.l.drop i) d ∧ d.length = n ^ k ∧ h'.get 0 = some (.cells [(.str []), (.int .i64 0), .nils]) ∧ h'.get 1 = some (.cells (d.map bv)) ∧ h'.get 2 = some (.cells [.str nm, .int .i64 (k : Int), .slice 1 0 (n ^ k) 1]) ∧
    e 0 = .int .i64 (n : Int) ∧ e 3 = encSl encT 1 ts ∧ e 8 = .ptr 0 0 ∧ e 9 = .ptr 2 0 ∧ e 10 = .int .i64 (i : Int)) ⟨_, rfl, by simp, p0, p1, p2, rfl, rfl, rfl, rfl, rfl⟩ ?_ ?_
  · rintro i e h' _ hi ⟨d, hd, hdl, q0, q1, q2, e0, e3, e8, e9, e10⟩ K' hnx hx hr hp
    have hv : ts.l[i]? = some ts.l[i] := List.getElem?_eq_getElem hi
    generalize ts.l[i] = t at hv
    have hat := allN_get ht hi
    have htl : t.l.length = k := tup_len hat hv
    have htb : inB n t.l = true := by
      unfold tupAt at hat
      rw [hv] at hat
      simp only [Bool.and_eq_true] at hat
      exact hat.2.1
    have hrk : rkN n t.l < n ^ k := by have := rkN_lt htb; rwa [htl] at this
    rw [bits_drop hv] at hd
    have l2 : loadS none (.ptr 2 2) h' = some (.slice 1 0 (n ^ k) 1) := by rw [load_ptr q2]; rfl
    rw [F.ref03_TableOf.L0_eq]
    simp only [e0, e3, e9, e10, bindO_some, bindO2_some, outK_ret, condB_bool, cond_t, cond_f, fa_ptr, fa_iptr, part_none, Nat.zero_add, Nat.add_zero, Nat.reduceAdd, List.getElem?_cons_zero, List.getElem?_cons_succ, len_str, lenS_enc, lss_int, leq_int, gtr_int, geq_int, eq_int, ne_int, eq_str, ne_str, eq_bool, ne_bool, not_bool, extract_0, extract_1, extract_2, setV_eq, Nat.reduceEqDiff, reduceIte, lt_true hi, iaS_enc ts hi, get_tup hv, l2]
    refine semCall_true (ref03_rank h1 (by omega) (by rw [htl]; exact hc) htb ?_)
    simp only [outK_ret, l2, bindO_some, AV.beq_refl, Bool.and_self, if_true, ia_sl hrk, store_bl q1 (show rkN n t.l < d.length by omega), succ_i64 hi hl, e10]
    exact hnx _ _ ⟨_, hd, by simpa using hdl, by rw [Heap.get_set, if_neg (by omega)]; exact q0, by rw [Heap.get_set, if_pos rfl], by rw [Heap.get_set, if_neg (by omega)]; exact q2, e0, e3, e8, e9, rfl⟩
  · rintro e h' ⟨d, hd, hdl, q0, q1, q2, e0, e3, e8, e9, e10⟩ K' hx
    rw [F.ref03_TableOf.L0_eq]
    simp only [e3, e10, bindO_some, bindO2_some, outK_ret, condB_bool, cond_t, cond_f, fa_ptr, fa_iptr, part_none, Nat.zero_add, Nat.add_zero, Nat.reduceAdd, List.getElem?_cons_zero, List.getElem?_cons_succ, len_str, lenS_enc, lss_int, leq_int, gtr_int, geq_int, eq_int, ne_int, eq_str, ne_str, eq_bool, ne_bool, not_bool, extract_0, extract_1, extract_2, setV_eq, Nat.reduceEqDiff, reduceIte, lt_false]
    rw [hx, F.ref03_TableOf.L0_x0_eq]
    rw [List.drop_of_length_le (Nat.le_refl _)] at hd
    simp only [bitsGo] at hd
    have l2 : loadS (some 3) (.ptr 2 0) h' = some (.agg [.str nm, .int .i64 (k : Int), .slice 1 0 (n ^ k) 1]) := by rw [load_ptr q2]; rfl
    have st : storeS 3 (.ptr 0 0) (.agg [.str nm, .int .i64 (k : Int), .slice 1 0 (n ^ k) 1]) h' = some (h'.set 0 (.cells [.str nm, .int .i64 (k : Int), .slice 1 0 (n ^ k) 1])) := by
      rw [store_ptr (n := 3) q0 rfl rfl (by simp)]; rfl
    have r0 : (h'.set 0 (.cells [.str nm, .int .i64 (k : Int), .slice 1 0 (n ^ k) 1])).get 0 = some (.cells [.str nm, .int .i64 (k : Int), .slice 1 0 (n ^ k) 1]) := by rw [Heap.get_set, if_pos rfl]
    have r1 : (h'.set 0 (.cells [.str nm, .int .i64 (k : Int), .slice 1 0 (n ^ k) 1])).get 1 = some (.cells (d.map bv)) := by rw [Heap.get_set, if_neg (by omega)]; exact q1
    generalize (h'.set 0 (.cells [.str nm, .int .i64 (k : Int), .slice 1 0 (n ^ k) 1])) = H2 at st r0 r1
    have l3 : loadS (some 3) (.ptr 0 0) H2 = some (.agg [.str nm, .int .i64 (k : Int), .slice 1 0 (n ^ k) 1]) := by rw [load_ptr r0]; rfl
    simp only [setV_eq, Nat.reduceEqDiff, reduceIte, e8, e9, l2, st, bindO_some, table_res, l3, oneOf]
    have fb := frz_bits r1
    rw [hdl, ← hd] at fb
    have := FzL.cons (.scalar (.str nm) rfl) (FzL.cons (.scalar (.int .i64 (k : Int)) rfl) (FzL.cons fb FzL.nil))
    exact frzK_ret (.agg _ _ this.len this.rel)
end
end Go.AM
/- The reference's tables of a structure. Conditions: none. -/
namespace Go.AM
open Go Go.Proofs
set_option linter.unusedVariables false
set_option linter.unusedSimpArgs false
noncomputable section

structure Tab where
  name : Str
  k : Nat
  bits : List Bool
def encTb (t : Tab) : List AV := encTab t.name t.k t.bits
theorem len_encTb (t : Tab) : (encTb t).length = 3 := rfl
theorem one_encTb (t : Tab) : oneAll (encTb t) = true := rfl
theorem pure_encTb (t : Tab) : AV.pureL (encTb t) = true := pure_encTab _ _ _
def tabOf (n : Nat) (r : Rel) : Tab := ⟨r.name, r.arity.toNat, bitsOf n r.arity.toNat r.tuples.l⟩
def tabsOf (s : Strc) : List Tab := s.rels.l.map (tabOf s.size.toNat)
theorem strc_rel {s : Strc} (hv : strcB s = true) {i : Nat} {r : Rel} (hr : s.rels.l[i]? = some r) : relB s.size.toNat r = true := by
  simp only [strcB, Bool.and_eq_true] at hv
  have := allN_get hv.2.2.2 (List.getElem?_eq_some_iff.1 hr).1
  rw [relAt, hr] at this
  simp only [Bool.and_eq_true] at this
  exact this.1
theorem strc_size {s : Strc} (hv : strcB s = true) : ∃ n : Nat, s.size = (n : Int) ∧ 1 ≤ n ∧ n ≤ 64 ∧ s.rels.l.length ≤ 8 := by
  simp only [strcB, Bool.and_eq_true, decide_eq_true_eq] at hv
  exact ⟨s.size.toNat, by omega, by omega, by omega, hv.2.2.1⟩
theorem rel_all {n : Nat} {r : Rel} (h : relB n r = true) : ∃ k : Nat, r.arity = (k : Int) ∧ k ≤ 12 ∧ n ^ k ≤ 4096 ∧ tupB n k r.tuples.l = true := by
  simp only [relB, Bool.and_eq_true, decide_eq_true_eq] at h
  exact ⟨r.arity.toNat, by omega, by omega, h.2.2.2.1, h.2.2.2.2⟩

theorem ref03_Of {s : Strc} (hs : s.ok) (hv : strcB s = true) {h : Heap} {K : Out → Heap → Bool} (hK : ∀ cs : List AV, ∀ x : Sl Tab, x.l = tabsOf s → cs[2]? = some (encSl encTb 3 x) → K (.ret (.iptr cs 0)) h = true) : Sem Tryz.prog 82 [.agg (encStrc s)] h K := by
  obtain ⟨n, hn, n1, n2, h8⟩ := strc_size hv
  have hn' : s.size.toNat = n := by omega
  have main : Sem Tryz.prog 82 [.agg (encStrc s)] Heap.empty (fun o h' => yes (∃ v cs, ∃ x : Sl Tab, o = .ret v ∧ x.l = tabsOf s ∧ cs[2]? = some (encSl encTb 3 x) ∧ Fz true h' v (.iptr cs 0))) := by
    have hm : maxBytes = 140737488355328 := rfl
    refine F.ref03_Of_sem ?_
    have b0 : (Heap.alloc Heap.empty (.cells (encStrc s))).get 0 = some (.cells (encStrc s)) := get_alloc_same _ _
    have bn : (Heap.alloc Heap.empty (.cells (encStrc s))).next = 1 := rfl
    simp only [box_agg (one_encStrc s), bindO_some, next_empty]
    generalize (Heap.alloc Heap.empty (.cells (encStrc s))) = H at b0 bn ⊢
    have ls : loadS none (.ptr 0 0) H = some (.int .i64 s.size) := by rw [load_ptr b0]; rfl
    have lr : loadS none (.ptr 0 1) H = some (encSl encRel 3 s.rels) := by rw [load_ptr b0]; rfl
    have ha : aggS [(.int .i64 0), (.int .i64 0), .nils, .nils, .nils, (.bool false)] [(0, 1), (1, 1)] [.int .i64 s.size, .int .i64 (s.rels.l.length : Int)] = some (.agg [.int .i64 s.size, .int .i64 (s.rels.l.length : Int), .nils, .nils, .nils, .bool false]) := rfl
    simp only [bindO_some, bindO2_some, outK_ret, condB_bool, cond_t, cond_f, fa_ptr, fa_iptr, part_none, Nat.zero_add, Nat.add_zero, Nat.reduceAdd, List.getElem?_cons_zero, List.getElem?_cons_succ, len_str, lenS_enc, lss_int, leq_int, gtr_int, geq_int, eq_int, ne_int, eq_str, ne_str, eq_bool, ne_bool, not_bool, extract_0, extract_1, extract_2, setV_eq, Nat.reduceEqDiff, reduceIte, ls, lr, ha, box_agg (show oneAll [.int .i64 s.size, .int .i64 (s.rels.l.length : Int), .nils, .nils, .nils, .bool false] = true from rfl), bn]
    refine loopB_range 0 s.rels.l.length (Nat.zero_le _) (fun i e h' => ∃ a, h'.get 0 = some (.cells (encStrc s)) ∧ h'.get 1 = some (.cells [.int .i64 s.size, .int .i64 (s.rels.l.length : Int), a, .nils, .nils, .bool false]) ∧ Own encTb 3 2 h' a ((s.rels.l.take i).map (tabOf n)) ∧ 2 ≤ h'.next ∧ e 1 = .ptr 0 0 ∧ e 3 = .ptr 1 0 ∧ e 4 = .int .i64 (i : Int))
      ⟨.nils, by rw [Heap.get_alloc, bn, if_neg (by omega)]; exact b0, by rw [← bn]; exact get_alloc_same _ _, .nil, by rw [Heap.next_alloc, bn]; omega, rfl, rfl, rfl⟩ ?_ ?_
    · rintro i e h' _ hi ⟨a, q0, q1, o, qn, e1, e3, e4⟩ K' hnx hx hr hp
      have hvr : s.rels.l[i]? = some s.rels.l[i] := List.getElem?_eq_getElem hi
      generalize s.rels.l[i] = r at hvr
      have hro : r.ok := hs.2 r (List.mem_of_getElem? hvr)
      have hrb := strc_rel hv hvr
      rw [hn'] at hrb
      obtain ⟨k, hk, k12, hkc, hkt⟩ := rel_all hrb
      have ls : loadS none (.ptr 0 0) h' = some (.int .i64 (n : Int)) := by rw [load_ptr q0, ← hn]; rfl
      have lr : loadS none (.ptr 0 1) h' = some (encSl encRel 3 s.rels) := by rw [load_ptr q0]; rfl
      have l2 : loadS none (.ptr 1 2) h' = some a := by rw [load_ptr q1]; rfl
      have nc : nilCheckS (.ptr 1 0) = some (.ptr 1 0) := rfl
      rw [F.ref03_Of.L0_eq]
      simp only [e1, e3, e4, bindO_some, bindO2_some, outK_ret, condB_bool, cond_t, cond_f, fa_ptr, fa_iptr, part_none, Nat.zero_add, Nat.add_zero, Nat.reduceAdd, List.getElem?_cons_zero, List.getElem?_cons_succ, len_str, lenS_enc, lss_int, leq_int, gtr_int, geq_int, eq_int, ne_int, eq_str, ne_str, eq_bool, ne_bool, not_bool, extract_0, extract_1, extract_2, setV_eq, Nat.reduceEqDiff, reduceIte, lr, ls, l2, nc, lt_true hi, iaS_enc s.rels hi, get_name hvr, get_arity hvr, get_tups hvr, hk]
      refine semCall_true (ref03_TableOf n1 n2 k12 hkc hro.2.1 hkt ?_)
      obtain ⟨a5, h5, p5, o5, f5, n5, _, b5⟩ := o.push len_encTb one_encTb qn (bytes := 48) (by rw [hm, List.length_map, List.length_take]; omega) (tabOf n r)
      have ht : tabOf n r = ⟨r.name, k, bitsOf n k r.tuples.l⟩ := by rw [tabOf, hk]; rfl
      have row1 : rowS [(.str []), (.int .i64 0), .nils] [(0, 3)] [.agg (encTab r.name k (bitsOf n k r.tuples.l))] = some (encTb (tabOf n r)) := by rw [ht]; rfl
      have hne : ∀ d, d < 2 → blkOf a ≠ some d := fun d hd hb => by have := o.ge hb; omega
      have s1 : h5.get 1 = some (.cells [.int .i64 s.size, .int .i64 (s.rels.l.length : Int), a, .nils, .nils, .bool false]) := by rw [f5 1 (by omega) (hne 1 (by omega))]; exact q1
      have c5 := o5.cells1
      have st : storeS 1 (.ptr 1 2) a5 h5 = some (h5.set 1 (.cells [.int .i64 s.size, .int .i64 (s.rels.l.length : Int), a5, .nils, .nils, .bool false])) := by
        rw [store_ptr (n := 1) s1 c5.2.1 c5.1 (by simp), c5.2.2]; rfl
      simp only [outK_ret, l2, bindO_some, AV.beq_refl, Bool.and_self, if_true, row1, p5, bindO2_some, e3, e4, nc, fa_ptr, Nat.zero_add, st, succ_i64 hi hs.1]
      refine hnx _ _ ⟨a5, ?_, ?_, ?_, ?_, e1, e3, rfl⟩
      · rw [Heap.get_set, if_neg (by omega), f5 0 (by omega) (hne 0 (by omega))]; exact q0
      · rw [Heap.get_set, if_pos rfl]
      · rw [List.take_add_one, hvr, List.map_append]; exact o5.setLow (by omega) _
      · rw [Heap.next_set]; omega
    · rintro e h' ⟨a, q0, q1, o, qn, e1, e3, e4⟩ K' hx
      have lr : loadS none (.ptr 0 1) h' = some (encSl encRel 3 s.rels) := by rw [load_ptr q0]; rfl
      rw [F.ref03_Of.L0_eq]
      simp only [e1, e4, bindO_some, bindO2_some, outK_ret, condB_bool, cond_t, cond_f, fa_ptr, fa_iptr, part_none, Nat.zero_add, Nat.add_zero, Nat.reduceAdd, List.getElem?_cons_zero, List.getElem?_cons_succ, len_str, lenS_enc, lss_int, leq_int, gtr_int, geq_int, eq_int, ne_int, eq_str, ne_str, eq_bool, ne_bool, not_bool, extract_0, extract_1, extract_2, setV_eq, Nat.reduceEqDiff, reduceIte, lr, lt_false]
      rw [hx, F.ref03_Of.L0_x0_eq]
      simp only [setV_eq, Nat.reduceEqDiff, reduceIte, e3]
      rw [List.take_of_length_le (Nat.le_refl _)] at o
      obtain ⟨x, hx1, hx2⟩ := o.frzx (fun v y hy => by
        simp only [encTb, encTab, List.mem_cons, List.not_mem_nil, or_false] at hy
        rcases hy with rfl | rfl | rfl
        · exact .scalar _ rfl
        · exact .scalar _ rfl
        · exact .of_pure (pure_encSl pure_encB _))
      have fz := FzL.cons (.scalar (.int .i64 s.size) rfl) (FzL.cons (.scalar (.int .i64 (s.rels.l.length : Int)) rfl) (FzL.cons hx2 (FzL.cons (.scalar .nils rfl) (FzL.cons (.scalar .nils rfl) (FzL.cons (.scalar (.bool false) rfl) FzL.nil)))))
      exact yes_eq.2 ⟨_, _, x, rfl, by rw [hx1, tabsOf, hn'], rfl, .ptr 1 0 _ _ q1 fz.len fz.rel⟩
  refine main.frozen (by simp [AV.pureL, AV.pure, pure_encStrc]) fun o h' ho => ?_
  obtain ⟨v, cs, x, rfl, hx, hc, hf⟩ := yes_eq.1 ho
  exact ⟨v, _, rfl, hf, hK cs x hx hc⟩
theorem ref07_Tables {s : Strc} (hs : s.ok) (hv : strcB s = true) {h : Heap} {K : Out → Heap → Bool} (hK : ∀ x : Sl Tab, x.l = tabsOf s → K (.ret (encSl encTb 3 x)) h = true) : Sem Tryz.prog 60 [.agg (encStrc s)] h K := by
  have main : Sem Tryz.prog 60 [.agg (encStrc s)] Heap.empty (fun o h' => yes (∃ x : Sl Tab, o = .ret (encSl encTb 3 x) ∧ x.l = tabsOf s)) := by
    refine F.ref07_Tables_sem ?_
    simp only [box_agg (one_encStrc s), bindO_some, load_ptr (get_alloc_same _ _), part_whole (cs := encStrc s) (n := 2) rfl]
    refine semCall_true (ref03_Of hs hv fun cs x hx hc => ?_)
    simp only [outK_ret, show nilCheckS (.iptr cs 0) = some (.iptr cs 0) from rfl, bindO_some, fa_iptr, Nat.zero_add, load_none, hc]
    exact yes_eq.2 ⟨x, rfl, hx⟩
  refine main.frozen (by simp [AV.pureL, AV.pure, pure_encStrc]) fun o h' ho => ?_
  obtain ⟨x, rfl, hx⟩ := yes_eq.1 ho
  exact ⟨_, _, rfl, .of_pure (pure_encSl pure_encTb x), hK x hx⟩
end
end Go.AM
/- The value of a circuit: the reference. Conditions: none. -/
namespace Go.AM
open Go Go.Proofs
set_option linter.unusedVariables false
set_option linter.unusedSimpArgs false
noncomputable section

def atB (d : List Bool) (k : Int) : Bool := d.getD k.toNat false
def bitT (nm : Str) (r : Nat) : List Tab → Bool → Bool
  | [], b => b
  | t :: ts, b => bitT nm r ts (if (t.name == nm) = true then t.bits.getD r false else b)
theorem bitT_append (nm : Str) (r : Nat) : ∀ (a b : List Tab) (v : Bool), bitT nm r (a ++ b) v = bitT nm r b (bitT nm r a v)
  | [], _, _ => rfl
  | t :: a, b, v => bitT_append nm r a b _
def gateV (kind : Int) (d : List Bool) (kids : List Int) : Bool := if (kids.any fun k => atB d k != decide (kind = 3)) = true then decide (kind = 4) else decide (kind = 3)
def valueB (n : Nat) (tabs : List Tab) (d : List Bool) (i : Nat) (g : Gate) : Bool :=
  if g.kind = 0 then true else if g.kind = 1 then bitT g.name (rkN n g.at_.l) tabs (atB d (i : Int)) else if g.kind = 2 then !(atB d (g.kids.l.getD 0 0)) else gateV g.kind d g.kids.l
def valGo (n : Nat) (tabs : List Tab) : List Gate → Nat → List Bool → List Bool
  | [], _, d => d
  | g :: gs, i, d => valGo n tabs gs (i + 1) (d.set i (valueB n tabs d i g))
theorem val_drop {n : Nat} {tabs : List Tab} {l : List Gate} {i : Nat} {g : Gate} (hg : l[i]? = some g) (d : List Bool) : valGo n tabs (l.drop i) i d = valGo n tabs (l.drop (i + 1)) (i + 1) (d.set i (valueB n tabs d i g)) := by
  have h1 := (List.getElem?_eq_some_iff.1 hg).1
  rw [List.drop_eq_getElem_cons h1]
  rw [List.getElem?_eq_getElem h1] at hg
  cases hg; rfl
def valsOf (n : Nat) (tabs : List Tab) (c : Circ) : List Bool := valGo n tabs c.gates.l 0 (List.replicate c.gates.l.length false)
def valB (n : Nat) (tabs : List Tab) (c : Circ) : Bool := atB (valsOf n tabs c) ((c.gates.l.length - 1 : Nat) : Int)
theorem atB_get {d : List Bool} {i : Nat} (hi : i < d.length) : d[i]? = some (atB d (i : Int)) := by
  unfold atB
  rw [List.getD_eq_getElem?_getD, Int.toNat_natCast, List.getElem?_eq_getElem hi]; rfl
theorem setB_self {d : List Bool} {i : Nat} {v : Bool} (h : d[i]? = some v) : d.set i v = d := by
  apply List.ext_getElem?
  intro j
  by_cases e : i = j
  · subst e
    rw [List.getElem?_set_self (List.getElem?_eq_some_iff.1 h).1, h]
  · rw [List.getElem?_set_ne e]
/-- The inputs' ranks lie in their tables. -/
structure Runs (n : Nat) (tabs : List Tab) (c : Circ) : Prop where
  len : ∀ g ∈ c.gates.l, g.kind = 1 → g.at_.l.length ≤ 12
  pow : ∀ g ∈ c.gates.l, g.kind = 1 → n ^ g.at_.l.length ≤ 4096
  in_ : ∀ g ∈ c.gates.l, g.kind = 1 → inB n g.at_.l = true
  bit : ∀ g ∈ c.gates.l, g.kind = 1 → ∀ t ∈ tabs, t.name = g.name → rkN n g.at_.l < t.bits.length

theorem get_tab {x : Sl Tab} {j : Nat} {t : Tab} (ht : x.l[j]? = some t) {h : Heap} : loadS none (.iptr (x.l.flatMap encTb) (j * 3)) h = some (.str t.name) := by
  have := load_elem (h := h) len_encTb ht (k := 0) (by omega)
  rw [Nat.add_zero] at this
  rw [this]; rfl
theorem get_tab2 {x : Sl Tab} {j : Nat} {t : Tab} (ht : x.l[j]? = some t) {h : Heap} : loadS none (.iptr (x.l.flatMap encTb) (j * 3 + 2)) h = some (encSl encB 1 (some t.bits)) := by
  rw [load_elem len_encTb ht (by omega)]; rfl
end
end Go.AM
/- The reference's Run. Conditions: none. -/
namespace Go.AM
open Go Go.Proofs
set_option linter.unusedVariables false
set_option linter.unusedSimpArgs false
noncomputable section

theorem ref11_Run {c : Circ} {s : Strc} {n : Nat} (hc : c.ok) (hf : c.fits) (hs : s.ok) (hv : strcB s = true) (hn : s.size = (n : Int)) (hr : Runs n (tabsOf s) c) {h : Heap} {K : Out → Heap → Bool} (hK : K (.ret (.bool (valB n (tabsOf s) c))) h = true) : Sem Tryz.prog 20 [.agg (encCirc c), .agg (encStrc s)] h K := by
  refine Sem.data (r := .bool (valB n (tabsOf s) c)) ?_ (by simp [AV.pureL, AV.pure, pure_encStrc, pure_encCirc]) hK
  clear hK
  obtain ⟨hl1, hl2, hfit⟩ := hf
  obtain ⟨n', hn2, n1, n64, h8⟩ := strc_size hv
  obtain rfl : n' = n := by omega
  refine F.ref11_Run_sem ?_
  simp only [box_agg (one_encCirc c), box_agg (one_encStrc s), bindO_some, next_empty, Heap.next_alloc]
  have g0 : (Heap.alloc (Heap.alloc Heap.empty (.cells (encCirc c))) (.cells (encStrc s))).get 0 = some (.cells (encCirc c)) := by simp [Heap.get_alloc, next_empty]
  have g1 : (Heap.alloc (Heap.alloc Heap.empty (.cells (encCirc c))) (.cells (encStrc s))).get 1 = some (.cells (encStrc s)) := by simp [Heap.get_alloc, next_empty]
  have gn : (Heap.alloc (Heap.alloc Heap.empty (.cells (encCirc c))) (.cells (encStrc s))).next = 2 := rfl
  generalize (Heap.alloc (Heap.alloc Heap.empty (.cells (encCirc c))) (.cells (encStrc s))) = H0 at g0 g1 gn ⊢
  have l0 : loadS none (.ptr 0 1) H0 = some (encSl encGate 4 c.gates) := by rw [load_ptr g0]; rfl
  simp only [bindO_some, bindO2_some, outK_ret, condB_bool, cond_t, cond_f, fa_ptr, fa_iptr, part_none, Nat.zero_add, Nat.add_zero, Nat.reduceAdd, List.getElem?_cons_zero, List.getElem?_cons_succ, len_str, lenS_enc, lss_int, leq_int, gtr_int, geq_int, eq_int, ne_int, eq_str, ne_str, eq_bool, ne_bool, not_bool, extract_0, extract_1, extract_2, setV_eq, Nat.reduceEqDiff, reduceIte, l0, make_bl (show c.gates.l.length ≤ 1000000 by omega), gn]
  have q0 : (H0.alloc (.cells ((List.replicate c.gates.l.length false).map bv))).get 0 = some (.cells (encCirc c)) := by rw [Heap.get_alloc, gn, if_neg (by omega)]; exact g0
  have q1 : (H0.alloc (.cells ((List.replicate c.gates.l.length false).map bv))).get 1 = some (.cells (encStrc s)) := by rw [Heap.get_alloc, gn, if_neg (by omega)]; exact g1
  have q2 : (H0.alloc (.cells ((List.replicate c.gates.l.length false).map bv))).get 2 = some (.cells ((List.replicate c.gates.l.length false).map bv)) := by have := get_alloc_same H0 (.cells ((List.replicate c.gates.l.length false).map bv)); rwa [gn] at this
  have qn : (H0.alloc (.cells ((List.replicate c.gates.l.length false).map bv))).next = 3 := by rw [Heap.next_alloc, gn]
  generalize (H0.alloc (.cells ((List.replicate c.gates.l.length false).map bv))) = H at q0 q1 q2 qn ⊢
  simp only [load_ptr q1, part_whole (cs := encStrc s) (n := 2) rfl, bindO_some]
  refine semCall_true (ref07_Tables hs hv fun x hx => ?_)
  simp only [outK_ret]
  have hxl : x.l.length ≤ big := by rw [hx, tabsOf, List.length_map]; exact hs.1
  rw [← hx] at hr ⊢
  refine loopB_range 0 c.gates.l.length (Nat.zero_le _) (fun i e h' => ∃ d, valsOf n' x.l c = valGo n' x.l (c.gates.l.drop i) i d ∧ d.length = c.gates.l.length ∧ h'.get 0 = some (.cells (encCirc c)) ∧ h'.get 1 = some (.cells (encStrc s)) ∧ h'.get 2 = some (.cells (d.map bv)) ∧ 3 ≤ h'.next ∧
    e 2 = .ptr 0 0 ∧ e 3 = .ptr 1 0 ∧ e 5 = .slice 2 0 c.gates.l.length 1 ∧ e 6 = encSl encTb 3 x ∧ e 7 = .int .i64 (i : Int)) ⟨_, rfl, by simp, q0, q1, q2, by omega, rfl, rfl, rfl, rfl, rfl⟩ ?_ ?_
  · rintro i e h' _ hi ⟨d, hd, hdl, q0, q1, q2, qn, e2, e3, e5, e6, e7⟩ K' hnx hx' hrr hp
    have hg : c.gates.l[i]? = some c.gates.l[i] := List.getElem?_eq_getElem hi
    generalize c.gates.l[i] = g at hg
    have hgo : g.ok := hc.2 g (List.mem_of_getElem? hg)
    have hfg := hfit i g hg
    rw [val_drop hg] at hd
    have hdi : i < d.length := by omega
    obtain ⟨H, hst, p3, go, gn⟩ := store_new (h := h') (zs := [.int .i64 0, .str [], .nils, .nils]) (cs := encGate g) (n := 4) rfl rfl (one_encGate g)
    have p0 : H.get 0 = some (.cells (encCirc c)) := by rw [go _ (by omega)]; exact q0
    have p1 : H.get 1 = some (.cells (encStrc s)) := by rw [go _ (by omega)]; exact q1
    have p2 : H.get 2 = some (.cells (d.map bv)) := by rw [go _ (by omega)]; exact q2
    have l0 : loadS none (.ptr 0 1) h' = some (encSl encGate 4 c.gates) := by rw [load_ptr q0]; rfl
    have ls : loadS none (.ptr 1 0) H = some (.int .i64 (n' : Int)) := by rw [load_ptr p1, ← hn]; rfl
    have ln0 : loadS none (.ptr h'.next 0) H = some (.int .i64 g.kind) := by rw [load_ptr p3]; rfl
    have ln2 : loadS none (.ptr h'.next 2) H = some (encSl encI 1 g.at_) := by rw [load_ptr p3]; rfl
    have ln3 : loadS none (.ptr h'.next 3) H = some (encSl encI 1 g.kids) := by rw [load_ptr p3]; rfl
    have set0 : ∀ (b : Bool), (H.set 2 (.cells ((d.set i b).map bv))).get 0 = some (.cells (encCirc c)) := fun b => by rw [Heap.get_set, if_neg (by omega)]; exact p0
    have set1 : ∀ (b : Bool), (H.set 2 (.cells ((d.set i b).map bv))).get 1 = some (.cells (encStrc s)) := fun b => by rw [Heap.get_set, if_neg (by omega)]; exact p1
    have set2 : ∀ (b : Bool), (H.set 2 (.cells ((d.set i b).map bv))).get 2 = some (.cells ((d.set i b).map bv)) := fun b => by rw [Heap.get_set, if_pos rfl]
    rw [F.ref11_Run.L0_eq]
    simp only [e2, e3, e5, e6, e7, bindO_some, bindO2_some, outK_ret, condB_bool, cond_t, cond_f, fa_ptr, fa_iptr, part_none, Nat.zero_add, Nat.add_zero, Nat.reduceAdd, List.getElem?_cons_zero, List.getElem?_cons_succ, len_str, lenS_enc, lss_int, leq_int, gtr_int, geq_int, eq_int, ne_int, eq_str, ne_str, eq_bool, ne_bool, not_bool, extract_0, extract_1, extract_2, setV_eq, Nat.reduceEqDiff, reduceIte, l0, lt_true hi, iaS_enc c.gates hi, load_agg len_encGate hg, hst, ln0, int_beq]
    by_cases c0 : g.kind = 0
    · simp only [decide_eq_true c0, cond_t, ia_sl hi, store_bl p2 hdi, succ_i64 hi hc.1, bindO_some]
      rw [valueB, if_pos c0] at hd
      exact hnx _ _ ⟨_, hd, by simpa using hdl, set0 _, set1 _, set2 _, by rw [Heap.next_set]; omega, e2, e3, e5, e6, rfl⟩
    simp only [decide_eq_false c0, cond_f]
    have hgm := List.mem_of_getElem? hg
    by_cases c1 : g.kind = 1
    · rw [valueB, if_neg c0, if_pos c1] at hd
      simp only [decide_eq_true c1, cond_t, e3, fa_ptr, Nat.zero_add, Nat.add_zero, bindO_some, ls, ln2]
      refine semCall_true (ref01_Rank n1 n64 (hr.len g hgm c1) (hr.pow g hgm c1) (hr.in_ g hgm c1) ?_)
      simp only [bindO_some, bindO2_some, outK_ret, condB_bool, cond_t, cond_f, fa_ptr, fa_iptr, part_none, Nat.zero_add, Nat.add_zero, Nat.reduceAdd, List.getElem?_cons_zero, List.getElem?_cons_succ, len_str, lenS_enc, lss_int, leq_int, gtr_int, geq_int, eq_int, ne_int, eq_str, ne_str, eq_bool, ne_bool, not_bool, extract_0, extract_1, extract_2, setV_eq, Nat.reduceEqDiff, reduceIte]
      refine loopB_range 0 x.l.length (Nat.zero_le _) (fun j e h2 => h2.get 0 = some (.cells (encCirc c)) ∧ h2.get 1 = some (.cells (encStrc s)) ∧ h2.get 2 = some (.cells ((d.set i (bitT g.name (rkN n' g.at_.l) (x.l.take j) (atB d (i : Int)))).map bv)) ∧ h2.get h'.next = some (.cells (encGate g)) ∧ h'.next + 1 ≤ h2.next ∧
        e 2 = .ptr 0 0 ∧ e 3 = .ptr 1 0 ∧ e 5 = .slice 2 0 c.gates.l.length 1 ∧ e 6 = encSl encTb 3 x ∧ e 7 = .int .i64 (i : Int) ∧ e 8 = .ptr h'.next 0 ∧ e 9 = .int .i64 ((rkN n' g.at_.l : Nat) : Int) ∧ e 11 = .int .i64 (j : Int))
        ⟨p0, p1, by rw [List.take_zero, bitT, setB_self (atB_get hdi)]; exact p2, p3, by omega, e2, e3, e5, e6, e7, rfl, rfl, rfl⟩ ?_ ?_
      · rintro j e h2 _ hj ⟨r0, r1, r2, r3, rn, e2, e3, e5, e6, e7, e8, e9, e11⟩ K2 hn2 hx2 hr2 hp2
        have ht : x.l[j]? = some x.l[j] := List.getElem?_eq_getElem hj
        generalize x.l[j] = t at ht
        have lg : loadS none (.ptr h'.next 1) h2 = some (.str g.name) := by rw [load_ptr r3]; rfl
        have hst : bitT g.name (rkN n' g.at_.l) (x.l.take (j + 1)) (atB d (i : Int)) = if (t.name == g.name) = true then t.bits.getD (rkN n' g.at_.l) false else bitT g.name (rkN n' g.at_.l) (x.l.take j) (atB d (i : Int)) := by
          rw [List.take_add_one, ht, bitT_append]; rfl
        rw [F.ref11_Run.L1_eq]
        simp only [e5, e6, e7, e8, e9, e11, bindO_some, bindO2_some, outK_ret, condB_bool, cond_t, cond_f, fa_ptr, fa_iptr, part_none, Nat.zero_add, Nat.add_zero, Nat.reduceAdd, List.getElem?_cons_zero, List.getElem?_cons_succ, len_str, lenS_enc, lss_int, leq_int, gtr_int, geq_int, eq_int, ne_int, eq_str, ne_str, eq_bool, ne_bool, not_bool, extract_0, extract_1, extract_2, setV_eq, Nat.reduceEqDiff, reduceIte, lt_true hj, iaS_enc x hj, get_tab ht, lg]
        cases hq : t.name == g.name with
        | true =>
          rw [hq, if_pos rfl] at hst
          have hbit := hr.bit g hgm c1 t (List.mem_of_getElem? ht) (by simpa using hq)
          have hb2 : t.bits[rkN n' g.at_.l]? = some (t.bits.getD (rkN n' g.at_.l) false) := by rw [List.getD_eq_getElem?_getD, List.getElem?_eq_getElem hbit]; rfl
          have ib := iaS_enc (enc := encB) (sz := 1) (k := .i64) (some t.bits) (i := rkN n' g.at_.l) hbit
          have gb : ∀ h, loadS none (.iptr (Sl.l (some t.bits) |>.flatMap encB) (rkN n' g.at_.l * 1)) h = some (.bool (t.bits.getD (rkN n' g.at_.l) false)) := fun h => get_bits (x := some t.bits) hb2
          simp only [cond_t, get_tab2 ht, bindO_some, ib, gb, ia_sl hi, store_bl r2 (show i < (d.set i (bitT g.name (rkN n' g.at_.l) (x.l.take j) (atB d (i : Int)))).length by simpa using hdi), succ_i64 hj hxl]
          refine hn2 _ _ ⟨by rw [Heap.get_set, if_neg (by omega)]; exact r0, by rw [Heap.get_set, if_neg (by omega)]; exact r1, by rw [Heap.get_set, if_pos rfl, List.set_set, hst], by rw [Heap.get_set, if_neg (by omega)]; exact r3, by rw [Heap.next_set]; exact rn, e2, e3, e5, e6, e7, e8, e9, rfl⟩
        | false =>
          rw [hq, if_neg (by decide)] at hst
          simp only [cond_f, succ_i64 hj hxl, bindO_some]
          exact hn2 _ _ ⟨r0, r1, by rw [hst]; exact r2, r3, rn, e2, e3, e5, e6, e7, e8, e9, rfl⟩
      · rintro e h2 ⟨r0, r1, r2, r3, rn, e2, e3, e5, e6, e7, e8, e9, e11⟩ K2 hx2
        rw [F.ref11_Run.L1_eq]
        simp only [e6, e11, bindO_some, bindO2_some, outK_ret, condB_bool, cond_t, cond_f, fa_ptr, fa_iptr, part_none, Nat.zero_add, Nat.add_zero, Nat.reduceAdd, List.getElem?_cons_zero, List.getElem?_cons_succ, len_str, lenS_enc, lss_int, leq_int, gtr_int, geq_int, eq_int, ne_int, eq_str, ne_str, eq_bool, ne_bool, not_bool, extract_0, extract_1, extract_2, setV_eq, Nat.reduceEqDiff, reduceIte, lt_false]
        rw [hx2, F.ref11_Run.L1_x5_eq]
        simp only [bindO_some, bindO2_some, outK_ret, condB_bool, cond_t, cond_f, fa_ptr, fa_iptr, part_none, Nat.zero_add, Nat.add_zero, Nat.reduceAdd, List.getElem?_cons_zero, List.getElem?_cons_succ, len_str, lenS_enc, lss_int, leq_int, gtr_int, geq_int, eq_int, ne_int, eq_str, ne_str, eq_bool, ne_bool, not_bool, extract_0, extract_1, extract_2, setV_eq, Nat.reduceEqDiff, reduceIte, e7, succ_i64 hi hc.1]
        rw [List.take_of_length_le (Nat.le_refl _)] at r2
        exact hnx _ _ ⟨_, hd, by simpa using hdl, r0, r1, r2, by omega, e2, e3, e5, e6, rfl⟩
    simp only [decide_eq_false c1, cond_f]
    by_cases c2 : g.kind = 2
    · rw [valueB, if_neg c0, if_neg c1, if_pos c2] at hd
      have hk1 : g.kids.l.length = 1 := by
        have hq := hfg
        simp only [fitB, if_neg c1, Bool.and_eq_true] at hq
        have h4 := hq.2.2.2.2.2
        simpa [c2] using h4
      have hv0 : g.kids.l[0]? = some (g.kids.l.getD 0 0) := by rw [List.getD_eq_getElem?_getD, List.getElem?_eq_getElem (by omega)]; rfl
      generalize g.kids.l.getD 0 0 = v at hv0 hd
      obtain ⟨v0, v1⟩ := fit_kids hfg hv0
      obtain ⟨vn, rfl⟩ : ∃ vn : Nat, v = (vn : Int) := ⟨v.toNat, by omega⟩
      have ik : iaS 1 (encSl encI 1 g.kids) (.int .i64 0) = some (.iptr (g.kids.l.flatMap encI) (0 * 1)) := iaS_enc g.kids (i := 0) (by omega)
      simp only [decide_eq_true c2, cond_t, ln3, ik, get_ints hv0, ia_sl (show vn < c.gates.l.length by omega), load_bl p2 (atB_get (show vn < d.length by omega)), not_bool, ia_sl hi, store_bl p2 hdi, succ_i64 hi hc.1, bindO_some, fa_ptr, Nat.zero_add]
      exact hnx _ _ ⟨_, hd, by simpa using hdl, set0 _, set1 _, set2 _, by rw [Heap.next_set]; omega, e2, e3, e5, e6, rfl⟩
    simp only [decide_eq_false c2, cond_f]
    rw [valueB, if_neg c0, if_neg c1, if_neg c2] at hd
    simp only [ia_sl hi, store_bl p2 hdi, bindO_some, fa_ptr, Nat.zero_add, Nat.add_zero, ln0, eq_int, int_beq]
    have hpre : ∀ j, (if ((g.kids.l.take j).any fun k => atB d k != decide (g.kind = 3)) = true then decide (g.kind = 4) else decide (g.kind = 3)) = gateV g.kind d (g.kids.l.take j) := fun _ => rfl
    refine loopB_range 0 g.kids.l.length (Nat.zero_le _) (fun j e h2 => h2.get 0 = some (.cells (encCirc c)) ∧ h2.get 1 = some (.cells (encStrc s)) ∧ h2.get 2 = some (.cells ((d.set i (gateV g.kind d (g.kids.l.take j))).map bv)) ∧ h2.get h'.next = some (.cells (encGate g)) ∧ h'.next + 1 ≤ h2.next ∧
        e 2 = .ptr 0 0 ∧ e 3 = .ptr 1 0 ∧ e 5 = .slice 2 0 c.gates.l.length 1 ∧ e 6 = encSl encTb 3 x ∧ e 7 = .int .i64 (i : Int) ∧ e 8 = .ptr h'.next 0 ∧ e 12 = .int .i64 (j : Int))
        ⟨set0 _, set1 _, by rw [set2]; simp [gateV], by rw [Heap.get_set, if_neg (by omega)]; exact p3, by rw [Heap.next_set]; omega, e2, e3, e5, e6, e7, rfl, rfl⟩ ?_ ?_
    · rintro j e h2 _ hj ⟨r0, r1, r2, r3, rn, e2, e3, e5, e6, e7, e8, e12⟩ K2 hn2 hx2 hr2 hp2
      have ht : g.kids.l[j]? = some g.kids.l[j] := List.getElem?_eq_getElem hj
      generalize g.kids.l[j] = v at ht
      obtain ⟨v0, v1⟩ := fit_kids hfg ht
      obtain ⟨vn, rfl⟩ : ∃ vn : Nat, v = (vn : Int) := ⟨v.toNat, by omega⟩
      have lk : loadS none (.ptr h'.next 3) h2 = some (encSl encI 1 g.kids) := by rw [load_ptr r3]; rfl
      have lkd : loadS none (.ptr h'.next 0) h2 = some (.int .i64 g.kind) := by rw [load_ptr r3]; rfl
      have hat : (d.set i (gateV g.kind d (g.kids.l.take j)))[vn]? = some (atB d (vn : Int)) := by rw [List.getElem?_set_ne (by omega)]; exact atB_get (by omega)
      have hstep : gateV g.kind d (g.kids.l.take (j + 1)) = if (atB d (vn : Int) != decide (g.kind = 3)) = true then decide (g.kind = 4) else gateV g.kind d (g.kids.l.take j) := by
        unfold gateV
        rw [List.take_add_one, ht, List.any_append]
        simp only [Option.toList_some, List.any_cons, List.any_nil, Bool.or_false]
        cases (g.kids.l.take j).any fun k => atB d k != decide (g.kind = 3) <;> cases (atB d (vn : Int) != decide (g.kind = 3)) <;> simp
      rw [F.ref11_Run.L2_eq]
      simp only [e5, e7, e8, e12, bindO_some, bindO2_some, outK_ret, condB_bool, cond_t, cond_f, fa_ptr, fa_iptr, part_none, Nat.zero_add, Nat.add_zero, Nat.reduceAdd, List.getElem?_cons_zero, List.getElem?_cons_succ, len_str, lenS_enc, lss_int, leq_int, gtr_int, geq_int, eq_int, ne_int, eq_str, ne_str, eq_bool, ne_bool, not_bool, extract_0, extract_1, extract_2, setV_eq, Nat.reduceEqDiff, reduceIte, lk, lkd, lt_true hj, iaS_enc g.kids hj, get_ints ht, ia_sl (show vn < c.gates.l.length by omega), load_bl r2 hat, int_beq]
      rw [show (!(atB d (vn : Int) == decide (g.kind = 3))) = (atB d (vn : Int) != decide (g.kind = 3)) from rfl]
      cases hq : (atB d (vn : Int) != decide (g.kind = 3)) with
      | true =>
        rw [hq, if_pos rfl] at hstep
        simp only [cond_t, ia_sl hi, store_bl r2 (show i < (d.set i (gateV g.kind d (g.kids.l.take j))).length by simpa using hdi), succ_i64 hj hgo.2.2, bindO_some]
        exact hn2 _ _ ⟨by rw [Heap.get_set, if_neg (by omega)]; exact r0, by rw [Heap.get_set, if_neg (by omega)]; exact r1, by rw [Heap.get_set, if_pos rfl, List.set_set, hstep], by rw [Heap.get_set, if_neg (by omega)]; exact r3, by rw [Heap.next_set]; exact rn, e2, e3, e5, e6, e7, e8, rfl⟩
      | false =>
        rw [hq, if_neg (by decide)] at hstep
        simp only [cond_f, succ_i64 hj hgo.2.2, bindO_some]
        exact hn2 _ _ ⟨r0, r1, by rw [hstep]; exact r2, r3, rn, e2, e3, e5, e6, e7, e8, rfl⟩
    · rintro e h2 ⟨r0, r1, r2, r3, rn, e2, e3, e5, e6, e7, e8, e12⟩ K2 hx2
      have lk : loadS none (.ptr h'.next 3) h2 = some (encSl encI 1 g.kids) := by rw [load_ptr r3]; rfl
      rw [F.ref11_Run.L2_eq]
      simp only [e8, e12, bindO_some, bindO2_some, outK_ret, condB_bool, cond_t, cond_f, fa_ptr, fa_iptr, part_none, Nat.zero_add, Nat.add_zero, Nat.reduceAdd, List.getElem?_cons_zero, List.getElem?_cons_succ, len_str, lenS_enc, lss_int, leq_int, gtr_int, geq_int, eq_int, ne_int, eq_str, ne_str, eq_bool, ne_bool, not_bool, extract_0, extract_1, extract_2, setV_eq, Nat.reduceEqDiff, reduceIte, lk, lt_false]
      rw [hx2, F.ref11_Run.L2_x3_eq]
      simp only [bindO_some, bindO2_some, outK_ret, condB_bool, cond_t, cond_f, fa_ptr, fa_iptr, part_none, Nat.zero_add, Nat.add_zero, Nat.reduceAdd, List.getElem?_cons_zero, List.getElem?_cons_succ, len_str, lenS_enc, lss_int, leq_int, gtr_int, geq_int, eq_int, ne_int, eq_str, ne_str, eq_bool, ne_bool, not_bool, extract_0, extract_1, extract_2, setV_eq, Nat.reduceEqDiff, reduceIte, e7, succ_i64 hi hc.1]
      rw [List.take_of_length_le (Nat.le_refl _)] at r2
      exact hnx _ _ ⟨_, hd, by simpa using hdl, r0, r1, r2, by omega, e2, e3, e5, e6, rfl⟩
  · rintro e h' ⟨d, hd, hdl, q0, q1, q2, qn, e2, e3, e5, e6, e7⟩ K' hx'
    have l0 : loadS none (.ptr 0 1) h' = some (encSl encGate 4 c.gates) := by rw [load_ptr q0]; rfl
    rw [F.ref11_Run.L0_eq]
    simp only [e2, e7, bindO_some, bindO2_some, outK_ret, condB_bool, cond_t, cond_f, fa_ptr, fa_iptr, part_none, Nat.zero_add, Nat.add_zero, Nat.reduceAdd, List.getElem?_cons_zero, List.getElem?_cons_succ, len_str, lenS_enc, lss_int, leq_int, gtr_int, geq_int, eq_int, ne_int, eq_str, ne_str, eq_bool, ne_bool, not_bool, extract_0, extract_1, extract_2, setV_eq, Nat.reduceEqDiff, reduceIte, l0, lt_false]
    rw [hx', F.ref11_Run.L0_x0_eq]
    rw [List.drop_of_length_le (Nat.le_refl _)] at hd
    simp only [valGo] at hd
    have hlen : ∀ h : Heap, lenS .slice (.slice 2 0 c.gates.l.length 1) h = some (.int .i64 (c.gates.l.length : Int)) := fun _ => rfl
    simp only [setV_eq, Nat.reduceEqDiff, reduceIte, e5, hlen, bindO_some, pred_i64 hl2 hc.1, ia_sl (show c.gates.l.length - 1 < c.gates.l.length by omega), load_bl q2 (atB_get (show c.gates.l.length - 1 < d.length by omega))]
    rw [valB, hd]
    exact frzK_same rfl
end
end Go.AM
/- The value of a circuit over bits in a map: a kid's question. Conditions: none. -/
namespace Go.AM
open Go Go.Proofs
set_option linter.unusedVariables false
set_option linter.unusedSimpArgs false
noncomputable section

/-- result's inner function: whether a kid's bit is what the gate looks for. -/
theorem result_1 {bp gp b N : Nat} {h : Heap} {d : List Bool} {kind : Int} {rest : List AV} (hp : h.get bp = some (.cells [.slice b 0 N 1])) (hb : h.get b = some (.cells (d.map bv))) (hN : N = d.length) (hg : h.get gp = some (.cells (.int .i64 kind :: rest)))
    (v : Int) (v0 : 0 ≤ v) (v1 : v < (N : Int)) (K : Out → Heap → Bool) (hK : K (.ret (.bool (atB d v == decide (kind = 4)))) h = true) : Sem Tryz.prog 113 ([] ++ ([.int .i64 v] ++ [.ptr bp 0, .ptr gp 0])) h K := by
  refine F.gate_result_1_sem ?_
  obtain ⟨vn, rfl⟩ : ∃ vn : Nat, v = (vn : Int) := ⟨v.toNat, by omega⟩
  have l1 : loadS none (.ptr bp 0) h = some (.slice b 0 N 1) := by rw [load_ptr hp]; rfl
  have l2 : loadS none (.ptr gp 0) h = some (.int .i64 kind) := by rw [load_ptr hg]; rfl
  simp only [bindO_some, bindO2_some, outK_ret, condB_bool, cond_t, cond_f, fa_ptr, fa_iptr, part_none, Nat.zero_add, Nat.add_zero, Nat.reduceAdd, List.getElem?_cons_zero, List.getElem?_cons_succ, len_str, lenS_enc, lss_int, leq_int, gtr_int, geq_int, eq_int, ne_int, eq_str, ne_str, eq_bool, ne_bool, not_bool, extract_0, extract_1, extract_2, setV_eq, Nat.reduceEqDiff, reduceIte, l1, l2, ia_sl (show vn < N by omega), load_bl hb (atB_get (show vn < d.length by omega)), int_beq]
  exact hK
end
end Go.AM
/- The inputs' names as the program finds them: births of the map's entries; what stands in it. Conditions: none. -/
namespace Go.AM
open Go Go.Proofs
set_option linter.unusedVariables false
set_option linter.unusedSimpArgs false
noncomputable section

theorem gate_symbols_b {c : Circ} (hc : c.ok) {h : Heap} {K : Out → Heap → Bool} (hno : symsOf c = none → ∀ h', HExt h h' → K (.ret (.tuple [.nilm, .bool false])) h' = true)
    (hyes : ∀ m h' es ck, symsOf c = some m → HExt h h' → h'.get (h.next + 1) = some (.map es ck) → MapI es m → Births es ck → h.next + 1 < h'.next → K (.ret (.tuple [.map (h.next + 1), .bool true])) h' = true) : Sem Tryz.prog 54 [.agg (encCirc c)] h K := by
  refine F.gate_symbols_sem ?_
  simp only [box_agg (one_encCirc c), bindO_some, Heap.next_alloc]
  have b0 : (Heap.alloc (Heap.alloc h (.cells (encCirc c))) (.map [] 0)).get h.next = some (.cells (encCirc c)) := by
    rw [Heap.get_alloc, Heap.next_alloc, if_neg (by omega)]; exact get_alloc_same _ _
  have b1 : (Heap.alloc (Heap.alloc h (.cells (encCirc c))) (.map [] 0)).get (h.next + 1) = some (.map [] 0) := get_alloc_same _ _
  have bn : (Heap.alloc (Heap.alloc h (.cells (encCirc c))) (.map [] 0)).next = h.next + 2 := rfl
  have bx : HExt h (Heap.alloc (Heap.alloc h (.cells (encCirc c))) (.map [] 0)) := (HExt.alloc _ _).trans (HExt.alloc _ _)
  generalize (Heap.alloc (Heap.alloc h (.cells (encCirc c))) (.map [] 0)) = H0 at b0 b1 bn bx ⊢
  simp only [bindO_some, bindO2_some, outK_ret, condB_bool, cond_t, cond_f, fa_ptr, fa_iptr, part_none, Nat.zero_add, Nat.add_zero, Nat.reduceAdd, List.getElem?_cons_zero, List.getElem?_cons_succ, len_str, lenS_enc, lss_int, leq_int, gtr_int, geq_int, eq_int, ne_int, eq_str, ne_str, eq_bool, ne_bool, not_bool, extract_0, extract_1, extract_2, setV_eq, Nat.reduceEqDiff, reduceIte, load_ptr b0, encCirc]
  cases s1 : decide (c.size < 1) with
  | true => simp only [cond_t]; exact hno (by simp only [symsOf, sizeB, s1]; rfl) _ bx
  | false =>
  simp only [cond_f]
  cases s2 : decide (64 < c.size) with
  | true => simp only [cond_t]; exact hno (by simp only [symsOf, sizeB, s1, s2]; rfl) _ bx
  | false =>
  simp only [cond_f]
  cases s3 : decide ((c.gates.l.length : Int) < 1) with
  | true => simp only [cond_t]; exact hno (by simp only [symsOf, sizeB, s1, s2, s3]; rfl) _ bx
  | false =>
  simp only [cond_f]
  cases s4 : decide (20000 < (c.gates.l.length : Int)) with
  | true => simp only [cond_t]; exact hno (by simp only [symsOf, sizeB, s1, s2, s3, s4]; rfl) _ bx
  | false =>
  simp only [cond_f]
  have hsy : symsOf c = symsGo c.size c.gates.l 0 [] := by simp only [symsOf, sizeB, s1, s2, s3, s4]; rfl
  rw [hsy] at hno
  simp only [hsy] at hyes
  refine loopB_range 0 c.gates.l.length (Nat.zero_le _) (fun i e h' => ∃ m es ck, symsGo c.size c.gates.l 0 [] = symsGo c.size (c.gates.l.drop i) i m ∧ MapI es m ∧ Births es ck ∧ h'.get h.next = some (.cells (encCirc c)) ∧ h'.get (h.next + 1) = some (.map es ck) ∧
    HExt h h' ∧ h.next + 2 ≤ h'.next ∧ e 1 = .ptr h.next 0 ∧ e 4 = .map (h.next + 1) ∧ e 31 = encSl encGate 4 c.gates ∧ e 32 = .int .i64 (c.gates.l.length : Int) ∧ e 33 = .int .i64 (i : Int))
    ⟨[], [], 0, rfl, trivial, .nil 0, b0, b1, bx, by omega, rfl, rfl, rfl, rfl, rfl⟩ ?_ ?_
  · rintro i e h' _ hi ⟨m, es, ck, hm, he, hB, q0, q1, qx, qn, e1, e4, e31, e32, e33⟩ K' hn hx hr hp
    have hg : c.gates.l[i]? = some c.gates.l[i] := List.getElem?_eq_getElem hi
    generalize c.gates.l[i] = g at hg
    have hgo : g.ok := hc.2 g (List.mem_of_getElem? hg)
    rw [symsGo_step hg] at hm
    obtain ⟨H, hs, g1, go, gn⟩ := store_new (h := h') (zs := [.int .i64 0, .str [], .nils, .nils]) (cs := encGate g) (n := 4) rfl rfl (one_encGate g)
    have p0 : H.get h.next = some (.cells (encCirc c)) := by rw [go _ (by omega)]; exact q0
    have p1 : H.get (h.next + 1) = some (.map es ck) := by rw [go _ (by omega)]; exact q1
    have px : HExt h H := qx.trans ⟨by omega, fun b hb => go b (by omega)⟩
    rw [F.gate_symbols.L0_eq]
    simp only [e1, e4, e31, e32, e33, bindO_some, bindO2_some, outK_ret, condB_bool, cond_t, cond_f, fa_ptr, fa_iptr, part_none, Nat.zero_add, Nat.add_zero, Nat.reduceAdd, List.getElem?_cons_zero, List.getElem?_cons_succ, len_str, lenS_enc, lss_int, leq_int, gtr_int, geq_int, eq_int, ne_int, eq_str, ne_str, eq_bool, ne_bool, not_bool, extract_0, extract_1, extract_2, setV_eq, Nat.reduceEqDiff, reduceIte, lt_true hi, iaS_enc c.gates hi, load_agg len_encGate hg, hs, load_ptr g1, load_ptr p0, part_whole (len_encGate g), encCirc]
    refine semCall_true (gate_fitting hgo ?_)
    simp only [bindO_some, bindO2_some, outK_ret, condB_bool, cond_t, cond_f, fa_ptr, fa_iptr, part_none, Nat.zero_add, Nat.add_zero, Nat.reduceAdd, List.getElem?_cons_zero, List.getElem?_cons_succ, len_str, lenS_enc, lss_int, leq_int, gtr_int, geq_int, eq_int, ne_int, eq_str, ne_str, eq_bool, ne_bool, not_bool, extract_0, extract_1, extract_2, setV_eq, Nat.reduceEqDiff, reduceIte]
    simp only [symsGo] at hm
    cases hf : fitB c.size i g with
    | false =>
      simp only [Bool.not_false, cond_t]
      rw [hf] at hm
      rw [hr, F.gate_symbols.L0_r_eq]
      exact hno hm _ px
    | true =>
      rw [hf] at hm
      simp only [Bool.not_true, cond_f, cond_t, load_ptr g1, encGate, bindO_some, bindO2_some, outK_ret, condB_bool, cond_t, cond_f, fa_ptr, fa_iptr, part_none, Nat.zero_add, Nat.add_zero, Nat.reduceAdd, List.getElem?_cons_zero, List.getElem?_cons_succ, len_str, lenS_enc, lss_int, leq_int, gtr_int, geq_int, eq_int, ne_int, eq_str, ne_str, eq_bool, ne_bool, not_bool, extract_0, extract_1, extract_2, setV_eq, Nat.reduceEqDiff, reduceIte, int_beq] at hm ⊢
      by_cases k1 : g.kind = 1
      · rw [if_pos k1] at hm
        simp only [decide_eq_true k1, Bool.not_true, cond_f, e4, lookup_map p1 he, bindO_some, bindO2_some, outK_ret, condB_bool, cond_t, cond_f, fa_ptr, fa_iptr, part_none, Nat.zero_add, Nat.add_zero, Nat.reduceAdd, List.getElem?_cons_zero, List.getElem?_cons_succ, len_str, lenS_enc, lss_int, leq_int, gtr_int, geq_int, eq_int, ne_int, eq_str, ne_str, eq_bool, ne_bool, not_bool, extract_0, extract_1, extract_2, setV_eq, Nat.reduceEqDiff, reduceIte, int_beq]
        obtain ⟨es', ck', hu, hue⟩ := update_map p1 he g.name g.at_.l.length
        have hgoon : symsGo c.size c.gates.l 0 [] = symsGo c.size (c.gates.l.drop (i + 1)) (i + 1) (m.upd g.name g.at_.l.length) → ∃ m es ck, symsGo c.size c.gates.l 0 [] = symsGo c.size (c.gates.l.drop (i + 1)) (i + 1) m ∧ MapI es m ∧ Births es ck ∧ (H.set (h.next + 1) (.map es' ck')).get h.next = some (.cells (encCirc c)) ∧ (H.set (h.next + 1) (.map es' ck')).get (h.next + 1) = some (.map es ck) ∧ HExt h (H.set (h.next + 1) (.map es' ck')) ∧ h.next + 2 ≤ (H.set (h.next + 1) (.map es' ck')).next := by
          intro hh
          exact ⟨_, es', ck', hh, hue, update_births p1 hB hu (by rw [Heap.get_set, if_pos rfl]), by rw [Heap.get_set, if_neg (by omega)]; exact p0, by rw [Heap.get_set, if_pos rfl], px.set (by omega) _, by rw [Heap.next_set]; omega⟩
        cases hmf : m.find g.name with
        | none =>
          rw [hmf] at hm
          simp only [Option.isSome_none, cond_f, load_ptr g1, encGate, bindO_some, bindO2_some, outK_ret, condB_bool, cond_t, cond_f, fa_ptr, fa_iptr, part_none, Nat.zero_add, Nat.add_zero, Nat.reduceAdd, List.getElem?_cons_zero, List.getElem?_cons_succ, len_str, lenS_enc, lss_int, leq_int, gtr_int, geq_int, eq_int, ne_int, eq_str, ne_str, eq_bool, ne_bool, not_bool, extract_0, extract_1, extract_2, setV_eq, Nat.reduceEqDiff, reduceIte, e4, hu, e33, succ_i64 hi hc.1]
          obtain ⟨m', es1, ck1, a1, a2, aB, a3, a4, a5, a6⟩ := hgoon hm
          exact hn _ _ ⟨m', es1, ck1, a1, a2, aB, a3, a4, a5, a6, e1, e4, e31, e32, rfl⟩
        | some k =>
          rw [hmf] at hm
          simp only [Option.isSome_some, cond_t, Option.getD_some, load_ptr g1, encGate, bindO_some, bindO2_some, outK_ret, condB_bool, cond_t, cond_f, fa_ptr, fa_iptr, part_none, Nat.zero_add, Nat.add_zero, Nat.reduceAdd, List.getElem?_cons_zero, List.getElem?_cons_succ, len_str, lenS_enc, lss_int, leq_int, gtr_int, geq_int, eq_int, ne_int, eq_str, ne_str, eq_bool, ne_bool, not_bool, extract_0, extract_1, extract_2, setV_eq, Nat.reduceEqDiff, reduceIte, int_beq] at hm ⊢
          by_cases hk : k = (g.at_.l.length : Int)
          · rw [if_pos hk] at hm
            simp only [decide_eq_true hk, Bool.not_true, cond_f, load_ptr g1, encGate, bindO_some, bindO2_some, outK_ret, condB_bool, cond_t, cond_f, fa_ptr, fa_iptr, part_none, Nat.zero_add, Nat.add_zero, Nat.reduceAdd, List.getElem?_cons_zero, List.getElem?_cons_succ, len_str, lenS_enc, lss_int, leq_int, gtr_int, geq_int, eq_int, ne_int, eq_str, ne_str, eq_bool, ne_bool, not_bool, extract_0, extract_1, extract_2, setV_eq, Nat.reduceEqDiff, reduceIte, e4, hu, e33, succ_i64 hi hc.1]
            obtain ⟨m', es1, ck1, a1, a2, aB, a3, a4, a5, a6⟩ := hgoon hm
            exact hn _ _ ⟨m', es1, ck1, a1, a2, aB, a3, a4, a5, a6, e1, e4, e31, e32, rfl⟩
          · rw [if_neg hk] at hm
            simp only [decide_eq_false hk, Bool.not_false, cond_t]
            rw [hr, F.gate_symbols.L0_r_eq]
            exact hno hm _ px
      · rw [if_neg k1] at hm
        simp only [decide_eq_false k1, Bool.not_false, cond_t, e33, succ_i64 hi hc.1, bindO_some]
        exact hn _ _ ⟨m, es, ck, hm, he, hB, p0, p1, px, by omega, e1, e4, e31, e32, rfl⟩
  · rintro e h' ⟨m, es, ck, hm, he, hB, q0, q1, qx, qn, e1, e4, e31, e32, e33⟩ K' hx
    rw [F.gate_symbols.L0_eq]
    simp only [e32, e33, bindO_some, bindO2_some, outK_ret, condB_bool, cond_t, cond_f, fa_ptr, fa_iptr, part_none, Nat.zero_add, Nat.add_zero, Nat.reduceAdd, List.getElem?_cons_zero, List.getElem?_cons_succ, len_str, lenS_enc, lss_int, leq_int, gtr_int, geq_int, eq_int, ne_int, eq_str, ne_str, eq_bool, ne_bool, not_bool, extract_0, extract_1, extract_2, setV_eq, Nat.reduceEqDiff, reduceIte, lt_false]
    rw [hx, F.gate_symbols.L0_x0_eq]
    simp only [bindO_some, bindO2_some, outK_ret, condB_bool, cond_t, cond_f, fa_ptr, fa_iptr, part_none, Nat.zero_add, Nat.add_zero, Nat.reduceAdd, List.getElem?_cons_zero, List.getElem?_cons_succ, len_str, lenS_enc, lss_int, leq_int, gtr_int, geq_int, eq_int, ne_int, eq_str, ne_str, eq_bool, ne_bool, not_bool, extract_0, extract_1, extract_2, setV_eq, Nat.reduceEqDiff, reduceIte, e4]
    rw [List.drop_of_length_le (Nat.le_refl _)] at hm
    exact hyes m _ es ck hm qx q1 he hB (by omega)


/-! ### What stands in the map -/
theorem find_updI (m : MapL) (k j : Str) (v : Int) : (m.upd k v).find j = if j = k then some v else m.find j := by
  induction m with
  | nil =>
    simp only [MapL.upd, MapL.find, List.find?_cons, List.find?_nil]
    by_cases h : j = k
    · subst h; simp
    · have : (j == k) = false := by simpa using h
      rw [this, if_neg h]
  | cons p m ih =>
    simp only [MapL.upd]
    by_cases hk : k = p.1
    · rw [if_pos (by simpa using hk)]
      subst hk
      simp only [MapL.find, List.find?_cons]
      by_cases h : j = p.1
      · subst h; simp
      · have : (j == p.1) = false := by simpa using h
        rw [this, if_neg h]
    · rw [if_neg (by simpa using hk)]
      simp only [MapL.find, List.find?_cons] at ih ⊢
      by_cases h : j = p.1
      · subst h
        simp only [beq_self_eq_true, Option.map_some]
        rw [if_neg (Ne.symm hk)]
      · have : (j == p.1) = false := by simpa using h
        rw [this]
        exact ih
theorem keys_upd (m : MapL) (k : Str) (v : Int) : (m.upd k v).map (·.1) = if k ∈ m.map (·.1) then m.map (·.1) else m.map (·.1) ++ [k] := by
  induction m with
  | nil => simp [MapL.upd]
  | cons p m ih =>
    simp only [MapL.upd]
    by_cases hk : k = p.1
    · rw [if_pos (by simpa using hk)]
      subst hk; simp
    · rw [if_neg (by simpa using hk), List.map_cons, ih]
      by_cases hm : k ∈ m.map (·.1)
      · rw [if_pos hm, if_pos (by rw [List.map_cons]; exact List.mem_cons_of_mem _ hm)]; rfl
      · rw [if_neg hm, if_neg (by rw [List.map_cons, List.mem_cons]; exact fun h => h.elim hk hm)]; rfl
theorem nodup_upd {m : MapL} (hm : (m.map (·.1)).Nodup) (k : Str) (v : Int) : ((m.upd k v).map (·.1)).Nodup := by
  rw [keys_upd]
  split
  · exact hm
  · rename_i h
    rw [List.nodup_append]
    exact ⟨hm, by simp, fun a ha b hb => by simp at hb; subst hb; exact fun e => h (e ▸ ha)⟩
theorem find_memI {m : MapL} {k : Str} {v : Int} (h : m.find k = some v) : (k, v) ∈ m := by
  unfold MapL.find at h
  obtain ⟨p, hp, rfl⟩ := Option.map_eq_some_iff.1 h
  have h1 := List.mem_of_find?_eq_some hp
  have h2 := List.find?_some hp
  simp only [beq_iff_eq] at h2
  subst h2; exact h1
theorem mem_findI {m : MapL} (hm : (m.map (·.1)).Nodup) {p : Str × Int} (hp : p ∈ m) : m.find p.1 = some p.2 := by
  induction m with
  | nil => cases hp
  | cons q m ih =>
    rw [List.map_cons, List.nodup_cons] at hm
    simp only [MapL.find, List.find?_cons]
    rcases List.mem_cons.1 hp with rfl | hp
    · simp
    · have : (p.1 == q.1) = false := by
        simp only [beq_eq_false_iff_ne]
        exact fun e => hm.1 (e ▸ List.mem_map_of_mem hp)
      rw [this]
      exact ih hm.2 hp
theorem MapI.mem : ∀ {es : List Entry} {m : MapL}, MapI es m → ∀ e ∈ es, ∃ p ∈ m, e.1 = .str p.1 ∧ e.2.1 = .int .i64 p.2
  | [], _, _, e, he => by cases he
  | e0 :: es, [], h, _, _ => h.elim
  | e0 :: es, p :: m, ⟨h1, h2, h3⟩, e, he => by
    rcases List.mem_cons.1 he with rfl | he
    · exact ⟨p, List.mem_cons_self, h1, h2⟩
    · obtain ⟨q, hq, r⟩ := MapI.mem h3 e he
      exact ⟨q, List.mem_cons_of_mem _ hq, r⟩
theorem MapI.mem' : ∀ {es : List Entry} {m : MapL}, MapI es m → ∀ p ∈ m, ∃ e ∈ es, e.1 = .str p.1 ∧ e.2.1 = .int .i64 p.2
  | _, [], _, p, hp => by cases hp
  | [], q :: m, h, _, _ => h.elim
  | e0 :: es, q :: m, ⟨h1, h2, h3⟩, p, hp => by
    rcases List.mem_cons.1 hp with rfl | hp
    · exact ⟨e0, List.mem_cons_self, h1, h2⟩
    · obtain ⟨e, he, r⟩ := MapI.mem' h3 p hp
      exact ⟨e, List.mem_cons_of_mem _ he, r⟩

structure SymsF (l : List Gate) (m m' : MapL) : Prop where
  ins : ∀ g ∈ l, g.kind = 1 → m'.find g.name = some (g.at_.l.length : Int)
  old : ∀ nm k, m.find nm = some k → m'.find nm = some k
  from_ : ∀ nm k, m'.find nm = some k → m.find nm = some k ∨ ∃ g ∈ l, g.kind = 1 ∧ g.name = nm ∧ k = (g.at_.l.length : Int)
  nodup : (m.map (·.1)).Nodup → (m'.map (·.1)).Nodup
theorem symsGo_facts {n : Int} : ∀ (l : List Gate) (i : Nat) (m m' : MapL), symsGo n l i m = some m' → SymsF l m m'
  | [], i, m, m', h => by
    simp only [symsGo, Option.some.injEq] at h
    subst h
    exact ⟨fun g hg => (by cases hg), fun _ _ h => h, fun _ _ h => .inl h, fun h => h⟩
  | g :: l, i, m, m', h => by
    simp only [symsGo] at h
    cases hf : fitB n i g with
    | false => rw [hf] at h; cases h
    | true =>
      rw [hf] at h
      simp only [cond_t] at h
      by_cases k1 : g.kind = 1
      · rw [if_pos k1] at h
        have hq : (m.find g.name = none ∨ m.find g.name = some (g.at_.l.length : Int)) ∧ symsGo n l (i + 1) (m.upd g.name g.at_.l.length) = some m' := by
          cases hm : m.find g.name with
          | none => rw [hm] at h; exact ⟨.inl rfl, h⟩
          | some k =>
            rw [hm] at h
            simp only at h
            split at h
            · rename_i hk; exact ⟨.inr (by rw [hk]), h⟩
            · cases h
        obtain ⟨hq, h⟩ := hq
        have ih := symsGo_facts l (i + 1) _ m' h
        have hup : ∀ nm k, m.find nm = some k → (m.upd g.name g.at_.l.length).find nm = some k := fun nm k hk => by
          rw [find_updI]
          by_cases e : nm = g.name
          · subst e
            rw [if_pos rfl]
            rcases hq with hq | hq
            · rw [hq] at hk; cases hk
            · rw [hq] at hk; exact hk
          · rw [if_neg e]; exact hk
        have hin : m'.find g.name = some (g.at_.l.length : Int) := ih.old _ _ (by rw [find_updI, if_pos rfl])
        refine ⟨fun g' hg' k1' => ?_, fun nm k hk => ih.old _ _ (hup nm k hk), fun nm k hk => ?_, fun hn => ih.nodup (nodup_upd hn _ _)⟩
        · rcases List.mem_cons.1 hg' with rfl | hg'
          · exact hin
          · exact ih.ins g' hg' k1'
        · rcases ih.from_ nm k hk with h1 | ⟨g', h1, h2⟩
          · rw [find_updI] at h1
            by_cases e : nm = g.name
            · rw [if_pos e] at h1; cases h1
              exact .inr ⟨g, List.mem_cons_self, k1, e.symm, rfl⟩
            · rw [if_neg e] at h1; exact .inl h1
          · exact .inr ⟨g', List.mem_cons_of_mem _ h1, h2⟩
      · rw [if_neg k1] at h
        have ih := symsGo_facts l (i + 1) _ m' h
        refine ⟨fun g' hg' k1' => ?_, ih.old, fun nm k hk => ?_, ih.nodup⟩
        · rcases List.mem_cons.1 hg' with rfl | hg'
          · exact absurd k1' k1
          · exact ih.ins g' hg' k1'
        · rcases ih.from_ nm k hk with h1 | ⟨g', h1, h2⟩
          · exact .inl h1
          · exact .inr ⟨g', List.mem_cons_of_mem _ h1, h2⟩
theorem symsOf_facts {c : Circ} {m : MapL} (h : symsOf c = some m) : SymsF c.gates.l [] m := by
  unfold symsOf at h
  cases hs : sizeB c with
  | false => rw [hs] at h; cases h
  | true => rw [hs] at h; exact symsGo_facts _ _ _ _ h

/-! ### Going through a map, as a loop -/
def leftM (es : List Entry) (seen : List Nat) : Nat := (es.filter fun e => !seen.contains e.2.2).length
theorem leftM_lt {es : List Entry} {seen : List Nat} {e : Entry} (he : e ∈ es) (hs : e.2.2 ∉ seen) : leftM es (seen ++ [e.2.2]) < leftM es seen := by
  have h1 : (es.filter fun a => !(seen ++ [e.2.2]).contains a.2.2) = (es.filter fun a => !seen.contains a.2.2).filter fun a => !(a.2.2 == e.2.2) := by
    rw [List.filter_filter]
    refine List.filter_congr fun a _ => ?_
    rw [Bool.eq_iff_iff]
    simp
    exact And.comm
  unfold leftM
  rw [h1]
  refine List.length_filter_lt_length_iff_exists.2 ⟨e, List.mem_filter.2 ⟨he, by simpa using hs⟩, by simp⟩
theorem loopB_map {f : St → (AX → St → Bool) → Bool} {K : AX → St → Bool} {n : Nat} {defs : List ADef} {e0 : Env} {h0 : Heap} (es : List Entry) (J : List Nat → Env → Heap → Prop) (hJ : J [] e0 h0)
    (step : ∀ seen e h, J seen e h → ∀ K' : AX → St → Bool, (∀ en ∈ es, en.2.2 ∉ seen → ∀ e' h', J (seen ++ [en.2.2]) e' h' → K' .normal ⟨e', n, defs, h'⟩ = true) → (∀ id s, K' (.exit id) s = K (.exit id) s) → (∀ s, K' .ret s = K .ret s) → (∀ v s, K' (.panic v) s = K (.panic v) s) → f ⟨e, n, defs, h⟩ K' = true) :
    loopB f ⟨e0, n, defs, h0⟩ K = true := by
  refine loopB_rule (fun m e h => ∃ seen, m = leftM es seen ∧ J seen e h) (leftM es []) ⟨[], rfl, hJ⟩ fun m e h hi => ?_
  obtain ⟨seen, rfl, hj⟩ := hi
  exact step seen e h hj _ (fun en hen hs e' h' hj' => loopK_normal (I := fun m e h => ∃ seen, m = leftM es seen ∧ J seen e h) (leftM es (seen ++ [en.2.2])) (leftM_lt hen hs) ⟨_, rfl, hj'⟩) (fun _ _ => rfl) (fun _ => rfl) (fun _ _ => rfl)
end
end Go.AM
/- The value of a circuit over bits in a map. Conditions: none. -/
namespace Go.AM
open Go Go.Proofs
set_option linter.unusedVariables false
set_option linter.unusedSimpArgs false
noncomputable section

/-- The map in block `B` leads each name to a row of bits of its own. -/
structure BitsAt (D : Str → Option (Nat × List Bool)) (h : Heap) (B lo : Nat) : Prop where
  ex : ∃ es ck m, h.get B = some (.map es ck) ∧ MapE es m ∧ ∀ nm, m.find nm = (D nm).map fun p => .slice p.1 0 p.2.length 1
  blk : ∀ nm p, D nm = some p → lo ≤ p.1 ∧ p.1 < h.next ∧ p.1 ≠ B ∧ h.get p.1 = some (.cells (p.2.map bv))
  inj : ∀ nm nm' p p', D nm = some p → D nm' = some p' → p.1 = p'.1 → nm = nm'
  lt : B < h.next
theorem BitsAt.ext {D : Str → Option (Nat × List Bool)} {h h' : Heap} {B lo : Nat} (b : BitsAt D h B lo) (hx : HExt h h') : BitsAt D h' B lo := by
  obtain ⟨es, ck, m, h1, h2, h3⟩ := b.ex
  refine ⟨⟨es, ck, m, by rw [hx.get _ b.lt]; exact h1, h2, h3⟩, fun nm p hp => ?_, b.inj, Nat.lt_of_lt_of_le b.lt hx.next⟩
  obtain ⟨q1, q2, q3, q4⟩ := b.blk nm p hp
  exact ⟨q1, Nat.lt_of_lt_of_le q2 hx.next, q3, by rw [hx.get _ q2]; exact q4⟩
def lookD (D : Str → Option (Nat × List Bool)) (nm : Str) (r : Nat) : Bool := match D nm with
  | some p => p.2.getD r false
  | none => false
def valueL (look : Str → Nat → Bool) (n : Nat) (d : List Bool) (g : Gate) : Bool :=
  if g.kind = 0 then true else if g.kind = 1 then look g.name (rkN n g.at_.l) else if g.kind = 2 then !(atB d (g.kids.l.getD 0 0)) else gateV g.kind d g.kids.l
def valL (look : Str → Nat → Bool) (n : Nat) : List Gate → Nat → List Bool → List Bool
  | [], _, d => d
  | g :: gs, i, d => valL look n gs (i + 1) (d.set i (valueL look n d g))
theorem valL_drop {look : Str → Nat → Bool} {n : Nat} {l : List Gate} {i : Nat} {g : Gate} (hg : l[i]? = some g) (d : List Bool) : valL look n (l.drop i) i d = valL look n (l.drop (i + 1)) (i + 1) (d.set i (valueL look n d g)) := by
  have h1 := (List.getElem?_eq_some_iff.1 hg).1
  rw [List.drop_eq_getElem_cons h1]
  rw [List.getElem?_eq_getElem h1] at hg
  cases hg; rfl
def valsL (look : Str → Nat → Bool) (n : Nat) (c : Circ) : List Bool := valL look n c.gates.l 0 (List.replicate c.gates.l.length false)
def valueOf (look : Str → Nat → Bool) (n : Nat) (c : Circ) : Bool := atB (valsL look n c) ((c.gates.l.length - 1 : Nat) : Int)
/-- The inputs' ranks lie in their rows. -/
structure RunsD (n : Nat) (D : Str → Option (Nat × List Bool)) (c : Circ) : Prop where
  len : ∀ g ∈ c.gates.l, g.kind = 1 → g.at_.l.length ≤ 12
  pow : ∀ g ∈ c.gates.l, g.kind = 1 → n ^ g.at_.l.length ≤ 4096
  in_ : ∀ g ∈ c.gates.l, g.kind = 1 → inB n g.at_.l = true
  bit : ∀ g ∈ c.gates.l, g.kind = 1 → ∃ p, D g.name = some p ∧ rkN n g.at_.l < p.2.length

theorem store_new1 {h : Heap} {z v : AV} (h1 : v.cellsL = [v]) (hv : oneAll [v] = true) : ∃ h', storeS 1 (.ptr h.next 0) v (h.alloc (.cells [z])) = some h' ∧ h'.get h.next = some (.cells [v]) ∧ (∀ b, b ≠ h.next → h'.get b = h.get b) ∧ h'.next = h.next + 1 := by
  refine ⟨_, by rw [store_ptr (n := 1) (get_alloc_same _ _) (by rw [h1]; rfl) (by rw [h1]; exact hv) (by simp), h1], ?_, fun b hb => ?_, by rw [Heap.next_set, Heap.next_alloc]⟩
  · rw [Heap.get_set, if_pos rfl]; rfl
  · rw [Heap.get_set, if_neg hb, Heap.get_alloc, if_neg hb]

/-- slices.IndexFunc over numbers, its function known at this heap, for the numbers of the row. -/
theorem IndexFunc_intM {x : Sl Int} (hx : x.l.length ≤ big) {g : FuncId} {a b : List AV} {h : Heap} {p : Int → Bool} (hp : ∀ v ∈ x.l, ∀ (K : Out → Heap → Bool), K (.ret (.bool (p v))) h = true → Sem Tryz.prog g (a ++ ([.int .i64 v] ++ b)) h K)
    {K : Out → Heap → Bool} (hK : ∀ n : Int, decide (0 ≤ n) = x.l.any p → K (.ret (.int .i64 n)) h = true) : Sem Tryz.prog 168 [encSl encI 1 x, .func g a b] h K := by
  refine F.slices_IndexFunc_S_int_int_sem ?_
  simp only [bindO_some, bindO2_some, outK_ret, condB_bool, cond_t, cond_f, fa_ptr, fa_iptr, part_none, Nat.zero_add, Nat.add_zero, Nat.reduceAdd, List.getElem?_cons_zero, List.getElem?_cons_succ, len_str, lenS_enc, lss_int, leq_int, gtr_int, geq_int, eq_int, ne_int, eq_str, ne_str, eq_bool, ne_bool, not_bool, extract_0, extract_1, extract_2, setV_eq, Nat.reduceEqDiff, reduceIte]
  refine loopB_range 0 x.l.length (Nat.zero_le _) (fun i e h' => h' = h ∧ e 0 = encSl encI 1 x ∧ e 1 = .func g a b ∧ e 7 = .int .i64 (x.l.length : Int) ∧ e 8 = .int .i64 (i : Int) ∧ (x.l.take i).any p = false) ⟨rfl, rfl, rfl, rfl, rfl, rfl⟩ ?_ ?_
  · rintro i e h' _ hi ⟨rfl, e0, e1, e7, e8, ht⟩ K' hn hx' hr hp'
    have hv : x.l[i]? = some x.l[i] := List.getElem?_eq_getElem hi
    rw [F.slices_IndexFunc_S_int_int.L0_eq]
    simp only [e0, e1, e7, e8, bindO_some, bindO2_some, outK_ret, condB_bool, cond_t, cond_f, fa_ptr, fa_iptr, part_none, Nat.zero_add, Nat.add_zero, Nat.reduceAdd, List.getElem?_cons_zero, List.getElem?_cons_succ, len_str, lenS_enc, lss_int, leq_int, gtr_int, geq_int, eq_int, ne_int, eq_str, ne_str, eq_bool, ne_bool, not_bool, extract_0, extract_1, extract_2, setV_eq, Nat.reduceEqDiff, reduceIte, lt_true hi, iaS_enc x hi, get_ints hv, callV_func]
    refine semCall_true (hp _ (List.mem_of_getElem? hv) _ ?_)
    simp only [bindO_some, bindO2_some, outK_ret, condB_bool, cond_t, cond_f, fa_ptr, fa_iptr, part_none, Nat.zero_add, Nat.add_zero, Nat.reduceAdd, List.getElem?_cons_zero, List.getElem?_cons_succ, len_str, lenS_enc, lss_int, leq_int, gtr_int, geq_int, eq_int, ne_int, eq_str, ne_str, eq_bool, ne_bool, not_bool, extract_0, extract_1, extract_2, setV_eq, Nat.reduceEqDiff, reduceIte]
    cases hq : p x.l[i] with
    | true =>
      simp only [cond_t]
      rw [hr, F.slices_IndexFunc_S_int_int.L0_r_eq]
      refine hK (i : Int) ?_
      rw [decide_eq_true (by omega : (0 : Int) ≤ (i : Int))]
      exact (List.any_eq_true.2 ⟨_, List.mem_of_getElem? hv, hq⟩).symm
    | false =>
      simp only [cond_f, succ_i64 hi hx, bindO_some]
      exact hn _ _ ⟨rfl, e0, e1, e7, rfl, by rw [List.take_add_one, hv, List.any_append, ht]; simp [hq]⟩
  · rintro e h' ⟨rfl, e0, e1, e7, e8, ht⟩ K' hx'
    rw [F.slices_IndexFunc_S_int_int.L0_eq]
    simp only [e0, e1, e7, e8, bindO_some, bindO2_some, outK_ret, condB_bool, cond_t, cond_f, fa_ptr, fa_iptr, part_none, Nat.zero_add, Nat.add_zero, Nat.reduceAdd, List.getElem?_cons_zero, List.getElem?_cons_succ, len_str, lenS_enc, lss_int, leq_int, gtr_int, geq_int, eq_int, ne_int, eq_str, ne_str, eq_bool, ne_bool, not_bool, extract_0, extract_1, extract_2, setV_eq, Nat.reduceEqDiff, reduceIte, lt_false]
    rw [hx', F.slices_IndexFunc_S_int_int.L0_x0_eq]
    rw [List.take_of_length_le (Nat.le_refl _)] at ht
    exact hK (-1) (by rw [ht]; rfl)
theorem ContainsFunc_intM {x : Sl Int} (hx : x.l.length ≤ big) {g : FuncId} {a b : List AV} {h : Heap} {p : Int → Bool} (hp : ∀ v ∈ x.l, ∀ (K : Out → Heap → Bool), K (.ret (.bool (p v))) h = true → Sem Tryz.prog g (a ++ ([.int .i64 v] ++ b)) h K)
    {K : Out → Heap → Bool} (hK : K (.ret (.bool (x.l.any p))) h = true) : Sem Tryz.prog 112 [encSl encI 1 x, .func g a b] h K := by
  refine F.slices_ContainsFunc_S_int_int_sem ?_
  refine semCall_true (IndexFunc_intM hx hp fun n hn => ?_)
  simp only [bindO_some, bindO2_some, outK_ret, condB_bool, cond_t, cond_f, fa_ptr, fa_iptr, part_none, Nat.zero_add, Nat.add_zero, Nat.reduceAdd, List.getElem?_cons_zero, List.getElem?_cons_succ, len_str, lenS_enc, lss_int, leq_int, gtr_int, geq_int, eq_int, ne_int, eq_str, ne_str, eq_bool, ne_bool, not_bool, extract_0, extract_1, extract_2, setV_eq, Nat.reduceEqDiff, reduceIte]
  rw [hn]; exact hK

theorem gateV_any {kind : Int} (h : kind = 3 ∨ kind = 4) (d : List Bool) (kids : List Int) : ((kids.any fun k => atB d k == decide (kind = 4)) == decide (kind = 4)) = gateV kind d kids := by
  unfold gateV
  rcases h with rfl | rfl
  · have : (fun k => atB d k == decide ((3 : Int) = 4)) = fun k => atB d k != decide ((3 : Int) = 3) := by
      funext k; cases atB d k <;> rfl
    rw [this]
    cases kids.any fun k => atB d k != decide ((3 : Int) = 3) <;> rfl
  · have : (fun k => atB d k == decide ((4 : Int) = 4)) = fun k => atB d k != decide ((4 : Int) = 3) := by
      funext k; cases atB d k <;> rfl
    rw [this]
    cases kids.any fun k => atB d k != decide ((4 : Int) = 3) <;> rfl

theorem gate_result {c : Circ} {n : Nat} {D : Str → Option (Nat × List Bool)} {B lo : Nat} (hc : c.ok) (hf : c.fits) (hn : c.size = (n : Int)) (n1 : 1 ≤ n) (n64 : n ≤ 64) (hr : RunsD n D c) {h : Heap} (hB : BitsAt D h B lo) {K : Out → Heap → Bool}
    (hK : ∀ h', HExt h h' → K (.ret (.bool (valueOf (lookD D) n c))) h' = true) : Sem Tryz.prog 57 [.agg (encCirc c), .map B] h K := by
  obtain ⟨hl1, hl2, hfit⟩ := hf
  refine F.gate_result_sem ?_
  simp only [box_agg (one_encCirc c), bindO_some]
  have g0 : (Heap.alloc h (.cells (encCirc c))).get h.next = some (.cells (encCirc c)) := get_alloc_same _ _
  have gn : (Heap.alloc h (.cells (encCirc c))).next = h.next + 1 := rfl
  have gx : HExt h (Heap.alloc h (.cells (encCirc c))) := HExt.alloc _ _
  generalize (Heap.alloc h (.cells (encCirc c))) = H1 at g0 gn gx ⊢
  have l1 : loadS none (.ptr h.next 1) H1 = some (encSl encGate 4 c.gates) := by rw [load_ptr g0]; rfl
  simp only [bindO_some, bindO2_some, outK_ret, condB_bool, cond_t, cond_f, fa_ptr, fa_iptr, part_none, Nat.zero_add, Nat.add_zero, Nat.reduceAdd, List.getElem?_cons_zero, List.getElem?_cons_succ, len_str, lenS_enc, lss_int, leq_int, gtr_int, geq_int, eq_int, ne_int, eq_str, ne_str, eq_bool, ne_bool, not_bool, extract_0, extract_1, extract_2, setV_eq, Nat.reduceEqDiff, reduceIte, l1, make_bl (show c.gates.l.length ≤ 1000000 by omega)]
  have q0 : (H1.alloc (.cells ((List.replicate c.gates.l.length false).map bv))).get h.next = some (.cells (encCirc c)) := by rw [Heap.get_alloc, gn, if_neg (by omega)]; exact g0
  have q1 : (H1.alloc (.cells ((List.replicate c.gates.l.length false).map bv))).get (h.next + 1) = some (.cells ((List.replicate c.gates.l.length false).map bv)) := by rw [← gn]; exact get_alloc_same _ _
  have qn : (H1.alloc (.cells ((List.replicate c.gates.l.length false).map bv))).next = h.next + 2 := by rw [Heap.next_alloc, gn]
  have qx : HExt h (H1.alloc (.cells ((List.replicate c.gates.l.length false).map bv))) := gx.trans (HExt.alloc _ _)
  rw [gn]
  generalize (H1.alloc (.cells ((List.replicate c.gates.l.length false).map bv))) = H2 at q0 q1 qn qx ⊢
  obtain ⟨H3, hs3, s0, s1, s2⟩ := store_new1 (h := H2) (z := .nils) (v := .slice (h.next + 1) 0 c.gates.l.length 1) rfl rfl
  rw [qn] at s0 s1 s2 hs3
  have p0 : H3.get h.next = some (.cells (encCirc c)) := by rw [s1 _ (by omega)]; exact q0
  have p1 : H3.get (h.next + 1) = some (.cells ((List.replicate c.gates.l.length false).map bv)) := by rw [s1 _ (by omega)]; exact q1
  have px : HExt h H3 := ⟨by omega, fun b hb => by rw [s1 _ (by omega)]; exact qx.get b hb⟩
  have l3 : loadS none (.ptr h.next 1) H3 = some (encSl encGate 4 c.gates) := by rw [load_ptr p0]; rfl
  simp only [qn, hs3, l3, lenS_enc, bindO_some]
  refine loopB_range 0 c.gates.l.length (Nat.zero_le _) (fun i e h' => ∃ d, valsL (lookD D) n c = valL (lookD D) n (c.gates.l.drop i) i d ∧ d.length = c.gates.l.length ∧ h'.get h.next = some (.cells (encCirc c)) ∧ h'.get (h.next + 1) = some (.cells (d.map bv)) ∧ h'.get (h.next + 2) = some (.cells [.slice (h.next + 1) 0 c.gates.l.length 1]) ∧ HExt h h' ∧ h.next + 3 ≤ h'.next ∧
    e 1 = .map B ∧ e 2 = .ptr h.next 0 ∧ e 5 = .ptr (h.next + 2) 0 ∧ e 15 = encSl encGate 4 c.gates ∧ e 16 = .int .i64 (c.gates.l.length : Int) ∧ e 17 = .int .i64 (i : Int)) ⟨_, rfl, by simp, p0, p1, s0, px, by omega, rfl, rfl, rfl, rfl, rfl, rfl⟩ ?_ ?_
  · rintro i e h' _ hi ⟨d, hd, hdl, q0, q1, q2, qx, qn, e1, e2, e5, e15, e16, e17⟩ K' hnx hx' hrr hp
    have hg : c.gates.l[i]? = some c.gates.l[i] := List.getElem?_eq_getElem hi
    generalize c.gates.l[i] = g at hg
    have hgo : g.ok := hc.2 g (List.mem_of_getElem? hg)
    have hfg := hfit i g hg
    have hgm := List.mem_of_getElem? hg
    rw [valL_drop hg] at hd
    have hdi : i < d.length := by omega
    obtain ⟨H, hst, p3, go, gn⟩ := store_new (h := h') (zs := [.int .i64 0, .str [], .nils, .nils]) (cs := encGate g) (n := 4) rfl rfl (one_encGate g)
    have p0 : H.get h.next = some (.cells (encCirc c)) := by rw [go _ (by omega)]; exact q0
    have p1 : H.get (h.next + 1) = some (.cells (d.map bv)) := by rw [go _ (by omega)]; exact q1
    have p2 : H.get (h.next + 2) = some (.cells [.slice (h.next + 1) 0 c.gates.l.length 1]) := by rw [go _ (by omega)]; exact q2
    have px : HExt h H := qx.trans ⟨by omega, fun b hb => go b (by omega)⟩
    have ls : loadS none (.ptr h.next 0) H = some (.int .i64 (n : Int)) := by rw [load_ptr p0, ← hn]; rfl
    have lv : loadS none (.ptr (h.next + 2) 0) H = some (.slice (h.next + 1) 0 c.gates.l.length 1) := by rw [load_ptr p2]; rfl
    have ln0 : loadS none (.ptr h'.next 0) H = some (.int .i64 g.kind) := by rw [load_ptr p3]; rfl
    have ln1 : loadS none (.ptr h'.next 1) H = some (.str g.name) := by rw [load_ptr p3]; rfl
    have ln2 : loadS none (.ptr h'.next 2) H = some (encSl encI 1 g.at_) := by rw [load_ptr p3]; rfl
    have ln3 : loadS none (.ptr h'.next 3) H = some (encSl encI 1 g.kids) := by rw [load_ptr p3]; rfl
    have set0 : ∀ (b : Bool), (H.set (h.next + 1) (.cells ((d.set i b).map bv))).get h.next = some (.cells (encCirc c)) := fun b => by rw [Heap.get_set, if_neg (by omega)]; exact p0
    have set1 : ∀ (b : Bool), (H.set (h.next + 1) (.cells ((d.set i b).map bv))).get (h.next + 1) = some (.cells ((d.set i b).map bv)) := fun b => by rw [Heap.get_set, if_pos rfl]
    have set2 : ∀ (b : Bool), (H.set (h.next + 1) (.cells ((d.set i b).map bv))).get (h.next + 2) = some (.cells [.slice (h.next + 1) 0 c.gates.l.length 1]) := fun b => by rw [Heap.get_set, if_neg (by omega)]; exact p2
    have setx : ∀ (b : Bool), HExt h (H.set (h.next + 1) (.cells ((d.set i b).map bv))) := fun b => px.set (by omega) _
    have setn : ∀ (b : Bool), h.next + 3 ≤ (H.set (h.next + 1) (.cells ((d.set i b).map bv))).next := fun b => by rw [Heap.next_set]; omega
    rw [F.gate_result.L0_eq]
    simp only [e1, e2, e5, e15, e16, e17, bindO_some, bindO2_some, outK_ret, condB_bool, cond_t, cond_f, fa_ptr, fa_iptr, part_none, Nat.zero_add, Nat.add_zero, Nat.reduceAdd, List.getElem?_cons_zero, List.getElem?_cons_succ, len_str, lenS_enc, lss_int, leq_int, gtr_int, geq_int, eq_int, ne_int, eq_str, ne_str, eq_bool, ne_bool, not_bool, extract_0, extract_1, extract_2, setV_eq, Nat.reduceEqDiff, reduceIte, lt_true hi, iaS_enc c.gates hi, load_agg len_encGate hg, hst, ln0, int_beq]
    by_cases c0 : g.kind = 0
    · simp only [decide_eq_true c0, cond_t, lv, ia_sl hi, store_bl p1 hdi, succ_i64 hi hc.1, bindO_some]
      rw [valueL, if_pos c0] at hd
      exact hnx _ _ ⟨_, hd, by simpa using hdl, set0 _, set1 _, set2 _, setx _, setn _, e1, e2, e5, e15, e16, rfl⟩
    simp only [decide_eq_false c0, cond_f]
    by_cases c1 : g.kind = 1
    · rw [valueL, if_neg c0, if_pos c1] at hd
      obtain ⟨p, hp1, hp2⟩ := hr.bit g hgm c1
      have hBH := hB.ext px
      obtain ⟨mes, mck, mm, m1, m2, m3⟩ := hBH.ex
      obtain ⟨k1, k2, k3, k4⟩ := hBH.blk _ _ hp1
      have hlk : lookupS .string .nils false (.map B) (.str g.name) H = some (.slice p.1 0 p.2.length 1) := by rw [lookup_mapA m1 m2, m3, hp1]; rfl
      have hbit : p.2[rkN n g.at_.l]? = some (lookD D g.name (rkN n g.at_.l)) := by
        unfold lookD; rw [hp1]; simp only; rw [List.getD_eq_getElem?_getD, List.getElem?_eq_getElem hp2]; rfl
      simp only [decide_eq_true c1, cond_t, fa_ptr, Nat.zero_add, Nat.add_zero, bindO_some, ls, ln2]
      refine semCall_true (shape_Rank n1 n64 (hr.len g hgm c1) (hr.pow g hgm c1) (hr.in_ g hgm c1) ?_)
      simp only [bindO_some, bindO2_some, outK_ret, condB_bool, cond_t, cond_f, fa_ptr, fa_iptr, part_none, Nat.zero_add, Nat.add_zero, Nat.reduceAdd, List.getElem?_cons_zero, List.getElem?_cons_succ, len_str, lenS_enc, lss_int, leq_int, gtr_int, geq_int, eq_int, ne_int, eq_str, ne_str, eq_bool, ne_bool, not_bool, extract_0, extract_1, extract_2, setV_eq, Nat.reduceEqDiff, reduceIte, e1, e5, e17, lv, ln1, hlk, ia_sl hp2, load_bl k4 hbit, ia_sl hi, store_bl p1 hdi, succ_i64 hi hc.1]
      exact hnx _ _ ⟨_, hd, by simpa using hdl, set0 _, set1 _, set2 _, setx _, setn _, e1, e2, e5, e15, e16, rfl⟩
    simp only [decide_eq_false c1, cond_f]
    by_cases c2 : g.kind = 2
    · rw [valueL, if_neg c0, if_neg c1, if_pos c2] at hd
      have hk1 : g.kids.l.length = 1 := by
        have hq := hfg
        simp only [fitB, if_neg c1, Bool.and_eq_true] at hq
        have h4 := hq.2.2.2.2.2
        simpa [c2] using h4
      have hv0 : g.kids.l[0]? = some (g.kids.l.getD 0 0) := by rw [List.getD_eq_getElem?_getD, List.getElem?_eq_getElem (by omega)]; rfl
      generalize g.kids.l.getD 0 0 = v at hv0 hd
      obtain ⟨v0, v1⟩ := fit_kids hfg hv0
      obtain ⟨vn, rfl⟩ : ∃ vn : Nat, v = (vn : Int) := ⟨v.toNat, by omega⟩
      have ik : iaS 1 (encSl encI 1 g.kids) (.int .i64 0) = some (.iptr (g.kids.l.flatMap encI) (0 * 1)) := iaS_enc g.kids (i := 0) (by omega)
      simp only [decide_eq_true c2, cond_t, lv, ln3, ik, get_ints hv0, ia_sl (show vn < c.gates.l.length by omega), load_bl p1 (atB_get (show vn < d.length by omega)), not_bool, ia_sl hi, store_bl p1 hdi, succ_i64 hi hc.1, bindO_some, fa_ptr, Nat.zero_add]
      exact hnx _ _ ⟨_, hd, by simpa using hdl, set0 _, set1 _, set2 _, setx _, setn _, e1, e2, e5, e15, e16, rfl⟩
    simp only [decide_eq_false c2, cond_f]
    rw [valueL, if_neg c0, if_neg c1, if_neg c2] at hd
    have hk34 : g.kind = 3 ∨ g.kind = 4 := by
      have hq := hfg
      simp only [fitB, Bool.and_eq_true] at hq
      have h1 := of_decide_eq_true hq.1
      have h2 := of_decide_eq_true hq.2.1
      omega
    rw [← gateV_any hk34] at hd
    simp only [lv, ln3, ln0, bindO_some, fa_ptr, Nat.zero_add, Nat.add_zero, eq_int, int_beq]
    refine semCall_true (ContainsFunc_intM hgo.2.2 (p := fun v => atB d v == decide (g.kind = 4)) (fun v hv K2 hK2 => ?_) ?_)
    · obtain ⟨j, hj⟩ := List.getElem?_of_mem hv
      obtain ⟨v0, v1⟩ := fit_kids hfg hj
      exact result_1 p2 p1 (by omega) p3 v v0 (by omega) K2 hK2
    · simp only [outK_ret, e5, lv, ln0, bindO_some, AV.beq_refl, Bool.and_self, if_true, eq_bool, e17, ia_sl hi, store_bl p1 hdi, succ_i64 hi hc.1]
      exact hnx _ _ ⟨_, hd, by simpa using hdl, set0 _, set1 _, set2 _, setx _, setn _, e1, e2, e5, e15, e16, rfl⟩
  · rintro e h' ⟨d, hd, hdl, q0, q1, q2, qx, qn, e1, e2, e5, e15, e16, e17⟩ K' hx'
    rw [F.gate_result.L0_eq]
    simp only [e16, e17, bindO_some, bindO2_some, outK_ret, condB_bool, cond_t, cond_f, fa_ptr, fa_iptr, part_none, Nat.zero_add, Nat.add_zero, Nat.reduceAdd, List.getElem?_cons_zero, List.getElem?_cons_succ, len_str, lenS_enc, lss_int, leq_int, gtr_int, geq_int, eq_int, ne_int, eq_str, ne_str, eq_bool, ne_bool, not_bool, extract_0, extract_1, extract_2, setV_eq, Nat.reduceEqDiff, reduceIte, lt_false]
    rw [hx', F.gate_result.L0_x0_eq]
    rw [List.drop_of_length_le (Nat.le_refl _)] at hd
    simp only [valL] at hd
    have lv : loadS none (.ptr (h.next + 2) 0) h' = some (.slice (h.next + 1) 0 c.gates.l.length 1) := by rw [load_ptr q2]; rfl
    have hlen : ∀ h2 : Heap, lenS .slice (.slice (h.next + 1) 0 c.gates.l.length 1) h2 = some (.int .i64 (c.gates.l.length : Int)) := fun _ => rfl
    simp only [setV_eq, Nat.reduceEqDiff, reduceIte, e5, lv, hlen, bindO_some, pred_i64 hl2 hc.1, ia_sl (show c.gates.l.length - 1 < c.gates.l.length by omega), load_bl q1 (atB_get (show c.gates.l.length - 1 < d.length by omega))]
    have := hK _ qx
    rw [valueOf, hd] at this
    exact this
end
end Go.AM
/- The structure's relations as bits by ranks, in a map. Conditions: none. -/
namespace Go.AM
open Go Go.Proofs
set_option linter.unusedVariables false
set_option linter.unusedSimpArgs false
noncomputable section

theorem tup_in {n k : Nat} {l : List (Sl Int)} (h : tupB n k l = true) {i : Nat} {t : Sl Int} (ht : l[i]? = some t) : t.l.length = k ∧ inB n t.l = true := by
  have := allN_get h (List.getElem?_eq_some_iff.1 ht).1
  unfold tupAt at this
  rw [ht] at this
  simp only [Bool.and_eq_true, decide_eq_true_eq] at this
  exact ⟨this.1, this.2.1⟩
/-- What each name's bits are: those of the relation found by name and arity. -/
structure FitsD (n : Nat) (s : Strc) (m : MapL) (D : Str → Option (Nat × List Bool)) : Prop where
  to : ∀ nm p, D nm = some p → ∃ (k : Nat) (r : Rel), m.find nm = some (k : Int) ∧ s.rels.l.find? (symB nm (k : Int)) = some r ∧ p.2 = bitsOf n k r.tuples.l
/-- All names have bits. -/
def AllD (m : MapL) (D : Str → Option (Nat × List Bool)) : Prop := ∀ p ∈ m, (D p.1).isSome = true

theorem gate_bits {c : Circ} {s : Strc} (hc : c.ok) (hs : s.ok) {h : Heap} {K : Out → Heap → Bool}
    (h1 : (validB c = false ∨ strcB s = false) → ∀ h', HExt h h' → K (.ret (.tuple [.nilm, .nilm, .int .i64 1])) h' = true)
    (h2 : validB c = true → strcB s = true → c.size ≠ s.size → ∀ h', HExt h h' → K (.ret (.tuple [.nilm, .nilm, .int .i64 2])) h' = true)
    (h4 : ∀ m, symsOf c = some m → strcB s = true → c.size = s.size → (∃ p ∈ m, s.rels.l.find? (symB p.1 p.2) = none) → ∀ h', HExt h h' → K (.ret (.tuple [.nilm, .nilm, .int .i64 4])) h' = true)
    (h0 : ∀ m, symsOf c = some m → strcB s = true → c.size = s.size → ∀ h' B M es ck D, HExt h h' → BitsAt D h' B h.next → FitsD s.size.toNat s m D → AllD m D → h'.get M = some (.map es ck) → MapI es m → Births es ck → M < h'.next → h.next ≤ M → M ≠ B → h.next ≤ B → K (.ret (.tuple [.map B, .map M, .int .i64 0])) h' = true) :
    Sem Tryz.prog 56 [.agg (encCirc c), .agg (encStrc s)] h K := by
  refine F.gate_bits_sem ?_
  simp only [box_agg (one_encCirc c), box_agg (one_encStrc s), bindO_some, Heap.next_alloc]
  have g0 : (Heap.alloc (Heap.alloc h (.cells (encCirc c))) (.cells (encStrc s))).get h.next = some (.cells (encCirc c)) := by rw [Heap.get_alloc, Heap.next_alloc, if_neg (by omega)]; exact get_alloc_same _ _
  have g1 : (Heap.alloc (Heap.alloc h (.cells (encCirc c))) (.cells (encStrc s))).get (h.next + 1) = some (.cells (encStrc s)) := get_alloc_same _ _
  have gn : (Heap.alloc (Heap.alloc h (.cells (encCirc c))) (.cells (encStrc s))).next = h.next + 2 := rfl
  have gx : HExt h (Heap.alloc (Heap.alloc h (.cells (encCirc c))) (.cells (encStrc s))) := (HExt.alloc _ _).trans (HExt.alloc _ _)
  generalize (Heap.alloc (Heap.alloc h (.cells (encCirc c))) (.cells (encStrc s))) = H0 at g0 g1 gn gx ⊢
  have l0 : loadS (some 2) (.ptr h.next 0) H0 = some (.agg (encCirc c)) := by rw [load_ptr g0, part_whole (cs := encCirc c) (n := 2) rfl]
  simp only [l0, bindO_some]
  refine semCall_true (gate_symbols_b hc (fun hno h' hx => ?_) (fun m h' es ck hm hx hM hI hBi hMn => ?_))
  · simp only [bindO_some, bindO2_some, outK_ret, condB_bool, cond_t, cond_f, fa_ptr, fa_iptr, part_none, Nat.zero_add, Nat.add_zero, Nat.reduceAdd, List.getElem?_cons_zero, List.getElem?_cons_succ, len_str, lenS_enc, lss_int, leq_int, gtr_int, geq_int, eq_int, ne_int, eq_str, ne_str, eq_bool, ne_bool, not_bool, extract_0, extract_1, extract_2, setV_eq, Nat.reduceEqDiff, reduceIte, Bool.not_false]
    exact h1 (.inl (by rw [validB, hno]; rfl)) _ (gx.trans hx)
  have hval : validB c = true := by rw [validB, hm]; rfl
  have p0 : h'.get h.next = some (.cells (encCirc c)) := by rw [hx.get _ (by omega)]; exact g0
  have p1 : h'.get (h.next + 1) = some (.cells (encStrc s)) := by rw [hx.get _ (by omega)]; exact g1
  have px : HExt h h' := gx.trans hx
  rw [gn] at hM hMn ⊢
  have hnx := hx.next
  clear hx
  have l1 : loadS (some 2) (.ptr (h.next + 1) 0) h' = some (.agg (encStrc s)) := by rw [load_ptr p1, part_whole (cs := encStrc s) (n := 2) rfl]
  have z0 : loadS none (.ptr h.next 0) h' = some (.int .i64 c.size) := by rw [load_ptr p0]; rfl
  have z1 : loadS none (.ptr (h.next + 1) 0) h' = some (.int .i64 s.size) := by rw [load_ptr p1]; rfl
  simp only [bindO_some, bindO2_some, outK_ret, condB_bool, cond_t, cond_f, fa_ptr, fa_iptr, part_none, Nat.zero_add, Nat.add_zero, Nat.reduceAdd, List.getElem?_cons_zero, List.getElem?_cons_succ, len_str, lenS_enc, lss_int, leq_int, gtr_int, geq_int, eq_int, ne_int, eq_str, ne_str, eq_bool, ne_bool, not_bool, extract_0, extract_1, extract_2, setV_eq, Nat.reduceEqDiff, reduceIte, Bool.not_true, l1]
  refine semCall_true (shape_Valid hs ?_)
  simp only [bindO_some, bindO2_some, outK_ret, condB_bool, cond_t, cond_f, fa_ptr, fa_iptr, part_none, Nat.zero_add, Nat.add_zero, Nat.reduceAdd, List.getElem?_cons_zero, List.getElem?_cons_succ, len_str, lenS_enc, lss_int, leq_int, gtr_int, geq_int, eq_int, ne_int, eq_str, ne_str, eq_bool, ne_bool, not_bool, extract_0, extract_1, extract_2, setV_eq, Nat.reduceEqDiff, reduceIte]
  cases hsv : strcB s with
  | false => simp only [Bool.not_false, cond_t]; exact h1 (.inr hsv) _ px
  | true =>
  simp only [Bool.not_true, cond_f, z0, z1, bindO_some, ne_int, int_beq, condB_bool]
  by_cases hz : ¬ (c.size = s.size)
  · simp only [decide_eq_false hz, Bool.not_false, cond_t]
    exact h2 hval hsv hz _ px
  replace hz := Decidable.not_not.1 hz
  obtain ⟨n, hn, n1, n64, h8⟩ := strc_size hsv
  have hnn : s.size.toNat = n := by omega
  have hfac := symsOf_facts hm
  have hnd : (m.map (·.1)).Nodup := hfac.nodup List.nodup_nil
  specialize h4 m hm hsv hz
  specialize h0 m hm hsv hz
  rw [hnn] at h0
  clear h1 h2
  have q0 : (h'.alloc (.map [] 0)).get (h.next + 2 + 1) = some (.map es ck) := by rw [Heap.get_alloc, if_neg (by omega)]; exact hM
  have q1 : (h'.alloc (.map [] 0)).get (h.next + 1) = some (.cells (encStrc s)) := by rw [Heap.get_alloc, if_neg (by omega)]; exact p1
  have q2 : (h'.alloc (.map [] 0)).get h'.next = some (.map [] 0) := get_alloc_same _ _
  have qn : (h'.alloc (.map [] 0)).next = h'.next + 1 := rfl
  have qx : HExt h (h'.alloc (.map [] 0)) := px.trans (HExt.alloc _ _)
  have hrg : rangeS .map (.map (h.next + 2 + 1)) (h'.alloc (.map [] 0)) = some (.ptr (h'.next + 1) 0, (h'.alloc (.map [] 0)).alloc (.miter (some (h.next + 2 + 1)) ck [] ck)) := by
    simp only [rangeS, q0, qn]
  simp only [decide_eq_true hz, Bool.not_true, cond_f, hrg, bindO2_some]
  have r0 : ((h'.alloc (.map [] 0)).alloc (.miter (some (h.next + 2 + 1)) ck [] ck)).get (h.next + 2 + 1) = some (.map es ck) := by rw [Heap.get_alloc, qn, if_neg (by omega)]; exact q0
  have r1 : ((h'.alloc (.map [] 0)).alloc (.miter (some (h.next + 2 + 1)) ck [] ck)).get (h.next + 1) = some (.cells (encStrc s)) := by rw [Heap.get_alloc, qn, if_neg (by omega)]; exact q1
  have r2 : ((h'.alloc (.map [] 0)).alloc (.miter (some (h.next + 2 + 1)) ck [] ck)).get h'.next = some (.map [] 0) := by rw [Heap.get_alloc, qn, if_neg (by omega)]; exact q2
  have r3 : ((h'.alloc (.map [] 0)).alloc (.miter (some (h.next + 2 + 1)) ck [] ck)).get (h'.next + 1) = some (.miter (some (h.next + 2 + 1)) ck [] ck) := get_alloc_same _ _
  have rn : ((h'.alloc (.map [] 0)).alloc (.miter (some (h.next + 2 + 1)) ck [] ck)).next = h'.next + 2 := rfl
  have rx : HExt h ((h'.alloc (.map [] 0)).alloc (.miter (some (h.next + 2 + 1)) ck [] ck)) := qx.trans (HExt.alloc _ _)
  generalize ((h'.alloc (.map [] 0)).alloc (.miter (some (h.next + 2 + 1)) ck [] ck)) = H1 at r0 r1 r2 r3 rn rx ⊢
  generalize hBe : h'.next = B at *
  refine loopB_map es (fun seen e hh => ∃ D, BitsAt D hh B h.next ∧ FitsD n s m D ∧ (∀ en ∈ es, en.2.2 ∈ seen → ∀ nm, en.1 = .str nm → (D nm).isSome = true) ∧ HExt h hh ∧ B + 2 ≤ hh.next ∧ (∀ nm p, D nm = some p → B + 2 ≤ p.1) ∧
    hh.get (h.next + 2 + 1) = some (.map es ck) ∧ hh.get (h.next + 1) = some (.cells (encStrc s)) ∧ hh.get (B + 1) = some (.miter (some (h.next + 2 + 1)) ck seen ck) ∧
    e 3 = .ptr (h.next + 1) 0 ∧ e 7 = .map (h.next + 2 + 1) ∧ e 9 = .map B ∧ e 38 = .ptr (B + 1) 0)
    ⟨fun _ => none, ⟨⟨[], 0, [], r2, trivial, fun nm => rfl⟩, fun nm p hp => (by cases hp), fun nm nm' p p' hp => (by cases hp), by omega⟩, ⟨fun nm p hp => (by cases hp)⟩, fun en _ hen => (by cases hen), rx, by omega, fun nm p hp => (by cases hp), r0, r1, r3, rfl, rfl, rfl, rfl⟩ ?_
  rintro seen e hh ⟨D, hD, hFD, hseen, hhx, hhn, hDB, w0, w1, w3, e3, e7, e9, e38⟩ K' hnx' hex hret hpan
  rw [F.gate_bits.L0_eq]
  simp only [e38]
  refine next_map w3 w0 hBi (by omega) (fun hall => ?_) (fun en hen hns hent => ?_)
  · simp only [resK, bindO_some, bindO2_some, outK_ret, condB_bool, cond_t, cond_f, fa_ptr, fa_iptr, part_none, Nat.zero_add, Nat.add_zero, Nat.reduceAdd, List.getElem?_cons_zero, List.getElem?_cons_succ, len_str, lenS_enc, lss_int, leq_int, gtr_int, geq_int, eq_int, ne_int, eq_str, ne_str, eq_bool, ne_bool, not_bool, extract_0, extract_1, extract_2, setV_eq, Nat.reduceEqDiff, reduceIte]
    rw [hex, F.gate_bits.L0_x0_eq]
    simp only [bindO_some, bindO2_some, outK_ret, condB_bool, cond_t, cond_f, fa_ptr, fa_iptr, part_none, Nat.zero_add, Nat.add_zero, Nat.reduceAdd, List.getElem?_cons_zero, List.getElem?_cons_succ, len_str, lenS_enc, lss_int, leq_int, gtr_int, geq_int, eq_int, ne_int, eq_str, ne_str, eq_bool, ne_bool, not_bool, extract_0, extract_1, extract_2, setV_eq, Nat.reduceEqDiff, reduceIte, e7, e9]
    refine h0 hh B (h.next + 2 + 1) es ck D hhx hD hFD (fun p hp => ?_) w0 hI hBi (by omega) (by omega) (by omega) (by omega)
    obtain ⟨en, hen, hen1, _⟩ := hI.mem' p hp
    exact hseen en hen (hall en hen) p.1 hen1
  obtain ⟨p, hpm, hn1, hn2⟩ := hI.mem en hen
  have v0 : (hh.set (B + 1) (.miter (some (h.next + 2 + 1)) ck (seen ++ [en.2.2]) ck)).get (h.next + 2 + 1) = some (.map es ck) := by rw [Heap.get_set, if_neg (by omega)]; exact w0
  have v1 : (hh.set (B + 1) (.miter (some (h.next + 2 + 1)) ck (seen ++ [en.2.2]) ck)).get (h.next + 1) = some (.cells (encStrc s)) := by rw [Heap.get_set, if_neg (by omega)]; exact w1
  have v3 : (hh.set (B + 1) (.miter (some (h.next + 2 + 1)) ck (seen ++ [en.2.2]) ck)).get (B + 1) = some (.miter (some (h.next + 2 + 1)) ck (seen ++ [en.2.2]) ck) := by rw [Heap.get_set, if_pos rfl]
  have vn : (hh.set (B + 1) (.miter (some (h.next + 2 + 1)) ck (seen ++ [en.2.2]) ck)).next = hh.next := Heap.next_set _ _ _
  have vx : HExt h (hh.set (B + 1) (.miter (some (h.next + 2 + 1)) ck (seen ++ [en.2.2]) ck)) := hhx.set (by omega) _
  have vD : BitsAt D (hh.set (B + 1) (.miter (some (h.next + 2 + 1)) ck (seen ++ [en.2.2]) ck)) B h.next := by
    obtain ⟨bes, bck, bm, b1, b2, b3⟩ := hD.ex
    refine ⟨⟨bes, bck, bm, by rw [Heap.get_set, if_neg (by omega)]; exact b1, b2, b3⟩, fun nm q hq => ?_, hD.inj, by rw [vn]; exact hD.lt⟩
    obtain ⟨k1, k2, k3, k4⟩ := hD.blk nm q hq
    have := hDB nm q hq
    exact ⟨k1, by rw [vn]; exact k2, k3, by rw [Heap.get_set, if_neg (by omega)]; exact k4⟩
  simp only [resK, extract_0, extract_1, bindO_some, condB_bool, cond_t, hent, e3, e7, e9]
  clear hent
  generalize (hh.set (B + 1) (.miter (some (h.next + 2 + 1)) ck (seen ++ [en.2.2]) ck)) = H at v0 v1 v3 vn vx vD ⊢
  have lw : loadS (some 2) (.ptr (h.next + 1) 0) H = some (.agg (encStrc s)) := by rw [load_ptr v1, part_whole (cs := encStrc s) (n := 2) rfl]
  have lz : loadS none (.ptr (h.next + 1) 0) H = some (.int .i64 (n : Int)) := by rw [load_ptr v1, ← hn]; rfl
  simp only [hn1, hn2, lw, bindO_some]
  refine semCall_true (shape_Find hs ?_)
  simp only [outK_ret, lss_int, bindO_some, condB_bool]
  rcases whereI_find (symB p.1 p.2) s.rels.l with ⟨f1, f2⟩ | ⟨j, r, f1, f2, f3⟩
  · rw [f1]
    simp only [show decide ((-1 : Int) < 0) = true from rfl, cond_t]
    rw [hret, F.gate_bits.L0_r_eq]
    simp only [setV_eq, Nat.reduceEqDiff, reduceIte]
    exact h4 ⟨p, hpm, f2⟩ _ vx
  rw [f1]
  have hj : j < s.rels.l.length := (List.getElem?_eq_some_iff.1 f2).1
  have hro : r.ok := hs.2 r (List.mem_of_getElem? f2)
  have hrb := strc_rel hsv f2
  rw [hnn] at hrb
  obtain ⟨k, hk, k12, hkc, hkt⟩ := rel_all hrb
  have hsy := List.find?_some f3
  simp only [symB, Bool.and_eq_true, beq_iff_eq, decide_eq_true_eq] at hsy
  have hpk : p.2 = (k : Int) := by omega
  have hbk : k ≤ big := by unfold big; omega
  have hpa : powA n k = .tuple [.int .i64 ((n ^ k : Nat) : Int), .int .i64 0] := by rw [powA, if_neg (by omega), if_neg (by omega)]
  rw [hpk] at f3 ⊢
  simp only [decide_eq_false (by omega : ¬ ((j : Int) < 0)), cond_f, fa_ptr, Nat.add_zero, bindO_some, lz]
  refine semCall_true (shape_Power n1 n64 hbk ?_)
  rw [hpa]
  simp only [outK_ret, extract_0, extract_1, bindO_some, make_bl (show n ^ k ≤ 1000000 by omega), bindO2_some]
  obtain ⟨bes, bck, bm, b1, b2, b3⟩ := vD.ex
  have a1 : (H.alloc (.cells ((List.replicate (n ^ k) false).map bv))).get B = some (.map bes bck) := by rw [Heap.get_alloc, if_neg (by omega)]; exact b1
  obtain ⟨bes', bck', hu, hue⟩ := update_mapA a1 b2 p.1 (.slice H.next 0 (n ^ k) 1)
  simp only [hu, bindO_some]
  have u0 : ((H.alloc (.cells ((List.replicate (n ^ k) false).map bv))).set B (.map bes' bck')).get (h.next + 2 + 1) = some (.map es ck) := by rw [Heap.get_set, if_neg (by omega), Heap.get_alloc, if_neg (by omega)]; exact v0
  have u1 : ((H.alloc (.cells ((List.replicate (n ^ k) false).map bv))).set B (.map bes' bck')).get (h.next + 1) = some (.cells (encStrc s)) := by rw [Heap.get_set, if_neg (by omega), Heap.get_alloc, if_neg (by omega)]; exact v1
  have u3 : ((H.alloc (.cells ((List.replicate (n ^ k) false).map bv))).set B (.map bes' bck')).get (B + 1) = some (.miter (some (h.next + 2 + 1)) ck (seen ++ [en.2.2]) ck) := by rw [Heap.get_set, if_neg (by omega), Heap.get_alloc, if_neg (by omega)]; exact v3
  have u4 : ((H.alloc (.cells ((List.replicate (n ^ k) false).map bv))).set B (.map bes' bck')).get B = some (.map bes' bck') := by rw [Heap.get_set, if_pos rfl]
  have u5 : ((H.alloc (.cells ((List.replicate (n ^ k) false).map bv))).set B (.map bes' bck')).get H.next = some (.cells ((List.replicate (n ^ k) false).map bv)) := by rw [Heap.get_set, if_neg (by omega)]; exact get_alloc_same _ _
  have uo : ∀ b, b ≠ B → b < H.next → ((H.alloc (.cells ((List.replicate (n ^ k) false).map bv))).set B (.map bes' bck')).get b = H.get b := fun b hb hl => by rw [Heap.get_set, if_neg hb, Heap.get_alloc, if_neg (by omega)]
  have un : ((H.alloc (.cells ((List.replicate (n ^ k) false).map bv))).set B (.map bes' bck')).next = H.next + 1 := by rw [Heap.next_set, Heap.next_alloc]
  have ux : HExt h ((H.alloc (.cells ((List.replicate (n ^ k) false).map bv))).set B (.map bes' bck')) := (vx.trans (HExt.alloc _ _)).set (by omega) _
  generalize ((H.alloc (.cells ((List.replicate (n ^ k) false).map bv))).set B (.map bes' bck')) = H2 at u0 u1 u3 u4 u5 uo un ux ⊢
  have lr : loadS none (.ptr (h.next + 1) 1) H2 = some (encSl encRel 3 s.rels) := by rw [load_ptr u1]; rfl
  simp only [fa_ptr, Nat.zero_add, bindO_some, lr, iaS_enc s.rels hj, fa_iptr, get_tups f2, lenS_enc]
  refine loopB_range 0 r.tuples.l.length (Nat.zero_le _) (fun i e h3 => ∃ d, bitsOf n k r.tuples.l = bitsGo n (r.tuples.l.drop i) d ∧ d.length = n ^ k ∧ h3.get H.next = some (.cells (d.map bv)) ∧ (∀ b, b ≠ H.next → h3.get b = H2.get b) ∧ h3.next = H2.next ∧
    e 3 = .ptr (h.next + 1) 0 ∧ e 7 = .map (h.next + 2 + 1) ∧ e 9 = .map B ∧ e 38 = .ptr (B + 1) 0 ∧ e 10 = .str p.1 ∧ e 66 = encSl encT 1 r.tuples ∧ e 67 = .int .i64 (r.tuples.l.length : Int) ∧ e 68 = .int .i64 (i : Int))
    ⟨_, rfl, by simp, u5, fun _ _ => rfl, rfl, e3, e7, e9, e38, rfl, rfl, rfl, rfl⟩ ?_ ?_
  · rintro i e h3 _ hi ⟨d, hd, hdl, t5, to, tn, e3, e7, e9, e38, e10, e66, e67, e68⟩ K2 hn2 hx2 hr2 hp2
    have hv : r.tuples.l[i]? = some r.tuples.l[i] := List.getElem?_eq_getElem hi
    generalize r.tuples.l[i] = t at hv
    obtain ⟨htl, htb⟩ := tup_in hkt hv
    rw [bits_drop hv] at hd
    have hrk : rkN n t.l < n ^ k := by have := rkN_lt htb; rwa [htl] at this
    have w1 : h3.get (h.next + 1) = some (.cells (encStrc s)) := by rw [to _ (by omega)]; exact u1
    have lz : loadS none (.ptr (h.next + 1) 0) h3 = some (.int .i64 (n : Int)) := by rw [load_ptr w1, ← hn]; rfl
    have w4 : h3.get B = some (.map bes' bck') := by rw [to _ (by omega)]; exact u4
    have hlk : lookupS .string .nils false (.map B) (.str p.1) h3 = some (.slice H.next 0 (n ^ k) 1) := by rw [lookup_mapA w4 hue, find_upd, if_pos rfl]; rfl
    rw [F.gate_bits.L1_eq]
    simp only [e3, e66, e67, e68, bindO_some, bindO2_some, outK_ret, condB_bool, cond_t, cond_f, fa_ptr, fa_iptr, part_none, Nat.zero_add, Nat.add_zero, Nat.reduceAdd, List.getElem?_cons_zero, List.getElem?_cons_succ, len_str, lenS_enc, lss_int, leq_int, gtr_int, geq_int, eq_int, ne_int, eq_str, ne_str, eq_bool, ne_bool, not_bool, extract_0, extract_1, extract_2, setV_eq, Nat.reduceEqDiff, reduceIte, lt_true hi, iaS_enc r.tuples hi, get_tup hv, lz]
    refine semCall_true (shape_Rank n1 n64 (by omega) (by rw [htl]; exact hkc) htb ?_)
    simp only [bindO_some, bindO2_some, outK_ret, condB_bool, cond_t, cond_f, fa_ptr, fa_iptr, part_none, Nat.zero_add, Nat.add_zero, Nat.reduceAdd, List.getElem?_cons_zero, List.getElem?_cons_succ, len_str, lenS_enc, lss_int, leq_int, gtr_int, geq_int, eq_int, ne_int, eq_str, ne_str, eq_bool, ne_bool, not_bool, extract_0, extract_1, extract_2, setV_eq, Nat.reduceEqDiff, reduceIte, e9, e10, e68, hlk, ia_sl hrk, store_bl t5 (show rkN n t.l < d.length by omega), succ_i64 hi hro.2.1]
    exact hn2 _ _ ⟨_, hd, by simpa using hdl, by rw [Heap.get_set, if_pos rfl], fun b hb => by rw [Heap.get_set, if_neg hb]; exact to b hb, by rw [Heap.next_set]; exact tn, e3, e7, e9, e38, e10, e66, e67, rfl⟩
  · rintro e h3 ⟨d, hd, hdl, t5, to, tn, e3, e7, e9, e38, e10, e66, e67, e68⟩ K2 hx2
    rw [F.gate_bits.L1_eq]
    simp only [e67, e68, bindO_some, bindO2_some, outK_ret, condB_bool, cond_t, cond_f, fa_ptr, fa_iptr, part_none, Nat.zero_add, Nat.add_zero, Nat.reduceAdd, List.getElem?_cons_zero, List.getElem?_cons_succ, len_str, lenS_enc, lss_int, leq_int, gtr_int, geq_int, eq_int, ne_int, eq_str, ne_str, eq_bool, ne_bool, not_bool, extract_0, extract_1, extract_2, setV_eq, Nat.reduceEqDiff, reduceIte, lt_false]
    rw [hx2, F.gate_bits.L1_x2_eq]
    rw [List.drop_of_length_le (Nat.le_refl _)] at hd
    simp only [bitsGo] at hd
    refine hnx' en hen hns _ _ ⟨fun nm => if nm = p.1 then some (H.next, d) else D nm, ⟨⟨bes', bck', _, by rw [to _ (by omega)]; exact u4, hue, fun nm => ?_⟩, fun nm q hq => ?_, fun nm nm' q q' hq hq' hqq => ?_, by omega⟩, ⟨fun nm q hq => ?_⟩, fun en' hen' hse nm hnm => ?_, ?_, by omega, fun nm q hq => ?_, ?_, ?_, ?_, ?_, ?_, ?_, ?_⟩
    · rw [find_upd]
      by_cases hnm : nm = p.1
      · rw [if_pos hnm, if_pos hnm, Option.map_some, hdl]
      · rw [if_neg hnm, if_neg hnm, b3]
    · skip
      by_cases hnm : nm = p.1
      · rw [if_pos hnm] at hq; cases hq
        exact ⟨by have := vx.next; omega, by omega, by omega, t5⟩
      · rw [if_neg hnm] at hq
        obtain ⟨k1, k2, k3, k4⟩ := vD.blk nm q hq
        exact ⟨k1, by omega, k3, by rw [to _ (by omega), uo _ k3 k2]; exact k4⟩
    · skip
      by_cases hnm : nm = p.1
      · by_cases hnm' : nm' = p.1
        · rw [hnm, hnm']
        · rw [if_pos hnm] at hq; rw [if_neg hnm'] at hq'; cases hq
          obtain ⟨k1, k2, k3, k4⟩ := vD.blk nm' q' hq'
          simp only at hqq; omega
      · by_cases hnm' : nm' = p.1
        · rw [if_neg hnm] at hq; rw [if_pos hnm'] at hq'; cases hq'
          obtain ⟨k1, k2, k3, k4⟩ := vD.blk nm q hq
          simp only at hqq; omega
        · rw [if_neg hnm] at hq; rw [if_neg hnm'] at hq'
          exact vD.inj nm nm' q q' hq hq' hqq
    · skip
      by_cases hnm : nm = p.1
      · rw [if_pos hnm] at hq; cases hq
        subst hnm
        exact ⟨k, r, by rw [mem_findI hnd hpm, hpk], f3, hd.symm⟩
      · rw [if_neg hnm] at hq
        exact hFD.to nm q hq
    · simp only
      by_cases hnm' : nm = p.1
      · rw [if_pos hnm']; rfl
      · rw [if_neg hnm']
        refine hseen en' hen' ?_ nm hnm
        rcases List.mem_append.1 hse with h5 | h5
        · exact h5
        · exfalso
          simp only [List.mem_singleton] at h5
          have h6 := findBorn_of hBi.nodup hen'
          have h7 := findBorn_of hBi.nodup hen
          rw [h5, h7] at h6
          cases h6
          rw [hn1] at hnm; cases hnm
          exact hnm' rfl
    · exact ⟨by rw [tn]; exact ux.next, fun b hb => by rw [to _ (by have := vx.next; omega)]; exact ux.get b hb⟩
    · simp only at hq
      by_cases hnm : nm = p.1
      · rw [if_pos hnm] at hq; cases hq; show B + 2 ≤ H.next; omega
      · rw [if_neg hnm] at hq; exact hDB nm q hq
    · rw [to _ (by omega)]; exact u0
    · rw [to _ (by omega)]; exact u1
    · rw [to _ (by omega)]; exact u3
    · exact e3
    · exact e7
    · exact e9
    · exact e38
end
end Go.AM
