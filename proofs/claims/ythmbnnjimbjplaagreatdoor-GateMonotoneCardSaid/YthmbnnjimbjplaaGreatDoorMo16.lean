/- Parts of a proof, merged out of smaller texts: the abstract machine and what functions do. Conditions: none. -/
import Derived.Test.YthmbnnjimbjplaaGreatDoorMo15
/- The structure's relations as bits by ranks, in a map. Conditions: none. -/
namespace Go.AM
open Go Go.Proofs
set_option linter.unusedVariables false
set_option linter.unusedSimpArgs false
noncomputable section

theorem tup_in {n k : Nat} {l : List (Sl Int)} (h : tupB n k l = true) {i : Nat} {t : Sl Int} (ht : l[i]? = some t) : t.l.length = k ∧ inB n t.l = true := by
  have := allN_get h (List.getElem?_eq_some_iff.1 ht).1
  unfold tupAt at this
  rw [ht] at this
  simp only [Bool.and_eq_true, decide_eq_true_eq] at this
  exact ⟨this.1, this.2.1⟩
/-- What each name's bits are: those of the relation found by name and arity. -/
structure FitsD (n : Nat) (s : Strc) (m : MapL) (D : Str → Option (Nat × List Bool)) : Prop where
  to : ∀ nm p, D nm = some p → ∃ (k : Nat) (r : Rel), m.find nm = some (k : Int) ∧ s.rels.l.find? (symB nm (k : Int)) = some r ∧ p.2 = bitsOf n k r.tuples.l
/-- All names have bits. -/
def AllD (m : MapL) (D : Str → Option (Nat × List Bool)) : Prop := ∀ p ∈ m, (D p.1).isSome = true

theorem gate_bits {c : Circ} {s : Strc} (hc : c.ok) (hs : s.ok) {h : Heap} {K : Out → Heap → Bool}
    (h1 : (validB c = false ∨ strcB s = false) → ∀ h', HExt h h' → K (.ret (.tuple [.nilm, .nilm, .int .i64 1])) h' = true)
    (h2 : validB c = true → strcB s = true → c.size ≠ s.size → ∀ h', HExt h h' → K (.ret (.tuple [.nilm, .nilm, .int .i64 2])) h' = true)
    (h4 : ∀ m, symsOf c = some m → strcB s = true → c.size = s.size → (∃ p ∈ m, s.rels.l.find? (symB p.1 p.2) = none) → ∀ h', HExt h h' → K (.ret (.tuple [.nilm, .nilm, .int .i64 4])) h' = true)
    (h0 : ∀ m, symsOf c = some m → strcB s = true → c.size = s.size → ∀ h' B M es ck D, HExt h h' → BitsAt D h' B h.next → FitsD s.size.toNat s m D → AllD m D → h'.get M = some (.map es ck) → MapI es m → Births es ck → M < h'.next → h.next ≤ M → M ≠ B → h.next ≤ B → K (.ret (.tuple [.map B, .map M, .int .i64 0])) h' = true) :
    Sem Tryz.prog 56 [.agg (encCirc c), .agg (encStrc s)] h K := by
  refine F.gate_bits_sem ?_
  simp only [box_agg (one_encCirc c), box_agg (one_encStrc s), bindO_some, Heap.next_alloc]
  have g0 : (Heap.alloc (Heap.alloc h (.cells (encCirc c))) (.cells (encStrc s))).get h.next = some (.cells (encCirc c)) := by rw [Heap.get_alloc, Heap.next_alloc, if_neg (by omega)]; exact get_alloc_same _ _
  have g1 : (Heap.alloc (Heap.alloc h (.cells (encCirc c))) (.cells (encStrc s))).get (h.next + 1) = some (.cells (encStrc s)) := get_alloc_same _ _
  have gn : (Heap.alloc (Heap.alloc h (.cells (encCirc c))) (.cells (encStrc s))).next = h.next + 2 := rfl
  have gx : HExt h (Heap.alloc (Heap.alloc h (.cells (encCirc c))) (.cells (encStrc s))) := (HExt.alloc _ _).trans (HExt.alloc _ _)
  generalize (Heap.alloc (Heap.alloc h (.cells (encCirc c))) (.cells (encStrc s))) = H0 at g0 g1 gn gx ⊢
  have l0 : loadS (some 2) (.ptr h.next 0) H0 = some (.agg (encCirc c)) := by rw [load_ptr g0, part_whole (cs := encCirc c) (n := 2) rfl]
  simp only [l0, bindO_some]
  refine semCall_true (gate_symbols_b hc (fun hno h' hx => ?_) (fun m h' es ck hm hx hM hI hBi hMn => ?_))
  · simp only [bindO_some, bindO2_some, outK_ret, condB_bool, cond_t, cond_f, fa_ptr, fa_iptr, part_none, Nat.zero_add, Nat.add_zero, Nat.reduceAdd, List.getElem?_cons_zero, List.getElem?_cons_succ, len_str, lenS_enc, lss_int, leq_int, gtr_int, geq_int, eq_int, ne_int, eq_str, ne_str, eq_bool, ne_bool, not_bool, extract_0, extract_1, extract_2, setV_eq, Nat.reduceEqDiff, reduceIte, Bool.not_false]
    exact h1 (.inl (by rw [validB, hno]; rfl)) _ (gx.trans hx)
  have hval : validB c = true := by rw [validB, hm]; rfl
  have p0 : h'.get h.next = some (.cells (encCirc c)) := by rw [hx.get _ (by omega)]; exact g0
  have p1 : h'.get (h.next + 1) = some (.cells (encStrc s)) := by rw [hx.get _ (by omega)]; exact g1
  have px : HExt h h' := gx.trans hx
  rw [gn] at hM hMn ⊢
  have hnx := hx.next
  clear hx
  have l1 : loadS (some 2) (.ptr (h.next + 1) 0) h' = some (.agg (encStrc s)) := by rw [load_ptr p1, part_whole (cs := encStrc s) (n := 2) rfl]
  have z0 : loadS none (.ptr h.next 0) h' = some (.int .i64 c.size) := by rw [load_ptr p0]; rfl
  have z1 : loadS none (.ptr (h.next + 1) 0) h' = some (.int .i64 s.size) := by rw [load_ptr p1]; rfl
  simp only [bindO_some, bindO2_some, outK_ret, condB_bool, cond_t, cond_f, fa_ptr, fa_iptr, part_none, Nat.zero_add, Nat.add_zero, Nat.reduceAdd, List.getElem?_cons_zero, List.getElem?_cons_succ, len_str, lenS_enc, lss_int, leq_int, gtr_int, geq_int, eq_int, ne_int, eq_str, ne_str, eq_bool, ne_bool, not_bool, extract_0, extract_1, extract_2, setV_eq, Nat.reduceEqDiff, reduceIte, Bool.not_true, l1]
  refine semCall_true (shape_Valid hs ?_)
  simp only [bindO_some, bindO2_some, outK_ret, condB_bool, cond_t, cond_f, fa_ptr, fa_iptr, part_none, Nat.zero_add, Nat.add_zero, Nat.reduceAdd, List.getElem?_cons_zero, List.getElem?_cons_succ, len_str, lenS_enc, lss_int, leq_int, gtr_int, geq_int, eq_int, ne_int, eq_str, ne_str, eq_bool, ne_bool, not_bool, extract_0, extract_1, extract_2, setV_eq, Nat.reduceEqDiff, reduceIte]
  cases hsv : strcB s with
  | false => simp only [Bool.not_false, cond_t]; exact h1 (.inr hsv) _ px
  | true =>
  simp only [Bool.not_true, cond_f, z0, z1, bindO_some, ne_int, int_beq, condB_bool]
  by_cases hz : ¬ (c.size = s.size)
  · simp only [decide_eq_false hz, Bool.not_false, cond_t]
    exact h2 hval hsv hz _ px
  replace hz := Decidable.not_not.1 hz
  obtain ⟨n, hn, n1, n64, h8⟩ := strc_size hsv
  have hnn : s.size.toNat = n := by omega
  have hfac := symsOf_facts hm
  have hnd : (m.map (·.1)).Nodup := hfac.nodup List.nodup_nil
  specialize h4 m hm hsv hz
  specialize h0 m hm hsv hz
  rw [hnn] at h0
  clear h1 h2
  have q0 : (h'.alloc (.map [] 0)).get (h.next + 2 + 1) = some (.map es ck) := by rw [Heap.get_alloc, if_neg (by omega)]; exact hM
  have q1 : (h'.alloc (.map [] 0)).get (h.next + 1) = some (.cells (encStrc s)) := by rw [Heap.get_alloc, if_neg (by omega)]; exact p1
  have q2 : (h'.alloc (.map [] 0)).get h'.next = some (.map [] 0) := get_alloc_same _ _
  have qn : (h'.alloc (.map [] 0)).next = h'.next + 1 := rfl
  have qx : HExt h (h'.alloc (.map [] 0)) := px.trans (HExt.alloc _ _)
  have hrg : rangeS .map (.map (h.next + 2 + 1)) (h'.alloc (.map [] 0)) = some (.ptr (h'.next + 1) 0, (h'.alloc (.map [] 0)).alloc (.miter (some (h.next + 2 + 1)) ck [] ck)) := by
    simp only [rangeS, q0, qn]
  simp only [decide_eq_true hz, Bool.not_true, cond_f, hrg, bindO2_some]
  have r0 : ((h'.alloc (.map [] 0)).alloc (.miter (some (h.next + 2 + 1)) ck [] ck)).get (h.next + 2 + 1) = some (.map es ck) := by rw [Heap.get_alloc, qn, if_neg (by omega)]; exact q0
  have r1 : ((h'.alloc (.map [] 0)).alloc (.miter (some (h.next + 2 + 1)) ck [] ck)).get (h.next + 1) = some (.cells (encStrc s)) := by rw [Heap.get_alloc, qn, if_neg (by omega)]; exact q1
  have r2 : ((h'.alloc (.map [] 0)).alloc (.miter (some (h.next + 2 + 1)) ck [] ck)).get h'.next = some (.map [] 0) := by rw [Heap.get_alloc, qn, if_neg (by omega)]; exact q2
  have r3 : ((h'.alloc (.map [] 0)).alloc (.miter (some (h.next + 2 + 1)) ck [] ck)).get (h'.next + 1) = some (.miter (some (h.next + 2 + 1)) ck [] ck) := get_alloc_same _ _
  have rn : ((h'.alloc (.map [] 0)).alloc (.miter (some (h.next + 2 + 1)) ck [] ck)).next = h'.next + 2 := rfl
  have rx : HExt h ((h'.alloc (.map [] 0)).alloc (.miter (some (h.next + 2 + 1)) ck [] ck)) := qx.trans (HExt.alloc _ _)
  generalize ((h'.alloc (.map [] 0)).alloc (.miter (some (h.next + 2 + 1)) ck [] ck)) = H1 at r0 r1 r2 r3 rn rx ⊢
  generalize hBe : h'.next = B at *
  refine loopB_map es (fun seen e hh => ∃ D, BitsAt D hh B h.next ∧ FitsD n s m D ∧ (∀ en ∈ es, en.2.2 ∈ seen → ∀ nm, en.1 = .str nm → (D nm).isSome = true) ∧ HExt h hh ∧ B + 2 ≤ hh.next ∧ (∀ nm p, D nm = some p → B + 2 ≤ p.1) ∧
    hh.get (h.next + 2 + 1) = some (.map es ck) ∧ hh.get (h.next + 1) = some (.cells (encStrc s)) ∧ hh.get (B + 1) = some (.miter (some (h.next + 2 + 1)) ck seen ck) ∧
    e 3 = .ptr (h.next + 1) 0 ∧ e 7 = .map (h.next + 2 + 1) ∧ e 9 = .map B ∧ e 38 = .ptr (B + 1) 0)
    ⟨fun _ => none, ⟨⟨[], 0, [], r2, trivial, fun nm => rfl⟩, fun nm p hp => (by cases hp), fun nm nm' p p' hp => (by cases hp), by omega⟩, ⟨fun nm p hp => (by cases hp)⟩, fun en _ hen => (by cases hen), rx, by omega, fun nm p hp => (by cases hp), r0, r1, r3, rfl, rfl, rfl, rfl⟩ ?_
  rintro seen e hh ⟨D, hD, hFD, hseen, hhx, hhn, hDB, w0, w1, w3, e3, e7, e9, e38⟩ K' hnx' hex hret hpan
  rw [F.gate_bits.L0_eq]
  simp only [e38]
  refine next_map w3 w0 hBi (by omega) (fun hall => ?_) (fun en hen hns hent => ?_)
  · simp only [resK, bindO_some, bindO2_some, outK_ret, condB_bool, cond_t, cond_f, fa_ptr, fa_iptr, part_none, Nat.zero_add, Nat.add_zero, Nat.reduceAdd, List.getElem?_cons_zero, List.getElem?_cons_succ, len_str, lenS_enc, lss_int, leq_int, gtr_int, geq_int, eq_int, ne_int, eq_str, ne_str, eq_bool, ne_bool, not_bool, extract_0, extract_1, extract_2, setV_eq, Nat.reduceEqDiff, reduceIte]
    rw [hex, F.gate_bits.L0_x0_eq]
    simp only [bindO_some, bindO2_some, outK_ret, condB_bool, cond_t, cond_f, fa_ptr, fa_iptr, part_none, Nat.zero_add, Nat.add_zero, Nat.reduceAdd, List.getElem?_cons_zero, List.getElem?_cons_succ, len_str, lenS_enc, lss_int, leq_int, gtr_int, geq_int, eq_int, ne_int, eq_str, ne_str, eq_bool, ne_bool, not_bool, extract_0, extract_1, extract_2, setV_eq, Nat.reduceEqDiff, reduceIte, e7, e9]
    refine h0 hh B (h.next + 2 + 1) es ck D hhx hD hFD (fun p hp => ?_) w0 hI hBi (by omega) (by omega) (by omega) (by omega)
    obtain ⟨en, hen, hen1, _⟩ := hI.mem' p hp
    exact hseen en hen (hall en hen) p.1 hen1
  obtain ⟨p, hpm, hn1, hn2⟩ := hI.mem en hen
  have v0 : (hh.set (B + 1) (.miter (some (h.next + 2 + 1)) ck (seen ++ [en.2.2]) ck)).get (h.next + 2 + 1) = some (.map es ck) := by rw [Heap.get_set, if_neg (by omega)]; exact w0
  have v1 : (hh.set (B + 1) (.miter (some (h.next + 2 + 1)) ck (seen ++ [en.2.2]) ck)).get (h.next + 1) = some (.cells (encStrc s)) := by rw [Heap.get_set, if_neg (by omega)]; exact w1
  have v3 : (hh.set (B + 1) (.miter (some (h.next + 2 + 1)) ck (seen ++ [en.2.2]) ck)).get (B + 1) = some (.miter (some (h.next + 2 + 1)) ck (seen ++ [en.2.2]) ck) := by rw [Heap.get_set, if_pos rfl]
  have vn : (hh.set (B + 1) (.miter (some (h.next + 2 + 1)) ck (seen ++ [en.2.2]) ck)).next = hh.next := Heap.next_set _ _ _
  have vx : HExt h (hh.set (B + 1) (.miter (some (h.next + 2 + 1)) ck (seen ++ [en.2.2]) ck)) := hhx.set (by omega) _
  have vD : BitsAt D (hh.set (B + 1) (.miter (some (h.next + 2 + 1)) ck (seen ++ [en.2.2]) ck)) B h.next := by
    obtain ⟨bes, bck, bm, b1, b2, b3⟩ := hD.ex
    refine ⟨⟨bes, bck, bm, by rw [Heap.get_set, if_neg (by omega)]; exact b1, b2, b3⟩, fun nm q hq => ?_, hD.inj, by rw [vn]; exact hD.lt⟩
    obtain ⟨k1, k2, k3, k4⟩ := hD.blk nm q hq
    have := hDB nm q hq
    exact ⟨k1, by rw [vn]; exact k2, k3, by rw [Heap.get_set, if_neg (by omega)]; exact k4⟩
  simp only [resK, extract_0, extract_1, bindO_some, condB_bool, cond_t, hent, e3, e7, e9]
  clear hent
  generalize (hh.set (B + 1) (.miter (some (h.next + 2 + 1)) ck (seen ++ [en.2.2]) ck)) = H at v0 v1 v3 vn vx vD ⊢
  have lw : loadS (some 2) (.ptr (h.next + 1) 0) H = some (.agg (encStrc s)) := by rw [load_ptr v1, part_whole (cs := encStrc s) (n := 2) rfl]
  have lz : loadS none (.ptr (h.next + 1) 0) H = some (.int .i64 (n : Int)) := by rw [load_ptr v1, ← hn]; rfl
  simp only [hn1, hn2, lw, bindO_some]
  refine semCall_true (shape_Find hs ?_)
  simp only [outK_ret, lss_int, bindO_some, condB_bool]
  rcases whereI_find (symB p.1 p.2) s.rels.l with ⟨f1, f2⟩ | ⟨j, r, f1, f2, f3⟩
  · rw [f1]
    simp only [show decide ((-1 : Int) < 0) = true from rfl, cond_t]
    rw [hret, F.gate_bits.L0_r_eq]
    simp only [setV_eq, Nat.reduceEqDiff, reduceIte]
    exact h4 ⟨p, hpm, f2⟩ _ vx
  rw [f1]
  have hj : j < s.rels.l.length := (List.getElem?_eq_some_iff.1 f2).1
  have hro : r.ok := hs.2 r (List.mem_of_getElem? f2)
  have hrb := strc_rel hsv f2
  rw [hnn] at hrb
  obtain ⟨k, hk, k12, hkc, hkt⟩ := rel_all hrb
  have hsy := List.find?_some f3
  simp only [symB, Bool.and_eq_true, beq_iff_eq, decide_eq_true_eq] at hsy
  have hpk : p.2 = (k : Int) := by omega
  have hbk : k ≤ big := by unfold big; omega
  have hpa : powA n k = .tuple [.int .i64 ((n ^ k : Nat) : Int), .int .i64 0] := by rw [powA, if_neg (by omega), if_neg (by omega)]
  rw [hpk] at f3 ⊢
  simp only [decide_eq_false (by omega : ¬ ((j : Int) < 0)), cond_f, fa_ptr, Nat.add_zero, bindO_some, lz]
  refine semCall_true (shape_Power n1 n64 hbk ?_)
  rw [hpa]
  simp only [outK_ret, extract_0, extract_1, bindO_some, make_bl (show n ^ k ≤ 1000000 by omega), bindO2_some]
  obtain ⟨bes, bck, bm, b1, b2, b3⟩ := vD.ex
  have a1 : (H.alloc (.cells ((List.replicate (n ^ k) false).map bv))).get B = some (.map bes bck) := by rw [Heap.get_alloc, if_neg (by omega)]; exact b1
  obtain ⟨bes', bck', hu, hue⟩ := update_mapA a1 b2 p.1 (.slice H.next 0 (n ^ k) 1)
  simp only [hu, bindO_some]
  have u0 : ((H.alloc (.cells ((List.replicate (n ^ k) false).map bv))).set B (.map bes' bck')).get (h.next + 2 + 1) = some (.map es ck) := by rw [Heap.get_set, if_neg (by omega), Heap.get_alloc, if_neg (by omega)]; exact v0
  have u1 : ((H.alloc (.cells ((List.replicate (n ^ k) false).map bv))).set B (.map bes' bck')).get (h.next + 1) = some (.cells (encStrc s)) := by rw [Heap.get_set, if_neg (by omega), Heap.get_alloc, if_neg (by omega)]; exact v1
  have u3 : ((H.alloc (.cells ((List.replicate (n ^ k) false).map bv))).set B (.map bes' bck')).get (B + 1) = some (.miter (some (h.next + 2 + 1)) ck (seen ++ [en.2.2]) ck) := by rw [Heap.get_set, if_neg (by omega), Heap.get_alloc, if_neg (by omega)]; exact v3
  have u4 : ((H.alloc (.cells ((List.replicate (n ^ k) false).map bv))).set B (.map bes' bck')).get B = some (.map bes' bck') := by rw [Heap.get_set, if_pos rfl]
  have u5 : ((H.alloc (.cells ((List.replicate (n ^ k) false).map bv))).set B (.map bes' bck')).get H.next = some (.cells ((List.replicate (n ^ k) false).map bv)) := by rw [Heap.get_set, if_neg (by omega)]; exact get_alloc_same _ _
  have uo : ∀ b, b ≠ B → b < H.next → ((H.alloc (.cells ((List.replicate (n ^ k) false).map bv))).set B (.map bes' bck')).get b = H.get b := fun b hb hl => by rw [Heap.get_set, if_neg hb, Heap.get_alloc, if_neg (by omega)]
  have un : ((H.alloc (.cells ((List.replicate (n ^ k) false).map bv))).set B (.map bes' bck')).next = H.next + 1 := by rw [Heap.next_set, Heap.next_alloc]
  have ux : HExt h ((H.alloc (.cells ((List.replicate (n ^ k) false).map bv))).set B (.map bes' bck')) := (vx.trans (HExt.alloc _ _)).set (by omega) _
  generalize ((H.alloc (.cells ((List.replicate (n ^ k) false).map bv))).set B (.map bes' bck')) = H2 at u0 u1 u3 u4 u5 uo un ux ⊢
  have lr : loadS none (.ptr (h.next + 1) 1) H2 = some (encSl encRel 3 s.rels) := by rw [load_ptr u1]; rfl
  simp only [fa_ptr, Nat.zero_add, bindO_some, lr, iaS_enc s.rels hj, fa_iptr, get_tups f2, lenS_enc]
  refine loopB_range 0 r.tuples.l.length (Nat.zero_le _) (fun i e h3 => ∃ d, bitsOf n k r.tuples.l = bitsGo n (r.tuples.l.drop i) d ∧ d.length = n ^ k ∧ h3.get H.next = some (.cells (d.map bv)) ∧ (∀ b, b ≠ H.next → h3.get b = H2.get b) ∧ h3.next = H2.next ∧
    e 3 = .ptr (h.next + 1) 0 ∧ e 7 = .map (h.next + 2 + 1) ∧ e 9 = .map B ∧ e 38 = .ptr (B + 1) 0 ∧ e 10 = .str p.1 ∧ e 66 = encSl encT 1 r.tuples ∧ e 67 = .int .i64 (r.tuples.l.length : Int) ∧ e 68 = .int .i64 (i : Int))
    ⟨_, rfl, by simp, u5, fun _ _ => rfl, rfl, e3, e7, e9, e38, rfl, rfl, rfl, rfl⟩ ?_ ?_
  · rintro i e h3 _ hi ⟨d, hd, hdl, t5, to, tn, e3, e7, e9, e38, e10, e66, e67, e68⟩ K2 hn2 hx2 hr2 hp2
    have hv : r.tuples.l[i]? = some r.tuples.l[i] := List.getElem?_eq_getElem hi
    generalize r.tuples.l[i] = t at hv
    obtain ⟨htl, htb⟩ := tup_in hkt hv
    rw [bits_drop hv] at hd
    have hrk : rkN n t.l < n ^ k := by have := rkN_lt htb; rwa [htl] at this
    have w1 : h3.get (h.next + 1) = some (.cells (encStrc s)) := by rw [to _ (by omega)]; exact u1
    have lz : loadS none (.ptr (h.next + 1) 0) h3 = some (.int .i64 (n : Int)) := by rw [load_ptr w1, ← hn]; rfl
    have w4 : h3.get B = some (.map bes' bck') := by rw [to _ (by omega)]; exact u4
    have hlk : lookupS .string .nils false (.map B) (.str p.1) h3 = some (.slice H.next 0 (n ^ k) 1) := by rw [lookup_mapA w4 hue, find_upd, if_pos rfl]; rfl
    rw [F.gate_bits.L1_eq]
    simp only [e3, e66, e67, e68, bindO_some, bindO2_some, outK_ret, condB_bool, cond_t, cond_f, fa_ptr, fa_iptr, part_none, Nat.zero_add, Nat.add_zero, Nat.reduceAdd, List.getElem?_cons_zero, List.getElem?_cons_succ, len_str, lenS_enc, lss_int, leq_int, gtr_int, geq_int, eq_int, ne_int, eq_str, ne_str, eq_bool, ne_bool, not_bool, extract_0, extract_1, extract_2, setV_eq, Nat.reduceEqDiff, reduceIte, lt_true hi, iaS_enc r.tuples hi, get_tup hv, lz]
    refine semCall_true (shape_Rank n1 n64 (by omega) (by rw [htl]; exact hkc) htb ?_)
    simp only [bindO_some, bindO2_some, outK_ret, condB_bool, cond_t, cond_f, fa_ptr, fa_iptr, part_none, Nat.zero_add, Nat.add_zero, Nat.reduceAdd, List.getElem?_cons_zero, List.getElem?_cons_succ, len_str, lenS_enc, lss_int, leq_int, gtr_int, geq_int, eq_int, ne_int, eq_str, ne_str, eq_bool, ne_bool, not_bool, extract_0, extract_1, extract_2, setV_eq, Nat.reduceEqDiff, reduceIte, e9, e10, e68, hlk, ia_sl hrk, store_bl t5 (show rkN n t.l < d.length by omega), succ_i64 hi hro.2.1]
    exact hn2 _ _ ⟨_, hd, by simpa using hdl, by rw [Heap.get_set, if_pos rfl], fun b hb => by rw [Heap.get_set, if_neg hb]; exact to b hb, by rw [Heap.next_set]; exact tn, e3, e7, e9, e38, e10, e66, e67, rfl⟩
  · rintro e h3 ⟨d, hd, hdl, t5, to, tn, e3, e7, e9, e38, e10, e66, e67, e68⟩ K2 hx2
    rw [F.gate_bits.L1_eq]
    simp only [e67, e68, bindO_some, bindO2_some, outK_ret, condB_bool, cond_t, cond_f, fa_ptr, fa_iptr, part_none, Nat.zero_add, Nat.add_zero, Nat.reduceAdd, List.getElem?_cons_zero, List.getElem?_cons_succ, len_str, lenS_enc, lss_int, leq_int, gtr_int, geq_int, eq_int, ne_int, eq_str, ne_str, eq_bool, ne_bool, not_bool, extract_0, extract_1, extract_2, setV_eq, Nat.reduceEqDiff, reduceIte, lt_false]
    rw [hx2, F.gate_bits.L1_x2_eq]
    rw [List.drop_of_length_le (Nat.le_refl _)] at hd
    simp only [bitsGo] at hd
    refine hnx' en hen hns _ _ ⟨fun nm => if nm = p.1 then some (H.next, d) else D nm, ⟨⟨bes', bck', _, by rw [to _ (by omega)]; exact u4, hue, fun nm => ?_⟩, fun nm q hq => ?_, fun nm nm' q q' hq hq' hqq => ?_, by omega⟩, ⟨fun nm q hq => ?_⟩, fun en' hen' hse nm hnm => ?_, ?_, by omega, fun nm q hq => ?_, ?_, ?_, ?_, ?_, ?_, ?_, ?_⟩
    · rw [find_upd]
      by_cases hnm : nm = p.1
      · rw [if_pos hnm, if_pos hnm, Option.map_some, hdl]
      · rw [if_neg hnm, if_neg hnm, b3]
    · skip
      by_cases hnm : nm = p.1
      · rw [if_pos hnm] at hq; cases hq
        exact ⟨by have := vx.next; omega, by omega, by omega, t5⟩
      · rw [if_neg hnm] at hq
        obtain ⟨k1, k2, k3, k4⟩ := vD.blk nm q hq
        exact ⟨k1, by omega, k3, by rw [to _ (by omega), uo _ k3 k2]; exact k4⟩
    · skip
      by_cases hnm : nm = p.1
      · by_cases hnm' : nm' = p.1
        · rw [hnm, hnm']
        · rw [if_pos hnm] at hq; rw [if_neg hnm'] at hq'; cases hq
          obtain ⟨k1, k2, k3, k4⟩ := vD.blk nm' q' hq'
          simp only at hqq; omega
      · by_cases hnm' : nm' = p.1
        · rw [if_neg hnm] at hq; rw [if_pos hnm'] at hq'; cases hq'
          obtain ⟨k1, k2, k3, k4⟩ := vD.blk nm q hq
          simp only at hqq; omega
        · rw [if_neg hnm] at hq; rw [if_neg hnm'] at hq'
          exact vD.inj nm nm' q q' hq hq' hqq
    · skip
      by_cases hnm : nm = p.1
      · rw [if_pos hnm] at hq; cases hq
        subst hnm
        exact ⟨k, r, by rw [mem_findI hnd hpm, hpk], f3, hd.symm⟩
      · rw [if_neg hnm] at hq
        exact hFD.to nm q hq
    · simp only
      by_cases hnm' : nm = p.1
      · rw [if_pos hnm']; rfl
      · rw [if_neg hnm']
        refine hseen en' hen' ?_ nm hnm
        rcases List.mem_append.1 hse with h5 | h5
        · exact h5
        · exfalso
          simp only [List.mem_singleton] at h5
          have h6 := findBorn_of hBi.nodup hen'
          have h7 := findBorn_of hBi.nodup hen
          rw [h5, h7] at h6
          cases h6
          rw [hn1] at hnm; cases hnm
          exact hnm' rfl
    · exact ⟨by rw [tn]; exact ux.next, fun b hb => by rw [to _ (by have := vx.next; omega)]; exact ux.get b hb⟩
    · simp only at hq
      by_cases hnm : nm = p.1
      · rw [if_pos hnm] at hq; cases hq; show B + 2 ≤ H.next; omega
      · rw [if_neg hnm] at hq; exact hDB nm q hq
    · rw [to _ (by omega)]; exact u0
    · rw [to _ (by omega)]; exact u1
    · rw [to _ (by omega)]; exact u3
    · exact e3
    · exact e7
    · exact e9
    · exact e38
end
end Go.AM
/- Which names are asked for, and what their bits are: the program and the reference agree; the program's Run. Conditions: none. -/
namespace Go.AM
open Go Go.Proofs
set_option linter.unusedVariables false
set_option linter.unusedSimpArgs false
noncomputable section

/-! ### Names of a structure's relations -/
theorem strc_names {s : Strc} (hv : strcB s = true) : (s.rels.l.map Rel.name).Nodup := by
  simp only [strcB, Bool.and_eq_true] at hv
  unfold List.Nodup
  rw [List.pairwise_iff_getElem]
  intro i j hi hj hij e
  rw [List.length_map] at hi hj
  have := allN_get hv.2.2.2 hj
  rw [relAt, List.getElem?_eq_getElem hj] at this
  simp only [Bool.and_eq_true, Bool.not_eq_true'] at this
  rw [List.getElem_map, List.getElem_map] at e
  have h2 := any_at (p := fun q : Rel => q.name == s.rels.l[j].name) (List.getElem?_eq_getElem hi) hij (by simpa using e)
  rw [h2] at this
  cases this.2
theorem find_namedL : ∀ {l : List Rel}, (l.map Rel.name).Nodup → ∀ r ∈ l, l.find? (namedB r.name) = some r
  | [], _, r, h => by cases h
  | q :: l, hn, r, h => by
    rw [List.map_cons, List.nodup_cons] at hn
    rw [List.find?_cons]
    rcases List.mem_cons.1 h with rfl | h
    · have : namedB r.name r = true := by simp [namedB]
      rw [this]
    · have : namedB r.name q = false := by
        simp only [namedB, beq_eq_false_iff_ne]
        exact fun e => hn.1 (e ▸ List.mem_map_of_mem h)
      rw [this]
      exact find_namedL hn.2 r h
theorem find_symL : ∀ {l : List Rel}, (l.map Rel.name).Nodup → ∀ (nm : Str) (k : Int), l.find? (symB nm k) = match l.find? (namedB nm) with
    | some r => if r.arity = k then some r else none
    | none => none
  | [], _, nm, k => rfl
  | q :: l, hn, nm, k => by
    rw [List.map_cons, List.nodup_cons] at hn
    rw [List.find?_cons, List.find?_cons]
    cases hq : namedB nm q with
    | true =>
      have hq' : q.name == nm := hq
      simp only
      by_cases ha : q.arity = k
      · have : symB nm k q = true := by rw [symB, hq', decide_eq_true ha]; rfl
        rw [this, if_pos ha]
      · have : symB nm k q = false := by rw [symB, decide_eq_false ha, Bool.and_false]
        rw [this, if_neg ha]
        simp only
        rw [List.find?_eq_none]
        intro r hr hs
        simp only [symB, Bool.and_eq_true, beq_iff_eq] at hs hq'
        exact hn.1 (by rw [hq', ← hs.1]; exact List.mem_map_of_mem hr)
    | false =>
      have hq' : (q.name == nm) = false := hq
      have : symB nm k q = false := by rw [symB, hq', Bool.false_and]
      rw [this]
      exact find_symL hn.2 nm k
theorem fitZ_sym {s : Strc} (hv : strcB s = true) (y : Str × Int) : fitZ s y = (s.rels.l.find? (symB y.1 y.2)).isSome := by
  rw [find_symL (strc_names hv), fitZ]
  cases s.rels.l.find? (namedB y.1) with
  | none => rfl
  | some r =>
    simp only
    by_cases h : r.arity = y.2
    · rw [if_pos h, decide_eq_true h]; rfl
    · rw [if_neg h, decide_eq_false h]; rfl

/-! ### The reference's symbols are the inputs' names with their places -/
theorem mem_rising {x s : Str} : ∀ {l : List Str}, x ∈ risingL l s ↔ x ∈ l ∨ x = s
  | [] => by simp [risingL]
  | a :: l => by
    rw [risingL]
    split
    · rw [List.mem_cons, mem_rising (l := l), List.mem_cons, or_assoc]
    · split
      · rename_i h; subst h
        rw [List.mem_cons]
        exact ⟨fun h => .inl h, fun h => h.elim id .inl⟩
      · rw [List.mem_cons]; exact Or.comm
theorem mem_order {x : Str} : ∀ {ys : List (Str × Int)} {o : List Str}, x ∈ orderGo ys o ↔ x ∈ o ∨ ∃ y ∈ ys, y.1 = x ∧ x ≠ []
  | [], o => by simp [orderGo]
  | y :: ys, o => by
    rw [orderGo, mem_order]
    by_cases hy : y.1 = []
    · rw [if_pos (by simp [hy])]
      constructor
      · rintro (h | ⟨z, hz, h⟩)
        · exact .inl h
        · exact .inr ⟨z, List.mem_cons_of_mem _ hz, h⟩
      · rintro (h | ⟨z, hz, h1, h2⟩)
        · exact .inl h
        · rcases List.mem_cons.1 hz with rfl | hz
          · exact absurd (h1.symm.trans hy) h2
          · exact .inr ⟨z, hz, h1, h2⟩
    · rw [if_neg (by simp [hy]), mem_rising]
      constructor
      · rintro ((h | rfl) | ⟨z, hz, h⟩)
        · exact .inl h
        · exact .inr ⟨y, List.mem_cons_self, rfl, hy⟩
        · exact .inr ⟨z, List.mem_cons_of_mem _ hz, h⟩
      · rintro (h | ⟨z, hz, h1, h2⟩)
        · exact .inl (.inl h)
        · rcases List.mem_cons.1 hz with rfl | hz
          · exact .inl (.inr h1.symm)
          · exact .inr ⟨z, hz, h1, h2⟩
structure InF (l : List Gate) (o o' : List (Str × Nat)) : Prop where
  from_ : ∀ y ∈ o', y ∈ o ∨ ∃ g ∈ l, g.kind = 1 ∧ g.name = y.1 ∧ y.2 = g.at_.l.length
  old : ∀ y ∈ o, y ∈ o'
  ins : ∀ g ∈ l, g.kind = 1 → ∃ y ∈ o', y.1 = g.name
theorem inGo_facts : ∀ (l : List Gate) (o : List (Str × Nat)), InF l o (inGo l o)
  | [], o => ⟨fun y h => .inl h, fun y h => h, fun g h => (by cases h)⟩
  | g :: l, o => by
    rw [inGo]
    have ih := inGo_facts l (if g.kind = 1 ∧ (o.any fun y => y.1 == g.name) = false then o ++ [(g.name, g.at_.l.length)] else o)
    generalize inGo l (if g.kind = 1 ∧ (o.any fun y => y.1 == g.name) = false then o ++ [(g.name, g.at_.l.length)] else o) = r at ih ⊢
    by_cases hq : g.kind = 1 ∧ (o.any fun y => y.1 == g.name) = false
    · rw [if_pos hq] at ih
      refine ⟨fun y hy => ?_, fun y hy => ih.old y (List.mem_append_left _ hy), fun g' hg' k1 => ?_⟩
      · rcases ih.from_ y hy with h | ⟨g', h1, h2⟩
        · rcases List.mem_append.1 h with h | h
          · exact .inl h
          · simp only [List.mem_singleton] at h
            subst h
            exact .inr ⟨g, List.mem_cons_self, hq.1, rfl, rfl⟩
        · exact .inr ⟨g', List.mem_cons_of_mem _ h1, h2⟩
      · rcases List.mem_cons.1 hg' with rfl | hg'
        · exact ⟨_, ih.old _ (List.mem_append_right _ (List.mem_singleton.2 rfl)), rfl⟩
        · exact ih.ins g' hg' k1
    · rw [if_neg hq] at ih
      refine ⟨fun y hy => ?_, ih.old, fun g' hg' k1 => ?_⟩
      · rcases ih.from_ y hy with h | ⟨g', h1, h2⟩
        · exact .inl h
        · exact .inr ⟨g', List.mem_cons_of_mem _ h1, h2⟩
      · rcases List.mem_cons.1 hg' with rfl | hg'
        · have : (o.any fun y => y.1 == g'.name) = true := by
            cases h : o.any fun y => y.1 == g'.name with
            | true => rfl
            | false => exact absurd ⟨k1, h⟩ hq
          obtain ⟨y, hy, hn⟩ := List.any_eq_true.1 this
          exact ⟨y, ih.old y hy, by simpa using hn⟩
        · exact ih.ins g' hg' k1
theorem fit_input {n : Int} {i : Nat} {g : Gate} (hf : fitB n i g = true) (k1 : g.kind = 1) : g.name ≠ [] ∧ g.at_.l.length ≤ 12 ∧ inB n g.at_.l = true := by
  simp only [fitB, if_pos k1, Bool.and_eq_true, decide_eq_true_eq] at hf
  refine ⟨fun e => ?_, hf.2.2.2.2.1, hf.2.2.2.2.2.2⟩
  have := hf.2.2.2.1
  rw [e] at this
  simp [nameB] at this
theorem symsC_mem {c : Circ} {m : MapL} (hm : symsOf c = some m) (hf : c.fits) (y : Str × Int) : y ∈ symsC c ↔ m.find y.1 = some y.2 := by
  have hS := symsOf_facts hm
  have hI := inGo_facts c.gates.l []
  have hne : ∀ g ∈ c.gates.l, g.kind = 1 → g.name ≠ [] := fun g hg k1 => by
    obtain ⟨i, hi⟩ := List.getElem?_of_mem hg
    exact (fit_input (hf.2.2 i g hi) k1).1
  have hmem : ∀ nm, nm ∈ orderL (atomsP (inputs c)) ↔ ∃ z ∈ inputs c, z.1 = nm ∧ nm ≠ [] := fun nm => by
    rw [orderL, mem_order]
    constructor
    · rintro (h | ⟨z, hz, h1, h2⟩)
      · cases h
      · rcases List.mem_cons.1 hz with rfl | hz
        · exact absurd h1.symm h2
        · obtain ⟨w, hw, rfl⟩ := List.mem_map.1 hz
          exact ⟨w, hw, h1, h2⟩
    · rintro ⟨z, hz, h1, h2⟩
      exact .inr ⟨(z.1, (z.2 : Int)), List.mem_cons_of_mem _ (List.mem_map.2 ⟨z, hz, rfl⟩), h1, h2⟩
  have har : ∀ nm, (∃ z ∈ inputs c, z.1 = nm ∧ nm ≠ []) → m.find nm = some (arI (atomsP (inputs c)) nm) := by
    rintro nm ⟨z, hz, h1, h2⟩
    have hany : ((inputs c).map fun y => (y.1, (y.2 : Int))).find? (fun y => y.1 == nm) ≠ none := by
      rw [Ne, List.find?_eq_none]
      intro hh
      exact hh (z.1, (z.2 : Int)) (List.mem_map.2 ⟨z, hz, rfl⟩) (by simpa using h1)
    obtain ⟨w, hw⟩ := Option.ne_none_iff_exists'.1 hany
    have hw1 := List.mem_of_find?_eq_some hw
    have hw2 := List.find?_some hw
    obtain ⟨v, hv, rfl⟩ := List.mem_map.1 hw1
    have e : arI (atomsP (inputs c)) nm = (v.2 : Int) := by
      unfold arI atomsP
      rw [List.find?_cons]
      have : (([] : Str) == nm) = false := by simpa using Ne.symm h2
      simp only [this, hw]
    rw [e]
    rcases hI.from_ v hv with h | ⟨g, hg, k1, k2, k3⟩
    · cases h
    · have := hS.ins g hg k1
      simp only [beq_iff_eq] at hw2
      rw [k2, hw2] at this
      rw [this, k3]
  constructor
  · intro h
    obtain ⟨nm, hn, rfl⟩ := List.mem_map.1 h
    exact har nm ((hmem nm).1 hn)
  · intro h
    rcases hS.from_ _ _ h with h0 | ⟨g, hg, k1, k2, k3⟩
    · cases h0
    · obtain ⟨z, hz, hz1⟩ := hI.ins g hg k1
      have hex : ∃ z ∈ inputs c, z.1 = y.1 ∧ y.1 ≠ [] := ⟨z, hz, hz1.trans k2, by rw [← k2]; exact hne g hg k1⟩
      have := har _ hex
      rw [h] at this
      refine List.mem_map.2 ⟨y.1, (hmem _).2 hex, ?_⟩
      cases y
      simp only [Option.some.injEq] at this ⊢
      rw [← this]
theorem all_found {c : Circ} {s : Strc} {m : MapL} (hm : symsOf c = some m) (hf : c.fits) (hv : strcB s = true) : (symsC c).all (fitZ s) = false ↔ ∃ p ∈ m, s.rels.l.find? (symB p.1 p.2) = none := by
  have hnd : (m.map (·.1)).Nodup := (symsOf_facts hm).nodup List.nodup_nil
  rw [List.all_eq_false]
  constructor
  · rintro ⟨y, hy, h⟩
    rw [fitZ_sym hv] at h
    refine ⟨y, find_memI ((symsC_mem hm hf y).1 hy), ?_⟩
    simpa using h
  · rintro ⟨p, hp, h⟩
    refine ⟨p, (symsC_mem hm hf p).2 (mem_findI hnd hp), ?_⟩
    rw [fitZ_sym hv, h]; simp

/-! ### Bits -/
theorem bitT_find {n : Nat} {nm : Str} {r : Nat} : ∀ {l : List Rel}, (l.map Rel.name).Nodup → ∀ b, bitT nm r (l.map (tabOf n)) b = match l.find? (namedB nm) with
    | some q => (tabOf n q).bits.getD r false
    | none => b
  | [], _, b => rfl
  | q :: l, hn, b => by
    rw [List.map_cons, List.nodup_cons] at hn
    rw [List.map_cons, bitT, bitT_find hn.2, List.find?_cons]
    cases hq : namedB nm q with
    | true =>
      have hq' : q.name == nm := hq
      have h0 : l.find? (namedB nm) = none := by
        rw [List.find?_eq_none]
        intro r hr hs
        simp only [namedB, beq_iff_eq] at hs hq'
        exact hn.1 (by rw [hq', ← hs]; exact List.mem_map_of_mem hr)
      rw [h0]
      simp only
      rw [if_pos (show ((tabOf n q).name == nm) = true from hq)]
    | false =>
      rw [if_neg (by rw [show ((tabOf n q).name == nm) = false from hq]; decide)]
theorem val_eq {n : Nat} {tabs : List Tab} {look : Str → Nat → Bool} : ∀ {l : List Gate}, (∀ g ∈ l, ∀ i d, valueB n tabs d i g = valueL look n d g) → ∀ i d, valGo n tabs l i d = valL look n l i d
  | [], _, _, _ => rfl
  | g :: l, h, i, d => by
    rw [valGo, valL, h g List.mem_cons_self, val_eq fun g' hg' => h g' (List.mem_cons_of_mem _ hg')]
/-- What the bits of an input are. -/
theorem input_bits {c : Circ} {s : Strc} {n : Nat} {m : MapL} {D : Str → Option (Nat × List Bool)} (hm : symsOf c = some m) (hf : c.fits) (hv : strcB s = true) (hn : s.size = (n : Int)) (hF : FitsD n s m D) (hA : AllD m D) {g : Gate} (hg : g ∈ c.gates.l) (k1 : g.kind = 1) :
    ∃ p r, D g.name = some p ∧ s.rels.l.find? (namedB g.name) = some r ∧ r.arity = (g.at_.l.length : Int) ∧ p.2 = bitsOf n g.at_.l.length r.tuples.l ∧ n ^ g.at_.l.length ≤ 4096 := by
  have hS := symsOf_facts hm
  have hin := hS.ins g hg k1
  have hD := hA _ (find_memI hin)
  obtain ⟨p, hp⟩ := Option.isSome_iff_exists.1 hD
  obtain ⟨k, r, h1, h2, h3⟩ := hF.to _ _ hp
  simp only at h1
  rw [hin] at h1
  obtain rfl : k = g.at_.l.length := by simp only [Option.some.injEq] at h1; omega
  have h4 := h2
  rw [find_symL (strc_names hv)] at h4
  cases hr : s.rels.l.find? (namedB g.name) with
  | none => rw [hr] at h4; cases h4
  | some q =>
    rw [hr] at h4
    simp only at h4
    split at h4
    · rename_i ha
      cases h4
      obtain ⟨i, hi⟩ := List.getElem?_of_mem (List.mem_of_find?_eq_some hr)
      have hrb := strc_rel hv hi
      rw [show s.size.toNat = n by omega] at hrb
      obtain ⟨k', e1, e2, e3, e4⟩ := rel_all hrb
      obtain rfl : k' = g.at_.l.length := by omega
      exact ⟨p, _, hp, rfl, ha, h3, e3⟩
    · cases h4
theorem size_fit {c : Circ} {s : Strc} {n : Nat} (hz : c.size = s.size) (hn : s.size = (n : Int)) (hf : c.fits) {g : Gate} (hg : g ∈ c.gates.l) (k1 : g.kind = 1) : g.at_.l.length ≤ 12 ∧ inB (n : Int) g.at_.l = true := by
  obtain ⟨i, hi⟩ := List.getElem?_of_mem hg
  have := fit_input (hf.2.2 i g hi) k1
  rw [hz, hn] at this
  exact this.2
theorem runsD_of {c : Circ} {s : Strc} {n : Nat} {m : MapL} {D : Str → Option (Nat × List Bool)} (hm : symsOf c = some m) (hf : c.fits) (hv : strcB s = true) (hz : c.size = s.size) (hn : s.size = (n : Int)) (hF : FitsD n s m D) (hA : AllD m D) : RunsD n D c := by
  refine ⟨fun g hg k1 => (size_fit hz hn hf hg k1).1, fun g hg k1 => ?_, fun g hg k1 => (size_fit hz hn hf hg k1).2, fun g hg k1 => ?_⟩
  · obtain ⟨p, r, h1, h2, h3, h4, h5⟩ := input_bits hm hf hv hn hF hA hg k1
    exact h5
  · obtain ⟨p, r, h1, h2, h3, h4, h5⟩ := input_bits hm hf hv hn hF hA hg k1
    exact ⟨p, h1, by rw [h4, bitsOf_len]; exact rkN_lt (size_fit hz hn hf hg k1).2⟩
theorem value_eq {c : Circ} {s : Strc} {n : Nat} {m : MapL} {D : Str → Option (Nat × List Bool)} (hm : symsOf c = some m) (hf : c.fits) (hv : strcB s = true) (hz : c.size = s.size) (hn : s.size = (n : Int)) (hF : FitsD n s m D) (hA : AllD m D) : valueOf (lookD D) n c = valB n (tabsOf s) c := by
  unfold valueOf valB valsL valsOf
  rw [val_eq (tabs := tabsOf s) (look := lookD D)]
  intro g hg i d
  unfold valueB valueL
  split
  · rfl
  split
  · rename_i k1
    obtain ⟨p, r, h1, h2, h3, h4, h5⟩ := input_bits hm hf hv hn hF hA hg k1
    rw [tabsOf, bitT_find (strc_names hv), h2, lookD, h1]
    simp only [tabOf, h3, h4, show s.size.toNat = n by omega, Int.toNat_natCast]
  · rfl

theorem all_some {c : Circ} {s : Strc} {m : MapL} (hm : symsOf c = some m) (hf : c.fits) (hv : strcB s = true) (ha : (symsC c).all (fitZ s) = true) {g : Gate} (hg : g ∈ c.gates.l) (k1 : g.kind = 1) : ∃ r, s.rels.l.find? (namedB g.name) = some r ∧ r.arity = (g.at_.l.length : Int) := by
  have hin := (symsOf_facts hm).ins g hg k1
  have hy := (symsC_mem hm hf (g.name, (g.at_.l.length : Int))).2 hin
  have := List.all_eq_true.1 ha _ hy
  rw [fitZ] at this
  split at this
  · rename_i r hr; exact ⟨r, hr, by simpa using this⟩
  · cases this
theorem runs_of {c : Circ} {s : Strc} {n : Nat} {m : MapL} (hm : symsOf c = some m) (hf : c.fits) (hv : strcB s = true) (hz : c.size = s.size) (hn : s.size = (n : Int)) (ha : (symsC c).all (fitZ s) = true) : Runs n (tabsOf s) c := by
  have hrel : ∀ r ∈ s.rels.l, relB n r = true := fun r hr => by
    obtain ⟨i, hi⟩ := List.getElem?_of_mem hr
    have hrb := strc_rel hv hi
    rwa [show s.size.toNat = n by omega] at hrb
  refine ⟨fun g hg k1 => (size_fit hz hn hf hg k1).1, fun g hg k1 => ?_, fun g hg k1 => (size_fit hz hn hf hg k1).2, fun g hg k1 t ht htn => ?_⟩
  · obtain ⟨r, h1, h2⟩ := all_some hm hf hv ha hg k1
    obtain ⟨k', e1, e2, e3, e4⟩ := rel_all (hrel r (List.mem_of_find?_eq_some h1))
    obtain rfl : k' = g.at_.l.length := by omega
    exact e3
  · obtain ⟨r, h1, h2⟩ := all_some hm hf hv ha hg k1
    obtain ⟨q, hq, rfl⟩ := List.mem_map.1 ht
    have h3 := find_namedL (strc_names hv) q hq
    rw [show q.name = g.name from htn, h1] at h3
    cases h3
    simp only [tabOf, bitsOf_len, h2, show s.size.toNat = n by omega, Int.toNat_natCast]
    exact rkN_lt (size_fit hz hn hf hg k1).2

def runV (c : Circ) (s : Strc) : Bool := decide (errI c s = 0) && valB s.size.toNat (tabsOf s) c
theorem gate_Run {c : Circ} {s : Strc} (hc : c.ok) (hs : s.ok) {h : Heap} {K : Out → Heap → Bool} (hK : K (.ret (.tuple [.bool (runV c s), .int .i64 (errI c s)])) h = true) : Sem Tryz.prog 18 [.agg (encCirc c), .agg (encStrc s)] h K := by
  refine Sem.data (r := .tuple [.bool (runV c s), .int .i64 (errI c s)]) ?_ (by simp [AV.pureL, AV.pure, pure_encStrc, pure_encCirc]) hK
  clear hK
  have fin : ∀ (b : Bool) (n : Int) (H : Heap), b = runV c s → n = errI c s → frzK (.tuple [.bool (runV c s), .int .i64 (errI c s)]) (.ret (.tuple [.bool b, .int .i64 n])) H = true := fun b n H hb hn => by rw [hb, hn]; exact frzK_same rfl
  generalize frzK (.tuple [.bool (runV c s), .int .i64 (errI c s)]) = K at fin ⊢
  have bad : ∀ (n : Int) (H : Heap), n = errI c s → n ≠ 0 → K (.ret (.tuple [.bool false, .int .i64 n])) H = true := fun n H hn h0 => fin _ _ _ (by rw [runV, ← hn, decide_eq_false h0]; rfl) hn
  refine F.gate_Run_sem ?_
  simp only [box_agg (one_encCirc c), box_agg (one_encStrc s), bindO_some, next_empty, Heap.next_alloc]
  have g0 : (Heap.alloc (Heap.alloc Heap.empty (.cells (encCirc c))) (.cells (encStrc s))).get 0 = some (.cells (encCirc c)) := by simp [Heap.get_alloc, next_empty]
  have g1 : (Heap.alloc (Heap.alloc Heap.empty (.cells (encCirc c))) (.cells (encStrc s))).get 1 = some (.cells (encStrc s)) := by simp [Heap.get_alloc, next_empty]
  have gn : (Heap.alloc (Heap.alloc Heap.empty (.cells (encCirc c))) (.cells (encStrc s))).next = 2 := rfl
  generalize (Heap.alloc (Heap.alloc Heap.empty (.cells (encCirc c))) (.cells (encStrc s))) = H at g0 g1 gn ⊢
  have l0 : loadS (some 2) (.ptr 0 0) H = some (.agg (encCirc c)) := by rw [load_ptr g0, part_whole (cs := encCirc c) (n := 2) rfl]
  have l1 : loadS (some 2) (.ptr 1 0) H = some (.agg (encStrc s)) := by rw [load_ptr g1, part_whole (cs := encStrc s) (n := 2) rfl]
  simp only [Nat.zero_add, l0, l1, bindO_some]
  refine semCall_true (gate_bits hc hs (fun hno h' hx => ?_) (fun hv hsv hz h' hx => ?_) (fun m hm hsv hz hex h' hx => ?_) (fun m hm hsv hz h' B M es ck D hx hB hF hA _ _ _ _ _ _ _ => ?_))
  · simp only [bindO_some, bindO2_some, outK_ret, condB_bool, cond_t, cond_f, fa_ptr, fa_iptr, part_none, Nat.zero_add, Nat.add_zero, Nat.reduceAdd, List.getElem?_cons_zero, List.getElem?_cons_succ, len_str, lenS_enc, lss_int, leq_int, gtr_int, geq_int, eq_int, ne_int, eq_str, ne_str, eq_bool, ne_bool, not_bool, extract_0, extract_1, extract_2, setV_eq, Nat.reduceEqDiff, reduceIte]
    exact bad _ _ (by rw [errI, if_pos hno]) (by decide)
  · simp only [bindO_some, bindO2_some, outK_ret, condB_bool, cond_t, cond_f, fa_ptr, fa_iptr, part_none, Nat.zero_add, Nat.add_zero, Nat.reduceAdd, List.getElem?_cons_zero, List.getElem?_cons_succ, len_str, lenS_enc, lss_int, leq_int, gtr_int, geq_int, eq_int, ne_int, eq_str, ne_str, eq_bool, ne_bool, not_bool, extract_0, extract_1, extract_2, setV_eq, Nat.reduceEqDiff, reduceIte]
    exact bad _ _ (by rw [errI, if_neg (by simp [hv, hsv]), if_pos hz]) (by decide)
  · have hv : validB c = true := by rw [validB, hm]; rfl
    simp only [bindO_some, bindO2_some, outK_ret, condB_bool, cond_t, cond_f, fa_ptr, fa_iptr, part_none, Nat.zero_add, Nat.add_zero, Nat.reduceAdd, List.getElem?_cons_zero, List.getElem?_cons_succ, len_str, lenS_enc, lss_int, leq_int, gtr_int, geq_int, eq_int, ne_int, eq_str, ne_str, eq_bool, ne_bool, not_bool, extract_0, extract_1, extract_2, setV_eq, Nat.reduceEqDiff, reduceIte]
    exact bad _ _ (by rw [errI, if_neg (by simp [hv, hsv]), if_neg (by simp [hz]), if_pos ((all_found hm (fits_valid hv) hsv).2 hex)]) (by decide)
  · have hv : validB c = true := by rw [validB, hm]; rfl
    have hf := fits_valid hv
    obtain ⟨n, hn, n1, n64, h8⟩ := strc_size hsv
    have hnn : s.size.toNat = n := by omega
    rw [hnn] at hF
    have l0' : loadS (some 2) (.ptr 0 0) h' = some (.agg (encCirc c)) := by rw [load_ptr (by rw [hx.get 0 (by omega)]; exact g0), part_whole (cs := encCirc c) (n := 2) rfl]
    have he : errI c s = 0 := by
      have : ¬ (symsC c).all (fitZ s) = false := fun h => by
        obtain ⟨p, hp, hno⟩ := (all_found hm hf hsv).1 h
        obtain ⟨q, hq⟩ := Option.isSome_iff_exists.1 (hA p hp)
        obtain ⟨k, r, h1, h2, h3⟩ := hF.to _ _ hq
        rw [mem_findI ((symsOf_facts hm).nodup List.nodup_nil) hp] at h1
        simp only [Option.some.injEq] at h1
        rw [h1, h2] at hno; cases hno
      rw [errI, if_neg (by simp [hv, hsv]), if_neg (by simp [hz]), if_neg this]
    simp only [bindO_some, bindO2_some, outK_ret, condB_bool, cond_t, cond_f, fa_ptr, fa_iptr, part_none, Nat.zero_add, Nat.add_zero, Nat.reduceAdd, List.getElem?_cons_zero, List.getElem?_cons_succ, len_str, lenS_enc, lss_int, leq_int, gtr_int, geq_int, eq_int, ne_int, eq_str, ne_str, eq_bool, ne_bool, not_bool, extract_0, extract_1, extract_2, setV_eq, Nat.reduceEqDiff, reduceIte, l0']
    refine semCall_true (gate_result hc hf (hz.trans hn) n1 n64 (runsD_of hm hf hsv hz hn hF hA) hB fun h2 hx2 => ?_)
    simp only [bindO_some, bindO2_some, outK_ret, condB_bool, cond_t, cond_f, fa_ptr, fa_iptr, part_none, Nat.zero_add, Nat.add_zero, Nat.reduceAdd, List.getElem?_cons_zero, List.getElem?_cons_succ, len_str, lenS_enc, lss_int, leq_int, gtr_int, geq_int, eq_int, ne_int, eq_str, ne_str, eq_bool, ne_bool, not_bool, extract_0, extract_1, extract_2, setV_eq, Nat.reduceEqDiff, reduceIte]
    exact fin _ _ _ (by rw [runV, he, value_eq hm hf hsv hz hn hF hA, hnn]; rfl) he.symm
end
end Go.AM
/- The law GateRuns. Conditions: none. -/
namespace Go.AM
open Go Go.Proofs
set_option linter.unusedVariables false
set_option linter.unusedSimpArgs false
noncomputable section

theorem err_ok {c : Circ} {s : Strc} (h : errI c s = 0) : validB c = true ∧ strcB s = true ∧ c.size = s.size ∧ (symsC c).all (fitZ s) = true := by
  unfold errI at h
  split at h
  · cases h
  rename_i h1
  split at h
  · cases h
  rename_i h2
  split at h
  · cases h
  rename_i h3
  simp only [not_or, Bool.not_eq_false] at h1
  exact ⟨h1.1, h1.2, Decidable.not_not.1 h2, by simpa using h3⟩
theorem row_strc (s : Strc) : rowS [.int .i64 0, .nils] [(0, 2)] [.agg (encStrc s)] = some (encStrc s) := by
  obtain ⟨n, r⟩ := s
  cases r <;> rfl
theorem runs_err {c : Circ} {s : Strc} (h : errI c s = 0) {n : Nat} (hn : s.size = (n : Int)) : Runs n (tabsOf s) c := by
  obtain ⟨h1, h2, h3, h4⟩ := err_ok h
  obtain ⟨m, hm⟩ := Option.isSome_iff_exists.1 (show (symsOf c).isSome = true from h1)
  exact runs_of hm (fits_valid h1) h2 h3 hn h4

/-- THE LAW. -/
theorem law_GateRuns {c : Circ} {s : Strc} (hc : c.ok) (hs : s.ok) : Sem Tryz.prog 4 [.agg (encCirc c), .agg (encStrc s)] Heap.empty trueK := by
  refine F.law11_GateRuns_sem ?_
  simp only [box_agg (one_encCirc c), box_agg (one_encStrc s), bindO_some, next_empty, Heap.next_alloc]
  have g0 : (Heap.alloc (Heap.alloc Heap.empty (.cells (encCirc c))) (.cells (encStrc s))).get 0 = some (.cells (encCirc c)) := by simp [Heap.get_alloc, next_empty]
  have g1 : (Heap.alloc (Heap.alloc Heap.empty (.cells (encCirc c))) (.cells (encStrc s))).get 1 = some (.cells (encStrc s)) := by simp [Heap.get_alloc, next_empty]
  have gn : (Heap.alloc (Heap.alloc Heap.empty (.cells (encCirc c))) (.cells (encStrc s))).next = 2 := rfl
  generalize (Heap.alloc (Heap.alloc Heap.empty (.cells (encCirc c))) (.cells (encStrc s))) = H at g0 g1 gn ⊢
  have l0 : loadS (some 2) (.ptr 0 0) H = some (.agg (encCirc c)) := by rw [load_ptr g0, part_whole (cs := encCirc c) (n := 2) rfl]
  have l1 : loadS (some 2) (.ptr 1 0) H = some (.agg (encStrc s)) := by rw [load_ptr g1, part_whole (cs := encStrc s) (n := 2) rfl]
  simp only [Nat.zero_add, l0, l1, bindO_some]
  refine semCall_true (law11_Few hc fun b => ?_)
  simp only [bindO_some, bindO2_some, outK_ret, condB_bool, cond_t, cond_f, fa_ptr, fa_iptr, part_none, Nat.zero_add, Nat.add_zero, Nat.reduceAdd, List.getElem?_cons_zero, List.getElem?_cons_succ, len_str, lenS_enc, lss_int, leq_int, gtr_int, geq_int, eq_int, ne_int, eq_str, ne_str, eq_bool, ne_bool, not_bool, extract_0, extract_1, extract_2, setV_eq, Nat.reduceEqDiff, reduceIte]
  cases b with
  | false =>
    simp only [Bool.not_false, cond_t]
    refine semCall_true (alive_sem ?_)
    rfl
  | true =>
  simp only [Bool.not_true, cond_f, l1, bindO_some, row_strc]
  have g2 : (Heap.alloc H (.cells (encStrc s))).get H.next = some (.cells (encStrc s)) := get_alloc_same _ _
  have k0 : loadS (some 2) (.ptr 0 0) (Heap.alloc H (.cells (encStrc s))) = some (.agg (encCirc c)) := by rw [load_ptr (cs := encCirc c) (by rw [Heap.get_alloc, gn, if_neg (by omega)]; exact g0), part_whole (cs := encCirc c) (n := 2) rfl]
  have k1 : loadS (some 2) (.ptr 1 0) (Heap.alloc H (.cells (encStrc s))) = some (.agg (encStrc s)) := by rw [load_ptr (cs := encStrc s) (by rw [Heap.get_alloc, gn, if_neg (by omega)]; exact g1), part_whole (cs := encStrc s) (n := 2) rfl]
  generalize (Heap.alloc H (.cells (encStrc s))) = H2 at g2 k0 k1 ⊢
  refine semCall_true (law01_Few hs g2 fun b => ?_)
  simp only [bindO_some, bindO2_some, outK_ret, condB_bool, cond_t, cond_f, fa_ptr, fa_iptr, part_none, Nat.zero_add, Nat.add_zero, Nat.reduceAdd, List.getElem?_cons_zero, List.getElem?_cons_succ, len_str, lenS_enc, lss_int, leq_int, gtr_int, geq_int, eq_int, ne_int, eq_str, ne_str, eq_bool, ne_bool, not_bool, extract_0, extract_1, extract_2, setV_eq, Nat.reduceEqDiff, reduceIte]
  cases b with
  | false =>
    simp only [Bool.not_false, cond_t]
    refine semCall_true (alive_sem ?_)
    rfl
  | true =>
  simp only [Bool.not_true, cond_f, k0, k1, bindO_some]
  refine semCall_true (gate_Run hc hs ?_)
  simp only [bindO_some, bindO2_some, outK_ret, condB_bool, cond_t, cond_f, fa_ptr, fa_iptr, part_none, Nat.zero_add, Nat.add_zero, Nat.reduceAdd, List.getElem?_cons_zero, List.getElem?_cons_succ, len_str, lenS_enc, lss_int, leq_int, gtr_int, geq_int, eq_int, ne_int, eq_str, ne_str, eq_bool, ne_bool, not_bool, extract_0, extract_1, extract_2, setV_eq, Nat.reduceEqDiff, reduceIte, k0, k1]
  refine semCall_true (ref11_Check hc hs ?_)
  simp only [bindO_some, bindO2_some, outK_ret, condB_bool, cond_t, cond_f, fa_ptr, fa_iptr, part_none, Nat.zero_add, Nat.add_zero, Nat.reduceAdd, List.getElem?_cons_zero, List.getElem?_cons_succ, len_str, lenS_enc, lss_int, leq_int, gtr_int, geq_int, eq_int, ne_int, eq_str, ne_str, eq_bool, ne_bool, not_bool, extract_0, extract_1, extract_2, setV_eq, Nat.reduceEqDiff, reduceIte, beq_self_eq_true, int_beq]
  by_cases he : errI c s = 0
  · obtain ⟨h1, h2, h3, h4⟩ := err_ok he
    obtain ⟨n, hn, n1, n64, h8⟩ := strc_size h2
    simp only [decide_eq_true he, cond_t, k0, k1, bindO_some]
    refine semCall_true (ref11_Run hc (fits_valid h1) hs h2 hn (runs_err he hn) ?_)
    have : runV c s = valB n (tabsOf s) c := by rw [runV, decide_eq_true he, Bool.true_and, show s.size.toNat = n by omega]
    simp only [bindO_some, bindO2_some, outK_ret, condB_bool, cond_t, cond_f, fa_ptr, fa_iptr, part_none, Nat.zero_add, Nat.add_zero, Nat.reduceAdd, List.getElem?_cons_zero, List.getElem?_cons_succ, len_str, lenS_enc, lss_int, leq_int, gtr_int, geq_int, eq_int, ne_int, eq_str, ne_str, eq_bool, ne_bool, not_bool, extract_0, extract_1, extract_2, setV_eq, Nat.reduceEqDiff, reduceIte, this, beq_self_eq_true]
    refine semCall_true (alive_sem ?_)
    rfl
  · have : runV c s = false := by rw [runV, decide_eq_false he, Bool.false_and]
    simp only [decide_eq_false he, cond_f, this, eq_bool, beq_self_eq_true, bindO_some, condB_bool, cond_t]
    refine semCall_true (alive_sem ?_)
    rfl
end
end Go.AM
/- Structures, as what they say: which are valid, what is in them, what a change does. Conditions: none. -/
namespace Go.AM
open Go Go.Proofs
set_option linter.unusedVariables false
set_option linter.unusedSimpArgs false
noncomputable section

/-! ### Tuples in order -/
theorem lessB_rk {n : Nat} : ∀ {a b : List Int} (r : Nat), a.length = b.length → inB n a = true → inB n b = true → lessB a b = true → rkGo n a r < rkGo n b r
  | [], _, r, _, _, _, h => by simp [lessB] at h
  | _ :: _, [], r, _, _, _, h => by simp [lessB] at h
  | x :: a, y :: b, r, hl, ha, hb, h => by
    have ha' := ha
    have hb' := hb
    simp only [inB, List.all_cons, Bool.and_eq_true, Bool.not_eq_true', decide_eq_false_iff_not] at ha hb
    have ia : inB n a = true := by unfold inB; simpa using ha.2
    have ib : inB n b = true := by unfold inB; simpa using hb.2
    have hl' : a.length = b.length := by simpa using hl
    rw [lessB] at h
    simp only [rkGo]
    by_cases e : x = y
    · subst e
      rw [if_pos rfl] at h
      exact lessB_rk _ hl' ia ib h
    · rw [if_neg e] at h
      have hxy := of_decide_eq_true h
      have lo : ∀ (l : List Int) (r : Nat), r * n ^ l.length ≤ rkGo n l r := by
        intro l
        induction l with
        | nil => intro r; simp [rkGo]
        | cons z l ih =>
          intro r
          rw [rkGo]
          refine Nat.le_trans ?_ (ih _)
          rw [List.length_cons, Nat.pow_succ, Nat.mul_comm (n ^ l.length) n, ← Nat.mul_assoc]
          exact Nat.mul_le_mul_right _ (Nat.le_add_right _ _)
      have hi : ∀ (l : List Int) (r : Nat), inB n l = true → rkGo n l r < (r + 1) * n ^ l.length := by
        intro l
        induction l with
        | nil => intro r _; simp [rkGo]
        | cons z l ih =>
          intro r hz
          simp only [inB, List.all_cons, Bool.and_eq_true, Bool.not_eq_true', decide_eq_false_iff_not] at hz
          rw [rkGo]
          refine Nat.lt_of_lt_of_le (ih _ (by unfold inB; simpa using hz.2)) ?_
          rw [List.length_cons, Nat.pow_succ, Nat.mul_comm (n ^ l.length) n, ← Nat.mul_assoc]
          refine Nat.mul_le_mul_right _ ?_
          rw [Nat.succ_mul]; omega
      have q1 := hi a (r * n + x.toNat) ia
      have q2 := lo b (r * n + y.toNat)
      have q3 : (r * n + x.toNat + 1) * n ^ a.length ≤ (r * n + y.toNat) * n ^ b.length := by
        rw [hl']; exact Nat.mul_le_mul_right _ (by omega)
      omega
theorem lessB_rkN {n : Nat} {a b : List Int} (hl : a.length = b.length) (ha : inB n a = true) (hb : inB n b = true) (h : lessB a b = true) : rkN n a < rkN n b := lessB_rk 0 hl ha hb h
/-- The tuples of a relation, as a property of what it says. -/
def TupP (n k : Nat) (l : List (List Int)) : Prop := (∀ t ∈ l, t.length = k ∧ inB n t = true) ∧ SortT l
theorem chain_sort : ∀ {l : List (List Int)}, (∀ i a b, l[i]? = some a → l[i + 1]? = some b → lessB a b = true) → SortT l
  | [], _ => .nil
  | x :: l, h => by
    have ih : SortT l := chain_sort fun i a b ha hb => h (i + 1) a b (by simpa using ha) (by simpa using hb)
    refine List.pairwise_cons.2 ⟨fun y hy => ?_, ih⟩
    cases l with
    | nil => cases hy
    | cons z l =>
      have hz := h 0 x z rfl rfl
      rcases List.mem_cons.1 hy with rfl | hy
      · exact hz
      · exact lessB_trans hz ((List.pairwise_cons.1 ih).1 y hy)
theorem sort_chain {l : List (List Int)} (hs : SortT l) {i : Nat} {a b : List Int} (ha : l[i]? = some a) (hb : l[i + 1]? = some b) : lessB a b = true := by
  obtain ⟨h1, rfl⟩ := List.getElem?_eq_some_iff.1 ha
  obtain ⟨h2, rfl⟩ := List.getElem?_eq_some_iff.1 hb
  exact List.pairwise_iff_getElem.1 hs i (i + 1) h1 h2 (Nat.lt_succ_self i)
theorem tupB_iff {n k : Nat} {l : List (Sl Int)} : tupB n k l = true ↔ TupP n k (l.map Sl.l) := by
  constructor
  · intro h
    refine ⟨fun t ht => ?_, chain_sort fun i a b ha hb => ?_⟩
    · obtain ⟨u, hu, rfl⟩ := List.mem_map.1 ht
      obtain ⟨i, hi⟩ := List.getElem?_of_mem hu
      exact tup_in h hi
    · rw [List.getElem?_map] at ha hb
      obtain ⟨p, hp, rfl⟩ := Option.map_eq_some_iff.1 ha
      obtain ⟨t, ht, rfl⟩ := Option.map_eq_some_iff.1 hb
      have := allN_get h (List.getElem?_eq_some_iff.1 ht).1
      unfold tupAt at this
      rw [ht] at this
      simp only [hp, Bool.and_eq_true] at this
      exact this.2.2
  · rintro ⟨h1, h2⟩
    refine allN_true fun i hi => ?_
    have ht : l[i]? = some l[i] := List.getElem?_eq_getElem hi
    generalize l[i] = t at ht
    obtain ⟨q1, q2⟩ := h1 t.l (List.mem_map_of_mem (List.mem_of_getElem? ht))
    unfold tupAt
    rw [ht]
    simp only [q1, q2, decide_true, Bool.true_and]
    cases i with
    | zero => rfl
    | succ j =>
      have hj : j < l.length := by omega
      have hp : l[j]? = some l[j] := List.getElem?_eq_getElem hj
      generalize l[j] = p at hp
      simp only [hp]
      exact sort_chain h2 (i := j) (by rw [List.getElem?_map, hp]; rfl) (by rw [List.getElem?_map, ht]; rfl)
theorem tup_few {n k : Nat} {l : List (List Int)} (h : TupP n k l) : l.length ≤ n ^ k := by
  have key : ∀ i a, l[i]? = some a → i ≤ rkN n a := by
    intro i
    induction i with
    | zero => intro a _; exact Nat.zero_le _
    | succ i ih =>
      intro b hb
      have hi : i < l.length := by have := (List.getElem?_eq_some_iff.1 hb).1; omega
      have ha : l[i]? = some l[i] := List.getElem?_eq_getElem hi
      generalize l[i] = a at ha
      have := ih a ha
      obtain ⟨a1, a2⟩ := h.1 a (List.mem_of_getElem? ha)
      obtain ⟨b1, b2⟩ := h.1 b (List.mem_of_getElem? hb)
      have := lessB_rkN (by omega) a2 b2 (sort_chain h.2 ha hb)
      omega
  cases hl : l.length with
  | zero => exact Nat.zero_le _
  | succ m =>
    have hm : l[m]? = some (l[m]'(by omega)) := List.getElem?_eq_getElem _
    have h1 := key m _ hm
    obtain ⟨a1, a2⟩ := h.1 _ (List.mem_of_getElem? hm)
    have h2 := rkN_lt a2
    rw [a1] at h2
    omega

/-! ### Valid structures -/
abbrev DatR := Str × Int × List (List Int)
/-- A relation that is as it should be, by what it says. -/
def RelP (n : Nat) (d : DatR) : Prop := nameB d.1 = true ∧ ∃ k : Nat, d.2.1 = (k : Int) ∧ k ≤ 12 ∧ n ^ k ≤ 4096 ∧ TupP n k d.2.2
theorem relB_iff {n : Nat} {r : Rel} : relB n r = true ↔ RelP n (datR r) := by
  constructor
  · intro h
    obtain ⟨k, h1, h2, h3, h4⟩ := rel_all h
    simp only [relB, Bool.and_eq_true] at h
    exact ⟨h.1, k, h1, h2, h3, tupB_iff.1 h4⟩
  · rintro ⟨h0, k, h1, h2, h3, h4⟩
    have h1' : r.arity = (k : Int) := h1
    have hk : r.arity.toNat = k := by omega
    simp only [relB, Bool.and_eq_true, decide_eq_true_eq, hk]
    exact ⟨h0, by omega, by omega, h3, tupB_iff.2 h4⟩
structure StrcP (size : Int) (ds : List DatR) : Prop where
  lo : 1 ≤ size
  hi : size ≤ 64
  few : ds.length ≤ 8
  rel : ∀ d ∈ ds, RelP size.toNat d
  names : (ds.map (·.1)).Nodup
theorem strc_iff {s : Strc} : strcB s = true ↔ StrcP s.size (s.rels.l.map datR) := by
  constructor
  · intro h
    have h' := h
    simp only [strcB, Bool.and_eq_true, decide_eq_true_eq] at h'
    refine ⟨h'.1, h'.2.1, by simpa using h'.2.2.1, fun d hd => ?_, ?_⟩
    · obtain ⟨r, hr, rfl⟩ := List.mem_map.1 hd
      obtain ⟨i, hi⟩ := List.getElem?_of_mem hr
      exact relB_iff.1 (strc_rel h hi)
    · have := strc_names h
      rw [List.map_map]; exact this
  · rintro ⟨h1, h2, h3, h4, h5⟩
    rw [List.length_map] at h3
    simp only [strcB, Bool.and_eq_true, decide_eq_true_eq]
    refine ⟨h1, h2, h3, allN_true fun i hi => ?_⟩
    have hr : s.rels.l[i]? = some s.rels.l[i] := List.getElem?_eq_getElem hi
    have hr' := hr
    generalize s.rels.l[i] = r at hr
    rw [relAt, hr]
    simp only [Bool.and_eq_true, Bool.not_eq_true']
    refine ⟨relB_iff.2 (h4 _ (List.mem_map_of_mem (List.mem_of_getElem? hr))), ?_⟩
    rw [Bool.eq_false_iff]
    intro hany
    obtain ⟨q, hq, hqn⟩ := List.any_eq_true.1 hany
    obtain ⟨j, hj⟩ := List.getElem?_of_mem hq
    have hji : j < i := by have := (List.getElem?_eq_some_iff.1 hj).1; rw [List.length_take] at this; omega
    rw [List.getElem?_take_of_lt hji] at hj
    rw [List.map_map, List.Nodup, List.pairwise_iff_getElem] at h5
    have hjl : j < s.rels.l.length := by omega
    have := h5 j i (by simpa using hjl) (by simpa using hi) hji
    rw [List.getElem_map, List.getElem_map] at this
    rw [List.getElem?_eq_getElem hjl] at hj
    rw [List.getElem?_eq_getElem hi] at hr
    cases hj; cases hr
    simp only [beq_iff_eq] at hqn
    exact this hqn
theorem strc_small {s : Strc} (h : strcB s = true) : s.small ∧ s.ok := by
  have hp := strc_iff.1 h
  have len : ∀ r ∈ s.rels.l, r.tuples.l.length ≤ 4096 ∧ (∀ t ∈ r.tuples.l, t.l.length ≤ 12) ∧ r.name.length ≤ 12 := fun r hr => by
    obtain ⟨h0, k, h1, h2, h3, h4⟩ := hp.rel _ (List.mem_map_of_mem hr)
    have := tup_few h4
    simp only [datR, List.length_map] at this
    refine ⟨by omega, fun t ht => ?_, ?_⟩
    · have := (h4.1 t.l (List.mem_map_of_mem ht)).1; omega
    · replace h0 : nameB r.name = true := h0
      unfold nameB at h0
      split at h0
      · cases h0
      · simp only [Bool.and_eq_true, decide_eq_true_eq] at h0; exact h0.1
  have hl : s.rels.l.length ≤ 8 := by have := hp.few; simpa using this
  exact ⟨⟨by omega, fun r hr => by have := (len r hr).1; omega, fun r hr t ht => by have := (len r hr).2.1 t ht; omega⟩,
    ⟨by unfold big; omega, fun r hr => ⟨by have := (len r hr).2.2; unfold big; omega, by have := (len r hr).1; unfold big; omega, fun t ht => by have := (len r hr).2.1 t ht; unfold big; omega⟩⟩⟩

/-! ### What a structure says of a name and a rank -/
def HasF (n : Nat) (ds : List DatR) (nm : Str) (r : Nat) : Prop := ∃ d ∈ ds, d.1 = nm ∧ ∃ u ∈ d.2.2, rkN n u = r
def lookS (n : Nat) (s : Strc) (nm : Str) (r : Nat) : Bool := match s.rels.l.find? (namedB nm) with
  | some q => (tabOf n q).bits.getD r false
  | none => false
theorem bits_getD {n r : Nat} : ∀ (ts : List (Sl Int)) (d : List Bool), r < d.length → (bitsGo n ts d).getD r false = (d.getD r false || (ts.map Sl.l).any fun u => rkN n u == r)
  | [], d, _ => by simp [bitsGo]
  | t :: ts, d, hr => by
    rw [bitsGo, bits_getD ts _ (by simpa using hr), List.map_cons, List.any_cons]
    by_cases h : rkN n t.l = r
    · rw [h, List.getD_eq_getElem?_getD, List.getElem?_set_self hr]; simp
    · have : (rkN n t.l == r) = false := by simpa using h
      rw [List.getD_eq_getElem?_getD, List.getElem?_set_ne h, ← List.getD_eq_getElem?_getD, this, Bool.false_or]
theorem lookS_iff {n : Nat} {s : Strc} (hv : strcB s = true) (hn : s.size = (n : Int)) {nm : Str} {r k : Nat} {q : Rel} (hq : s.rels.l.find? (namedB nm) = some q) (hk : q.arity = (k : Int)) (hr : r < n ^ k) : lookS n s nm r = true ↔ HasF n (s.rels.l.map datR) nm r := by
  have hqm := List.mem_of_find?_eq_some hq
  have hqn : q.name = nm := by have := List.find?_some hq; simpa [namedB] using this
  unfold lookS
  rw [hq]
  simp only [tabOf, bitsOf, hk, Int.toNat_natCast]
  rw [bits_getD _ _ (by simpa using hr)]
  have : (List.replicate (n ^ k) false).getD r false = false := by rw [List.getD_eq_getElem?_getD, List.getElem?_replicate]; split <;> rfl
  rw [this, Bool.false_or, List.any_eq_true]
  constructor
  · rintro ⟨u, hu, he⟩
    exact ⟨datR q, List.mem_map_of_mem hqm, hqn, u, hu, by simpa using he⟩
  · rintro ⟨d, hd, hdn, u, hu, he⟩
    obtain ⟨p, hp, rfl⟩ := List.mem_map.1 hd
    have h1 := find_namedL (strc_names hv) p hp
    rw [show p.name = nm from hdn, hq] at h1
    cases h1
    exact ⟨u, hu, by simpa using he⟩
/-- The value of a circuit, by what the structure says. -/
theorem valB_look {c : Circ} {s : Strc} {n : Nat} (h0 : errI c s = 0) (hn : s.size = (n : Int)) : valB n (tabsOf s) c = valueOf (lookS n s) n c := by
  obtain ⟨h1, h2, h3, h4⟩ := err_ok h0
  obtain ⟨m, hm⟩ := Option.isSome_iff_exists.1 (show (symsOf c).isSome = true from h1)
  unfold valueOf valB valsL valsOf
  rw [val_eq (tabs := tabsOf s) (look := lookS n s)]
  intro g hg i d
  unfold valueB valueL
  split
  · rfl
  split
  · rename_i k1
    obtain ⟨q, hq, ha⟩ := all_some hm (fits_valid h1) h2 h4 hg k1
    rw [tabsOf, bitT_find (strc_names h2), hq, lookS, hq]
    simp only [show s.size.toNat = n by omega]
  · rfl

/-! ### Names and arities alone -/
def sigD (d : DatR) : Str × Int := (d.1, d.2.1)
theorem fitZ_sig {s s' : Strc} (h : (s.rels.l.map datR).map sigD = (s'.rels.l.map datR).map sigD) (y : Str × Int) : fitZ s y = fitZ s' y := by
  have key : ∀ l : List Rel, (match l.find? (namedB y.1) with | some r => decide (r.arity = y.2) | none => false) = (match ((l.map datR).map sigD).find? (fun p => p.1 == y.1) with | some p => decide (p.2 = y.2) | none => false) := by
    intro l
    induction l with
    | nil => rfl
    | cons q l ih =>
      rw [List.map_cons, List.map_cons, List.find?_cons, List.find?_cons]
      cases hq : namedB y.1 q with
      | true => rw [show ((sigD (datR q)).1 == y.1) = true from hq]; rfl
      | false => rw [show ((sigD (datR q)).1 == y.1) = false from hq]; exact ih
  have e1 := key s.rels.l
  have e2 := key s'.rels.l
  rw [h] at e1
  unfold fitZ
  exact e1.trans e2.symm
theorem err_sig {c : Circ} {s s' : Strc} (hz : s'.size = s.size) (hv : strcB s = true) (hv' : strcB s' = true) (h : (s'.rels.l.map datR).map sigD = (s.rels.l.map datR).map sigD) : errI c s' = errI c s := by
  unfold errI
  rw [hv, hv', hz]
  have : (fitZ s' : Str × Int → Bool) = fitZ s := by funext y; exact fitZ_sig h y
  rw [this]

/-! ### A change -/
theorem put_sig {s s' : Strc} {j : Nat} {r : Rel} {t : List Int} {is : Bool} (hr : s.rels.l[j]? = some r) (hp : PutR s j r t is s') : (s'.rels.l.map datR).map sigD = (s.rels.l.map datR).map sigD := by
  obtain ⟨ts, h1, h2, h3⟩ := hp.rels
  rw [h3, List.map_set]
  apply List.ext_getElem?
  intro i
  by_cases hi : j = i
  · subst hi
    have hl : j < s.rels.l.length := (List.getElem?_eq_some_iff.1 hr).1
    rw [List.getElem?_set_self (by simpa using hl)]
    simp only [List.getElem?_map, hr]; rfl
  · rw [List.getElem?_set_ne hi]
theorem put_valid {s s' : Strc} {j k : Nat} {r : Rel} {t : List Int} {is : Bool} (hv : strcB s = true) (hr : s.rels.l[j]? = some r) (hk : r.arity = (k : Int)) (ht : t.length = k) (hb : inB s.size.toNat t = true) (hp : PutR s j r t is s') : strcB s' = true := by
  have hS := strc_iff.1 hv
  have hsig := put_sig hr hp
  obtain ⟨ts, h1, h2, h3⟩ := hp.rels
  have hz := hp.size
  rw [strc_iff]
  have hnm : ∀ l : List DatR, l.map (·.1) = (l.map sigD).map (·.1) := fun l => by rw [List.map_map]; rfl
  refine ⟨by rw [hz]; exact hS.lo, by rw [hz]; exact hS.hi, ?_, fun d hd => ?_, ?_⟩
  · have := congrArg List.length hsig
    simp only [List.length_map] at this
    have := hS.few
    simp only [List.length_map] at this ⊢
    omega
  · rw [hz]
    rw [h3] at hd
    rcases List.mem_or_eq_of_mem_set hd with hd | rfl
    · exact hS.rel d hd
    · obtain ⟨q0, k', q1, q2, q3, q4⟩ := hS.rel _ (List.mem_map_of_mem (List.mem_of_getElem? hr))
      have q1' : r.arity = (k' : Int) := q1
      obtain rfl : k' = k := by omega
      refine ⟨q0, k', q1, q2, q3, fun u hu => ?_, h1⟩
      rcases (h2 u).1 hu with ⟨a, _⟩ | ⟨_, a⟩
      · exact q4.1 u a
      · rw [a]; exact ⟨ht, hb⟩
  · rw [hnm, hsig, ← hnm]; exact hS.names
/-- What a change does to what a structure says. -/
theorem put_has {s s' : Strc} {n j k : Nat} {r : Rel} {t : List Int} {is : Bool} (hv : strcB s = true) (hn : s.size = (n : Int)) (hr : s.rels.l[j]? = some r) (hk : r.arity = (k : Int)) (ht : t.length = k) (hb : inB n t = true) (hp : PutR s j r t is s') (nm : Str) (q : Nat) :
    HasF n (s'.rels.l.map datR) nm q ↔ if nm = r.name then ((HasF n (s.rels.l.map datR) nm q ∧ q ≠ rkN n t) ∨ (is = true ∧ q = rkN n t)) else HasF n (s.rels.l.map datR) nm q := by
  have hS := strc_iff.1 hv
  obtain ⟨ts, h1, h2, h3⟩ := hp.rels
  have hjl : j < (s.rels.l.map datR).length := by have := (List.getElem?_eq_some_iff.1 hr).1; simpa using this
  have hrd : (s.rels.l.map datR)[j]? = some (datR r) := by rw [List.getElem?_map, hr]; rfl
  have hnn : s.size.toNat = n := by omega
  have hrel := hS.rel _ (List.mem_of_getElem? hrd)
  rw [hnn] at hrel
  obtain ⟨_, k', q1, _, _, q4⟩ := hrel
  have q1' : r.arity = (k' : Int) := q1
  obtain rfl : k' = k := by omega
  have huniq : ∀ d ∈ s.rels.l.map datR, d.1 = r.name → d = datR r := fun d hd hdn => by
    obtain ⟨i, hi⟩ := List.getElem?_of_mem hd
    have hN := hS.names
    have e1 : ((s.rels.l.map datR).map (·.1))[i]? = some r.name := by rw [List.getElem?_map, hi, Option.map_some, hdn]
    have e2 : ((s.rels.l.map datR).map (·.1))[j]? = some r.name := by rw [List.getElem?_map, hrd]; rfl
    have : i = j := by
      obtain ⟨l1, l2⟩ := List.getElem?_eq_some_iff.1 e1
      obtain ⟨l3, l4⟩ := List.getElem?_eq_some_iff.1 e2
      by_cases hlt : i < j
      · exact absurd (l2.trans l4.symm) (List.pairwise_iff_getElem.1 hN i j l1 l3 hlt)
      · by_cases hgt : j < i
        · exact absurd (l4.trans l2.symm) (List.pairwise_iff_getElem.1 hN j i l3 l1 hgt)
        · omega
    subst this
    rw [hi] at hrd; cases hrd; rfl
  have hnew : (r.name, r.arity, ts) ∈ s'.rels.l.map datR := by rw [h3]; exact List.mem_of_getElem? (List.getElem?_set_self hjl)
  have hold : ∀ d ∈ s.rels.l.map datR, d.1 ≠ r.name → d ∈ s'.rels.l.map datR := fun d hd hdn => by
    obtain ⟨i, hi⟩ := List.getElem?_of_mem hd
    rw [h3]
    refine List.mem_of_getElem? (i := i) ?_
    rw [List.getElem?_set_ne (fun e => ?_)]
    · exact hi
    · subst e; rw [hi] at hrd; cases hrd; exact hdn rfl
  have hback : ∀ d ∈ s'.rels.l.map datR, (d = (r.name, r.arity, ts)) ∨ (d ∈ s.rels.l.map datR ∧ d.1 ≠ r.name) := fun d hd => by
    obtain ⟨i, hi⟩ := List.getElem?_of_mem hd
    rw [h3] at hi
    by_cases e : j = i
    · subst e; rw [List.getElem?_set_self hjl] at hi; cases hi; exact .inl rfl
    · rw [List.getElem?_set_ne e] at hi
      refine .inr ⟨List.mem_of_getElem? hi, fun hdn => e ?_⟩
      have e1 : ((s.rels.l.map datR).map (·.1))[i]? = some r.name := by rw [List.getElem?_map, hi, Option.map_some, hdn]
      have e2 : ((s.rels.l.map datR).map (·.1))[j]? = some r.name := by rw [List.getElem?_map, hrd]; rfl
      obtain ⟨l1, l2⟩ := List.getElem?_eq_some_iff.1 e1
      obtain ⟨l3, l4⟩ := List.getElem?_eq_some_iff.1 e2
      have hN := hS.names
      by_cases hlt : i < j
      · exact absurd (l2.trans l4.symm) (List.pairwise_iff_getElem.1 hN i j l1 l3 hlt)
      · by_cases hgt : j < i
        · exact absurd (l4.trans l2.symm) (List.pairwise_iff_getElem.1 hN j i l3 l1 hgt)
        · omega
  have hin : ∀ u, u ∈ r.tuples.l.map Sl.l → u.length = k' ∧ inB n u = true := fun u hu => q4.1 u hu
  by_cases hnm : nm = r.name
  · rw [if_pos hnm]
    subst hnm
    constructor
    · rintro ⟨d, hd, hdn, u, hu, he⟩
      rcases hback d hd with rfl | ⟨_, h⟩
      · rcases (h2 u).1 hu with ⟨a, b⟩ | ⟨a, b⟩
        · refine .inl ⟨⟨datR r, List.mem_of_getElem? hrd, rfl, u, a, he⟩, fun e => b ?_⟩
          obtain ⟨u1, u2⟩ := hin u a
          exact rkN_inj (by omega) u2 hb (he.trans e)
        · exact .inr ⟨a, by rw [← he, b]⟩
      · exact absurd hdn h
    · rintro (⟨⟨d, hd, hdn, u, hu, he⟩, hne⟩ | ⟨his, he⟩)
      · obtain rfl := huniq d hd hdn
        exact ⟨_, hnew, rfl, u, (h2 u).2 (.inl ⟨hu, fun e => hne (by rw [← he, e])⟩), he⟩
      · exact ⟨_, hnew, rfl, t, (h2 t).2 (.inr ⟨his, rfl⟩), he.symm⟩
  · rw [if_neg hnm]
    constructor
    · rintro ⟨d, hd, hdn, u, hu, he⟩
      rcases hback d hd with rfl | ⟨h, _⟩
      · exact absurd hdn.symm hnm
      · exact ⟨d, h, hdn, u, hu, he⟩
    · rintro ⟨d, hd, hdn, u, hu, he⟩
      exact ⟨d, hold d hd (by rw [hdn]; exact hnm), hdn, u, hu, he⟩
end
end Go.AM
/- More tuples never take a circuit without negations from true to false: the law GateMonotone. Conditions: none. -/
namespace Go.AM
open Go Go.Proofs
set_option linter.unusedVariables false
set_option linter.unusedSimpArgs false
noncomputable section

/-! ### The plain law -/
def LeB (d d' : List Bool) : Prop := ∀ k : Int, atB d k = true → atB d' k = true
theorem atB_set {d : List Bool} {i : Nat} {b : Bool} (k : Int) : atB (d.set i b) k = if k.toNat = i ∧ i < d.length then b else atB d k := by
  unfold atB
  rw [List.getD_eq_getElem?_getD, List.getD_eq_getElem?_getD]
  by_cases h : k.toNat = i
  · subst h
    by_cases hl : k.toNat < d.length
    · rw [if_pos ⟨rfl, hl⟩, List.getElem?_set_self hl]; rfl
    · rw [if_neg (fun h => hl h.2), List.set_eq_of_length_le (by omega)]
  · rw [if_neg (fun hh => h hh.1), List.getElem?_set_ne (Ne.symm h)]
theorem LeB.set {d d' : List Bool} (h : LeB d d') (hl : d.length = d'.length) (i : Nat) {b b' : Bool} (hb : b = true → b' = true) : LeB (d.set i b) (d'.set i b') := fun k hk => by
  rw [atB_set] at hk ⊢
  by_cases e : k.toNat = i ∧ i < d.length
  · rw [if_pos e] at hk
    rw [if_pos ⟨e.1, by omega⟩]; exact hb hk
  · rw [if_neg e] at hk
    rw [if_neg (fun hh => e ⟨hh.1, by omega⟩)]; exact h k hk
theorem value_mono {look look' : Str → Nat → Bool} {n : Nat} {d d' : List Bool} {g : Gate} (hd : LeB d d') (hk : g.kind ≠ 2) (hl : g.kind = 1 → look g.name (rkN n g.at_.l) = true → look' g.name (rkN n g.at_.l) = true) (h : valueL look n d g = true) : valueL look' n d' g = true := by
  unfold valueL at h ⊢
  by_cases c0 : g.kind = 0
  · rw [if_pos c0]
  rw [if_neg c0] at h ⊢
  by_cases c1 : g.kind = 1
  · rw [if_pos c1] at h ⊢; exact hl c1 h
  rw [if_neg c1, if_neg hk] at h ⊢
  unfold gateV at h ⊢
  by_cases c3 : g.kind = 3
  · rw [c3] at h ⊢
    simp only [decide_true] at h ⊢
    split at h
    · simp at h
    · rename_i hn
      rw [if_neg]
      intro ha
      apply hn
      obtain ⟨k, hk, hb⟩ := List.any_eq_true.1 ha
      refine List.any_eq_true.2 ⟨k, hk, ?_⟩
      cases hq : atB d k with
      | false => rfl
      | true => rw [hd k hq] at hb; simp at hb
  · rw [decide_eq_false c3] at h ⊢
    split at h
    · rename_i ha
      obtain ⟨k, hk, hb⟩ := List.any_eq_true.1 ha
      rw [if_pos]
      · exact h
      · refine List.any_eq_true.2 ⟨k, hk, ?_⟩
        have : atB d k = true := by simpa using hb
        rw [hd k this]; rfl
    · cases h
theorem val_mono {look look' : Str → Nat → Bool} {n : Nat} : ∀ {l : List Gate}, (∀ g ∈ l, g.kind ≠ 2 ∧ (g.kind = 1 → look g.name (rkN n g.at_.l) = true → look' g.name (rkN n g.at_.l) = true)) → ∀ (i : Nat) (d d' : List Bool), LeB d d' → d.length = d'.length → LeB (valL look n l i d) (valL look' n l i d')
  | [], _, i, d, d', h, _ => h
  | g :: l, hg, i, d, d', h, hl => by
    rw [valL, valL]
    obtain ⟨h1, h2⟩ := hg g List.mem_cons_self
    exact val_mono (fun g' hg' => hg g' (List.mem_cons_of_mem _ hg')) _ _ _ (h.set hl i (value_mono h h1 h2)) (by simpa using hl)
theorem valueOf_mono {look look' : Str → Nat → Bool} {n : Nat} {c : Circ} (hg : ∀ g ∈ c.gates.l, g.kind ≠ 2 ∧ (g.kind = 1 → look g.name (rkN n g.at_.l) = true → look' g.name (rkN n g.at_.l) = true)) (h : valueOf look n c = true) : valueOf look' n c = true :=
  val_mono hg 0 _ _ (fun _ h => h) rfl _ h

/-- A structure with the same symbols that says at least as much. -/
structure Ge (s s' : Strc) : Prop where
  valid : strcB s' = true
  size : s'.size = s.size
  sig : (s'.rels.l.map datR).map sigD = (s.rels.l.map datR).map sigD
  has : ∀ nm q, HasF s.size.toNat (s.rels.l.map datR) nm q → HasF s.size.toNat (s'.rels.l.map datR) nm q
theorem Ge.at_ {s s' : Strc} (hg : Ge s s') {i : Nat} {r r0 : Rel} (hr : s'.rels.l[i]? = some r) (hr0 : s.rels.l[i]? = some r0) : r.name = r0.name ∧ r.arity = r0.arity := by
  have := congrArg (fun l : List (Str × Int) => l[i]?) hg.sig
  simp only [List.getElem?_map, hr, hr0, Option.map_some, Option.some.injEq] at this
  exact ⟨congrArg Prod.fst this, congrArg Prod.snd this⟩
theorem Ge.refl {s : Strc} (hv : strcB s = true) : Ge s s := ⟨hv, rfl, rfl, fun _ _ h => h⟩
theorem Ge.put {s s' s'' : Strc} {j k : Nat} {r : Rel} {t : List Int} (hg : Ge s s') (hr : s'.rels.l[j]? = some r) (hk : r.arity = (k : Int)) (ht : t.length = k) (hb : inB s'.size.toNat t = true) (hp : PutR s' j r t true s'') : Ge s s'' := by
  obtain ⟨n, hn, _⟩ := strc_size hg.valid
  have hnn : s'.size.toNat = n := by omega
  refine ⟨put_valid hg.valid hr hk ht hb hp, by rw [hp.size, hg.size], by rw [put_sig hr hp, hg.sig], fun nm q hh => ?_⟩
  have h1 := hg.has nm q hh
  rw [← hg.size, hnn] at h1 ⊢
  rw [put_has hg.valid hn hr hk ht (by rw [← hnn]; exact hb) hp]
  by_cases e : nm = r.name
  · rw [if_pos e]
    by_cases hq : q = rkN n t
    · exact .inr ⟨rfl, hq⟩
    · exact .inl ⟨h1, hq⟩
  · rw [if_neg e]; exact h1
theorem Ge.run {c : Circ} {s s' : Strc} (h0 : errI c s = 0) (hg : Ge s s') (hk : ∀ g ∈ c.gates.l, g.kind ≠ 2) : errI c s' = 0 ∧ (runV c s = true → runV c s' = true) := by
  obtain ⟨h1, h2, h3, h4⟩ := err_ok h0
  have he : errI c s' = 0 := by rw [err_sig hg.size h2 hg.valid hg.sig]; exact h0
  obtain ⟨n, hn, n1, n64, _⟩ := strc_size h2
  have hnn : s.size.toNat = n := by omega
  have hn' : s'.size = (n : Int) := by rw [hg.size]; exact hn
  refine ⟨he, fun hr => ?_⟩
  unfold runV at hr ⊢
  rw [he]
  rw [h0] at hr
  simp only [decide_true, Bool.true_and, hg.size, hnn] at hr ⊢
  rw [valB_look h0 hn] at hr
  rw [valB_look he hn']
  refine valueOf_mono (fun g hgm => ⟨hk g hgm, fun k1 hl => ?_⟩) hr
  obtain ⟨m, hm⟩ := Option.isSome_iff_exists.1 (show (symsOf c).isSome = true from h1)
  obtain ⟨e1, e2, e3, e4⟩ := err_ok he
  obtain ⟨q, hq, ha⟩ := all_some hm (fits_valid h1) h2 h4 hgm k1
  obtain ⟨q', hq', ha'⟩ := all_some hm (fits_valid h1) e2 e4 hgm k1
  have hrk : rkN n g.at_.l < n ^ g.at_.l.length := rkN_lt (size_fit h3 hn (fits_valid h1) hgm k1).2
  have := (lookS_iff h2 hn hq ha hrk).1 hl
  refine (lookS_iff e2 hn' hq' ha' hrk).2 ?_
  have h5 := hg.has _ _ (by rw [hnn]; exact this)
  rwa [hnn] at h5

/-! ### The law -/
def encU (n : Int) : List AV := [.int .u8 n]
theorem len_encU (n : Int) : (encU n).length = 1 := rfl
theorem pure_encU (n : Int) : AV.pureL (encU n) = true := rfl
theorem get_u8 {x : Sl Int} {i : Nat} {v : Int} (hv : x.l[i]? = some v) {h : Heap} : loadS none (.iptr (x.l.flatMap encU) (i * 1)) h = some (.int .u8 v) := by
  rw [load_elem1 len_encU hv]; rfl
theorem rem_nat {a b : Nat} (hb : 0 < b) : binS .rem (.int .i64 (a : Int)) (.int .i64 (b : Int)) = some (.int .i64 ((a % b : Nat) : Int)) := by
  have h : ¬ (b : Int) = 0 := by omega
  simp only [binS, if_true, if_neg h]
  rw [Int.tmod_eq_emod_of_nonneg (by omega)]; rfl
theorem quo_nat {a b : Nat} (hb : 0 < b) (ha : a ≤ 1000000) : binS .quo (.int .i64 (a : Int)) (.int .i64 (b : Int)) = some (.int .i64 ((a / b : Nat) : Int)) := by
  have h : ¬ (b : Int) = 0 := by omega
  simp only [binS, if_true, if_neg h]
  have e : ((a : Int).tdiv (b : Int)) = ((a / b : Nat) : Int) := by rw [Int.tdiv_eq_ediv_of_nonneg (by omega)]; rfl
  have : a / b ≤ a := Nat.div_le_self _ _
  rw [e]
  generalize a / b = q at this
  rw [IntWalk.i64_in _ (by omega)]
theorem shr_ex (a : Int) (b : Nat) : ∃ v, binS .shr (.int .u8 a) (.int .i64 (b : Int)) = some (.int .u8 v) := by
  have : ¬ ((b : Int) < 0) := by omega
  exact ⟨_, by simp only [binS, shiftS, if_neg this]; rfl⟩
theorem and_ex (a b : Int) : ∃ v, binS .and (.int .u8 a) (.int .u8 b) = some (.int .u8 v) := ⟨_, by simp only [binS, bitS, if_true]; rfl⟩
theorem where_named {s : Strc} (hv : strcB s = true) {i : Nat} {r : Rel} (hr : s.rels.l[i]? = some r) : whereI (namedB r.name) s.rels.l = (i : Int) := by
  have hf := find_namedL (strc_names hv) r (List.mem_of_getElem? hr)
  rcases whereI_find (namedB r.name) s.rels.l with ⟨h1, h2⟩ | ⟨j, q, h1, h2, h3⟩
  · rw [h2] at hf; cases hf
  · rw [hf] at h3; cases h3
    rw [h1]
    have hN := strc_names hv
    obtain ⟨l1, e1⟩ := List.getElem?_eq_some_iff.1 h2
    obtain ⟨l2, e2⟩ := List.getElem?_eq_some_iff.1 hr
    by_cases hlt : j < i
    · have := List.pairwise_iff_getElem.1 hN j i (by simpa using l1) (by simpa using l2) hlt
      rw [List.getElem_map, List.getElem_map, e1, e2] at this; exact absurd rfl this
    · by_cases hgt : i < j
      · have := List.pairwise_iff_getElem.1 hN i j (by simpa using l2) (by simpa using l1) hgt
        rw [List.getElem_map, List.getElem_map, e1, e2] at this; exact absurd rfl this
      · have : i = j := by omega
        rw [this]
theorem law_GateMonotone {c : Circ} {s : Strc} {by_ : Sl Int} (hc : c.ok) (hs : s.ok) (hby : by_.l.length ≤ big) : Sem Tryz.prog 6 [.agg (encCirc c), .agg (encStrc s), encSl encU 1 by_] Heap.empty trueK := by
  refine F.law11_GateMonotone_sem ?_
  simp only [box_agg (one_encCirc c), box_agg (one_encStrc s), bindO_some, next_empty, Heap.next_alloc]
  have g0 : (Heap.alloc (Heap.alloc Heap.empty (.cells (encCirc c))) (.cells (encStrc s))).get 0 = some (.cells (encCirc c)) := by simp [Heap.get_alloc, next_empty]
  have g1 : (Heap.alloc (Heap.alloc Heap.empty (.cells (encCirc c))) (.cells (encStrc s))).get 1 = some (.cells (encStrc s)) := by simp [Heap.get_alloc, next_empty]
  have gn : (Heap.alloc (Heap.alloc Heap.empty (.cells (encCirc c))) (.cells (encStrc s))).next = 2 := rfl
  generalize (Heap.alloc (Heap.alloc Heap.empty (.cells (encCirc c))) (.cells (encStrc s))) = H at g0 g1 gn ⊢
  have l0 : loadS (some 2) (.ptr 0 0) H = some (.agg (encCirc c)) := by rw [load_ptr g0, part_whole (cs := encCirc c) (n := 2) rfl]
  have l1 : loadS (some 2) (.ptr 1 0) H = some (.agg (encStrc s)) := by rw [load_ptr g1, part_whole (cs := encStrc s) (n := 2) rfl]
  simp only [Nat.zero_add, l0, l1, bindO_some]
  refine semCall_true (law11_Few hc fun b => ?_)
  simp only [bindO_some, bindO2_some, outK_ret, condB_bool, cond_t, cond_f, fa_ptr, fa_iptr, part_none, Nat.zero_add, Nat.add_zero, Nat.reduceAdd, List.getElem?_cons_zero, List.getElem?_cons_succ, len_str, lenS_enc, lss_int, leq_int, gtr_int, geq_int, eq_int, ne_int, eq_str, ne_str, eq_bool, ne_bool, not_bool, extract_0, extract_1, extract_2, setV_eq, Nat.reduceEqDiff, reduceIte]
  cases b with
  | false =>
    simp only [Bool.not_false, cond_t]
    refine semCall_true (alive_sem ?_)
    rfl
  | true =>
  simp only [Bool.not_true, cond_f, l1, bindO_some, row_strc]
  have g2 : (Heap.alloc H (.cells (encStrc s))).get H.next = some (.cells (encStrc s)) := get_alloc_same _ _
  have k0 : (Heap.alloc H (.cells (encStrc s))).get 0 = some (.cells (encCirc c)) := by rw [Heap.get_alloc, gn, if_neg (by omega)]; exact g0
  have k1 : (Heap.alloc H (.cells (encStrc s))).get 1 = some (.cells (encStrc s)) := by rw [Heap.get_alloc, gn, if_neg (by omega)]; exact g1
  generalize (Heap.alloc H (.cells (encStrc s))) = H2 at g2 k0 k1 ⊢
  have lw0 : ∀ h : Heap, h.get 0 = some (.cells (encCirc c)) → loadS (some 2) (.ptr 0 0) h = some (.agg (encCirc c)) := fun h hh => by rw [load_ptr hh, part_whole (cs := encCirc c) (n := 2) rfl]
  have lw1 : ∀ (h : Heap) (s : Strc), h.get 1 = some (.cells (encStrc s)) → loadS (some 2) (.ptr 1 0) h = some (.agg (encStrc s)) := fun h s hh => by rw [load_ptr hh, part_whole (cs := encStrc s) (n := 2) rfl]
  refine semCall_true (law01_Few hs g2 fun b => ?_)
  simp only [bindO_some, bindO2_some, outK_ret, condB_bool, cond_t, cond_f, fa_ptr, fa_iptr, part_none, Nat.zero_add, Nat.add_zero, Nat.reduceAdd, List.getElem?_cons_zero, List.getElem?_cons_succ, len_str, lenS_enc, lss_int, leq_int, gtr_int, geq_int, eq_int, ne_int, eq_str, ne_str, eq_bool, ne_bool, not_bool, extract_0, extract_1, extract_2, setV_eq, Nat.reduceEqDiff, reduceIte]
  cases b with
  | false =>
    simp only [Bool.not_false, cond_t]
    refine semCall_true (alive_sem ?_)
    rfl
  | true =>
  simp only [Bool.not_true, cond_f, int_beq]
  by_cases hz : by_.l.length = 0
  · simp only [decide_eq_true (by omega : (by_.l.length : Int) = 0), cond_t]
    refine semCall_true (alive_sem ?_)
    rfl
  simp only [decide_eq_false (by omega : ¬ (by_.l.length : Int) = 0), cond_f, lw0 _ k0, lw1 _ _ k1, bindO_some]
  refine semCall_true (ref11_Check hc hs ?_)
  simp only [bindO_some, bindO2_some, outK_ret, condB_bool, cond_t, cond_f, fa_ptr, fa_iptr, part_none, Nat.zero_add, Nat.add_zero, Nat.reduceAdd, List.getElem?_cons_zero, List.getElem?_cons_succ, len_str, lenS_enc, lss_int, leq_int, gtr_int, geq_int, eq_int, ne_int, eq_str, ne_str, eq_bool, ne_bool, not_bool, extract_0, extract_1, extract_2, setV_eq, Nat.reduceEqDiff, reduceIte, int_beq]
  by_cases he : ¬ errI c s = 0
  · simp only [decide_eq_false he, Bool.not_false, cond_t]
    refine semCall_true (alive_sem ?_)
    rfl
  replace he := Decidable.not_not.1 he
  obtain ⟨h1, h2, h3, h4⟩ := err_ok he
  obtain ⟨n, hn, n1, n64, h8⟩ := strc_size h2
  simp only [decide_eq_true he, Bool.not_true, cond_f]
  have lg : ∀ h : Heap, h.get 0 = some (.cells (encCirc c)) → loadS none (.ptr 0 1) h = some (encSl encGate 4 c.gates) := fun h hh => by rw [load_ptr hh]; rfl
  refine loopB_range 0 c.gates.l.length (Nat.zero_le _) (fun i e h' => h' = H2 ∧ (∀ g ∈ c.gates.l.take i, g.kind ≠ 2) ∧ e 2 = encSl encU 1 by_ ∧ e 3 = .ptr 0 0 ∧ e 4 = .ptr 1 0 ∧ e 7 = .int .i64 (i : Int)) ⟨rfl, fun g hg => (by rw [List.take_zero] at hg; cases hg), rfl, rfl, rfl, rfl⟩ ?_ ?_
  · rintro i e h' _ hi ⟨rfl, hk, e2, e3, e4, e7⟩ K' hnx hx hr hp
    have hg : c.gates.l[i]? = some c.gates.l[i] := List.getElem?_eq_getElem hi
    generalize c.gates.l[i] = g at hg
    have ld : loadS none (.iptr (c.gates.l.flatMap encGate) (i * 4)) h' = some (.int .i64 g.kind) := by have := load_elem (h := h') len_encGate hg (k := 0) (by omega); rw [Nat.add_zero] at this; rw [this]; rfl
    rw [F.law11_GateMonotone.L0_eq]
    simp only [e3, e7, bindO_some, bindO2_some, outK_ret, condB_bool, cond_t, cond_f, fa_ptr, fa_iptr, part_none, Nat.zero_add, Nat.add_zero, Nat.reduceAdd, List.getElem?_cons_zero, List.getElem?_cons_succ, len_str, lenS_enc, lss_int, leq_int, gtr_int, geq_int, eq_int, ne_int, eq_str, ne_str, eq_bool, ne_bool, not_bool, extract_0, extract_1, extract_2, setV_eq, Nat.reduceEqDiff, reduceIte, lg _ k0, lt_true hi, iaS_enc c.gates hi, ld, int_beq]
    by_cases c2 : g.kind = 2
    · simp only [decide_eq_true c2, cond_t]
      refine semCall_true (alive_sem ?_)
      simp only [outK_ret]
      rw [hr, F.law11_GateMonotone.L0_r_eq]
      rfl
    · simp only [decide_eq_false c2, cond_f, succ_i64 hi hc.1, bindO_some]
      refine hnx _ _ ⟨rfl, fun q hq => ?_, e2, e3, e4, rfl⟩
      rw [List.take_add_one, hg] at hq
      rcases List.mem_append.1 hq with hq | hq
      · exact hk q hq
      · simp at hq; rw [hq]; exact c2
  · rintro e h' ⟨rfl, hk, e2, e3, e4, e7⟩ K' hx
    rw [List.take_of_length_le (Nat.le_refl _)] at hk
    rw [F.law11_GateMonotone.L0_eq]
    simp only [e3, e7, bindO_some, bindO2_some, outK_ret, condB_bool, cond_t, cond_f, fa_ptr, fa_iptr, part_none, Nat.zero_add, Nat.add_zero, Nat.reduceAdd, List.getElem?_cons_zero, List.getElem?_cons_succ, len_str, lenS_enc, lss_int, leq_int, gtr_int, geq_int, eq_int, ne_int, eq_str, ne_str, eq_bool, ne_bool, not_bool, extract_0, extract_1, extract_2, setV_eq, Nat.reduceEqDiff, reduceIte, lg _ k0, lt_false]
    rw [hx, F.law11_GateMonotone.L0_x0_eq]
    simp only [setV_eq, Nat.reduceEqDiff, reduceIte, e3, e4, lw0 _ k0, lw1 _ _ k1, bindO_some]
    refine semCall_true (gate_Run hc hs ?_)
    simp only [bindO_some, bindO2_some, outK_ret, condB_bool, cond_t, cond_f, fa_ptr, fa_iptr, part_none, Nat.zero_add, Nat.add_zero, Nat.reduceAdd, List.getElem?_cons_zero, List.getElem?_cons_succ, len_str, lenS_enc, lss_int, leq_int, gtr_int, geq_int, eq_int, ne_int, eq_str, ne_str, eq_bool, ne_bool, not_bool, extract_0, extract_1, extract_2, setV_eq, Nat.reduceEqDiff, reduceIte]
    refine loopB_range 0 s.rels.l.length (Nat.zero_le _) (fun i e hh => ∃ s', Ge s s' ∧ hh.get 0 = some (.cells (encCirc c)) ∧ hh.get 1 = some (.cells (encStrc s')) ∧ e 2 = encSl encU 1 by_ ∧ e 3 = .ptr 0 0 ∧ e 4 = .ptr 1 0 ∧ e 8 = .bool (runV c s) ∧ e 9 = .int .i64 (errI c s) ∧ e 10 = .int .i64 (i : Int))
      ⟨s, .refl h2, k0, k1, e2, e3, e4, rfl, rfl, rfl⟩ ?_ ?_
    · rintro i e hh _ hi ⟨s', hge, w0, w1, e2, e3, e4, e8, e9, e10⟩ K2 hn2 hx2 hr2 hp2
      have hrl : s'.rels.l.length = s.rels.l.length := by have := congrArg List.length hge.sig; simpa using this
      have hi' : i < s'.rels.l.length := by omega
      have hr : s'.rels.l[i]? = some s'.rels.l[i] := List.getElem?_eq_getElem hi'
      generalize s'.rels.l[i] = r at hr
      have lr : loadS none (.ptr 1 1) hh = some (encSl encRel 3 s'.rels) := by rw [load_ptr w1]; rfl
      have lz : loadS none (.ptr 1 0) hh = some (.int .i64 (n : Int)) := by rw [load_ptr w1, ← hn, ← hge.size]; rfl
      have hrel := (strc_iff.1 hge.valid).rel _ (List.mem_map_of_mem (List.mem_of_getElem? hr))
      have hnn : s'.size.toNat = n := by rw [hge.size]; omega
      rw [hnn] at hrel
      obtain ⟨hnm, k, q1, q2, q3, q4⟩ := hrel
      have hk' : r.arity = (k : Int) := q1
      rw [F.law11_GateMonotone.L1_eq]
      simp only [e4, e10, bindO_some, bindO2_some, outK_ret, condB_bool, cond_t, cond_f, fa_ptr, fa_iptr, part_none, Nat.zero_add, Nat.add_zero, Nat.reduceAdd, List.getElem?_cons_zero, List.getElem?_cons_succ, len_str, lenS_enc, lss_int, leq_int, gtr_int, geq_int, eq_int, ne_int, eq_str, ne_str, eq_bool, ne_bool, not_bool, extract_0, extract_1, extract_2, setV_eq, Nat.reduceEqDiff, reduceIte, lr, lz, decide_eq_true (by omega : (i : Int) < (s'.rels.l.length : Int)), iaS_enc s'.rels hi', get_arity hr, hk']
      refine semCall_true (ref01_Tuples n1 q2 q3 fun all hall => ?_)
      simp only [outK_ret]
      refine loopB_rule (fun m e hh => ∃ (k' : Nat) (s' : Strc), m = 60 - k' ∧ k' ≤ 60 ∧ Ge s s' ∧ hh.get 0 = some (.cells (encCirc c)) ∧ hh.get 1 = some (.cells (encStrc s')) ∧ e 2 = encSl encU 1 by_ ∧ e 3 = .ptr 0 0 ∧ e 4 = .ptr 1 0 ∧ e 8 = .bool (runV c s) ∧ e 9 = .int .i64 (errI c s) ∧ e 10 = .int .i64 (i : Int) ∧ e 11 = encSl encT 1 all ∧ e 12 = .int .i64 (k' : Int)) 60
        ⟨0, s', rfl, by omega, hge, w0, w1, e2, e3, e4, e8, e9, e10, rfl, rfl⟩ ?_
      have hr0 : s.rels.l[i]? = some s.rels.l[i] := List.getElem?_eq_getElem hi
      generalize s.rels.l[i] = r0 at hr0
      have hk0 : r0.arity = (k : Int) := by rw [← (hge.at_ hr hr0).2]; exact hk'
      clear hr lr lz hi' hrl hge w0 w1 e2 e3 e4 e8 e9 e10 hnn hnm q4 q1 hk'
      rintro m e hh ⟨k', s', rfl, hk60, hge, w0, w1, e2, e3, e4, e8, e9, e10, e11, e12⟩
      have hrl : s'.rels.l.length = s.rels.l.length := by have := congrArg List.length hge.sig; simpa using this
      have hi' : i < s'.rels.l.length := by omega
      have hr : s'.rels.l[i]? = some s'.rels.l[i] := List.getElem?_eq_getElem hi'
      generalize s'.rels.l[i] = r at hr
      have lr : loadS none (.ptr 1 1) hh = some (encSl encRel 3 s'.rels) := by rw [load_ptr w1]; rfl
      have exit : ∀ e' : Env, e' 2 = encSl encU 1 by_ → e' 3 = .ptr 0 0 → e' 4 = .ptr 1 0 → e' 8 = .bool (runV c s) → e' 9 = .int .i64 (errI c s) → e' 10 = .int .i64 (i : Int) → F.law11_GateMonotone.L2k K2 (.exit 4) ⟨e', 134, [], hh⟩ = true := by
        intro e' f2 f3 f4 f8 f9 f10
        rw [F.law11_GateMonotone.L2_x4_eq]
        simp only [bindO_some, bindO2_some, outK_ret, condB_bool, cond_t, cond_f, fa_ptr, fa_iptr, part_none, Nat.zero_add, Nat.add_zero, Nat.reduceAdd, List.getElem?_cons_zero, List.getElem?_cons_succ, len_str, lenS_enc, lss_int, leq_int, gtr_int, geq_int, eq_int, ne_int, eq_str, ne_str, eq_bool, ne_bool, not_bool, extract_0, extract_1, extract_2, setV_eq, Nat.reduceEqDiff, reduceIte, f10, succ_i64 hi (show s.rels.l.length ≤ big by unfold big; omega)]
        exact hn2 _ _ ⟨s', hge, w0, w1, f2, f3, f4, f8, f9, rfl⟩
      rw [F.law11_GateMonotone.L2_eq]
      simp only [e11, e12, bindO_some, bindO2_some, outK_ret, condB_bool, cond_t, cond_f, fa_ptr, fa_iptr, part_none, Nat.zero_add, Nat.add_zero, Nat.reduceAdd, List.getElem?_cons_zero, List.getElem?_cons_succ, len_str, lenS_enc, lss_int, leq_int, gtr_int, geq_int, eq_int, ne_int, eq_str, ne_str, eq_bool, ne_bool, not_bool, extract_0, extract_1, extract_2, setV_eq, Nat.reduceEqDiff, reduceIte]
      by_cases hka : ¬ k' < all.l.length
      · simp only [decide_eq_false (by omega : ¬ (k' : Int) < (all.l.length : Int)), cond_f, loopK_exit]
        exact exit _ e2 e3 e4 e8 e9 e10
      replace hka := Decidable.not_not.1 hka
      simp only [decide_eq_true (by omega : (k' : Int) < (all.l.length : Int)), cond_t]
      by_cases hk6 : ¬ k' < 60
      · simp only [e12, lss_int, bindO_some, condB_bool, decide_eq_false (by omega : ¬ (k' : Int) < 60), cond_f, loopK_exit]
        exact exit _ e2 e3 e4 e8 e9 e10
      replace hk6 := Decidable.not_not.1 hk6
      have hv : all.l[k']? = some all.l[k'] := List.getElem?_eq_getElem hka
      generalize all.l[k'] = t at hv
      have htl : (iterT n k)[k']? = some t.l := by rw [← hall, List.getElem?_map, hv]; rfl
      have hkn : k' < n ^ k := by have := (List.getElem?_eq_some_iff.1 htl).1; rwa [iterT_len] at this
      obtain ⟨t', x1, x2, x3, x4⟩ := iterT_get n1 k k' hkn
      rw [htl] at x1; cases x1
      obtain ⟨bn, hbn⟩ : ∃ bn : Nat, by_.l.length = bn := ⟨_, rfl⟩
      have hb0 : 0 < by_.l.length := by omega
      have hmod : (k' + i) % by_.l.length < by_.l.length := Nat.mod_lt _ hb0
      have hvb : by_.l[(k' + i) % by_.l.length]? = some by_.l[(k' + i) % by_.l.length] := List.getElem?_eq_getElem hmod
      generalize by_.l[(k' + i) % by_.l.length] = bb at hvb
      obtain ⟨v1, hv1⟩ := shr_ex bb (k' / by_.l.length % 8)
      obtain ⟨v2, hv2⟩ := and_ex v1 1
      have hadd : binS .add (.int .i64 (k' : Int)) (.int .i64 (i : Int)) = some (.int .i64 ((k' + i : Nat) : Int)) := by rw [add_i64 (by omega) (by omega)]; rfl
      have h8n : binS .rem (.int .i64 ((k' / by_.l.length : Nat) : Int)) (.int .i64 8) = some (.int .i64 ((k' / by_.l.length % 8 : Nat) : Int)) := rem_nat (b := 8) (by omega)
      simp only [decide_eq_true (by omega : (k' : Int) < 60), cond_t, bindO_some, bindO2_some, outK_ret, condB_bool, cond_t, cond_f, fa_ptr, fa_iptr, part_none, Nat.zero_add, Nat.add_zero, Nat.reduceAdd, List.getElem?_cons_zero, List.getElem?_cons_succ, len_str, lenS_enc, lss_int, leq_int, gtr_int, geq_int, eq_int, ne_int, eq_str, ne_str, eq_bool, ne_bool, not_bool, extract_0, extract_1, extract_2, setV_eq, Nat.reduceEqDiff, reduceIte, e2, e10, e12, hadd, rem_nat hb0, iaS_enc by_ hmod, get_u8 hvb, quo_nat hb0 (show k' ≤ 1000000 by omega), h8n, hv1, hv2, int_beq]
      have hsucc : binS .add (.int .i64 (k' : Int)) (.int .i64 1) = some (.int .i64 ((k' + 1 : Nat) : Int)) := succ_i64 hk6 (by unfold big; omega)
      by_cases hbit : v2 = 1
      · obtain ⟨hsm, hok'⟩ := strc_small hge.valid
        have hrel := (strc_iff.1 hge.valid).rel _ (List.mem_map_of_mem (List.mem_of_getElem? hr))
        have hnn : s'.size.toNat = n := by rw [hge.size]; omega
        rw [hnn] at hrel
        obtain ⟨_, k2, q1, _, _, q4⟩ := hrel
        have hk2 : r.arity = (k2 : Int) := q1
        have hkk : k2 = k := by have := (hge.at_ hr hr0).2; omega
        subst hkk
        simp only [decide_eq_true hbit, cond_t, e4, e10, e11, lw1 _ _ w1, bindO_some, fa_ptr, Nat.zero_add, lr, iaS_enc s'.rels hi', fa_iptr, Nat.add_zero, get_name hr, iaS_enc all hka, get_tup hv]
        refine semCall_true (ref01_Put hok' hsm (where_named hge.valid hr) hr (fun u hu => by have := (q4.1 u.l (List.mem_map_of_mem hu)).1; omega) (by omega) fun s'' hp => ?_)
        have hst : storeS 2 (.ptr 1 0) (.agg (encStrc s'')) hh = some (hh.set 1 (.cells (encStrc s''))) := by rw [store_ptr (n := 2) (v := .agg (encStrc s'')) w1 rfl (one_encStrc s'') (by simp [encStrc])]; rfl
        simp only [outK_ret, e4, hst, bindO_some, e12, hsucc]
        exact yes_eq.2 ⟨60 - (k' + 1), by omega, rfl, rfl, ⟨k' + 1, s'', rfl, by omega, hge.put hr hk2 x2 (by rw [hnn]; exact x3) hp, by rw [Heap.get_set, if_neg (by omega)]; exact w0, by rw [Heap.get_set, if_pos rfl], e2, e3, e4, e8, e9, e10, e11, rfl⟩⟩
      · simp only [decide_eq_false hbit, cond_f, e12, hsucc, bindO_some]
        exact yes_eq.2 ⟨60 - (k' + 1), by omega, rfl, rfl, ⟨k' + 1, s', rfl, by omega, hge, w0, w1, e2, e3, e4, e8, e9, e10, e11, rfl⟩⟩
    · rintro e hh ⟨s', hge, w0, w1, e2, e3, e4, e8, e9, e10⟩ K2 hx2
      have hrl : s'.rels.l.length = s.rels.l.length := by have := congrArg List.length hge.sig; simpa using this
      have lr : loadS none (.ptr 1 1) hh = some (encSl encRel 3 s'.rels) := by rw [load_ptr w1]; rfl
      rw [F.law11_GateMonotone.L1_eq]
      simp only [e4, e10, bindO_some, bindO2_some, outK_ret, condB_bool, cond_t, cond_f, fa_ptr, fa_iptr, part_none, Nat.zero_add, Nat.add_zero, Nat.reduceAdd, List.getElem?_cons_zero, List.getElem?_cons_succ, len_str, lenS_enc, lss_int, leq_int, gtr_int, geq_int, eq_int, ne_int, eq_str, ne_str, eq_bool, ne_bool, not_bool, extract_0, extract_1, extract_2, setV_eq, Nat.reduceEqDiff, reduceIte, lr, hrl, lt_false]
      rw [hx2, F.law11_GateMonotone.L1_x2_eq]
      simp only [setV_eq, Nat.reduceEqDiff, reduceIte, e3, e4, lw0 _ w0, lw1 _ _ w1, bindO_some]
      refine semCall_true (gate_Run hc (strc_small hge.valid).2 ?_)
      obtain ⟨r1, r2⟩ := hge.run he hk
      simp only [bindO_some, bindO2_some, outK_ret, condB_bool, cond_t, cond_f, fa_ptr, fa_iptr, part_none, Nat.zero_add, Nat.add_zero, Nat.reduceAdd, List.getElem?_cons_zero, List.getElem?_cons_succ, len_str, lenS_enc, lss_int, leq_int, gtr_int, geq_int, eq_int, ne_int, eq_str, ne_str, eq_bool, ne_bool, not_bool, extract_0, extract_1, extract_2, setV_eq, Nat.reduceEqDiff, reduceIte, e8, e9, he, r1, beq_self_eq_true]
      cases hb : runV c s with
      | false =>
        simp only [Bool.not_false, cond_t]
        refine semCall_true (alive_sem ?_)
        rfl
      | true =>
        simp only [Bool.not_true, cond_f, r2 hb, condB_bool, cond_t]
        refine semCall_true (alive_sem ?_)
        rfl
end
end Go.AM
