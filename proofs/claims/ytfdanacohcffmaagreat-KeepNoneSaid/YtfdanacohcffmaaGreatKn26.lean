/- The law KeepNone: a keeper that was not made by New. Conditions: none. -/
import Derived.Test.YtfdanacohcffmaaGreatKn19
import Derived.Test.YtfdanacohcffmaaGreatKn20
import Derived.Test.YtfdanacohcffmaaGreatKn23
import Derived.Test.YtfdanacohcffmaaGreatKn25
namespace Go.AM
open Go Go.Proofs
set_option linter.unusedVariables false
set_option linter.unusedSimpArgs false
noncomputable section
variable {K : Out → Heap → Bool} {h : Heap} {v : AV}
def NoKeep (v : AV) (h : Heap) : Prop := v = .nilp ∨ ∃ N, N < h.next ∧ v = .ptr N 0 ∧ h.get N = some (.cells [.nils, .int .i64 0, .nils, .int .i64 0, .nils, .nils])
theorem NoKeep.ext {h' : Heap} (x : NoKeep v h) (e : HExt h h') : NoKeep v h' := by
  rcases x with rfl | ⟨N, a, rfl, b⟩
  · exact .inl rfl
  · exact .inr ⟨N, Nat.lt_of_lt_of_le a e.next, rfl, by rw [e.get N a]; exact b⟩
theorem NoKeep.one {v : AV} {h : Heap} (x : NoKeep v h) : v.one = true := by
  rcases x with rfl | ⟨N, a, rfl, b⟩ <;> rfl
theorem keep_right0 (x : NoKeep v h) (hK : K (.ret (.bool false)) h = true) : Sem TP 45 [v] h K := by
  refine F.keep_Keeper_right_sem ?_
  rw [F.keep_Keeper_right_eq]
  rcases x with rfl | ⟨N, a, rfl, b⟩
  · simp only [show neV (.pointer 78) .nilp .nilp = some (.bool false) from rfl, AMc, Nat.reduceAdd, Nat.reduceEqDiff, reduceIte]; exact hK
  · simp only [show neV (.pointer 78) (.ptr N 0) .nilp = some (.bool true) from rfl, show nilCheckS (.ptr N 0) = some (.ptr N 0) from rfl, AMc, Nat.reduceAdd, Nat.reduceEqDiff, reduceIte, load_ptr b, Int.lt_irrefl, decide_false]; exact hK
theorem keep_Put0 {a1 a2 a3 : AV} (x : NoKeep v h) (hK : ∀ h', HExt h h' → K (.ret (.tuple [.nils, .nils, .int .i64 7])) h' = true) : Sem TP 15 [v, a1, a2, a3] h K := by
  refine F.keep_Keeper_Put_sem ?_
  rw [F.keep_Keeper_Put_eq]
  have g0 : (h.alloc (.cells [v])).get h.next = some (.cells [v]) := get_alloc_same _ _
  simp only [box_one x.one, bindO_some, load_ptr g0, part_none, List.getElem?_cons_zero]
  refine semCall_true (keep_right0 (x.ext (HExt.alloc _ _)) ?_)
  simp only [AMc, Nat.reduceAdd, Nat.reduceEqDiff, reduceIte, Bool.not_false]
  exact hK _ (HExt.alloc _ _)
theorem keep_Count0 {a1 a2 : AV} (x : NoKeep v h) (h1 : a1.one = true) (h2 : a2.one = true) (hK : ∀ h', HExt h h' → K (.ret (.tuple [.int .i64 0, .int .i64 7])) h' = true) : Sem TP 33 [v, a1, a2] h K := by
  refine F.keep_Keeper_Count_sem ?_
  rw [F.keep_Keeper_Count_eq]
  have y : HExt h ((h.alloc (.cells [a1])).alloc (.cells [a2])) := (HExt.alloc _ _).trans (HExt.alloc _ _)
  simp only [box_one h1, box_one h2, bindO_some]
  refine semCall_true (keep_right0 (x.ext y) ?_)
  simp only [AMc, Nat.reduceAdd, Nat.reduceEqDiff, reduceIte, Bool.not_false]
  exact hK _ y
theorem keep_Undo0 (x : NoKeep v h) (hK : K (.ret (.int .i64 7)) h = true) : Sem TP 22 [v] h K := by
  refine F.keep_Keeper_Undo_sem ?_
  rw [F.keep_Keeper_Undo_eq]
  refine semCall_true (keep_right0 x ?_)
  simp only [AMc, Nat.reduceAdd, Nat.reduceEqDiff, reduceIte, Bool.not_false]
  exact hK
theorem keep_Clone0 (x : NoKeep v h) (hK : K (.ret .nilp) h = true) : Sem TP 37 [v] h K := by
  refine F.keep_Keeper_Clone_sem ?_
  rw [F.keep_Keeper_Clone_eq]
  refine semCall_true (keep_right0 x ?_)
  simp only [AMc, Nat.reduceAdd, Nat.reduceEqDiff, reduceIte, Bool.not_false]
  exact hK
theorem now_res (s : St) : resultL TP s Tryz.f14.results.toList = (match loadS (some 2) (s.env 2) s.h, (some [] : Option (List AV)) with | some v, some vs => some (v :: vs) | _, _ => none) := by kernel_rfl
theorem keep_Now0 (x : NoKeep v h) (hK : ∀ h', HExt h h' → K (.ret (.agg (encStrc ⟨0, none⟩))) h' = true) : Sem TP 14 [v] h K := by
  refine F.keep_Keeper_Now_sem ?_
  rw [F.keep_Keeper_Now_eq]
  obtain ⟨H1, hs1, p1, po1, pn1⟩ := store_new (h := h) (zs := [.int .i64 0, .nils]) (cs := encStrc ⟨0, none⟩) (n := 2) rfl rfl rfl
  have l1 : loadS (some 2) (.ptr h.next 0) H1 = some (.agg (encStrc ⟨0, none⟩)) := by rw [load_ptr p1, part_whole (cs := encStrc ⟨0, none⟩) (n := 2) rfl]
  have hz : aggS [.int .i64 0, .nils] [] [] = some (.agg (encStrc ⟨0, none⟩)) := rfl
  refine semCall_true (keep_right0 (x.ext (HExt.alloc _ _)) ?_)
  simp only [AMc, Nat.reduceAdd, Nat.reduceEqDiff, reduceIte, Bool.not_false, hz, hs1, now_res, l1]
  exact hK H1 ⟨by omega, fun b hb => po1 b (by omega)⟩
theorem ref01_Same00 (hK : ∀ h', HExt h h' → K (.ret (.bool true)) h' = true) : Sem TP 16 [.agg (encStrc ⟨0, none⟩), .agg (encStrc ⟨0, none⟩)] h K := by
  refine F.ref01_Same_sem ?_
  rw [F.ref01_Same_eq]
  have y : HExt h ((h.alloc (.cells (encStrc ⟨0, none⟩))).alloc (.cells (encStrc ⟨0, none⟩))) := (HExt.alloc _ _).trans (HExt.alloc _ _)
  have g0 : ((h.alloc (.cells (encStrc ⟨0, none⟩))).alloc (.cells (encStrc ⟨0, none⟩))).get h.next = some (.cells (encStrc ⟨0, none⟩)) := by rw [Heap.get_alloc, Heap.next_alloc, if_neg (by omega)]; exact get_alloc_same _ _
  have g1 : ((h.alloc (.cells (encStrc ⟨0, none⟩))).alloc (.cells (encStrc ⟨0, none⟩))).get (h.next + 1) = some (.cells (encStrc ⟨0, none⟩)) := get_alloc_same _ _
  simp only [box_agg (one_encStrc _), bindO_some, Heap.next_alloc]
  generalize ((h.alloc (.cells (encStrc ⟨0, none⟩))).alloc (.cells (encStrc ⟨0, none⟩))) = H at y g0 g1 ⊢
  have lz : loadS none (.ptr h.next 0) H = some (.int .i64 0) := by rw [load_ptr g0]; rfl
  have lz1 : loadS none (.ptr (h.next + 1) 0) H = some (.int .i64 0) := by rw [load_ptr g1]; rfl
  have lr : loadS none (.ptr h.next 1) H = some .nils := by rw [load_ptr g0]; rfl
  have lr1 : loadS none (.ptr (h.next + 1) 1) H = some .nils := by rw [load_ptr g1]; rfl
  have ln : ∀ h, lenS .slice .nils h = some (.int .i64 0) := fun _ => rfl
  simp only [AMc, Nat.reduceAdd, Nat.reduceEqDiff, reduceIte, lz, lz1, lr, lr1, ln, int_beq, decide_true, Bool.not_true]
  refine loopB_range 0 0 (Nat.zero_le _) (fun i e h' => h' = H ∧ e 2 = .ptr h.next 0 ∧ e 5 = .int .i64 0) ⟨rfl, rfl, rfl⟩ (fun i e h' _ hi => absurd hi (by omega)) ?_
  rintro e h' ⟨rfl, e2, e5⟩ K' hx
  rw [F.ref01_Same.L0_eq]
  simp only [e2, e5, AMc, Nat.reduceAdd, Nat.reduceEqDiff, reduceIte, lr, ln, lss_int, Int.lt_irrefl, decide_false]
  rw [hx, F.ref01_Same.L0_x0_eq]
  exact hK _ y
theorem law_KeepNone {nm : Str} {t : Sl Int} {b : Bool} : Sem TP 9 [.str nm, encSl AM.encI 1 t, .bool b] Heap.empty trueK := by
  have al : ∀ h, Sem TP 12 [] h trueK := fun h => alive_sem rfl
  refine F.law08_KeepNone_sem ?_
  rw [F.law08_KeepNone_eq]
  simp only [AMc, Nat.reduceAdd, Nat.reduceEqDiff, reduceIte]
  by_cases c1 : (1000 : Int) < (nm.length : Int)
  · simp only [ZdT c1, cond_t]
    refine semCall_true (alive_sem ?_)
    simp only [AMc, Nat.reduceAdd, Nat.reduceEqDiff, reduceIte]; rfl
  simp only [ZdF c1, cond_f]
  by_cases c2 : (60 : Int) < (t.l.length : Int)
  · simp only [ZdT c2, cond_t]
    refine semCall_true (alive_sem ?_)
    simp only [AMc, Nat.reduceAdd, Nat.reduceEqDiff, reduceIte]; rfl
  simp only [ZdF c2, cond_f]
  simp only [show aggS [.nils, .int .i64 0, .nils, .int .i64 0, .nils, .nils] [] [] = some (.agg [.nils, .int .i64 0, .nils, .int .i64 0, .nils, .nils]) from rfl,
    show boxS (.agg [.nils, .int .i64 0, .nils, .int .i64 0, .nils, .nils]) = some [.nils, .int .i64 0, .nils, .int .i64 0, .nils, .nils] from rfl,
    show rowS [.nilp, .nilp] [(0, 1), (1, 1)] [.nilp, .ptr 0 0] = some [.nilp, .ptr 0 0] from rfl, next_empty, Heap.next_alloc, bindO_some]
  have q0 : ((Heap.empty.alloc (.cells [.nils, .int .i64 0, .nils, .int .i64 0, .nils, .nils])).alloc (.cells [.nilp, .ptr 0 0])).get 0 = some (.cells [.nils, .int .i64 0, .nils, .int .i64 0, .nils, .nils]) := by
    rw [Heap.get_alloc, if_neg (by rw [Heap.next_alloc, next_empty]; omega)]; exact get_alloc_same _ _
  have q1 : ((Heap.empty.alloc (.cells [.nils, .int .i64 0, .nils, .int .i64 0, .nils, .nils])).alloc (.cells [.nilp, .ptr 0 0])).get 1 = some (.cells [.nilp, .ptr 0 0]) := get_alloc_same _ _
  have qn : ((Heap.empty.alloc (.cells [.nils, .int .i64 0, .nils, .int .i64 0, .nils, .nils])).alloc (.cells [.nilp, .ptr 0 0])).next = 2 := rfl
  generalize ((Heap.empty.alloc (.cells [.nils, .int .i64 0, .nils, .int .i64 0, .nils, .nils])).alloc (.cells [.nilp, .ptr 0 0])) = H at q0 q1 qn ⊢
  refine loopB_range 0 2 (Nat.zero_le _) (fun i e h' => HExt H h' ∧ e 0 = .str nm ∧ e 1 = encSl AM.encI 1 t ∧ e 2 = .bool b ∧ e 8 = .slice 1 0 2 1 ∧ e 9 = .int .i64 (i : Int)) ⟨HExt.refl _, rfl, rfl, rfl, rfl, rfl⟩ ?_ ?_
  · rintro i e h' _ hi ⟨x, e0, e1, e2, e8, e9⟩ K' hn hx hr hp
    have ia : iaS 1 (.slice 1 0 2 1) (.int .i64 (i : Int)) = some (.ptr 1 i) := by
      rcases (by omega : i = 0 ∨ i = 1) with rfl | rfl <;> rfl
    have ld : ∃ v, NoKeep v H ∧ ∀ h'', HExt H h'' → loadS none (.ptr 1 i) h'' = some v := by
      rcases (by omega : i = 0 ∨ i = 1) with rfl | rfl
      · exact ⟨.nilp, .inl rfl, fun h'' y => by rw [load_ptr (by rw [y.get 1 (by omega)]; exact q1)]; rfl⟩
      · exact ⟨.ptr 0 0, .inr ⟨0, by omega, rfl, q0⟩, fun h'' y => by rw [load_ptr (by rw [y.get 1 (by omega)]; exact q1)]; rfl⟩
    obtain ⟨v, nk, ld⟩ := ld
    rw [F.law08_KeepNone.L0_eq]
    simp only [e0, e1, e2, e8, e9, AMc, Nat.reduceAdd, Nat.reduceEqDiff, reduceIte, ZdT (by omega : (i : Int) < 2), ia, ld h' x]
    refine semCall_true (keep_Put0 (nk.ext x) fun h1 x1 => ?_)
    have x := x.trans x1
    simp only [AMc, Nat.reduceAdd, Nat.reduceEqDiff, reduceIte, ia, ld h1 x]
    refine semCall_true (keep_Count0 (nk.ext x) rfl (one_encSl _) fun h2 x2 => ?_)
    have x := x.trans x2
    simp only [AMc, Nat.reduceAdd, Nat.reduceEqDiff, reduceIte, ia, ld h2 x, int_beq, decide_true, Bool.not_true]
    refine semCall_true (keep_Undo0 (nk.ext x) ?_)
    simp only [AMc, Nat.reduceAdd, Nat.reduceEqDiff, reduceIte, ia, ld h2 x, int_beq, decide_true, Bool.not_true, show ∀ h, lenS .slice .nils h = some (.int .i64 0) from fun _ => rfl, show binS .add (.int .i64 0) (.int .i64 0) = some (.int .i64 0) from rfl, Int.lt_irrefl, decide_false]
    refine semCall_true (keep_Now0 (nk.ext x) fun h3 x3 => ?_)
    have x := x.trans x3
    simp only [AMc, Nat.reduceAdd, Nat.reduceEqDiff, reduceIte, show aggS [.int .i64 0, .nils] [] [] = some (.agg (encStrc ⟨0, none⟩)) from rfl]
    refine semCall_true (ref01_Same00 fun h4 x4 => ?_)
    have x := x.trans x4
    simp only [AMc, Nat.reduceAdd, Nat.reduceEqDiff, reduceIte, ia, ld h4 x, Bool.not_true]
    refine semCall_true (keep_Clone0 (nk.ext x) ?_)
    simp only [AMc, Nat.reduceAdd, Nat.reduceEqDiff, reduceIte, show neV (.pointer 78) .nilp .nilp = some (.bool false) from rfl, succ_i64 hi (by unfold big; omega), e9]
    exact hn _ _ ⟨x, e0, e1, e2, e8, rfl⟩
  · rintro e h' ⟨x, e0, e1, e2, e8, e9⟩ K' hx
    rw [F.law08_KeepNone.L0_eq]
    have e9 : e 9 = .int .i64 2 := e9
    simp only [e9, AMc, Nat.reduceAdd, Nat.reduceEqDiff, reduceIte, Int.lt_irrefl, decide_false]
    rw [hx, F.law08_KeepNone.L0_x0_eq]
    refine semCall_true (alive_sem ?_)
    simp only [AMc, Nat.reduceAdd, Nat.reduceEqDiff, reduceIte]; rfl
end
end Go.AM
