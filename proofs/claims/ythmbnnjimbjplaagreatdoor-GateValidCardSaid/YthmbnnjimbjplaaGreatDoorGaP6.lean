/- The depth of a circuit: the program and the reference agree. Conditions: none. -/
import Derived.Test.YthmbnnjimbjplaaGreatDoorGaP5
namespace Go.AM
open Go Go.Proofs
set_option linter.unusedVariables false
set_option linter.unusedSimpArgs false
noncomputable section

/-! ### Rows of numbers in a block -/
def iv (n : Int) : AV := .int .i64 n
theorem map_iv (d : List Int) : d.map iv = d.flatMap encI := by
  induction d with
  | nil => rfl
  | cons a d ih => rw [List.map_cons, List.flatMap_cons, ih]; rfl
theorem ia_sl {b i n : Nat} {k : IntKind} (h : i < n) : iaS 1 (.slice b 0 n 1) (.int k (i : Int)) = some (.ptr b i) := by simp [iaS, asNat, h]
theorem load_sl {b i : Nat} {h : Heap} {d : List Int} {v : Int} (hb : h.get b = some (.cells (d.map iv))) (hv : d[i]? = some v) : loadS none (.ptr b i) h = some (.int .i64 v) := by
  rw [load_ptr hb, part_none, List.getElem?_map, hv]; rfl
theorem store_sl {b i : Nat} {h : Heap} {d : List Int} {v : Int} (hb : h.get b = some (.cells (d.map iv))) (hi : i < d.length) : storeS 1 (.ptr b i) (.int .i64 v) h = some (h.set b (.cells ((d.set i v).map iv))) := by
  rw [store_ptr (n := 1) hb rfl rfl (by simp; omega), List.map_set]; rfl
theorem rep_iv (n : Nat) : repZero [.int .i64 0] n = (List.replicate n (0 : Int)).map iv := by
  induction n with
  | zero => rfl
  | succ n ih => rw [repZero, ih]; rfl
theorem make_sl {n : Nat} (hn : n ≤ 1000000) (h : Heap) : makeSliceS 1 8 [.int .i64 0] (.int .i64 (n : Int)) (.int .i64 (n : Int)) h = some (.slice h.next 0 n 1, h.alloc (.cells ((List.replicate n (0 : Int)).map iv))) := by
  have : (8 * (n : Int)) ≤ 140737488355328 := by omega
  simp [makeSliceS, makeOk, this, rep_iv]
def mx (a b : Int) : Int := if b > a then b else a
theorem fold_mx (a b : Int) : foldS true (.int .i64 a) [.int .i64 b] = some (.int .i64 (mx a b)) := by simp [foldS, minmax, mx]
theorem frz_ints {d : List Int} {h : Heap} {b : Nat} (hb : h.get b = some (.cells (d.map iv))) : Fz true h (.slice b 0 d.length 1) (encSl encI 1 (some d)) := by
  refine .slice b 0 d.length 1 _ _ hb (by rw [map_iv]) fun i x y hx hy => ?_
  rw [map_iv, hy] at hx
  cases hx
  rw [← map_iv, List.getElem?_map] at hy
  obtain ⟨v, hv, rfl⟩ := Option.map_eq_some_iff.1 hy
  exact .scalar _ rfl

/-! ### The depths -/
def at0 (d : List Int) (k : Int) : Int := d.getD k.toNat 0
def accD (d : List Int) (kids : List Int) : Int := kids.foldl (fun a k => mx a (at0 d k)) 0
def stepD (d : List Int) (i : Nat) (g : Gate) : List Int := if g.kind = 0 ∨ g.kind = 1 then d else d.set i (accD d g.kids.l + 1)
def dGo : List Gate → Nat → List Int → List Int
  | [], _, d => d
  | g :: gs, i, d => dGo gs (i + 1) (stepD d i g)
theorem dGo_step {l : List Gate} {i : Nat} {g : Gate} (hg : l[i]? = some g) (d : List Int) : dGo (l.drop i) i d = dGo (l.drop (i + 1)) (i + 1) (stepD d i g) := by
  have hi : i < l.length := (List.getElem?_eq_some_iff.1 hg).1
  rw [List.drop_eq_getElem_cons hi]
  rw [List.getElem?_eq_getElem hi] at hg
  cases hg; rfl
theorem accD_step {d kids : List Int} {k : Nat} {v : Int} (hv : kids[k]? = some v) : accD d (kids.take (k + 1)) = mx (accD d (kids.take k)) (at0 d v) := by
  unfold accD
  rw [List.take_add_one, hv, List.foldl_append]; rfl
def Bd (d : List Int) (i : Nat) : Prop := ∀ v ∈ d, 0 ≤ v ∧ v ≤ (i : Int)
theorem at0_bd {d : List Int} {i : Nat} (hb : Bd d i) (k : Int) : 0 ≤ at0 d k ∧ at0 d k ≤ (i : Int) := by
  unfold at0
  rw [List.getD_eq_getElem?_getD]
  cases h : d[k.toNat]? with
  | none => simp
  | some v => exact hb v (List.mem_of_getElem? h)
theorem accD_bd {d : List Int} {i : Nat} (hb : Bd d i) (kids : List Int) : 0 ≤ accD d kids ∧ accD d kids ≤ (i : Int) := by
  have key : ∀ (l : List Int) (a : Int), 0 ≤ a → a ≤ (i : Int) → 0 ≤ l.foldl (fun a k => mx a (at0 d k)) a ∧ l.foldl (fun a k => mx a (at0 d k)) a ≤ (i : Int) := by
    intro l
    induction l with
    | nil => intro a h1 h2; exact ⟨h1, h2⟩
    | cons k l ih =>
      intro a h1 h2
      have := at0_bd hb k
      refine ih _ ?_ ?_ <;> simp only [mx] <;> split <;> omega
  exact key kids 0 (by omega) (by omega)
theorem Bd.set {d : List Int} {i : Nat} (hb : Bd d i) {v : Int} (h1 : 0 ≤ v) (h2 : v ≤ ((i + 1 : Nat) : Int)) : Bd (d.set i v) (i + 1) := fun x hx => by
  rcases List.mem_or_eq_of_mem_set hx with h | h
  · have := hb x h; omega
  · rw [h]; exact ⟨h1, h2⟩
theorem Bd.up {d : List Int} {i : Nat} (hb : Bd d i) : Bd d (i + 1) := fun x hx => by have := hb x hx; omega
theorem stepD_bd {d : List Int} {i : Nat} (hb : Bd d i) (g : Gate) : Bd (stepD d i g) (i + 1) := by
  unfold stepD
  split
  · exact hb.up
  · have := accD_bd hb g.kids.l
    exact hb.set (by omega) (by omega)
/-- From here on noughts. -/
def Zs (d : List Int) (i : Nat) : Prop := ∀ j, i ≤ j → j < d.length → d[j]? = some 0
theorem stepD_zs {d : List Int} {i : Nat} (hz : Zs d i) (g : Gate) : Zs (stepD d i g) (i + 1) := fun j hj hl => by
  unfold stepD at hl ⊢
  split at hl
  · rename_i h; rw [if_pos h]; exact hz j (by omega) hl
  · rename_i h; rw [if_neg h, List.getElem?_set_ne (by omega)]; exact hz j (by omega) (by simpa using hl)
theorem set_self {d : List Int} {i : Nat} {v : Int} (h : d[i]? = some v) : d.set i v = d := by
  apply List.ext_getElem?
  intro j
  by_cases e : i = j
  · subst e
    have hi := (List.getElem?_eq_some_iff.1 h).1
    rw [List.getElem?_set_self hi, h]
  · rw [List.getElem?_set_ne e]
theorem at0_get {d : List Int} {v : Int} {i : Nat} (h1 : 0 ≤ v) (h2 : v < (i : Int)) (hi : i ≤ d.length) : d[v.toNat]? = some (at0 d v) := by
  unfold at0
  have : v.toNat < d.length := by omega
  rw [List.getD_eq_getElem?_getD, List.getElem?_eq_getElem this]; rfl
theorem stepD_len (d : List Int) (i : Nat) (g : Gate) : (stepD d i g).length = d.length := by unfold stepD; split <;> simp
theorem dGo_len : ∀ (l : List Gate) (i : Nat) (d : List Int), (dGo l i d).length = d.length
  | [], _, _ => rfl
  | g :: l, i, d => by rw [dGo, dGo_len l, stepD_len]
theorem fits_of {n : Int} : ∀ (l : List Gate) (i : Nat) (m m' : MapL), symsGo n l i m = some m' → ∀ (j : Nat) (g : Gate), l[j]? = some g → fitB n (i + j) g = true
  | [], _, _, _, _, j, g, h => by simp at h
  | g0 :: l, i, m, m', hs, j, g, h => by
    simp only [symsGo] at hs
    cases hf : fitB n i g0 with
    | false => rw [hf] at hs; cases hs
    | true =>
      rw [hf] at hs
      simp only [cond_t] at hs
      cases j with
      | zero => simp at h; subst h; exact hf
      | succ j =>
        have h' : l[j]? = some g := by simpa using h
        have ih : ∀ m, symsGo n l (i + 1) m = some m' → fitB n (i + 1 + j) g = true := fun m hs => fits_of l (i + 1) m m' hs j g h'
        rw [show i + (j + 1) = i + 1 + j by omega]
        split at hs
        · split at hs
          · split at hs
            · exact ih _ hs
            · cases hs
          · exact ih _ hs
        · exact ih _ hs
theorem fit_kids {n : Int} {i : Nat} {g : Gate} (hf : fitB n i g = true) {k : Nat} {v : Int} (hv : g.kids.l[k]? = some v) : 0 ≤ v ∧ v < (i : Int) := by
  simp only [fitB, Bool.and_eq_true] at hf
  have := List.all_eq_true.1 hf.2.2.1 v (List.mem_of_getElem? hv)
  simp at this; omega
theorem fit_none {n : Int} {i : Nat} {g : Gate} (hf : fitB n i g = true) (hk : g.kind = 0 ∨ g.kind = 1) : g.kids.l = [] := by
  simp only [fitB, Bool.and_eq_true] at hf
  have := hf.2.2.2
  rcases hk with hk | hk
  · rw [if_neg (by omega)] at this
    simp [hk] at this; exact this.2.2
  · rw [if_pos hk] at this
    simp at this; exact this.2.2.1

def Circ.fits (c : Circ) : Prop := c.gates.l.length ≤ 20000 ∧ 1 ≤ c.gates.l.length ∧ ∀ i g, c.gates.l[i]? = some g → fitB c.size i g = true
theorem fits_valid {c : Circ} (h : validB c = true) : c.fits := by
  unfold validB symsOf at h
  cases hs : sizeB c with
  | false => rw [hs] at h; cases h
  | true =>
    rw [hs] at h
    simp only [cond_t] at h
    obtain ⟨m, hm⟩ := Option.isSome_iff_exists.1 h
    simp only [sizeB, Bool.and_eq_true, Bool.not_eq_true', decide_eq_false_iff_not] at hs
    exact ⟨by omega, by omega, fun i g hg => by simpa using fits_of _ 0 _ _ hm i g hg⟩
def depthsOf (c : Circ) : List Int := dGo c.gates.l 0 (List.replicate c.gates.l.length 0)
theorem depthsOf_len (c : Circ) : (depthsOf c).length = c.gates.l.length := by rw [depthsOf, dGo_len]; simp

theorem gate_depths {c : Circ} (hc : c.ok) (hf : c.fits) {h : Heap} {K : Out → Heap → Bool} (hK : K (.ret (encSl encI 1 (some (depthsOf c)))) h = true) : Sem Tryz.prog 55 [encSl encGate 4 c.gates] h K := by
  refine Sem.data (r := encSl encI 1 (some (depthsOf c))) ?_ (by simp [AV.pureL, pure_encSl pure_encGate]) hK
  clear hK
  obtain ⟨hl1, hl2, hfit⟩ := hf
  refine F.gate_depths_sem ?_
  simp only [bindO_some, bindO2_some, outK_ret, condB_bool, cond_t, cond_f, fa_ptr, fa_iptr, part_none, Nat.zero_add, Nat.add_zero, Nat.reduceAdd, List.getElem?_cons_zero, List.getElem?_cons_succ, len_str, lenS_enc, lss_int, leq_int, gtr_int, geq_int, eq_int, ne_int, eq_str, ne_str, eq_bool, ne_bool, not_bool, extract_0, extract_1, extract_2, setV_eq, Nat.reduceEqDiff, reduceIte, make_sl (show c.gates.l.length ≤ 1000000 by omega), next_empty]
  refine loopB_range 0 c.gates.l.length (Nat.zero_le _) (fun i e h' => ∃ d, depthsOf c = dGo (c.gates.l.drop i) i d ∧ d.length = c.gates.l.length ∧ Bd d i ∧ Zs d i ∧ h'.get 0 = some (.cells (d.map iv)) ∧ 1 ≤ h'.next ∧
    e 3 = .slice 0 0 c.gates.l.length 1 ∧ e 11 = encSl encGate 4 c.gates ∧ e 12 = .int .i64 (c.gates.l.length : Int) ∧ e 13 = .int .i64 (i : Int))
    ⟨_, rfl, by simp, fun v hv => by rw [List.eq_of_mem_replicate hv]; omega, fun j _ hj => by simp at hj; simp [hj], get_alloc_same _ _, by rw [Heap.next_alloc]; omega, rfl, rfl, rfl, rfl⟩ ?_ ?_
  · rintro i e h' _ hi ⟨d, hd, hl, hb, hz, q0, qn, e3, e11, e12, e13⟩ K' hn hx hr hp
    have hg : c.gates.l[i]? = some c.gates.l[i] := List.getElem?_eq_getElem hi
    generalize c.gates.l[i] = g at hg
    have hgo : g.ok := hc.2 g (List.mem_of_getElem? hg)
    have hfg := hfit i g hg
    rw [dGo_step hg] at hd
    obtain ⟨H, hs, g1, go, gn⟩ := store_new (h := h') (zs := [.int .i64 0, .str [], .nils, .nils]) (cs := encGate g) (n := 4) rfl rfl (one_encGate g)
    have p0 : H.get 0 = some (.cells (d.map iv)) := by rw [go _ (by omega)]; exact q0
    rw [F.gate_depths.L0_eq]
    simp only [e3, e11, e12, e13, bindO_some, bindO2_some, outK_ret, condB_bool, cond_t, cond_f, fa_ptr, fa_iptr, part_none, Nat.zero_add, Nat.add_zero, Nat.reduceAdd, List.getElem?_cons_zero, List.getElem?_cons_succ, len_str, lenS_enc, lss_int, leq_int, gtr_int, geq_int, eq_int, ne_int, eq_str, ne_str, eq_bool, ne_bool, not_bool, extract_0, extract_1, extract_2, setV_eq, Nat.reduceEqDiff, reduceIte, lt_true hi, iaS_enc c.gates hi, load_agg len_encGate hg, hs]
    simp only [load_ptr g1, encGate, bindO_some, bindO2_some, outK_ret, condB_bool, cond_t, cond_f, fa_ptr, fa_iptr, part_none, Nat.zero_add, Nat.add_zero, Nat.reduceAdd, List.getElem?_cons_zero, List.getElem?_cons_succ, len_str, lenS_enc, lss_int, leq_int, gtr_int, geq_int, eq_int, ne_int, eq_str, ne_str, eq_bool, ne_bool, not_bool, extract_0, extract_1, extract_2, setV_eq, Nat.reduceEqDiff, reduceIte, int_beq]
    by_cases c0 : g.kind = 0
    · simp only [decide_eq_true c0, cond_t, succ_i64 hi hc.1, bindO_some]
      exact hn _ _ ⟨d, by rw [hd, stepD, if_pos (.inl c0)], hl, hb.up, by have := stepD_zs hz g; rwa [stepD, if_pos (.inl c0)] at this, p0, by omega, e3, e11, e12, rfl⟩
    simp only [decide_eq_false c0, cond_f]
    by_cases c1 : g.kind = 1
    · simp only [decide_eq_true c1, cond_t, succ_i64 hi hc.1, bindO_some]
      exact hn _ _ ⟨d, by rw [hd, stepD, if_pos (.inr c1)], hl, hb.up, by have := stepD_zs hz g; rwa [stepD, if_pos (.inr c1)] at this, p0, by omega, e3, e11, e12, rfl⟩
    simp only [decide_eq_false c1, cond_f, load_ptr g1, encGate, bindO_some, bindO2_some, outK_ret, condB_bool, cond_t, cond_f, fa_ptr, fa_iptr, part_none, Nat.zero_add, Nat.add_zero, Nat.reduceAdd, List.getElem?_cons_zero, List.getElem?_cons_succ, len_str, lenS_enc, lss_int, leq_int, gtr_int, geq_int, eq_int, ne_int, eq_str, ne_str, eq_bool, ne_bool, not_bool, extract_0, extract_1, extract_2, setV_eq, Nat.reduceEqDiff, reduceIte]
    have hzz := stepD_zs hz g
    have hbb := stepD_bd hb g
    rw [stepD, if_neg (by omega)] at hd hzz hbb
    have hd0 : d[i]? = some 0 := hz i (Nat.le_refl _) (by omega)
    have hdi : i < d.length := by omega
    refine loopB_range 0 g.kids.l.length (Nat.zero_le _) (fun k e h2 => h2.get 0 = some (.cells ((d.set i (accD d (g.kids.l.take k))).map iv)) ∧ 1 ≤ h2.next ∧
      e 3 = .slice 0 0 c.gates.l.length 1 ∧ e 4 = .int .i64 (i : Int) ∧ e 11 = encSl encGate 4 c.gates ∧ e 12 = .int .i64 (c.gates.l.length : Int) ∧ e 13 = .int .i64 (i : Int) ∧ e 27 = encSl encI 1 g.kids ∧ e 28 = .int .i64 (g.kids.l.length : Int) ∧ e 29 = .int .i64 (k : Int))
      ⟨by rw [List.take_zero, accD, List.foldl_nil, set_self hd0]; exact p0, by omega, e3, rfl, e11, e12, e13, rfl, rfl, rfl⟩ ?_ ?_
    · rintro k e h2 _ hk ⟨r0, rn, e3, e4, e11, e12, e13, e27, e28, e29⟩ K2 hn2 hx2 hr2 hp2
      have hv : g.kids.l[k]? = some g.kids.l[k] := List.getElem?_eq_getElem hk
      generalize g.kids.l[k] = v at hv
      obtain ⟨v0, v1⟩ := fit_kids hfg hv
      obtain ⟨vn, rfl⟩ : ∃ vn : Nat, v = (vn : Int) := ⟨v.toNat, by omega⟩
      have hat : d[vn]? = some (at0 d (vn : Int)) := by simpa using at0_get v0 v1 (by omega : i ≤ d.length)
      have ha : (d.set i (accD d (g.kids.l.take k)))[i]? = some (accD d (g.kids.l.take k)) := List.getElem?_set_self hdi
      have hb' : (d.set i (accD d (g.kids.l.take k)))[vn]? = some (at0 d (vn : Int)) := by rw [List.getElem?_set_ne (by omega)]; exact hat
      rw [F.gate_depths.L1_eq]
      simp only [e3, e4, e27, e28, e29, bindO_some, bindO2_some, outK_ret, condB_bool, cond_t, cond_f, fa_ptr, fa_iptr, part_none, Nat.zero_add, Nat.add_zero, Nat.reduceAdd, List.getElem?_cons_zero, List.getElem?_cons_succ, len_str, lenS_enc, lss_int, leq_int, gtr_int, geq_int, eq_int, ne_int, eq_str, ne_str, eq_bool, ne_bool, not_bool, extract_0, extract_1, extract_2, setV_eq, Nat.reduceEqDiff, reduceIte, lt_true hk, iaS_enc g.kids hk, get_ints hv, ia_sl hi, load_sl r0 ha, ia_sl (show vn < c.gates.l.length by omega), load_sl r0 hb', fold_mx, store_sl r0 (show i < (d.set i (accD d (g.kids.l.take k))).length by simpa using hdi), succ_i64 hk hgo.2.2]
      refine hn2 _ _ ⟨?_, by rw [Heap.next_set]; exact rn, e3, e4, e11, e12, e13, e27, e28, rfl⟩
      rw [Heap.get_set, if_pos rfl, List.set_set, accD_step hv]
    · rintro e h2 ⟨r0, rn, e3, e4, e11, e12, e13, e27, e28, e29⟩ K2 hx2
      rw [F.gate_depths.L1_eq]
      simp only [e28, e29, bindO_some, bindO2_some, outK_ret, condB_bool, cond_t, cond_f, fa_ptr, fa_iptr, part_none, Nat.zero_add, Nat.add_zero, Nat.reduceAdd, List.getElem?_cons_zero, List.getElem?_cons_succ, len_str, lenS_enc, lss_int, leq_int, gtr_int, geq_int, eq_int, ne_int, eq_str, ne_str, eq_bool, ne_bool, not_bool, extract_0, extract_1, extract_2, setV_eq, Nat.reduceEqDiff, reduceIte, lt_false]
      rw [hx2, F.gate_depths.L1_x2_eq]
      rw [List.take_of_length_le (Nat.le_refl _)] at r0
      have ha : (d.set i (accD d g.kids.l))[i]? = some (accD d g.kids.l) := List.getElem?_set_self hdi
      have hab := accD_bd hb g.kids.l
      simp only [bindO_some, bindO2_some, outK_ret, condB_bool, cond_t, cond_f, fa_ptr, fa_iptr, part_none, Nat.zero_add, Nat.add_zero, Nat.reduceAdd, List.getElem?_cons_zero, List.getElem?_cons_succ, len_str, lenS_enc, lss_int, leq_int, gtr_int, geq_int, eq_int, ne_int, eq_str, ne_str, eq_bool, ne_bool, not_bool, extract_0, extract_1, extract_2, setV_eq, Nat.reduceEqDiff, reduceIte, e3, e4, e13, ia_sl hi, load_sl r0 ha, add_i64 (a := accD d g.kids.l) (b := 1) (by omega) (by omega), store_sl r0 (show i < (d.set i (accD d g.kids.l)).length by simpa using hdi), succ_i64 hi hc.1]
      exact hn _ _ ⟨d.set i (accD d g.kids.l + 1), hd, by simpa using hl, hbb, hzz, by rw [Heap.get_set, if_pos rfl, List.set_set], by rw [Heap.next_set]; exact rn, e3, e11, e12, rfl⟩
  · rintro e h' ⟨d, hd, hl, hb, hz, q0, qn, e3, e11, e12, e13⟩ K' hx
    rw [F.gate_depths.L0_eq]
    simp only [e12, e13, bindO_some, bindO2_some, outK_ret, condB_bool, cond_t, cond_f, fa_ptr, fa_iptr, part_none, Nat.zero_add, Nat.add_zero, Nat.reduceAdd, List.getElem?_cons_zero, List.getElem?_cons_succ, len_str, lenS_enc, lss_int, leq_int, gtr_int, geq_int, eq_int, ne_int, eq_str, ne_str, eq_bool, ne_bool, not_bool, extract_0, extract_1, extract_2, setV_eq, Nat.reduceEqDiff, reduceIte, lt_false]
    rw [hx, F.gate_depths.L0_x0_eq]
    simp only [bindO_some, bindO2_some, outK_ret, condB_bool, cond_t, cond_f, fa_ptr, fa_iptr, part_none, Nat.zero_add, Nat.add_zero, Nat.reduceAdd, List.getElem?_cons_zero, List.getElem?_cons_succ, len_str, lenS_enc, lss_int, leq_int, gtr_int, geq_int, eq_int, ne_int, eq_str, ne_str, eq_bool, ne_bool, not_bool, extract_0, extract_1, extract_2, setV_eq, Nat.reduceEqDiff, reduceIte, e3]
    rw [List.drop_of_length_le (Nat.le_refl _)] at hd
    simp only [dGo] at hd
    rw [hd, ← hl]
    exact frzK_ret (frz_ints q0)
end
end Go.AM
