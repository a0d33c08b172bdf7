/- Parts of a proof, merged out of smaller texts: the abstract machine and what functions do. Conditions: none. -/
import Derived.Test.YtkenhcicdkmbnaaGreatRl1
import Derived.Test.YtkenhcicdkmbnaaGreatRl9
import Derived.Test.YtkenhcicdkmbnaaGreatRl13
import Derived.Test.YtkenhcicdkmbnaaGreatRl14
/- What functions of the program answer: carried over from another seat. Conditions: none. -/
namespace Go.AM
open Go Go.Proofs
set_option linter.unusedVariables false
set_option linter.unusedSimpArgs false
noncomputable section
def letterI (n : Int) : Bool := (decide (97 ≤ n) && decide (n ≤ 122)) || (decide (65 ≤ n) && decide (n ≤ 90))
def digitI (n : Int) : Bool := decide (48 ≤ n) && decide (n ≤ 57)
def words : List Str := [[97, 110, 100], [111, 114], [110, 111, 116], [115, 111, 109, 101], [97, 108, 108], [108, 102, 112], [112, 102, 112], [116, 99], [101, 120, 105, 115, 116, 115], [116, 114, 117, 101], [102, 97, 108, 115, 101]]
def wordB (s : Str) : Bool := words.any fun w => s == w
theorem ref01_letter {n : Int} {h : Heap} {K : Out → Heap → Bool} (hK : K (.ret (.bool (letterI n))) h = true) : Sem Tryz.prog 106 [.int .u8 n] h K := by
  refine F.ref01_letter_sem ?_
  simp only [geq_int, leq_int, bindO_some, condB_bool]
  unfold letterI at hK
  by_cases h1 : 97 ≤ n <;> by_cases h2 : n ≤ 122 <;> by_cases h3 : 65 ≤ n <;> by_cases h4 : n ≤ 90 <;> simpa [h1, h2, h3, h4] using hK
theorem ref01_digit {n : Int} {h : Heap} {K : Out → Heap → Bool} (hK : K (.ret (.bool (digitI n))) h = true) : Sem Tryz.prog 108 [.int .u8 n] h K := by
  refine F.ref01_digit_sem ?_
  simp only [geq_int, leq_int, bindO_some, condB_bool]
  unfold digitI at hK
  by_cases h1 : 48 ≤ n <;> by_cases h2 : n ≤ 57 <;> simpa [h1, h2] using hK
theorem shape_letter {n : Int} {h : Heap} {K : Out → Heap → Bool} (hK : K (.ret (.bool (letterI n))) h = true) : Sem Tryz.prog 125 [.int .u8 n] h K := by
  refine F.shape_letter_sem ?_
  simp only [geq_int, leq_int, bindO_some, condB_bool]
  unfold letterI at hK
  by_cases h1 : 97 ≤ n <;> by_cases h2 : n ≤ 122 <;> by_cases h3 : 65 ≤ n <;> by_cases h4 : n ≤ 90 <;> simpa [h1, h2, h3, h4] using hK
theorem shape_digit {n : Int} {h : Heap} {K : Out → Heap → Bool} (hK : K (.ret (.bool (digitI n))) h = true) : Sem Tryz.prog 127 [.int .u8 n] h K := by
  refine F.shape_digit_sem ?_
  simp only [geq_int, leq_int, bindO_some, condB_bool]
  unfold digitI at hK
  by_cases h1 : 48 ≤ n <;> by_cases h2 : n ≤ 57 <;> simpa [h1, h2] using hK
theorem ref01_word {s : Str} {h : Heap} {K : Out → Heap → Bool} (hK : K (.ret (.bool (wordB s))) h = true) : Sem Tryz.prog 107 [.str s] h K := by
  refine F.ref01_Word_sem ?_
  simp only [eq_str, bindO_some, condB_bool]
  simp only [wordB, words, List.any_cons, List.any_nil, Bool.or_false] at hK
  repeat (first | exact hK | (generalize (s == _) = b at hK ⊢; cases b <;> simp only [cond_t, cond_f, Bool.true_or, Bool.false_or] at hK ⊢ <;> try exact hK))
theorem shape_word {s : Str} {h : Heap} {K : Out → Heap → Bool} (hK : K (.ret (.bool (wordB s))) h = true) : Sem Tryz.prog 126 [.str s] h K := by
  refine F.shape_word_sem ?_
  simp only [eq_str, bindO_some, condB_bool]
  simp only [wordB, words, List.any_cons, List.any_nil, Bool.or_false] at hK
  repeat (first | exact hK | (generalize (s == _) = b at hK ⊢; cases b <;> simp only [cond_t, cond_f, Bool.true_or, Bool.false_or] at hK ⊢ <;> try exact hK))
def okB (b : UInt8) : Bool := letterI b.toNat || digitI b.toNat
def nameB (s : Str) : Bool := match s with
  | [] => false
  | c :: _ => decide (s.length ≤ 12) && (letterI c.toNat && (!wordB s && s.all okB))
theorem take_all {α : Type} {p : α → Bool} {l : List α} {i : Nat} {a : α} (ha : l[i]? = some a) (ht : (l.take i).all p = true) (hp : p a = true) : (l.take (i + 1)).all p = true := by
  rw [List.take_add_one, ha]; simp [ht, hp]
theorem all_false {α : Type} {p : α → Bool} {l : List α} {i : Nat} {a : α} (ha : l[i]? = some a) (hp : p a = false) : l.all p = false := by
  rw [Bool.eq_false_iff]
  intro h
  rw [List.all_eq_true] at h
  have := h a (List.mem_of_getElem? ha)
  rw [hp] at this; cases this
theorem ref01_Name {s : Str} {h : Heap} {K : Out → Heap → Bool} (hK : K (.ret (.bool (nameB s))) h = true) : Sem Tryz.prog 69 [.str s] h K := by
  refine F.ref01_Name_sem ?_
  cases s with
  | nil => simpa [nameB, len_str, lss_int, condB, bindO] using hK
  | cons c s' =>
    have h0 : (c :: s')[0]? = some c := rfl
    simp only [len_str, lss_int, gtr_int, bindO_some, condB_bool]
    have h1 : decide (((c :: s').length : Int) < 1) = false := by simp; omega
    simp only [h1, cond_f]
    by_cases h2 : (c :: s').length ≤ 12
    · have h3 : decide ((12 : Int) < ((c :: s').length : Int)) = false := by simp at h2 ⊢; omega
      simp only [h3, cond_f]
      rw [show strIdxS (.str (c :: s')) (.int .i64 0) = some (.int .u8 (c.toNat : Int)) from idx_str (i := 0) h0]
      simp only [bindO_some]
      refine semCall_true (ref01_letter ?_)
      simp only [outK_ret, not_bool, bindO_some, condB_bool]
      cases hl : letterI c.toNat with
      | false => simpa [nameB, hl] using hK
      | true =>
        simp only [Bool.not_true, cond_f]
        refine semCall_true (ref01_word ?_)
        simp only [outK_ret, condB_bool]
        cases hw : wordB (c :: s') with
        | true => simpa [nameB, hl, hw] using hK
        | false =>
          simp only [cond_f]
          have hn : nameB (c :: s') = (c :: s').all okB := by simp only [nameB, hl, hw, Bool.not_false, Bool.true_and]; rw [decide_eq_true h2, Bool.true_and]
          rw [hn] at hK
          have h4 : ((c :: s').take 1).all okB = true := by simp [okB, hl]
          have h5 : 1 ≤ (c :: s').length := by simp
          clear h0 h1 h3 hl hw hn
          generalize (c :: s') = s at hK h2 h4 h5 ⊢
          refine loopB_range 1 s.length h5 (fun i e h' => h' = h ∧ e 0 = .str s ∧ e 3 = .int .i64 (i : Int) ∧ (s.take i).all okB = true) ⟨rfl, rfl, rfl, h4⟩ ?_ ?_
          · rintro i e h' _ hi ⟨rfl, e0, e3, ht⟩ K' hn hx hr hp
            have hb : s[i]? = some s[i] := List.getElem?_eq_getElem hi
            have hlt : decide ((i : Int) < (s.length : Int)) = true := by simp; omega
            rw [F.ref01_Name.L0_eq]
            simp only [e0, e3, len_str, lss_int, idx_str hb, bindO_some, condB_bool, hlt, cond_t]
            refine semCall_true (ref01_letter ?_)
            simp only [outK_ret, not_bool, bindO_some, condB_bool]
            cases hl : letterI s[i].toNat with
            | true =>
              simp only [Bool.not_true, cond_f, add_i64 (a := (i : Int)) (b := 1) (by omega) (by omega), bindO_some]
              exact hn _ _ ⟨rfl, e0, rfl, take_all hb ht (by simp [okB, hl])⟩
            | false =>
              simp only [Bool.not_false, cond_t]
              refine semCall_true (ref01_digit ?_)
              simp only [outK_ret, not_bool, bindO_some, condB_bool]
              cases hd : digitI s[i].toNat with
              | true =>
                simp only [Bool.not_true, cond_f, add_i64 (a := (i : Int)) (b := 1) (by omega) (by omega), bindO_some]
                exact hn _ _ ⟨rfl, e0, rfl, take_all hb ht (by simp [okB, hd])⟩
              | false =>
                simp only [Bool.not_false, cond_t]
                rw [hr, F.ref01_Name.L0_r_eq]
                have : s.all okB = false := all_false hb (by simp [okB, hl, hd])
                rw [this] at hK; exact hK
          · rintro e h' ⟨rfl, e0, e3, ht⟩ K' hx
            have hlt : decide ((s.length : Int) < (s.length : Int)) = false := by simp
            rw [F.ref01_Name.L0_eq]
            simp only [e0, e3, len_str, lss_int, bindO_some, condB_bool, hlt, cond_f]
            rw [hx, F.ref01_Name.L0_x0_eq]
            rw [List.take_of_length_le (Nat.le_refl _)] at ht
            rw [ht] at hK; exact hK
    · have h3 : decide ((12 : Int) < ((c :: s').length : Int)) = true := by simp at h2 ⊢; omega
      simp only [h3, cond_t]
      have : nameB (c :: s') = false := by simp only [nameB]; rw [decide_eq_false h2]; rfl
      rw [this] at hK; exact hK
theorem shape_Name {s : Str} {h : Heap} {K : Out → Heap → Bool} (hK : K (.ret (.bool (nameB s))) h = true) : Sem Tryz.prog 98 [.str s] h K := by
  refine F.shape_Name_sem ?_
  cases s with
  | nil => simpa [nameB, eq_str, condB, bindO] using hK
  | cons c s' =>
    have h0 : (c :: s')[0]? = some c := rfl
    have h1 : ((c :: s') == ([] : Str)) = false := rfl
    simp only [len_str, eq_str, gtr_int, bindO_some, condB_bool, h1, cond_f]
    by_cases h2 : (c :: s').length ≤ 12
    · have h3 : decide ((12 : Int) < ((c :: s').length : Int)) = false := by simp at h2 ⊢; omega
      simp only [h3, cond_f]
      rw [show strIdxS (.str (c :: s')) (.int .i64 0) = some (.int .u8 (c.toNat : Int)) from idx_str (i := 0) h0]
      simp only [bindO_some]
      refine semCall_true (shape_letter ?_)
      simp only [outK_ret, not_bool, bindO_some, condB_bool]
      cases hl : letterI c.toNat with
      | false => simpa [nameB, hl] using hK
      | true =>
        simp only [Bool.not_true, cond_f]
        refine semCall_true (shape_word ?_)
        simp only [outK_ret, condB_bool]
        cases hw : wordB (c :: s') with
        | true => simpa [nameB, hl, hw] using hK
        | false =>
          simp only [cond_f, len_str, bindO_some]
          have hn : nameB (c :: s') = (c :: s').all okB := by simp only [nameB, hl, hw, Bool.not_false, Bool.true_and]; rw [decide_eq_true h2, Bool.true_and]
          rw [hn] at hK
          have h4 : ((c :: s').take 1).all okB = true := by simp [okB, hl]
          have h5 : 1 ≤ (c :: s').length := by simp
          clear h0 h1 h3 hl hw hn
          generalize (c :: s') = s at hK h2 h4 h5 ⊢
          refine loopB_range 0 s.length (Nat.zero_le _) (fun i e h' => h' = h ∧ e 0 = .str s ∧ e 23 = .int .i64 (i : Int) ∧ e 22 = .int .i64 (s.length : Int) ∧ (s.take i).all okB = true) ⟨rfl, rfl, rfl, rfl, rfl⟩ ?_ ?_
          · rintro i e h' _ hi ⟨rfl, e0, e3, e22, ht⟩ K' hn hx hr hp
            have hb : s[i]? = some s[i] := List.getElem?_eq_getElem hi
            have hlt : decide ((i : Int) < (s.length : Int)) = true := by simp; omega
            rw [F.shape_Name.L0_eq]
            simp only [e0, e3, e22, len_str, lss_int, idx_str hb, bindO_some, condB_bool, hlt, cond_t]
            refine semCall_true (shape_letter ?_)
            simp only [outK_ret, not_bool, bindO_some, condB_bool]
            cases hl : letterI s[i].toNat with
            | true =>
              simp only [Bool.not_true, cond_f, add_i64 (a := (i : Int)) (b := 1) (by omega) (by omega), bindO_some]
              exact hn _ _ ⟨rfl, e0, rfl, e22, take_all hb ht (by simp [okB, hl])⟩
            | false =>
              simp only [Bool.not_false, cond_t]
              refine semCall_true (shape_digit ?_)
              simp only [outK_ret, not_bool, bindO_some, condB_bool]
              cases hd : digitI s[i].toNat with
              | true =>
                simp only [Bool.not_true, cond_f, add_i64 (a := (i : Int)) (b := 1) (by omega) (by omega), bindO_some]
                exact hn _ _ ⟨rfl, e0, rfl, e22, take_all hb ht (by simp [okB, hd])⟩
              | false =>
                simp only [Bool.not_false, cond_t]
                rw [hr, F.shape_Name.L0_r_eq]
                have : s.all okB = false := all_false hb (by simp [okB, hl, hd])
                rw [this] at hK; exact hK
          · rintro e h' ⟨rfl, e0, e3, e22, ht⟩ K' hx
            have hlt : decide ((s.length : Int) < (s.length : Int)) = false := by simp
            rw [F.shape_Name.L0_eq]
            simp only [e0, e3, e22, len_str, lss_int, bindO_some, condB_bool, hlt, cond_f]
            rw [hx, F.shape_Name.L0_x0_eq]
            rw [List.take_of_length_le (Nat.le_refl _)] at ht
            rw [ht] at hK; exact hK
    · have h3 : decide ((12 : Int) < ((c :: s').length : Int)) = true := by simp at h2 ⊢; omega
      simp only [h3, cond_t]
      have : nameB (c :: s') = false := by simp only [nameB]; rw [decide_eq_false h2]; rfl
      rw [this] at hK; exact hK
theorem get_ints {x : Sl Int} {i : Nat} {v : Int} (hv : x.l[i]? = some v) {h : Heap} : loadS none (.iptr (x.l.flatMap encI) (i * 1)) h = some (.int .i64 v) := by
  rw [load_elem1 len_encI hv]; rfl
def inB (n : Int) (l : List Int) : Bool := l.all fun x => !decide (x < 0) && !decide (n ≤ x)
/-! ### Rows of numbers in a block -/
def iv (n : Int) : AV := .int .i64 n
theorem map_iv (d : List Int) : d.map iv = d.flatMap encI := by
  induction d with
  | nil => rfl
  | cons a d ih => rw [List.map_cons, List.flatMap_cons, ih]; rfl
theorem ia_sl {b i n : Nat} {k : IntKind} (h : i < n) : iaS 1 (.slice b 0 n 1) (.int k (i : Int)) = some (.ptr b i) := by simp [iaS, asNat, h]
theorem load_sl {b i : Nat} {h : Heap} {d : List Int} {v : Int} (hb : h.get b = some (.cells (d.map iv))) (hv : d[i]? = some v) : loadS none (.ptr b i) h = some (.int .i64 v) := by
  rw [load_ptr hb, part_none, List.getElem?_map, hv]; rfl
theorem store_sl {b i : Nat} {h : Heap} {d : List Int} {v : Int} (hb : h.get b = some (.cells (d.map iv))) (hi : i < d.length) : storeS 1 (.ptr b i) (.int .i64 v) h = some (h.set b (.cells ((d.set i v).map iv))) := by
  rw [store_ptr (n := 1) hb rfl rfl (by simp; omega), List.map_set]; rfl
theorem rep_iv (n : Nat) : repZero [.int .i64 0] n = (List.replicate n (0 : Int)).map iv := by
  induction n with
  | zero => rfl
  | succ n ih => rw [repZero, ih]; rfl
theorem make_sl {n : Nat} (hn : n ≤ 1000000) (h : Heap) : makeSliceS 1 8 [.int .i64 0] (.int .i64 (n : Int)) (.int .i64 (n : Int)) h = some (.slice h.next 0 n 1, h.alloc (.cells ((List.replicate n (0 : Int)).map iv))) := by
  have : (8 * (n : Int)) ≤ 140737488355328 := by omega
  simp [makeSliceS, makeOk, this, rep_iv]
theorem frz_ints {d : List Int} {h : Heap} {b : Nat} (hb : h.get b = some (.cells (d.map iv))) : Fz true h (.slice b 0 d.length 1) (encSl encI 1 (some d)) := by
  refine .slice b 0 d.length 1 _ _ hb (by rw [map_iv]) fun i x y hx hy => ?_
  rw [map_iv, hy] at hx
  cases hx
  rw [← map_iv, List.getElem?_map] at hy
  obtain ⟨v, hv, rfl⟩ := Option.map_eq_some_iff.1 hy
  exact .scalar _ rfl
def Bd (d : List Int) (i : Nat) : Prop := ∀ v ∈ d, 0 ≤ v ∧ v ≤ (i : Int)
theorem Bd.set {d : List Int} {i : Nat} (hb : Bd d i) {v : Int} (h1 : 0 ≤ v) (h2 : v ≤ ((i + 1 : Nat) : Int)) : Bd (d.set i v) (i + 1) := fun x hx => by
  rcases List.mem_or_eq_of_mem_set hx with h | h
  · have := hb x h; omega
  · rw [h]; exact ⟨h1, h2⟩
/-! ### Ranks -/
def rkGo (n : Nat) : List Int → Nat → Nat
  | [], r => r
  | x :: l, r => rkGo n l (r * n + x.toNat)
def rkN (n : Nat) (l : List Int) : Nat := rkGo n l 0
/-! ### Own rows -/
/-- `a` is a row of ours that holds `l`; its block is not older than `k`. -/
inductive Own {α : Type} (enc : α → List AV) (sz k : Nat) (h : Heap) : AV → List α → Prop
  | nil : Own enc sz k h .nils []
  | row (b : Nat) (l : List α) : k ≤ b → b < h.next → h.get b = some (.cells (l.flatMap enc)) → Own enc sz k h (.slice b 0 l.length sz) l
variable {α : Type} {enc : α → List AV} {sz k : Nat}
theorem Own.len {h h' : Heap} {a : AV} {l : List α} (o : Own enc sz k h a l) : lenS .slice a h' = some (.int .i64 (l.length : Int)) := by
  cases o <;> rfl
theorem Own.ext {h h' : Heap} {a : AV} {l : List α} (o : Own enc sz k h a l) (hx : HExt h h') : Own enc sz k h' a l := by
  cases o with
  | nil => exact .nil
  | row b l h1 h2 h3 => exact .row b l h1 (Nat.lt_of_lt_of_le h2 hx.next) (by rw [hx.get b h2]; exact h3)
theorem Own.get {h : Heap} {a : AV} {l : List α} (o : Own enc sz k h a l) (he : ∀ x, (enc x).length = sz) {i : Nat} {v : α} (hv : l[i]? = some v) :
    ∃ b, k ≤ b ∧ b < h.next ∧ (∀ q : IntKind, iaS sz a (.int q (i : Int)) = some (.ptr b (i * sz))) ∧ loadS (some sz) (.ptr b (i * sz)) h = some (.agg (enc v)) ∧ ∀ m, m < sz → loadS none (.ptr b (i * sz + m)) h = (enc v)[m]? := by
  cases o with
  | nil => simp at hv
  | row b l h1 h2 h3 =>
    have hi := (List.getElem?_eq_some_iff.1 hv).1
    refine ⟨b, h1, h2, fun q => by simp [iaS, asNat, hi], ?_, fun m hm => by rw [load_ptr h3, part_none, get_flatMap he l i m v hv hm]⟩
    rw [load_ptr h3]
    have hp := part_flatMap he l i v hv
    simp only [partS]
    have hlen : i * sz + sz ≤ (l.flatMap enc).length := by
      rw [len_flatMap he]
      have : (i + 1) * sz ≤ l.length * sz := Nat.mul_le_mul_right sz hi
      rw [Nat.succ_mul] at this; exact this
    rw [if_pos (by simpa using hlen), hp]
section
variable {α : Type} {enc : α → List AV} {sz k : Nat}
/-- `x` is a row that can be read: `l`. -/
structure Row (enc : α → List AV) (sz : Nat) (h : Heap) (x : AV) (l : List α) : Prop where
  len : lenA x = some l.length
  cells : firstS sz l.length x h = some (l.flatMap enc)
theorem flat_take (he : ∀ x, (enc x).length = sz) : ∀ (l : List α) (i : Nat), (l.flatMap enc).take (i * sz) = (l.take i).flatMap enc
  | [], i => by simp
  | x :: l, 0 => by simp
  | x :: l, i + 1 => by
    rw [List.flatMap_cons, List.take_succ_cons, List.flatMap_cons, List.take_append, he, Nat.succ_mul, Nat.add_sub_cancel, flat_take he l i, List.take_of_length_le (by rw [he]; omega)]
theorem flat_drop (he : ∀ x, (enc x).length = sz) : ∀ (l : List α) (i : Nat), (l.flatMap enc).drop (i * sz) = (l.drop i).flatMap enc
  | [], i => by simp
  | x :: l, 0 => by simp
  | x :: l, i + 1 => by
    rw [List.flatMap_cons, List.drop_succ_cons, List.drop_append, he, Nat.succ_mul, Nat.add_sub_cancel, flat_drop he l i, List.drop_of_length_le (by rw [he]; omega), List.nil_append]
theorem Own.takeRow {h : Heap} {a : AV} {l : List α} (o : Own enc sz k h a l) (he : ∀ x, (enc x).length = sz) {i : Nat} (hi : i ≤ l.length) :
    ∃ x, (∀ q : IntKind, sliceS (some sz) a none (some (.int q (i : Int))) = some x) ∧ ∀ h', HExt h h' → Row enc sz h' x (l.take i) := by
  cases o with
  | nil => simp at hi; subst hi; exact ⟨.nils, fun q => by simp [sliceS, lenA, boundS, asNat], fun h' _ => ⟨rfl, rfl⟩⟩
  | row b l h1 h2 h3 =>
    refine ⟨.slice b 0 i sz, fun q => by simp [sliceS, lenA, boundS, asNat, hi], fun h' hx => ⟨by simp [lenA, Nat.min_eq_left hi], ?_⟩⟩
    have h3' : h'.get b = some (.cells (l.flatMap enc)) := by rw [hx.get b h2]; exact h3
    have hl : (l.flatMap enc).length = l.length * sz := len_flatMap he l
    have hm : (l.take i).length = i := by rw [List.length_take, Nat.min_eq_left hi]
    simp only [firstS, h3', if_true, Nat.zero_add, hl, hm, List.drop_zero]
    rw [if_pos (Nat.mul_le_mul_right sz hi), flat_take he]
theorem Own.dropRow {h : Heap} {a : AV} {l : List α} (o : Own enc sz k h a l) (he : ∀ x, (enc x).length = sz) {i : Nat} (hi : i ≤ l.length) :
    ∃ x, (∀ q : IntKind, sliceS (some sz) a (some (.int q (i : Int))) none = some x) ∧ ∀ h', HExt h h' → Row enc sz h' x (l.drop i) := by
  cases o with
  | nil => simp at hi; subst hi; exact ⟨.nils, fun q => by simp [sliceS, lenA, boundS, asNat], fun h' _ => ⟨rfl, rfl⟩⟩
  | row b l h1 h2 h3 =>
    refine ⟨.slice b (i * sz) (l.length - i) sz, fun q => by simp [sliceS, lenA, boundS, asNat, hi], fun h' hx => ⟨by simp [lenA], ?_⟩⟩
    have h3' : h'.get b = some (.cells (l.flatMap enc)) := by rw [hx.get b h2]; exact h3
    have hl : (l.flatMap enc).length = l.length * sz := len_flatMap he l
    have hm : (l.drop i).length = l.length - i := by rw [List.length_drop]
    simp only [firstS, h3', if_true, hl, hm]
    have hle : i * sz + (l.length - i) * sz ≤ l.length * sz := by rw [← Nat.add_mul]; exact Nat.mul_le_mul_right sz (by omega)
    rw [if_pos hle, flat_drop he, List.take_of_length_le]
    rw [len_flatMap he, hm]; exact Nat.le_refl _
theorem one_flatMap (h1 : ∀ x, oneAll (enc x) = true) : ∀ l : List α, oneAll (l.flatMap enc) = true
  | [] => rfl
  | x :: l => by
    have app : ∀ a b : List AV, oneAll a = true → oneAll b = true → oneAll (a ++ b) = true := by
      intro a b ha hb
      induction a with
      | nil => exact hb
      | cons y a ih =>
        simp only [oneAll, List.cons_append, Bool.and_eq_true] at ha ⊢
        exact ⟨ha.1, ih ha.2⟩
    rw [List.flatMap_cons]
    exact app _ _ (h1 x) (one_flatMap h1 l)
def blkOf : AV → Option Nat
  | .slice b _ _ _ => some b
  | _ => none
/-- A row of ours grows by another row. -/
theorem Own.append {h : Heap} {a x : AV} {l m : List α} (o : Own enc sz k h a l) (he : ∀ x, (enc x).length = sz) (h1 : ∀ x, oneAll (enc x) = true) (r : Row enc sz h x m) (hk : k ≤ h.next) {bytes : Nat} (hroom : (l.length + m.length) * bytes ≤ maxBytes) :
    ∃ a' h', appendS sz bytes a x h = some (a', h') ∧ Own enc sz k h' a' (l ++ m) ∧ (∀ c, c < h.next → blkOf a ≠ some c → h'.get c = h.get c) ∧ h.next ≤ h'.next ∧ (m ≠ [] → ∀ c, blkOf a' = some c → h.next ≤ c) := by
  cases o with
  | nil =>
    rw [List.length_nil, Nat.zero_add] at hroom
    cases m with
    | nil =>
      refine ⟨.nils, h, ?_, .nil, fun _ _ _ => rfl, Nat.le_refl _, fun h => absurd rfl h⟩
      have hc := r.cells
      have hl := r.len
      simp only [List.length_nil] at hc hl
      simp [appendS, hl, hc]
    | cons y m =>
      refine ⟨.slice h.next 0 (y :: m).length sz, h.alloc (.cells ((y :: m).flatMap enc)), ?_, .row _ _ hk (Nat.lt_succ_self _) (get_alloc_same _ _), fun c hc _ => by rw [Heap.get_alloc, if_neg (by omega)], Nat.le_succ _, fun _ c hc => by cases hc; exact Nat.le_refl _⟩
      have h0 : ¬ (y :: m).length = 0 := by simp
      simp only [appendS, r.len, r.cells, if_neg h0]
      rw [if_pos (by rw [Bool.and_eq_true]; exact ⟨decide_eq_true hroom, one_flatMap h1 _⟩)]
  | row b l hb1 hb2 hb3 =>
    cases m with
    | nil =>
      rw [List.append_nil]
      refine ⟨.slice b 0 l.length sz, h, ?_, .row b l hb1 hb2 hb3, fun _ _ _ => rfl, Nat.le_refl _, fun h => absurd rfl h⟩
      have hc := r.cells
      have hl := r.len
      simp only [List.length_nil] at hc hl
      simp [appendS, hl, hc]
    | cons y m =>
      have h0 : ¬ (y :: m).length = 0 := by simp
      have hl : (l.flatMap enc).length = l.length * sz := len_flatMap he l
      refine ⟨.slice h.next 0 (l ++ y :: m).length sz, (h.set b .dead).alloc (.cells ((l ++ y :: m).flatMap enc)), ?_, .row _ _ hk ?_ ?_, fun c hc hne => ?_, ?_, fun _ c hc => by cases hc; exact Nat.le_refl _⟩
      · simp only [appendS, r.len, r.cells, if_neg h0, if_true, hb3, List.drop_zero, Nat.zero_add]
        rw [if_pos (by rw [Bool.and_eq_true, Bool.and_eq_true]; exact ⟨⟨decide_eq_true hroom, one_flatMap h1 _⟩, decide_eq_true (by omega)⟩), ← hl, List.take_length, List.flatMap_append, List.length_append]
      · rw [Heap.next_alloc, Heap.next_set]; omega
      · have := get_alloc_same (h.set b .dead) (.cells ((l ++ y :: m).flatMap enc))
        rwa [Heap.next_set] at this
      · rw [Heap.get_alloc, Heap.next_set, if_neg (by omega), Heap.get_set, if_neg (fun e => hne (by rw [e]; rfl))]
      · rw [Heap.next_alloc, Heap.next_set]; omega
end
/-! ### Names in order -/
theorem one_encS (s : Str) : oneAll (encS s) = true := rfl
def strLt (a b : Str) : Bool := Op.bytesLess a b
def risingL : List Str → Str → List Str
  | [], s => [s]
  | x :: l, s => if strLt x s = true then x :: risingL l s else if x = s then x :: l else s :: x :: l
theorem lss_str (a b : Str) : binS .lss (.str a) (.str b) = some (.bool (strLt a b)) := by simp [binS, strLt]
theorem str_beq (a b : Str) : (a == b) = decide (a = b) := by
  by_cases h : a = b
  · subst h; simp
  · rw [decide_eq_false h]; simp [h]
theorem rising_drop {l : List Str} {i : Nat} {x s : Str} (hx : l[i]? = some x) : l.take i ++ risingL (l.drop i) s = if strLt x s = true then l.take (i + 1) ++ risingL (l.drop (i + 1)) s else if x = s then l else l.take i ++ (s :: l.drop i) := by
  have h1 := (List.getElem?_eq_some_iff.1 hx).1
  have hd : l.drop i = x :: l.drop (i + 1) := by
    rw [List.drop_eq_getElem_cons h1]
    rw [List.getElem?_eq_getElem h1] at hx
    cases hx; rfl
  rw [hd, risingL]
  split
  · rw [List.take_add_one, hx]; simp
  · split
    · rw [← hd, List.take_append_drop]
    · rfl
theorem Own.ge {α : Type} {enc : α → List AV} {sz k : Nat} {h : Heap} {a : AV} {l : List α} (o : Own enc sz k h a l) {c : Nat} (hc : blkOf a = some c) : k ≤ c := by
  cases o with
  | nil => cases hc
  | row b l h1 _ _ => cases hc; exact h1
theorem Own.weak {α : Type} {enc : α → List AV} {sz k j : Nat} {h : Heap} {a : AV} {l : List α} (o : Own enc sz k h a l) (hj : j ≤ k) : Own enc sz j h a l := by
  cases o with
  | nil => exact .nil
  | row b l h1 h2 h3 => exact .row b l (Nat.le_trans hj h1) h2 h3
theorem ref07_rising {k : Nat} {h : Heap} {a : AV} {l : List Str} {s : Str} (o : Own encS 1 k h a l) (hk : k ≤ h.next) (hl : l.length ≤ 100000) {K : Out → Heap → Bool}
    (hK : ∀ a' h', HExt h h' → Own encS 1 k h' a' (risingL l s) → K (.ret a') h' = true) : Sem Tryz.prog 31 [a, .str s] h K := by
  have hbig : l.length ≤ big := by unfold big; omega
  refine F.ref07_rising_sem ?_
  -- the three rows put together
  have app : ∀ i, i ≤ l.length → risingL l s = l.take i ++ (s :: l.drop i) → ∀ e : Env, e 0 = a → e 1 = .str s → e 5 = .int .i64 (i : Int) →
      (bindO (rowS [] [] []) fun c11 =>
        bindO (sliceS (some 1) (e 0) none (some (e 5))) fun x12 =>
        bindO (rowS [(.str [])] [(0, 1)] [(e 1)]) fun c13 =>
        bindO (sliceS (some 1) (e 0) (some (e 5)) none) fun x14 =>
        bindO2 (appendS 1 16 (.slice (Heap.next h) 0 0 1) x12 (Heap.alloc (Heap.alloc h (.cells c11)) (.cells c13))) fun x15 h16 =>
        bindO2 (appendS 1 16 x15 (.slice (Heap.next (Heap.alloc h (.cells c11))) 0 1 1) h16) fun x17 h18 =>
        bindO2 (appendS 1 16 x17 x14 h18) fun x19 h20 =>
        K (.ret x19) h20) = true := by
    intro i hi he e e0 e1 e5
    obtain ⟨x12, hx12, r12⟩ := o.takeRow len_encS hi
    obtain ⟨x14, hx14, r14⟩ := o.dropRow len_encS hi
    rw [show rowS [] [] [] = some [] from rfl]
    simp only [bindO_some, e0, e1, e5, hx12, hx14]
    rw [show rowS [(.str [])] [(0, 1)] [.str s] = some [.str s] from rfl]
    simp only [bindO_some]
    have hx1 : HExt h (Heap.alloc (Heap.alloc h (.cells [])) (.cells [.str s])) := (HExt.alloc _ _).trans (HExt.alloc _ _)
    have g0 : (Heap.alloc (Heap.alloc h (.cells [])) (.cells [.str s])).get h.next = some (.cells []) := by
      rw [Heap.get_alloc, Heap.next_alloc, if_neg (by omega)]; exact get_alloc_same _ _
    have g1 : (Heap.alloc (Heap.alloc h (.cells [])) (.cells [.str s])).get (h.next + 1) = some (.cells [.str s]) := get_alloc_same _ _
    have gn : (Heap.alloc (Heap.alloc h (.cells [])) (.cells [.str s])).next = h.next + 2 := rfl
    rw [Heap.next_alloc]
    generalize (Heap.alloc (Heap.alloc h (.cells [])) (.cells [.str s])) = H at hx1 g0 g1 gn ⊢
    have o0 : Own encS 1 h.next H (.slice h.next 0 0 1) ([] : List Str) := .row h.next [] (Nat.le_refl _) (by omega) g0
    have hm : maxBytes = 140737488355328 := rfl
    have lt : (l.take i).length = i := by rw [List.length_take, Nat.min_eq_left hi]
    have ld : (l.drop i).length = l.length - i := List.length_drop
    obtain ⟨a1, h1, p1, o1, f1, n1, _⟩ := o0.append len_encS one_encS (r12 H hx1) (by omega) (bytes := 16) (by rw [hm, lt, List.length_nil]; omega)
    simp only [p1, bindO2_some]
    have q1 : h1.get (h.next + 1) = some (.cells [.str s]) := by rw [f1 _ (by omega) (by simp [blkOf])]; exact g1
    have rs : Row encS 1 h1 (.slice (h.next + 1) 0 1 1) [s] := ⟨rfl, by simp [firstS, q1, encS]⟩
    have e1x : HExt h h1 := ⟨by have := hx1.next; omega, fun c hc => by rw [f1 c (by omega) (by simp [blkOf]; omega)]; exact hx1.get c hc⟩
    obtain ⟨a2, h2, p2, o2, f2, n2, _⟩ := o1.append len_encS one_encS rs (by omega) (bytes := 16) (by rw [hm, List.nil_append, lt]; simp; omega)
    simp only [p2, bindO2_some]
    have e2x : HExt h h2 := ⟨by have := e1x.next; omega, fun c hc => by rw [f2 c (by have := e1x.next; omega) (fun hb => by have := o1.ge hb; omega)]; exact e1x.get c hc⟩
    obtain ⟨a3, h3, p3, o3, f3, n3, _⟩ := o2.append len_encS one_encS (r14 h2 e2x) (by have := e2x.next; omega) (bytes := 16) (by rw [hm, ld, List.nil_append, List.length_append, lt]; simp; omega)
    simp only [p3, bindO2_some]
    have e3x : HExt h h3 := ⟨by have := e2x.next; omega, fun c hc => by rw [f3 c (by have := e2x.next; omega) (fun hb => by have := o2.ge hb; omega)]; exact e2x.get c hc⟩
    refine hK a3 h3 e3x ?_
    rw [he]
    have := o3.weak hk
    rw [List.nil_append, List.append_assoc] at this
    exact this
  have get : ∀ (i : Nat) (x : Str), l[i]? = some x → ∃ b, (∀ q : IntKind, iaS 1 a (.int q (i : Int)) = some (.ptr b (i * 1))) ∧ loadS none (.ptr b (i * 1)) h = some (.str x) := fun i x hx => by
    obtain ⟨b, _, _, h3, _, h5⟩ := o.get len_encS hx
    exact ⟨b, h3, by have := h5 0 (by omega); rw [Nat.add_zero] at this; rw [this]; rfl⟩
  refine loopB_range 0 l.length (Nat.zero_le _) (fun i e h' => h' = h ∧ e 0 = a ∧ e 1 = .str s ∧ e 5 = .int .i64 (i : Int) ∧ risingL l s = l.take i ++ risingL (l.drop i) s) ⟨rfl, rfl, rfl, rfl, rfl⟩ ?_ ?_
  · rintro i e h' _ hi ⟨rfl, e0, e1, e5, ht⟩ K' hn hx hr hp
    have hv : l[i]? = some l[i] := List.getElem?_eq_getElem hi
    generalize l[i] = x at hv
    obtain ⟨b, g1, g2⟩ := get i x hv
    rw [rising_drop hv] at ht
    rw [F.ref07_rising.L0_eq]
    simp only [e0, e1, e5, o.len, bindO_some, bindO2_some, outK_ret, condB_bool, cond_t, cond_f, fa_ptr, fa_iptr, part_none, Nat.zero_add, Nat.add_zero, Nat.reduceAdd, List.getElem?_cons_zero, List.getElem?_cons_succ, len_str, lenS_enc, lss_int, leq_int, gtr_int, geq_int, eq_int, ne_int, eq_str, ne_str, eq_bool, ne_bool, not_bool, extract_0, extract_1, extract_2, setV_eq, Nat.reduceEqDiff, reduceIte, lt_true hi, g1, g2, lss_str]
    cases hlt : strLt x s with
    | true =>
      rw [if_pos hlt] at ht
      simp only [cond_t, succ_i64 hi hbig, bindO_some]
      exact hn _ _ ⟨rfl, e0, e1, rfl, ht⟩
    | false =>
      rw [if_neg (by rw [hlt]; decide)] at ht
      simp only [cond_f]
      rw [hx, F.ref07_rising.L0_x0_eq]
      simp only [bindO_some, bindO2_some, outK_ret, condB_bool, cond_t, cond_f, fa_ptr, fa_iptr, part_none, Nat.zero_add, Nat.add_zero, Nat.reduceAdd, List.getElem?_cons_zero, List.getElem?_cons_succ, len_str, lenS_enc, lss_int, leq_int, gtr_int, geq_int, eq_int, ne_int, eq_str, ne_str, eq_bool, ne_bool, not_bool, extract_0, extract_1, extract_2, setV_eq, Nat.reduceEqDiff, reduceIte, e0, e1, e5, o.len, lt_true hi, g1, g2, cond_t, str_beq]
      by_cases hxs : x = s
      · rw [if_pos hxs] at ht
        simp only [decide_eq_true hxs, cond_t]
        exact hK _ _ (HExt.refl _) (by rw [ht]; exact o)
      · rw [if_neg hxs] at ht
        simp only [decide_eq_false hxs, cond_f]
        have := app i (Nat.le_of_lt hi) ht e e0 e1 e5
        simp only [e0, e1, e5] at this
        exact this
  · rintro e h' ⟨rfl, e0, e1, e5, ht⟩ K' hx
    rw [F.ref07_rising.L0_eq]
    simp only [e0, e5, o.len, bindO_some, bindO2_some, outK_ret, condB_bool, cond_t, cond_f, fa_ptr, fa_iptr, part_none, Nat.zero_add, Nat.add_zero, Nat.reduceAdd, List.getElem?_cons_zero, List.getElem?_cons_succ, len_str, lenS_enc, lss_int, leq_int, gtr_int, geq_int, eq_int, ne_int, eq_str, ne_str, eq_bool, ne_bool, not_bool, extract_0, extract_1, extract_2, setV_eq, Nat.reduceEqDiff, reduceIte, lt_false]
    rw [hx, F.ref07_rising.L0_x0_eq]
    simp only [bindO_some, bindO2_some, outK_ret, condB_bool, cond_t, cond_f, fa_ptr, fa_iptr, part_none, Nat.zero_add, Nat.add_zero, Nat.reduceAdd, List.getElem?_cons_zero, List.getElem?_cons_succ, len_str, lenS_enc, lss_int, leq_int, gtr_int, geq_int, eq_int, ne_int, eq_str, ne_str, eq_bool, ne_bool, not_bool, extract_0, extract_1, extract_2, setV_eq, Nat.reduceEqDiff, reduceIte, e0, e1, e5, o.len, lt_false, cond_f]
    have := app l.length (Nat.le_refl _) (by rw [ht, List.drop_of_length_le (Nat.le_refl _)]; rfl) e e0 e1 e5
    simp only [e0, e1, e5] at this
    exact this
/-- The entries were born at different times, ahead of now. -/
structure Births (es : List Entry) (ck : Nat) : Prop where
  nodup : (es.map (·.2.2)).Nodup
  lt : ∀ e ∈ es, e.2.2 < ck
theorem Births.nil (ck : Nat) : Births [] ck := ⟨List.nodup_nil, fun _ h => by cases h⟩
theorem Births.push {es : List Entry} {ck : Nat} (b : Births es ck) (k v : AV) : Births (es ++ [(k, v, ck)]) (ck + 1) := by
  refine ⟨?_, fun e he => ?_⟩
  · rw [List.map_append, List.nodup_append]
    refine ⟨b.nodup, by simp, fun a ha c hc => ?_⟩
    rw [List.mem_map] at ha
    obtain ⟨e, he, rfl⟩ := ha
    have := b.lt e he
    simp at hc
    omega
  · rw [List.mem_append] at he
    rcases he with he | he
    · have := b.lt e he; omega
    · simp at he; rw [he]; exact Nat.lt_succ_self _
theorem born_set (es : List Entry) (i : Nat) (v : AV) : (setEntry es i v).map (·.2.2) = es.map (·.2.2) := by
  unfold setEntry
  cases h : es[i]? with
  | none => rfl
  | some e =>
    simp only [List.map_set]
    apply List.ext_getElem?
    intro j
    by_cases hj : i = j
    · subst hj
      have hi := (List.getElem?_eq_some_iff.1 h).1
      rw [List.getElem?_set_self (by simpa using hi), List.getElem?_map, h]; rfl
    · rw [List.getElem?_set_ne hj]
theorem Births.set {es : List Entry} {ck : Nat} (b : Births es ck) (i : Nat) (v : AV) : Births (setEntry es i v) ck := by
  refine ⟨by rw [born_set]; exact b.nodup, fun e he => ?_⟩
  have : e.2.2 ∈ (setEntry es i v).map (·.2.2) := List.mem_map_of_mem he
  rw [born_set, List.mem_map] at this
  obtain ⟨e', he', h⟩ := this
  rw [← h]; exact b.lt e' he'
theorem update_births {d : TypeDesc} {b : Nat} {h h' : Heap} {es es' : List Entry} {ck ck' : Nat} {k v : AV} (hb : h.get b = some (.map es ck)) (hB : Births es ck) (hu : mapUpdateS d (.map b) k v h = some h') (hg : h'.get b = some (.map es' ck')) : Births es' ck' := by
  simp only [mapUpdateS, hb] at hu
  split at hu
  · cases hu
    rw [Heap.get_set, if_pos rfl] at hg
    cases hg
    exact hB.set _ _
  · cases hu
    rw [Heap.get_set, if_pos rfl] at hg
    cases hg
    exact hB.push k v
  · cases hu
/-! ### Maps from strings to values -/
abbrev MapA := List (Str × AV)
def MapA.find (m : MapA) (k : Str) : Option AV := (List.find? (fun p => k == p.1) m).map (·.2)
def MapA.upd : MapA → Str → AV → MapA
  | [], k, v => [(k, v)]
  | p :: m, k, v => if k == p.1 then (p.1, v) :: m else p :: MapA.upd m k v
def MapE : List Entry → MapA → Prop
  | [], [] => True
  | e :: es, p :: m => e.1 = .str p.1 ∧ e.2.1 = p.2 ∧ MapE es m
  | _, _ => False
theorem MapE.findA {k : Str} : ∀ {es : List Entry} {m : MapA} (i : Nat), MapE es m → ∃ r, findA .string (.str k) es i = some r ∧ match r with
    | none => m.find k = none
    | some (j, v) => ∃ n, j = i + n ∧ m.find k = some v ∧ ∀ w, MapE (setEntry es n w) (m.upd k w)
  | [], [], i, _ => ⟨none, rfl, rfl⟩
  | e :: es, p :: m, i, ⟨h1, h2, h3⟩ => by
    obtain ⟨ek, ev, en⟩ := e
    simp only at h1 h2
    subst h1; subst h2
    by_cases hk : k = p.1
    · subst hk
      refine ⟨some (i, p.2), by simp [Go.AM.findA, keyEq], 0, rfl, by simp [MapA.find], fun w => ?_⟩
      simp [setEntry, MapE, MapA.upd, h3]
    · obtain ⟨r, hr, hm⟩ := MapE.findA (k := k) (i + 1) h3
      have hkb : (k == p.1) = false := by simpa using hk
      refine ⟨r, by simp only [Go.AM.findA, keyEq, hkb, hr], ?_⟩
      cases r with
      | none => simpa [MapA.find, hk] using hm
      | some jv =>
        obtain ⟨n, a, b, e⟩ := hm
        refine ⟨n + 1, by omega, by simpa [MapA.find, hk] using b, fun w => ?_⟩
        have := e w
        simp only [setEntry, List.getElem?_cons_succ, MapA.upd, hkb] at this ⊢
        split at this <;> simp_all [MapE]
theorem MapE.append {es : List Entry} {m : MapA} (h : MapE es m) {k : Str} (hk : m.find k = none) (v : AV) (n : Nat) : MapE (es ++ [(.str k, v, n)]) (m.upd k v) := by
  induction es generalizing m with
  | nil => cases m with
    | nil => simp [MapE, MapA.upd]
    | cons p m => exact h.elim
  | cons e es ih => cases m with
    | nil => exact h.elim
    | cons p m =>
      obtain ⟨h1, h2, h3⟩ := h
      have hne : k ≠ p.1 := fun e => by subst e; simp [MapA.find] at hk
      have hk' : MapA.find m k = none := by simpa [MapA.find, hne] using hk
      have := ih h3 hk'
      simp only [List.cons_append, MapA.upd]
      rw [if_neg (by simpa using hne)]
      exact ⟨h1, h2, this⟩
/-! ### Lists of names -/
theorem own_name {k : Nat} {h : Heap} {a : AV} {l : List Str} (o : Own encS 1 k h a l) {i : Nat} {x : Str} (hx : l[i]? = some x) :
    ∃ b, b < h.next ∧ (∀ q : IntKind, iaS 1 a (.int q (i : Int)) = some (.ptr b (i * 1))) ∧ loadS none (.ptr b (i * 1)) h = some (.str x) := by
  obtain ⟨b, _, h2, h3, _, h5⟩ := o.get len_encS hx
  exact ⟨b, h2, h3, by have := h5 0 (by omega); rw [Nat.add_zero] at this; rw [this]; rfl⟩
theorem any_take {α : Type} {p : α → Bool} {l : List α} {i : Nat} {a : α} (ha : l[i]? = some a) (ht : (l.take i).any p = false) (hp : p a = false) : (l.take (i + 1)).any p = false := by
  rw [List.take_add_one, ha]; simp [ht, hp]
theorem ref02_Among {k : Nat} {h : Heap} {a : AV} {l : List Str} {s : Str} (o : Own encS 1 k h a l) (hl : l.length ≤ big) {K : Out → Heap → Bool} (hK : K (.ret (.bool (l.any fun x => x == s))) h = true) : Sem Tryz.prog 109 [a, .str s] h K := by
  refine F.ref02_Among_sem ?_
  refine loopB_range 0 l.length (Nat.zero_le _) (fun i e h' => h' = h ∧ e 0 = a ∧ e 1 = .str s ∧ e 5 = .int .i64 (i : Int) ∧ ((l.take i).any fun x => x == s) = false) ⟨rfl, rfl, rfl, rfl, rfl⟩ ?_ ?_
  · rintro i e h' _ hi ⟨rfl, e0, e1, e5, ht⟩ K' hn hx hr hp
    have hv : l[i]? = some l[i] := List.getElem?_eq_getElem hi
    generalize l[i] = x at hv
    obtain ⟨b, _, g1, g2⟩ := own_name o hv
    rw [F.ref02_Among.L0_eq]
    simp only [e0, e1, e5, o.len, bindO_some, bindO2_some, outK_ret, condB_bool, cond_t, cond_f, fa_ptr, fa_iptr, part_none, Nat.zero_add, Nat.add_zero, Nat.reduceAdd, List.getElem?_cons_zero, List.getElem?_cons_succ, len_str, lenS_enc, lss_int, leq_int, gtr_int, geq_int, eq_int, ne_int, eq_str, ne_str, eq_bool, ne_bool, not_bool, extract_0, extract_1, extract_2, setV_eq, Nat.reduceEqDiff, reduceIte, lt_true hi, g1, g2]
    cases hq : x == s with
    | true =>
      simp only [cond_t]
      rw [hr, F.ref02_Among.L0_r_eq]
      simp only [setV_eq, Nat.reduceEqDiff, reduceIte]
      rw [List.any_eq_true.2 ⟨x, List.mem_of_getElem? hv, hq⟩] at hK
      exact hK
    | false =>
      simp only [cond_f, succ_i64 hi hl, bindO_some]
      exact hn _ _ ⟨rfl, e0, e1, rfl, any_take hv ht hq⟩
  · rintro e h' ⟨rfl, e0, e1, e5, ht⟩ K' hx
    rw [F.ref02_Among.L0_eq]
    simp only [e0, e5, o.len, bindO_some, bindO2_some, outK_ret, condB_bool, cond_t, cond_f, fa_ptr, fa_iptr, part_none, Nat.zero_add, Nat.add_zero, Nat.reduceAdd, List.getElem?_cons_zero, List.getElem?_cons_succ, len_str, lenS_enc, lss_int, leq_int, gtr_int, geq_int, eq_int, ne_int, eq_str, ne_str, eq_bool, ne_bool, not_bool, extract_0, extract_1, extract_2, setV_eq, Nat.reduceEqDiff, reduceIte, lt_false]
    rw [hx, F.ref02_Among.L0_x0_eq]
    rw [List.take_of_length_le (Nat.le_refl _)] at ht
    rw [ht] at hK; exact hK
theorem Own.push {α : Type} {enc : α → List AV} {sz k : Nat} {h : Heap} {a : AV} {l : List α} (o : Own enc sz k h a l) (he : ∀ x, (enc x).length = sz) (h1 : ∀ x, oneAll (enc x) = true) (hk : k ≤ h.next) {bytes : Nat} (hroom : (l.length + 1) * bytes ≤ maxBytes) (v : α) :
    ∃ a' h', appendS sz bytes a (.slice h.next 0 1 sz) (h.alloc (.cells (enc v))) = some (a', h') ∧ Own enc sz k h' a' (l ++ [v]) ∧ (∀ c, c < h.next → blkOf a ≠ some c → h'.get c = h.get c) ∧ h.next ≤ h'.next ∧ (∀ h0, HExt h0 h → h0.next ≤ k → HExt h0 h') ∧ ∀ c, blkOf a' = some c → h.next ≤ c := by
  have g := get_alloc_same h (.cells (enc v))
  have hn : (h.alloc (.cells (enc v))).next = h.next + 1 := Heap.next_alloc h _
  have hx : HExt h (h.alloc (.cells (enc v))) := HExt.alloc _ _
  have r : Row enc sz (h.alloc (.cells (enc v))) (.slice h.next 0 1 sz) [v] := by
    refine ⟨rfl, ?_⟩
    have hl : (enc v).length = sz := he v
    simp only [firstS, g, if_true, List.length_singleton, Nat.one_mul, Nat.zero_add, hl, Nat.le_refl, List.drop_zero]
    rw [← hl, List.take_length]; simp
  obtain ⟨a', h', p, o', f, n, hf⟩ := (o.ext hx).append he h1 r (by omega) (bytes := bytes) (by simpa using hroom)
  have f' : ∀ c, c < h.next → blkOf a ≠ some c → h'.get c = h.get c := fun c hc hb => by rw [f c (by omega) hb]; exact hx.get c hc
  refine ⟨a', h', p, o', f', by omega, fun h0 e0 hk0 => ⟨by have := e0.next; omega, fun c hc => ?_⟩, fun c hc => by have := hf (by simp) c hc; omega⟩
  rw [f' c (by have := e0.next; omega) (fun hb => by have := o.ge hb; omega)]
  exact e0.get c hc
def encZ (y : Str × Int) : List AV := [.str y.1, .int .i64 y.2]
theorem len_encZ (y : Str × Int) : (encZ y).length = 2 := rfl
theorem agg_Z (s : Str) (n : Int) : aggS [.str [], .int .i64 0] [(0, 1), (1, 1)] [.str s, .int .i64 n] = some (.agg (encZ (s, n))) := rfl
theorem row_Z (y : Str × Int) : rowS [.str [], .int .i64 0] [(0, 2)] [.agg (encZ y)] = some (encZ y) := rfl
theorem Own.frzx {α : Type} {enc : α → List AV} {sz k : Nat} {h : Heap} {a : AV} {l : List α} (o : Own enc sz k h a l) (hf : ∀ v, ∀ x ∈ enc v, Fz true h x x) : ∃ x : Sl α, x.l = l ∧ Fz true h a (encSl enc sz x) := by
  cases o with
  | nil => exact ⟨none, rfl, .of_pure rfl⟩
  | row b l h1 h2 h3 =>
    refine ⟨some l, rfl, .slice b 0 l.length sz _ _ h3 rfl fun i x y hx hy => ?_⟩
    rw [hx] at hy
    cases hy
    have := List.mem_of_getElem? hx
    rw [List.mem_flatMap] at this
    obtain ⟨v, hv, hxv⟩ := this
    exact hf v x hxv
theorem Own.setLow {α : Type} {enc : α → List AV} {sz k : Nat} {h : Heap} {a : AV} {l : List α} (o : Own enc sz k h a l) {d : Nat} (hd : d < k) (x : AObj) : Own enc sz k (h.set d x) a l := by
  cases o with
  | nil => exact .nil
  | row b _ w1 w2 w3 => exact .row b l w1 (by rw [Heap.next_set]; exact w2) (by rw [Heap.get_set, if_neg (by omega)]; exact w3)
/-! ### What stands in the map -/
theorem find_updI (m : MapL) (k j : Str) (v : Int) : (m.upd k v).find j = if j = k then some v else m.find j := by
  induction m with
  | nil =>
    simp only [MapL.upd, MapL.find, List.find?_cons, List.find?_nil]
    by_cases h : j = k
    · subst h; simp
    · have : (j == k) = false := by simpa using h
      rw [this, if_neg h]
  | cons p m ih =>
    simp only [MapL.upd]
    by_cases hk : k = p.1
    · rw [if_pos (by simpa using hk)]
      subst hk
      simp only [MapL.find, List.find?_cons]
      by_cases h : j = p.1
      · subst h; simp
      · have : (j == p.1) = false := by simpa using h
        rw [this, if_neg h]
    · rw [if_neg (by simpa using hk)]
      simp only [MapL.find, List.find?_cons] at ih ⊢
      by_cases h : j = p.1
      · subst h
        simp only [beq_self_eq_true, Option.map_some]
        rw [if_neg (Ne.symm hk)]
      · have : (j == p.1) = false := by simpa using h
        rw [this]
        exact ih
theorem keys_upd (m : MapL) (k : Str) (v : Int) : (m.upd k v).map (·.1) = if k ∈ m.map (·.1) then m.map (·.1) else m.map (·.1) ++ [k] := by
  induction m with
  | nil => simp [MapL.upd]
  | cons p m ih =>
    simp only [MapL.upd]
    by_cases hk : k = p.1
    · rw [if_pos (by simpa using hk)]
      subst hk; simp
    · rw [if_neg (by simpa using hk), List.map_cons, ih]
      by_cases hm : k ∈ m.map (·.1)
      · rw [if_pos hm, if_pos (by rw [List.map_cons]; exact List.mem_cons_of_mem _ hm)]; rfl
      · rw [if_neg hm, if_neg (by rw [List.map_cons, List.mem_cons]; exact fun h => h.elim hk hm)]; rfl
theorem nodup_upd {m : MapL} (hm : (m.map (·.1)).Nodup) (k : Str) (v : Int) : ((m.upd k v).map (·.1)).Nodup := by
  rw [keys_upd]
  split
  · exact hm
  · rename_i h
    rw [List.nodup_append]
    exact ⟨hm, by simp, fun a ha b hb => by simp at hb; subst hb; exact fun e => h (e ▸ ha)⟩
theorem find_memI {m : MapL} {k : Str} {v : Int} (h : m.find k = some v) : (k, v) ∈ m := by
  unfold MapL.find at h
  obtain ⟨p, hp, rfl⟩ := Option.map_eq_some_iff.1 h
  have h1 := List.mem_of_find?_eq_some hp
  have h2 := List.find?_some hp
  simp only [beq_iff_eq] at h2
  subst h2; exact h1
theorem MapI.mem : ∀ {es : List Entry} {m : MapL}, MapI es m → ∀ e ∈ es, ∃ p ∈ m, e.1 = .str p.1 ∧ e.2.1 = .int .i64 p.2
  | [], _, _, e, he => by cases he
  | e0 :: es, [], h, _, _ => h.elim
  | e0 :: es, p :: m, ⟨h1, h2, h3⟩, e, he => by
    rcases List.mem_cons.1 he with rfl | he
    · exact ⟨p, List.mem_cons_self, h1, h2⟩
    · obtain ⟨q, hq, r⟩ := MapI.mem h3 e he
      exact ⟨q, List.mem_cons_of_mem _ hq, r⟩
/-! ### The reference's symbols are the inputs' names with their places -/
theorem mem_rising {x s : Str} : ∀ {l : List Str}, x ∈ risingL l s ↔ x ∈ l ∨ x = s
  | [] => by simp [risingL]
  | a :: l => by
    rw [risingL]
    split
    · rw [List.mem_cons, mem_rising (l := l), List.mem_cons, or_assoc]
    · split
      · rename_i h; subst h
        rw [List.mem_cons]
        exact ⟨fun h => .inl h, fun h => h.elim id .inl⟩
      · rw [List.mem_cons]; exact Or.comm
theorem Own.lt {α : Type} {enc : α → List AV} {sz k : Nat} {h : Heap} {a : AV} {l : List α} (o : Own enc sz k h a l) {c : Nat} (hc : blkOf a = some c) : c < h.next := by
  cases o with
  | nil => cases hc
  | row b l h1 h2 h3 => cases hc; exact h2
/-! ### Equal -/
theorem list_drop_eq {α : Type} [BEq α] [LawfulBEq α] {l m : List α} {i : Nat} {a b : α} (ha : l[i]? = some a) (hb : m[i]? = some b) : (l.drop i == m.drop i) = ((a == b) && (l.drop (i + 1) == m.drop (i + 1))) := by
  have h1 := (List.getElem?_eq_some_iff.1 ha).1
  have h2 := (List.getElem?_eq_some_iff.1 hb).1
  rw [List.drop_eq_getElem_cons h1, List.drop_eq_getElem_cons h2]
  rw [List.getElem?_eq_getElem h1] at ha
  rw [List.getElem?_eq_getElem h2] at hb
  cases ha; cases hb; rfl
theorem ref01_Equal {x y : Sl Int} (hx : x.l.length ≤ big) {h : Heap} {K : Out → Heap → Bool} (hK : K (.ret (.bool (x.l == y.l))) h = true) : Sem Tryz.prog 12 [encSl encI 1 x, encSl encI 1 y] h K := by
  refine F.ref01_Equal_sem ?_
  simp only [bindO_some, bindO2_some, outK_ret, condB_bool, cond_t, cond_f, fa_ptr, fa_iptr, part_none, Nat.zero_add, Nat.add_zero, Nat.reduceAdd, List.getElem?_cons_zero, List.getElem?_cons_succ, len_str, lenS_enc, lss_int, leq_int, gtr_int, geq_int, eq_int, ne_int, eq_str, ne_str, eq_bool, ne_bool, not_bool, extract_0, extract_1, extract_2, setV_eq, Nat.reduceEqDiff, reduceIte, int_beq]
  by_cases hl : x.l.length = y.l.length
  · simp only [decide_eq_true (by omega : (x.l.length : Int) = (y.l.length : Int)), Bool.not_true, cond_f]
    refine loopB_range 0 x.l.length (Nat.zero_le _) (fun i e h' => h' = h ∧ e 0 = encSl encI 1 x ∧ e 1 = encSl encI 1 y ∧ e 5 = .int .i64 (i : Int) ∧ (x.l == y.l) = (x.l.drop i == y.l.drop i)) ⟨rfl, rfl, rfl, rfl, rfl⟩ ?_ ?_
    · rintro i e h' _ hi ⟨rfl, e0, e1, e5, ht⟩ K' hn hx' hr hp
      have hi2 : i < y.l.length := by omega
      have hv : x.l[i]? = some x.l[i] := List.getElem?_eq_getElem hi
      have hw : y.l[i]? = some y.l[i] := List.getElem?_eq_getElem hi2
      rw [list_drop_eq hv hw] at ht
      generalize x.l[i] = a at hv ht
      generalize y.l[i] = b at hw ht
      rw [F.ref01_Equal.L0_eq]
      simp only [e0, e1, e5, bindO_some, bindO2_some, outK_ret, condB_bool, cond_t, cond_f, fa_ptr, fa_iptr, part_none, Nat.zero_add, Nat.add_zero, Nat.reduceAdd, List.getElem?_cons_zero, List.getElem?_cons_succ, len_str, lenS_enc, lss_int, leq_int, gtr_int, geq_int, eq_int, ne_int, eq_str, ne_str, eq_bool, ne_bool, not_bool, extract_0, extract_1, extract_2, setV_eq, Nat.reduceEqDiff, reduceIte, lt_true hi, iaS_enc x hi, iaS_enc y hi2, get_ints hv, get_ints hw]
      cases hq : a == b with
      | false =>
        simp only [Bool.not_false, cond_t]
        rw [hr, F.ref01_Equal.L0_r_eq]
        simp only [setV_eq, Nat.reduceEqDiff, reduceIte]
        rw [ht, hq] at hK; exact hK
      | true =>
        simp only [Bool.not_true, cond_f, succ_i64 hi hx, bindO_some]
        exact hn _ _ ⟨rfl, e0, e1, rfl, by rw [ht, hq, Bool.true_and]⟩
    · rintro e h' ⟨rfl, e0, e1, e5, ht⟩ K' hx'
      rw [F.ref01_Equal.L0_eq]
      simp only [e0, e5, bindO_some, bindO2_some, outK_ret, condB_bool, cond_t, cond_f, fa_ptr, fa_iptr, part_none, Nat.zero_add, Nat.add_zero, Nat.reduceAdd, List.getElem?_cons_zero, List.getElem?_cons_succ, len_str, lenS_enc, lss_int, leq_int, gtr_int, geq_int, eq_int, ne_int, eq_str, ne_str, eq_bool, ne_bool, not_bool, extract_0, extract_1, extract_2, setV_eq, Nat.reduceEqDiff, reduceIte, lt_false]
      rw [hx', F.ref01_Equal.L0_x0_eq]
      rw [List.drop_of_length_le (Nat.le_refl _), List.drop_of_length_le (by omega)] at ht
      rw [ht] at hK; exact hK
  · simp only [decide_eq_false (by omega : ¬ (x.l.length : Int) = (y.l.length : Int)), Bool.not_false, cond_t]
    have : (x.l == y.l) = false := by
      simp only [beq_eq_false_iff_ne]; exact fun e => hl (congrArg List.length e)
    rw [this] at hK; exact hK
/-! ### The order of names -/
theorem strLt_irr : ∀ a : Str, strLt a a = false
  | [] => rfl
  | x :: a => by
    have := strLt_irr a
    unfold strLt at this ⊢
    simp [Op.bytesLess, this]
theorem strLt_trans : ∀ {a b c : Str}, strLt a b = true → strLt b c = true → strLt a c = true
  | _, [], _, h, _ => by unfold strLt at h; simp [Op.bytesLess] at h
  | _, _ :: _, [], _, h => by unfold strLt at h; simp [Op.bytesLess] at h
  | [], _ :: _, _ :: _, _, _ => rfl
  | x :: a, y :: b, z :: c, h1, h2 => by
    have ih := @strLt_trans a b c
    unfold strLt at h1 h2 ih ⊢
    simp only [Op.bytesLess, Bool.or_eq_true, decide_eq_true_eq, Bool.and_eq_true, beq_iff_eq] at h1 h2 ⊢
    rcases h1 with h1 | ⟨rfl, h1⟩ <;> rcases h2 with h2 | ⟨rfl, h2⟩
    · exact .inl (UInt8.lt_trans h1 h2)
    · exact .inl h1
    · exact .inl h2
    · exact .inr ⟨rfl, ih h1 h2⟩
theorem strLt_tri : ∀ {a b : Str}, strLt a b = false → a ≠ b → strLt b a = true
  | [], [], _, h => absurd rfl h
  | [], _ :: _, h, _ => by unfold strLt at h; simp [Op.bytesLess] at h
  | _ :: _, [], _, _ => rfl
  | x :: a, y :: b, h1, h2 => by
    have ih := @strLt_tri a b
    unfold strLt at h1 ih ⊢
    simp only [Op.bytesLess, Bool.or_eq_false_iff, decide_eq_false_iff_not, Bool.and_eq_false_iff, beq_eq_false_iff_ne] at h1
    simp only [Op.bytesLess, Bool.or_eq_true, decide_eq_true_eq, Bool.and_eq_true, beq_iff_eq]
    obtain ⟨h3, h4⟩ := h1
    by_cases e : x = y
    · subst e
      rcases h4 with h4 | h4
      · exact absurd rfl h4
      · exact .inr ⟨rfl, ih h4 (fun h => h2 (by rw [h]))⟩
    · refine .inl ?_
      rcases UInt8.lt_or_lt_of_ne e with h | h
      · exact absurd h h3
      · exact h
theorem leB_lt : ∀ {a b : Str}, leB a b = true → a ≠ b → strLt a b = true := fun {a b} h hne => by
  cases hs : strLt a b with
  | true => rfl
  | false =>
    exfalso
    have key : ∀ {a b : Str}, strLt b a = true → b < a := by
      intro a
      induction a with
      | nil => intro b h; unfold strLt at h; cases b <;> simp [Op.bytesLess] at h
      | cons x a ih =>
        intro b h
        cases b with
        | nil => exact List.nil_lt_cons _ _
        | cons y b =>
          unfold strLt at h
          simp only [Op.bytesLess, Bool.or_eq_true, decide_eq_true_eq, Bool.and_eq_true, beq_iff_eq] at h
          rcases h with h | ⟨rfl, h⟩
          · exact List.cons_lt_cons_iff.2 (.inl h)
          · exact List.cons_lt_cons_iff.2 (.inr ⟨rfl, ih h⟩)
    have h1 := key (strLt_tri hs hne)
    have h2 : a ≤ b := of_decide_eq_true h
    exact absurd h1 (List.not_lt.2 h2)
def SortS (l : List Str) : Prop := l.Pairwise fun a b => strLt a b = true
theorem sorted_unique : ∀ {l m : List Str}, SortS l → SortS m → (∀ x, x ∈ l ↔ x ∈ m) → l = m
  | [], [], _, _, _ => rfl
  | [], y :: m, _, _, h => by have := (h y).2 List.mem_cons_self; cases this
  | x :: l, [], _, _, h => by have := (h x).1 List.mem_cons_self; cases this
  | x :: l, y :: m, hl, hm, h => by
    obtain ⟨l1, l2⟩ := List.pairwise_cons.1 hl
    obtain ⟨m1, m2⟩ := List.pairwise_cons.1 hm
    have hxy : x = y := by
      rcases List.mem_cons.1 ((h x).1 List.mem_cons_self) with e | e
      · exact e
      · rcases List.mem_cons.1 ((h y).2 List.mem_cons_self) with e' | e'
        · exact e'.symm
        · have := strLt_trans (m1 x e) (l1 y e')
          rw [strLt_irr] at this; cases this
    subst hxy
    rw [sorted_unique l2 m2 fun z => ?_]
    constructor
    · intro hz
      rcases List.mem_cons.1 ((h z).1 (List.mem_cons_of_mem _ hz)) with e | e
      · subst e; have := l1 z hz; rw [strLt_irr] at this; cases this
      · exact e
    · intro hz
      rcases List.mem_cons.1 ((h z).2 (List.mem_cons_of_mem _ hz)) with e | e
      · subst e; have := m1 z hz; rw [strLt_irr] at this; cases this
      · exact e
theorem rising_sorted : ∀ {l : List Str}, SortS l → ∀ s, SortS (risingL l s)
  | [], _, s => List.pairwise_singleton _ _
  | x :: l, h, s => by
    obtain ⟨h1, h2⟩ := List.pairwise_cons.1 h
    rw [risingL]
    split
    · rename_i hx
      refine List.pairwise_cons.2 ⟨fun y hy => ?_, rising_sorted h2 s⟩
      rcases mem_rising.1 hy with hy | rfl
      · exact h1 y hy
      · exact hx
    · rename_i hx
      split
      · exact h
      · rename_i hne
        have hsx : strLt s x = true := strLt_tri (by simpa using hx) hne
        refine List.pairwise_cons.2 ⟨fun y hy => ?_, h⟩
        rcases List.mem_cons.1 hy with rfl | hy
        · exact hsx
        · exact strLt_trans hsx (h1 y hy)
/-! ### The names of a map in order -/
theorem entsOk_of {ck : Nat} : ∀ {es : List Entry}, (∀ e ∈ es, (∃ s, e.1 = .str s ∧ s.length ≤ 1000) ∧ e.2.2 < ck) → (es.map keyBytes).Nodup → (es.map (·.2.2)).Nodup → entsOk ck es = true
  | [], _, _, _ => rfl
  | e :: es, h, h1, h2 => by
    rw [List.map_cons, List.nodup_cons] at h1 h2
    obtain ⟨⟨s, hs, hl⟩, hc⟩ := h e List.mem_cons_self
    have ih := entsOk_of (ck := ck) (es := es) (fun f hf => h f (List.mem_cons_of_mem _ hf)) h1.2 h2.2
    have hb : Nat.ble s.length 140737488351232 = true := Nat.ble_eq_true_of_le (by omega)
    have hc' : Nat.ble (e.2.2 + 1) ck = true := Nat.ble_eq_true_of_le hc
    have hall : es.all (fun f => !(keyBytes e == keyBytes f) && !(Nat.beq e.2.2 f.2.2)) = true := by
      rw [List.all_eq_true]
      intro f hf
      have q1 : (keyBytes e == keyBytes f) = false := by
        simp only [beq_eq_false_iff_ne]
        exact fun q => h1.1 (by rw [q]; exact List.mem_map_of_mem hf)
      have q2 : Nat.beq e.2.2 f.2.2 = false := by
        cases hq : Nat.beq e.2.2 f.2.2 with
        | false => rfl
        | true => exact absurd (by rw [Nat.eq_of_beq_eq_true hq]; exact List.mem_map_of_mem hf) h2.1
      rw [q1, q2]; rfl
    simp only [entsOk, hs, isStr, hb, hc', hall, ih, Bool.and_self]
theorem keys_map {M : Nat} {h : Heap} {K : Out → Heap → Bool} (hK : K (.ret (.func 68 [] [.ptr h.next 0])) (h.alloc (.box (.map M))) = true) : Sem Tryz.prog 27 [.map M] h K :=
  F0_sound.sem (f := 27) (g := keysP 68) rfl hK
theorem sorted_map {M b : Nat} {es : List Entry} {ck : Nat} {h : Heap} {K : Out → Heap → Bool} (hb : h.get b = some (.box (.map M))) (hM : h.get M = some (.map es ck)) (hok : entsOk ck es = true) (hlen : es.length ≤ 1000000)
    (hK : ∀ a h', HExt h h' → Own encS 1 h.next h' a (sortK (es.map keyBytes)) → K (.ret a) h' = true) : Sem Tryz.prog 26 [.func 68 [] [.ptr b 0]] h K := by
  refine F0_sound.sem (f := 26) (g := sortedP 68) rfl ?_
  have hl : Nat.ble (es.length * 16) 140737488355328 = true := Nat.ble_eq_true_of_le (by omega)
  have h2 : sortedP 68 [.func 68 [] [.ptr b 0]] h K = true := by
    simp only [sortedP, hb, hM, hok, hl, Bool.true_and]
    rw [show Nat.beq 68 68 = true from rfl, Bool.true_and]
    generalize sortK (es.map keyBytes) = ns at hK ⊢
    cases ns with
    | nil => exact hK _ _ (HExt.refl _) .nil
    | cons k ks =>
      have e : (k :: ks).map AV.str = (k :: ks).flatMap encS := by
        generalize (k :: ks) = l
        induction l with
        | nil => rfl
        | cons x l ih => rw [List.map_cons, List.flatMap_cons, ih]; rfl
      refine hK _ _ (HExt.alloc _ _) ?_
      rw [e]
      exact .row _ (k :: ks) (Nat.le_refl _) (Nat.lt_succ_self _) (get_alloc_same _ _)
  exact h2
theorem sortK_strict {l : List Str} (hn : l.Nodup) : SortS (sortK l) ∧ ∀ x, x ∈ sortK l ↔ x ∈ l := by
  refine ⟨?_, fun x => (sortK_perm l).mem_iff⟩
  have h1 := sortK_sorted l
  have h2 : (sortK l).Nodup := (sortK_perm l).nodup_iff.2 hn
  unfold SortS
  unfold List.Nodup at h2
  exact (h1.and h2).imp fun {a b} h => leB_lt h.1 h.2
theorem lookup_mapf {b : Nat} {h : Heap} {es : List Entry} {ck : Nat} {m : MapL} (hb : h.get b = some (.map es ck)) (hm : MapI es m) (k : Str) :
    lookupS .string (.int .i64 0) false (.map b) (.str k) h = some (.int .i64 ((m.find k).getD 0)) := by
  obtain ⟨r, hr, hm'⟩ := MapI.findA (k := k) 0 hm
  simp only [lookupS, entriesS, hb, findK, keyOk, if_true, hr]
  cases r with
  | none => simp at hm'; simp [hm']
  | some jv =>
    obtain ⟨n, q, _, b, c, _⟩ := hm'
    obtain ⟨j, v⟩ := jv
    simp only at c
    subst c
    simp [b]
theorem keys_of : ∀ {es : List Entry} {m : MapL}, MapI es m → es.map keyBytes = m.map (·.1)
  | [], [], _ => rfl
  | e :: es, p :: m, ⟨h1, _, h3⟩ => by
    obtain ⟨ek, ev⟩ := e
    simp only at h1
    subst h1
    rw [List.map_cons, List.map_cons, keys_of h3]; rfl
end
end Go.AM
/- Rules as data; what the program's atoms, conditions and variables answer. Conditions: none. -/
namespace Go.AM
open Go Go.Proofs
set_option linter.unusedVariables false
set_option linter.unusedSimpArgs false
noncomputable section

theorem row_enc {α : Type} {enc : α → List AV} {sz : Nat} (he : ∀ a, (enc a).length = sz) (x : Sl α) (h : Heap) : Row enc sz h (encSl enc sz x) x.l := by
  cases x with
  | none => exact ⟨rfl, rfl⟩
  | some l =>
    refine ⟨rfl, ?_⟩
    have hl : (l.flatMap enc).length = l.length * sz := len_flatMap he l
    simp only [encSl, firstS, Sl.l_some, Nat.zero_add, hl, beq_self_eq_true, Nat.le_refl, decide_true, Bool.and_self, if_true, List.drop_zero]
    rw [← hl, List.take_length]
structure CondD where
  kind : Int
  neg : Bool
  name : Str
  args : Sl Str
structure RuleD where
  name : Str
  args : Sl Str
  body : Sl CondD
def encCo (c : CondD) : List AV := [.int .i64 c.kind, .bool c.neg, .str c.name, encSl encS 1 c.args]
def encAt (nm : Str) (xs : Sl Str) : List AV := [.str nm, encSl encS 1 xs]
def encRu (r : RuleD) : List AV := [.str r.name, encSl encS 1 r.args, encSl encCo 4 r.body]
theorem len_encCo (c : CondD) : (encCo c).length = 4 := rfl
theorem len_encRu (r : RuleD) : (encRu r).length = 3 := rfl
theorem pure_encCo (c : CondD) : AV.pureL (encCo c) = true := by simp [encCo, AV.pureL, AV.pure, pure_encSl pure_encS]
theorem pure_encRu (r : RuleD) : AV.pureL (encRu r) = true := by simp [encRu, AV.pureL, AV.pure, pure_encSl pure_encS, pure_encSl pure_encCo]
theorem one_encAt (nm : Str) (xs : Sl Str) : oneAll (encAt nm xs) = true := by
  unfold encAt; simp only [oneAll, one_encSl, Bool.and_true]; rfl
theorem one_encCo (c : CondD) : oneAll (encCo c) = true := by
  unfold encCo; simp only [oneAll, one_encSl, Bool.and_true]; rfl
theorem one_encRu (r : RuleD) : oneAll (encRu r) = true := by
  unfold encRu; simp only [oneAll, one_encSl, Bool.and_true]; rfl
def CondD.ok (c : CondD) : Prop := c.name.length ≤ big ∧ c.args.l.length ≤ big ∧ ∀ s ∈ c.args.l, s.length ≤ big
def RuleD.ok (r : RuleD) : Prop := r.name.length ≤ big ∧ r.args.l.length ≤ big ∧ (∀ s ∈ r.args.l, s.length ≤ big) ∧ r.body.l.length ≤ big ∧ ∀ c ∈ r.body.l, c.ok
theorem part2_4 (a b c d : AV) : partS (some 2) [a, b, c, d] 2 = some (.agg [c, d]) := rfl
theorem part2_3 (a b c : AV) : partS (some 2) [a, b, c] 0 = some (.agg [a, b]) := rfl
theorem part4_4 (a b c d : AV) : partS (some 4) [a, b, c, d] 0 = some (.agg [a, b, c, d]) := rfl
theorem part3_3 (a b c : AV) : partS (some 3) [a, b, c] 0 = some (.agg [a, b, c]) := rfl
theorem get_strs {x : Sl Str} {i : Nat} {v : Str} (hv : x.l[i]? = some v) {h : Heap} : loadS none (.iptr (x.l.flatMap encS) (i * 1)) h = some (.str v) := by
  rw [load_elem1 len_encS hv]; rfl

theorem IndexFunc_str {x : Sl Str} (hx : x.l.length ≤ big) {g : FuncId} {a b : List AV} {h : Heap} {p : Str → Bool} (hp : ∀ (v : Str) (K : Out → Heap → Bool), K (.ret (.bool (p v))) h = true → Sem Tryz.prog g (a ++ ([.str v] ++ b)) h K)
    {K : Out → Heap → Bool} (hK : ∀ n : Int, decide (0 ≤ n) = x.l.any p → K (.ret (.int .i64 n)) h = true) : Sem Tryz.prog 128 [encSl encS 1 x, .func g a b] h K := by
  refine F.slices_IndexFunc_S_string_string_sem ?_
  simp only [bindO_some, bindO2_some, outK_ret, condB_bool, cond_t, cond_f, fa_ptr, fa_iptr, part_none, Nat.zero_add, Nat.add_zero, Nat.reduceAdd, List.getElem?_cons_zero, List.getElem?_cons_succ, len_str, lenS_enc, lss_int, leq_int, gtr_int, geq_int, eq_int, ne_int, eq_str, ne_str, eq_bool, ne_bool, not_bool, extract_0, extract_1, extract_2, setV_eq, Nat.reduceEqDiff, reduceIte]
  refine loopB_range 0 x.l.length (Nat.zero_le _) (fun i e h' => h' = h ∧ e 0 = encSl encS 1 x ∧ e 1 = .func g a b ∧ e 7 = .int .i64 (x.l.length : Int) ∧ e 8 = .int .i64 (i : Int) ∧ (x.l.take i).any p = false) ⟨rfl, rfl, rfl, rfl, rfl, rfl⟩ ?_ ?_
  · rintro i e h' _ hi ⟨rfl, e0, e1, e7, e8, ht⟩ K' hn hx' hr hp'
    have hv : x.l[i]? = some x.l[i] := List.getElem?_eq_getElem hi
    rw [F.slices_IndexFunc_S_string_string.L0_eq]
    simp only [e0, e1, e7, e8, bindO_some, bindO2_some, outK_ret, condB_bool, cond_t, cond_f, fa_ptr, fa_iptr, part_none, Nat.zero_add, Nat.add_zero, Nat.reduceAdd, List.getElem?_cons_zero, List.getElem?_cons_succ, len_str, lenS_enc, lss_int, leq_int, gtr_int, geq_int, eq_int, ne_int, eq_str, ne_str, eq_bool, ne_bool, not_bool, extract_0, extract_1, extract_2, setV_eq, Nat.reduceEqDiff, reduceIte, lt_true hi, iaS_enc x hi, get_strs hv, callV_func]
    refine semCall_true (hp _ _ ?_)
    simp only [bindO_some, bindO2_some, outK_ret, condB_bool, cond_t, cond_f, fa_ptr, fa_iptr, part_none, Nat.zero_add, Nat.add_zero, Nat.reduceAdd, List.getElem?_cons_zero, List.getElem?_cons_succ, len_str, lenS_enc, lss_int, leq_int, gtr_int, geq_int, eq_int, ne_int, eq_str, ne_str, eq_bool, ne_bool, not_bool, extract_0, extract_1, extract_2, setV_eq, Nat.reduceEqDiff, reduceIte]
    cases hq : p x.l[i] with
    | true =>
      simp only [cond_t]
      rw [hr, F.slices_IndexFunc_S_string_string.L0_r_eq]
      refine hK (i : Int) ?_
      rw [decide_eq_true (by omega : (0 : Int) ≤ (i : Int))]
      exact (List.any_eq_true.2 ⟨_, List.mem_of_getElem? hv, hq⟩).symm
    | false =>
      simp only [cond_f, succ_i64 hi hx, bindO_some]
      exact hn _ _ ⟨rfl, e0, e1, e7, rfl, by rw [List.take_add_one, hv, List.any_append, ht]; simp [hq]⟩
  · rintro e h' ⟨rfl, e0, e1, e7, e8, ht⟩ K' hx'
    rw [F.slices_IndexFunc_S_string_string.L0_eq]
    simp only [e0, e1, e7, e8, bindO_some, bindO2_some, outK_ret, condB_bool, cond_t, cond_f, fa_ptr, fa_iptr, part_none, Nat.zero_add, Nat.add_zero, Nat.reduceAdd, List.getElem?_cons_zero, List.getElem?_cons_succ, len_str, lenS_enc, lss_int, leq_int, gtr_int, geq_int, eq_int, ne_int, eq_str, ne_str, eq_bool, ne_bool, not_bool, extract_0, extract_1, extract_2, setV_eq, Nat.reduceEqDiff, reduceIte, lt_false]
    rw [hx', F.slices_IndexFunc_S_string_string.L0_x0_eq]
    rw [List.take_of_length_le (Nat.le_refl _)] at ht
    exact hK (-1) (by rw [ht]; rfl)
theorem ContainsFunc_str {x : Sl Str} (hx : x.l.length ≤ big) {g : FuncId} {a b : List AV} {h : Heap} {p : Str → Bool} (hp : ∀ (v : Str) (K : Out → Heap → Bool), K (.ret (.bool (p v))) h = true → Sem Tryz.prog g (a ++ ([.str v] ++ b)) h K)
    {K : Out → Heap → Bool} (hK : K (.ret (.bool (x.l.any p))) h = true) : Sem Tryz.prog 99 [encSl encS 1 x, .func g a b] h K := by
  refine F.slices_ContainsFunc_S_string_string_sem ?_
  refine semCall_true (IndexFunc_str hx hp fun n hn => ?_)
  simp only [bindO_some, bindO2_some, outK_ret, condB_bool, cond_t, cond_f, fa_ptr, fa_iptr, part_none, Nat.zero_add, Nat.add_zero, Nat.reduceAdd, List.getElem?_cons_zero, List.getElem?_cons_succ, len_str, lenS_enc, lss_int, leq_int, gtr_int, geq_int, eq_int, ne_int, eq_str, ne_str, eq_bool, ne_bool, not_bool, extract_0, extract_1, extract_2, setV_eq, Nat.reduceEqDiff, reduceIte]
  rw [hn]; exact hK
theorem rules_atom_1 {s : Str} {h : Heap} {K : Out → Heap → Bool} (hK : K (.ret (.bool (!nameB s))) h = true) : Sem Tryz.prog 100 [.str s] h K := by
  refine F.rules_atom_1_sem ?_
  refine semCall_true (shape_Name ?_)
  simp only [bindO_some, bindO2_some, outK_ret, condB_bool, cond_t, cond_f, fa_ptr, fa_iptr, part_none, Nat.zero_add, Nat.add_zero, Nat.reduceAdd, List.getElem?_cons_zero, List.getElem?_cons_succ, len_str, lenS_enc, lss_int, leq_int, gtr_int, geq_int, eq_int, ne_int, eq_str, ne_str, eq_bool, ne_bool, not_bool, extract_0, extract_1, extract_2, setV_eq, Nat.reduceEqDiff, reduceIte]
  exact hK
theorem all_any {α : Type} (p : α → Bool) (l : List α) : (!(l.any fun x => !p x)) = l.all p := by
  induction l with
  | nil => rfl
  | cons a l ih => rw [List.any_cons, List.all_cons, ← ih]; cases p a <;> simp

theorem all_two {α : Type} (p : α → Bool) : ∀ (l : List α) (h : l.length = 2), l.all p = (p (l[0]'(by omega)) && p (l[1]'(by omega)))
  | [a, b], _ => by simp
def atomB (nm : Str) (xs : List Str) : Bool := nameB nm && (decide (xs.length ≤ 12) && xs.all nameB)
theorem rules_atom {nm : Str} {xs : Sl Str} (hx : xs.l.length ≤ big) {h : Heap} {K : Out → Heap → Bool} (hK : K (.ret (.bool (atomB nm xs.l))) h = true) : Sem Tryz.prog 61 [.agg [.str nm, encSl encS 1 xs]] h K := by
  refine Sem.data (r := .bool (atomB nm xs.l)) ?_ (by simp [AV.pureL, AV.pure, pure_encSl pure_encS]) hK
  clear hK
  refine F.rules_atom_sem ?_
  have g0 : (Heap.alloc Heap.empty (.cells (encAt nm xs))).get 0 = some (.cells (encAt nm xs)) := get_alloc_same _ _
  have hb : boxS (.agg [.str nm, encSl encS 1 xs]) = some (encAt nm xs) := box_agg (one_encAt nm xs)
  simp only [hb, bindO_some, next_empty]
  generalize (Heap.alloc Heap.empty (.cells (encAt nm xs))) = H at g0 ⊢
  have fin : ∀ b : Bool, b = atomB nm xs.l → frzK (.bool (atomB nm xs.l)) (.ret (.bool b)) H = true := fun b hb => by rw [hb]; exact frzK_same rfl
  simp only [bindO_some, bindO2_some, outK_ret, condB_bool, cond_t, cond_f, fa_ptr, fa_iptr, part_none, Nat.zero_add, Nat.add_zero, Nat.reduceAdd, List.getElem?_cons_zero, List.getElem?_cons_succ, len_str, lenS_enc, lss_int, leq_int, gtr_int, geq_int, eq_int, ne_int, eq_str, ne_str, eq_bool, ne_bool, not_bool, extract_0, extract_1, extract_2, setV_eq, Nat.reduceEqDiff, reduceIte, load_ptr g0, encAt]
  refine semCall_true (shape_Name ?_)
  simp only [bindO_some, bindO2_some, outK_ret, condB_bool, cond_t, cond_f, fa_ptr, fa_iptr, part_none, Nat.zero_add, Nat.add_zero, Nat.reduceAdd, List.getElem?_cons_zero, List.getElem?_cons_succ, len_str, lenS_enc, lss_int, leq_int, gtr_int, geq_int, eq_int, ne_int, eq_str, ne_str, eq_bool, ne_bool, not_bool, extract_0, extract_1, extract_2, setV_eq, Nat.reduceEqDiff, reduceIte]
  cases hn : nameB nm with
  | false => simp only [cond_f]; exact fin _ (by simp [atomB, hn])
  | true =>
    simp only [cond_t, bindO_some, bindO2_some, outK_ret, condB_bool, cond_t, cond_f, fa_ptr, fa_iptr, part_none, Nat.zero_add, Nat.add_zero, Nat.reduceAdd, List.getElem?_cons_zero, List.getElem?_cons_succ, len_str, lenS_enc, lss_int, leq_int, gtr_int, geq_int, eq_int, ne_int, eq_str, ne_str, eq_bool, ne_bool, not_bool, extract_0, extract_1, extract_2, setV_eq, Nat.reduceEqDiff, reduceIte, load_ptr g0, encAt]
    by_cases h12 : xs.l.length ≤ 12
    · simp only [decide_eq_true (by omega : (xs.l.length : Int) ≤ 12), cond_t, bindO_some, bindO2_some, outK_ret, condB_bool, cond_t, cond_f, fa_ptr, fa_iptr, part_none, Nat.zero_add, Nat.add_zero, Nat.reduceAdd, List.getElem?_cons_zero, List.getElem?_cons_succ, len_str, lenS_enc, lss_int, leq_int, gtr_int, geq_int, eq_int, ne_int, eq_str, ne_str, eq_bool, ne_bool, not_bool, extract_0, extract_1, extract_2, setV_eq, Nat.reduceEqDiff, reduceIte, load_ptr g0, encAt]
      refine semCall_true (ContainsFunc_str hx (p := fun s => !nameB s) (fun v K hK => rules_atom_1 hK) ?_)
      simp only [bindO_some, bindO2_some, outK_ret, condB_bool, cond_t, cond_f, fa_ptr, fa_iptr, part_none, Nat.zero_add, Nat.add_zero, Nat.reduceAdd, List.getElem?_cons_zero, List.getElem?_cons_succ, len_str, lenS_enc, lss_int, leq_int, gtr_int, geq_int, eq_int, ne_int, eq_str, ne_str, eq_bool, ne_bool, not_bool, extract_0, extract_1, extract_2, setV_eq, Nat.reduceEqDiff, reduceIte]
      exact fin _ (by rw [all_any]; simp [atomB, hn, h12])
    · simp only [decide_eq_false (by omega : ¬ (xs.l.length : Int) ≤ 12), cond_f]
      exact fin _ (by simp [atomB, h12])
def condOk (c : CondD) : Bool := if c.kind = 0 then atomB c.name c.args.l else if c.kind = 1 ∨ c.kind = 2 then decide (c.name = []) && (decide (c.args.l.length = 2) && c.args.l.all nameB) else false
theorem rules_condition {c : CondD} (hc : c.ok) {h : Heap} {K : Out → Heap → Bool} (hK : K (.ret (.bool (condOk c))) h = true) : Sem Tryz.prog 64 [.agg [.int .i64 c.kind, .bool c.neg, .str c.name, encSl encS 1 c.args]] h K := by
  refine Sem.data (r := .bool (condOk c)) ?_ (by simp [AV.pureL, AV.pure, pure_encSl pure_encS]) hK
  clear hK
  refine F.rules_condition_sem ?_
  have g0 : (Heap.alloc Heap.empty (.cells (encCo c))).get 0 = some (.cells (encCo c)) := get_alloc_same _ _
  have hb : boxS (.agg [.int .i64 c.kind, .bool c.neg, .str c.name, encSl encS 1 c.args]) = some (encCo c) := box_agg (one_encCo c)
  simp only [hb, bindO_some, next_empty]
  generalize (Heap.alloc Heap.empty (.cells (encCo c))) = H at g0 ⊢
  have fin : ∀ b : Bool, b = condOk c → frzK (.bool (condOk c)) (.ret (.bool b)) H = true := fun b hb => by rw [hb]; exact frzK_same rfl
  generalize frzK (.bool (condOk c)) = R at fin ⊢
  simp only [bindO_some, bindO2_some, outK_ret, condB_bool, cond_t, cond_f, fa_ptr, fa_iptr, part_none, Nat.zero_add, Nat.add_zero, Nat.reduceAdd, List.getElem?_cons_zero, List.getElem?_cons_succ, len_str, lenS_enc, lss_int, leq_int, gtr_int, geq_int, eq_int, ne_int, eq_str, ne_str, eq_bool, ne_bool, not_bool, extract_0, extract_1, extract_2, setV_eq, Nat.reduceEqDiff, reduceIte, load_ptr g0, encCo, int_beq, part2_4]
  by_cases k0 : c.kind = 0
  · simp only [decide_eq_true k0, cond_t]
    refine semCall_true (rules_atom hc.2.1 ?_)
    simp only [bindO_some, bindO2_some, outK_ret, condB_bool, cond_t, cond_f, fa_ptr, fa_iptr, part_none, Nat.zero_add, Nat.add_zero, Nat.reduceAdd, List.getElem?_cons_zero, List.getElem?_cons_succ, len_str, lenS_enc, lss_int, leq_int, gtr_int, geq_int, eq_int, ne_int, eq_str, ne_str, eq_bool, ne_bool, not_bool, extract_0, extract_1, extract_2, setV_eq, Nat.reduceEqDiff, reduceIte]
    exact fin _ (by simp [condOk, k0])
  simp only [decide_eq_false k0, cond_f]
  have J : ∀ (e : Env) (b : Bool), e 1 = .ptr 0 0 → e 10 = .bool b → (b = true ↔ (c.kind = 1 ∨ c.kind = 2)) → F.rules_condition.J0 R ⟨e, 40, [], H⟩ = true := by
    intro e b e1 e10 hb
    rw [F.rules_condition.J0_eq]
    simp only [e1, e10, bindO_some, bindO2_some, outK_ret, condB_bool, cond_t, cond_f, fa_ptr, fa_iptr, part_none, Nat.zero_add, Nat.add_zero, Nat.reduceAdd, List.getElem?_cons_zero, List.getElem?_cons_succ, len_str, lenS_enc, lss_int, leq_int, gtr_int, geq_int, eq_int, ne_int, eq_str, ne_str, eq_bool, ne_bool, not_bool, extract_0, extract_1, extract_2, setV_eq, Nat.reduceEqDiff, reduceIte]
    cases b with
    | false =>
      simp only [cond_f]
      have : ¬ (c.kind = 1 ∨ c.kind = 2) := fun h => by have := hb.2 h; cases this
      exact fin _ (by simp [condOk, k0, this])
    | true =>
      have hk := hb.1 rfl
      have hc1 : condOk c = (decide (c.name = []) && (decide (c.args.l.length = 2) && c.args.l.all nameB)) := by simp only [condOk, if_neg k0, if_pos hk]
      rw [hc1] at fin
      simp only [cond_t, bindO_some, bindO2_some, outK_ret, condB_bool, cond_t, cond_f, fa_ptr, fa_iptr, part_none, Nat.zero_add, Nat.add_zero, Nat.reduceAdd, List.getElem?_cons_zero, List.getElem?_cons_succ, len_str, lenS_enc, lss_int, leq_int, gtr_int, geq_int, eq_int, ne_int, eq_str, ne_str, eq_bool, ne_bool, not_bool, extract_0, extract_1, extract_2, setV_eq, Nat.reduceEqDiff, reduceIte, load_ptr g0, encCo, str_beq]
      by_cases hn : c.name = []
      · simp only [decide_eq_true hn, cond_t, bindO_some, bindO2_some, outK_ret, condB_bool, cond_t, cond_f, fa_ptr, fa_iptr, part_none, Nat.zero_add, Nat.add_zero, Nat.reduceAdd, List.getElem?_cons_zero, List.getElem?_cons_succ, len_str, lenS_enc, lss_int, leq_int, gtr_int, geq_int, eq_int, ne_int, eq_str, ne_str, eq_bool, ne_bool, not_bool, extract_0, extract_1, extract_2, setV_eq, Nat.reduceEqDiff, reduceIte, load_ptr g0, encCo, int_beq]
        by_cases h2 : c.args.l.length = 2
        · simp only [decide_eq_true (by omega : (c.args.l.length : Int) = 2), cond_t, bindO_some, bindO2_some, outK_ret, condB_bool, cond_t, cond_f, fa_ptr, fa_iptr, part_none, Nat.zero_add, Nat.add_zero, Nat.reduceAdd, List.getElem?_cons_zero, List.getElem?_cons_succ, len_str, lenS_enc, lss_int, leq_int, gtr_int, geq_int, eq_int, ne_int, eq_str, ne_str, eq_bool, ne_bool, not_bool, extract_0, extract_1, extract_2, setV_eq, Nat.reduceEqDiff, reduceIte, load_ptr g0, encCo]
          have v0 : c.args.l[0]? = some c.args.l[0] := List.getElem?_eq_getElem (by omega)
          have v1 : c.args.l[1]? = some c.args.l[1] := List.getElem?_eq_getElem (by omega)
          have hall : c.args.l.all nameB = (nameB c.args.l[0] && nameB c.args.l[1]) := all_two nameB _ h2
          have i0 := iaS_enc (enc := encS) (sz := 1) (k := .i64) c.args (i := 0) (by omega)
          have i1 := iaS_enc (enc := encS) (sz := 1) (k := .i64) c.args (i := 1) (by omega)
          have l0 := fun h => get_strs (x := c.args) v0 (h := h)
          have l1 := fun h => get_strs (x := c.args) v1 (h := h)
          simp only [show ((0 : Nat) : Int) = 0 from rfl, show ((1 : Nat) : Int) = 1 from rfl] at i0 i1
          simp only [i0, i1, l0, l1, bindO_some, bindO2_some, outK_ret, condB_bool, cond_t, cond_f, fa_ptr, fa_iptr, part_none, Nat.zero_add, Nat.add_zero, Nat.reduceAdd, List.getElem?_cons_zero, List.getElem?_cons_succ, len_str, lenS_enc, lss_int, leq_int, gtr_int, geq_int, eq_int, ne_int, eq_str, ne_str, eq_bool, ne_bool, not_bool, extract_0, extract_1, extract_2, setV_eq, Nat.reduceEqDiff, reduceIte]
          refine semCall_true (shape_Name ?_)
          simp only [bindO_some, bindO2_some, outK_ret, condB_bool, cond_t, cond_f, fa_ptr, fa_iptr, part_none, Nat.zero_add, Nat.add_zero, Nat.reduceAdd, List.getElem?_cons_zero, List.getElem?_cons_succ, len_str, lenS_enc, lss_int, leq_int, gtr_int, geq_int, eq_int, ne_int, eq_str, ne_str, eq_bool, ne_bool, not_bool, extract_0, extract_1, extract_2, setV_eq, Nat.reduceEqDiff, reduceIte]
          rw [hall] at fin
          cases n0 : nameB c.args.l[0] with
          | false => simp only [cond_f]; exact fin _ (by simp [n0])
          | true =>
            simp only [cond_t, bindO_some, bindO2_some, outK_ret, condB_bool, cond_t, cond_f, fa_ptr, fa_iptr, part_none, Nat.zero_add, Nat.add_zero, Nat.reduceAdd, List.getElem?_cons_zero, List.getElem?_cons_succ, len_str, lenS_enc, lss_int, leq_int, gtr_int, geq_int, eq_int, ne_int, eq_str, ne_str, eq_bool, ne_bool, not_bool, extract_0, extract_1, extract_2, setV_eq, Nat.reduceEqDiff, reduceIte, load_ptr g0, encCo, i0, i1, l0, l1]
            refine semCall_true (shape_Name ?_)
            simp only [bindO_some, bindO2_some, outK_ret, condB_bool, cond_t, cond_f, fa_ptr, fa_iptr, part_none, Nat.zero_add, Nat.add_zero, Nat.reduceAdd, List.getElem?_cons_zero, List.getElem?_cons_succ, len_str, lenS_enc, lss_int, leq_int, gtr_int, geq_int, eq_int, ne_int, eq_str, ne_str, eq_bool, ne_bool, not_bool, extract_0, extract_1, extract_2, setV_eq, Nat.reduceEqDiff, reduceIte]
            exact fin _ (by simp [n0, hn, h2])
        · simp only [decide_eq_false (by omega : ¬ (c.args.l.length : Int) = 2), cond_f]
          exact fin _ (by simp [h2])
      · simp only [decide_eq_false hn, cond_f]
        exact fin _ (by simp [hn])
  by_cases k1 : c.kind = 1
  · simp only [decide_eq_true k1, cond_t]
    exact J _ true rfl rfl (by simp [k1])
  · simp only [decide_eq_false k1, cond_f]
    exact J _ (decide (c.kind = 2)) rfl rfl (by simp [k1])
end
end Go.AM
/- The variables of a rule, as the program and as the reference gather them. Conditions: none. -/
namespace Go.AM
open Go Go.Proofs
set_option linter.unusedVariables false
set_option linter.unusedSimpArgs false
noncomputable section

theorem Index_own {k : Nat} {h : Heap} {a : AV} {l : List Str} {s : Str} (o : Own encS 1 k h a l) (hl : l.length ≤ big) {K : Out → Heap → Bool}
    (hK : ∀ n : Int, decide (0 ≤ n) = (l.any fun x => s == x) → K (.ret (.int .i64 n)) h = true) : Sem Tryz.prog 121 [a, .str s] h K := by
  refine F.slices_Index_S_string_string_sem ?_
  simp only [o.len, bindO_some, bindO2_some, outK_ret, condB_bool, cond_t, cond_f, fa_ptr, fa_iptr, part_none, Nat.zero_add, Nat.add_zero, Nat.reduceAdd, List.getElem?_cons_zero, List.getElem?_cons_succ, len_str, lenS_enc, lss_int, leq_int, gtr_int, geq_int, eq_int, ne_int, eq_str, ne_str, eq_bool, ne_bool, not_bool, extract_0, extract_1, extract_2, setV_eq, Nat.reduceEqDiff, reduceIte]
  refine loopB_range 0 l.length (Nat.zero_le _) (fun i e h' => h' = h ∧ e 0 = a ∧ e 1 = .str s ∧ e 7 = .int .i64 (l.length : Int) ∧ e 8 = .int .i64 (i : Int) ∧ ((l.take i).any fun x => s == x) = false) ⟨rfl, rfl, rfl, rfl, rfl, rfl⟩ ?_ ?_
  · rintro i e h' _ hi ⟨rfl, e0, e1, e7, e8, ht⟩ K' hn hx' hr hp'
    have hv : l[i]? = some l[i] := List.getElem?_eq_getElem hi
    generalize l[i] = x at hv
    obtain ⟨b, _, g1, g2⟩ := own_name o hv
    rw [F.slices_Index_S_string_string.L0_eq]
    simp only [e0, e1, e7, e8, bindO_some, bindO2_some, outK_ret, condB_bool, cond_t, cond_f, fa_ptr, fa_iptr, part_none, Nat.zero_add, Nat.add_zero, Nat.reduceAdd, List.getElem?_cons_zero, List.getElem?_cons_succ, len_str, lenS_enc, lss_int, leq_int, gtr_int, geq_int, eq_int, ne_int, eq_str, ne_str, eq_bool, ne_bool, not_bool, extract_0, extract_1, extract_2, setV_eq, Nat.reduceEqDiff, reduceIte, lt_true hi, g1, g2]
    cases hq : s == x with
    | true =>
      simp only [cond_t]
      rw [hr, F.slices_Index_S_string_string.L0_r_eq]
      refine hK (i : Int) ?_
      rw [decide_eq_true (by omega : (0 : Int) ≤ (i : Int))]
      exact (List.any_eq_true.2 ⟨_, List.mem_of_getElem? hv, hq⟩).symm
    | false =>
      simp only [cond_f, succ_i64 hi hl, bindO_some]
      exact hn _ _ ⟨rfl, e0, e1, e7, rfl, any_take hv ht hq⟩
  · rintro e h' ⟨rfl, e0, e1, e7, e8, ht⟩ K' hx'
    rw [F.slices_Index_S_string_string.L0_eq]
    simp only [e0, e1, e7, e8, bindO_some, bindO2_some, outK_ret, condB_bool, cond_t, cond_f, fa_ptr, fa_iptr, part_none, Nat.zero_add, Nat.add_zero, Nat.reduceAdd, List.getElem?_cons_zero, List.getElem?_cons_succ, len_str, lenS_enc, lss_int, leq_int, gtr_int, geq_int, eq_int, ne_int, eq_str, ne_str, eq_bool, ne_bool, not_bool, extract_0, extract_1, extract_2, setV_eq, Nat.reduceEqDiff, reduceIte, lt_false]
    rw [hx', F.slices_Index_S_string_string.L0_x0_eq]
    rw [List.take_of_length_le (Nat.le_refl _)] at ht
    exact hK (-1) (by rw [ht]; rfl)
theorem Contains_own {k : Nat} {h : Heap} {a : AV} {l : List Str} {s : Str} (o : Own encS 1 k h a l) (hl : l.length ≤ big) {K : Out → Heap → Bool}
    (hK : K (.ret (.bool (l.any fun x => s == x))) h = true) : Sem Tryz.prog 102 [a, .str s] h K := by
  refine F.slices_Contains_S_string_string_sem ?_
  refine semCall_true (Index_own o hl fun n hn => ?_)
  simp only [bindO_some, bindO2_some, outK_ret, condB_bool, cond_t, cond_f, fa_ptr, fa_iptr, part_none, Nat.zero_add, Nat.add_zero, Nat.reduceAdd, List.getElem?_cons_zero, List.getElem?_cons_succ, len_str, lenS_enc, lss_int, leq_int, gtr_int, geq_int, eq_int, ne_int, eq_str, ne_str, eq_bool, ne_bool, not_bool, extract_0, extract_1, extract_2, setV_eq, Nat.reduceEqDiff, reduceIte]
  rw [hn]; exact hK
def addV (o : List Str) (s : Str) : List Str := if (o.any fun x => s == x) = true then o else o ++ [s]
def addAll (o l : List Str) : List Str := l.foldl addV o
theorem addAll_step {o l : List Str} {i : Nat} {s : Str} (hs : l[i]? = some s) : addAll o (l.take (i + 1)) = addV (addAll o (l.take i)) s := by
  unfold addAll; rw [List.take_add_one, hs]; simp
theorem addV_len (o : List Str) (s : Str) : (addV o s).length ≤ o.length + 1 := by
  unfold addV; split <;> simp
theorem addAll_len : ∀ (l o : List Str), (addAll o l).length ≤ o.length + l.length
  | [], o => Nat.le_refl _
  | s :: l, o => by
    have h1 := addAll_len l (addV o s)
    have h2 := addV_len o s
    show (addAll (addV o s) l).length ≤ _
    rw [List.length_cons]; omega
theorem own_cell {α : Type} {enc : α → List AV} {sz k : Nat} {h : Heap} {a : AV} {l : List α} (o : Own enc sz k h a l) : a.cellsL = [a] ∧ oneAll [a] = true := by
  cases o <;> exact ⟨rfl, rfl⟩
theorem store_own {α : Type} {enc : α → List AV} {sz k : Nat} {h : Heap} {a b : AV} {l : List α} {V : Nat} (o : Own enc sz k h a l) (hV : h.get V = some (.cells [b])) : storeS 1 (.ptr V 0) a h = some (h.set V (.cells [a])) := by
  obtain ⟨h1, h2⟩ := own_cell o
  rw [store_ptr (n := 1) hV (by rw [h1]; rfl) (by rw [h1]; exact h2) (by simp), h1]; rfl
theorem row_S (s : Str) : rowS [.str []] [(0, 1)] [.str s] = some (encS s) := rfl

theorem rules_vars1 {V k : Nat} {h : Heap} {a : AV} {l : List Str} {xs : Sl Str} (hV : h.get V = some (.cells [a])) (hVk : V < k) (o : Own encS 1 k h a l) (hk : k ≤ h.next) (hlen : l.length + xs.l.length ≤ 100000000) {K : Out → Heap → Bool}
    (hK : ∀ a' h', h'.get V = some (.cells [a']) → Own encS 1 k h' a' (addAll l xs.l) → (∀ c, c < k → c ≠ V → h'.get c = h.get c) → h.next ≤ h'.next → K (.ret (.tuple [])) h' = true) : Sem Tryz.prog 101 [encSl encS 1 xs, .ptr V 0] h K := by
  refine F.rules_Variables_1_sem ?_
  simp only [bindO_some, bindO2_some, outK_ret, condB_bool, cond_t, cond_f, fa_ptr, fa_iptr, part_none, Nat.zero_add, Nat.add_zero, Nat.reduceAdd, List.getElem?_cons_zero, List.getElem?_cons_succ, len_str, lenS_enc, lss_int, leq_int, gtr_int, geq_int, eq_int, ne_int, eq_str, ne_str, eq_bool, ne_bool, not_bool, extract_0, extract_1, extract_2, setV_eq, Nat.reduceEqDiff, reduceIte]
  refine loopB_range 0 xs.l.length (Nat.zero_le _) (fun i e h' => ∃ a', h'.get V = some (.cells [a']) ∧ Own encS 1 k h' a' (addAll l (xs.l.take i)) ∧ (∀ c, c < k → c ≠ V → h'.get c = h.get c) ∧ h.next ≤ h'.next ∧
    e 1 = .ptr V 0 ∧ e 5 = encSl encS 1 xs ∧ e 6 = .int .i64 (xs.l.length : Int) ∧ e 7 = .int .i64 (i : Int)) ⟨a, hV, by simpa [addAll] using o, fun _ _ _ => rfl, Nat.le_refl _, rfl, rfl, rfl, rfl⟩ ?_ ?_
  · rintro i e h' _ hi ⟨a', gV, o', fr, hn', e1, e5, e6, e7⟩ K' hn hx hr hp
    have hv : xs.l[i]? = some xs.l[i] := List.getElem?_eq_getElem hi
    generalize xs.l[i] = s at hv
    have hlb : (addAll l (xs.l.take i)).length ≤ 100000000 := by
      have h1 := addAll_len (xs.l.take i) l
      have h2 := List.length_take_le i xs.l
      omega
    rw [F.rules_Variables_1.L0_eq]
    simp only [e1, e5, e6, e7, bindO_some, bindO2_some, outK_ret, condB_bool, cond_t, cond_f, fa_ptr, fa_iptr, part_none, Nat.zero_add, Nat.add_zero, Nat.reduceAdd, List.getElem?_cons_zero, List.getElem?_cons_succ, len_str, lenS_enc, lss_int, leq_int, gtr_int, geq_int, eq_int, ne_int, eq_str, ne_str, eq_bool, ne_bool, not_bool, extract_0, extract_1, extract_2, setV_eq, Nat.reduceEqDiff, reduceIte, lt_true hi, iaS_enc xs hi, get_strs hv, load_ptr gV]
    refine semCall_true (Contains_own o' (by unfold big; omega) ?_)
    simp only [bindO_some, bindO2_some, outK_ret, condB_bool, cond_t, cond_f, fa_ptr, fa_iptr, part_none, Nat.zero_add, Nat.add_zero, Nat.reduceAdd, List.getElem?_cons_zero, List.getElem?_cons_succ, len_str, lenS_enc, lss_int, leq_int, gtr_int, geq_int, eq_int, ne_int, eq_str, ne_str, eq_bool, ne_bool, not_bool, extract_0, extract_1, extract_2, setV_eq, Nat.reduceEqDiff, reduceIte]
    have hstep := addAll_step (o := l) hv
    unfold addV at hstep
    cases hq : (addAll l (xs.l.take i)).any fun x => s == x with
    | true =>
      rw [hq, if_pos rfl] at hstep
      simp only [Bool.not_true, cond_f, succ_i64 hi (show xs.l.length ≤ big by unfold big; omega), bindO_some]
      exact hn _ _ ⟨a', gV, by rw [hstep]; exact o', fr, hn', e1, e5, e6, rfl⟩
    | false =>
      rw [hq, if_neg (by simp)] at hstep
      obtain ⟨a2, h2, p1, p2, p3, p4, p5, p6⟩ := o'.push len_encS one_encS (by omega) (bytes := 16) (by unfold maxBytes; omega) s
      have gV2 : h2.get V = some (.cells [a']) := by
        rw [p3 V (by omega) (fun hb => by have := o'.ge hb; omega)]; exact gV
      have hst := store_own p2 gV2
      simp only [Bool.not_false, cond_t, e1, load_ptr gV, bindO_some, bindO2_some, outK_ret, condB_bool, cond_t, cond_f, fa_ptr, fa_iptr, part_none, Nat.zero_add, Nat.add_zero, Nat.reduceAdd, List.getElem?_cons_zero, List.getElem?_cons_succ, len_str, lenS_enc, lss_int, leq_int, gtr_int, geq_int, eq_int, ne_int, eq_str, ne_str, eq_bool, ne_bool, not_bool, extract_0, extract_1, extract_2, setV_eq, Nat.reduceEqDiff, reduceIte, row_S, p1, hst, succ_i64 hi (show xs.l.length ≤ big by unfold big; omega)]
      refine hn _ _ ⟨a2, by rw [Heap.get_set, if_pos rfl], by rw [hstep]; exact p2.setLow hVk _, fun c hc hcV => ?_, by rw [Heap.next_set]; omega, e1, e5, e6, rfl⟩
      rw [Heap.get_set, if_neg hcV, p3 c (by omega) (fun hb => by have := o'.ge hb; omega), fr c hc hcV]
  · rintro e h' ⟨a', gV, o', fr, hn', e1, e5, e6, e7⟩ K' hx
    rw [F.rules_Variables_1.L0_eq]
    simp only [e6, e7, bindO_some, bindO2_some, outK_ret, condB_bool, cond_t, cond_f, fa_ptr, fa_iptr, part_none, Nat.zero_add, Nat.add_zero, Nat.reduceAdd, List.getElem?_cons_zero, List.getElem?_cons_succ, len_str, lenS_enc, lss_int, leq_int, gtr_int, geq_int, eq_int, ne_int, eq_str, ne_str, eq_bool, ne_bool, not_bool, extract_0, extract_1, extract_2, setV_eq, Nat.reduceEqDiff, reduceIte, lt_false]
    rw [hx, F.rules_Variables_1.L0_x0_eq]
    rw [List.take_of_length_le (Nat.le_refl _)] at o'
    exact hK a' h' gV o' fr hn'

def condVars (o : List Str) (cs : List CondD) : List Str := cs.foldl (fun o c => addAll o c.args.l) o
def varsOf (r : RuleD) : List Str := condVars (addAll [] r.args.l) r.body.l
def RuleD.few (r : RuleD) : Prop := r.args.l.length ≤ 1500 ∧ r.body.l.length ≤ 1500 ∧ ∀ c ∈ r.body.l, c.args.l.length ≤ 1500
theorem condVars_step {o : List Str} {cs : List CondD} {i : Nat} {c : CondD} (hc : cs[i]? = some c) : condVars o (cs.take (i + 1)) = addAll (condVars o (cs.take i)) c.args.l := by
  unfold condVars; rw [List.take_add_one, hc]; simp
theorem condVars_len : ∀ (cs : List CondD) (o : List Str), (∀ c ∈ cs, c.args.l.length ≤ 1500) → (condVars o cs).length ≤ o.length + cs.length * 1500
  | [], o, _ => by simp [condVars]
  | c :: cs, o, h => by
    have h1 := condVars_len cs (addAll o c.args.l) fun d hd => h d (List.mem_cons_of_mem _ hd)
    have h2 := addAll_len c.args.l o
    have h3 := h c List.mem_cons_self
    show (condVars (addAll o c.args.l) cs).length ≤ _
    rw [List.length_cons]; omega
theorem vars_pre {r : RuleD} (hf : r.few) (i : Nat) : (condVars (addAll [] r.args.l) (r.body.l.take i)).length ≤ 3000000 := by
  have h1 := condVars_len (r.body.l.take i) (addAll [] r.args.l) fun c hc => hf.2.2 c (List.mem_of_mem_take hc)
  have h2 := addAll_len r.args.l []
  have h3 := List.length_take_le i r.body.l
  have h4 := List.length_take_le' i r.body.l
  have := hf.1; have := hf.2.1
  simp only [List.length_nil] at h2
  omega
theorem rules_Variables {r : RuleD} (hf : r.few) {h : Heap} {K : Out → Heap → Bool} (hK : ∀ x : Sl Str, x.l = varsOf r → K (.ret (encSl encS 1 x)) h = true) :
    Sem Tryz.prog 63 [.agg [.str r.name, encSl encS 1 r.args, encSl encCo 4 r.body]] h K := by
  have main : Sem Tryz.prog 63 [.agg [.str r.name, encSl encS 1 r.args, encSl encCo 4 r.body]] Heap.empty (fun o h' => yes (∃ v, ∃ x : Sl Str, o = .ret v ∧ x.l = varsOf r ∧ Fz true h' v (encSl encS 1 x))) := by
    refine F.rules_Variables_sem ?_
    have hb : boxS (.agg [.str r.name, encSl encS 1 r.args, encSl encCo 4 r.body]) = some (encRu r) := box_agg (one_encRu r)
    simp only [hb, bindO_some, next_empty, Heap.next_alloc]
    have g0 : (Heap.alloc (Heap.alloc Heap.empty (.cells (encRu r))) (.cells [.nils])).get 0 = some (.cells (encRu r)) := by simp [Heap.get_alloc, next_empty]
    have g1 : (Heap.alloc (Heap.alloc Heap.empty (.cells (encRu r))) (.cells [.nils])).get 1 = some (.cells [.nils]) := by simp [Heap.get_alloc, next_empty]
    have gn : (Heap.alloc (Heap.alloc Heap.empty (.cells (encRu r))) (.cells [.nils])).next = 2 := rfl
    generalize (Heap.alloc (Heap.alloc Heap.empty (.cells (encRu r))) (.cells [.nils])) = H at g0 g1 gn ⊢
    simp only [bindO_some, bindO2_some, outK_ret, condB_bool, cond_t, cond_f, fa_ptr, fa_iptr, part_none, Nat.zero_add, Nat.add_zero, Nat.reduceAdd, List.getElem?_cons_zero, List.getElem?_cons_succ, len_str, lenS_enc, lss_int, leq_int, gtr_int, geq_int, eq_int, ne_int, eq_str, ne_str, eq_bool, ne_bool, not_bool, extract_0, extract_1, extract_2, setV_eq, Nat.reduceEqDiff, reduceIte, load_ptr g0, encRu]
    refine semCall_true (rules_vars1 g1 (by omega) (Own.nil (k := 2)) (by omega) (by have := hf.1; simp only [List.length_nil]; omega) fun a h1 q1 q2 q3 q4 => ?_)
    have g0' : h1.get 0 = some (.cells (encRu r)) := by rw [q3 0 (by omega) (by omega)]; exact g0
    simp only [bindO_some, bindO2_some, outK_ret, condB_bool, cond_t, cond_f, fa_ptr, fa_iptr, part_none, Nat.zero_add, Nat.add_zero, Nat.reduceAdd, List.getElem?_cons_zero, List.getElem?_cons_succ, len_str, lenS_enc, lss_int, leq_int, gtr_int, geq_int, eq_int, ne_int, eq_str, ne_str, eq_bool, ne_bool, not_bool, extract_0, extract_1, extract_2, setV_eq, Nat.reduceEqDiff, reduceIte, load_ptr g0', encRu]
    refine loopB_range 0 r.body.l.length (Nat.zero_le _) (fun i e h' => ∃ a', h'.get 1 = some (.cells [a']) ∧ Own encS 1 2 h' a' (condVars (addAll [] r.args.l) (r.body.l.take i)) ∧ 2 ≤ h'.next ∧
      e 3 = .ptr 1 0 ∧ e 4 = .func 101 [] [.ptr 1 0] ∧ e 14 = encSl encCo 4 r.body ∧ e 15 = .int .i64 (r.body.l.length : Int) ∧ e 16 = .int .i64 (i : Int)) ⟨a, q1, by simpa [condVars] using q2, by omega, rfl, rfl, rfl, rfl, rfl⟩ ?_ ?_
    · rintro i e h' _ hi ⟨a', gV, o', hn', e3, e4, e14, e15, e16⟩ K' hn hx hr hp
      have hv : r.body.l[i]? = some r.body.l[i] := List.getElem?_eq_getElem hi
      generalize r.body.l[i] = c at hv
      have hc15 := hf.2.2 c (List.mem_of_getElem? hv)
      obtain ⟨H2, hs, k1, ko, kn⟩ := store_new (h := h') (zs := [.int .i64 0, .bool false, .str [], .nils]) (cs := encCo c) (n := 4) rfl rfl (one_encCo c)
      have x2 : HExt h' H2 := ⟨by omega, fun b hb => ko b (by omega)⟩
      have gV2 : H2.get 1 = some (.cells [a']) := by rw [x2.get 1 (by omega)]; exact gV
      rw [F.rules_Variables.L0_eq]
      simp only [e3, e4, e14, e15, e16, bindO_some, bindO2_some, outK_ret, condB_bool, cond_t, cond_f, fa_ptr, fa_iptr, part_none, Nat.zero_add, Nat.add_zero, Nat.reduceAdd, List.getElem?_cons_zero, List.getElem?_cons_succ, len_str, lenS_enc, lss_int, leq_int, gtr_int, geq_int, eq_int, ne_int, eq_str, ne_str, eq_bool, ne_bool, not_bool, extract_0, extract_1, extract_2, setV_eq, Nat.reduceEqDiff, reduceIte, lt_true hi, iaS_enc r.body hi, load_agg len_encCo hv, hs]
      simp only [bindO_some, bindO2_some, outK_ret, condB_bool, cond_t, cond_f, fa_ptr, fa_iptr, part_none, Nat.zero_add, Nat.add_zero, Nat.reduceAdd, List.getElem?_cons_zero, List.getElem?_cons_succ, len_str, lenS_enc, lss_int, leq_int, gtr_int, geq_int, eq_int, ne_int, eq_str, ne_str, eq_bool, ne_bool, not_bool, extract_0, extract_1, extract_2, setV_eq, Nat.reduceEqDiff, reduceIte, load_ptr k1, encCo, callV_func, List.nil_append, List.cons_append]
      refine semCall_true (rules_vars1 (xs := c.args) gV2 (by omega) (o'.ext x2) (by omega) (by have := vars_pre hf i; omega) fun a3 h3 s1 s2 s3 s4 => ?_)
      simp only [bindO_some, bindO2_some, outK_ret, condB_bool, cond_t, cond_f, fa_ptr, fa_iptr, part_none, Nat.zero_add, Nat.add_zero, Nat.reduceAdd, List.getElem?_cons_zero, List.getElem?_cons_succ, len_str, lenS_enc, lss_int, leq_int, gtr_int, geq_int, eq_int, ne_int, eq_str, ne_str, eq_bool, ne_bool, not_bool, extract_0, extract_1, extract_2, setV_eq, Nat.reduceEqDiff, reduceIte, succ_i64 hi (show r.body.l.length ≤ big by have := hf.2.1; unfold big; omega)]
      refine hn _ _ ⟨a3, s1, by rw [condVars_step hv]; exact s2, by omega, e3, e4, e14, e15, rfl⟩
    · rintro e h' ⟨a', gV, o', hn', e3, e4, e14, e15, e16⟩ K' hx
      rw [F.rules_Variables.L0_eq]
      simp only [e15, e16, bindO_some, bindO2_some, outK_ret, condB_bool, cond_t, cond_f, fa_ptr, fa_iptr, part_none, Nat.zero_add, Nat.add_zero, Nat.reduceAdd, List.getElem?_cons_zero, List.getElem?_cons_succ, len_str, lenS_enc, lss_int, leq_int, gtr_int, geq_int, eq_int, ne_int, eq_str, ne_str, eq_bool, ne_bool, not_bool, extract_0, extract_1, extract_2, setV_eq, Nat.reduceEqDiff, reduceIte, lt_false]
      rw [hx, F.rules_Variables.L0_x0_eq]
      simp only [e3, bindO_some, bindO2_some, outK_ret, condB_bool, cond_t, cond_f, fa_ptr, fa_iptr, part_none, Nat.zero_add, Nat.add_zero, Nat.reduceAdd, List.getElem?_cons_zero, List.getElem?_cons_succ, len_str, lenS_enc, lss_int, leq_int, gtr_int, geq_int, eq_int, ne_int, eq_str, ne_str, eq_bool, ne_bool, not_bool, extract_0, extract_1, extract_2, setV_eq, Nat.reduceEqDiff, reduceIte, load_ptr gV]
      rw [List.take_of_length_le (Nat.le_refl _)] at o'
      obtain ⟨x, hx1, hx2⟩ := o'.frzx (fun v y hy => by
        simp only [encS, List.mem_cons, List.not_mem_nil, or_false] at hy
        subst hy; exact .scalar _ rfl)
      exact yes_eq.2 ⟨a', x, rfl, hx1, hx2⟩
  refine main.frozen (by have := pure_encRu r; simpa [encRu, AV.pureL, AV.pure] using this) fun o h' ho => ?_
  obtain ⟨v, x, rfl, hx, hfz⟩ := yes_eq.1 ho
  exact ⟨v, _, rfl, hfz, hK x hx⟩
end
end Go.AM
/- The program's levels: arities, and one round of rising. Conditions: none. -/
namespace Go.AM
open Go Go.Proofs
set_option linter.unusedVariables false
set_option linter.unusedSimpArgs false
noncomputable section

theorem nilCheck_ptr (b o : Nat) : nilCheckS (.ptr b o) = some (.ptr b o) := rfl
theorem rules_arity {P M : Nat} {v w : AV} {h : Heap} {es : List Entry} {ck : Nat} {m : MapL} (hP : h.get P = some (.cells [v, .map M, w])) (hM : h.get M = some (.map es ck)) (hm : MapI es m) (hPn : P < h.next) (hMn : M < h.next) {nm : Str} {xs : Sl Str} {K : Out → Heap → Bool}
    (hK : ∀ h' es' ck', h'.get M = some (.map es' ck') → MapI es' (m.upd nm xs.l.length) → (∀ b, b < h.next → b ≠ M → h'.get b = h.get b) → h.next ≤ h'.next → K (.ret (.bool (match m.find nm with | none => true | some k => decide (k = (xs.l.length : Int))))) h' = true) :
    Sem Tryz.prog 62 [.ptr P 0, .agg [.str nm, encSl encS 1 xs]] h K := by
  refine F.rules_program_arity_sem ?_
  have hb : boxS (.agg [.str nm, encSl encS 1 xs]) = some (encAt nm xs) := box_agg (one_encAt nm xs)
  simp only [hb, bindO_some]
  have g0 : (Heap.alloc h (.cells (encAt nm xs))).get h.next = some (.cells (encAt nm xs)) := get_alloc_same _ _
  have gP : (Heap.alloc h (.cells (encAt nm xs))).get P = some (.cells [v, .map M, w]) := by rw [Heap.get_alloc, if_neg (by omega)]; exact hP
  have gM : (Heap.alloc h (.cells (encAt nm xs))).get M = some (.map es ck) := by rw [Heap.get_alloc, if_neg (by omega)]; exact hM
  have gx : HExt h (Heap.alloc h (.cells (encAt nm xs))) := HExt.alloc _ _
  generalize (Heap.alloc h (.cells (encAt nm xs))) = H at g0 gP gM gx ⊢
  have g0' : ∀ x, (H.set M x).get h.next = some (.cells (encAt nm xs)) := fun x => by rw [Heap.get_set, if_neg (by omega)]; exact g0
  obtain ⟨es', ck', hu, hue⟩ := update_map gM hm nm xs.l.length
  simp only [bindO_some, bindO2_some, outK_ret, condB_bool, cond_t, cond_f, fa_ptr, fa_iptr, part_none, Nat.zero_add, Nat.add_zero, Nat.reduceAdd, List.getElem?_cons_zero, List.getElem?_cons_succ, len_str, lenS_enc, lss_int, leq_int, gtr_int, geq_int, eq_int, ne_int, eq_str, ne_str, eq_bool, ne_bool, not_bool, extract_0, extract_1, extract_2, setV_eq, Nat.reduceEqDiff, reduceIte, nilCheck_ptr, load_ptr gP, load_ptr g0, encAt, lookup_map gM hm, hu]
  have fin := hK (H.set M (.map es' ck')) es' ck' (by rw [Heap.get_set, if_pos rfl]) hue (fun b hb hne => by rw [Heap.get_set, if_neg hne]; exact gx.get b hb) (by rw [Heap.next_set]; exact gx.next)
  cases hf : m.find nm with
  | none =>
    rw [hf] at fin
    simp only [Option.isSome_none, Bool.not_false, cond_t]
    exact fin
  | some k =>
    rw [hf] at fin
    simp only [Option.isSome_some, Bool.not_true, cond_f, Option.getD_some, bindO_some, bindO2_some, outK_ret, condB_bool, cond_t, cond_f, fa_ptr, fa_iptr, part_none, Nat.zero_add, Nat.add_zero, Nat.reduceAdd, List.getElem?_cons_zero, List.getElem?_cons_succ, len_str, lenS_enc, lss_int, leq_int, gtr_int, geq_int, eq_int, ne_int, eq_str, ne_str, eq_bool, ne_bool, not_bool, extract_0, extract_1, extract_2, setV_eq, Nat.reduceEqDiff, reduceIte, load_ptr (g0' _), encAt, int_beq]
    exact fin

theorem findA_at {d : TypeDesc} {k : AV} : ∀ {es : List Entry} {i j : Nat} {v : AV}, findA d k es i = some (some (j, v)) → ∃ n e, j = i + n ∧ es[n]? = some e
  | [], i, j, v, h => by simp [findA] at h
  | e :: es, i, j, v, h => by
    simp only [findA] at h
    split at h
    · cases h; exact ⟨0, e, rfl, rfl⟩
    · obtain ⟨n, f, h1, h2⟩ := findA_at h
      exact ⟨n + 1, f, by omega, by simpa using h2⟩
    · cases h
theorem findBorn_at : ∀ {es : List Entry} {i j : Nat} {e : Entry}, (es.map (·.2.2)).Nodup → es[i]? = some e → findBorn (e.2.2 : Int) es j = some (j + i)
  | [], i, j, e, _, h => by simp at h
  | f :: es, 0, j, e, _, h => by
    simp only [List.getElem?_cons_zero, Option.some.injEq] at h
    subst h; simp [findBorn]
  | f :: es, i + 1, j, e, hn, h => by
    rw [List.map_cons, List.nodup_cons] at hn
    rw [List.getElem?_cons_succ] at h
    have hne : ¬ ((f.2.2 : Int) = (e.2.2 : Int)) := fun heq => hn.1 (by
      have : f.2.2 = e.2.2 := by omega
      rw [this]; exact List.mem_map_of_mem (List.mem_of_getElem? h))
    rw [findBorn, if_neg hne, findBorn_at hn.2 h]
    congr 1; omega
theorem entry_map {b : Nat} {h : Heap} {es : List Entry} {ck : Nat} {m : MapL} (hb : h.get b = some (.map es ck)) (hm : MapI es m) (hB : Births es ck) {k : Str} {q : Int} (hk : m.find k = some q) (v : Int) :
    ∃ es' born, mapEntryS .string (.int .i64 0) (.map b) (.str k) h = some (.tuple [.int .i64 q, .int .i64 born], h) ∧ entryStoreS (.map b) (.int .i64 born) (.int .i64 v) h = some (h.set b (.map es' ck)) ∧ MapI es' (m.upd k v) ∧ Births es' ck := by
  obtain ⟨r, hr, hm'⟩ := MapI.findA (k := k) 0 hm
  cases r with
  | none => simp only at hm'; rw [hk] at hm'; cases hm'
  | some jv =>
    obtain ⟨n, q', hj, b', c, _, e⟩ := hm'
    obtain ⟨j, w⟩ := jv
    simp only [Nat.zero_add] at hj c
    subst hj; subst c
    rw [hk] at b'; cases b'
    obtain ⟨n, f, h1, h2⟩ := findA_at hr
    rw [Nat.zero_add] at h1; subst h1
    refine ⟨setEntry es j (.int .i64 v), (f.2.2 : Int), ?_, ?_, e v, hB.set _ _⟩
    · simp only [mapEntryS, hb, findK, keyOk, if_true, hr, bornAt, h2]
    · have := findBorn_at (j := 0) hB.nodup h2
      rw [Nat.zero_add] at this
      simp only [entryStoreS, hb, this]

/-- The map of levels in block `M`. -/
structure LevAt (hs : List Str) (h : Heap) (M : Nat) (ks : List Str) (lv : Lev.Lv) : Prop where
  ex : ∃ es ck m, h.get M = some (.map es ck) ∧ MapI es m ∧ Births es ck ∧ m.map (·.1) = ks ∧ ∀ x, m.find x = if x ∈ hs then some (lv x : Int) else none
theorem LevAt.keep {hs : List Str} {h h' : Heap} {M : Nat} {ks : List Str} {lv : Lev.Lv} (l : LevAt hs h M ks lv) (he : h'.get M = h.get M) : LevAt hs h' M ks lv := by
  obtain ⟨es, ck, m, h1, h2⟩ := l.ex
  exact ⟨es, ck, m, by rw [he]; exact h1, h2⟩
def edgeOf (r : RuleD) (c : CondD) : Lev.Edge := ⟨c.name, if c.neg then 1 else 0, r.name⟩
def edgeR (hs : List Str) (r : RuleD) (c : CondD) : List Lev.Edge := if c.kind = 0 ∧ c.name ∈ hs then [edgeOf r c] else []
def edgesR (hs : List Str) (r : RuleD) (cs : List CondD) : List Lev.Edge := cs.flatMap (edgeR hs r)
def edges (hs : List Str) (rs : List RuleD) : List Lev.Edge := rs.flatMap fun r => edgesR hs r r.body.l
theorem edgesR_step {hs : List Str} {r : RuleD} {cs : List CondD} {j : Nat} {c : CondD} (hc : cs[j]? = some c) : edgesR hs r (cs.take (j + 1)) = edgesR hs r (cs.take j) ++ edgeR hs r c := by
  unfold edgesR; rw [List.take_add_one, hc]; simp
theorem edges_step {hs : List Str} {rs : List RuleD} {i : Nat} {r : RuleD} (hr : rs[i]? = some r) : edges hs (rs.take (i + 1)) = edges hs (rs.take i) ++ edgesR hs r r.body.l := by
  unfold edges; rw [List.take_add_one, hr]; simp
end
end Go.AM
/- One round of rising, as the program runs it. Conditions: none. -/
namespace Go.AM
open Go Go.Proofs
set_option linter.unusedVariables false
set_option linter.unusedSimpArgs false
noncomputable section

theorem LevAt.look {hs : List Str} {h : Heap} {M : Nat} {ks : List Str} {lv : Lev.Lv} (l : LevAt hs h M ks lv) (k : Str) :
    lookupS .string (.int .i64 0) true (.map M) (.str k) h = some (.tuple [.int .i64 (if k ∈ hs then (lv k : Int) else 0), .bool (decide (k ∈ hs))]) := by
  obtain ⟨es, ck, m, h1, h2, h3, h4, h5⟩ := l.ex
  rw [lookup_map h1 h2, h5]
  by_cases hk : k ∈ hs <;> simp [hk]
theorem LevAt.lookf {hs : List Str} {h : Heap} {M : Nat} {ks : List Str} {lv : Lev.Lv} (l : LevAt hs h M ks lv) (k : Str) :
    lookupS .string (.int .i64 0) false (.map M) (.str k) h = some (.int .i64 (if k ∈ hs then (lv k : Int) else 0)) := by
  obtain ⟨es, ck, m, h1, h2, h3, h4, h5⟩ := l.ex
  rw [lookup_mapf h1 h2, h5]
  by_cases hk : k ∈ hs <;> simp [hk]
theorem LevAt.rise {hs : List Str} {h : Heap} {M : Nat} {ks : List Str} {lv : Lev.Lv} {e : Lev.Edge} (l : LevAt hs h M ks lv) (hh : e.h ∈ hs) (hlt : lv e.h < lv e.b + e.w) :
    ∃ born h', mapEntryS .string (.int .i64 0) (.map M) (.str e.h) h = some (.tuple [.int .i64 (lv e.h : Int), .int .i64 born], h) ∧ entryStoreS (.map M) (.int .i64 born) (.int .i64 ((lv e.b + e.w : Nat) : Int)) h = some h' ∧
      LevAt hs h' M ks (Lev.relax lv e) ∧ (∀ b, b ≠ M → h'.get b = h.get b) ∧ h'.next = h.next := by
  obtain ⟨es, ck, m, h1, h2, h3, h4, h5⟩ := l.ex
  have hf : m.find e.h = some (lv e.h : Int) := by rw [h5, if_pos hh]
  obtain ⟨es', born, q1, q2, q3, q4⟩ := entry_map h1 h2 h3 hf ((lv e.b + e.w : Nat) : Int)
  refine ⟨born, _, q1, q2, ⟨es', ck, _, by rw [Heap.get_set, if_pos rfl], q3, q4, ?_, fun x => ?_⟩, fun b hb => by rw [Heap.get_set, if_neg hb], Heap.next_set _ _ _⟩
  · rw [keys_upd, if_pos (List.mem_map.2 ⟨_, find_memI hf, rfl⟩)]; exact h4
  · rw [find_updI]
    unfold Lev.relax
    rw [if_pos hlt]
    by_cases hx : x = e.h
    · subst hx; rw [if_pos rfl, if_pos hh, if_pos rfl]
    · rw [if_neg hx, if_neg hx, h5]

theorem rules_rise {P M : Nat} {A : AV} {rules : Sl RuleD} {hs ks : List Str} {lv : Lev.Lv} {N : Nat} {h : Heap} (hP : h.get P = some (.cells [encSl encRu 3 rules, A, .map M])) (hl : LevAt hs h M ks lv) (hPn : P < h.next) (hMn : M < h.next)
    (hr : rules.l.length ≤ 60) (hb : ∀ r ∈ rules.l, r.body.l.length ≤ 20 ∧ r.name ∈ hs) (hN : ∀ x, lv x ≤ N) (hNb : N ≤ 1000000) {K : Out → Heap → Bool}
    (hK : ∀ h', LevAt hs h' M ks (Lev.round (edges hs rules.l) lv) → (∀ b, b < h.next → b ≠ M → h'.get b = h.get b) → h.next ≤ h'.next → K (.ret (.bool (!decide (Lev.Stable (edges hs rules.l) lv)))) h' = true) : Sem Tryz.prog 65 [.ptr P 0] h K := by
  have hPM : P ≠ M := fun e => by
    obtain ⟨es, ck, m, h1, _⟩ := hl.ex
    rw [e, h1] at hP; cases hP
  refine F.rules_program_rise_sem ?_
  simp only [bindO_some, bindO2_some, outK_ret, condB_bool, cond_t, cond_f, fa_ptr, fa_iptr, part_none, Nat.zero_add, Nat.add_zero, Nat.reduceAdd, List.getElem?_cons_zero, List.getElem?_cons_succ, len_str, lenS_enc, lss_int, leq_int, gtr_int, geq_int, eq_int, ne_int, eq_str, ne_str, eq_bool, ne_bool, not_bool, extract_0, extract_1, extract_2, setV_eq, Nat.reduceEqDiff, reduceIte, nilCheck_ptr, load_ptr hP]
  refine loopB_range 0 rules.l.length (Nat.zero_le _) (fun i e h' => ∃ cur ch, Lev.RS lv cur (edges hs (rules.l.take i)) ch ∧ LevAt hs h' M ks cur ∧ (∀ x, cur x ≤ N + i * 20) ∧ (∀ b, b < h.next → b ≠ M → h'.get b = h.get b) ∧ h.next ≤ h'.next ∧
    e 0 = .ptr P 0 ∧ e 3 = .bool ch ∧ e 13 = encSl encRu 3 rules ∧ e 14 = .int .i64 (rules.l.length : Int) ∧ e 15 = .int .i64 (i : Int)) ⟨lv, false, Lev.RS.nil lv, hl, by simpa using hN, fun _ _ _ => rfl, Nat.le_refl _, rfl, rfl, rfl, rfl, rfl⟩ ?_ ?_
  · rintro i e h' _ hi ⟨cur, ch, rs, la, bd, fr, hn', e0, e3, e13, e14, e15⟩ K' hn hx hr' hp
    have hv : rules.l[i]? = some rules.l[i] := List.getElem?_eq_getElem hi
    generalize rules.l[i] = r at hv
    obtain ⟨hb20, hin⟩ := hb r (List.mem_of_getElem? hv)
    obtain ⟨H, hs1, g1, go, gn⟩ := store_new (h := h') (zs := [.str [], .nils, .nils]) (cs := encRu r) (n := 3) rfl rfl (one_encRu r)
    rw [F.rules_program_rise.L0_eq]
    simp only [e0, e3, e13, e14, e15, bindO_some, bindO2_some, outK_ret, condB_bool, cond_t, cond_f, fa_ptr, fa_iptr, part_none, Nat.zero_add, Nat.add_zero, Nat.reduceAdd, List.getElem?_cons_zero, List.getElem?_cons_succ, len_str, lenS_enc, lss_int, leq_int, gtr_int, geq_int, eq_int, ne_int, eq_str, ne_str, eq_bool, ne_bool, not_bool, extract_0, extract_1, extract_2, setV_eq, Nat.reduceEqDiff, reduceIte, lt_true hi, iaS_enc rules hi, load_agg len_encRu hv, hs1]
    simp only [bindO_some, bindO2_some, outK_ret, condB_bool, cond_t, cond_f, fa_ptr, fa_iptr, part_none, Nat.zero_add, Nat.add_zero, Nat.reduceAdd, List.getElem?_cons_zero, List.getElem?_cons_succ, len_str, lenS_enc, lss_int, leq_int, gtr_int, geq_int, eq_int, ne_int, eq_str, ne_str, eq_bool, ne_bool, not_bool, extract_0, extract_1, extract_2, setV_eq, Nat.reduceEqDiff, reduceIte, load_ptr g1, encRu]
    refine loopB_range 0 r.body.l.length (Nat.zero_le _) (fun j e h2 => ∃ cur ch, Lev.RS lv cur (edges hs (rules.l.take i) ++ edgesR hs r (r.body.l.take j)) ch ∧ LevAt hs h2 M ks cur ∧ (∀ x, cur x ≤ N + i * 20 + j) ∧ (∀ b, b < h.next → b ≠ M → h2.get b = h.get b) ∧ h2.get h'.next = some (.cells (encRu r)) ∧ h'.next < h2.next ∧
      e 0 = .ptr P 0 ∧ e 3 = .bool ch ∧ e 5 = .ptr h'.next 0 ∧ e 13 = encSl encRu 3 rules ∧ e 14 = .int .i64 (rules.l.length : Int) ∧ e 15 = .int .i64 (i : Int) ∧ e 20 = encSl encCo 4 r.body ∧ e 21 = .int .i64 (r.body.l.length : Int) ∧ e 22 = .int .i64 (j : Int))
      ⟨cur, ch, by simpa [edgesR] using rs, la.keep (go M (by omega)), by simpa using bd, fun b hb1 hb2 => by rw [go b (by omega)]; exact fr b hb1 hb2, g1, by omega, e0, e3, rfl, e13, e14, e15, rfl, rfl, rfl⟩ ?_ ?_
    · rintro j e h2 _ hj ⟨cur, ch, rs, la, bd, fr, gR, hn2, e0, e3, e5, e13, e14, e15, e20, e21, e22⟩ K2 hn2' hx2 hr2 hp2
      have hc : r.body.l[j]? = some r.body.l[j] := List.getElem?_eq_getElem hj
      generalize r.body.l[j] = c at hc
      obtain ⟨H2, hs2, k1, ko, kn⟩ := store_new (h := h2) (zs := [.int .i64 0, .bool false, .str [], .nils]) (cs := encCo c) (n := 4) rfl rfl (one_encCo c)
      have la2 : LevAt hs H2 M ks cur := la.keep (ko M (by omega))
      have gP2 : H2.get P = some (.cells [encSl encRu 3 rules, A, .map M]) := by rw [ko P (by omega), fr P hPn hPM]; exact hP
      have gR2 : H2.get h'.next = some (.cells (encRu r)) := by rw [ko _ (by omega)]; exact gR
      have fr2 : ∀ b, b < h.next → b ≠ M → H2.get b = h.get b := fun b hb1 hb2 => by rw [ko b (by omega)]; exact fr b hb1 hb2
      have hbig : r.body.l.length ≤ big := by unfold big; omega
      have hst := edgesR_step (hs := hs) (r := r) hc
      rw [F.rules_program_rise.L1_eq]
      simp only [e0, e3, e5, e13, e14, e15, e20, e21, e22, bindO_some, bindO2_some, outK_ret, condB_bool, cond_t, cond_f, fa_ptr, fa_iptr, part_none, Nat.zero_add, Nat.add_zero, Nat.reduceAdd, List.getElem?_cons_zero, List.getElem?_cons_succ, len_str, lenS_enc, lss_int, leq_int, gtr_int, geq_int, eq_int, ne_int, eq_str, ne_str, eq_bool, ne_bool, not_bool, extract_0, extract_1, extract_2, setV_eq, Nat.reduceEqDiff, reduceIte, lt_true hj, iaS_enc r.body hj, load_agg len_encCo hc, hs2]
      simp only [bindO_some, bindO2_some, outK_ret, condB_bool, cond_t, cond_f, fa_ptr, fa_iptr, part_none, Nat.zero_add, Nat.add_zero, Nat.reduceAdd, List.getElem?_cons_zero, List.getElem?_cons_succ, len_str, lenS_enc, lss_int, leq_int, gtr_int, geq_int, eq_int, ne_int, eq_str, ne_str, eq_bool, ne_bool, not_bool, extract_0, extract_1, extract_2, setV_eq, Nat.reduceEqDiff, reduceIte, load_ptr k1, nilCheck_ptr, load_ptr gP2, encCo, la2.look, int_beq]
      by_cases k0 : c.kind = 0
      · simp only [decide_eq_true k0, Bool.not_true, cond_f]
        by_cases hm : c.name ∈ hs
        · have hed : edgeR hs r c = [edgeOf r c] := by unfold edgeR; rw [if_pos ⟨k0, hm⟩]
          rw [hed] at hst
          simp only [decide_eq_true hm, Bool.not_true, cond_f, if_pos hm, bindO_some, bindO2_some, outK_ret, condB_bool, cond_t, cond_f, fa_ptr, fa_iptr, part_none, Nat.zero_add, Nat.add_zero, Nat.reduceAdd, List.getElem?_cons_zero, List.getElem?_cons_succ, len_str, lenS_enc, lss_int, leq_int, gtr_int, geq_int, eq_int, ne_int, eq_str, ne_str, eq_bool, ne_bool, not_bool, extract_0, extract_1, extract_2, setV_eq, Nat.reduceEqDiff, reduceIte, load_ptr k1, encCo]
          have J : ∀ e' : Env, e' 0 = .ptr P 0 → e' 3 = .bool ch → e' 5 = .ptr h'.next 0 → e' 8 = .int .i64 ((cur c.name + (edgeOf r c).w : Nat) : Int) → e' 13 = encSl encRu 3 rules → e' 14 = .int .i64 (rules.l.length : Int) → e' 15 = .int .i64 (i : Int) → e' 20 = encSl encCo 4 r.body → e' 21 = .int .i64 (r.body.l.length : Int) → e' 22 = .int .i64 (j : Int) →
              F.rules_program_rise.J0 K2 ⟨e', 71, [], H2⟩ = true := by
            intro e' e0 e3 e5 e8 e13 e14 e15 e20 e21 e22
            rw [F.rules_program_rise.J0_eq]
            simp only [e0, e5, e8, bindO_some, bindO2_some, outK_ret, condB_bool, cond_t, cond_f, fa_ptr, fa_iptr, part_none, Nat.zero_add, Nat.add_zero, Nat.reduceAdd, List.getElem?_cons_zero, List.getElem?_cons_succ, len_str, lenS_enc, lss_int, leq_int, gtr_int, geq_int, eq_int, ne_int, eq_str, ne_str, eq_bool, ne_bool, not_bool, extract_0, extract_1, extract_2, setV_eq, Nat.reduceEqDiff, reduceIte, nilCheck_ptr, load_ptr gP2, load_ptr gR2, encRu, la2.lookf, if_pos hin]
            by_cases hlt : cur r.name < cur c.name + (edgeOf r c).w
            · obtain ⟨born, h3, q1, q2, q3, q4, q5⟩ := la2.rise (e := edgeOf r c) hin hlt
              have q1' : mapEntryS .string (.int .i64 0) (.map M) (.str r.name) H2 = some (.tuple [.int .i64 (cur r.name : Int), .int .i64 born], H2) := q1
              have q2' : entryStoreS (.map M) (.int .i64 born) (.int .i64 ((cur c.name + (edgeOf r c).w : Nat) : Int)) H2 = some h3 := q2
              simp only [lt_true hlt, cond_t, e0, e5, e8, e22, bindO_some, bindO2_some, outK_ret, condB_bool, cond_t, cond_f, fa_ptr, fa_iptr, part_none, Nat.zero_add, Nat.add_zero, Nat.reduceAdd, List.getElem?_cons_zero, List.getElem?_cons_succ, len_str, lenS_enc, lss_int, leq_int, gtr_int, geq_int, eq_int, ne_int, eq_str, ne_str, eq_bool, ne_bool, not_bool, extract_0, extract_1, extract_2, setV_eq, Nat.reduceEqDiff, reduceIte, nilCheck_ptr, load_ptr gP2, load_ptr gR2, encRu, q1', q2', succ_i64 hj hbig]
              refine hn2' _ _ ⟨_, true, ?_, q3, fun x => ?_, fun b hb1 hb2 => by rw [q4 b hb2]; exact fr2 b hb1 hb2, ?_, by omega, e0, rfl, e5, e13, e14, e15, e20, e21, rfl⟩
              · rw [hst, ← List.append_assoc]; exact rs.up hlt
              · have := Lev.relax_bound (e := edgeOf r c) bd (by unfold edgeOf; simp only; split <;> omega) x; omega
              · rw [q4 _ (by omega)]; exact gR2
            · simp only [decide_eq_false (by omega : ¬ ((cur r.name : Int) < ((cur c.name + (edgeOf r c).w : Nat) : Int))), cond_f, e22, succ_i64 hj hbig, bindO_some]
              exact hn2' _ _ ⟨cur, ch, by rw [hst, ← List.append_assoc]; exact rs.same hlt, la2, fun x => by have := bd x; omega, fr2, gR2, by omega, e0, e3, e5, e13, e14, e15, e20, e21, rfl⟩
          cases hng : c.neg with
          | true =>
            have hw : (edgeOf r c).w = 1 := by unfold edgeOf; simp [hng]
            have hadd := succ_i64 (i := cur c.name) (n := 2000000) (by have := bd c.name; omega) (by unfold big; omega)
            simp only [cond_t, hadd, bindO_some]
            exact J _ e0 e3 e5 (by rw [hw]; rfl) e13 e14 e15 e20 e21 e22
          | false =>
            have hw : (edgeOf r c).w = 0 := by unfold edgeOf; simp [hng]
            simp only [cond_f]
            exact J _ e0 e3 e5 (by rw [hw]; rfl) e13 e14 e15 e20 e21 e22
        · have hed : edgeR hs r c = [] := by unfold edgeR; rw [if_neg (fun h => hm h.2)]
          rw [hed, List.append_nil] at hst
          simp only [decide_eq_false hm, Bool.not_false, cond_t, succ_i64 hj hbig, bindO_some]
          exact hn2' _ _ ⟨cur, ch, by rw [hst]; exact rs, la2, fun x => by have := bd x; omega, fr2, gR2, by omega, e0, e3, e5, e13, e14, e15, e20, e21, rfl⟩
      · have hed : edgeR hs r c = [] := by unfold edgeR; rw [if_neg (fun h => k0 h.1)]
        rw [hed, List.append_nil] at hst
        simp only [decide_eq_false k0, Bool.not_false, cond_t, succ_i64 hj hbig, bindO_some]
        exact hn2' _ _ ⟨cur, ch, by rw [hst]; exact rs, la2, fun x => by have := bd x; omega, fr2, gR2, by omega, e0, e3, e5, e13, e14, e15, e20, e21, rfl⟩
    · rintro e h2 ⟨cur, ch, rs, la, bd, fr, gR, hn2, e0, e3, e5, e13, e14, e15, e20, e21, e22⟩ K2 hx2
      rw [F.rules_program_rise.L1_eq]
      simp only [e21, e22, bindO_some, bindO2_some, outK_ret, condB_bool, cond_t, cond_f, fa_ptr, fa_iptr, part_none, Nat.zero_add, Nat.add_zero, Nat.reduceAdd, List.getElem?_cons_zero, List.getElem?_cons_succ, len_str, lenS_enc, lss_int, leq_int, gtr_int, geq_int, eq_int, ne_int, eq_str, ne_str, eq_bool, ne_bool, not_bool, extract_0, extract_1, extract_2, setV_eq, Nat.reduceEqDiff, reduceIte, lt_false]
      rw [hx2, F.rules_program_rise.L1_x2_eq]
      simp only [e15, bindO_some, bindO2_some, outK_ret, condB_bool, cond_t, cond_f, fa_ptr, fa_iptr, part_none, Nat.zero_add, Nat.add_zero, Nat.reduceAdd, List.getElem?_cons_zero, List.getElem?_cons_succ, len_str, lenS_enc, lss_int, leq_int, gtr_int, geq_int, eq_int, ne_int, eq_str, ne_str, eq_bool, ne_bool, not_bool, extract_0, extract_1, extract_2, setV_eq, Nat.reduceEqDiff, reduceIte, succ_i64 hi (show rules.l.length ≤ big by unfold big; omega), bindO_some]
      rw [List.take_of_length_le (Nat.le_refl _), ← edges_step hv] at rs
      exact hn _ _ ⟨cur, ch, rs, la, fun x => by have := bd x; omega, fr, by omega, e0, e3, e13, e14, rfl⟩
  · rintro e h' ⟨cur, ch, rs, la, bd, fr, hn', e0, e3, e13, e14, e15⟩ K' hx
    rw [F.rules_program_rise.L0_eq]
    simp only [e14, e15, bindO_some, bindO2_some, outK_ret, condB_bool, cond_t, cond_f, fa_ptr, fa_iptr, part_none, Nat.zero_add, Nat.add_zero, Nat.reduceAdd, List.getElem?_cons_zero, List.getElem?_cons_succ, len_str, lenS_enc, lss_int, leq_int, gtr_int, geq_int, eq_int, ne_int, eq_str, ne_str, eq_bool, ne_bool, not_bool, extract_0, extract_1, extract_2, setV_eq, Nat.reduceEqDiff, reduceIte, lt_false]
    rw [hx, F.rules_program_rise.L0_x0_eq]
    rw [List.take_of_length_le (Nat.le_refl _)] at rs
    obtain ⟨d1, d2⟩ := rs.done
    simp only [setV_eq, Nat.reduceEqDiff, reduceIte, e3]
    rw [d2]
    rw [d1] at la
    exact hK h' la fr hn'
end
end Go.AM
/- What the program makes of rules: arities that agree, and levels that settle. Conditions: none. -/
namespace Go.AM
open Go Go.Proofs
set_option linter.unusedVariables false
set_option linter.unusedSimpArgs false
noncomputable section

theorem agg_P (x : Sl RuleD) (A M : Nat) : aggS [.nils, .nilm, .nilm] [(0, 1), (1, 1), (2, 1)] [encSl encRu 3 x, .map A, .map M] = some (.agg [encSl encRu 3 x, .map A, .map M]) := by cases x <;> rfl
theorem box_P (x : Sl RuleD) (A M : Nat) : boxS (.agg [encSl encRu 3 x, .map A, .map M]) = some [encSl encRu 3 x, .map A, .map M] := box_agg (by simp only [oneAll, one_encSl]; rfl)
def arStep (m : MapL) (nm : Str) (n : Nat) : Option MapL := match m.find nm with
  | none => some (m.upd nm n)
  | some k => if k = (n : Int) then some (m.upd nm n) else none
def condsGo : List CondD → MapL → Option MapL
  | [], m => some m
  | c :: cs, m => bif condOk c then (if c.kind = 0 then (match arStep m c.name c.args.l.length with | none => none | some m' => condsGo cs m') else condsGo cs m) else none
def rulesGo : List RuleD → MapL → Option MapL
  | [], m => some m
  | r :: rs, m => bif atomB r.name r.args.l then (match arStep m r.name r.args.l.length with
      | none => none
      | some m1 => if 20 < r.body.l.length then none else if 12 < (varsOf r).length then none else match condsGo r.body.l m1 with
        | none => none
        | some m2 => rulesGo rs m2) else none
theorem drop_step {α : Type} {l : List α} {i : Nat} {a : α} (h : l[i]? = some a) : l.drop i = a :: l.drop (i + 1) := by
  have hi : i < l.length := (List.getElem?_eq_some_iff.1 h).1
  rw [List.drop_eq_getElem_cons hi]
  rw [List.getElem?_eq_getElem hi] at h
  cases h; rfl
theorem LevAt.add {hs : List Str} {h : Heap} {M : Nat} {ks : List Str} (l : LevAt hs h M ks (fun _ => 0)) (hn : ks.Nodup) (nm : Str) :
    ∃ h' ks', mapUpdateS .string (.map M) (.str nm) (.int .i64 0) h = some h' ∧ LevAt (hs ++ [nm]) h' M ks' (fun _ => 0) ∧ ks'.Nodup ∧ (∀ b, b ≠ M → h'.get b = h.get b) ∧ h'.next = h.next := by
  obtain ⟨es, ck, m, h1, h2, h3, h4, h5⟩ := l.ex
  obtain ⟨es', ck', q1, q2⟩ := update_map h1 h2 nm 0
  have g : (h.set M (.map es' ck')).get M = some (.map es' ck') := by rw [Heap.get_set, if_pos rfl]
  refine ⟨_, (m.upd nm 0).map (·.1), q1, ⟨es', ck', _, g, q2, update_births h1 h3 q1 g, rfl, fun x => ?_⟩, nodup_upd (by rw [h4]; exact hn) nm 0, fun b hb => by rw [Heap.get_set, if_neg hb], Heap.next_set _ _ _⟩
  rw [find_updI, h5]
  by_cases hx : x = nm
  · subst hx; simp
  · simp [hx]
theorem LevAt.mem {hs : List Str} {h : Heap} {M : Nat} {ks : List Str} {lv : Lev.Lv} (l : LevAt hs h M ks lv) (x : Str) : x ∈ ks ↔ x ∈ hs := by
  obtain ⟨es, ck, m, h1, h2, h3, h4, h5⟩ := l.ex
  rw [← h4]
  constructor
  · intro hx
    obtain ⟨p, hp, rfl⟩ := List.mem_map.1 hx
    have h6 := h5 p.1
    by_cases hh : p.1 ∈ hs
    · exact hh
    · rw [if_neg hh] at h6
      unfold MapL.find at h6
      rw [Option.map_eq_none_iff, List.find?_eq_none] at h6
      exact absurd (h6 p hp) (by simp)
  · intro hx
    have h6 := h5 x
    rw [if_pos hx] at h6
    exact List.mem_map.2 ⟨_, find_memI h6, rfl⟩
theorem LevAt.len {hs : List Str} {h : Heap} {M : Nat} {ks : List Str} {lv : Lev.Lv} (l : LevAt hs h M ks lv) : lenS .map (.map M) h = some (.int .i64 (ks.length : Int)) := by
  obtain ⟨es, ck, m, h1, h2, h3, h4, h5⟩ := l.ex
  have : ∀ (es : List Entry) (m : MapL), MapI es m → es.length = m.length := by
    intro es
    induction es with
    | nil => intro m hm; cases m with
      | nil => rfl
      | cons p m => exact hm.elim
    | cons e es ih => intro m hm; cases m with
      | nil => exact hm.elim
      | cons p m => rw [List.length_cons, List.length_cons, ih m hm.2.2]
  have hl := this es m h2
  rw [← h4, List.length_map, ← hl]
  simp [lenS, entriesS, h1]
theorem fold_bound : ∀ {E : List Lev.Edge} {L : Lev.Lv} {N : Nat}, (∀ e ∈ E, e.w ≤ 1) → (∀ x, L x ≤ N) → ∀ x, E.foldl Lev.relax L x ≤ N + E.length
  | [], L, N, _, h, x => h x
  | e :: E, L, N, hw, h, x => by
    have := fold_bound (E := E) (L := Lev.relax L e) (N := N + 1) (fun f hf => hw f (List.mem_cons_of_mem _ hf)) (Lev.relax_bound h (hw e List.mem_cons_self)) x
    rw [List.length_cons]
    show E.foldl Lev.relax (Lev.relax L e) x ≤ _
    omega
theorem edgesR_len (hs : List Str) (r : RuleD) : ∀ cs : List CondD, (edgesR hs r cs).length ≤ cs.length
  | [] => Nat.le_refl _
  | c :: cs => by
    have := edgesR_len hs r cs
    have h1 : (edgeR hs r c).length ≤ 1 := by unfold edgeR; split <;> simp
    show (edgeR hs r c ++ edgesR hs r cs).length ≤ _
    rw [List.length_append, List.length_cons]; omega
theorem edges_len (hs : List Str) : ∀ rs : List RuleD, (∀ r ∈ rs, r.body.l.length ≤ 20) → (edges hs rs).length ≤ rs.length * 20
  | [], _ => Nat.le_refl _
  | r :: rs, h => by
    have h1 := edges_len hs rs fun q hq => h q (List.mem_cons_of_mem _ hq)
    have h2 := edgesR_len hs r r.body.l
    have h3 := h r List.mem_cons_self
    show (edgesR hs r r.body.l ++ edges hs rs).length ≤ _
    rw [List.length_append, List.length_cons]; omega
theorem edges_of {hs : List Str} {rs : List RuleD} {e : Lev.Edge} (he : e ∈ edges hs rs) : ∃ r ∈ rs, ∃ c ∈ r.body.l, c.kind = 0 ∧ c.name ∈ hs ∧ e = edgeOf r c := by
  obtain ⟨r, hr, he⟩ := List.mem_flatMap.1 he
  obtain ⟨c, hc, he⟩ := List.mem_flatMap.1 he
  unfold edgeR at he
  split at he
  · rename_i h; rw [List.mem_singleton] at he; exact ⟨r, hr, c, hc, h.1, h.2, he⟩
  · cases he
theorem edge_w (r : RuleD) (c : CondD) : (edgeOf r c).w ≤ 1 := by unfold edgeOf; simp only; split <;> omega
theorem rulesGo_ok : ∀ {rs : List RuleD} {m m' : MapL}, rulesGo rs m = some m' → ∀ r ∈ rs, atomB r.name r.args.l = true ∧ r.body.l.length ≤ 20 ∧ (varsOf r).length ≤ 12
  | [], _, _, _, r, hr => by cases hr
  | r0 :: rs, m, m', h, r, hr => by
    rw [rulesGo] at h
    cases ha : atomB r0.name r0.args.l with
    | false => rw [ha] at h; cases h
    | true =>
      rw [ha, cond_true] at h
      split at h
      · cases h
      · split at h
        · cases h
        · split at h
          · cases h
          · split at h
            · cases h
            · rcases List.mem_cons.1 hr with rfl | hr
              · exact ⟨ha, by omega, by omega⟩
              · exact rulesGo_ok h r hr
def headsOf (rs : List RuleD) : List Str := rs.map (·.name)
def edgesP (rs : List RuleD) : List Lev.Edge := edges (headsOf rs) rs
/-- The rules are as they should be, and their levels settle. -/
structure GoodP (rs : List RuleD) : Prop where
  few : rs.length ≤ 60
  go : ∃ m, rulesGo rs [] = some m
  lev : ∃ k, Lev.Stable (edgesP rs) (Lev.iter (edgesP rs) k)
theorem iter_bound {rs : List RuleD} (h60 : rs.length ≤ 60) (h20 : ∀ r ∈ rs, r.body.l.length ≤ 20) : ∀ k x, Lev.iter (edgesP rs) k x ≤ k * 1200
  | 0, x => Nat.zero_le _
  | k + 1, x => by
    have h1 := fold_bound (E := edgesP rs) (L := Lev.iter (edgesP rs) k) (N := k * 1200) (fun e he => by obtain ⟨r, _, c, _, _, _, rfl⟩ := edges_of he; exact edge_w r c) (iter_bound h60 h20 k) x
    have h2 : (edgesP rs).length ≤ rs.length * 20 := edges_len _ rs h20
    show (edgesP rs).foldl Lev.relax (Lev.iter (edgesP rs) k) x ≤ _
    omega
end
end Go.AM
/- rules.of: the program's own form of rules, where they are good. Conditions: none. -/
namespace Go.AM
open Go Go.Proofs
set_option linter.unusedVariables false
set_option linter.unusedSimpArgs false
noncomputable section

def arOk (m : MapL) (nm : Str) (n : Nat) : Bool := match m.find nm with | none => true | some k => decide (k = (n : Int))
theorem arStep_eq (m : MapL) (nm : Str) (n : Nat) : arStep m nm n = if arOk m nm n = true then some (m.upd nm n) else none := by
  unfold arStep arOk
  cases m.find nm with
  | none => rfl
  | some k => by_cases h : k = (n : Int) <;> simp [h]
theorem rules_arity' {P M : Nat} {v w : AV} {h : Heap} {es : List Entry} {ck : Nat} {m : MapL} (hP : h.get P = some (.cells [v, .map M, w])) (hM : h.get M = some (.map es ck)) (hm : MapI es m) (hPn : P < h.next) (hMn : M < h.next) {nm : Str} {xs : Sl Str} {K : Out → Heap → Bool}
    (hK : ∀ h' es' ck', h'.get M = some (.map es' ck') → MapI es' (m.upd nm xs.l.length) → (∀ b, b < h.next → b ≠ M → h'.get b = h.get b) → h.next ≤ h'.next → K (.ret (.bool (arOk m nm xs.l.length))) h' = true) :
    Sem Tryz.prog 62 [.ptr P 0, .agg [.str nm, encSl encS 1 xs]] h K := rules_arity hP hM hm hPn hMn hK

set_option maxHeartbeats 1000000 in
theorem rules_of {rules : Sl RuleD} (hok : ∀ r ∈ rules.l, r.ok) (hfew : ∀ r ∈ rules.l, r.few) {h : Heap} {K : Out → Heap → Bool}
    (hno : ¬ GoodP rules.l → ∀ h', K (.ret (.tuple [.nilp, .bool false])) h' = true)
    (hyes : ∀ h' P A M ks k, GoodP rules.l → Lev.Stable (edgesP rules.l) (Lev.iter (edgesP rules.l) k) → h'.get P = some (.cells [encSl encRu 3 rules, .map A, .map M]) → LevAt (headsOf rules.l) h' M ks (Lev.iter (edgesP rules.l) k) → ks.Nodup → P < h'.next → M < h'.next →
      K (.ret (.tuple [.ptr P 0, .bool true])) h' = true) : Sem Tryz.prog 25 [encSl encRu 3 rules] h K := by
  refine F.rules_of_sem ?_
  simp only [Heap.next_alloc, agg_P, box_P, bindO_some]
  have gA : (Heap.alloc (Heap.alloc (Heap.alloc h (.map [] 0)) (.map [] 0)) (.cells [encSl encRu 3 rules, .map h.next, .map (h.next + 1)])).get h.next = some (.map [] 0) := by
    rw [Heap.get_alloc, Heap.next_alloc, Heap.next_alloc, if_neg (by omega), Heap.get_alloc, Heap.next_alloc, if_neg (by omega)]; exact get_alloc_same _ _
  have gM : (Heap.alloc (Heap.alloc (Heap.alloc h (.map [] 0)) (.map [] 0)) (.cells [encSl encRu 3 rules, .map h.next, .map (h.next + 1)])).get (h.next + 1) = some (.map [] 0) := by
    rw [Heap.get_alloc, Heap.next_alloc, Heap.next_alloc, if_neg (by omega)]; exact get_alloc_same _ _
  have gP : (Heap.alloc (Heap.alloc (Heap.alloc h (.map [] 0)) (.map [] 0)) (.cells [encSl encRu 3 rules, .map h.next, .map (h.next + 1)])).get (h.next + 1 + 1) = some (.cells [encSl encRu 3 rules, .map h.next, .map (h.next + 1)]) := get_alloc_same _ _
  have gn : (Heap.alloc (Heap.alloc (Heap.alloc h (.map [] 0)) (.map [] 0)) (.cells [encSl encRu 3 rules, .map h.next, .map (h.next + 1)])).next = h.next + 1 + 1 + 1 := rfl
  generalize (Heap.alloc (Heap.alloc (Heap.alloc h (.map [] 0)) (.map [] 0)) (.cells [encSl encRu 3 rules, .map h.next, .map (h.next + 1)])) = H0 at gA gM gP gn ⊢
  obtain ⟨A, hA⟩ : ∃ A, A = h.next := ⟨_, rfl⟩
  obtain ⟨M, hM⟩ : ∃ M, M = h.next + 1 := ⟨_, rfl⟩
  obtain ⟨P, hP⟩ : ∃ P, P = h.next + 1 + 1 := ⟨_, rfl⟩
  rw [← hP] at gP gn ⊢
  rw [← hM] at gM gP ⊢
  rw [← hA] at gA gP ⊢
  have hAM : A < M := by omega
  have hMP : M < P := by omega
  clear hA hM hP
  simp only [bindO_some, bindO2_some, outK_ret, condB_bool, cond_t, cond_f, fa_ptr, fa_iptr, part_none, Nat.zero_add, Nat.add_zero, Nat.reduceAdd, List.getElem?_cons_zero, List.getElem?_cons_succ, len_str, lenS_enc, lss_int, leq_int, gtr_int, geq_int, eq_int, ne_int, eq_str, ne_str, eq_bool, ne_bool, not_bool, extract_0, extract_1, extract_2, setV_eq, Nat.reduceEqDiff, reduceIte]
  by_cases h61 : 60 < rules.l.length
  · simp only [decide_eq_true (by omega : (60 : Int) < (rules.l.length : Int)), cond_t]
    exact hno (fun hg => by have := hg.few; omega) _
  have h60 : rules.l.length ≤ 60 := by omega
  simp only [decide_eq_false (by omega : ¬ (60 : Int) < (rules.l.length : Int)), cond_f]
  have hbig : rules.l.length ≤ big := by unfold big; omega
  have bad : rulesGo rules.l [] = none → ∀ h', K (.ret (.tuple [.nilp, .bool false])) h' = true := fun hn h' => hno (fun hg => by obtain ⟨m, hm⟩ := hg.go; rw [hn] at hm; cases hm) h'
  refine loopB_range 0 rules.l.length (Nat.zero_le _) (fun i e h' => ∃ m ks es ck, rulesGo rules.l [] = rulesGo (rules.l.drop i) m ∧ h'.get A = some (.map es ck) ∧ MapI es m ∧ LevAt (headsOf (rules.l.take i)) h' M ks (fun _ => 0) ∧ ks.Nodup ∧
    h'.get P = some (.cells [encSl encRu 3 rules, .map A, .map M]) ∧ P < h'.next ∧ e 4 = .ptr P 0 ∧ e 17 = encSl encRu 3 rules ∧ e 18 = .int .i64 (rules.l.length : Int) ∧ e 19 = .int .i64 (i : Int))
    ⟨[], [], [], 0, rfl, gA, trivial, ⟨[], 0, [], gM, trivial, Births.nil 0, rfl, fun x => by simp [headsOf, MapL.find]⟩, List.nodup_nil, gP, by omega, rfl, rfl, rfl, rfl⟩ ?_ ?_
  · rintro i e h' _ hi ⟨m, ks, es, ck, hm, qA, hmI, la, hks, qP, hPn, e4, e17, e18, e19⟩ K' hn hx hr hp
    have hv : rules.l[i]? = some rules.l[i] := List.getElem?_eq_getElem hi
    generalize rules.l[i] = r at hv
    have hrok := hok r (List.mem_of_getElem? hv)
    have hrf := hfew r (List.mem_of_getElem? hv)
    obtain ⟨H, hs1, g1, go, gn1⟩ := store_new (h := h') (zs := [.str [], .nils, .nils]) (cs := encRu r) (n := 3) rfl rfl (one_encRu r)
    have pA : H.get A = some (.map es ck) := by rw [go A (by omega)]; exact qA
    have pP : H.get P = some (.cells [encSl encRu 3 rules, .map A, .map M]) := by rw [go P (by omega)]; exact qP
    have pl : LevAt (headsOf (rules.l.take i)) H M ks (fun _ => 0) := la.keep (go M (by omega))
    rw [drop_step hv, rulesGo] at hm
    rw [F.rules_of.L0_eq]
    simp only [e4, e17, e18, e19, bindO_some, bindO2_some, outK_ret, condB_bool, cond_t, cond_f, fa_ptr, fa_iptr, part_none, Nat.zero_add, Nat.add_zero, Nat.reduceAdd, List.getElem?_cons_zero, List.getElem?_cons_succ, len_str, lenS_enc, lss_int, leq_int, gtr_int, geq_int, eq_int, ne_int, eq_str, ne_str, eq_bool, ne_bool, not_bool, extract_0, extract_1, extract_2, setV_eq, Nat.reduceEqDiff, reduceIte, lt_true hi, iaS_enc rules hi, load_agg len_encRu hv, hs1]
    simp only [bindO_some, bindO2_some, outK_ret, condB_bool, cond_t, cond_f, fa_ptr, fa_iptr, part_none, Nat.zero_add, Nat.add_zero, Nat.reduceAdd, List.getElem?_cons_zero, List.getElem?_cons_succ, len_str, lenS_enc, lss_int, leq_int, gtr_int, geq_int, eq_int, ne_int, eq_str, ne_str, eq_bool, ne_bool, not_bool, extract_0, extract_1, extract_2, setV_eq, Nat.reduceEqDiff, reduceIte, load_ptr g1, encRu, part2_3]
    refine semCall_true (rules_atom hrok.2.1 ?_)
    simp only [bindO_some, bindO2_some, outK_ret, condB_bool, cond_t, cond_f, fa_ptr, fa_iptr, part_none, Nat.zero_add, Nat.add_zero, Nat.reduceAdd, List.getElem?_cons_zero, List.getElem?_cons_succ, len_str, lenS_enc, lss_int, leq_int, gtr_int, geq_int, eq_int, ne_int, eq_str, ne_str, eq_bool, ne_bool, not_bool, extract_0, extract_1, extract_2, setV_eq, Nat.reduceEqDiff, reduceIte]
    cases ha : atomB r.name r.args.l with
    | false =>
      rw [ha, cond_false] at hm
      simp only [Bool.not_false, cond_t]
      rw [hr, F.rules_of.L0_r_eq]
      exact bad hm _
    | true =>
    rw [ha, cond_true, arStep_eq] at hm
    simp only [Bool.not_true, cond_f, bindO_some, bindO2_some, outK_ret, condB_bool, cond_t, cond_f, fa_ptr, fa_iptr, part_none, Nat.zero_add, Nat.add_zero, Nat.reduceAdd, List.getElem?_cons_zero, List.getElem?_cons_succ, len_str, lenS_enc, lss_int, leq_int, gtr_int, geq_int, eq_int, ne_int, eq_str, ne_str, eq_bool, ne_bool, not_bool, extract_0, extract_1, extract_2, setV_eq, Nat.reduceEqDiff, reduceIte, load_ptr g1, encRu, part2_3, e4]
    refine semCall_true (rules_arity' pP pA hmI (by omega) (by omega) fun h3 es3 ck3 a1 a2 a3 a4 => ?_)
    simp only [bindO_some, bindO2_some, outK_ret, condB_bool, cond_t, cond_f, fa_ptr, fa_iptr, part_none, Nat.zero_add, Nat.add_zero, Nat.reduceAdd, List.getElem?_cons_zero, List.getElem?_cons_succ, len_str, lenS_enc, lss_int, leq_int, gtr_int, geq_int, eq_int, ne_int, eq_str, ne_str, eq_bool, ne_bool, not_bool, extract_0, extract_1, extract_2, setV_eq, Nat.reduceEqDiff, reduceIte]
    cases hq : arOk m r.name r.args.l.length with
    | false =>
      rw [hq, if_neg (by simp)] at hm
      simp only [Bool.not_false, cond_t]
      rw [hr, F.rules_of.L0_r_eq]
      exact bad hm _
    | true =>
    rw [hq, if_pos rfl] at hm
    have g3 : h3.get h'.next = some (.cells (encRu r)) := by rw [a3 _ (by omega) (by omega)]; exact g1
    have P3 : h3.get P = some (.cells [encSl encRu 3 rules, .map A, .map M]) := by rw [a3 P (by omega) (by omega)]; exact pP
    have l3 : LevAt (headsOf (rules.l.take i)) h3 M ks (fun _ => 0) := pl.keep (a3 M (by omega) (by omega))
    simp only [Bool.not_true, cond_f, bindO_some, bindO2_some, outK_ret, condB_bool, cond_t, cond_f, fa_ptr, fa_iptr, part_none, Nat.zero_add, Nat.add_zero, Nat.reduceAdd, List.getElem?_cons_zero, List.getElem?_cons_succ, len_str, lenS_enc, lss_int, leq_int, gtr_int, geq_int, eq_int, ne_int, eq_str, ne_str, eq_bool, ne_bool, not_bool, extract_0, extract_1, extract_2, setV_eq, Nat.reduceEqDiff, reduceIte, load_ptr g3, encRu]
    by_cases h20 : 20 < r.body.l.length
    · simp only at hm
      rw [if_pos h20] at hm
      simp only [decide_eq_true (by omega : (20 : Int) < (r.body.l.length : Int)), cond_t]
      rw [hr, F.rules_of.L0_r_eq]
      exact bad hm _
    simp only at hm
    rw [if_neg h20] at hm
    simp only [decide_eq_false (by omega : ¬ (20 : Int) < (r.body.l.length : Int)), cond_f, bindO_some, bindO2_some, outK_ret, condB_bool, cond_t, cond_f, fa_ptr, fa_iptr, part_none, Nat.zero_add, Nat.add_zero, Nat.reduceAdd, List.getElem?_cons_zero, List.getElem?_cons_succ, len_str, lenS_enc, lss_int, leq_int, gtr_int, geq_int, eq_int, ne_int, eq_str, ne_str, eq_bool, ne_bool, not_bool, extract_0, extract_1, extract_2, setV_eq, Nat.reduceEqDiff, reduceIte, load_ptr g3, encRu, part3_3]
    refine semCall_true (rules_Variables hrf fun x hx1 => ?_)
    simp only [bindO_some, bindO2_some, outK_ret, condB_bool, cond_t, cond_f, fa_ptr, fa_iptr, part_none, Nat.zero_add, Nat.add_zero, Nat.reduceAdd, List.getElem?_cons_zero, List.getElem?_cons_succ, len_str, lenS_enc, lss_int, leq_int, gtr_int, geq_int, eq_int, ne_int, eq_str, ne_str, eq_bool, ne_bool, not_bool, extract_0, extract_1, extract_2, setV_eq, Nat.reduceEqDiff, reduceIte, hx1]
    by_cases h12 : 12 < (varsOf r).length
    · rw [if_pos h12] at hm
      simp only [decide_eq_true (by omega : (12 : Int) < ((varsOf r).length : Int)), cond_t]
      rw [hr, F.rules_of.L0_r_eq]
      exact bad hm _
    rw [if_neg h12] at hm
    simp only [decide_eq_false (by omega : ¬ (12 : Int) < ((varsOf r).length : Int)), cond_f, bindO_some, bindO2_some, outK_ret, condB_bool, cond_t, cond_f, fa_ptr, fa_iptr, part_none, Nat.zero_add, Nat.add_zero, Nat.reduceAdd, List.getElem?_cons_zero, List.getElem?_cons_succ, len_str, lenS_enc, lss_int, leq_int, gtr_int, geq_int, eq_int, ne_int, eq_str, ne_str, eq_bool, ne_bool, not_bool, extract_0, extract_1, extract_2, setV_eq, Nat.reduceEqDiff, reduceIte, load_ptr g3, encRu]
    have hbb : r.body.l.length ≤ big := by unfold big; omega
    refine loopB_range 0 r.body.l.length (Nat.zero_le _) (fun j e h2 => ∃ m2 es2 ck2, condsGo r.body.l (m.upd r.name r.args.l.length) = condsGo (r.body.l.drop j) m2 ∧ h2.get A = some (.map es2 ck2) ∧ MapI es2 m2 ∧ LevAt (headsOf (rules.l.take i)) h2 M ks (fun _ => 0) ∧
      h2.get P = some (.cells [encSl encRu 3 rules, .map A, .map M]) ∧ h2.get h'.next = some (.cells (encRu r)) ∧ h'.next < h2.next ∧ e 4 = .ptr P 0 ∧ e 6 = .ptr h'.next 0 ∧ e 17 = encSl encRu 3 rules ∧ e 18 = .int .i64 (rules.l.length : Int) ∧ e 19 = .int .i64 (i : Int) ∧
      e 47 = encSl encCo 4 r.body ∧ e 48 = .int .i64 (r.body.l.length : Int) ∧ e 49 = .int .i64 (j : Int))
      ⟨_, es3, ck3, rfl, a1, a2, l3, P3, g3, by omega, e4, rfl, e17, e18, e19, rfl, rfl, rfl⟩ ?_ ?_
    · rintro j e h2 _ hj ⟨m2, es2, ck2, hm2, qA2, hmI2, la2, qP2, qR2, hn2, e4, e6, e17, e18, e19, e47, e48, e49⟩ K2 hnn hx2 hr2 hp2
      have hc : r.body.l[j]? = some r.body.l[j] := List.getElem?_eq_getElem hj
      generalize r.body.l[j] = c at hc
      have hcok := hrok.2.2.2.2 c (List.mem_of_getElem? hc)
      obtain ⟨H2, hs2, k1, ko, kn⟩ := store_new (h := h2) (zs := [.int .i64 0, .bool false, .str [], .nils]) (cs := encCo c) (n := 4) rfl rfl (one_encCo c)
      have kA : H2.get A = some (.map es2 ck2) := by rw [ko A (by omega)]; exact qA2
      have kP : H2.get P = some (.cells [encSl encRu 3 rules, .map A, .map M]) := by rw [ko P (by omega)]; exact qP2
      have kR : H2.get h'.next = some (.cells (encRu r)) := by rw [ko _ (by omega)]; exact qR2
      have kl : LevAt (headsOf (rules.l.take i)) H2 M ks (fun _ => 0) := la2.keep (ko M (by omega))
      rw [drop_step hc, condsGo] at hm2
      rw [F.rules_of.L1_eq]
      simp only [e4, e6, e17, e18, e19, e47, e48, e49, bindO_some, bindO2_some, outK_ret, condB_bool, cond_t, cond_f, fa_ptr, fa_iptr, part_none, Nat.zero_add, Nat.add_zero, Nat.reduceAdd, List.getElem?_cons_zero, List.getElem?_cons_succ, len_str, lenS_enc, lss_int, leq_int, gtr_int, geq_int, eq_int, ne_int, eq_str, ne_str, eq_bool, ne_bool, not_bool, extract_0, extract_1, extract_2, setV_eq, Nat.reduceEqDiff, reduceIte, lt_true hj, iaS_enc r.body hj, load_agg len_encCo hc, hs2]
      simp only [bindO_some, bindO2_some, outK_ret, condB_bool, cond_t, cond_f, fa_ptr, fa_iptr, part_none, Nat.zero_add, Nat.add_zero, Nat.reduceAdd, List.getElem?_cons_zero, List.getElem?_cons_succ, len_str, lenS_enc, lss_int, leq_int, gtr_int, geq_int, eq_int, ne_int, eq_str, ne_str, eq_bool, ne_bool, not_bool, extract_0, extract_1, extract_2, setV_eq, Nat.reduceEqDiff, reduceIte, load_ptr k1, encCo, part4_4]
      refine semCall_true (rules_condition hcok ?_)
      simp only [bindO_some, bindO2_some, outK_ret, condB_bool, cond_t, cond_f, fa_ptr, fa_iptr, part_none, Nat.zero_add, Nat.add_zero, Nat.reduceAdd, List.getElem?_cons_zero, List.getElem?_cons_succ, len_str, lenS_enc, lss_int, leq_int, gtr_int, geq_int, eq_int, ne_int, eq_str, ne_str, eq_bool, ne_bool, not_bool, extract_0, extract_1, extract_2, setV_eq, Nat.reduceEqDiff, reduceIte]
      cases hco : condOk c with
      | false =>
        rw [hco, cond_false] at hm2
        rw [hm2] at hm
        simp only [Bool.not_false, cond_t]
        rw [hr2, F.rules_of.L1_r_eq, hr, F.rules_of.L0_r_eq]
        exact bad hm _
      | true =>
      rw [hco, cond_true] at hm2
      simp only [Bool.not_true, cond_f, bindO_some, bindO2_some, outK_ret, condB_bool, cond_t, cond_f, fa_ptr, fa_iptr, part_none, Nat.zero_add, Nat.add_zero, Nat.reduceAdd, List.getElem?_cons_zero, List.getElem?_cons_succ, len_str, lenS_enc, lss_int, leq_int, gtr_int, geq_int, eq_int, ne_int, eq_str, ne_str, eq_bool, ne_bool, not_bool, extract_0, extract_1, extract_2, setV_eq, Nat.reduceEqDiff, reduceIte, load_ptr k1, encCo, int_beq]
      by_cases k0 : c.kind = 0
      · rw [if_pos k0, arStep_eq] at hm2
        simp only [decide_eq_true k0, cond_t, bindO_some, bindO2_some, outK_ret, condB_bool, cond_t, cond_f, fa_ptr, fa_iptr, part_none, Nat.zero_add, Nat.add_zero, Nat.reduceAdd, List.getElem?_cons_zero, List.getElem?_cons_succ, len_str, lenS_enc, lss_int, leq_int, gtr_int, geq_int, eq_int, ne_int, eq_str, ne_str, eq_bool, ne_bool, not_bool, extract_0, extract_1, extract_2, setV_eq, Nat.reduceEqDiff, reduceIte, load_ptr k1, encCo, part2_4, e4]
        refine semCall_true (rules_arity' kP kA hmI2 (by omega) (by omega) fun h4 es4 ck4 b1 b2 b3 b4 => ?_)
        simp only [bindO_some, bindO2_some, outK_ret, condB_bool, cond_t, cond_f, fa_ptr, fa_iptr, part_none, Nat.zero_add, Nat.add_zero, Nat.reduceAdd, List.getElem?_cons_zero, List.getElem?_cons_succ, len_str, lenS_enc, lss_int, leq_int, gtr_int, geq_int, eq_int, ne_int, eq_str, ne_str, eq_bool, ne_bool, not_bool, extract_0, extract_1, extract_2, setV_eq, Nat.reduceEqDiff, reduceIte]
        cases hq2 : arOk m2 c.name c.args.l.length with
        | false =>
          rw [hq2, if_neg (by simp)] at hm2
          simp only at hm2
          rw [hm2] at hm
          simp only [Bool.not_false, cond_t]
          rw [hr2, F.rules_of.L1_r_eq, hr, F.rules_of.L0_r_eq]
          exact bad hm _
        | true =>
          rw [hq2, if_pos rfl] at hm2
          simp only [Bool.not_true, cond_f, e49, succ_i64 hj hbb, bindO_some]
          refine hnn _ _ ⟨_, es4, ck4, hm2, b1, b2, kl.keep (b3 M (by omega) (by omega)), ?_, ?_, by omega, e4, e6, e17, e18, e19, e47, e48, rfl⟩
          · rw [b3 P (by omega) (by omega)]; exact kP
          · rw [b3 _ (by omega) (by omega)]; exact kR
      · rw [if_neg k0] at hm2
        simp only [decide_eq_false k0, cond_f, e49, succ_i64 hj hbb, bindO_some]
        exact hnn _ _ ⟨m2, es2, ck2, hm2, kA, hmI2, kl, kP, kR, by omega, e4, e6, e17, e18, e19, e47, e48, rfl⟩
    · rintro e h2 ⟨m2, es2, ck2, hm2, qA2, hmI2, la2, qP2, qR2, hn2, e4, e6, e17, e18, e19, e47, e48, e49⟩ K2 hx2
      rw [List.drop_of_length_le (Nat.le_refl _), condsGo] at hm2
      rw [hm2] at hm
      simp only at hm
      obtain ⟨h5, ks5, u1, u2, u3, u4, u5⟩ := la2.add hks r.name
      rw [F.rules_of.L1_eq]
      simp only [e48, e49, bindO_some, bindO2_some, outK_ret, condB_bool, cond_t, cond_f, fa_ptr, fa_iptr, part_none, Nat.zero_add, Nat.add_zero, Nat.reduceAdd, List.getElem?_cons_zero, List.getElem?_cons_succ, len_str, lenS_enc, lss_int, leq_int, gtr_int, geq_int, eq_int, ne_int, eq_str, ne_str, eq_bool, ne_bool, not_bool, extract_0, extract_1, extract_2, setV_eq, Nat.reduceEqDiff, reduceIte, lt_false]
      rw [hx2, F.rules_of.L1_x2_eq]
      simp only [e4, e6, e19, bindO_some, bindO2_some, outK_ret, condB_bool, cond_t, cond_f, fa_ptr, fa_iptr, part_none, Nat.zero_add, Nat.add_zero, Nat.reduceAdd, List.getElem?_cons_zero, List.getElem?_cons_succ, len_str, lenS_enc, lss_int, leq_int, gtr_int, geq_int, eq_int, ne_int, eq_str, ne_str, eq_bool, ne_bool, not_bool, extract_0, extract_1, extract_2, setV_eq, Nat.reduceEqDiff, reduceIte, nilCheck_ptr, load_ptr qP2, load_ptr qR2, encRu, u1, succ_i64 hi hbig]
      refine hn _ _ ⟨m2, ks5, es2, ck2, hm, by rw [u4 A (by omega)]; exact qA2, hmI2, ?_, u3, by rw [u4 P (by omega)]; exact qP2, by omega, e4, e17, e18, rfl⟩
      have : headsOf (rules.l.take (i + 1)) = headsOf (rules.l.take i) ++ [r.name] := by unfold headsOf; rw [List.take_add_one, hv]; simp
      rw [this]; exact u2
  · rintro e h' ⟨m, ks, es, ck, hm, qA, hmI, la, hks, qP, hPn, e4, e17, e18, e19⟩ K' hx
    rw [List.drop_of_length_le (Nat.le_refl _), rulesGo] at hm
    rw [List.take_of_length_le (Nat.le_refl _)] at la
    have hgo := rulesGo_ok hm
    have hk60 : ks.length ≤ 60 := by
      have := Lev.nodup_le hks (m := headsOf rules.l) fun x hx => (la.mem x).1 hx
      have h1 : (headsOf rules.l).length = rules.l.length := by simp [headsOf]
      omega
    rw [F.rules_of.L0_eq]
    simp only [e18, e19, bindO_some, bindO2_some, outK_ret, condB_bool, cond_t, cond_f, fa_ptr, fa_iptr, part_none, Nat.zero_add, Nat.add_zero, Nat.reduceAdd, List.getElem?_cons_zero, List.getElem?_cons_succ, len_str, lenS_enc, lss_int, leq_int, gtr_int, geq_int, eq_int, ne_int, eq_str, ne_str, eq_bool, ne_bool, not_bool, extract_0, extract_1, extract_2, setV_eq, Nat.reduceEqDiff, reduceIte, lt_false]
    rw [hx, F.rules_of.L0_x0_eq]
    simp only [e4, bindO_some, bindO2_some, outK_ret, condB_bool, cond_t, cond_f, fa_ptr, fa_iptr, part_none, Nat.zero_add, Nat.add_zero, Nat.reduceAdd, List.getElem?_cons_zero, List.getElem?_cons_succ, len_str, lenS_enc, lss_int, leq_int, gtr_int, geq_int, eq_int, ne_int, eq_str, ne_str, eq_bool, ne_bool, not_bool, extract_0, extract_1, extract_2, setV_eq, Nat.reduceEqDiff, reduceIte, nilCheck_ptr, load_ptr qP, la.len, succ_i64 (i := ks.length) (n := 61) (by omega) (by unfold big; omega)]
    refine loopB_range 0 (ks.length + 1) (Nat.zero_le _) (fun i e h' => LevAt (headsOf rules.l) h' M ks (Lev.iter (edgesP rules.l) i) ∧ h'.get P = some (.cells [encSl encRu 3 rules, .map A, .map M]) ∧ P < h'.next ∧ (∀ j, j < i → ¬ Lev.Stable (edgesP rules.l) (Lev.iter (edgesP rules.l) j)) ∧
      e 4 = .ptr P 0 ∧ e 82 = .int .i64 ((ks.length + 1 : Nat) : Int) ∧ e 83 = .int .i64 (i : Int)) ⟨la, qP, hPn, fun j hj => by omega, e4, rfl, rfl⟩ ?_ ?_
    · rintro i e h2 _ hi ⟨l2, q2, n2, st2, e4, e82, e83⟩ K2 hn2 hx2 hr2 hp2
      rw [F.rules_of.L2_eq]
      simp only [e4, e82, e83, bindO_some, bindO2_some, outK_ret, condB_bool, cond_t, cond_f, fa_ptr, fa_iptr, part_none, Nat.zero_add, Nat.add_zero, Nat.reduceAdd, List.getElem?_cons_zero, List.getElem?_cons_succ, len_str, lenS_enc, lss_int, leq_int, gtr_int, geq_int, eq_int, ne_int, eq_str, ne_str, eq_bool, ne_bool, not_bool, extract_0, extract_1, extract_2, setV_eq, Nat.reduceEqDiff, reduceIte, lt_true hi]
      refine semCall_true (rules_rise (N := i * 1200) q2 l2 n2 (by omega) h60 (fun r hr => ⟨(hgo r hr).2.1, List.mem_map_of_mem hr⟩) (iter_bound h60 (fun r hr => (hgo r hr).2.1) i) (by omega) fun h3 l3 f3 n3 => ?_)
      simp only [bindO_some, bindO2_some, outK_ret, condB_bool, cond_t, cond_f, fa_ptr, fa_iptr, part_none, Nat.zero_add, Nat.add_zero, Nat.reduceAdd, List.getElem?_cons_zero, List.getElem?_cons_succ, len_str, lenS_enc, lss_int, leq_int, gtr_int, geq_int, eq_int, ne_int, eq_str, ne_str, eq_bool, ne_bool, not_bool, extract_0, extract_1, extract_2, setV_eq, Nat.reduceEqDiff, reduceIte, Bool.not_not]
      have q3 : h3.get P = some (.cells [encSl encRu 3 rules, .map A, .map M]) := by rw [f3 P n2 (by omega)]; exact q2
      by_cases hst : Lev.Stable (edgesP rules.l) (Lev.iter (edgesP rules.l) i)
      · have hst' : Lev.Stable (edges (headsOf rules.l) rules.l) (Lev.iter (edgesP rules.l) i) := hst
        simp only [decide_eq_true hst', cond_t]
        rw [hr2, F.rules_of.L2_r_eq]
        simp only [setV_eq, Nat.reduceEqDiff, reduceIte, e4]
        rw [Lev.round_same hst'] at l3
        exact hyes h3 P A M ks i ⟨h60, ⟨m, hm⟩, i, hst⟩ hst q3 l3 hks (by omega) (by omega)
      · have hst' : ¬ Lev.Stable (edges (headsOf rules.l) rules.l) (Lev.iter (edgesP rules.l) i) := hst
        simp only [decide_eq_false hst', cond_f, e83, succ_i64 hi (show ks.length + 1 ≤ big by unfold big; omega), bindO_some]
        exact hn2 _ _ ⟨l3, q3, by omega, fun j hj => by
          by_cases hji : j = i
          · subst hji; exact hst
          · exact st2 j (by omega), e4, e82, rfl⟩
    · rintro e h2 ⟨l2, q2, n2, st2, e4, e82, e83⟩ K2 hx2
      rw [F.rules_of.L2_eq]
      simp only [e82, e83, bindO_some, bindO2_some, outK_ret, condB_bool, cond_t, cond_f, fa_ptr, fa_iptr, part_none, Nat.zero_add, Nat.add_zero, Nat.reduceAdd, List.getElem?_cons_zero, List.getElem?_cons_succ, len_str, lenS_enc, lss_int, leq_int, gtr_int, geq_int, eq_int, ne_int, eq_str, ne_str, eq_bool, ne_bool, not_bool, extract_0, extract_1, extract_2, setV_eq, Nat.reduceEqDiff, reduceIte, lt_false]
      rw [hx2, F.rules_of.L2_x4_eq]
      refine hno (fun hg => ?_) _
      obtain ⟨k, hk⟩ := hg.lev
      refine st2 ks.length (by omega) (Lev.settle (fun e he => ?_) hk)
      obtain ⟨r, hr, c, hc, _, hin, rfl⟩ := edges_of he
      exact ⟨(la.mem _).2 hin, (la.mem _).2 (List.mem_map_of_mem hr)⟩
end
end Go.AM
/- rules.Levels: the names in order and their levels. Conditions: none. -/
namespace Go.AM
open Go Go.Proofs
set_option linter.unusedVariables false
set_option linter.unusedSimpArgs false
noncomputable section

theorem one_encI (n : Int) : oneAll (encI n) = true := rfl
theorem row_I (n : Int) : rowS [.int .i64 0] [(0, 1)] [.int .i64 n] = some (encI n) := rfl
theorem nameB_le {s : Str} (h : nameB s = true) : s.length ≤ 12 := by
  cases s with
  | nil => exact Nat.zero_le _
  | cons c s =>
    simp only [nameB, Bool.and_eq_true] at h
    simp only [decide_eq_true_eq] at h
    omega
theorem atomB_name {nm : Str} {xs : List Str} (h : atomB nm xs = true) : nameB nm = true := by
  unfold atomB at h; rw [Bool.and_eq_true] at h; exact h.1
theorem LevAt.ents {hs : List Str} {h : Heap} {M : Nat} {ks : List Str} {lv : Lev.Lv} (l : LevAt hs h M ks lv) (hks : ks.Nodup) (hlen : ∀ s ∈ ks, s.length ≤ 1000) :
    ∃ es ck, h.get M = some (.map es ck) ∧ entsOk ck es = true ∧ es.map keyBytes = ks ∧ es.length = ks.length := by
  obtain ⟨es, ck, m, h1, h2, h3, h4, h5⟩ := l.ex
  have hk : es.map keyBytes = ks := by rw [keys_of h2, h4]
  refine ⟨es, ck, h1, entsOk_of (fun e he => ?_) (by rw [hk]; exact hks) h3.nodup, hk, by rw [← hk, List.length_map]⟩
  obtain ⟨p, hp, q1, q2⟩ := h2.mem e he
  exact ⟨⟨p.1, q1, hlen _ (by rw [← h4]; exact List.mem_map_of_mem hp)⟩, h3.lt e he⟩

set_option maxHeartbeats 1000000 in
theorem rules_Levels {rules : Sl RuleD} (hok : ∀ r ∈ rules.l, r.ok) (hfew : ∀ r ∈ rules.l, r.few) {h : Heap} {K : Out → Heap → Bool}
    (hno : ¬ GoodP rules.l → K (.ret (.tuple [.nils, .nils, .int .i64 1])) h = true)
    (hyes : ∀ (x : Sl Str) (y : Sl Int) k, GoodP rules.l → Lev.Stable (edgesP rules.l) (Lev.iter (edgesP rules.l) k) → SortS x.l → (∀ s, s ∈ x.l ↔ s ∈ headsOf rules.l) → y.l = x.l.map (fun s => (Lev.iter (edgesP rules.l) k s : Int)) →
      K (.ret (.tuple [encSl encS 1 x, encSl encI 1 y, .int .i64 0])) h = true) : Sem Tryz.prog 7 [encSl encRu 3 rules] h K := by
  have main : Sem Tryz.prog 7 [encSl encRu 3 rules] Heap.empty (fun o h' => yes ((¬ GoodP rules.l ∧ o = .ret (.tuple [.nils, .nils, .int .i64 1])) ∨ ∃ (a b : AV) (x : Sl Str) (y : Sl Int) (k : Nat), o = .ret (.tuple [a, b, .int .i64 0]) ∧ Fz true h' a (encSl encS 1 x) ∧ Fz true h' b (encSl encI 1 y) ∧
      GoodP rules.l ∧ Lev.Stable (edgesP rules.l) (Lev.iter (edgesP rules.l) k) ∧ SortS x.l ∧ (∀ s, s ∈ x.l ↔ s ∈ headsOf rules.l) ∧ y.l = x.l.map (fun s => (Lev.iter (edgesP rules.l) k s : Int)))) := by
    refine F.rules_Levels_sem ?_
    refine semCall_true (rules_of hok hfew (fun hb h' => ?_) fun h' P A M ks k hg hst gP la hks hPn hMn => ?_)
    · simp only [bindO_some, bindO2_some, outK_ret, condB_bool, cond_t, cond_f, fa_ptr, fa_iptr, part_none, Nat.zero_add, Nat.add_zero, Nat.reduceAdd, List.getElem?_cons_zero, List.getElem?_cons_succ, len_str, lenS_enc, lss_int, leq_int, gtr_int, geq_int, eq_int, ne_int, eq_str, ne_str, eq_bool, ne_bool, not_bool, extract_0, extract_1, extract_2, setV_eq, Nat.reduceEqDiff, reduceIte, Bool.not_false, cond_t]
      exact yes_eq.2 (.inl ⟨hb, by trivial⟩)
    · simp only [bindO_some, bindO2_some, outK_ret, condB_bool, cond_t, cond_f, fa_ptr, fa_iptr, part_none, Nat.zero_add, Nat.add_zero, Nat.reduceAdd, List.getElem?_cons_zero, List.getElem?_cons_succ, len_str, lenS_enc, lss_int, leq_int, gtr_int, geq_int, eq_int, ne_int, eq_str, ne_str, eq_bool, ne_bool, not_bool, extract_0, extract_1, extract_2, setV_eq, Nat.reduceEqDiff, reduceIte, Bool.not_true, cond_f, nilCheck_ptr, load_ptr gP]
      obtain ⟨m, hgo⟩ := hg.go
      have hk60 : ks.length ≤ 60 := by
        have := Lev.nodup_le hks (m := headsOf rules.l) fun x hx => (la.mem x).1 hx
        have h1 : (headsOf rules.l).length = rules.l.length := by simp [headsOf]
        have := hg.few
        omega
      obtain ⟨es, ck, gM, hents, hkb, hel⟩ := la.ents hks fun s hs => by
        obtain ⟨r, hr, rfl⟩ := List.mem_map.1 ((la.mem s).1 hs)
        have := nameB_le (atomB_name (rulesGo_ok hgo r hr).1)
        omega
      refine semCall_true (keys_map ?_)
      simp only [bindO_some, bindO2_some, outK_ret, condB_bool, cond_t, cond_f, fa_ptr, fa_iptr, part_none, Nat.zero_add, Nat.add_zero, Nat.reduceAdd, List.getElem?_cons_zero, List.getElem?_cons_succ, len_str, lenS_enc, lss_int, leq_int, gtr_int, geq_int, eq_int, ne_int, eq_str, ne_str, eq_bool, ne_bool, not_bool, extract_0, extract_1, extract_2, setV_eq, Nat.reduceEqDiff, reduceIte]
      have gB : (h'.alloc (.box (.map M))).get h'.next = some (.box (.map M)) := get_alloc_same _ _
      have xB : HExt h' (h'.alloc (.box (.map M))) := HExt.alloc _ _
      generalize (h'.alloc (.box (.map M))) = H at gB xB ⊢
      refine semCall_true (sorted_map gB (by rw [xB.get M hMn]; exact gM) hents (by omega) fun a h1 x1 oa => ?_)
      rw [hkb] at oa
      obtain ⟨hsort, hmem⟩ := sortK_strict hks
      have hlen : (sortK ks).length ≤ 60 := by
        rw [(sortK_perm ks).length_eq]; exact hk60
      generalize sortK ks = ns at oa hsort hmem hlen
      have xx : HExt h' h1 := xB.trans x1
      have l1 : LevAt (headsOf rules.l) h1 M ks (Lev.iter (edgesP rules.l) k) := la.keep (xx.get M hMn)
      have gP1 : h1.get P = some (.cells [encSl encRu 3 rules, .map A, .map M]) := by rw [xx.get P hPn]; exact gP
      have n1 := xx.next
      simp only [bindO_some, bindO2_some, outK_ret, condB_bool, cond_t, cond_f, fa_ptr, fa_iptr, part_none, Nat.zero_add, Nat.add_zero, Nat.reduceAdd, List.getElem?_cons_zero, List.getElem?_cons_succ, len_str, lenS_enc, lss_int, leq_int, gtr_int, geq_int, eq_int, ne_int, eq_str, ne_str, eq_bool, ne_bool, not_bool, extract_0, extract_1, extract_2, setV_eq, Nat.reduceEqDiff, reduceIte, oa.len]
      refine loopB_range 0 ns.length (Nat.zero_le _) (fun i e h2 => ∃ b, HExt h1 h2 ∧ Own encI 1 h1.next h2 b ((ns.take i).map fun s => (Lev.iter (edgesP rules.l) k s : Int)) ∧ e 5 = .ptr P 0 ∧ e 7 = a ∧ e 8 = b ∧ e 24 = a ∧ e 25 = .int .i64 (ns.length : Int) ∧ e 26 = .int .i64 (i : Int))
        ⟨.nils, HExt.refl _, Own.nil, rfl, rfl, rfl, rfl, rfl, rfl⟩ ?_ ?_
      · rintro i e h2 _ hi ⟨b, x2, ob, e5, e7, e8, e24, e25, e26⟩ K' hn hx hr hp
        have hv : ns[i]? = some ns[i] := List.getElem?_eq_getElem hi
        generalize ns[i] = s at hv
        have oa2 := oa.ext x2
        obtain ⟨q, _, g1, g2⟩ := own_name oa2 hv
        have l2 : LevAt (headsOf rules.l) h2 M ks (Lev.iter (edgesP rules.l) k) := l1.keep (x2.get M (by omega))
        have gP2 : h2.get P = some (.cells [encSl encRu 3 rules, .map A, .map M]) := by rw [x2.get P (by omega)]; exact gP1
        have hin : s ∈ headsOf rules.l := (la.mem s).1 ((hmem s).1 (List.mem_of_getElem? hv))
        obtain ⟨b2, h3, p1, p2, p3, p4, p5, p6⟩ := ob.push len_encI one_encI (x2.next) (bytes := 8) (by have := List.length_take_le i ns; simp only [List.length_map]; unfold maxBytes; omega) (Lev.iter (edgesP rules.l) k s : Int)
        rw [F.rules_Levels.L0_eq]
        simp only [e5, e8, e24, e25, e26, bindO_some, bindO2_some, outK_ret, condB_bool, cond_t, cond_f, fa_ptr, fa_iptr, part_none, Nat.zero_add, Nat.add_zero, Nat.reduceAdd, List.getElem?_cons_zero, List.getElem?_cons_succ, len_str, lenS_enc, lss_int, leq_int, gtr_int, geq_int, eq_int, ne_int, eq_str, ne_str, eq_bool, ne_bool, not_bool, extract_0, extract_1, extract_2, setV_eq, Nat.reduceEqDiff, reduceIte, lt_true hi, g1, g2, nilCheck_ptr, load_ptr gP2, l2.lookf, if_pos hin, row_I, p1, succ_i64 hi (show ns.length ≤ big by unfold big; omega)]
        refine hn _ _ ⟨b2, p5 h1 x2 (Nat.le_refl _), ?_, e5, e7, rfl, e24, e25, rfl⟩
        rw [List.take_add_one, hv]; simpa using p2
      · rintro e h2 ⟨b, x2, ob, e5, e7, e8, e24, e25, e26⟩ K' hx
        rw [F.rules_Levels.L0_eq]
        simp only [e25, e26, bindO_some, bindO2_some, outK_ret, condB_bool, cond_t, cond_f, fa_ptr, fa_iptr, part_none, Nat.zero_add, Nat.add_zero, Nat.reduceAdd, List.getElem?_cons_zero, List.getElem?_cons_succ, len_str, lenS_enc, lss_int, leq_int, gtr_int, geq_int, eq_int, ne_int, eq_str, ne_str, eq_bool, ne_bool, not_bool, extract_0, extract_1, extract_2, setV_eq, Nat.reduceEqDiff, reduceIte, lt_false]
        rw [hx, F.rules_Levels.L0_x0_eq]
        simp only [setV_eq, Nat.reduceEqDiff, reduceIte, e7, e8]
        rw [List.take_of_length_le (Nat.le_refl _)] at ob
        obtain ⟨x, hx1, hx2⟩ := (oa.ext x2).frzx (fun v y hy => by
          simp only [encS, List.mem_cons, List.not_mem_nil, or_false] at hy
          subst hy; exact .scalar _ rfl)
        obtain ⟨y, hy1, hy2⟩ := ob.frzx (fun v y hy => by
          simp only [encI, List.mem_cons, List.not_mem_nil, or_false] at hy
          subst hy; exact .scalar _ rfl)
        exact yes_eq.2 (.inr ⟨a, b, x, y, k, rfl, hx2, hy2, hg, hst, by rw [hx1]; exact hsort, fun s => by rw [hx1, hmem, la.mem], by rw [hy1, hx1]⟩)
  refine main.frozen (by simp [AV.pureL, pure_encSl pure_encRu]) fun o h' ho => ?_
  rcases yes_eq.1 ho with ⟨hb, rfl⟩ | ⟨a, b, x, y, k, rfl, f1, f2, hg, hst, s1, s2, s3⟩
  · exact ⟨_, _, rfl, .of_pure rfl, hno hb⟩
  · have fl := FzL.cons f1 (FzL.cons f2 (FzL.cons (Fz.scalar (.int .i64 0) rfl) FzL.nil))
    exact ⟨_, _, rfl, .tuple _ _ fl.len fl.rel, hyes x y k hg hst s1 s2 s3⟩
end
end Go.AM
/- The reference's rules: names, variables, which rules are good. Conditions: none. -/
namespace Go.AM
open Go Go.Proofs
set_option linter.unusedVariables false
set_option linter.unusedSimpArgs false
noncomputable section

def namedB (xs : List Str) : Bool := xs.all nameB && decide (xs.length ≤ 12)
theorem ref07_Named {x : Sl Str} (hx : x.l.length ≤ big) {h : Heap} {K : Out → Heap → Bool} (hK : K (.ret (.bool (namedB x.l))) h = true) : Sem Tryz.prog 70 [encSl encS 1 x] h K := by
  refine F.ref07_Named_sem ?_
  refine loopB_range 0 x.l.length (Nat.zero_le _) (fun i e h' => h' = h ∧ e 0 = encSl encS 1 x ∧ e 3 = .int .i64 (i : Int) ∧ (x.l.take i).all nameB = true) ⟨rfl, rfl, rfl, rfl⟩ ?_ ?_
  · rintro i e h' _ hi ⟨rfl, e0, e3, ht⟩ K' hn hx' hr hp'
    have hv : x.l[i]? = some x.l[i] := List.getElem?_eq_getElem hi
    generalize x.l[i] = s at hv
    rw [F.ref07_Named.L0_eq]
    simp only [e0, e3, bindO_some, bindO2_some, outK_ret, condB_bool, cond_t, cond_f, fa_ptr, fa_iptr, part_none, Nat.zero_add, Nat.add_zero, Nat.reduceAdd, List.getElem?_cons_zero, List.getElem?_cons_succ, len_str, lenS_enc, lss_int, leq_int, gtr_int, geq_int, eq_int, ne_int, eq_str, ne_str, eq_bool, ne_bool, not_bool, extract_0, extract_1, extract_2, setV_eq, Nat.reduceEqDiff, reduceIte, lt_true hi, iaS_enc x hi, get_strs hv]
    refine semCall_true (ref01_Name ?_)
    simp only [bindO_some, bindO2_some, outK_ret, condB_bool, cond_t, cond_f, fa_ptr, fa_iptr, part_none, Nat.zero_add, Nat.add_zero, Nat.reduceAdd, List.getElem?_cons_zero, List.getElem?_cons_succ, len_str, lenS_enc, lss_int, leq_int, gtr_int, geq_int, eq_int, ne_int, eq_str, ne_str, eq_bool, ne_bool, not_bool, extract_0, extract_1, extract_2, setV_eq, Nat.reduceEqDiff, reduceIte]
    cases hq : nameB s with
    | false =>
      simp only [Bool.not_false, cond_t]
      rw [hr, F.ref07_Named.L0_r_eq]
      have : namedB x.l = false := by unfold namedB; rw [all_false hv hq, Bool.false_and]
      rw [this] at hK; exact hK
    | true =>
      simp only [Bool.not_true, cond_f, succ_i64 hi hx, bindO_some]
      exact hn _ _ ⟨rfl, e0, rfl, take_all hv ht hq⟩
  · rintro e h' ⟨rfl, e0, e3, ht⟩ K' hx'
    rw [F.ref07_Named.L0_eq]
    simp only [e0, e3, bindO_some, bindO2_some, outK_ret, condB_bool, cond_t, cond_f, fa_ptr, fa_iptr, part_none, Nat.zero_add, Nat.add_zero, Nat.reduceAdd, List.getElem?_cons_zero, List.getElem?_cons_succ, len_str, lenS_enc, lss_int, leq_int, gtr_int, geq_int, eq_int, ne_int, eq_str, ne_str, eq_bool, ne_bool, not_bool, extract_0, extract_1, extract_2, setV_eq, Nat.reduceEqDiff, reduceIte, lt_false]
    rw [hx', F.ref07_Named.L0_x0_eq]
    simp only [e0, bindO_some, bindO2_some, outK_ret, condB_bool, cond_t, cond_f, fa_ptr, fa_iptr, part_none, Nat.zero_add, Nat.add_zero, Nat.reduceAdd, List.getElem?_cons_zero, List.getElem?_cons_succ, len_str, lenS_enc, lss_int, leq_int, gtr_int, geq_int, eq_int, ne_int, eq_str, ne_str, eq_bool, ne_bool, not_bool, extract_0, extract_1, extract_2, setV_eq, Nat.reduceEqDiff, reduceIte]
    rw [List.take_of_length_le (Nat.le_refl _)] at ht
    have : namedB x.l = decide ((x.l.length : Int) ≤ 12) := by unfold namedB; rw [ht, Bool.true_and]; by_cases h : x.l.length ≤ 12 <;> simp <;> omega
    rw [this] at hK; exact hK

def allV (r : RuleD) : List Str := r.args.l ++ r.body.l.flatMap fun c => c.args.l
theorem addAll_append (o a b : List Str) : addAll o (a ++ b) = addAll (addAll o a) b := by unfold addAll; rw [List.foldl_append]
theorem condVars_flat : ∀ (cs : List CondD) (o : List Str), condVars o cs = addAll o (cs.flatMap fun c => c.args.l)
  | [], o => rfl
  | c :: cs, o => by
    rw [List.flatMap_cons, addAll_append]
    exact condVars_flat cs (addAll o c.args.l)
theorem varsOf_all (r : RuleD) : varsOf r = addAll [] (allV r) := by
  unfold varsOf allV; rw [addAll_append, condVars_flat]
theorem allV_len {r : RuleD} (hf : r.few) (i : Nat) : (r.args.l ++ (r.body.l.take i).flatMap fun c => c.args.l).length ≤ 3000000 := by
  have : ∀ (cs : List CondD), (∀ c ∈ cs, c.args.l.length ≤ 1500) → (cs.flatMap fun c => c.args.l).length ≤ cs.length * 1500 := by
    intro cs
    induction cs with
    | nil => intro _; simp
    | cons c cs ih =>
      intro h
      have h1 := ih fun d hd => h d (List.mem_cons_of_mem _ hd)
      have h2 := h c List.mem_cons_self
      rw [List.flatMap_cons, List.length_append, List.length_cons]; omega
  have h1 := this (r.body.l.take i) fun c hc => hf.2.2 c (List.mem_of_mem_take hc)
  have h2 := List.length_take_le i r.body.l
  have h4 := List.length_take_le' i r.body.l
  have := hf.1; have := hf.2.1
  rw [List.length_append]; omega
theorem ref07_Variables {r : RuleD} (hf : r.few) {h : Heap} {K : Out → Heap → Bool} (hK : ∀ x : Sl Str, x.l = varsOf r → K (.ret (encSl encS 1 x)) h = true) :
    Sem Tryz.prog 71 [.agg [.str r.name, encSl encS 1 r.args, encSl encCo 4 r.body]] h K := by
  have hbb : r.body.l.length ≤ big := by have := hf.2.1; unfold big; omega
  have main : Sem Tryz.prog 71 [.agg [.str r.name, encSl encS 1 r.args, encSl encCo 4 r.body]] Heap.empty (fun o h' => yes (∃ v, ∃ x : Sl Str, o = .ret v ∧ x.l = varsOf r ∧ Fz true h' v (encSl encS 1 x))) := by
    refine F.ref07_Variables_sem ?_
    have hb : boxS (.agg [.str r.name, encSl encS 1 r.args, encSl encCo 4 r.body]) = some (encRu r) := box_agg (one_encRu r)
    have hrow : rowS [] [] [] = some [] := rfl
    simp only [hb, hrow, bindO_some, next_empty, Heap.next_alloc]
    have g0 : (Heap.alloc (Heap.alloc Heap.empty (.cells (encRu r))) (.cells [])).get 0 = some (.cells (encRu r)) := by simp [Heap.get_alloc, next_empty]
    have g1 : (Heap.alloc (Heap.alloc Heap.empty (.cells (encRu r))) (.cells [])).get 1 = some (.cells (([] : List Str).flatMap encS)) := by simp [Heap.get_alloc, next_empty]
    have gn : (Heap.alloc (Heap.alloc Heap.empty (.cells (encRu r))) (.cells [])).next = 2 := rfl
    generalize (Heap.alloc (Heap.alloc Heap.empty (.cells (encRu r))) (.cells [])) = H at g0 g1 gn ⊢
    have o0 : Own encS 1 1 H (.slice (0 + 1) 0 0 1) [] := .row 1 [] (Nat.le_refl _) (by omega) g1
    obtain ⟨a1, h1, p1, p2, p3, p4, p5⟩ := o0.append len_encS one_encS (row_enc len_encS r.args H) (by omega) (bytes := 16) (by have := hf.1; unfold maxBytes; simp only [List.length_nil]; omega)
    have g0' : h1.get 0 = some (.cells (encRu r)) := by rw [p3 0 (by omega) (fun hb => by simp [blkOf] at hb)]; exact g0
    simp only [bindO_some, bindO2_some, outK_ret, condB_bool, cond_t, cond_f, fa_ptr, fa_iptr, part_none, Nat.zero_add, Nat.add_zero, Nat.reduceAdd, List.getElem?_cons_zero, List.getElem?_cons_succ, len_str, lenS_enc, lss_int, leq_int, gtr_int, geq_int, eq_int, ne_int, eq_str, ne_str, eq_bool, ne_bool, not_bool, extract_0, extract_1, extract_2, setV_eq, Nat.reduceEqDiff, reduceIte, load_ptr g0, encRu]
    simp only [p1, bindO_some, bindO2_some, outK_ret, condB_bool, cond_t, cond_f, fa_ptr, fa_iptr, part_none, Nat.zero_add, Nat.add_zero, Nat.reduceAdd, List.getElem?_cons_zero, List.getElem?_cons_succ, len_str, lenS_enc, lss_int, leq_int, gtr_int, geq_int, eq_int, ne_int, eq_str, ne_str, eq_bool, ne_bool, not_bool, extract_0, extract_1, extract_2, setV_eq, Nat.reduceEqDiff, reduceIte]
    refine loopB_range 0 r.body.l.length (Nat.zero_le _) (fun i e h' => ∃ a, h'.get 0 = some (.cells (encRu r)) ∧ 2 ≤ h'.next ∧ Own encS 1 1 h' a (r.args.l ++ (r.body.l.take i).flatMap fun c => c.args.l) ∧ e 1 = .ptr 0 0 ∧ e 3 = a ∧ e 4 = .int .i64 (i : Int))
      ⟨a1, g0', by omega, by simpa using p2, rfl, rfl, rfl⟩ ?_ ?_
    · rintro i e h' _ hi ⟨a, q0, qn, o, e1, e3, e4⟩ K' hn hx hr hp
      have hv : r.body.l[i]? = some r.body.l[i] := List.getElem?_eq_getElem hi
      generalize r.body.l[i] = c at hv
      have hc := hf.2.2 c (List.mem_of_getElem? hv)
      obtain ⟨a2, h2, s1, s2, s3, s4, s5⟩ := o.append len_encS one_encS (row_enc len_encS c.args h') (by omega) (bytes := 16) (by have := allV_len hf i; unfold maxBytes; omega)
      have ld : ∀ j, j < 4 → ∀ h, loadS none (.iptr (r.body.l.flatMap encCo) (i * 4 + j)) h = (encCo c)[j]? := fun j hj h => load_elem len_encCo hv hj
      rw [F.ref07_Variables.L0_eq]
      simp only [e1, e3, e4, bindO_some, bindO2_some, outK_ret, condB_bool, cond_t, cond_f, fa_ptr, fa_iptr, part_none, Nat.zero_add, Nat.add_zero, Nat.reduceAdd, List.getElem?_cons_zero, List.getElem?_cons_succ, len_str, lenS_enc, lss_int, leq_int, gtr_int, geq_int, eq_int, ne_int, eq_str, ne_str, eq_bool, ne_bool, not_bool, extract_0, extract_1, extract_2, setV_eq, Nat.reduceEqDiff, reduceIte, load_ptr q0, encRu, lt_true hi, iaS_enc r.body hi]
      simp only [bindO_some, bindO2_some, outK_ret, condB_bool, cond_t, cond_f, fa_ptr, fa_iptr, part_none, Nat.zero_add, Nat.add_zero, Nat.reduceAdd, List.getElem?_cons_zero, List.getElem?_cons_succ, len_str, lenS_enc, lss_int, leq_int, gtr_int, geq_int, eq_int, ne_int, eq_str, ne_str, eq_bool, ne_bool, not_bool, extract_0, extract_1, extract_2, setV_eq, Nat.reduceEqDiff, reduceIte, Nat.add_assoc, Nat.reduceAdd, ld 3 (by omega), encCo, s1, succ_i64 hi hbb]
      refine hn _ _ ⟨a2, ?_, by omega, ?_, e1, rfl, rfl⟩
      · rw [s3 0 (by omega) (fun hb => by have := o.ge hb; omega)]; exact q0
      · rw [List.take_add_one, hv, List.flatMap_append, ← List.append_assoc]; simpa using s2
    · rintro e h' ⟨a, q0, qn, o, e1, e3, e4⟩ K' hx
      rw [List.take_of_length_le (Nat.le_refl _)] at o
      have hal : (allV r).length ≤ 3000000 := by have := allV_len hf r.body.l.length; rw [List.take_of_length_le (Nat.le_refl _)] at this; exact this
      have hab : (allV r).length ≤ big := by unfold big; omega
      have o' : Own encS 1 1 h' a (allV r) := o
      rw [F.ref07_Variables.L0_eq]
      simp only [e1, e4, bindO_some, bindO2_some, outK_ret, condB_bool, cond_t, cond_f, fa_ptr, fa_iptr, part_none, Nat.zero_add, Nat.add_zero, Nat.reduceAdd, List.getElem?_cons_zero, List.getElem?_cons_succ, len_str, lenS_enc, lss_int, leq_int, gtr_int, geq_int, eq_int, ne_int, eq_str, ne_str, eq_bool, ne_bool, not_bool, extract_0, extract_1, extract_2, setV_eq, Nat.reduceEqDiff, reduceIte, load_ptr q0, encRu, lt_false]
      rw [hx, F.ref07_Variables.L0_x0_eq]
      refine loopB_range 0 (allV r).length (Nat.zero_le _) (fun i e h2 => ∃ b, HExt h' h2 ∧ Own encS 1 h'.next h2 b (addAll [] ((allV r).take i)) ∧ e 3 = a ∧ e 5 = b ∧ e 6 = .int .i64 (i : Int))
        ⟨.nils, HExt.refl _, by simpa [addAll] using Own.nil, by simp only [setV_eq, Nat.reduceEqDiff, reduceIte, e3], rfl, rfl⟩ ?_ ?_
      · rintro i e h2 _ hi ⟨b, x2, ob, e3, e5, e6⟩ K2 hn hx2 hr hp
        have hv : (allV r)[i]? = some (allV r)[i] := List.getElem?_eq_getElem hi
        generalize (allV r)[i] = s at hv
        have oa := o'.ext x2
        obtain ⟨q, _, g1, g2⟩ := own_name oa hv
        have hlb : (addAll [] ((allV r).take i)).length ≤ 3000000 := by
          have h1 := addAll_len ((allV r).take i) []
          have h2 := List.length_take_le' i (allV r)
          simp only [List.length_nil] at h1; omega
        have hcomm : ((addAll [] ((allV r).take i)).any fun x => x == s) = (addAll [] ((allV r).take i)).any fun x => s == x := by
          congr 1; funext x; exact Bool.eq_iff_iff.2 ⟨fun h => by rw [beq_iff_eq] at h ⊢; exact h.symm, fun h => by rw [beq_iff_eq] at h ⊢; exact h.symm⟩
        have hstep := addAll_step (o := []) hv
        unfold addV at hstep
        rw [F.ref07_Variables.L1_eq]
        simp only [e3, e5, e6, oa.len, bindO_some, bindO2_some, outK_ret, condB_bool, cond_t, cond_f, fa_ptr, fa_iptr, part_none, Nat.zero_add, Nat.add_zero, Nat.reduceAdd, List.getElem?_cons_zero, List.getElem?_cons_succ, len_str, lenS_enc, lss_int, leq_int, gtr_int, geq_int, eq_int, ne_int, eq_str, ne_str, eq_bool, ne_bool, not_bool, extract_0, extract_1, extract_2, setV_eq, Nat.reduceEqDiff, reduceIte, lt_true hi, g1, g2]
        refine semCall_true (ref02_Among ob (by unfold big; omega) ?_)
        rw [hcomm]
        simp only [bindO_some, bindO2_some, outK_ret, condB_bool, cond_t, cond_f, fa_ptr, fa_iptr, part_none, Nat.zero_add, Nat.add_zero, Nat.reduceAdd, List.getElem?_cons_zero, List.getElem?_cons_succ, len_str, lenS_enc, lss_int, leq_int, gtr_int, geq_int, eq_int, ne_int, eq_str, ne_str, eq_bool, ne_bool, not_bool, extract_0, extract_1, extract_2, setV_eq, Nat.reduceEqDiff, reduceIte]
        cases hq : (addAll [] ((allV r).take i)).any fun x => s == x with
        | true =>
          rw [hq, if_pos rfl] at hstep
          simp only [Bool.not_true, cond_f, succ_i64 hi hab, bindO_some]
          exact hn _ _ ⟨b, x2, by rw [hstep]; exact ob, e3, e5, rfl⟩
        | false =>
          rw [hq, if_neg (by simp)] at hstep
          obtain ⟨b2, h3, p1, p2, p3, p4, p5, p6⟩ := ob.push len_encS one_encS x2.next (bytes := 16) (by unfold maxBytes; omega) s
          simp only [Bool.not_false, cond_t, e3, e5, e6, g1, g2, bindO_some, bindO2_some, outK_ret, condB_bool, cond_t, cond_f, fa_ptr, fa_iptr, part_none, Nat.zero_add, Nat.add_zero, Nat.reduceAdd, List.getElem?_cons_zero, List.getElem?_cons_succ, len_str, lenS_enc, lss_int, leq_int, gtr_int, geq_int, eq_int, ne_int, eq_str, ne_str, eq_bool, ne_bool, not_bool, extract_0, extract_1, extract_2, setV_eq, Nat.reduceEqDiff, reduceIte, row_S, p1, succ_i64 hi hab]
          exact hn _ _ ⟨b2, p5 h' x2 (Nat.le_refl _), by rw [hstep]; exact p2, e3, rfl, rfl⟩
      · rintro e h2 ⟨b, x2, ob, e3, e5, e6⟩ K2 hx2
        have oa := o'.ext x2
        rw [F.ref07_Variables.L1_eq]
        simp only [e3, e6, oa.len, bindO_some, bindO2_some, outK_ret, condB_bool, cond_t, cond_f, fa_ptr, fa_iptr, part_none, Nat.zero_add, Nat.add_zero, Nat.reduceAdd, List.getElem?_cons_zero, List.getElem?_cons_succ, len_str, lenS_enc, lss_int, leq_int, gtr_int, geq_int, eq_int, ne_int, eq_str, ne_str, eq_bool, ne_bool, not_bool, extract_0, extract_1, extract_2, setV_eq, Nat.reduceEqDiff, reduceIte, lt_false]
        rw [hx2, F.ref07_Variables.L1_x2_eq]
        rw [List.take_of_length_le (Nat.le_refl _), ← varsOf_all] at ob
        simp only [setV_eq, Nat.reduceEqDiff, reduceIte, e5]
        obtain ⟨x, hx1, hx2⟩ := ob.frzx (fun v y hy => by
          simp only [encS, List.mem_cons, List.not_mem_nil, or_false] at hy
          subst hy; exact .scalar _ rfl)
        exact yes_eq.2 ⟨b, x, rfl, hx1, hx2⟩
  refine main.frozen (by have := pure_encRu r; simpa [encRu, AV.pureL, AV.pure] using this) fun o h' ho => ?_
  obtain ⟨v, x, rfl, hx, hfz⟩ := yes_eq.1 ho
  exact ⟨v, _, rfl, hfz, hK x hx⟩
end
end Go.AM
/- The reference's rules: which rules are good, their atoms. Conditions: none. -/
namespace Go.AM
open Go Go.Proofs
set_option linter.unusedVariables false
set_option linter.unusedSimpArgs false
noncomputable section

theorem atomB_named (nm : Str) (xs : List Str) : atomB nm xs = (nameB nm && namedB xs) := by
  unfold atomB namedB; rw [Bool.and_comm (xs.all nameB)]
def ruleOk (r : RuleD) : Bool := nameB r.name && (namedB r.args.l && (decide (r.body.l.length ≤ 20) && (r.body.l.all condOk && decide ((varsOf r).length ≤ 12))))
theorem ref07_rule {r : RuleD} (hok : r.ok) (hf : r.few) {h : Heap} {K : Out → Heap → Bool} (hK : K (.ret (.bool (ruleOk r))) h = true) :
    Sem Tryz.prog 28 [.agg [.str r.name, encSl encS 1 r.args, encSl encCo 4 r.body]] h K := by
  refine Sem.data (r := .bool (ruleOk r)) ?_ (by have := pure_encRu r; simpa [encRu, AV.pureL, AV.pure] using this) hK
  clear hK
  have hbb : r.body.l.length ≤ big := hok.2.2.2.1
  refine F.ref07_rule_sem ?_
  have g0 : (Heap.alloc Heap.empty (.cells (encRu r))).get 0 = some (.cells (encRu r)) := get_alloc_same _ _
  have gn : (Heap.alloc Heap.empty (.cells (encRu r))).next = 1 := rfl
  have hb : boxS (.agg [.str r.name, encSl encS 1 r.args, encSl encCo 4 r.body]) = some (encRu r) := box_agg (one_encRu r)
  simp only [hb, bindO_some, next_empty]
  generalize (Heap.alloc Heap.empty (.cells (encRu r))) = H at g0 gn ⊢
  have fin : ∀ (b : Bool) h', b = ruleOk r → frzK (.bool (ruleOk r)) (.ret (.bool b)) h' = true := fun b h' hb => by rw [hb]; exact frzK_same rfl
  generalize frzK (.bool (ruleOk r)) = R at fin ⊢
  simp only [bindO_some, bindO2_some, outK_ret, condB_bool, cond_t, cond_f, fa_ptr, fa_iptr, part_none, Nat.zero_add, Nat.add_zero, Nat.reduceAdd, List.getElem?_cons_zero, List.getElem?_cons_succ, len_str, lenS_enc, lss_int, leq_int, gtr_int, geq_int, eq_int, ne_int, eq_str, ne_str, eq_bool, ne_bool, not_bool, extract_0, extract_1, extract_2, setV_eq, Nat.reduceEqDiff, reduceIte, load_ptr g0, encRu]
  refine semCall_true (ref01_Name ?_)
  simp only [bindO_some, bindO2_some, outK_ret, condB_bool, cond_t, cond_f, fa_ptr, fa_iptr, part_none, Nat.zero_add, Nat.add_zero, Nat.reduceAdd, List.getElem?_cons_zero, List.getElem?_cons_succ, len_str, lenS_enc, lss_int, leq_int, gtr_int, geq_int, eq_int, ne_int, eq_str, ne_str, eq_bool, ne_bool, not_bool, extract_0, extract_1, extract_2, setV_eq, Nat.reduceEqDiff, reduceIte]
  cases hn : nameB r.name with
  | false => simp only [Bool.not_false, cond_t]; exact fin _ _ (by simp [ruleOk, hn])
  | true =>
  simp only [Bool.not_true, cond_f, bindO_some, bindO2_some, outK_ret, condB_bool, cond_t, cond_f, fa_ptr, fa_iptr, part_none, Nat.zero_add, Nat.add_zero, Nat.reduceAdd, List.getElem?_cons_zero, List.getElem?_cons_succ, len_str, lenS_enc, lss_int, leq_int, gtr_int, geq_int, eq_int, ne_int, eq_str, ne_str, eq_bool, ne_bool, not_bool, extract_0, extract_1, extract_2, setV_eq, Nat.reduceEqDiff, reduceIte, load_ptr g0, encRu]
  refine semCall_true (ref07_Named hok.2.1 ?_)
  simp only [bindO_some, bindO2_some, outK_ret, condB_bool, cond_t, cond_f, fa_ptr, fa_iptr, part_none, Nat.zero_add, Nat.add_zero, Nat.reduceAdd, List.getElem?_cons_zero, List.getElem?_cons_succ, len_str, lenS_enc, lss_int, leq_int, gtr_int, geq_int, eq_int, ne_int, eq_str, ne_str, eq_bool, ne_bool, not_bool, extract_0, extract_1, extract_2, setV_eq, Nat.reduceEqDiff, reduceIte]
  cases hnd : namedB r.args.l with
  | false => simp only [Bool.not_false, cond_t]; exact fin _ _ (by simp [ruleOk, hnd])
  | true =>
  simp only [Bool.not_true, cond_f, bindO_some, bindO2_some, outK_ret, condB_bool, cond_t, cond_f, fa_ptr, fa_iptr, part_none, Nat.zero_add, Nat.add_zero, Nat.reduceAdd, List.getElem?_cons_zero, List.getElem?_cons_succ, len_str, lenS_enc, lss_int, leq_int, gtr_int, geq_int, eq_int, ne_int, eq_str, ne_str, eq_bool, ne_bool, not_bool, extract_0, extract_1, extract_2, setV_eq, Nat.reduceEqDiff, reduceIte, load_ptr g0, encRu]
  by_cases h20 : 20 < r.body.l.length
  · simp only [decide_eq_true (by omega : (20 : Int) < (r.body.l.length : Int)), cond_t]
    exact fin _ _ (by simp [ruleOk, show ¬ r.body.l.length ≤ 20 by omega])
  simp only [decide_eq_false (by omega : ¬ (20 : Int) < (r.body.l.length : Int)), cond_f]
  have h20' : r.body.l.length ≤ 20 := by omega
  refine loopB_range 0 r.body.l.length (Nat.zero_le _) (fun i e h' => HExt H h' ∧ e 1 = .ptr 0 0 ∧ e 3 = .int .i64 (i : Int) ∧ (r.body.l.take i).all condOk = true) ⟨HExt.refl _, rfl, rfl, rfl⟩ ?_ ?_
  · rintro i e h' _ hi ⟨x1, e1, e3, ht⟩ K' hnn hx hr hp
    have hv : r.body.l[i]? = some r.body.l[i] := List.getElem?_eq_getElem hi
    generalize r.body.l[i] = c at hv
    have hcok := hok.2.2.2.2 c (List.mem_of_getElem? hv)
    have q0 : h'.get 0 = some (.cells (encRu r)) := by rw [x1.get 0 (by omega)]; exact g0
    obtain ⟨H2, hs2, k1, ko, kn⟩ := store_new (h := h') (zs := [.int .i64 0, .bool false, .str [], .nils]) (cs := encCo c) (n := 4) rfl rfl (one_encCo c)
    have x2 : HExt H H2 := x1.trans ⟨by omega, fun b hb => ko b (by omega)⟩
    have no : condOk c = false → ∀ h', R (.ret (.bool false)) h' = true := fun hc h' => fin _ _ (by simp [ruleOk, all_false hv hc])
    rw [F.ref07_rule.L0_eq]
    simp only [e1, e3, bindO_some, bindO2_some, outK_ret, condB_bool, cond_t, cond_f, fa_ptr, fa_iptr, part_none, Nat.zero_add, Nat.add_zero, Nat.reduceAdd, List.getElem?_cons_zero, List.getElem?_cons_succ, len_str, lenS_enc, lss_int, leq_int, gtr_int, geq_int, eq_int, ne_int, eq_str, ne_str, eq_bool, ne_bool, not_bool, extract_0, extract_1, extract_2, setV_eq, Nat.reduceEqDiff, reduceIte, load_ptr q0, encRu, lt_true hi, iaS_enc r.body hi, load_agg len_encCo hv, hs2]
    simp only [bindO_some, bindO2_some, outK_ret, condB_bool, cond_t, cond_f, fa_ptr, fa_iptr, part_none, Nat.zero_add, Nat.add_zero, Nat.reduceAdd, List.getElem?_cons_zero, List.getElem?_cons_succ, len_str, lenS_enc, lss_int, leq_int, gtr_int, geq_int, eq_int, ne_int, eq_str, ne_str, eq_bool, ne_bool, not_bool, extract_0, extract_1, extract_2, setV_eq, Nat.reduceEqDiff, reduceIte, load_ptr k1, encCo, int_beq]
    by_cases k0 : c.kind = 0
    · have hco : condOk c = (nameB c.name && namedB c.args.l) := by unfold condOk; rw [if_pos k0, atomB_named]
      simp only [decide_eq_true k0, cond_t, bindO_some, bindO2_some, outK_ret, condB_bool, cond_t, cond_f, fa_ptr, fa_iptr, part_none, Nat.zero_add, Nat.add_zero, Nat.reduceAdd, List.getElem?_cons_zero, List.getElem?_cons_succ, len_str, lenS_enc, lss_int, leq_int, gtr_int, geq_int, eq_int, ne_int, eq_str, ne_str, eq_bool, ne_bool, not_bool, extract_0, extract_1, extract_2, setV_eq, Nat.reduceEqDiff, reduceIte, load_ptr k1, encCo]
      refine semCall_true (ref01_Name ?_)
      simp only [bindO_some, bindO2_some, outK_ret, condB_bool, cond_t, cond_f, fa_ptr, fa_iptr, part_none, Nat.zero_add, Nat.add_zero, Nat.reduceAdd, List.getElem?_cons_zero, List.getElem?_cons_succ, len_str, lenS_enc, lss_int, leq_int, gtr_int, geq_int, eq_int, ne_int, eq_str, ne_str, eq_bool, ne_bool, not_bool, extract_0, extract_1, extract_2, setV_eq, Nat.reduceEqDiff, reduceIte]
      cases n1 : nameB c.name with
      | false =>
        simp only [Bool.not_false, cond_t]
        rw [hr, F.ref07_rule.L0_r_eq]
        exact no (by rw [hco, n1]; rfl) _
      | true =>
      simp only [Bool.not_true, cond_f, bindO_some, bindO2_some, outK_ret, condB_bool, cond_t, cond_f, fa_ptr, fa_iptr, part_none, Nat.zero_add, Nat.add_zero, Nat.reduceAdd, List.getElem?_cons_zero, List.getElem?_cons_succ, len_str, lenS_enc, lss_int, leq_int, gtr_int, geq_int, eq_int, ne_int, eq_str, ne_str, eq_bool, ne_bool, not_bool, extract_0, extract_1, extract_2, setV_eq, Nat.reduceEqDiff, reduceIte, load_ptr k1, encCo]
      refine semCall_true (ref07_Named hcok.2.1 ?_)
      simp only [bindO_some, bindO2_some, outK_ret, condB_bool, cond_t, cond_f, fa_ptr, fa_iptr, part_none, Nat.zero_add, Nat.add_zero, Nat.reduceAdd, List.getElem?_cons_zero, List.getElem?_cons_succ, len_str, lenS_enc, lss_int, leq_int, gtr_int, geq_int, eq_int, ne_int, eq_str, ne_str, eq_bool, ne_bool, not_bool, extract_0, extract_1, extract_2, setV_eq, Nat.reduceEqDiff, reduceIte]
      cases n2 : namedB c.args.l with
      | false =>
        simp only [Bool.not_false, cond_t]
        rw [hr, F.ref07_rule.L0_r_eq]
        exact no (by rw [hco, n2, Bool.and_false]) _
      | true =>
      simp only [Bool.not_true, cond_f, succ_i64 hi hbb, bindO_some]
      exact hnn _ _ ⟨x2, e1, rfl, take_all hv ht (by rw [hco, n1, n2]; rfl)⟩
    simp only [decide_eq_false k0, cond_f]
    have J : ∀ (e : Env) (b : Bool), e 1 = .ptr 0 0 → e 3 = .int .i64 (i : Int) → e 4 = .ptr h'.next 0 → e 44 = .bool b → (b = true ↔ (c.kind = 1 ∨ c.kind = 2)) → F.ref07_rule.J0 K' ⟨e, 67, [], H2⟩ = true := by
      intro e b e1 e3 e4 e44 hb
      rw [F.ref07_rule.J0_eq]
      simp only [e4, e44, bindO_some, bindO2_some, outK_ret, condB_bool, cond_t, cond_f, fa_ptr, fa_iptr, part_none, Nat.zero_add, Nat.add_zero, Nat.reduceAdd, List.getElem?_cons_zero, List.getElem?_cons_succ, len_str, lenS_enc, lss_int, leq_int, gtr_int, geq_int, eq_int, ne_int, eq_str, ne_str, eq_bool, ne_bool, not_bool, extract_0, extract_1, extract_2, setV_eq, Nat.reduceEqDiff, reduceIte]
      cases b with
      | false =>
        simp only [cond_f]
        have : ¬ (c.kind = 1 ∨ c.kind = 2) := fun h => by have := hb.2 h; cases this
        rw [hr, F.ref07_rule.L0_r_eq]
        exact no (by unfold condOk; rw [if_neg k0, if_neg this]) _
      | true =>
        have hk := hb.1 rfl
        have hc1 : condOk c = (decide (c.name = []) && (decide (c.args.l.length = 2) && c.args.l.all nameB)) := by simp only [condOk, if_neg k0, if_pos hk]
        simp only [cond_t, bindO_some, bindO2_some, outK_ret, condB_bool, cond_t, cond_f, fa_ptr, fa_iptr, part_none, Nat.zero_add, Nat.add_zero, Nat.reduceAdd, List.getElem?_cons_zero, List.getElem?_cons_succ, len_str, lenS_enc, lss_int, leq_int, gtr_int, geq_int, eq_int, ne_int, eq_str, ne_str, eq_bool, ne_bool, not_bool, extract_0, extract_1, extract_2, setV_eq, Nat.reduceEqDiff, reduceIte, load_ptr k1, encCo, str_beq]
        by_cases hn : c.name = []
        · simp only [decide_eq_true hn, Bool.not_true, cond_f, bindO_some, bindO2_some, outK_ret, condB_bool, cond_t, cond_f, fa_ptr, fa_iptr, part_none, Nat.zero_add, Nat.add_zero, Nat.reduceAdd, List.getElem?_cons_zero, List.getElem?_cons_succ, len_str, lenS_enc, lss_int, leq_int, gtr_int, geq_int, eq_int, ne_int, eq_str, ne_str, eq_bool, ne_bool, not_bool, extract_0, extract_1, extract_2, setV_eq, Nat.reduceEqDiff, reduceIte, load_ptr k1, encCo, int_beq]
          by_cases h2 : c.args.l.length = 2
          · simp only [decide_eq_true (by omega : (c.args.l.length : Int) = 2), Bool.not_true, cond_f, bindO_some, bindO2_some, outK_ret, condB_bool, cond_t, cond_f, fa_ptr, fa_iptr, part_none, Nat.zero_add, Nat.add_zero, Nat.reduceAdd, List.getElem?_cons_zero, List.getElem?_cons_succ, len_str, lenS_enc, lss_int, leq_int, gtr_int, geq_int, eq_int, ne_int, eq_str, ne_str, eq_bool, ne_bool, not_bool, extract_0, extract_1, extract_2, setV_eq, Nat.reduceEqDiff, reduceIte, load_ptr k1, encCo]
            refine semCall_true (ref07_Named hcok.2.1 ?_)
            simp only [bindO_some, bindO2_some, outK_ret, condB_bool, cond_t, cond_f, fa_ptr, fa_iptr, part_none, Nat.zero_add, Nat.add_zero, Nat.reduceAdd, List.getElem?_cons_zero, List.getElem?_cons_succ, len_str, lenS_enc, lss_int, leq_int, gtr_int, geq_int, eq_int, ne_int, eq_str, ne_str, eq_bool, ne_bool, not_bool, extract_0, extract_1, extract_2, setV_eq, Nat.reduceEqDiff, reduceIte]
            have hnm : namedB c.args.l = c.args.l.all nameB := by unfold namedB; rw [decide_eq_true (by omega : c.args.l.length ≤ 12), Bool.and_true]
            rw [hnm]
            cases n2 : c.args.l.all nameB with
            | false =>
              simp only [Bool.not_false, cond_t]
              rw [hr, F.ref07_rule.L0_r_eq]
              exact no (by rw [hc1, n2, Bool.and_false, Bool.and_false]) _
            | true =>
              simp only [Bool.not_true, cond_f, e3, succ_i64 hi hbb, bindO_some]
              exact hnn _ _ ⟨x2, e1, rfl, take_all hv ht (by rw [hc1, n2]; simp [hn, h2])⟩
          · simp only [decide_eq_false (by omega : ¬ (c.args.l.length : Int) = 2), Bool.not_false, cond_t]
            rw [hr, F.ref07_rule.L0_r_eq]
            exact no (by rw [hc1]; simp [h2]) _
        · simp only [decide_eq_false hn, Bool.not_false, cond_t]
          rw [hr, F.ref07_rule.L0_r_eq]
          exact no (by rw [hc1]; simp [hn]) _
    by_cases k1' : c.kind = 1
    · simp only [decide_eq_true k1', cond_t]
      exact J _ true e1 e3 rfl rfl (by simp [k1'])
    · simp only [decide_eq_false k1', cond_f]
      exact J _ (decide (c.kind = 2)) e1 e3 rfl rfl (by simp [k1'])
  · rintro e h' ⟨x1, e1, e3, ht⟩ K' hx
    have q0 : h'.get 0 = some (.cells (encRu r)) := by rw [x1.get 0 (by omega)]; exact g0
    rw [F.ref07_rule.L0_eq]
    simp only [e1, e3, bindO_some, bindO2_some, outK_ret, condB_bool, cond_t, cond_f, fa_ptr, fa_iptr, part_none, Nat.zero_add, Nat.add_zero, Nat.reduceAdd, List.getElem?_cons_zero, List.getElem?_cons_succ, len_str, lenS_enc, lss_int, leq_int, gtr_int, geq_int, eq_int, ne_int, eq_str, ne_str, eq_bool, ne_bool, not_bool, extract_0, extract_1, extract_2, setV_eq, Nat.reduceEqDiff, reduceIte, load_ptr q0, encRu, lt_false]
    rw [hx, F.ref07_rule.L0_x0_eq]
    simp only [e1, bindO_some, bindO2_some, outK_ret, condB_bool, cond_t, cond_f, fa_ptr, fa_iptr, part_none, Nat.zero_add, Nat.add_zero, Nat.reduceAdd, List.getElem?_cons_zero, List.getElem?_cons_succ, len_str, lenS_enc, lss_int, leq_int, gtr_int, geq_int, eq_int, ne_int, eq_str, ne_str, eq_bool, ne_bool, not_bool, extract_0, extract_1, extract_2, setV_eq, Nat.reduceEqDiff, reduceIte, load_ptr q0, encRu, part3_3]
    refine semCall_true (ref07_Variables hf fun x hx1 => ?_)
    simp only [bindO_some, bindO2_some, outK_ret, condB_bool, cond_t, cond_f, fa_ptr, fa_iptr, part_none, Nat.zero_add, Nat.add_zero, Nat.reduceAdd, List.getElem?_cons_zero, List.getElem?_cons_succ, len_str, lenS_enc, lss_int, leq_int, gtr_int, geq_int, eq_int, ne_int, eq_str, ne_str, eq_bool, ne_bool, not_bool, extract_0, extract_1, extract_2, setV_eq, Nat.reduceEqDiff, reduceIte, hx1]
    rw [List.take_of_length_le (Nat.le_refl _)] at ht
    refine fin _ _ ?_
    unfold ruleOk
    rw [hn, hnd, decide_eq_true h20', ht]
    by_cases h12 : (varsOf r).length ≤ 12
    · rw [decide_eq_true h12, decide_eq_true (by omega : ((varsOf r).length : Int) ≤ 12)]; rfl
    · rw [decide_eq_false h12, decide_eq_false (by omega : ¬ ((varsOf r).length : Int) ≤ 12)]; rfl

def condAtoms (cs : List CondD) : List (Str × Int) := (cs.filter fun c => decide (c.kind = 0)).map fun c => (c.name, (c.args.l.length : Int))
def atomsR (r : RuleD) : List (Str × Int) := (r.name, (r.args.l.length : Int)) :: condAtoms r.body.l
def atomsOf (rs : List RuleD) : List (Str × Int) := rs.flatMap atomsR
theorem condAtoms_step {cs : List CondD} {j : Nat} {c : CondD} (hc : cs[j]? = some c) : condAtoms (cs.take (j + 1)) = condAtoms (cs.take j) ++ if c.kind = 0 then [(c.name, (c.args.l.length : Int))] else [] := by
  unfold condAtoms; rw [List.take_add_one, hc, Option.toList_some, List.filter_append, List.map_append]
  by_cases h : c.kind = 0 <;> simp [h]
theorem condAtoms_len (cs : List CondD) : (condAtoms cs).length ≤ cs.length := by
  unfold condAtoms; rw [List.length_map]; exact List.length_filter_le _ _
theorem atomsOf_len : ∀ rs : List RuleD, (∀ r ∈ rs, r.body.l.length ≤ 20) → (atomsOf rs).length ≤ rs.length * 21
  | [], _ => Nat.le_refl _
  | r :: rs, h => by
    have h1 := atomsOf_len rs fun q hq => h q (List.mem_cons_of_mem _ hq)
    have h2 := condAtoms_len r.body.l
    have h3 := h r List.mem_cons_self
    show (atomsR r ++ atomsOf rs).length ≤ _
    unfold atomsR
    rw [List.length_append, List.length_cons, List.length_cons]; omega
theorem ref07_atoms {rules : Sl RuleD} (h60 : rules.l.length ≤ 60) (h20 : ∀ r ∈ rules.l, r.body.l.length ≤ 20) {h : Heap} {K : Out → Heap → Bool} (hK : ∀ x : Sl (Str × Int), x.l = atomsOf rules.l → K (.ret (encSl encZ 2 x)) h = true) :
    Sem Tryz.prog 29 [encSl encRu 3 rules] h K := by
  have hbig : rules.l.length ≤ big := by unfold big; omega
  have hmx : maxBytes = 140737488355328 := rfl
  have main : Sem Tryz.prog 29 [encSl encRu 3 rules] Heap.empty (fun o h' => yes (∃ v, ∃ x : Sl (Str × Int), o = .ret v ∧ x.l = atomsOf rules.l ∧ Fz true h' v (encSl encZ 2 x))) := by
    refine F.ref07_atoms_sem ?_
    refine loopB_range 0 rules.l.length (Nat.zero_le _) (fun i e h' => ∃ a, Own encZ 2 0 h' a (atomsOf (rules.l.take i)) ∧ e 0 = encSl encRu 3 rules ∧ e 3 = a ∧ e 4 = .int .i64 (i : Int)) ⟨.nils, .nil, rfl, rfl, rfl⟩ ?_ ?_
    · rintro i e h' _ hi ⟨a, o, e0, e3, e4⟩ K' hn hx hr hp
      have hv : rules.l[i]? = some rules.l[i] := List.getElem?_eq_getElem hi
      generalize rules.l[i] = r at hv
      have hb20 := h20 r (List.mem_of_getElem? hv)
      have hbb : r.body.l.length ≤ big := by unfold big; omega
      have ld : ∀ j, j < 3 → ∀ h, loadS none (.iptr (rules.l.flatMap encRu) (i * 3 + j)) h = (encRu r)[j]? := fun j hj h => load_elem len_encRu hv hj
      have ld0 : ∀ h, loadS none (.iptr (rules.l.flatMap encRu) (i * 3)) h = some (.str r.name) := fun h => ld 0 (by omega) h
      have hal : (atomsOf (rules.l.take i)).length ≤ 1260 := by
        have h1 := atomsOf_len (rules.l.take i) fun q hq => h20 q (List.mem_of_mem_take hq)
        have h2 := List.length_take_le i rules.l
        omega
      obtain ⟨a1, h1, p1, p2, p3, p4, p5, p6⟩ := o.push len_encZ (fun x => rfl) (Nat.zero_le _) (bytes := 24) (by omega) (r.name, (r.args.l.length : Int))
      rw [F.ref07_atoms.L0_eq]
      simp only [e0, e3, e4, bindO_some, bindO2_some, outK_ret, condB_bool, cond_t, cond_f, fa_ptr, fa_iptr, part_none, Nat.zero_add, Nat.add_zero, Nat.reduceAdd, List.getElem?_cons_zero, List.getElem?_cons_succ, len_str, lenS_enc, lss_int, leq_int, gtr_int, geq_int, eq_int, ne_int, eq_str, ne_str, eq_bool, ne_bool, not_bool, extract_0, extract_1, extract_2, setV_eq, Nat.reduceEqDiff, reduceIte, lt_true hi, iaS_enc rules hi, ld0, ld 1 (by omega), encRu, agg_Z, row_Z, p1]
      refine loopB_range 0 r.body.l.length (Nat.zero_le _) (fun j e h2 => ∃ a, Own encZ 2 0 h2 a (atomsOf (rules.l.take i) ++ (r.name, (r.args.l.length : Int)) :: condAtoms (r.body.l.take j)) ∧ e 0 = encSl encRu 3 rules ∧ e 3 = a ∧ e 4 = .int .i64 (i : Int) ∧ e 5 = .int .i64 (j : Int))
        ⟨a1, by simpa [condAtoms] using p2, e0, rfl, e4, rfl⟩ ?_ ?_
      · rintro j e h2 _ hj ⟨a, o, e0, e3, e4, e5⟩ K2 hn2 hx2 hr2 hp2
        have hc : r.body.l[j]? = some r.body.l[j] := List.getElem?_eq_getElem hj
        generalize r.body.l[j] = c at hc
        obtain ⟨H2, hs2, k1, ko, kn⟩ := store_new (h := h2) (zs := [.int .i64 0, .bool false, .str [], .nils]) (cs := encCo c) (n := 4) rfl rfl (one_encCo c)
        have x2 : HExt h2 H2 := ⟨by omega, fun b hb => ko b (by omega)⟩
        have hst := condAtoms_step hc
        rw [F.ref07_atoms.L1_eq]
        simp only [e0, e3, e4, e5, bindO_some, bindO2_some, outK_ret, condB_bool, cond_t, cond_f, fa_ptr, fa_iptr, part_none, Nat.zero_add, Nat.add_zero, Nat.reduceAdd, List.getElem?_cons_zero, List.getElem?_cons_succ, len_str, lenS_enc, lss_int, leq_int, gtr_int, geq_int, eq_int, ne_int, eq_str, ne_str, eq_bool, ne_bool, not_bool, extract_0, extract_1, extract_2, setV_eq, Nat.reduceEqDiff, reduceIte, iaS_enc rules hi, ld 2 (by omega), encRu, lt_true hj, iaS_enc r.body hj, load_agg len_encCo hc, hs2]
        simp only [bindO_some, bindO2_some, outK_ret, condB_bool, cond_t, cond_f, fa_ptr, fa_iptr, part_none, Nat.zero_add, Nat.add_zero, Nat.reduceAdd, List.getElem?_cons_zero, List.getElem?_cons_succ, len_str, lenS_enc, lss_int, leq_int, gtr_int, geq_int, eq_int, ne_int, eq_str, ne_str, eq_bool, ne_bool, not_bool, extract_0, extract_1, extract_2, setV_eq, Nat.reduceEqDiff, reduceIte, load_ptr k1, encCo, int_beq]
        by_cases k0 : c.kind = 0
        · rw [if_pos k0] at hst
          have hcl : (condAtoms (r.body.l.take j)).length ≤ 20 := by
            have h1 := condAtoms_len (r.body.l.take j)
            have h2 := List.length_take_le' j r.body.l
            omega
          obtain ⟨a2, h3, s1, s2, s3, s4, s5, s6⟩ := (o.ext x2).push len_encZ (fun x => rfl) (Nat.zero_le _) (bytes := 24) (by rw [List.length_append, List.length_cons]; omega) (c.name, (c.args.l.length : Int))
          simp only [decide_eq_true k0, cond_t, bindO_some, bindO2_some, outK_ret, condB_bool, cond_t, cond_f, fa_ptr, fa_iptr, part_none, Nat.zero_add, Nat.add_zero, Nat.reduceAdd, List.getElem?_cons_zero, List.getElem?_cons_succ, len_str, lenS_enc, lss_int, leq_int, gtr_int, geq_int, eq_int, ne_int, eq_str, ne_str, eq_bool, ne_bool, not_bool, extract_0, extract_1, extract_2, setV_eq, Nat.reduceEqDiff, reduceIte, load_ptr k1, encCo, agg_Z, row_Z, s1, succ_i64 hj hbb]
          refine hn2 _ _ ⟨a2, ?_, e0, rfl, e4, rfl⟩
          rw [hst]; simpa using s2
        · rw [if_neg k0, List.append_nil] at hst
          simp only [decide_eq_false k0, cond_f, succ_i64 hj hbb, bindO_some]
          exact hn2 _ _ ⟨a, by rw [hst]; exact o.ext x2, e0, e3, e4, rfl⟩
      · rintro e h2 ⟨a, o, e0, e3, e4, e5⟩ K2 hx2
        rw [F.ref07_atoms.L1_eq]
        simp only [e0, e4, e5, bindO_some, bindO2_some, outK_ret, condB_bool, cond_t, cond_f, fa_ptr, fa_iptr, part_none, Nat.zero_add, Nat.add_zero, Nat.reduceAdd, List.getElem?_cons_zero, List.getElem?_cons_succ, len_str, lenS_enc, lss_int, leq_int, gtr_int, geq_int, eq_int, ne_int, eq_str, ne_str, eq_bool, ne_bool, not_bool, extract_0, extract_1, extract_2, setV_eq, Nat.reduceEqDiff, reduceIte, iaS_enc rules hi, ld 2 (by omega), encRu, lt_false]
        rw [hx2, F.ref07_atoms.L1_x2_eq]
        simp only [e4, bindO_some, bindO2_some, outK_ret, condB_bool, cond_t, cond_f, fa_ptr, fa_iptr, part_none, Nat.zero_add, Nat.add_zero, Nat.reduceAdd, List.getElem?_cons_zero, List.getElem?_cons_succ, len_str, lenS_enc, lss_int, leq_int, gtr_int, geq_int, eq_int, ne_int, eq_str, ne_str, eq_bool, ne_bool, not_bool, extract_0, extract_1, extract_2, setV_eq, Nat.reduceEqDiff, reduceIte, succ_i64 hi hbig]
        refine hn _ _ ⟨a, ?_, e0, e3, rfl⟩
        rw [List.take_of_length_le (Nat.le_refl _)] at o
        have : atomsOf (rules.l.take (i + 1)) = atomsOf (rules.l.take i) ++ (r.name, (r.args.l.length : Int)) :: condAtoms r.body.l := by
          unfold atomsOf; rw [List.take_add_one, hv]; simp [atomsR]
        rw [this]; exact o
    · rintro e h' ⟨a, o, e0, e3, e4⟩ K' hx
      rw [F.ref07_atoms.L0_eq]
      simp only [e0, e4, bindO_some, bindO2_some, outK_ret, condB_bool, cond_t, cond_f, fa_ptr, fa_iptr, part_none, Nat.zero_add, Nat.add_zero, Nat.reduceAdd, List.getElem?_cons_zero, List.getElem?_cons_succ, len_str, lenS_enc, lss_int, leq_int, gtr_int, geq_int, eq_int, ne_int, eq_str, ne_str, eq_bool, ne_bool, not_bool, extract_0, extract_1, extract_2, setV_eq, Nat.reduceEqDiff, reduceIte, lt_false]
      rw [hx, F.ref07_atoms.L0_x0_eq]
      rw [List.take_of_length_le (Nat.le_refl _)] at o
      simp only [setV_eq, Nat.reduceEqDiff, reduceIte, e3]
      obtain ⟨x, hx1, hx2⟩ := o.frzx (fun v y hy => by
        simp only [encZ, List.mem_cons, List.not_mem_nil, or_false] at hy
        rcases hy with rfl | rfl <;> exact .scalar _ rfl)
      exact yes_eq.2 ⟨a, x, rfl, hx1, hx2⟩
  refine main.frozen (by simp [AV.pureL, pure_encSl pure_encRu]) fun o h' ho => ?_
  obtain ⟨v, x, rfl, hx, hf⟩ := yes_eq.1 ho
  exact ⟨v, _, rfl, hf, hK x hx⟩
end
end Go.AM
/- The reference's names: defined ones, places, the same ones. Conditions: none. -/
namespace Go.AM
open Go Go.Proofs
set_option linter.unusedVariables false
set_option linter.unusedSimpArgs false
noncomputable section

theorem loopB_while {f : St → (AX → St → Bool) → Bool} {K : AX → St → Bool} {n : Nat} {defs : List ADef} {e0 : Env} {h0 : Heap} (I : Nat → Env → Heap → Prop) (m : Nat) (hI : I m e0 h0)
    (step : ∀ m e h, I m e h → ∀ K' : AX → St → Bool, (∀ m' e' h', m' < m → I m' e' h' → K' .normal ⟨e', n, defs, h'⟩ = true) → (∀ id s, K' (.exit id) s = K (.exit id) s) → (∀ s, K' .ret s = K .ret s) → f ⟨e, n, defs, h⟩ K' = true) : loopB f ⟨e0, n, defs, h0⟩ K = true :=
  loopB_rule I m hI fun m e h hi => step m e h hi _ (fun m' e' h' hlt hi' => loopK_normal (I := I) m' hlt hi') (fun _ _ => rfl) (fun _ => rfl)

theorem rising_len : ∀ (l : List Str) (s : Str), (risingL l s).length ≤ l.length + 1
  | [], s => Nat.le_refl _
  | x :: l, s => by
    have := rising_len l s
    rw [risingL]
    split
    · rw [List.length_cons, List.length_cons]; omega
    · split
      · omega
      · simp
def defL (rs : List RuleD) : List Str := rs.foldl (fun o r => risingL o r.name) []
theorem defL_step {rs : List RuleD} {i : Nat} {r : RuleD} (hr : rs[i]? = some r) : defL (rs.take (i + 1)) = risingL (defL (rs.take i)) r.name := by
  unfold defL; rw [List.take_add_one, hr]; simp
theorem fold_rising_len : ∀ (rs : List RuleD) (o : List Str), (rs.foldl (fun o r => risingL o r.name) o).length ≤ o.length + rs.length
  | [], o => Nat.le_refl _
  | r :: rs, o => by
    have h1 := fold_rising_len rs (risingL o r.name)
    have h2 := rising_len o r.name
    rw [List.foldl_cons, List.length_cons]; omega
theorem defL_len (rs : List RuleD) : (defL rs).length ≤ rs.length := by
  have := fold_rising_len rs []; simpa [defL] using this
theorem fold_rising_sorted : ∀ (rs : List RuleD) (o : List Str), SortS o → SortS (rs.foldl (fun o r => risingL o r.name) o)
  | [], o, h => h
  | r :: rs, o, h => fold_rising_sorted rs _ (rising_sorted h r.name)
theorem defL_sorted (rs : List RuleD) : SortS (defL rs) := fold_rising_sorted rs [] List.Pairwise.nil
theorem fold_rising_mem {s : Str} : ∀ (rs : List RuleD) (o : List Str), s ∈ rs.foldl (fun o r => risingL o r.name) o ↔ s ∈ o ∨ s ∈ headsOf rs
  | [], o => by simp [headsOf]
  | r :: rs, o => by
    rw [List.foldl_cons, fold_rising_mem rs, mem_rising]
    simp [headsOf, or_assoc]
theorem defL_mem {s : Str} (rs : List RuleD) : s ∈ defL rs ↔ s ∈ headsOf rs := by
  have := fold_rising_mem (s := s) rs []; simpa [defL] using this
theorem sortS_nodup {l : List Str} (h : SortS l) : l.Nodup := by
  unfold SortS at h; unfold List.Nodup
  exact h.imp fun {a b} hab e => by subst e; rw [strLt_irr] at hab; cases hab
theorem ref07_Defined {rules : Sl RuleD} (h60 : rules.l.length ≤ 60) {h : Heap} {K : Out → Heap → Bool} (hK : ∀ x : Sl Str, x.l = defL rules.l → K (.ret (encSl encS 1 x)) h = true) :
    Sem Tryz.prog 11 [encSl encRu 3 rules] h K := by
  have hbig : rules.l.length ≤ big := by unfold big; omega
  have main : Sem Tryz.prog 11 [encSl encRu 3 rules] Heap.empty (fun o h' => yes (∃ v, ∃ x : Sl Str, o = .ret v ∧ x.l = defL rules.l ∧ Fz true h' v (encSl encS 1 x))) := by
    refine F.ref07_Defined_sem ?_
    refine loopB_range 0 rules.l.length (Nat.zero_le _) (fun i e h' => ∃ a, Own encS 1 0 h' a (defL (rules.l.take i)) ∧ e 0 = encSl encRu 3 rules ∧ e 3 = a ∧ e 4 = .int .i64 (i : Int)) ⟨.nils, .nil, rfl, rfl, rfl⟩ ?_ ?_
    · rintro i e h' _ hi ⟨a, o, e0, e3, e4⟩ K' hn hx hr hp
      have hv : rules.l[i]? = some rules.l[i] := List.getElem?_eq_getElem hi
      generalize rules.l[i] = r at hv
      have ld : ∀ h, loadS none (.iptr (rules.l.flatMap encRu) (i * 3)) h = some (.str r.name) := fun h => load_elem len_encRu hv (by omega : 0 < 3)
      have hst := defL_step hv
      rw [F.ref07_Defined.L0_eq]
      simp only [e0, e3, e4, bindO_some, bindO2_some, outK_ret, condB_bool, cond_t, cond_f, fa_ptr, fa_iptr, part_none, Nat.zero_add, Nat.add_zero, Nat.reduceAdd, List.getElem?_cons_zero, List.getElem?_cons_succ, len_str, lenS_enc, lss_int, leq_int, gtr_int, geq_int, eq_int, ne_int, eq_str, ne_str, eq_bool, ne_bool, not_bool, extract_0, extract_1, extract_2, setV_eq, Nat.reduceEqDiff, reduceIte, lt_true hi, iaS_enc rules hi, ld]
      refine semCall_true (ref07_rising o (Nat.zero_le _) (by have h1 := defL_len (rules.l.take i); have h2 := List.length_take_le i rules.l; omega) fun a1 h1 x1 o1 => ?_)
      simp only [bindO_some, bindO2_some, outK_ret, condB_bool, cond_t, cond_f, fa_ptr, fa_iptr, part_none, Nat.zero_add, Nat.add_zero, Nat.reduceAdd, List.getElem?_cons_zero, List.getElem?_cons_succ, len_str, lenS_enc, lss_int, leq_int, gtr_int, geq_int, eq_int, ne_int, eq_str, ne_str, eq_bool, ne_bool, not_bool, extract_0, extract_1, extract_2, setV_eq, Nat.reduceEqDiff, reduceIte, succ_i64 hi hbig]
      exact hn _ _ ⟨a1, by rw [hst]; exact o1, e0, rfl, rfl⟩
    · rintro e h' ⟨a, o, e0, e3, e4⟩ K' hx
      rw [F.ref07_Defined.L0_eq]
      simp only [e0, e4, bindO_some, bindO2_some, outK_ret, condB_bool, cond_t, cond_f, fa_ptr, fa_iptr, part_none, Nat.zero_add, Nat.add_zero, Nat.reduceAdd, List.getElem?_cons_zero, List.getElem?_cons_succ, len_str, lenS_enc, lss_int, leq_int, gtr_int, geq_int, eq_int, ne_int, eq_str, ne_str, eq_bool, ne_bool, not_bool, extract_0, extract_1, extract_2, setV_eq, Nat.reduceEqDiff, reduceIte, lt_false]
      rw [hx, F.ref07_Defined.L0_x0_eq]
      rw [List.take_of_length_le (Nat.le_refl _)] at o
      simp only [setV_eq, Nat.reduceEqDiff, reduceIte, e3]
      obtain ⟨x, hx1, hx2⟩ := o.frzx (fun v y hy => by
        simp only [encS, List.mem_cons, List.not_mem_nil, or_false] at hy
        subst hy; exact .scalar _ rfl)
      exact yes_eq.2 ⟨a, x, rfl, hx1, hx2⟩
  refine main.frozen (by simp [AV.pureL, pure_encSl pure_encRu]) fun o h' ho => ?_
  obtain ⟨v, x, rfl, hx, hf⟩ := yes_eq.1 ho
  exact ⟨v, _, rfl, hf, hK x hx⟩

theorem ref07_place {x : Sl Str} {s : Str} (hx : x.l.length ≤ big) {h : Heap} {K : Out → Heap → Bool} (hyes : ∀ i : Nat, x.l[i]? = some s → K (.ret (.int .i64 (i : Int))) h = true) (hno : s ∉ x.l → K (.ret (.int .i64 (-1))) h = true) : Sem Tryz.prog 30 [encSl encS 1 x, .str s] h K := by
  refine F.ref07_place_sem ?_
  refine loopB_range 0 x.l.length (Nat.zero_le _) (fun i e h' => h' = h ∧ e 0 = encSl encS 1 x ∧ e 1 = .str s ∧ e 5 = .int .i64 (i : Int) ∧ s ∉ x.l.take i) ⟨rfl, rfl, rfl, rfl, by simp⟩ ?_ ?_
  · rintro i e h' _ hi ⟨rfl, e0, e1, e5, ht⟩ K' hn hx' hr hp
    have hv : x.l[i]? = some x.l[i] := List.getElem?_eq_getElem hi
    generalize x.l[i] = t at hv
    rw [F.ref07_place.L0_eq]
    simp only [e0, e1, e5, bindO_some, bindO2_some, outK_ret, condB_bool, cond_t, cond_f, fa_ptr, fa_iptr, part_none, Nat.zero_add, Nat.add_zero, Nat.reduceAdd, List.getElem?_cons_zero, List.getElem?_cons_succ, len_str, lenS_enc, lss_int, leq_int, gtr_int, geq_int, eq_int, ne_int, eq_str, ne_str, eq_bool, ne_bool, not_bool, extract_0, extract_1, extract_2, setV_eq, Nat.reduceEqDiff, reduceIte, lt_true hi, iaS_enc x hi, get_strs hv, str_beq]
    by_cases hq : t = s
    · subst hq
      simp only [decide_true, cond_t]
      rw [hr, F.ref07_place.L0_r_eq]
      exact hyes i hv
    · simp only [decide_eq_false hq, cond_f, succ_i64 hi hx, bindO_some]
      refine hn _ _ ⟨rfl, e0, e1, rfl, ?_⟩
      rw [List.take_add_one, hv]
      simp only [Option.toList_some, List.mem_append, List.mem_singleton]
      exact fun h => h.elim ht fun h => hq h.symm
  · rintro e h' ⟨rfl, e0, e1, e5, ht⟩ K' hx'
    rw [F.ref07_place.L0_eq]
    simp only [e0, e5, bindO_some, bindO2_some, outK_ret, condB_bool, cond_t, cond_f, fa_ptr, fa_iptr, part_none, Nat.zero_add, Nat.add_zero, Nat.reduceAdd, List.getElem?_cons_zero, List.getElem?_cons_succ, len_str, lenS_enc, lss_int, leq_int, gtr_int, geq_int, eq_int, ne_int, eq_str, ne_str, eq_bool, ne_bool, not_bool, extract_0, extract_1, extract_2, setV_eq, Nat.reduceEqDiff, reduceIte, lt_false]
    rw [hx', F.ref07_place.L0_x0_eq]
    rw [List.take_of_length_le (Nat.le_refl _)] at ht
    exact hno ht

theorem ref02_SameNames {x y : Sl Str} (hx : x.l.length ≤ big) {h : Heap} {K : Out → Heap → Bool} (hK : K (.ret (.bool (x.l == y.l))) h = true) : Sem Tryz.prog 10 [encSl encS 1 x, encSl encS 1 y] h K := by
  refine F.ref02_SameNames_sem ?_
  simp only [bindO_some, bindO2_some, outK_ret, condB_bool, cond_t, cond_f, fa_ptr, fa_iptr, part_none, Nat.zero_add, Nat.add_zero, Nat.reduceAdd, List.getElem?_cons_zero, List.getElem?_cons_succ, len_str, lenS_enc, lss_int, leq_int, gtr_int, geq_int, eq_int, ne_int, eq_str, ne_str, eq_bool, ne_bool, not_bool, extract_0, extract_1, extract_2, setV_eq, Nat.reduceEqDiff, reduceIte, int_beq]
  by_cases hl : x.l.length = y.l.length
  · simp only [decide_eq_true (by omega : (x.l.length : Int) = (y.l.length : Int)), Bool.not_true, cond_f]
    refine loopB_range 0 x.l.length (Nat.zero_le _) (fun i e h' => h' = h ∧ e 0 = encSl encS 1 x ∧ e 1 = encSl encS 1 y ∧ e 5 = .int .i64 (i : Int) ∧ (x.l == y.l) = (x.l.drop i == y.l.drop i)) ⟨rfl, rfl, rfl, rfl, rfl⟩ ?_ ?_
    · rintro i e h' _ hi ⟨rfl, e0, e1, e5, ht⟩ K' hn hx' hr hp
      have hi2 : i < y.l.length := by omega
      have hv : x.l[i]? = some x.l[i] := List.getElem?_eq_getElem hi
      have hw : y.l[i]? = some y.l[i] := List.getElem?_eq_getElem hi2
      rw [list_drop_eq hv hw] at ht
      generalize x.l[i] = a at hv ht
      generalize y.l[i] = b at hw ht
      rw [F.ref02_SameNames.L0_eq]
      simp only [e0, e1, e5, bindO_some, bindO2_some, outK_ret, condB_bool, cond_t, cond_f, fa_ptr, fa_iptr, part_none, Nat.zero_add, Nat.add_zero, Nat.reduceAdd, List.getElem?_cons_zero, List.getElem?_cons_succ, len_str, lenS_enc, lss_int, leq_int, gtr_int, geq_int, eq_int, ne_int, eq_str, ne_str, eq_bool, ne_bool, not_bool, extract_0, extract_1, extract_2, setV_eq, Nat.reduceEqDiff, reduceIte, lt_true hi, iaS_enc x hi, iaS_enc y hi2, get_strs hv, get_strs hw]
      cases hq : a == b with
      | false =>
        simp only [Bool.not_false, cond_t]
        rw [hr, F.ref02_SameNames.L0_r_eq]
        simp only [setV_eq, Nat.reduceEqDiff, reduceIte]
        rw [ht, hq] at hK; exact hK
      | true =>
        simp only [Bool.not_true, cond_f, succ_i64 hi hx, bindO_some]
        exact hn _ _ ⟨rfl, e0, e1, rfl, by rw [ht, hq, Bool.true_and]⟩
    · rintro e h' ⟨rfl, e0, e1, e5, ht⟩ K' hx'
      rw [F.ref02_SameNames.L0_eq]
      simp only [e0, e5, bindO_some, bindO2_some, outK_ret, condB_bool, cond_t, cond_f, fa_ptr, fa_iptr, part_none, Nat.zero_add, Nat.add_zero, Nat.reduceAdd, List.getElem?_cons_zero, List.getElem?_cons_succ, len_str, lenS_enc, lss_int, leq_int, gtr_int, geq_int, eq_int, ne_int, eq_str, ne_str, eq_bool, ne_bool, not_bool, extract_0, extract_1, extract_2, setV_eq, Nat.reduceEqDiff, reduceIte, lt_false]
      rw [hx', F.ref02_SameNames.L0_x0_eq]
      rw [List.drop_of_length_le (Nat.le_refl _), List.drop_of_length_le (by omega)] at ht
      rw [ht] at hK; exact hK
  · simp only [decide_eq_false (by omega : ¬ (x.l.length : Int) = (y.l.length : Int)), Bool.not_false, cond_t]
    have : (x.l == y.l) = false := by
      simp only [beq_eq_false_iff_ne]; exact fun e => hl (congrArg List.length e)
    rw [this] at hK; exact hK
end
end Go.AM
/- The reference's levels. Conditions: none. -/
namespace Go.AM
open Go Go.Proofs
set_option linter.unusedVariables false
set_option linter.unusedSimpArgs false
noncomputable section

def upOf (ns : List Str) (lv : Lev.Lv) : List Int := ns.map fun s => (lv s : Int)
theorem upOf_len (ns : List Str) (lv : Lev.Lv) : (upOf ns lv).length = ns.length := by simp [upOf]
theorem upOf_get {ns : List Str} {lv : Lev.Lv} {i : Nat} {s : Str} (h : ns[i]? = some s) : (upOf ns lv)[i]? = some (lv s : Int) := by
  unfold upOf; rw [List.getElem?_map, h]; rfl
theorem nodup_inj {α : Type} : ∀ {l : List α} {i j : Nat} {s : α}, l.Nodup → l[i]? = some s → l[j]? = some s → i = j
  | [], i, j, s, _, h, _ => by simp at h
  | a :: l, 0, 0, s, _, _, _ => rfl
  | a :: l, 0, j + 1, s, hn, h1, h2 => by
    simp only [List.getElem?_cons_zero, Option.some.injEq, List.getElem?_cons_succ] at h1 h2
    subst h1
    exact absurd (List.mem_of_getElem? h2) (List.nodup_cons.1 hn).1
  | a :: l, i + 1, 0, s, hn, h1, h2 => by
    simp only [List.getElem?_cons_zero, Option.some.injEq, List.getElem?_cons_succ] at h1 h2
    subst h2
    exact absurd (List.mem_of_getElem? h1) (List.nodup_cons.1 hn).1
  | a :: l, i + 1, j + 1, s, hn, h1, h2 => by
    rw [List.getElem?_cons_succ] at h1 h2
    rw [nodup_inj (List.nodup_cons.1 hn).2 h1 h2]
theorem upOf_set {ns : List Str} (hn : ns.Nodup) {lv : Lev.Lv} {e : Lev.Edge} {a : Nat} (ha : ns[a]? = some e.h) (hlt : lv e.h < lv e.b + e.w) : (upOf ns lv).set a ((lv e.b + e.w : Nat) : Int) = upOf ns (Lev.relax lv e) := by
  have hal := (List.getElem?_eq_some_iff.1 ha).1
  refine List.ext_getElem? fun j => ?_
  rw [List.getElem?_set]
  have hrel : ∀ x, Lev.relax lv e x = if x = e.h then lv e.b + e.w else lv x := fun x => by unfold Lev.relax; rw [if_pos hlt]
  by_cases hj : a = j
  · subst hj
    rw [if_pos rfl, if_pos (by rw [upOf_len]; exact hal), upOf_get ha, hrel, if_pos rfl]
  · rw [if_neg hj]
    cases hs : ns[j]? with
    | none => unfold upOf; rw [List.getElem?_map, List.getElem?_map, hs]; rfl
    | some t =>
      rw [upOf_get hs, upOf_get hs, hrel, if_neg]
      intro e1
      subst e1
      exact hj (nodup_inj hn ha hs)
theorem relax_other {lv : Lev.Lv} {e : Lev.Edge} {s : Str} (h : s ≠ e.h) : Lev.relax lv e s = lv s := by
  unfold Lev.relax; split
  · exact if_neg h
  · rfl

set_option maxHeartbeats 2000000 in
theorem ref07_Levels {rules : Sl RuleD} (h60 : rules.l.length ≤ 60) (h20 : ∀ r ∈ rules.l, r.body.l.length ≤ 20) {h : Heap} {K : Out → Heap → Bool}
    (hno : (∀ k, ¬ Lev.Stable (edgesP rules.l) (Lev.iter (edgesP rules.l) k)) → K (.ret (.tuple [.nils, .bool false])) h = true)
    (hyes : ∀ (y : Sl Int) k, Lev.Stable (edgesP rules.l) (Lev.iter (edgesP rules.l) k) → y.l = upOf (defL rules.l) (Lev.iter (edgesP rules.l) k) → K (.ret (.tuple [encSl encI 1 y, .bool true])) h = true) :
    Sem Tryz.prog 9 [encSl encRu 3 rules] h K := by
  have hbig : rules.l.length ≤ big := by unfold big; omega
  have hN : ∀ e ∈ edgesP rules.l, e.b ∈ defL rules.l ∧ e.h ∈ defL rules.l := fun e he => by
    obtain ⟨r, hr, c, hc, _, hin, rfl⟩ := edges_of he
    exact ⟨(defL_mem _).2 hin, (defL_mem _).2 (List.mem_map_of_mem hr)⟩
  have hw : ∀ e ∈ edgesP rules.l, e.w ≤ 1 := fun e he => by
    obtain ⟨r, hr, c, hc, _, hin, rfl⟩ := edges_of he
    exact edge_w r c
  have hnd := sortS_nodup (defL_sorted rules.l)
  have hdl : (defL rules.l).length ≤ 60 := by have := defL_len rules.l; omega
  have main : Sem Tryz.prog 9 [encSl encRu 3 rules] Heap.empty (fun o h' => yes (((∀ k, ¬ Lev.Stable (edgesP rules.l) (Lev.iter (edgesP rules.l) k)) ∧ o = .ret (.tuple [.nils, .bool false])) ∨
      ∃ (a : AV) (y : Sl Int) (k : Nat), o = .ret (.tuple [a, .bool true]) ∧ Fz true h' a (encSl encI 1 y) ∧ Lev.Stable (edgesP rules.l) (Lev.iter (edgesP rules.l) k) ∧ y.l = upOf (defL rules.l) (Lev.iter (edgesP rules.l) k))) := by
    refine F.ref07_Levels_sem ?_
    generalize hR : (fun (o : Out) (h' : Heap) => yes (((∀ k, ¬ Lev.Stable (edgesP rules.l) (Lev.iter (edgesP rules.l) k)) ∧ o = .ret (.tuple [.nils, .bool false])) ∨
      ∃ (a : AV) (y : Sl Int) (k : Nat), o = .ret (.tuple [a, .bool true]) ∧ Fz true h' a (encSl encI 1 y) ∧ Lev.Stable (edgesP rules.l) (Lev.iter (edgesP rules.l) k) ∧ y.l = upOf (defL rules.l) (Lev.iter (edgesP rules.l) k))) = R
    have finN : (∀ k, ¬ Lev.Stable (edgesP rules.l) (Lev.iter (edgesP rules.l) k)) → ∀ h', R (.ret (.tuple [.nils, .bool false])) h' = true := fun hk h' => by
      subst hR; exact yes_eq.2 (.inl ⟨hk, rfl⟩)
    have finY : ∀ h' a (y : Sl Int) k, Fz true h' a (encSl encI 1 y) → Lev.Stable (edgesP rules.l) (Lev.iter (edgesP rules.l) k) → y.l = upOf (defL rules.l) (Lev.iter (edgesP rules.l) k) → R (.ret (.tuple [a, .bool true])) h' = true := fun h' a y k q1 q2 q3 => by
      subst hR; exact yes_eq.2 (.inr ⟨a, y, k, rfl, q1, q2, q3⟩)
    clear hR
    refine semCall_true (ref07_Defined h60 fun x hx1 => ?_)
    have hxl : x.l.length ≤ 60 := by rw [hx1]; exact hdl
    have hxb : x.l.length ≤ big := by unfold big; omega
    simp only [bindO_some, bindO2_some, outK_ret, condB_bool, cond_t, cond_f, fa_ptr, fa_iptr, part_none, Nat.zero_add, Nat.add_zero, Nat.reduceAdd, List.getElem?_cons_zero, List.getElem?_cons_succ, len_str, lenS_enc, lss_int, leq_int, gtr_int, geq_int, eq_int, ne_int, eq_str, ne_str, eq_bool, ne_bool, not_bool, extract_0, extract_1, extract_2, setV_eq, Nat.reduceEqDiff, reduceIte, make_sl (show x.l.length ≤ 1000000 by omega)]
    have gU : (Heap.alloc Heap.empty (.cells ((List.replicate x.l.length (0 : Int)).map iv))).get 0 = some (.cells ((upOf x.l (Lev.iter (edgesP rules.l) 0)).map iv)) := by
      have : upOf x.l (Lev.iter (edgesP rules.l) 0) = List.replicate x.l.length (0 : Int) := by
        show x.l.map (fun _ => (0 : Int)) = _; exact List.map_const'
      rw [this]; exact get_alloc_same _ _
    have gn : (Heap.alloc Heap.empty (.cells ((List.replicate x.l.length (0 : Int)).map iv))).next = 1 := rfl
    simp only [next_empty]
    generalize (Heap.alloc Heap.empty (.cells ((List.replicate x.l.length (0 : Int)).map iv))) = H0 at gU gn ⊢
    rw [← hx1] at hN hnd finY
    refine loopB_while (fun m e h' => ∃ k, h'.get 0 = some (.cells ((upOf x.l (Lev.iter (edgesP rules.l) k)).map iv)) ∧ 0 < h'.next ∧ (∀ s, Lev.iter (edgesP rules.l) k s ≤ x.l.length) ∧ e 0 = encSl encRu 3 rules ∧ e 4 = encSl encS 1 x ∧ e 5 = .slice 0 0 x.l.length 1 ∧
      ((e 6 = .bool true ∧ m = x.l.length * x.l.length + 2 - (x.l.map (Lev.iter (edgesP rules.l) k)).sum) ∨ (e 6 = .bool false ∧ m = 0 ∧ Lev.Stable (edgesP rules.l) (Lev.iter (edgesP rules.l) k)))) _
      ⟨0, gU, by omega, fun s => Nat.zero_le _, rfl, rfl, rfl, .inl ⟨rfl, rfl⟩⟩ ?_
    rintro m e h' ⟨k, qU, qn, bd, e0, e4, e5, hch⟩ K0 hN0 hx0 hr0
    rw [F.ref07_Levels.L0_eq]
    rcases hch with ⟨e6, hm⟩ | ⟨e6, hm, hst⟩
    · have hsum : (x.l.map (Lev.iter (edgesP rules.l) k)).sum ≤ x.l.length * x.l.length := Lev.sum_le x.l fun s _ => bd s
      simp only [e6, condB_bool, cond_t]
      refine loopB_range 0 rules.l.length (Nat.zero_le _) (fun i e h' => ∃ cur ch, Lev.RS (Lev.iter (edgesP rules.l) k) cur (edges (headsOf rules.l) (rules.l.take i)) ch ∧ h'.get 0 = some (.cells ((upOf x.l cur).map iv)) ∧ 0 < h'.next ∧ (∀ s, cur s ≤ x.l.length) ∧
        e 0 = encSl encRu 3 rules ∧ e 4 = encSl encS 1 x ∧ e 5 = .slice 0 0 x.l.length 1 ∧ e 6 = .bool ch ∧ e 7 = .int .i64 (i : Int)) ⟨_, false, Lev.RS.nil _, qU, qn, bd, e0, e4, e5, rfl, rfl⟩ ?_ ?_
      · rintro i e h' _ hi ⟨cur, ch, rs, qU, qn, bd, e0, e4, e5, e6, e7⟩ K1 hn1 hx1' hr1 hp1
        have hv : rules.l[i]? = some rules.l[i] := List.getElem?_eq_getElem hi
        generalize rules.l[i] = r at hv
        have hb20 := h20 r (List.mem_of_getElem? hv)
        have hbb : r.body.l.length ≤ big := by unfold big; omega
        have hrin : r.name ∈ x.l := by rw [hx1]; exact (defL_mem _).2 (List.mem_map_of_mem (List.mem_of_getElem? hv))
        have ld : ∀ j, j < 3 → ∀ h, loadS none (.iptr (rules.l.flatMap encRu) (i * 3 + j)) h = (encRu r)[j]? := fun j hj h => load_elem len_encRu hv hj
        have ld0 : ∀ h, loadS none (.iptr (rules.l.flatMap encRu) (i * 3)) h = some (.str r.name) := fun h => ld 0 (by omega) h
        rw [F.ref07_Levels.L1_eq]
        simp only [e0, e4, e7, bindO_some, bindO2_some, outK_ret, condB_bool, cond_t, cond_f, fa_ptr, fa_iptr, part_none, Nat.zero_add, Nat.add_zero, Nat.reduceAdd, List.getElem?_cons_zero, List.getElem?_cons_succ, len_str, lenS_enc, lss_int, leq_int, gtr_int, geq_int, eq_int, ne_int, eq_str, ne_str, eq_bool, ne_bool, not_bool, extract_0, extract_1, extract_2, setV_eq, Nat.reduceEqDiff, reduceIte, lt_true hi, iaS_enc rules hi, ld0]
        refine semCall_true (ref07_place hxb (fun a ha => ?_) (fun hnot => absurd hrin hnot))
        have hal := (List.getElem?_eq_some_iff.1 ha).1
        simp only [bindO_some, bindO2_some, outK_ret, condB_bool, cond_t, cond_f, fa_ptr, fa_iptr, part_none, Nat.zero_add, Nat.add_zero, Nat.reduceAdd, List.getElem?_cons_zero, List.getElem?_cons_succ, len_str, lenS_enc, lss_int, leq_int, gtr_int, geq_int, eq_int, ne_int, eq_str, ne_str, eq_bool, ne_bool, not_bool, extract_0, extract_1, extract_2, setV_eq, Nat.reduceEqDiff, reduceIte]
        refine loopB_range 0 r.body.l.length (Nat.zero_le _) (fun j e h2 => ∃ cur ch, Lev.RS (Lev.iter (edgesP rules.l) k) cur (edges (headsOf rules.l) (rules.l.take i) ++ edgesR (headsOf rules.l) r (r.body.l.take j)) ch ∧ h2.get 0 = some (.cells ((upOf x.l cur).map iv)) ∧ 0 < h2.next ∧ (∀ s, s ≠ r.name → cur s ≤ x.l.length) ∧ (∀ s, cur s ≤ x.l.length + j) ∧
          e 0 = encSl encRu 3 rules ∧ e 4 = encSl encS 1 x ∧ e 5 = .slice 0 0 x.l.length 1 ∧ e 6 = .bool ch ∧ e 7 = .int .i64 (i : Int) ∧ e 8 = .int .i64 (a : Int) ∧ e 9 = .int .i64 (j : Int))
          ⟨cur, ch, by simpa [edgesR] using rs, qU, qn, fun s _ => bd s, by simpa using bd, e0, e4, e5, e6, e7, rfl, rfl⟩ ?_ ?_
        · rintro j e h2 _ hj ⟨cur, ch, rs, qU, qn, bd1, bd2, e0, e4, e5, e6, e7, e8, e9⟩ K2 hn2 hx2 hr2 hp2
          have hc : r.body.l[j]? = some r.body.l[j] := List.getElem?_eq_getElem hj
          generalize r.body.l[j] = c at hc
          obtain ⟨H2, hs2, k1, ko, kn⟩ := store_new (h := h2) (zs := [.int .i64 0, .bool false, .str [], .nils]) (cs := encCo c) (n := 4) rfl rfl (one_encCo c)
          have kU : H2.get 0 = some (.cells ((upOf x.l cur).map iv)) := by rw [ko 0 (by omega)]; exact qU
          have hst := edgesR_step (hs := headsOf rules.l) (r := r) hc
          have skip : edgeR (headsOf rules.l) r c = [] → ∀ e' : Env, e' 0 = encSl encRu 3 rules → e' 4 = encSl encS 1 x → e' 5 = .slice 0 0 x.l.length 1 → e' 6 = .bool ch → e' 7 = .int .i64 (i : Int) → e' 8 = .int .i64 (a : Int) → e' 9 = .int .i64 ((j + 1 : Nat) : Int) → K2 .normal ⟨e', 89, [], H2⟩ = true := by
            intro hed e' e0 e4 e5 e6 e7 e8 e9
            rw [hed, List.append_nil] at hst
            exact hn2 _ _ ⟨cur, ch, by rw [hst]; exact rs, kU, by omega, bd1, fun s => by have := bd2 s; omega, e0, e4, e5, e6, e7, e8, e9⟩
          rw [F.ref07_Levels.L2_eq]
          simp only [e0, e4, e7, e9, bindO_some, bindO2_some, outK_ret, condB_bool, cond_t, cond_f, fa_ptr, fa_iptr, part_none, Nat.zero_add, Nat.add_zero, Nat.reduceAdd, List.getElem?_cons_zero, List.getElem?_cons_succ, len_str, lenS_enc, lss_int, leq_int, gtr_int, geq_int, eq_int, ne_int, eq_str, ne_str, eq_bool, ne_bool, not_bool, extract_0, extract_1, extract_2, setV_eq, Nat.reduceEqDiff, reduceIte, iaS_enc rules hi, ld 2 (by omega), encRu, lt_true hj, iaS_enc r.body hj, load_agg len_encCo hc, hs2]
          simp only [bindO_some, bindO2_some, outK_ret, condB_bool, cond_t, cond_f, fa_ptr, fa_iptr, part_none, Nat.zero_add, Nat.add_zero, Nat.reduceAdd, List.getElem?_cons_zero, List.getElem?_cons_succ, len_str, lenS_enc, lss_int, leq_int, gtr_int, geq_int, eq_int, ne_int, eq_str, ne_str, eq_bool, ne_bool, not_bool, extract_0, extract_1, extract_2, setV_eq, Nat.reduceEqDiff, reduceIte, load_ptr k1, encCo]
          refine semCall_true (ref07_place hxb (fun b hb => ?_) (fun hnot => ?_))
          · have hbl := (List.getElem?_eq_some_iff.1 hb).1
            have hcin : c.name ∈ headsOf rules.l := by rw [← defL_mem, ← hx1]; exact List.mem_of_getElem? hb
            simp only [bindO_some, bindO2_some, outK_ret, condB_bool, cond_t, cond_f, fa_ptr, fa_iptr, part_none, Nat.zero_add, Nat.add_zero, Nat.reduceAdd, List.getElem?_cons_zero, List.getElem?_cons_succ, len_str, lenS_enc, lss_int, leq_int, gtr_int, geq_int, eq_int, ne_int, eq_str, ne_str, eq_bool, ne_bool, not_bool, extract_0, extract_1, extract_2, setV_eq, Nat.reduceEqDiff, reduceIte, load_ptr k1, encCo, int_beq]
            by_cases k0 : c.kind = 0
            · have hed : edgeR (headsOf rules.l) r c = [edgeOf r c] := by unfold edgeR; rw [if_pos ⟨k0, hcin⟩]
              rw [hed] at hst
              simp only [decide_eq_true k0, cond_t, decide_eq_true (show (0 : Int) ≤ (b : Int) by omega), e5, ia_sl hbl, load_sl kU (upOf_get hb), bindO_some, bindO2_some, outK_ret, condB_bool, cond_t, cond_f, fa_ptr, fa_iptr, part_none, Nat.zero_add, Nat.add_zero, Nat.reduceAdd, List.getElem?_cons_zero, List.getElem?_cons_succ, len_str, lenS_enc, lss_int, leq_int, gtr_int, geq_int, eq_int, ne_int, eq_str, ne_str, eq_bool, ne_bool, not_bool, extract_0, extract_1, extract_2, setV_eq, Nat.reduceEqDiff, reduceIte, load_ptr k1, encCo]
              have J : ∀ e' : Env, e' 0 = encSl encRu 3 rules → e' 4 = encSl encS 1 x → e' 5 = .slice 0 0 x.l.length 1 → e' 6 = .bool ch → e' 7 = .int .i64 (i : Int) → e' 8 = .int .i64 (a : Int) → e' 9 = .int .i64 (j : Int) → e' 12 = .int .i64 ((cur c.name + (edgeOf r c).w : Nat) : Int) →
                  F.ref07_Levels.J0 K2 ⟨e', 89, [], H2⟩ = true := by
                intro e' e0 e4 e5 e6 e7 e8 e9 e12
                rw [F.ref07_Levels.J0_eq]
                simp only [e5, e8, e12, ia_sl hal, load_sl kU (upOf_get ha), bindO_some, bindO2_some, outK_ret, condB_bool, cond_t, cond_f, fa_ptr, fa_iptr, part_none, Nat.zero_add, Nat.add_zero, Nat.reduceAdd, List.getElem?_cons_zero, List.getElem?_cons_succ, len_str, lenS_enc, lss_int, leq_int, gtr_int, geq_int, eq_int, ne_int, eq_str, ne_str, eq_bool, ne_bool, not_bool, extract_0, extract_1, extract_2, setV_eq, Nat.reduceEqDiff, reduceIte]
                by_cases hlt : cur r.name < cur c.name + (edgeOf r c).w
                · have hset := upOf_set hnd (e := edgeOf r c) ha hlt
                  have hstore := store_sl (v := ((cur c.name + (edgeOf r c).w : Nat) : Int)) kU (i := a) (by rw [upOf_len]; exact hal)
                  have hset' : (upOf x.l cur).set a ((cur c.name + (edgeOf r c).w : Nat) : Int) = upOf x.l (Lev.relax cur (edgeOf r c)) := hset
                  rw [hset'] at hstore
                  simp only [lt_true hlt, cond_t, e5, e8, e9, e12, ia_sl hal, hstore, bindO_some, bindO2_some, outK_ret, condB_bool, cond_t, cond_f, fa_ptr, fa_iptr, part_none, Nat.zero_add, Nat.add_zero, Nat.reduceAdd, List.getElem?_cons_zero, List.getElem?_cons_succ, len_str, lenS_enc, lss_int, leq_int, gtr_int, geq_int, eq_int, ne_int, eq_str, ne_str, eq_bool, ne_bool, not_bool, extract_0, extract_1, extract_2, setV_eq, Nat.reduceEqDiff, reduceIte, succ_i64 hj hbb]
                  refine hn2 _ _ ⟨_, true, ?_, by rw [Heap.get_set, if_pos rfl], by rw [Heap.next_set]; omega, fun s hs => ?_, fun s => ?_, e0, e4, e5, rfl, e7, e8, rfl⟩
                  · rw [hst, ← List.append_assoc]; exact rs.up hlt
                  · rw [relax_other (e := edgeOf r c) hs]; exact bd1 s hs
                  · have := Lev.relax_bound (e := edgeOf r c) bd2 (edge_w r c) s; omega
                · simp only [decide_eq_false (by omega : ¬ ((cur r.name : Int) < ((cur c.name + (edgeOf r c).w : Nat) : Int))), cond_f, e9, succ_i64 hj hbb, bindO_some]
                  exact hn2 _ _ ⟨cur, ch, by rw [hst, ← List.append_assoc]; exact rs.same hlt, kU, by omega, bd1, fun s => by have := bd2 s; omega, e0, e4, e5, e6, e7, e8, rfl⟩
              cases hng : c.neg with
              | true =>
                have hw1 : (edgeOf r c).w = 1 := by unfold edgeOf; simp [hng]
                have hadd := succ_i64 (i := cur c.name) (n := 2000000) (by have := bd2 c.name; omega) (by unfold big; omega)
                simp only [cond_t, hadd, bindO_some]
                exact J _ e0 e4 e5 e6 e7 e8 e9 (by rw [hw1]; rfl)
              | false =>
                have hw1 : (edgeOf r c).w = 0 := by unfold edgeOf; simp [hng]
                simp only [cond_f]
                exact J _ e0 e4 e5 e6 e7 e8 e9 (by rw [hw1]; rfl)
            · simp only [decide_eq_false k0, cond_f, e9, succ_i64 hj hbb, bindO_some]
              exact skip (by unfold edgeR; rw [if_neg (fun h => k0 h.1)]) _ e0 e4 e5 e6 e7 e8 rfl
          · have hcout : c.name ∉ headsOf rules.l := fun h => hnot (by rw [hx1]; exact (defL_mem _).2 h)
            have hed : edgeR (headsOf rules.l) r c = [] := by unfold edgeR; rw [if_neg (fun h => hcout h.2)]
            simp only [bindO_some, bindO2_some, outK_ret, condB_bool, cond_t, cond_f, fa_ptr, fa_iptr, part_none, Nat.zero_add, Nat.add_zero, Nat.reduceAdd, List.getElem?_cons_zero, List.getElem?_cons_succ, len_str, lenS_enc, lss_int, leq_int, gtr_int, geq_int, eq_int, ne_int, eq_str, ne_str, eq_bool, ne_bool, not_bool, extract_0, extract_1, extract_2, setV_eq, Nat.reduceEqDiff, reduceIte, load_ptr k1, encCo, int_beq]
            by_cases k0 : c.kind = 0
            · simp only [decide_eq_true k0, cond_t, show decide ((0 : Int) ≤ -1) = false from rfl, cond_f, e9, succ_i64 hj hbb, bindO_some]
              exact skip hed _ e0 e4 e5 e6 e7 e8 rfl
            · simp only [decide_eq_false k0, cond_f, e9, succ_i64 hj hbb, bindO_some]
              exact skip hed _ e0 e4 e5 e6 e7 e8 rfl
        · rintro e h2 ⟨cur, ch, rs, qU, qn, bd1, bd2, e0, e4, e5, e6, e7, e8, e9⟩ K2 hx2
          rw [List.take_of_length_le (Nat.le_refl _), ← edges_step hv] at rs
          rw [F.ref07_Levels.L2_eq]
          simp only [e0, e7, e9, bindO_some, bindO2_some, outK_ret, condB_bool, cond_t, cond_f, fa_ptr, fa_iptr, part_none, Nat.zero_add, Nat.add_zero, Nat.reduceAdd, List.getElem?_cons_zero, List.getElem?_cons_succ, len_str, lenS_enc, lss_int, leq_int, gtr_int, geq_int, eq_int, ne_int, eq_str, ne_str, eq_bool, ne_bool, not_bool, extract_0, extract_1, extract_2, setV_eq, Nat.reduceEqDiff, reduceIte, iaS_enc rules hi, ld 2 (by omega), encRu, lt_false]
          rw [hx2, F.ref07_Levels.L2_x4_eq]
          simp only [e4, e5, e7, e8, ia_sl hal, load_sl qU (upOf_get ha), bindO_some, bindO2_some, outK_ret, condB_bool, cond_t, cond_f, fa_ptr, fa_iptr, part_none, Nat.zero_add, Nat.add_zero, Nat.reduceAdd, List.getElem?_cons_zero, List.getElem?_cons_succ, len_str, lenS_enc, lss_int, leq_int, gtr_int, geq_int, eq_int, ne_int, eq_str, ne_str, eq_bool, ne_bool, not_bool, extract_0, extract_1, extract_2, setV_eq, Nat.reduceEqDiff, reduceIte]
          by_cases hgt : x.l.length < cur r.name
          · simp only [lt_true hgt, cond_t]
            rw [hr1, F.ref07_Levels.L1_r_eq, hr0, F.ref07_Levels.L0_r_eq]
            refine finN (Lev.high (N := x.l) hN hw (k := k) (E1 := edges (headsOf rules.l) (rules.l.take (i + 1))) (E2 := edges (headsOf rules.l) (rules.l.drop (i + 1))) ?_ hrin (by rw [← rs.eq]; exact hgt)) _
            unfold edgesP edges
            rw [← List.flatMap_append, List.take_append_drop]
          · simp only [decide_eq_false (by omega : ¬ ((x.l.length : Int) < (cur r.name : Int))), cond_f, e7, succ_i64 hi hbig, bindO_some]
            refine hn1 _ _ ⟨cur, ch, rs, qU, qn, fun s => ?_, e0, e4, e5, e6, rfl⟩
            by_cases hs : s = r.name
            · subst hs; omega
            · exact bd1 s hs
      · rintro e h' ⟨cur, ch, rs, qU, qn, bd', e0, e4, e5, e6, e7⟩ K1 hx1'
        rw [List.take_of_length_le (Nat.le_refl _)] at rs
        obtain ⟨d1, d2⟩ := rs.done
        have d1' : cur = Lev.iter (edgesP rules.l) (k + 1) := d1
        rw [F.ref07_Levels.L1_eq]
        simp only [e0, e7, bindO_some, bindO2_some, outK_ret, condB_bool, cond_t, cond_f, fa_ptr, fa_iptr, part_none, Nat.zero_add, Nat.add_zero, Nat.reduceAdd, List.getElem?_cons_zero, List.getElem?_cons_succ, len_str, lenS_enc, lss_int, leq_int, gtr_int, geq_int, eq_int, ne_int, eq_str, ne_str, eq_bool, ne_bool, not_bool, extract_0, extract_1, extract_2, setV_eq, Nat.reduceEqDiff, reduceIte, lt_false]
        rw [hx1', F.ref07_Levels.L1_x2_eq]
        by_cases hst : Lev.Stable (edgesP rules.l) (Lev.iter (edgesP rules.l) k)
        · have hst' : Lev.Stable (edges (headsOf rules.l) rules.l) (Lev.iter (edgesP rules.l) k) := hst
          rw [decide_eq_true hst'] at d2
          have d3 : cur = Lev.iter (edgesP rules.l) k := by rw [d1]; exact Lev.round_same hst
          rw [d3] at qU
          exact hN0 0 _ _ (by omega) ⟨k, qU, qn, bd, e0, e4, e5, .inr ⟨by simp only [setV_eq, Nat.reduceEqDiff, reduceIte, e6, d2]; rfl, rfl, hst⟩⟩
        · have hst' : ¬ Lev.Stable (edges (headsOf rules.l) rules.l) (Lev.iter (edgesP rules.l) k) := hst
          rw [decide_eq_false hst'] at d2
          rw [d1'] at qU bd'
          have h1 := Lev.round_sum hN hst
          have h2 : (x.l.map (Lev.iter (edgesP rules.l) (k + 1))).sum ≤ x.l.length * x.l.length := Lev.sum_le x.l fun s _ => bd' s
          have h3 : (x.l.map (Lev.iter (edgesP rules.l) k)).sum < (x.l.map (Lev.iter (edgesP rules.l) (k + 1))).sum := h1
          exact hN0 _ _ _ (by rw [hm]; omega) ⟨k + 1, qU, qn, bd', e0, e4, e5, .inl ⟨by simp only [setV_eq, Nat.reduceEqDiff, reduceIte, e6, d2]; rfl, rfl⟩⟩
    · simp only [e6, condB_bool, cond_f]
      rw [hx0, F.ref07_Levels.L0_x0_eq]
      simp only [setV_eq, Nat.reduceEqDiff, reduceIte, e5]
      have hf := frz_ints qU
      rw [upOf_len] at hf
      exact finY _ _ (some (upOf x.l (Lev.iter (edgesP rules.l) k))) k hf hst rfl
  refine main.frozen (by simp [AV.pureL, pure_encSl pure_encRu]) fun o h' ho => ?_
  rcases yes_eq.1 ho with ⟨hb, rfl⟩ | ⟨a, y, k, rfl, f1, hst, s3⟩
  · exact ⟨_, _, rfl, .of_pure rfl, hno hb⟩
  · have fl := FzL.cons f1 (FzL.cons (Fz.scalar (.bool true) rfl) FzL.nil)
    exact ⟨_, _, rfl, .tuple _ _ fl.len fl.rel, hyes y k hst s3⟩
end
end Go.AM
/- Which rules are good: the program and the reference agree. Conditions: none. -/
namespace Go.AM
open Go Go.Proofs
set_option linter.unusedVariables false
set_option linter.unusedSimpArgs false
noncomputable section

def arS (m : MapL) (p : Str × Int) : Option MapL := match m.find p.1 with
  | none => some (m.upd p.1 p.2)
  | some k => if k = p.2 then some (m.upd p.1 p.2) else none
def arGo : List (Str × Int) → MapL → Option MapL
  | [], m => some m
  | p :: l, m => match arS m p with | none => none | some m' => arGo l m'
theorem arStep_S (m : MapL) (nm : Str) (n : Nat) : arStep m nm n = arS m (nm, (n : Int)) := rfl
theorem arGo_append : ∀ (a b : List (Str × Int)) (m : MapL), arGo (a ++ b) m = match arGo a m with | none => none | some m' => arGo b m'
  | [], b, m => rfl
  | p :: a, b, m => by
    rw [List.cons_append, arGo, arGo]
    cases arS m p with
    | none => rfl
    | some m' => exact arGo_append a b m'
theorem condsGo_eq : ∀ (cs : List CondD) (m : MapL), condsGo cs m = if cs.all condOk = true then arGo (condAtoms cs) m else none
  | [], m => rfl
  | c :: cs, m => by
    rw [condsGo, List.all_cons]
    cases hc : condOk c with
    | false => simp
    | true =>
      rw [cond_true, Bool.true_and]
      by_cases k0 : c.kind = 0
      · have hca : condAtoms (c :: cs) = (c.name, (c.args.l.length : Int)) :: condAtoms cs := by unfold condAtoms; simp [k0]
        rw [if_pos k0, hca, arGo, arStep_S]
        cases arS m (c.name, (c.args.l.length : Int)) with
        | none => simp
        | some m' => exact condsGo_eq cs m'
      · have hca : condAtoms (c :: cs) = condAtoms cs := by unfold condAtoms; simp [k0]
        rw [if_neg k0, hca]
        exact condsGo_eq cs m
theorem rulesGo_eq : ∀ (rs : List RuleD) (m : MapL), rulesGo rs m = if rs.all ruleOk = true then arGo (atomsOf rs) m else none
  | [], m => rfl
  | r :: rs, m => by
    have hat : atomsOf (r :: rs) = (r.name, (r.args.l.length : Int)) :: (condAtoms r.body.l ++ atomsOf rs) := by unfold atomsOf; simp [atomsR]
    rw [rulesGo, List.all_cons, hat, arGo, atomB_named, arStep_S]
    unfold ruleOk
    cases h1 : nameB r.name with
    | false => simp
    | true =>
    cases h2 : namedB r.args.l with
    | false => simp
    | true =>
    simp only [Bool.true_and, cond_true]
    by_cases h3 : r.body.l.length ≤ 20
    · by_cases h4 : (varsOf r).length ≤ 12
      · rw [decide_eq_true h3, decide_eq_true h4, Bool.true_and, Bool.and_true]
        cases arS m (r.name, (r.args.l.length : Int)) with
        | none => simp
        | some m1 =>
          simp only
          rw [if_neg (by omega), if_neg (by omega), condsGo_eq, arGo_append]
          cases h5 : r.body.l.all condOk with
          | false => simp
          | true =>
            rw [if_pos rfl, Bool.true_and]
            cases arGo (condAtoms r.body.l) m1 with
            | none => simp
            | some m2 => exact rulesGo_eq rs m2
      · rw [decide_eq_false h4, Bool.and_false, Bool.and_false, Bool.false_and, if_neg (by simp)]
        cases arS m (r.name, (r.args.l.length : Int)) with
        | none => rfl
        | some m1 => simp only; rw [if_neg (by omega), if_pos (by omega)]
    · rw [decide_eq_false h3, Bool.false_and, Bool.false_and, if_neg (by simp)]
      cases arS m (r.name, (r.args.l.length : Int)) with
      | none => rfl
      | some m1 => simp only; rw [if_pos (by omega)]
def agreeP (l : List (Str × Int)) : Prop := ∀ p ∈ l, ∀ q ∈ l, p.1 = q.1 → p.2 = q.2
theorem arGo_iff : ∀ (l : List (Str × Int)) (m : MapL), (∃ m', arGo l m = some m') ↔ ((∀ p ∈ l, ∀ k, m.find p.1 = some k → k = p.2) ∧ agreeP l)
  | [], m => ⟨fun _ => ⟨fun p hp => (by cases hp), fun p hp => (by cases hp)⟩, fun _ => ⟨m, rfl⟩⟩
  | p :: l, m => by
    have fu : ∀ q : Str × Int, (m.upd p.1 p.2).find q.1 = if q.1 = p.1 then some p.2 else m.find q.1 := fun q => find_updI m p.1 q.1 p.2
    have key : (∃ m', arGo l (m.upd p.1 p.2) = some m') ∧ (∀ k, m.find p.1 = some k → k = p.2) ↔ ((∀ q ∈ p :: l, ∀ k, m.find q.1 = some k → k = q.2) ∧ agreeP (p :: l)) := by
      rw [arGo_iff l]
      constructor
      · rintro ⟨⟨h1, h2⟩, h3⟩
        have hp : ∀ q ∈ l, q.1 = p.1 → p.2 = q.2 := fun q hq e => h1 q hq p.2 (by rw [fu, if_pos e])
        refine ⟨fun q hq k hk => ?_, fun a ha b hb e => ?_⟩
        · rcases List.mem_cons.1 hq with rfl | hq
          · exact h3 k hk
          · by_cases e : q.1 = p.1
            · rw [e] at hk; rw [h3 k hk, hp q hq e]
            · exact h1 q hq k (by rw [fu, if_neg e]; exact hk)
        · rcases List.mem_cons.1 ha with ha' | ha' <;> rcases List.mem_cons.1 hb with hb' | hb'
          · rw [ha', hb']
          · rw [ha'] at e ⊢; exact hp b hb' e.symm
          · rw [hb'] at e ⊢; exact (hp a ha' e).symm
          · exact h2 a ha' b hb' e
      · rintro ⟨h1, h2⟩
        refine ⟨⟨fun q hq k hk => ?_, fun a ha b hb e => h2 a (List.mem_cons_of_mem _ ha) b (List.mem_cons_of_mem _ hb) e⟩, fun k hk => h1 p List.mem_cons_self k hk⟩
        rw [fu] at hk
        by_cases e : q.1 = p.1
        · rw [if_pos e] at hk; cases hk
          exact h2 p List.mem_cons_self q (List.mem_cons_of_mem _ hq) e.symm
        · rw [if_neg e] at hk
          exact h1 q (List.mem_cons_of_mem _ hq) k hk
    rw [← key, arGo]
    unfold arS
    cases hf : m.find p.1 with
    | none => simp
    | some k =>
      by_cases hk : k = p.2
      · subst hk; simp
      · simp [hk]
theorem goodP_iff (rs : List RuleD) : GoodP rs ↔ (rs.length ≤ 60 ∧ rs.all ruleOk = true ∧ agreeP (atomsOf rs) ∧ ∃ k, Lev.Stable (edgesP rs) (Lev.iter (edgesP rs) k)) := by
  have h0 : ∀ p ∈ atomsOf rs, ∀ k, MapL.find [] p.1 = some k → k = p.2 := fun p _ k hk => by simp [MapL.find] at hk
  constructor
  · rintro ⟨h1, ⟨m, h2⟩, h3⟩
    rw [rulesGo_eq] at h2
    split at h2
    · rename_i ha; exact ⟨h1, ha, ((arGo_iff _ _).1 ⟨m, h2⟩).2, h3⟩
    · cases h2
  · rintro ⟨h1, h2, h3, h4⟩
    obtain ⟨m, hm⟩ := (arGo_iff (atomsOf rs) []).2 ⟨h0, h3⟩
    exact ⟨h1, ⟨m, by rw [rulesGo_eq, if_pos h2]; exact hm⟩, h4⟩

theorem get_Z {x : Sl (Str × Int)} {i : Nat} {p : Str × Int} (hp : x.l[i]? = some p) {h : Heap} : loadS none (.iptr (x.l.flatMap encZ) (i * 2)) h = some (.str p.1) := load_elem len_encZ hp (by omega : 0 < 2)
theorem get_Z1 {x : Sl (Str × Int)} {i : Nat} {p : Str × Int} (hp : x.l[i]? = some p) {h : Heap} : loadS none (.iptr (x.l.flatMap encZ) (i * 2 + 1)) h = some (.int .i64 p.2) := load_elem len_encZ hp (by omega : 1 < 2)
set_option maxHeartbeats 1000000 in
theorem ref07_Valid {rules : Sl RuleD} (hok : ∀ r ∈ rules.l, r.ok) (hfew : ∀ r ∈ rules.l, r.few) {h : Heap} {K : Out → Heap → Bool} (hK : ∀ b : Bool, (b = true ↔ GoodP rules.l) → K (.ret (.bool b)) h = true) : Sem Tryz.prog 8 [encSl encRu 3 rules] h K := by
  have gen : ∀ R : Out → Heap → Bool, (∀ (b : Bool) h', (b = true ↔ GoodP rules.l) → R (.ret (.bool b)) h' = true) → Sem Tryz.prog 8 [encSl encRu 3 rules] Heap.empty R := by
    intro R fin
    refine F.ref07_Valid_sem ?_
    have no : ∀ h', ¬ GoodP rules.l → R (.ret (.bool false)) h' = true := fun h' hn => fin false h' ⟨fun h => (by cases h), fun h => absurd h hn⟩
    simp only [bindO_some, bindO2_some, outK_ret, condB_bool, cond_t, cond_f, fa_ptr, fa_iptr, part_none, Nat.zero_add, Nat.add_zero, Nat.reduceAdd, List.getElem?_cons_zero, List.getElem?_cons_succ, len_str, lenS_enc, lss_int, leq_int, gtr_int, geq_int, eq_int, ne_int, eq_str, ne_str, eq_bool, ne_bool, not_bool, extract_0, extract_1, extract_2, setV_eq, Nat.reduceEqDiff, reduceIte]
    by_cases h61 : 60 < rules.l.length
    · simp only [decide_eq_true (by omega : (60 : Int) < (rules.l.length : Int)), cond_t]
      exact no _ (fun hg => by have := hg.few; omega)
    have h60 : rules.l.length ≤ 60 := by omega
    have hbig : rules.l.length ≤ big := by unfold big; omega
    simp only [decide_eq_false (by omega : ¬ (60 : Int) < (rules.l.length : Int)), cond_f]
    refine loopB_range 0 rules.l.length (Nat.zero_le _) (fun i e h' => e 0 = encSl encRu 3 rules ∧ e 3 = .int .i64 (i : Int) ∧ (rules.l.take i).all ruleOk = true) ⟨rfl, rfl, rfl⟩ ?_ ?_
    · rintro i e h' _ hi ⟨e0, e3, ht⟩ K' hn hx hr hp
      have hv : rules.l[i]? = some rules.l[i] := List.getElem?_eq_getElem hi
      generalize rules.l[i] = r at hv
      rw [F.ref07_Valid.L0_eq]
      simp only [e0, e3, bindO_some, bindO2_some, outK_ret, condB_bool, cond_t, cond_f, fa_ptr, fa_iptr, part_none, Nat.zero_add, Nat.add_zero, Nat.reduceAdd, List.getElem?_cons_zero, List.getElem?_cons_succ, len_str, lenS_enc, lss_int, leq_int, gtr_int, geq_int, eq_int, ne_int, eq_str, ne_str, eq_bool, ne_bool, not_bool, extract_0, extract_1, extract_2, setV_eq, Nat.reduceEqDiff, reduceIte, lt_true hi, iaS_enc rules hi, load_agg len_encRu hv]
      refine semCall_true (ref07_rule (hok r (List.mem_of_getElem? hv)) (hfew r (List.mem_of_getElem? hv)) ?_)
      simp only [bindO_some, bindO2_some, outK_ret, condB_bool, cond_t, cond_f, fa_ptr, fa_iptr, part_none, Nat.zero_add, Nat.add_zero, Nat.reduceAdd, List.getElem?_cons_zero, List.getElem?_cons_succ, len_str, lenS_enc, lss_int, leq_int, gtr_int, geq_int, eq_int, ne_int, eq_str, ne_str, eq_bool, ne_bool, not_bool, extract_0, extract_1, extract_2, setV_eq, Nat.reduceEqDiff, reduceIte]
      cases hq : ruleOk r with
      | false =>
        simp only [Bool.not_false, cond_t]
        rw [hr, F.ref07_Valid.L0_r_eq]
        exact no _ (fun hg => by
          have := ((goodP_iff _).1 hg).2.1
          rw [all_false hv hq] at this; cases this)
      | true =>
        simp only [Bool.not_true, cond_f, succ_i64 hi hbig, bindO_some]
        exact hn _ _ ⟨e0, rfl, take_all hv ht hq⟩
    · rintro e h' ⟨e0, e3, ht⟩ K' hx
      rw [List.take_of_length_le (Nat.le_refl _)] at ht
      have h20 : ∀ r ∈ rules.l, r.body.l.length ≤ 20 := fun r hr => by
        have := List.all_eq_true.1 ht r hr
        unfold ruleOk at this
        simp only [Bool.and_eq_true, decide_eq_true_eq] at this
        exact this.2.2.1
      rw [F.ref07_Valid.L0_eq]
      simp only [e0, e3, bindO_some, bindO2_some, outK_ret, condB_bool, cond_t, cond_f, fa_ptr, fa_iptr, part_none, Nat.zero_add, Nat.add_zero, Nat.reduceAdd, List.getElem?_cons_zero, List.getElem?_cons_succ, len_str, lenS_enc, lss_int, leq_int, gtr_int, geq_int, eq_int, ne_int, eq_str, ne_str, eq_bool, ne_bool, not_bool, extract_0, extract_1, extract_2, setV_eq, Nat.reduceEqDiff, reduceIte, lt_false]
      rw [hx, F.ref07_Valid.L0_x0_eq]
      simp only [e0, bindO_some, bindO2_some, outK_ret, condB_bool, cond_t, cond_f, fa_ptr, fa_iptr, part_none, Nat.zero_add, Nat.add_zero, Nat.reduceAdd, List.getElem?_cons_zero, List.getElem?_cons_succ, len_str, lenS_enc, lss_int, leq_int, gtr_int, geq_int, eq_int, ne_int, eq_str, ne_str, eq_bool, ne_bool, not_bool, extract_0, extract_1, extract_2, setV_eq, Nat.reduceEqDiff, reduceIte]
      refine semCall_true (ref07_atoms h60 h20 fun x hx1 => ?_)
      simp only [bindO_some, bindO2_some, outK_ret, condB_bool, cond_t, cond_f, fa_ptr, fa_iptr, part_none, Nat.zero_add, Nat.add_zero, Nat.reduceAdd, List.getElem?_cons_zero, List.getElem?_cons_succ, len_str, lenS_enc, lss_int, leq_int, gtr_int, geq_int, eq_int, ne_int, eq_str, ne_str, eq_bool, ne_bool, not_bool, extract_0, extract_1, extract_2, setV_eq, Nat.reduceEqDiff, reduceIte]
      have hxl : x.l.length ≤ 1260 := by rw [hx1]; have := atomsOf_len rules.l h20; omega
      have hxb : x.l.length ≤ big := by unfold big; omega
      refine loopB_range 0 x.l.length (Nat.zero_le _) (fun i e h' => e 0 = encSl encRu 3 rules ∧ e 4 = encSl encZ 2 x ∧ e 5 = .int .i64 (i : Int) ∧ ∀ a b p q, a < b → b < i → x.l[a]? = some p → x.l[b]? = some q → p.1 = q.1 → p.2 = q.2) ⟨e0, rfl, rfl, fun a b p q h1 h2 => by omega⟩ ?_ ?_
      · rintro i e h' _ hi ⟨e0, e4, e5, hag⟩ K1 hn1 hx1' hr1 hp1
        have hvi : x.l[i]? = some x.l[i] := List.getElem?_eq_getElem hi
        generalize x.l[i] = q at hvi
        rw [F.ref07_Valid.L1_eq]
        simp only [e4, e5, bindO_some, bindO2_some, outK_ret, condB_bool, cond_t, cond_f, fa_ptr, fa_iptr, part_none, Nat.zero_add, Nat.add_zero, Nat.reduceAdd, List.getElem?_cons_zero, List.getElem?_cons_succ, len_str, lenS_enc, lss_int, leq_int, gtr_int, geq_int, eq_int, ne_int, eq_str, ne_str, eq_bool, ne_bool, not_bool, extract_0, extract_1, extract_2, setV_eq, Nat.reduceEqDiff, reduceIte, lt_true hi]
        refine loopB_range 0 i (Nat.zero_le _) (fun j e h' => e 0 = encSl encRu 3 rules ∧ e 4 = encSl encZ 2 x ∧ e 5 = .int .i64 (i : Int) ∧ e 6 = .int .i64 (j : Int) ∧ ∀ a p, a < j → x.l[a]? = some p → p.1 = q.1 → p.2 = q.2) ⟨e0, e4, e5, rfl, fun a p h1 => by omega⟩ ?_ ?_
        · rintro j e h' _ hj ⟨e0, e4, e5, e6, haj⟩ K2 hn2 hx2 hr2 hp2
          have hjx : j < x.l.length := by omega
          have hvj : x.l[j]? = some x.l[j] := List.getElem?_eq_getElem hjx
          generalize x.l[j] = p at hvj
          have hib : i ≤ big := by omega
          rw [F.ref07_Valid.L2_eq]
          simp only [e4, e5, e6, bindO_some, bindO2_some, outK_ret, condB_bool, cond_t, cond_f, fa_ptr, fa_iptr, part_none, Nat.zero_add, Nat.add_zero, Nat.reduceAdd, List.getElem?_cons_zero, List.getElem?_cons_succ, len_str, lenS_enc, lss_int, leq_int, gtr_int, geq_int, eq_int, ne_int, eq_str, ne_str, eq_bool, ne_bool, not_bool, extract_0, extract_1, extract_2, setV_eq, Nat.reduceEqDiff, reduceIte, lt_true hj, iaS_enc x hi, iaS_enc x hjx, get_Z hvi, get_Z hvj, str_beq]
          by_cases hq : p.1 = q.1
          · simp only [decide_eq_true hq, cond_t, e4, e5, e6, bindO_some, bindO2_some, outK_ret, condB_bool, cond_t, cond_f, fa_ptr, fa_iptr, part_none, Nat.zero_add, Nat.add_zero, Nat.reduceAdd, List.getElem?_cons_zero, List.getElem?_cons_succ, len_str, lenS_enc, lss_int, leq_int, gtr_int, geq_int, eq_int, ne_int, eq_str, ne_str, eq_bool, ne_bool, not_bool, extract_0, extract_1, extract_2, setV_eq, Nat.reduceEqDiff, reduceIte, iaS_enc x hi, iaS_enc x hjx, get_Z1 hvi, get_Z1 hvj, int_beq]
            by_cases hq2 : p.2 = q.2
            · simp only [decide_eq_true hq2, Bool.not_true, cond_f, succ_i64 hj hib, bindO_some]
              refine hn2 _ _ ⟨e0, e4, e5, rfl, fun a p' h1 h2 => ?_⟩
              by_cases haj' : a = j
              · subst haj'; rw [hvj] at h2; cases h2; exact fun _ => hq2
              · exact haj a p' (by omega) h2
            · simp only [decide_eq_false hq2, Bool.not_false, cond_t]
              rw [hr2, F.ref07_Valid.L2_r_eq, hr1, F.ref07_Valid.L1_r_eq]
              exact no _ (fun hg => hq2 (((goodP_iff _).1 hg).2.2.1 p (by rw [← hx1]; exact List.mem_of_getElem? hvj) q (by rw [← hx1]; exact List.mem_of_getElem? hvi) hq))
          · simp only [decide_eq_false hq, cond_f, succ_i64 hj hib, bindO_some]
            refine hn2 _ _ ⟨e0, e4, e5, rfl, fun a p' h1 h2 => ?_⟩
            by_cases haj' : a = j
            · subst haj'; rw [hvj] at h2; cases h2; exact fun e => absurd e hq
            · exact haj a p' (by omega) h2
        · rintro e h' ⟨e0, e4, e5, e6, haj⟩ K2 hx2
          rw [F.ref07_Valid.L2_eq]
          simp only [e5, e6, bindO_some, bindO2_some, outK_ret, condB_bool, cond_t, cond_f, fa_ptr, fa_iptr, part_none, Nat.zero_add, Nat.add_zero, Nat.reduceAdd, List.getElem?_cons_zero, List.getElem?_cons_succ, len_str, lenS_enc, lss_int, leq_int, gtr_int, geq_int, eq_int, ne_int, eq_str, ne_str, eq_bool, ne_bool, not_bool, extract_0, extract_1, extract_2, setV_eq, Nat.reduceEqDiff, reduceIte, lt_false]
          rw [hx2, F.ref07_Valid.L2_x4_eq]
          simp only [e5, bindO_some, bindO2_some, outK_ret, condB_bool, cond_t, cond_f, fa_ptr, fa_iptr, part_none, Nat.zero_add, Nat.add_zero, Nat.reduceAdd, List.getElem?_cons_zero, List.getElem?_cons_succ, len_str, lenS_enc, lss_int, leq_int, gtr_int, geq_int, eq_int, ne_int, eq_str, ne_str, eq_bool, ne_bool, not_bool, extract_0, extract_1, extract_2, setV_eq, Nat.reduceEqDiff, reduceIte, succ_i64 hi hxb]
          refine hn1 _ _ ⟨e0, e4, rfl, fun a b p' q' h1 h2 h3 h4 => ?_⟩
          by_cases hb : b = i
          · subst hb; rw [hvi] at h4; cases h4; exact haj a p' h1 h3
          · exact hag a b p' q' h1 (by omega) h3 h4
      · rintro e h' ⟨e0, e4, e5, hag⟩ K1 hx1'
        have hagree : agreeP (atomsOf rules.l) := fun p hp q hq e => by
          rw [← hx1] at hp hq
          obtain ⟨a, ha⟩ := List.mem_iff_getElem?.1 hp
          obtain ⟨b, hb⟩ := List.mem_iff_getElem?.1 hq
          have hal := (List.getElem?_eq_some_iff.1 ha).1
          have hbl := (List.getElem?_eq_some_iff.1 hb).1
          rcases Nat.lt_trichotomy a b with h | h | h
          · exact hag a b p q h hbl ha hb e
          · subst h; rw [ha] at hb; cases hb; rfl
          · exact (hag b a q p h hal hb ha e.symm).symm
        rw [F.ref07_Valid.L1_eq]
        simp only [e4, e5, bindO_some, bindO2_some, outK_ret, condB_bool, cond_t, cond_f, fa_ptr, fa_iptr, part_none, Nat.zero_add, Nat.add_zero, Nat.reduceAdd, List.getElem?_cons_zero, List.getElem?_cons_succ, len_str, lenS_enc, lss_int, leq_int, gtr_int, geq_int, eq_int, ne_int, eq_str, ne_str, eq_bool, ne_bool, not_bool, extract_0, extract_1, extract_2, setV_eq, Nat.reduceEqDiff, reduceIte, lt_false]
        rw [hx1', F.ref07_Valid.L1_x2_eq]
        simp only [e0, bindO_some, bindO2_some, outK_ret, condB_bool, cond_t, cond_f, fa_ptr, fa_iptr, part_none, Nat.zero_add, Nat.add_zero, Nat.reduceAdd, List.getElem?_cons_zero, List.getElem?_cons_succ, len_str, lenS_enc, lss_int, leq_int, gtr_int, geq_int, eq_int, ne_int, eq_str, ne_str, eq_bool, ne_bool, not_bool, extract_0, extract_1, extract_2, setV_eq, Nat.reduceEqDiff, reduceIte]
        refine semCall_true (ref07_Levels h60 h20 (fun hk => ?_) (fun y k hk hy => ?_))
        · simp only [bindO_some, bindO2_some, outK_ret, condB_bool, cond_t, cond_f, fa_ptr, fa_iptr, part_none, Nat.zero_add, Nat.add_zero, Nat.reduceAdd, List.getElem?_cons_zero, List.getElem?_cons_succ, len_str, lenS_enc, lss_int, leq_int, gtr_int, geq_int, eq_int, ne_int, eq_str, ne_str, eq_bool, ne_bool, not_bool, extract_0, extract_1, extract_2, setV_eq, Nat.reduceEqDiff, reduceIte]
          exact no _ (fun hg => by obtain ⟨k, h⟩ := hg.lev; exact hk k h)
        · simp only [bindO_some, bindO2_some, outK_ret, condB_bool, cond_t, cond_f, fa_ptr, fa_iptr, part_none, Nat.zero_add, Nat.add_zero, Nat.reduceAdd, List.getElem?_cons_zero, List.getElem?_cons_succ, len_str, lenS_enc, lss_int, leq_int, gtr_int, geq_int, eq_int, ne_int, eq_str, ne_str, eq_bool, ne_bool, not_bool, extract_0, extract_1, extract_2, setV_eq, Nat.reduceEqDiff, reduceIte]
          exact fin true _ ⟨fun _ => (goodP_iff _).2 ⟨h60, ht, hagree, k, hk⟩, fun _ => rfl⟩
  have main := gen (fun o h' => yes (∃ b : Bool, o = .ret (.bool b) ∧ (b = true ↔ GoodP rules.l))) (fun b h' hb => yes_eq.2 ⟨b, rfl, hb⟩)
  refine main.frozen (by simp [AV.pureL, pure_encSl pure_encRu]) fun o h' ho => ?_
  obtain ⟨b, rfl, hb⟩ := yes_eq.1 ho
  exact ⟨_, _, rfl, .scalar _ rfl, hK b hb⟩
end
end Go.AM
