/- Parts of the proof. Conditions: none. -/
import Derived.Test.YtfdanacohcffmaaGreatKn2
import Derived.Test.YtfdanacohcffmaaGreatKn10
import Derived.Test.YtfdanacohcffmaaGreatKn15
import Derived.Test.YtfdanacohcffmaaGreatKn18
namespace Go.AM
open Go Go.Proofs
set_option linter.unusedVariables false
set_option linter.unusedSimpArgs false
noncomputable section
variable {h h' : Heap} {K : Out → Heap → Bool} {i b k sz ck : Nat} {α : Type} {a : AV} {es : List Entry} {d : List Int} {n v : Int} {m : MapL} {s : Str}
def letterI (n : Int) : Bool := (decide (97 ≤ n) && decide (n ≤ 122)) || (decide (65 ≤ n) && decide (n ≤ 90))
def digitI (n : Int) : Bool := decide (48 ≤ n) && decide (n ≤ 57)
def words : List Str := [[97, 110, 100], [111, 114], [110, 111, 116], [115, 111, 109, 101], [97, 108, 108], [108, 102, 112], [112, 102, 112], [116, 99], [101, 120, 105, 115, 116, 115], [116, 114, 117, 101], [102, 97, 108, 115, 101]]
def wordB (s : Str) : Bool := words.any fun w => s == w
theorem ref01_letter (hK : K (.ret (.bool (letterI n))) h = true) : Sem TP 180 [.int .u8 n] h K := by
  refine F.ref01_letter_sem ?_
  rw [F.ref01_letter_eq]
  simp only [geq_int, leq_int, bindO_some, condB_bool]
  unfold letterI at hK
  by_cases h1 : 97 ≤ n <;> by_cases h2 : n ≤ 122 <;> by_cases h3 : 65 ≤ n <;> by_cases h4 : n ≤ 90 <;> simpa [h1, h2, h3, h4] using hK
theorem ref01_digit (hK : K (.ret (.bool (digitI n))) h = true) : Sem TP 182 [.int .u8 n] h K := by
  refine F.ref01_digit_sem ?_
  rw [F.ref01_digit_eq]
  simp only [geq_int, leq_int, bindO_some, condB_bool]
  unfold digitI at hK
  by_cases h1 : 48 ≤ n <;> by_cases h2 : n ≤ 57 <;> simpa [h1, h2] using hK
theorem shape_letter (hK : K (.ret (.bool (letterI n))) h = true) : Sem TP 150 [.int .u8 n] h K := by
  refine F.shape_letter_sem ?_
  rw [F.shape_letter_eq]
  simp only [geq_int, leq_int, bindO_some, condB_bool]
  unfold letterI at hK
  by_cases h1 : 97 ≤ n <;> by_cases h2 : n ≤ 122 <;> by_cases h3 : 65 ≤ n <;> by_cases h4 : n ≤ 90 <;> simpa [h1, h2, h3, h4] using hK
theorem shape_digit (hK : K (.ret (.bool (digitI n))) h = true) : Sem TP 152 [.int .u8 n] h K := by
  refine F.shape_digit_sem ?_
  rw [F.shape_digit_eq]
  simp only [geq_int, leq_int, bindO_some, condB_bool]
  unfold digitI at hK
  by_cases h1 : 48 ≤ n <;> by_cases h2 : n ≤ 57 <;> simpa [h1, h2] using hK
theorem ref01_word (hK : K (.ret (.bool (wordB s))) h = true) : Sem TP 181 [.str s] h K := by
  refine F.ref01_Word_sem ?_
  rw [F.ref01_Word_eq]
  simp only [eq_str, bindO_some, condB_bool]
  simp only [wordB, words, List.any_cons, List.any_nil, Bool.or_false] at hK
  repeat (first | exact hK | (generalize (s == _) = b at hK ⊢; cases b <;> simp only [cond_t, cond_f, Bool.true_or, Bool.false_or] at hK ⊢ <;> try exact hK))
theorem shape_word (hK : K (.ret (.bool (wordB s))) h = true) : Sem TP 151 [.str s] h K := by
  refine F.shape_word_sem ?_
  rw [F.shape_word_eq]
  simp only [eq_str, bindO_some, condB_bool]
  simp only [wordB, words, List.any_cons, List.any_nil, Bool.or_false] at hK
  repeat (first | exact hK | (generalize (s == _) = b at hK ⊢; cases b <;> simp only [cond_t, cond_f, Bool.true_or, Bool.false_or] at hK ⊢ <;> try exact hK))
def okB (b : UInt8) : Bool := letterI b.toNat || digitI b.toNat
def nameB (s : Str) : Bool := match s with
  | [] => false
  | c :: _ => decide (s.length ≤ 12) && (letterI c.toNat && (!wordB s && s.all okB))
theorem take_all {p : α → Bool} {l : List α} {a : α} (ha : l[i]? = some a) (ht : (l.take i).all p = true) (hp : p a = true) : (l.take (i + 1)).all p = true := by
  rw [List.take_add_one, ha]; simp [ht, hp]
theorem all_false {p : α → Bool} {l : List α} {a : α} (ha : l[i]? = some a) (hp : p a = false) : l.all p = false := by
  rw [Bool.eq_false_iff]
  intro h
  rw [List.all_eq_true] at h
  have := h a (ZmG ha)
  rw [hp] at this; cases this
theorem ref01_Name {s : Str} {h : Heap} {K : Out → Heap → Bool} (hK : K (.ret (.bool (nameB s))) h = true) : Sem TP 153 [.str s] h K := by
  refine F.ref01_Name_sem ?_
  rw [F.ref01_Name_eq]
  cases s with
  | nil => simpa [nameB, len_str, lss_int, condB, bindO] using hK
  | cons c s' =>
    have h0 : (c :: s')[0]? = some c := rfl
    simp only [len_str, lss_int, gtr_int, bindO_some, condB_bool]
    have h1 : decide (((c :: s').length : Int) < 1) = false := by simp; omega
    simp only [h1, cond_f]
    by_cases h2 : (c :: s').length ≤ 12
    · have h3 : decide ((12 : Int) < ((c :: s').length : Int)) = false := by simp at h2 ⊢; omega
      simp only [h3, cond_f]
      rw [show strIdxS (.str (c :: s')) (.int .i64 0) = some (.int .u8 (c.toNat : Int)) from idx_str (i := 0) h0]
      simp only [bindO_some]
      refine semCall_true (ref01_letter ?_)
      simp only [outK_ret, not_bool, bindO_some, condB_bool]
      cases hl : letterI c.toNat with
      | false => simpa [nameB, hl] using hK
      | true =>
        simp only [Bool.not_true, cond_f]
        refine semCall_true (ref01_word ?_)
        simp only [outK_ret, condB_bool]
        cases hw : wordB (c :: s') with
        | true => simpa [nameB, hl, hw] using hK
        | false =>
          simp only [cond_f]
          have hn : nameB (c :: s') = (c :: s').all okB := by simp only [nameB, hl, hw, Bool.not_false, Bool.true_and]; rw [ZdT h2, Bool.true_and]
          rw [hn] at hK
          have h4 : ((c :: s').take 1).all okB = true := by simp [okB, hl]
          have h5 : 1 ≤ (c :: s').length := by simp
          clear h0 h1 h3 hl hw hn
          generalize (c :: s') = s at hK h2 h4 h5 ⊢
          refine loopB_range 1 s.length h5 (fun i e h' => h' = h ∧ e 0 = .str s ∧ e 3 = .int .i64 (i : Int) ∧ (s.take i).all okB = true) ⟨rfl, rfl, rfl, h4⟩ ?_ ?_
          · rintro i e h' _ hi ⟨rfl, e0, e3, ht⟩ K' hn hx hr hp
            have hb : s[i]? = some s[i] := ZgE hi
            have hlt : decide ((i : Int) < (s.length : Int)) = true := by simp; omega
            rw [F.ref01_Name.L0_eq]
            simp only [e0, e3, len_str, lss_int, idx_str hb, bindO_some, condB_bool, hlt, cond_t]
            refine semCall_true (ref01_letter ?_)
            simp only [outK_ret, not_bool, bindO_some, condB_bool]
            cases hl : letterI s[i].toNat with
            | true =>
              simp only [Bool.not_true, cond_f, add_i64 (a := (i : Int)) (b := 1) (by omega) (by omega), bindO_some]
              exact hn _ _ ⟨rfl, e0, rfl, take_all hb ht (by simp [okB, hl])⟩
            | false =>
              simp only [Bool.not_false, cond_t]
              refine semCall_true (ref01_digit ?_)
              simp only [outK_ret, not_bool, bindO_some, condB_bool]
              cases hd : digitI s[i].toNat with
              | true =>
                simp only [Bool.not_true, cond_f, add_i64 (a := (i : Int)) (b := 1) (by omega) (by omega), bindO_some]
                exact hn _ _ ⟨rfl, e0, rfl, take_all hb ht (by simp [okB, hd])⟩
              | false =>
                simp only [Bool.not_false, cond_t]
                rw [hr, F.ref01_Name.L0_r_eq]
                have : s.all okB = false := all_false hb (by simp [okB, hl, hd])
                rw [this] at hK; exact hK
          · rintro e h' ⟨rfl, e0, e3, ht⟩ K' hx
            have hlt : decide ((s.length : Int) < (s.length : Int)) = false := by simp
            rw [F.ref01_Name.L0_eq]
            simp only [e0, e3, len_str, lss_int, bindO_some, condB_bool, hlt, cond_f]
            rw [hx, F.ref01_Name.L0_x0_eq]
            rw [ZtL (ZrF _)] at ht
            rw [ht] at hK; exact hK
    · have h3 : decide ((12 : Int) < ((c :: s').length : Int)) = true := by simp at h2 ⊢; omega
      simp only [h3, cond_t]
      have : nameB (c :: s') = false := by simp only [nameB]; rw [ZdF h2]; rfl
      rw [this] at hK; exact hK
theorem shape_Name {s : Str} {h : Heap} {K : Out → Heap → Bool} (hK : K (.ret (.bool (nameB s))) h = true) : Sem TP 107 [.str s] h K := by
  refine F.shape_Name_sem ?_
  rw [F.shape_Name_eq]
  cases s with
  | nil => simpa [nameB, eq_str, condB, bindO] using hK
  | cons c s' =>
    have h0 : (c :: s')[0]? = some c := rfl
    have h1 : ((c :: s') == ([] : Str)) = false := rfl
    simp only [len_str, eq_str, gtr_int, bindO_some, condB_bool, h1, cond_f]
    by_cases h2 : (c :: s').length ≤ 12
    · have h3 : decide ((12 : Int) < ((c :: s').length : Int)) = false := by simp at h2 ⊢; omega
      simp only [h3, cond_f]
      rw [show strIdxS (.str (c :: s')) (.int .i64 0) = some (.int .u8 (c.toNat : Int)) from idx_str (i := 0) h0]
      simp only [bindO_some]
      refine semCall_true (shape_letter ?_)
      simp only [outK_ret, not_bool, bindO_some, condB_bool]
      cases hl : letterI c.toNat with
      | false => simpa [nameB, hl] using hK
      | true =>
        simp only [Bool.not_true, cond_f]
        refine semCall_true (shape_word ?_)
        simp only [outK_ret, condB_bool]
        cases hw : wordB (c :: s') with
        | true => simpa [nameB, hl, hw] using hK
        | false =>
          simp only [cond_f, len_str, bindO_some]
          have hn : nameB (c :: s') = (c :: s').all okB := by simp only [nameB, hl, hw, Bool.not_false, Bool.true_and]; rw [ZdT h2, Bool.true_and]
          rw [hn] at hK
          have h4 : ((c :: s').take 1).all okB = true := by simp [okB, hl]
          have h5 : 1 ≤ (c :: s').length := by simp
          clear h0 h1 h3 hl hw hn
          generalize (c :: s') = s at hK h2 h4 h5 ⊢
          refine loopB_range 0 s.length (Nat.zero_le _) (fun i e h' => h' = h ∧ e 0 = .str s ∧ e 23 = .int .i64 (i : Int) ∧ e 22 = .int .i64 (s.length : Int) ∧ (s.take i).all okB = true) ⟨rfl, rfl, rfl, rfl, rfl⟩ ?_ ?_
          · rintro i e h' _ hi ⟨rfl, e0, e3, e22, ht⟩ K' hn hx hr hp
            have hb : s[i]? = some s[i] := ZgE hi
            have hlt : decide ((i : Int) < (s.length : Int)) = true := by simp; omega
            rw [F.shape_Name.L0_eq]
            simp only [e0, e3, e22, len_str, lss_int, idx_str hb, bindO_some, condB_bool, hlt, cond_t]
            refine semCall_true (shape_letter ?_)
            simp only [outK_ret, not_bool, bindO_some, condB_bool]
            cases hl : letterI s[i].toNat with
            | true =>
              simp only [Bool.not_true, cond_f, add_i64 (a := (i : Int)) (b := 1) (by omega) (by omega), bindO_some]
              exact hn _ _ ⟨rfl, e0, rfl, e22, take_all hb ht (by simp [okB, hl])⟩
            | false =>
              simp only [Bool.not_false, cond_t]
              refine semCall_true (shape_digit ?_)
              simp only [outK_ret, not_bool, bindO_some, condB_bool]
              cases hd : digitI s[i].toNat with
              | true =>
                simp only [Bool.not_true, cond_f, add_i64 (a := (i : Int)) (b := 1) (by omega) (by omega), bindO_some]
                exact hn _ _ ⟨rfl, e0, rfl, e22, take_all hb ht (by simp [okB, hd])⟩
              | false =>
                simp only [Bool.not_false, cond_t]
                rw [hr, F.shape_Name.L0_r_eq]
                have : s.all okB = false := all_false hb (by simp [okB, hl, hd])
                rw [this] at hK; exact hK
          · rintro e h' ⟨rfl, e0, e3, e22, ht⟩ K' hx
            have hlt : decide ((s.length : Int) < (s.length : Int)) = false := by simp
            rw [F.shape_Name.L0_eq]
            simp only [e0, e3, e22, len_str, lss_int, bindO_some, condB_bool, hlt, cond_f]
            rw [hx, F.shape_Name.L0_x0_eq]
            rw [ZtL (ZrF _)] at ht
            rw [ht] at hK; exact hK
    · have h3 : decide ((12 : Int) < ((c :: s').length : Int)) = true := by simp at h2 ⊢; omega
      simp only [h3, cond_t]
      have : nameB (c :: s') = false := by simp only [nameB]; rw [ZdF h2]; rfl
      rw [this] at hK; exact hK
theorem get_ints {x : Sl Int} (hv : x.l[i]? = some v) : loadS none (.iptr (x.l.flatMap encI) (i * 1)) h = some (.int .i64 v) := by
  rw [load_elem1 len_encI hv]; rfl
def inB (n : Int) (l : List Int) : Bool := l.all fun x => !decide (x < 0) && !decide (n ≤ x)
def iv (n : Int) : AV := .int .i64 n
theorem map_iv (d : List Int) : d.map iv = d.flatMap encI := by
  induction d with
  | nil => rfl
  | cons a d ih => rw [List.map_cons, List.flatMap_cons, ih]; rfl
theorem ia_sl {n : Nat} {k : IntKind} (h : i < n) : iaS 1 (.slice b 0 n 1) (.int k (i : Int)) = some (.ptr b i) := by simp [iaS, asNat, h]
theorem load_sl (hb : h.get b = some (.cells (d.map iv))) (hv : d[i]? = some v) : loadS none (.ptr b i) h = some (.int .i64 v) := by
  rw [load_ptr hb, part_none, List.getElem?_map, hv]; rfl
theorem store_sl (hb : h.get b = some (.cells (d.map iv))) (hi : i < d.length) : storeS 1 (.ptr b i) (.int .i64 v) h = some (h.set b (.cells ((d.set i v).map iv))) := by
  rw [store_ptr (n := 1) hb rfl rfl (by simp; omega), List.map_set]; rfl
theorem rep_iv (n : Nat) : repZero [.int .i64 0] n = (List.replicate n (0 : Int)).map iv := by
  induction n with
  | zero => rfl
  | succ n ih => rw [repZero, ih]; rfl
theorem make_sl {n : Nat} (hn : n ≤ 1000000) (h : Heap) : makeSliceS 1 8 [.int .i64 0] (.int .i64 (n : Int)) (.int .i64 (n : Int)) h = some (.slice h.next 0 n 1, h.alloc (.cells ((List.replicate n (0 : Int)).map iv))) := by
  have : (8 * (n : Int)) ≤ 140737488355328 := by omega
  simp [makeSliceS, makeOk, this, rep_iv]
theorem frz_ints (hb : h.get b = some (.cells (d.map iv))) : Fz true h (.slice b 0 d.length 1) (encSl encI 1 (some d)) := by
  refine .slice b 0 d.length 1 _ _ hb (by rw [map_iv]) fun i x y hx hy => ?_
  rw [map_iv, hy] at hx
  cases hx
  rw [← map_iv, List.getElem?_map] at hy
  obtain ⟨v, hv, rfl⟩ := Option.map_eq_some_iff.1 hy
  exact .scalar _ rfl
def Bd (d : List Int) (i : Nat) : Prop := ∀ v ∈ d, 0 ≤ v ∧ v ≤ (i : Int)
theorem Bd.set {d : List Int} {i : Nat} (hb : Bd d i) {v : Int} (h1 : 0 ≤ v) (h2 : v ≤ ((i + 1 : Nat) : Int)) : Bd (d.set i v) (i + 1) := fun x hx => by
  rcases List.mem_or_eq_of_mem_set hx with h | h
  · have := hb x h; omega
  · rw [h]; exact ⟨h1, h2⟩
theorem add_ex (a b : Int) : ∃ v, binS .add (.int .i64 a) (.int .i64 b) = some (.int .i64 v) := ⟨_, add_any a b⟩
def rkGo (n : Nat) : List Int → Nat → Nat
  | [], r => r
  | x :: l, r => rkGo n l (r * n + x.toNat)
def rkN (n : Nat) (l : List Int) : Nat := rkGo n l 0
inductive Own {α : Type} (enc : α → List AV) (sz k : Nat) (h : Heap) : AV → List α → Prop
  | nil : Own enc sz k h .nils []
  | row (b : Nat) (l : List α) : k ≤ b → b < h.next → h.get b = some (.cells (l.flatMap enc)) → Own enc sz k h (.slice b 0 l.length sz) l
variable {α : Type} {enc : α → List AV} {sz k : Nat}
theorem Own.len {l : List α} (o : Own enc sz k h a l) : lenS .slice a h' = some (.int .i64 (l.length : Int)) := by
  cases o <;> rfl
theorem Own.ext {l : List α} (o : Own enc sz k h a l) (hx : HExt h h') : Own enc sz k h' a l := by
  cases o with
  | nil => exact .nil
  | row b l h1 h2 h3 => exact .row b l h1 (Nat.lt_of_lt_of_le h2 hx.next) (by rw [hx.get b h2]; exact h3)
theorem Own.get {l : List α} (o : Own enc sz k h a l) (he : ∀ x, (enc x).length = sz) {v : α} (hv : l[i]? = some v) :
    ∃ b, k ≤ b ∧ b < h.next ∧ (∀ q : IntKind, iaS sz a (.int q (i : Int)) = some (.ptr b (i * sz))) ∧ loadS (some sz) (.ptr b (i * sz)) h = some (.agg (enc v)) ∧ ∀ m, m < sz → loadS none (.ptr b (i * sz + m)) h = (enc v)[m]? := by
  cases o with
  | nil => simp at hv
  | row b l h1 h2 h3 =>
    have hi := (ZgI.1 hv).1
    refine ⟨b, h1, h2, fun q => by simp [iaS, asNat, hi], ?_, fun m hm => by rw [load_ptr h3, part_none, get_flatMap he l i m v hv hm]⟩
    rw [load_ptr h3]
    have hp := part_flatMap he l i v hv
    simp only [partS]
    have hlen : i * sz + sz ≤ (l.flatMap enc).length := by
      rw [len_flatMap he]
      have : (i + 1) * sz ≤ l.length * sz := Nat.mul_le_mul_right sz hi
      rw [Nat.succ_mul] at this; exact this
    rw [if_pos (by simpa using hlen), hp]
section
variable {α : Type} {enc : α → List AV} {sz k : Nat}
structure Row (enc : α → List AV) (sz : Nat) (h : Heap) (x : AV) (l : List α) : Prop where
  len : lenA x = some l.length
  cells : firstS sz l.length x h = some (l.flatMap enc)
theorem flat_take (he : ∀ x, (enc x).length = sz) : ∀ (l : List α) (i : Nat), (l.flatMap enc).take (i * sz) = (l.take i).flatMap enc
  | [], i => by simp
  | x :: l, 0 => by simp
  | x :: l, i + 1 => by
    rw [List.flatMap_cons, List.take_succ_cons, List.flatMap_cons, List.take_append, he, Nat.succ_mul, Nat.add_sub_cancel, flat_take he l i, ZtL (by rw [he]; omega)]
theorem flat_drop (he : ∀ x, (enc x).length = sz) : ∀ (l : List α) (i : Nat), (l.flatMap enc).drop (i * sz) = (l.drop i).flatMap enc
  | [], i => by simp
  | x :: l, 0 => by simp
  | x :: l, i + 1 => by
    rw [List.flatMap_cons, List.drop_succ_cons, List.drop_append, he, Nat.succ_mul, Nat.add_sub_cancel, flat_drop he l i, List.drop_of_length_le (by rw [he]; omega), List.nil_append]
theorem Own.takeRow {l : List α} (o : Own enc sz k h a l) (he : ∀ x, (enc x).length = sz) (hi : i ≤ l.length) :
    ∃ x, (∀ q : IntKind, sliceS (some sz) a none (some (.int q (i : Int))) = some x) ∧ ∀ h', HExt h h' → Row enc sz h' x (l.take i) := by
  cases o with
  | nil => simp at hi; subst hi; exact ⟨.nils, fun q => by simp [sliceS, lenA, boundS, asNat], fun h' _ => ⟨rfl, rfl⟩⟩
  | row b l h1 h2 h3 =>
    refine ⟨.slice b 0 i sz, fun q => by simp [sliceS, lenA, boundS, asNat, hi], fun h' hx => ⟨by simp [lenA, Nat.min_eq_left hi], ?_⟩⟩
    have h3' : h'.get b = some (.cells (l.flatMap enc)) := by rw [hx.get b h2]; exact h3
    have hl : (l.flatMap enc).length = l.length * sz := len_flatMap he l
    have hm : (l.take i).length = i := by rw [List.length_take, Nat.min_eq_left hi]
    simp only [firstS, h3', if_true, Nat.zero_add, hl, hm, List.drop_zero]
    rw [if_pos (Nat.mul_le_mul_right sz hi), flat_take he]
theorem Own.dropRow {l : List α} (o : Own enc sz k h a l) (he : ∀ x, (enc x).length = sz) (hi : i ≤ l.length) :
    ∃ x, (∀ q : IntKind, sliceS (some sz) a (some (.int q (i : Int))) none = some x) ∧ ∀ h', HExt h h' → Row enc sz h' x (l.drop i) := by
  cases o with
  | nil => simp at hi; subst hi; exact ⟨.nils, fun q => by simp [sliceS, lenA, boundS, asNat], fun h' _ => ⟨rfl, rfl⟩⟩
  | row b l h1 h2 h3 =>
    refine ⟨.slice b (i * sz) (l.length - i) sz, fun q => by simp [sliceS, lenA, boundS, asNat, hi], fun h' hx => ⟨by simp [lenA], ?_⟩⟩
    have h3' : h'.get b = some (.cells (l.flatMap enc)) := by rw [hx.get b h2]; exact h3
    have hl : (l.flatMap enc).length = l.length * sz := len_flatMap he l
    have hm : (l.drop i).length = l.length - i := by rw [List.length_drop]
    simp only [firstS, h3', if_true, hl, hm]
    have hle : i * sz + (l.length - i) * sz ≤ l.length * sz := by rw [← Nat.add_mul]; exact Nat.mul_le_mul_right sz (by omega)
    rw [if_pos hle, flat_drop he, ZtL]
    rw [len_flatMap he, hm]; exact ZrF _
theorem one_flatMap (h1 : ∀ x, oneAll (enc x) = true) : ∀ l : List α, oneAll (l.flatMap enc) = true
  | [] => rfl
  | x :: l => by
    have app : ∀ a b : List AV, oneAll a = true → oneAll b = true → oneAll (a ++ b) = true := by
      intro a b ha hb
      induction a with
      | nil => exact hb
      | cons y a ih =>
        simp only [oneAll, List.cons_append, Bool.and_eq_true] at ha ⊢
        exact ⟨ha.1, ih ha.2⟩
    rw [List.flatMap_cons]
    exact app _ _ (h1 x) (one_flatMap h1 l)
def blkOf : AV → Option Nat
  | .slice b _ _ _ => some b
  | _ => none
theorem Own.append {x : AV} {l m : List α} (o : Own enc sz k h a l) (he : ∀ x, (enc x).length = sz) (h1 : ∀ x, oneAll (enc x) = true) (r : Row enc sz h x m) (hk : k ≤ h.next) {bytes : Nat} (hroom : (l.length + m.length) * bytes ≤ maxBytes) :
    ∃ a' h', appendS sz bytes a x h = some (a', h') ∧ Own enc sz k h' a' (l ++ m) ∧ (∀ c, c < h.next → blkOf a ≠ some c → h'.get c = h.get c) ∧ h.next ≤ h'.next ∧ (m ≠ [] → ∀ c, blkOf a' = some c → h.next ≤ c) := by
  cases o with
  | nil =>
    rw [List.length_nil, Nat.zero_add] at hroom
    cases m with
    | nil =>
      refine ⟨.nils, h, ?_, .nil, fun _ _ _ => rfl, ZrF _, fun h => absurd rfl h⟩
      have hc := r.cells
      have hl := r.len
      simp only [List.length_nil] at hc hl
      simp [appendS, hl, hc]
    | cons y m =>
      refine ⟨.slice h.next 0 (y :: m).length sz, h.alloc (.cells ((y :: m).flatMap enc)), ?_, .row _ _ hk (Nat.lt_succ_self _) (get_alloc_same _ _), fun c hc _ => by rw [Heap.get_alloc, if_neg (by omega)], Nat.le_succ _, fun _ c hc => by cases hc; exact ZrF _⟩
      have h0 : ¬ (y :: m).length = 0 := by simp
      simp only [appendS, r.len, r.cells, if_neg h0]
      rw [if_pos (by rw [Bool.and_eq_true]; exact ⟨ZdT hroom, one_flatMap h1 _⟩)]
  | row b l hb1 hb2 hb3 =>
    cases m with
    | nil =>
      rw [List.append_nil]
      refine ⟨.slice b 0 l.length sz, h, ?_, .row b l hb1 hb2 hb3, fun _ _ _ => rfl, ZrF _, fun h => absurd rfl h⟩
      have hc := r.cells
      have hl := r.len
      simp only [List.length_nil] at hc hl
      simp [appendS, hl, hc]
    | cons y m =>
      have h0 : ¬ (y :: m).length = 0 := by simp
      have hl : (l.flatMap enc).length = l.length * sz := len_flatMap he l
      refine ⟨.slice h.next 0 (l ++ y :: m).length sz, (h.set b .dead).alloc (.cells ((l ++ y :: m).flatMap enc)), ?_, .row _ _ hk ?_ ?_, fun c hc hne => ?_, ?_, fun _ c hc => by cases hc; exact ZrF _⟩
      · simp only [appendS, r.len, r.cells, if_neg h0, if_true, hb3, List.drop_zero, Nat.zero_add]
        rw [if_pos (by rw [Bool.and_eq_true, Bool.and_eq_true]; exact ⟨⟨ZdT hroom, one_flatMap h1 _⟩, ZdT (by omega)⟩), ← hl, List.take_length, List.flatMap_append, List.length_append]
      · rw [Heap.next_alloc, Heap.next_set]; omega
      · have := get_alloc_same (h.set b .dead) (.cells ((l ++ y :: m).flatMap enc))
        rwa [Heap.next_set] at this
      · rw [Heap.get_alloc, Heap.next_set, if_neg (by omega), Heap.get_set, if_neg (fun e => hne (by rw [e]; rfl))]
      · rw [Heap.next_alloc, Heap.next_set]; omega
end
theorem one_encS (s : Str) : oneAll (encS s) = true := rfl
def strLt (a b : Str) : Bool := Op.bytesLess a b
def risingL : List Str → Str → List Str
  | [], s => [s]
  | x :: l, s => if strLt x s = true then x :: risingL l s else if x = s then x :: l else s :: x :: l
theorem lss_str (a b : Str) : binS .lss (.str a) (.str b) = some (.bool (strLt a b)) := by simp [binS, strLt]
theorem str_beq (a b : Str) : (a == b) = decide (a = b) := by
  by_cases h : a = b
  · subst h; simp
  · rw [ZdF h]; simp [h]
theorem rising_drop {l : List Str} {x : Str} (hx : l[i]? = some x) : l.take i ++ risingL (l.drop i) s = if strLt x s = true then l.take (i + 1) ++ risingL (l.drop (i + 1)) s else if x = s then l else l.take i ++ (s :: l.drop i) := by
  have h1 := (ZgI.1 hx).1
  have hd : l.drop i = x :: l.drop (i + 1) := by
    rw [List.drop_eq_getElem_cons h1]
    rw [ZgE h1] at hx
    cases hx; rfl
  rw [hd, risingL]
  split
  · rw [List.take_add_one, hx]; simp
  · split
    · rw [← hd, List.take_append_drop]
    · rfl
theorem Own.ge {enc : α → List AV} {l : List α} (o : Own enc sz k h a l) {c : Nat} (hc : blkOf a = some c) : k ≤ c := by
  cases o with
  | nil => cases hc
  | row b l h1 _ _ => cases hc; exact h1
theorem Own.weak {enc : α → List AV} {j : Nat} {l : List α} (o : Own enc sz k h a l) (hj : j ≤ k) : Own enc sz j h a l := by
  cases o with
  | nil => exact .nil
  | row b l h1 h2 h3 => exact .row b l (Nat.le_trans hj h1) h2 h3
theorem ref07_rising {k : Nat} {h : Heap} {a : AV} {l : List Str} {s : Str} (o : Own encS 1 k h a l) (hk : k ≤ h.next) (hl : l.length ≤ 100000) {K : Out → Heap → Bool}
    (hK : ∀ a' h', HExt h h' → Own encS 1 k h' a' (risingL l s) → K (.ret a') h' = true) : Sem TP 79 [a, .str s] h K := by
  have hbig : l.length ≤ big := by unfold big; omega
  refine F.ref07_rising_sem ?_
  rw [F.ref07_rising_eq]
  have app : ∀ i, i ≤ l.length → risingL l s = l.take i ++ (s :: l.drop i) → ∀ e : Env, e 0 = a → e 1 = .str s → e 5 = .int .i64 (i : Int) →
      (bindO (rowS [] [] []) fun c11 =>
        bindO (sliceS (some 1) (e 0) none (some (e 5))) fun x12 =>
        bindO (rowS [(.str [])] [(0, 1)] [(e 1)]) fun c13 =>
        bindO (sliceS (some 1) (e 0) (some (e 5)) none) fun x14 =>
        bindO2 (appendS 1 16 (.slice (Heap.next h) 0 0 1) x12 (Heap.alloc (Heap.alloc h (.cells c11)) (.cells c13))) fun x15 h16 =>
        bindO2 (appendS 1 16 x15 (.slice (Heap.next (Heap.alloc h (.cells c11))) 0 1 1) h16) fun x17 h18 =>
        bindO2 (appendS 1 16 x17 x14 h18) fun x19 h20 =>
        K (.ret x19) h20) = true := by
    intro i hi he e e0 e1 e5
    obtain ⟨x12, hx12, r12⟩ := o.takeRow len_encS hi
    obtain ⟨x14, hx14, r14⟩ := o.dropRow len_encS hi
    rw [show rowS [] [] [] = some [] from rfl]
    simp only [bindO_some, e0, e1, e5, hx12, hx14]
    rw [show rowS [(.str [])] [(0, 1)] [.str s] = some [.str s] from rfl]
    simp only [bindO_some]
    have hx1 : HExt h (Heap.alloc (Heap.alloc h (.cells [])) (.cells [.str s])) := (HExt.alloc _ _).trans (HExt.alloc _ _)
    have g0 : (Heap.alloc (Heap.alloc h (.cells [])) (.cells [.str s])).get h.next = some (.cells []) := by
      rw [Heap.get_alloc, Heap.next_alloc, if_neg (by omega)]; exact get_alloc_same _ _
    have g1 : (Heap.alloc (Heap.alloc h (.cells [])) (.cells [.str s])).get (h.next + 1) = some (.cells [.str s]) := get_alloc_same _ _
    have gn : (Heap.alloc (Heap.alloc h (.cells [])) (.cells [.str s])).next = h.next + 2 := rfl
    rw [Heap.next_alloc]
    generalize (Heap.alloc (Heap.alloc h (.cells [])) (.cells [.str s])) = H at hx1 g0 g1 gn ⊢
    have o0 : Own encS 1 h.next H (.slice h.next 0 0 1) ([] : List Str) := .row h.next [] (ZrF _) (by omega) g0
    have hm : maxBytes = 140737488355328 := rfl
    have lt : (l.take i).length = i := by rw [List.length_take, Nat.min_eq_left hi]
    have ld : (l.drop i).length = l.length - i := List.length_drop
    obtain ⟨a1, h1, p1, o1, f1, n1, _⟩ := o0.append len_encS one_encS (r12 H hx1) (by omega) (bytes := 16) (by rw [hm, lt, List.length_nil]; omega)
    simp only [p1, bindO2_some]
    have q1 : h1.get (h.next + 1) = some (.cells [.str s]) := by rw [f1 _ (by omega) (by simp [blkOf])]; exact g1
    have rs : Row encS 1 h1 (.slice (h.next + 1) 0 1 1) [s] := ⟨rfl, by simp [firstS, q1, encS]⟩
    have e1x : HExt h h1 := ⟨by have := hx1.next; omega, fun c hc => by rw [f1 c (by omega) (by simp [blkOf]; omega)]; exact hx1.get c hc⟩
    obtain ⟨a2, h2, p2, o2, f2, n2, _⟩ := o1.append len_encS one_encS rs (by omega) (bytes := 16) (by rw [hm, List.nil_append, lt]; simp; omega)
    simp only [p2, bindO2_some]
    have e2x : HExt h h2 := ⟨by have := e1x.next; omega, fun c hc => by rw [f2 c (by have := e1x.next; omega) (fun hb => by have := o1.ge hb; omega)]; exact e1x.get c hc⟩
    obtain ⟨a3, h3, p3, o3, f3, n3, _⟩ := o2.append len_encS one_encS (r14 h2 e2x) (by have := e2x.next; omega) (bytes := 16) (by rw [hm, ld, List.nil_append, List.length_append, lt]; simp; omega)
    simp only [p3, bindO2_some]
    have e3x : HExt h h3 := ⟨by have := e2x.next; omega, fun c hc => by rw [f3 c (by have := e2x.next; omega) (fun hb => by have := o2.ge hb; omega)]; exact e2x.get c hc⟩
    refine hK a3 h3 e3x ?_
    rw [he]
    have := o3.weak hk
    rw [List.nil_append, List.append_assoc] at this
    exact this
  have get : ∀ (i : Nat) (x : Str), l[i]? = some x → ∃ b, (∀ q : IntKind, iaS 1 a (.int q (i : Int)) = some (.ptr b (i * 1))) ∧ loadS none (.ptr b (i * 1)) h = some (.str x) := fun i x hx => by
    obtain ⟨b, _, _, h3, _, h5⟩ := o.get len_encS hx
    exact ⟨b, h3, by have := h5 0 (by omega); rw [Nat.add_zero] at this; rw [this]; rfl⟩
  refine loopB_range 0 l.length (Nat.zero_le _) (fun i e h' => h' = h ∧ e 0 = a ∧ e 1 = .str s ∧ e 5 = .int .i64 (i : Int) ∧ risingL l s = l.take i ++ risingL (l.drop i) s) ⟨rfl, rfl, rfl, rfl, rfl⟩ ?_ ?_
  · rintro i e h' _ hi ⟨rfl, e0, e1, e5, ht⟩ K' hn hx hr hp
    have hv : l[i]? = some l[i] := ZgE hi
    generalize l[i] = x at hv
    obtain ⟨b, g1, g2⟩ := get i x hv
    rw [rising_drop hv] at ht
    rw [F.ref07_rising.L0_eq]
    simp only [e0, e1, e5, o.len, AMc, Nat.reduceAdd, Nat.reduceEqDiff, reduceIte, lt_true hi, g1, g2, lss_str]
    cases hlt : strLt x s with
    | true =>
      rw [if_pos hlt] at ht
      simp only [cond_t, succ_i64 hi hbig, bindO_some]
      exact hn _ _ ⟨rfl, e0, e1, rfl, ht⟩
    | false =>
      rw [if_neg (by rw [hlt]; decide)] at ht
      simp only [cond_f]
      rw [hx, F.ref07_rising.L0_x0_eq]
      simp only [AMc, Nat.reduceAdd, Nat.reduceEqDiff, reduceIte, e0, e1, e5, o.len, lt_true hi, g1, g2, cond_t, str_beq]
      by_cases hxs : x = s
      · rw [if_pos hxs] at ht
        simp only [ZdT hxs, cond_t]
        exact hK _ _ (HExt.refl _) (by rw [ht]; exact o)
      · rw [if_neg hxs] at ht
        simp only [ZdF hxs, cond_f]
        have := app i (Nat.le_of_lt hi) ht e e0 e1 e5
        simp only [e0, e1, e5] at this
        exact this
  · rintro e h' ⟨rfl, e0, e1, e5, ht⟩ K' hx
    rw [F.ref07_rising.L0_eq]
    simp only [e0, e5, o.len, AMc, Nat.reduceAdd, Nat.reduceEqDiff, reduceIte, lt_false]
    rw [hx, F.ref07_rising.L0_x0_eq]
    simp only [AMc, Nat.reduceAdd, Nat.reduceEqDiff, reduceIte, e0, e1, e5, o.len, lt_false, cond_f]
    have := app l.length (ZrF _) (by rw [ht, List.drop_of_length_le (ZrF _)]; rfl) e e0 e1 e5
    simp only [e0, e1, e5] at this
    exact this
structure Births (es : List Entry) (ck : Nat) : Prop where
  nodup : (es.map (·.2.2)).Nodup
  lt : ∀ e ∈ es, e.2.2 < ck
theorem Births.nil (ck : Nat) : Births [] ck := ⟨List.nodup_nil, fun _ h => by cases h⟩
theorem Births.push (b : Births es ck) (k v : AV) : Births (es ++ [(k, v, ck)]) (ck + 1) := by
  refine ⟨?_, fun e he => ?_⟩
  · rw [List.map_append, List.nodup_append]
    refine ⟨b.nodup, by simp, fun a ha c hc => ?_⟩
    rw [List.mem_map] at ha
    obtain ⟨e, he, rfl⟩ := ha
    have := b.lt e he
    simp at hc
    omega
  · rw [List.mem_append] at he
    rcases he with he | he
    · have := b.lt e he; omega
    · simp at he; rw [he]; exact Nat.lt_succ_self _
theorem born_set (es : List Entry) (i : Nat) (v : AV) : (setEntry es i v).map (·.2.2) = es.map (·.2.2) := by
  unfold setEntry
  cases h : es[i]? with
  | none => rfl
  | some e =>
    simp only [List.map_set]
    apply List.ext_getElem?
    intro j
    by_cases hj : i = j
    · subst hj
      have hi := (ZgI.1 h).1
      rw [List.getElem?_set_self (by simpa using hi), List.getElem?_map, h]; rfl
    · rw [List.getElem?_set_ne hj]
theorem Births.set (b : Births es ck) (i : Nat) (v : AV) : Births (setEntry es i v) ck := by
  refine ⟨by rw [born_set]; exact b.nodup, fun e he => ?_⟩
  have : e.2.2 ∈ (setEntry es i v).map (·.2.2) := List.mem_map_of_mem he
  rw [born_set, List.mem_map] at this
  obtain ⟨e', he', h⟩ := this
  rw [← h]; exact b.lt e' he'
theorem update_births {d : TypeDesc} {es' : List Entry} {ck' : Nat} {k v : AV} (hb : h.get b = some (.map es ck)) (hB : Births es ck) (hu : mapUpdateS d (.map b) k v h = some h') (hg : h'.get b = some (.map es' ck')) : Births es' ck' := by
  simp only [mapUpdateS, hb] at hu
  split at hu
  · cases hu
    rw [Heap.get_set, if_pos rfl] at hg
    cases hg
    exact hB.set _ _
  · cases hu
    rw [Heap.get_set, if_pos rfl] at hg
    cases hg
    exact hB.push k v
  · cases hu
abbrev MapA := List (Str × AV)
def MapA.find (m : MapA) (k : Str) : Option AV := (List.find? (fun p => k == p.1) m).map (·.2)
def MapA.upd : MapA → Str → AV → MapA
  | [], k, v => [(k, v)]
  | p :: m, k, v => if k == p.1 then (p.1, v) :: m else p :: MapA.upd m k v
def MapE : List Entry → MapA → Prop
  | [], [] => True
  | e :: es, p :: m => e.1 = .str p.1 ∧ e.2.1 = p.2 ∧ MapE es m
  | _, _ => False
theorem MapE.findA {k : Str} : ∀ {es : List Entry} {m : MapA} (i : Nat), MapE es m → ∃ r, findA .string (.str k) es i = some r ∧ match r with
    | none => m.find k = none
    | some (j, v) => ∃ n, j = i + n ∧ m.find k = some v ∧ ∀ w, MapE (setEntry es n w) (m.upd k w)
  | [], [], i, _ => ⟨none, rfl, rfl⟩
  | e :: es, p :: m, i, ⟨h1, h2, h3⟩ => by
    obtain ⟨ek, ev, en⟩ := e
    simp only at h1 h2
    subst h1; subst h2
    by_cases hk : k = p.1
    · subst hk
      refine ⟨some (i, p.2), by simp [Go.AM.findA, keyEq], 0, rfl, by simp [MapA.find], fun w => ?_⟩
      simp [setEntry, MapE, MapA.upd, h3]
    · obtain ⟨r, hr, hm⟩ := MapE.findA (k := k) (i + 1) h3
      have hkb : (k == p.1) = false := by simpa using hk
      refine ⟨r, by simp only [Go.AM.findA, keyEq, hkb, hr], ?_⟩
      cases r with
      | none => simpa [MapA.find, hk] using hm
      | some jv =>
        obtain ⟨n, a, b, e⟩ := hm
        refine ⟨n + 1, by omega, by simpa [MapA.find, hk] using b, fun w => ?_⟩
        have := e w
        simp only [setEntry, List.getElem?_cons_succ, MapA.upd, hkb] at this ⊢
        split at this <;> simp_all [MapE]
theorem MapE.append {m : MapA} (h : MapE es m) {k : Str} (hk : m.find k = none) (v : AV) (n : Nat) : MapE (es ++ [(.str k, v, n)]) (m.upd k v) := by
  induction es generalizing m with
  | nil => cases m with
    | nil => simp [MapE, MapA.upd]
    | cons p m => exact h.elim
  | cons e es ih => cases m with
    | nil => exact h.elim
    | cons p m =>
      obtain ⟨h1, h2, h3⟩ := h
      have hne : k ≠ p.1 := fun e => by subst e; simp [MapA.find] at hk
      have hk' : MapA.find m k = none := by simpa [MapA.find, hne] using hk
      have := ih h3 hk'
      simp only [List.cons_append, MapA.upd]
      rw [if_neg (by simpa using hne)]
      exact ⟨h1, h2, this⟩
theorem own_name {l : List Str} (o : Own encS 1 k h a l) {x : Str} (hx : l[i]? = some x) :
    ∃ b, b < h.next ∧ (∀ q : IntKind, iaS 1 a (.int q (i : Int)) = some (.ptr b (i * 1))) ∧ loadS none (.ptr b (i * 1)) h = some (.str x) := by
  obtain ⟨b, _, h2, h3, _, h5⟩ := o.get len_encS hx
  exact ⟨b, h2, h3, by have := h5 0 (by omega); rw [Nat.add_zero] at this; rw [this]; rfl⟩
theorem any_take {p : α → Bool} {l : List α} {a : α} (ha : l[i]? = some a) (ht : (l.take i).any p = false) (hp : p a = false) : (l.take (i + 1)).any p = false := by
  rw [List.take_add_one, ha]; simp [ht, hp]
theorem ref02_Among {k : Nat} {h : Heap} {a : AV} {l : List Str} {s : Str} (o : Own encS 1 k h a l) (hl : l.length ≤ big) {K : Out → Heap → Bool} (hK : K (.ret (.bool (l.any fun x => x == s))) h = true) : Sem TP 86 [a, .str s] h K := by
  refine F.ref02_Among_sem ?_
  rw [F.ref02_Among_eq]
  refine loopB_range 0 l.length (Nat.zero_le _) (fun i e h' => h' = h ∧ e 0 = a ∧ e 1 = .str s ∧ e 5 = .int .i64 (i : Int) ∧ ((l.take i).any fun x => x == s) = false) ⟨rfl, rfl, rfl, rfl, rfl⟩ ?_ ?_
  · rintro i e h' _ hi ⟨rfl, e0, e1, e5, ht⟩ K' hn hx hr hp
    have hv : l[i]? = some l[i] := ZgE hi
    generalize l[i] = x at hv
    obtain ⟨b, _, g1, g2⟩ := own_name o hv
    rw [F.ref02_Among.L0_eq]
    simp only [e0, e1, e5, o.len, AMc, Nat.reduceAdd, Nat.reduceEqDiff, reduceIte, lt_true hi, g1, g2]
    cases hq : x == s with
    | true =>
      simp only [cond_t]
      rw [hr, F.ref02_Among.L0_r_eq]
      simp only [setV_eq, Nat.reduceEqDiff, reduceIte]
      rw [List.any_eq_true.2 ⟨x, ZmG hv, hq⟩] at hK
      exact hK
    | false =>
      simp only [cond_f, succ_i64 hi hl, bindO_some]
      exact hn _ _ ⟨rfl, e0, e1, rfl, any_take hv ht hq⟩
  · rintro e h' ⟨rfl, e0, e1, e5, ht⟩ K' hx
    rw [F.ref02_Among.L0_eq]
    simp only [e0, e5, o.len, AMc, Nat.reduceAdd, Nat.reduceEqDiff, reduceIte, lt_false]
    rw [hx, F.ref02_Among.L0_x0_eq]
    rw [ZtL (ZrF _)] at ht
    rw [ht] at hK; exact hK
theorem Own.push {enc : α → List AV} {l : List α} (o : Own enc sz k h a l) (he : ∀ x, (enc x).length = sz) (h1 : ∀ x, oneAll (enc x) = true) (hk : k ≤ h.next) {bytes : Nat} (hroom : (l.length + 1) * bytes ≤ maxBytes) (v : α) :
    ∃ a' h', appendS sz bytes a (.slice h.next 0 1 sz) (h.alloc (.cells (enc v))) = some (a', h') ∧ Own enc sz k h' a' (l ++ [v]) ∧ (∀ c, c < h.next → blkOf a ≠ some c → h'.get c = h.get c) ∧ h.next ≤ h'.next ∧ (∀ h0, HExt h0 h → h0.next ≤ k → HExt h0 h') ∧ ∀ c, blkOf a' = some c → h.next ≤ c := by
  have g := get_alloc_same h (.cells (enc v))
  have hn : (h.alloc (.cells (enc v))).next = h.next + 1 := Heap.next_alloc h _
  have hx : HExt h (h.alloc (.cells (enc v))) := HExt.alloc _ _
  have r : Row enc sz (h.alloc (.cells (enc v))) (.slice h.next 0 1 sz) [v] := by
    refine ⟨rfl, ?_⟩
    have hl : (enc v).length = sz := he v
    simp only [firstS, g, if_true, List.length_singleton, Nat.one_mul, Nat.zero_add, hl, ZrF, List.drop_zero]
    rw [← hl, List.take_length]; simp
  obtain ⟨a', h', p, o', f, n, hf⟩ := (o.ext hx).append he h1 r (by omega) (bytes := bytes) (by simpa using hroom)
  have f' : ∀ c, c < h.next → blkOf a ≠ some c → h'.get c = h.get c := fun c hc hb => by rw [f c (by omega) hb]; exact hx.get c hc
  refine ⟨a', h', p, o', f', by omega, fun h0 e0 hk0 => ⟨by have := e0.next; omega, fun c hc => ?_⟩, fun c hc => by have := hf (by simp) c hc; omega⟩
  rw [f' c (by have := e0.next; omega) (fun hb => by have := o.ge hb; omega)]
  exact e0.get c hc
def encZ (y : Str × Int) : List AV := [.str y.1, .int .i64 y.2]
theorem len_encZ (y : Str × Int) : (encZ y).length = 2 := rfl
theorem agg_Z (s : Str) (n : Int) : aggS [.str [], .int .i64 0] [(0, 1), (1, 1)] [.str s, .int .i64 n] = some (.agg (encZ (s, n))) := rfl
theorem row_Z (y : Str × Int) : rowS [.str [], .int .i64 0] [(0, 2)] [.agg (encZ y)] = some (encZ y) := rfl
theorem Own.frzx {enc : α → List AV} {l : List α} (o : Own enc sz k h a l) (hf : ∀ v, ∀ x ∈ enc v, Fz true h x x) : ∃ x : Sl α, x.l = l ∧ Fz true h a (encSl enc sz x) := by
  cases o with
  | nil => exact ⟨none, rfl, .of_pure rfl⟩
  | row b l h1 h2 h3 =>
    refine ⟨some l, rfl, .slice b 0 l.length sz _ _ h3 rfl fun i x y hx hy => ?_⟩
    rw [hx] at hy
    cases hy
    have := ZmG hx
    rw [List.mem_flatMap] at this
    obtain ⟨v, hv, hxv⟩ := this
    exact hf v x hxv
theorem Own.setLow {enc : α → List AV} {l : List α} (o : Own enc sz k h a l) {d : Nat} (hd : d < k) (x : AObj) : Own enc sz k (h.set d x) a l := by
  cases o with
  | nil => exact .nil
  | row b _ w1 w2 w3 => exact .row b l w1 (by rw [Heap.next_set]; exact w2) (by rw [Heap.get_set, if_neg (by omega)]; exact w3)
theorem find_updI (m : MapL) (k j : Str) (v : Int) : (m.upd k v).find j = if j = k then some v else m.find j := by
  induction m with
  | nil =>
    simp only [MapL.upd, MapL.find, List.find?_cons, List.find?_nil]
    by_cases h : j = k
    · subst h; simp
    · have : (j == k) = false := by simpa using h
      rw [this, if_neg h]
  | cons p m ih =>
    simp only [MapL.upd]
    by_cases hk : k = p.1
    · rw [if_pos (by simpa using hk)]
      subst hk
      simp only [MapL.find, List.find?_cons]
      by_cases h : j = p.1
      · subst h; simp
      · have : (j == p.1) = false := by simpa using h
        rw [this, if_neg h]
    · rw [if_neg (by simpa using hk)]
      simp only [MapL.find, List.find?_cons] at ih ⊢
      by_cases h : j = p.1
      · subst h
        simp only [beq_self_eq_true, Option.map_some]
        rw [if_neg (Ne.symm hk)]
      · have : (j == p.1) = false := by simpa using h
        rw [this]
        exact ih
theorem keys_upd (m : MapL) (k : Str) (v : Int) : (m.upd k v).map (·.1) = if k ∈ m.map (·.1) then m.map (·.1) else m.map (·.1) ++ [k] := by
  induction m with
  | nil => simp [MapL.upd]
  | cons p m ih =>
    simp only [MapL.upd]
    by_cases hk : k = p.1
    · rw [if_pos (by simpa using hk)]
      subst hk; simp
    · rw [if_neg (by simpa using hk), List.map_cons, ih]
      by_cases hm : k ∈ m.map (·.1)
      · rw [if_pos hm, if_pos (by rw [List.map_cons]; exact List.mem_cons_of_mem _ hm)]; rfl
      · rw [if_neg hm, if_neg (by rw [List.map_cons, List.mem_cons]; exact fun h => h.elim hk hm)]; rfl
theorem nodup_upd (hm : (m.map (·.1)).Nodup) (k : Str) (v : Int) : ((m.upd k v).map (·.1)).Nodup := by
  rw [keys_upd]
  split
  · exact hm
  · rename_i h
    rw [List.nodup_append]
    exact ⟨hm, by simp, fun a ha b hb => by simp at hb; subst hb; exact fun e => h (e ▸ ha)⟩
theorem find_memI {k : Str} (h : m.find k = some v) : (k, v) ∈ m := by
  unfold MapL.find at h
  obtain ⟨p, hp, rfl⟩ := Option.map_eq_some_iff.1 h
  have h1 := List.mem_of_find?_eq_some hp
  have h2 := List.find?_some hp
  simp only [beq_iff_eq] at h2
  subst h2; exact h1
theorem MapI.mem : ∀ {es : List Entry} {m : MapL}, MapI es m → ∀ e ∈ es, ∃ p ∈ m, e.1 = .str p.1 ∧ e.2.1 = .int .i64 p.2
  | [], _, _, e, he => by cases he
  | e0 :: es, [], h, _, _ => h.elim
  | e0 :: es, p :: m, ⟨h1, h2, h3⟩, e, he => by
    rcases List.mem_cons.1 he with rfl | he
    · exact ⟨p, List.mem_cons_self, h1, h2⟩
    · obtain ⟨q, hq, r⟩ := MapI.mem h3 e he
      exact ⟨q, List.mem_cons_of_mem _ hq, r⟩
theorem store_new1 {z v : AV} (h1 : v.cellsL = [v]) (hv : oneAll [v] = true) : ∃ h', storeS 1 (.ptr h.next 0) v (h.alloc (.cells [z])) = some h' ∧ h'.get h.next = some (.cells [v]) ∧ (∀ b, b ≠ h.next → h'.get b = h.get b) ∧ h'.next = h.next + 1 := by
  refine ⟨_, by rw [store_ptr (n := 1) (get_alloc_same _ _) (by rw [h1]; rfl) (by rw [h1]; exact hv) (by simp), h1], ?_, fun b hb => ?_, by rw [Heap.next_set, Heap.next_alloc]⟩
  · rw [Heap.get_set, if_pos rfl]; rfl
  · rw [Heap.get_set, if_neg hb, Heap.get_alloc, if_neg hb]
theorem mem_rising {x s : Str} : ∀ {l : List Str}, x ∈ risingL l s ↔ x ∈ l ∨ x = s
  | [] => by simp [risingL]
  | a :: l => by
    rw [risingL]
    split
    · rw [List.mem_cons, mem_rising (l := l), List.mem_cons, or_assoc]
    · split
      · rename_i h; subst h
        rw [List.mem_cons]
        exact ⟨fun h => .inl h, fun h => h.elim id .inl⟩
      · rw [List.mem_cons]; exact Or.comm
theorem fz_ints {old : Bool} (hb : h.get b = some (.cells (d.map iv))) : Fz old h (.slice b 0 d.length 1) (encSl encI 1 (some d)) := by
  refine .slice b 0 d.length 1 _ _ hb (by rw [map_iv]) fun i x y hx hy => ?_
  rw [map_iv, hy] at hx
  cases hx
  rw [← map_iv, List.getElem?_map] at hy
  obtain ⟨v, hv, rfl⟩ := Option.map_eq_some_iff.1 hy
  exact .scalar _ rfl
theorem Own.lt {enc : α → List AV} {l : List α} (o : Own enc sz k h a l) {c : Nat} (hc : blkOf a = some c) : c < h.next := by
  cases o with
  | nil => cases hc
  | row b l h1 h2 h3 => cases hc; exact h2
theorem list_drop_eq [BEq α] [LawfulBEq α] {l m : List α} {a b : α} (ha : l[i]? = some a) (hb : m[i]? = some b) : (l.drop i == m.drop i) = ((a == b) && (l.drop (i + 1) == m.drop (i + 1))) := by
  have h1 := (ZgI.1 ha).1
  have h2 := (ZgI.1 hb).1
  rw [List.drop_eq_getElem_cons h1, List.drop_eq_getElem_cons h2]
  rw [ZgE h1] at ha
  rw [ZgE h2] at hb
  cases ha; cases hb; rfl
theorem ref01_Equal {x y : Sl Int} (hx : x.l.length ≤ big) {h : Heap} {K : Out → Heap → Bool} (hK : K (.ret (.bool (x.l == y.l))) h = true) : Sem TP 20 [encSl encI 1 x, encSl encI 1 y] h K := by
  refine F.ref01_Equal_sem ?_
  rw [F.ref01_Equal_eq]
  simp only [AMc, Nat.reduceAdd, Nat.reduceEqDiff, reduceIte, int_beq]
  by_cases hl : x.l.length = y.l.length
  · simp only [ZdT (by omega : (x.l.length : Int) = (y.l.length : Int)), Bool.not_true, cond_f]
    refine loopB_range 0 x.l.length (Nat.zero_le _) (fun i e h' => h' = h ∧ e 0 = encSl encI 1 x ∧ e 1 = encSl encI 1 y ∧ e 5 = .int .i64 (i : Int) ∧ (x.l == y.l) = (x.l.drop i == y.l.drop i)) ⟨rfl, rfl, rfl, rfl, rfl⟩ ?_ ?_
    · rintro i e h' _ hi ⟨rfl, e0, e1, e5, ht⟩ K' hn hx' hr hp
      have hi2 : i < y.l.length := by omega
      have hv : x.l[i]? = some x.l[i] := ZgE hi
      have hw : y.l[i]? = some y.l[i] := ZgE hi2
      rw [list_drop_eq hv hw] at ht
      generalize x.l[i] = a at hv ht
      generalize y.l[i] = b at hw ht
      rw [F.ref01_Equal.L0_eq]
      simp only [e0, e1, e5, AMc, Nat.reduceAdd, Nat.reduceEqDiff, reduceIte, lt_true hi, iaS_enc x hi, iaS_enc y hi2, get_ints hv, get_ints hw]
      cases hq : a == b with
      | false =>
        simp only [Bool.not_false, cond_t]
        rw [hr, F.ref01_Equal.L0_r_eq]
        simp only [setV_eq, Nat.reduceEqDiff, reduceIte]
        rw [ht, hq] at hK; exact hK
      | true =>
        simp only [Bool.not_true, cond_f, succ_i64 hi hx, bindO_some]
        exact hn _ _ ⟨rfl, e0, e1, rfl, by rw [ht, hq, Bool.true_and]⟩
    · rintro e h' ⟨rfl, e0, e1, e5, ht⟩ K' hx'
      rw [F.ref01_Equal.L0_eq]
      simp only [e0, e5, AMc, Nat.reduceAdd, Nat.reduceEqDiff, reduceIte, lt_false]
      rw [hx', F.ref01_Equal.L0_x0_eq]
      rw [List.drop_of_length_le (ZrF _), List.drop_of_length_le (by omega)] at ht
      rw [ht] at hK; exact hK
  · simp only [ZdF (by omega : ¬ (x.l.length : Int) = (y.l.length : Int)), Bool.not_false, cond_t]
    have : (x.l == y.l) = false := by
      simp only [beq_eq_false_iff_ne]; exact fun e => hl (congrArg List.length e)
    rw [this] at hK; exact hK
theorem strLt_irr : ∀ a : Str, strLt a a = false
  | [] => rfl
  | x :: a => by
    have := strLt_irr a
    unfold strLt at this ⊢
    simp [Op.bytesLess, this]
theorem strLt_trans : ∀ {a b c : Str}, strLt a b = true → strLt b c = true → strLt a c = true
  | _, [], _, h, _ => by unfold strLt at h; simp [Op.bytesLess] at h
  | _, _ :: _, [], _, h => by unfold strLt at h; simp [Op.bytesLess] at h
  | [], _ :: _, _ :: _, _, _ => rfl
  | x :: a, y :: b, z :: c, h1, h2 => by
    have ih := @strLt_trans a b c
    unfold strLt at h1 h2 ih ⊢
    simp only [Op.bytesLess, Bool.or_eq_true, decide_eq_true_eq, Bool.and_eq_true, beq_iff_eq] at h1 h2 ⊢
    rcases h1 with h1 | ⟨rfl, h1⟩ <;> rcases h2 with h2 | ⟨rfl, h2⟩
    · exact .inl (UInt8.lt_trans h1 h2)
    · exact .inl h1
    · exact .inl h2
    · exact .inr ⟨rfl, ih h1 h2⟩
theorem strLt_tri : ∀ {a b : Str}, strLt a b = false → a ≠ b → strLt b a = true
  | [], [], _, h => absurd rfl h
  | [], _ :: _, h, _ => by unfold strLt at h; simp [Op.bytesLess] at h
  | _ :: _, [], _, _ => rfl
  | x :: a, y :: b, h1, h2 => by
    have ih := @strLt_tri a b
    unfold strLt at h1 ih ⊢
    simp only [Op.bytesLess, Bool.or_eq_false_iff, decide_eq_false_iff_not, Bool.and_eq_false_iff, beq_eq_false_iff_ne] at h1
    simp only [Op.bytesLess, Bool.or_eq_true, decide_eq_true_eq, Bool.and_eq_true, beq_iff_eq]
    obtain ⟨h3, h4⟩ := h1
    by_cases e : x = y
    · subst e
      rcases h4 with h4 | h4
      · exact absurd rfl h4
      · exact .inr ⟨rfl, ih h4 (fun h => h2 (by rw [h]))⟩
    · refine .inl ?_
      rcases UInt8.lt_or_lt_of_ne e with h | h
      · exact absurd h h3
      · exact h
def SortS (l : List Str) : Prop := l.Pairwise fun a b => strLt a b = true
theorem rising_sorted : ∀ {l : List Str}, SortS l → ∀ s, SortS (risingL l s)
  | [], _, s => List.pairwise_singleton _ _
  | x :: l, h, s => by
    obtain ⟨h1, h2⟩ := List.pairwise_cons.1 h
    rw [risingL]
    split
    · rename_i hx
      refine List.pairwise_cons.2 ⟨fun y hy => ?_, rising_sorted h2 s⟩
      rcases mem_rising.1 hy with hy | rfl
      · exact h1 y hy
      · exact hx
    · rename_i hx
      split
      · exact h
      · rename_i hne
        have hsx : strLt s x = true := strLt_tri (by simpa using hx) hne
        refine List.pairwise_cons.2 ⟨fun y hy => ?_, h⟩
        rcases List.mem_cons.1 hy with rfl | hy
        · exact hsx
        · exact strLt_trans hsx (h1 y hy)
theorem lookup_mapf (hb : h.get b = some (.map es ck)) (hm : MapI es m) (k : Str) :
    lookupS .string (.int .i64 0) false (.map b) (.str k) h = some (.int .i64 ((m.find k).getD 0)) := by
  obtain ⟨r, hr, hm'⟩ := MapI.findA (k := k) 0 hm
  simp only [lookupS, entriesS, hb, findK, keyOk, if_true, hr]
  cases r with
  | none => simp at hm'; simp [hm']
  | some jv =>
    obtain ⟨n, q, _, b, c, _⟩ := hm'
    obtain ⟨j, v⟩ := jv
    simp only at c
    subst c
    simp [b]
end
end Go.AM
namespace Go.AM
open Go Go.Proofs
set_option linter.unusedVariables false
set_option linter.unusedSimpArgs false
noncomputable section
variable {h h' : Heap} {K : Out → Heap → Bool} {hs ks o : List Str} {D : Str → Option (Nat × List Bool)} {k M b ck sz j V P B : Nat} {lv : Lev.Lv} {p : Nat × List Bool} {nm s : Str} {es : List Entry} {α : Type} {a cW lW : AV} {d : List Bool} {xs x : Sl Str} {g : FuncId} {m : MapL} {v : Int}
theorem row_enc {enc : α → List AV} (he : ∀ a, (enc a).length = sz) (x : Sl α) (h : Heap) : Row enc sz h (encSl enc sz x) x.l := by
  cases x with
  | none => exact ⟨rfl, rfl⟩
  | some l =>
    refine ⟨rfl, ?_⟩
    have hl : (l.flatMap enc).length = l.length * sz := len_flatMap he l
    simp only [encSl, firstS, Sl.l_some, Nat.zero_add, hl, beq_self_eq_true, ZrF, decide_true, Bool.and_self, if_true, List.drop_zero]
    rw [← hl, List.take_length]
structure CondD where
  kind : Int
  neg : Bool
  name : Str
  args : Sl Str
structure RuleD where
  name : Str
  args : Sl Str
  body : Sl CondD
def encCo (c : CondD) : List AV := [.int .i64 c.kind, .bool c.neg, .str c.name, encSl encS 1 c.args]
def encAt (nm : Str) (xs : Sl Str) : List AV := [.str nm, encSl encS 1 xs]
def encRu (r : RuleD) : List AV := [.str r.name, encSl encS 1 r.args, encSl encCo 4 r.body]
theorem len_encCo (c : CondD) : (encCo c).length = 4 := rfl
theorem len_encRu (r : RuleD) : (encRu r).length = 3 := rfl
theorem pure_encCo (c : CondD) : AV.pureL (encCo c) = true := by simp [encCo, AV.pureL, AV.pure, pure_encSl pure_encS]
theorem pure_encRu (r : RuleD) : AV.pureL (encRu r) = true := by simp [encRu, AV.pureL, AV.pure, pure_encSl pure_encS, pure_encSl pure_encCo]
theorem one_encAt (nm : Str) (xs : Sl Str) : oneAll (encAt nm xs) = true := by
  unfold encAt; simp only [oneAll, one_encSl, Bool.and_true]; rfl
theorem one_encCo (c : CondD) : oneAll (encCo c) = true := by
  unfold encCo; simp only [oneAll, one_encSl, Bool.and_true]; rfl
theorem one_encRu (r : RuleD) : oneAll (encRu r) = true := by
  unfold encRu; simp only [oneAll, one_encSl, Bool.and_true]; rfl
def CondD.ok (c : CondD) : Prop := c.name.length ≤ big ∧ c.args.l.length ≤ big ∧ ∀ s ∈ c.args.l, s.length ≤ big
def RuleD.ok (r : RuleD) : Prop := r.name.length ≤ big ∧ r.args.l.length ≤ big ∧ (∀ s ∈ r.args.l, s.length ≤ big) ∧ r.body.l.length ≤ big ∧ ∀ c ∈ r.body.l, c.ok
theorem part2_4 (a b c d : AV) : partS (some 2) [a, b, c, d] 2 = some (.agg [c, d]) := rfl
theorem part2_3 (a b c : AV) : partS (some 2) [a, b, c] 0 = some (.agg [a, b]) := rfl
theorem part4_4 (a b c d : AV) : partS (some 4) [a, b, c, d] 0 = some (.agg [a, b, c, d]) := rfl
theorem part3_3 (a b c : AV) : partS (some 3) [a, b, c] 0 = some (.agg [a, b, c]) := rfl
theorem get_strs {i : Nat} {v : Str} (hv : x.l[i]? = some v) : loadS none (.iptr (x.l.flatMap encS) (i * 1)) h = some (.str v) := by
  rw [load_elem1 len_encS hv]; rfl
theorem IndexFunc_str (hx : x.l.length ≤ big) {a b : List AV} {p : Str → Bool} (hp : ∀ (v : Str) (K : Out → Heap → Bool), K (.ret (.bool (p v))) h = true → Sem TP g (a ++ ([.str v] ++ b)) h K)
    (hK : ∀ n : Int, decide (0 ≤ n) = x.l.any p → K (.ret (.int .i64 n)) h = true) : Sem TP 184 [encSl encS 1 x, .func g a b] h K := by
  refine F.slices_IndexFunc_S_string_string_sem ?_
  rw [F.slices_IndexFunc_S_string_string_eq]
  simp only [AMc, Nat.reduceAdd, Nat.reduceEqDiff, reduceIte]
  refine loopB_range 0 x.l.length (Nat.zero_le _) (fun i e h' => h' = h ∧ e 0 = encSl encS 1 x ∧ e 1 = .func g a b ∧ e 7 = .int .i64 (x.l.length : Int) ∧ e 8 = .int .i64 (i : Int) ∧ (x.l.take i).any p = false) ⟨rfl, rfl, rfl, rfl, rfl, rfl⟩ ?_ ?_
  · rintro i e h' _ hi ⟨rfl, e0, e1, e7, e8, ht⟩ K' hn hx' hr hp'
    have hv : x.l[i]? = some x.l[i] := ZgE hi
    rw [F.slices_IndexFunc_S_string_string.L0_eq]
    simp only [e0, e1, e7, e8, AMc, Nat.reduceAdd, Nat.reduceEqDiff, reduceIte, lt_true hi, iaS_enc x hi, get_strs hv, callV_func]
    refine semCall_true (hp _ _ ?_)
    simp only [AMc, Nat.reduceAdd, Nat.reduceEqDiff, reduceIte]
    cases hq : p x.l[i] with
    | true =>
      simp only [cond_t]
      rw [hr, F.slices_IndexFunc_S_string_string.L0_r_eq]
      refine hK (i : Int) ?_
      rw [ZdT (by omega : (0 : Int) ≤ (i : Int))]
      exact (List.any_eq_true.2 ⟨_, ZmG hv, hq⟩).symm
    | false =>
      simp only [cond_f, succ_i64 hi hx, bindO_some]
      exact hn _ _ ⟨rfl, e0, e1, e7, rfl, by rw [List.take_add_one, hv, List.any_append, ht]; simp [hq]⟩
  · rintro e h' ⟨rfl, e0, e1, e7, e8, ht⟩ K' hx'
    rw [F.slices_IndexFunc_S_string_string.L0_eq]
    simp only [e0, e1, e7, e8, AMc, Nat.reduceAdd, Nat.reduceEqDiff, reduceIte, lt_false]
    rw [hx', F.slices_IndexFunc_S_string_string.L0_x0_eq]
    rw [ZtL (ZrF _)] at ht
    exact hK (-1) (by rw [ht]; rfl)
theorem ContainsFunc_str (hx : x.l.length ≤ big) {a b : List AV} {p : Str → Bool} (hp : ∀ (v : Str) (K : Out → Heap → Bool), K (.ret (.bool (p v))) h = true → Sem TP g (a ++ ([.str v] ++ b)) h K)
    (hK : K (.ret (.bool (x.l.any p))) h = true) : Sem TP 167 [encSl encS 1 x, .func g a b] h K := by
  refine F.slices_ContainsFunc_S_string_string_sem ?_
  rw [F.slices_ContainsFunc_S_string_string_eq]
  refine semCall_true (IndexFunc_str hx hp fun n hn => ?_)
  simp only [AMc, Nat.reduceAdd, Nat.reduceEqDiff, reduceIte]
  rw [hn]; exact hK
theorem rules_atom_1 (hK : K (.ret (.bool (!nameB s))) h = true) : Sem TP 168 [.str s] h K := by
  refine F.rules_atom_1_sem ?_
  rw [F.rules_atom_1_eq]
  refine semCall_true (shape_Name ?_)
  simp only [AMc, Nat.reduceAdd, Nat.reduceEqDiff, reduceIte]
  exact hK
theorem all_any (p : α → Bool) (l : List α) : (!(l.any fun x => !p x)) = l.all p := by
  induction l with
  | nil => rfl
  | cons a l ih => rw [List.any_cons, List.all_cons, ← ih]; cases p a <;> simp
theorem all_two (p : α → Bool) : ∀ (l : List α) (h : l.length = 2), l.all p = (p (l[0]'(by omega)) && p (l[1]'(by omega)))
  | [a, b], _ => by simp
def atomB (nm : Str) (xs : List Str) : Bool := nameB nm && (decide (xs.length ≤ 12) && xs.all nameB)
theorem rules_atom (hx : xs.l.length ≤ big) (hK : K (.ret (.bool (atomB nm xs.l))) h = true) : Sem TP 138 [.agg [.str nm, encSl encS 1 xs]] h K := by
  refine Sem.data (r := .bool (atomB nm xs.l)) ?_ (by simp [AV.pureL, AV.pure, pure_encSl pure_encS]) hK
  clear hK
  refine F.rules_atom_sem ?_
  rw [F.rules_atom_eq]
  have g0 : (Heap.alloc Heap.empty (.cells (encAt nm xs))).get 0 = some (.cells (encAt nm xs)) := get_alloc_same _ _
  have hb : boxS (.agg [.str nm, encSl encS 1 xs]) = some (encAt nm xs) := box_agg (one_encAt nm xs)
  simp only [hb, bindO_some, next_empty]
  generalize (Heap.alloc Heap.empty (.cells (encAt nm xs))) = H at g0 ⊢
  have fin : ∀ b : Bool, b = atomB nm xs.l → frzK (.bool (atomB nm xs.l)) (.ret (.bool b)) H = true := fun b hb => by rw [hb]; exact frzK_same rfl
  simp only [AMc, Nat.reduceAdd, Nat.reduceEqDiff, reduceIte, load_ptr g0, encAt]
  refine semCall_true (shape_Name ?_)
  simp only [AMc, Nat.reduceAdd, Nat.reduceEqDiff, reduceIte]
  cases hn : nameB nm with
  | false => simp only [cond_f]; exact fin _ (by simp [atomB, hn])
  | true =>
    simp only [cond_t, AMc, Nat.reduceAdd, Nat.reduceEqDiff, reduceIte, load_ptr g0, encAt]
    by_cases h12 : xs.l.length ≤ 12
    · simp only [ZdT (by omega : (xs.l.length : Int) ≤ 12), cond_t, AMc, Nat.reduceAdd, Nat.reduceEqDiff, reduceIte, load_ptr g0, encAt]
      refine semCall_true (ContainsFunc_str hx (p := fun s => !nameB s) (fun v K hK => rules_atom_1 hK) ?_)
      simp only [AMc, Nat.reduceAdd, Nat.reduceEqDiff, reduceIte]
      exact fin _ (by rw [all_any]; simp [atomB, hn, h12])
    · simp only [ZdF (by omega : ¬ (xs.l.length : Int) ≤ 12), cond_f]
      exact fin _ (by simp [atomB, h12])
def condOk (c : CondD) : Bool := if c.kind = 0 then atomB c.name c.args.l else if c.kind = 1 ∨ c.kind = 2 then decide (c.name = []) && (decide (c.args.l.length = 2) && c.args.l.all nameB) else false
theorem rules_condition {c : CondD} (hc : c.ok) {h : Heap} {K : Out → Heap → Bool} (hK : K (.ret (.bool (condOk c))) h = true) : Sem TP 140 [.agg [.int .i64 c.kind, .bool c.neg, .str c.name, encSl encS 1 c.args]] h K := by
  refine Sem.data (r := .bool (condOk c)) ?_ (by simp [AV.pureL, AV.pure, pure_encSl pure_encS]) hK
  clear hK
  refine F.rules_condition_sem ?_
  rw [F.rules_condition_eq]
  have g0 : (Heap.alloc Heap.empty (.cells (encCo c))).get 0 = some (.cells (encCo c)) := get_alloc_same _ _
  have hb : boxS (.agg [.int .i64 c.kind, .bool c.neg, .str c.name, encSl encS 1 c.args]) = some (encCo c) := box_agg (one_encCo c)
  simp only [hb, bindO_some, next_empty]
  generalize (Heap.alloc Heap.empty (.cells (encCo c))) = H at g0 ⊢
  have fin : ∀ b : Bool, b = condOk c → frzK (.bool (condOk c)) (.ret (.bool b)) H = true := fun b hb => by rw [hb]; exact frzK_same rfl
  generalize frzK (.bool (condOk c)) = R at fin ⊢
  simp only [AMc, Nat.reduceAdd, Nat.reduceEqDiff, reduceIte, load_ptr g0, encCo, int_beq, part2_4]
  by_cases k0 : c.kind = 0
  · simp only [ZdT k0, cond_t]
    refine semCall_true (rules_atom hc.2.1 ?_)
    simp only [AMc, Nat.reduceAdd, Nat.reduceEqDiff, reduceIte]
    exact fin _ (by simp [condOk, k0])
  simp only [ZdF k0, cond_f]
  have J : ∀ (e : Env) (b : Bool), e 1 = .ptr 0 0 → e 10 = .bool b → (b = true ↔ (c.kind = 1 ∨ c.kind = 2)) → F.rules_condition.J0 R ⟨e, 40, [], H⟩ = true := by
    intro e b e1 e10 hb
    rw [F.rules_condition.J0_eq]
    simp only [e1, e10, AMc, Nat.reduceAdd, Nat.reduceEqDiff, reduceIte]
    cases b with
    | false =>
      simp only [cond_f]
      have : ¬ (c.kind = 1 ∨ c.kind = 2) := fun h => by have := hb.2 h; cases this
      exact fin _ (by simp [condOk, k0, this])
    | true =>
      have hk := hb.1 rfl
      have hc1 : condOk c = (decide (c.name = []) && (decide (c.args.l.length = 2) && c.args.l.all nameB)) := by simp only [condOk, if_neg k0, if_pos hk]
      rw [hc1] at fin
      simp only [cond_t, AMc, Nat.reduceAdd, Nat.reduceEqDiff, reduceIte, load_ptr g0, encCo, str_beq]
      by_cases hn : c.name = []
      · simp only [ZdT hn, cond_t, AMc, Nat.reduceAdd, Nat.reduceEqDiff, reduceIte, load_ptr g0, encCo, int_beq]
        by_cases h2 : c.args.l.length = 2
        · simp only [ZdT (by omega : (c.args.l.length : Int) = 2), cond_t, AMc, Nat.reduceAdd, Nat.reduceEqDiff, reduceIte, load_ptr g0, encCo]
          have v0 : c.args.l[0]? = some c.args.l[0] := ZgE (by omega)
          have v1 : c.args.l[1]? = some c.args.l[1] := ZgE (by omega)
          have hall : c.args.l.all nameB = (nameB c.args.l[0] && nameB c.args.l[1]) := all_two nameB _ h2
          have i0 := iaS_enc (enc := encS) (sz := 1) (k := .i64) c.args (i := 0) (by omega)
          have i1 := iaS_enc (enc := encS) (sz := 1) (k := .i64) c.args (i := 1) (by omega)
          have l0 := fun h => get_strs (x := c.args) v0 (h := h)
          have l1 := fun h => get_strs (x := c.args) v1 (h := h)
          simp only [show ((0 : Nat) : Int) = 0 from rfl, show ((1 : Nat) : Int) = 1 from rfl] at i0 i1
          simp only [i0, i1, l0, l1, AMc, Nat.reduceAdd, Nat.reduceEqDiff, reduceIte]
          refine semCall_true (shape_Name ?_)
          simp only [AMc, Nat.reduceAdd, Nat.reduceEqDiff, reduceIte]
          rw [hall] at fin
          cases n0 : nameB c.args.l[0] with
          | false => simp only [cond_f]; exact fin _ (by simp [n0])
          | true =>
            simp only [cond_t, AMc, Nat.reduceAdd, Nat.reduceEqDiff, reduceIte, load_ptr g0, encCo, i0, i1, l0, l1]
            refine semCall_true (shape_Name ?_)
            simp only [AMc, Nat.reduceAdd, Nat.reduceEqDiff, reduceIte]
            exact fin _ (by simp [n0, hn, h2])
        · simp only [ZdF (by omega : ¬ (c.args.l.length : Int) = 2), cond_f]
          exact fin _ (by simp [h2])
      · simp only [ZdF hn, cond_f]
        exact fin _ (by simp [hn])
  by_cases k1 : c.kind = 1
  · simp only [ZdT k1, cond_t]
    exact J _ true rfl rfl (by simp [k1])
  · simp only [ZdF k1, cond_f]
    exact J _ (decide (c.kind = 2)) rfl rfl (by simp [k1])
theorem Index_own {l : List Str} (o : Own encS 1 k h a l) (hl : l.length ≤ big)
    (hK : ∀ n : Int, decide (0 ≤ n) = (l.any fun x => s == x) → K (.ret (.int .i64 n)) h = true) : Sem TP 145 [a, .str s] h K := by
  refine F.slices_Index_S_string_string_sem ?_
  rw [F.slices_Index_S_string_string_eq]
  simp only [o.len, AMc, Nat.reduceAdd, Nat.reduceEqDiff, reduceIte]
  refine loopB_range 0 l.length (Nat.zero_le _) (fun i e h' => h' = h ∧ e 0 = a ∧ e 1 = .str s ∧ e 7 = .int .i64 (l.length : Int) ∧ e 8 = .int .i64 (i : Int) ∧ ((l.take i).any fun x => s == x) = false) ⟨rfl, rfl, rfl, rfl, rfl, rfl⟩ ?_ ?_
  · rintro i e h' _ hi ⟨rfl, e0, e1, e7, e8, ht⟩ K' hn hx' hr hp'
    have hv : l[i]? = some l[i] := ZgE hi
    generalize l[i] = x at hv
    obtain ⟨b, _, g1, g2⟩ := own_name o hv
    rw [F.slices_Index_S_string_string.L0_eq]
    simp only [e0, e1, e7, e8, AMc, Nat.reduceAdd, Nat.reduceEqDiff, reduceIte, lt_true hi, g1, g2]
    cases hq : s == x with
    | true =>
      simp only [cond_t]
      rw [hr, F.slices_Index_S_string_string.L0_r_eq]
      refine hK (i : Int) ?_
      rw [ZdT (by omega : (0 : Int) ≤ (i : Int))]
      exact (List.any_eq_true.2 ⟨_, ZmG hv, hq⟩).symm
    | false =>
      simp only [cond_f, succ_i64 hi hl, bindO_some]
      exact hn _ _ ⟨rfl, e0, e1, e7, rfl, any_take hv ht hq⟩
  · rintro e h' ⟨rfl, e0, e1, e7, e8, ht⟩ K' hx'
    rw [F.slices_Index_S_string_string.L0_eq]
    simp only [e0, e1, e7, e8, AMc, Nat.reduceAdd, Nat.reduceEqDiff, reduceIte, lt_false]
    rw [hx', F.slices_Index_S_string_string.L0_x0_eq]
    rw [ZtL (ZrF _)] at ht
    exact hK (-1) (by rw [ht]; rfl)
theorem Contains_own {l : List Str} (o : Own encS 1 k h a l) (hl : l.length ≤ big)
    (hK : K (.ret (.bool (l.any fun x => s == x))) h = true) : Sem TP 143 [a, .str s] h K := by
  refine F.slices_Contains_S_string_string_sem ?_
  rw [F.slices_Contains_S_string_string_eq]
  refine semCall_true (Index_own o hl fun n hn => ?_)
  simp only [AMc, Nat.reduceAdd, Nat.reduceEqDiff, reduceIte]
  rw [hn]; exact hK
def addV (o : List Str) (s : Str) : List Str := if (o.any fun x => s == x) = true then o else o ++ [s]
def addAll (o l : List Str) : List Str := l.foldl addV o
theorem addAll_step {l : List Str} {i : Nat} (hs : l[i]? = some s) : addAll o (l.take (i + 1)) = addV (addAll o (l.take i)) s := by
  unfold addAll; rw [List.take_add_one, hs]; simp
theorem addV_len (o : List Str) (s : Str) : (addV o s).length ≤ o.length + 1 := by
  unfold addV; split <;> simp
theorem addAll_len : ∀ (l o : List Str), (addAll o l).length ≤ o.length + l.length
  | [], o => ZrF _
  | s :: l, o => by
    have h1 := addAll_len l (addV o s)
    have h2 := addV_len o s
    show (addAll (addV o s) l).length ≤ _
    rw [List.length_cons]; omega
theorem own_cell {enc : α → List AV} {l : List α} (o : Own enc sz k h a l) : a.cellsL = [a] ∧ oneAll [a] = true := by
  cases o <;> exact ⟨rfl, rfl⟩
theorem store_own {enc : α → List AV} {b : AV} {l : List α} (o : Own enc sz k h a l) (hV : h.get V = some (.cells [b])) : storeS 1 (.ptr V 0) a h = some (h.set V (.cells [a])) := by
  obtain ⟨h1, h2⟩ := own_cell o
  rw [store_ptr (n := 1) hV (by rw [h1]; rfl) (by rw [h1]; exact h2) (by simp), h1]; rfl
theorem row_S (s : Str) : rowS [.str []] [(0, 1)] [.str s] = some (encS s) := rfl
theorem rules_vars1 {l : List Str} (hV : h.get V = some (.cells [a])) (hVk : V < k) (o : Own encS 1 k h a l) (hk : k ≤ h.next) (hlen : l.length + xs.l.length ≤ 100000000)
    (hK : ∀ a' h', h'.get V = some (.cells [a']) → Own encS 1 k h' a' (addAll l xs.l) → (∀ c, c < k → c ≠ V → h'.get c = h.get c) → h.next ≤ h'.next → K (.ret (.tuple [])) h' = true) : Sem TP 142 [encSl encS 1 xs, .ptr V 0] h K := by
  refine F.rules_Variables_1_sem ?_
  rw [F.rules_Variables_1_eq]
  simp only [AMc, Nat.reduceAdd, Nat.reduceEqDiff, reduceIte]
  refine loopB_range 0 xs.l.length (Nat.zero_le _) (fun i e h' => ∃ a', h'.get V = some (.cells [a']) ∧ Own encS 1 k h' a' (addAll l (xs.l.take i)) ∧ (∀ c, c < k → c ≠ V → h'.get c = h.get c) ∧ h.next ≤ h'.next ∧
    e 1 = .ptr V 0 ∧ e 5 = encSl encS 1 xs ∧ e 6 = .int .i64 (xs.l.length : Int) ∧ e 7 = .int .i64 (i : Int)) ⟨a, hV, by simpa [addAll] using o, fun _ _ _ => rfl, ZrF _, rfl, rfl, rfl, rfl⟩ ?_ ?_
  · rintro i e h' _ hi ⟨a', gV, o', fr, hn', e1, e5, e6, e7⟩ K' hn hx hr hp
    have hv : xs.l[i]? = some xs.l[i] := ZgE hi
    generalize xs.l[i] = s at hv
    have hlb : (addAll l (xs.l.take i)).length ≤ 100000000 := by
      have h1 := addAll_len (xs.l.take i) l
      have h2 := List.length_take_le i xs.l
      omega
    rw [F.rules_Variables_1.L0_eq]
    simp only [e1, e5, e6, e7, AMc, Nat.reduceAdd, Nat.reduceEqDiff, reduceIte, lt_true hi, iaS_enc xs hi, get_strs hv, load_ptr gV]
    refine semCall_true (Contains_own o' (by unfold big; omega) ?_)
    simp only [AMc, Nat.reduceAdd, Nat.reduceEqDiff, reduceIte]
    have hstep := addAll_step (o := l) hv
    unfold addV at hstep
    cases hq : (addAll l (xs.l.take i)).any fun x => s == x with
    | true =>
      rw [hq, if_pos rfl] at hstep
      simp only [Bool.not_true, cond_f, succ_i64 hi (show xs.l.length ≤ big by unfold big; omega), bindO_some]
      exact hn _ _ ⟨a', gV, by rw [hstep]; exact o', fr, hn', e1, e5, e6, rfl⟩
    | false =>
      rw [hq, if_neg (by simp)] at hstep
      obtain ⟨a2, h2, p1, p2, p3, p4, p5, p6⟩ := o'.push len_encS one_encS (by omega) (bytes := 16) (by unfold maxBytes; omega) s
      have gV2 : h2.get V = some (.cells [a']) := by
        rw [p3 V (by omega) (fun hb => by have := o'.ge hb; omega)]; exact gV
      have hst := store_own p2 gV2
      simp only [Bool.not_false, cond_t, e1, load_ptr gV, AMc, Nat.reduceAdd, Nat.reduceEqDiff, reduceIte, row_S, p1, hst, succ_i64 hi (show xs.l.length ≤ big by unfold big; omega)]
      refine hn _ _ ⟨a2, by rw [Heap.get_set, if_pos rfl], by rw [hstep]; exact p2.setLow hVk _, fun c hc hcV => ?_, by rw [Heap.next_set]; omega, e1, e5, e6, rfl⟩
      rw [Heap.get_set, if_neg hcV, p3 c (by omega) (fun hb => by have := o'.ge hb; omega), fr c hc hcV]
  · rintro e h' ⟨a', gV, o', fr, hn', e1, e5, e6, e7⟩ K' hx
    rw [F.rules_Variables_1.L0_eq]
    simp only [e6, e7, AMc, Nat.reduceAdd, Nat.reduceEqDiff, reduceIte, lt_false]
    rw [hx, F.rules_Variables_1.L0_x0_eq]
    rw [ZtL (ZrF _)] at o'
    exact hK a' h' gV o' fr hn'
def condVars (o : List Str) (cs : List CondD) : List Str := cs.foldl (fun o c => addAll o c.args.l) o
def varsOf (r : RuleD) : List Str := condVars (addAll [] r.args.l) r.body.l
def RuleD.few (r : RuleD) : Prop := r.args.l.length ≤ 1500 ∧ r.body.l.length ≤ 1500 ∧ ∀ c ∈ r.body.l, c.args.l.length ≤ 1500
theorem condVars_step {cs : List CondD} {i : Nat} {c : CondD} (hc : cs[i]? = some c) : condVars o (cs.take (i + 1)) = addAll (condVars o (cs.take i)) c.args.l := by
  unfold condVars; rw [List.take_add_one, hc]; simp
theorem condVars_len : ∀ (cs : List CondD) (o : List Str), (∀ c ∈ cs, c.args.l.length ≤ 1500) → (condVars o cs).length ≤ o.length + cs.length * 1500
  | [], o, _ => by simp [condVars]
  | c :: cs, o, h => by
    have h1 := condVars_len cs (addAll o c.args.l) fun d hd => h d (List.mem_cons_of_mem _ hd)
    have h2 := addAll_len c.args.l o
    have h3 := h c List.mem_cons_self
    show (condVars (addAll o c.args.l) cs).length ≤ _
    rw [List.length_cons]; omega
theorem vars_pre {r : RuleD} (hf : r.few) (i : Nat) : (condVars (addAll [] r.args.l) (r.body.l.take i)).length ≤ 3000000 := by
  have h1 := condVars_len (r.body.l.take i) (addAll [] r.args.l) fun c hc => hf.2.2 c (List.mem_of_mem_take hc)
  have h2 := addAll_len r.args.l []
  have h3 := List.length_take_le i r.body.l
  have h4 := List.length_take_le' i r.body.l
  have := hf.1; have := hf.2.1
  simp only [List.length_nil] at h2
  omega
theorem rules_Variables {r : RuleD} (hf : r.few) {h : Heap} {K : Out → Heap → Bool} (hK : ∀ x : Sl Str, x.l = varsOf r → K (.ret (encSl encS 1 x)) h = true) :
    Sem TP 100 [.agg [.str r.name, encSl encS 1 r.args, encSl encCo 4 r.body]] h K := by
  have main : Sem TP 100 [.agg [.str r.name, encSl encS 1 r.args, encSl encCo 4 r.body]] Heap.empty (fun o h' => yes (∃ v, ∃ x : Sl Str, o = .ret v ∧ x.l = varsOf r ∧ Fz true h' v (encSl encS 1 x))) := by
    refine F.rules_Variables_sem ?_
    rw [F.rules_Variables_eq]
    have hb : boxS (.agg [.str r.name, encSl encS 1 r.args, encSl encCo 4 r.body]) = some (encRu r) := box_agg (one_encRu r)
    simp only [hb, bindO_some, next_empty, Heap.next_alloc]
    have g0 : (Heap.alloc (Heap.alloc Heap.empty (.cells (encRu r))) (.cells [.nils])).get 0 = some (.cells (encRu r)) := by simp [Heap.get_alloc, next_empty]
    have g1 : (Heap.alloc (Heap.alloc Heap.empty (.cells (encRu r))) (.cells [.nils])).get 1 = some (.cells [.nils]) := by simp [Heap.get_alloc, next_empty]
    have gn : (Heap.alloc (Heap.alloc Heap.empty (.cells (encRu r))) (.cells [.nils])).next = 2 := rfl
    generalize (Heap.alloc (Heap.alloc Heap.empty (.cells (encRu r))) (.cells [.nils])) = H at g0 g1 gn ⊢
    simp only [AMc, Nat.reduceAdd, Nat.reduceEqDiff, reduceIte, load_ptr g0, encRu]
    refine semCall_true (rules_vars1 g1 (by omega) (Own.nil (k := 2)) (by omega) (by have := hf.1; simp only [List.length_nil]; omega) fun a h1 q1 q2 q3 q4 => ?_)
    have g0' : h1.get 0 = some (.cells (encRu r)) := by rw [q3 0 (by omega) (by omega)]; exact g0
    simp only [AMc, Nat.reduceAdd, Nat.reduceEqDiff, reduceIte, load_ptr g0', encRu]
    refine loopB_range 0 r.body.l.length (Nat.zero_le _) (fun i e h' => ∃ a', h'.get 1 = some (.cells [a']) ∧ Own encS 1 2 h' a' (condVars (addAll [] r.args.l) (r.body.l.take i)) ∧ 2 ≤ h'.next ∧
      e 3 = .ptr 1 0 ∧ e 4 = .func 142 [] [.ptr 1 0] ∧ e 14 = encSl encCo 4 r.body ∧ e 15 = .int .i64 (r.body.l.length : Int) ∧ e 16 = .int .i64 (i : Int)) ⟨a, q1, by simpa [condVars] using q2, by omega, rfl, rfl, rfl, rfl, rfl⟩ ?_ ?_
    · rintro i e h' _ hi ⟨a', gV, o', hn', e3, e4, e14, e15, e16⟩ K' hn hx hr hp
      have hv : r.body.l[i]? = some r.body.l[i] := ZgE hi
      generalize r.body.l[i] = c at hv
      have hc15 := hf.2.2 c (ZmG hv)
      obtain ⟨H2, hs, k1, ko, kn⟩ := store_new (h := h') (zs := [.int .i64 0, .bool false, .str [], .nils]) (cs := encCo c) (n := 4) rfl rfl (one_encCo c)
      have x2 : HExt h' H2 := ⟨by omega, fun b hb => ko b (by omega)⟩
      have gV2 : H2.get 1 = some (.cells [a']) := by rw [x2.get 1 (by omega)]; exact gV
      rw [F.rules_Variables.L0_eq]
      simp only [e3, e4, e14, e15, e16, AMc, Nat.reduceAdd, Nat.reduceEqDiff, reduceIte, lt_true hi, iaS_enc r.body hi, load_agg len_encCo hv, hs]
      simp only [AMc, Nat.reduceAdd, Nat.reduceEqDiff, reduceIte, load_ptr k1, encCo, callV_func, List.nil_append, List.cons_append]
      refine semCall_true (rules_vars1 (xs := c.args) gV2 (by omega) (o'.ext x2) (by omega) (by have := vars_pre hf i; omega) fun a3 h3 s1 s2 s3 s4 => ?_)
      simp only [AMc, Nat.reduceAdd, Nat.reduceEqDiff, reduceIte, succ_i64 hi (show r.body.l.length ≤ big by have := hf.2.1; unfold big; omega)]
      refine hn _ _ ⟨a3, s1, by rw [condVars_step hv]; exact s2, by omega, e3, e4, e14, e15, rfl⟩
    · rintro e h' ⟨a', gV, o', hn', e3, e4, e14, e15, e16⟩ K' hx
      rw [F.rules_Variables.L0_eq]
      simp only [e15, e16, AMc, Nat.reduceAdd, Nat.reduceEqDiff, reduceIte, lt_false]
      rw [hx, F.rules_Variables.L0_x0_eq]
      simp only [e3, AMc, Nat.reduceAdd, Nat.reduceEqDiff, reduceIte, load_ptr gV]
      rw [ZtL (ZrF _)] at o'
      obtain ⟨x, hx1, hx2⟩ := o'.frzx (fun v y hy => by
        simp only [encS, List.mem_cons, List.not_mem_nil, or_false] at hy
        subst hy; exact .scalar _ rfl)
      exact yes_eq.2 ⟨a', x, rfl, hx1, hx2⟩
  refine main.frozen (by have := pure_encRu r; simpa [encRu, AV.pureL, AV.pure] using this) fun o h' ho => ?_
  obtain ⟨v, x, rfl, hx, hfz⟩ := yes_eq.1 ho
  exact ⟨v, _, rfl, hfz, hK x hx⟩
theorem nilCheck_ptr (b o : Nat) : nilCheckS (.ptr b o) = some (.ptr b o) := rfl
theorem rules_arity {v w : AV} (hP : h.get P = some (.cells [v, .map M, w])) (hM : h.get M = some (.map es ck)) (hm : MapI es m) (hPn : P < h.next) (hMn : M < h.next)
    (hK : ∀ h' es' ck', h'.get M = some (.map es' ck') → MapI es' (m.upd nm xs.l.length) → (∀ b, b < h.next → b ≠ M → h'.get b = h.get b) → h.next ≤ h'.next → K (.ret (.bool (match m.find nm with | none => true | some k => decide (k = (xs.l.length : Int))))) h' = true) :
    Sem TP 139 [.ptr P 0, .agg [.str nm, encSl encS 1 xs]] h K := by
  refine F.rules_program_arity_sem ?_
  rw [F.rules_program_arity_eq]
  have hb : boxS (.agg [.str nm, encSl encS 1 xs]) = some (encAt nm xs) := box_agg (one_encAt nm xs)
  simp only [hb, bindO_some]
  have g0 : (Heap.alloc h (.cells (encAt nm xs))).get h.next = some (.cells (encAt nm xs)) := get_alloc_same _ _
  have gP : (Heap.alloc h (.cells (encAt nm xs))).get P = some (.cells [v, .map M, w]) := by rw [Heap.get_alloc, if_neg (by omega)]; exact hP
  have gM : (Heap.alloc h (.cells (encAt nm xs))).get M = some (.map es ck) := by rw [Heap.get_alloc, if_neg (by omega)]; exact hM
  have gx : HExt h (Heap.alloc h (.cells (encAt nm xs))) := HExt.alloc _ _
  generalize (Heap.alloc h (.cells (encAt nm xs))) = H at g0 gP gM gx ⊢
  have g0' : ∀ x, (H.set M x).get h.next = some (.cells (encAt nm xs)) := fun x => by rw [Heap.get_set, if_neg (by omega)]; exact g0
  obtain ⟨es', ck', hu, hue⟩ := update_map gM hm nm xs.l.length
  simp only [AMc, Nat.reduceAdd, Nat.reduceEqDiff, reduceIte, nilCheck_ptr, load_ptr gP, load_ptr g0, encAt, lookup_map gM hm, hu]
  have fin := hK (H.set M (.map es' ck')) es' ck' (by rw [Heap.get_set, if_pos rfl]) hue (fun b hb hne => by rw [Heap.get_set, if_neg hne]; exact gx.get b hb) (by rw [Heap.next_set]; exact gx.next)
  cases hf : m.find nm with
  | none =>
    rw [hf] at fin
    simp only [Option.isSome_none, Bool.not_false, cond_t]
    exact fin
  | some k =>
    rw [hf] at fin
    simp only [Option.isSome_some, Bool.not_true, cond_f, Option.getD_some, AMc, Nat.reduceAdd, Nat.reduceEqDiff, reduceIte, load_ptr (g0' _), encAt, int_beq]
    exact fin
theorem findA_at {d : TypeDesc} {k : AV} : ∀ {es : List Entry} {i j : Nat} {v : AV}, findA d k es i = some (some (j, v)) → ∃ n e, j = i + n ∧ es[n]? = some e
  | [], i, j, v, h => by simp [findA] at h
  | e :: es, i, j, v, h => by
    simp only [findA] at h
    split at h
    · cases h; exact ⟨0, e, rfl, rfl⟩
    · obtain ⟨n, f, h1, h2⟩ := findA_at h
      exact ⟨n + 1, f, by omega, by simpa using h2⟩
    · cases h
theorem findBorn_at : ∀ {es : List Entry} {i j : Nat} {e : Entry}, (es.map (·.2.2)).Nodup → es[i]? = some e → findBorn (e.2.2 : Int) es j = some (j + i)
  | [], i, j, e, _, h => by simp at h
  | f :: es, 0, j, e, _, h => by
    simp only [List.getElem?_cons_zero, Option.some.injEq] at h
    subst h; simp [findBorn]
  | f :: es, i + 1, j, e, hn, h => by
    rw [List.map_cons, List.nodup_cons] at hn
    rw [List.getElem?_cons_succ] at h
    have hne : ¬ ((f.2.2 : Int) = (e.2.2 : Int)) := fun heq => hn.1 (by
      have : f.2.2 = e.2.2 := by omega
      rw [this]; exact List.mem_map_of_mem (ZmG h))
    rw [findBorn, if_neg hne, findBorn_at hn.2 h]
    congr 1; omega
theorem entry_map (hb : h.get b = some (.map es ck)) (hm : MapI es m) (hB : Births es ck) {k : Str} {q : Int} (hk : m.find k = some q) (v : Int) :
    ∃ es' born, mapEntryS .string (.int .i64 0) (.map b) (.str k) h = some (.tuple [.int .i64 q, .int .i64 born], h) ∧ entryStoreS (.map b) (.int .i64 born) (.int .i64 v) h = some (h.set b (.map es' ck)) ∧ MapI es' (m.upd k v) ∧ Births es' ck := by
  obtain ⟨r, hr, hm'⟩ := MapI.findA (k := k) 0 hm
  cases r with
  | none => simp only at hm'; rw [hk] at hm'; cases hm'
  | some jv =>
    obtain ⟨n, q', hj, b', c, _, e⟩ := hm'
    obtain ⟨j, w⟩ := jv
    simp only [Nat.zero_add] at hj c
    subst hj; subst c
    rw [hk] at b'; cases b'
    obtain ⟨n, f, h1, h2⟩ := findA_at hr
    rw [Nat.zero_add] at h1; subst h1
    refine ⟨setEntry es j (.int .i64 v), (f.2.2 : Int), ?_, ?_, e v, hB.set _ _⟩
    · simp only [mapEntryS, hb, findK, keyOk, if_true, hr, bornAt, h2]
    · have := findBorn_at (j := 0) hB.nodup h2
      rw [Nat.zero_add] at this
      simp only [entryStoreS, hb, this]
structure LevAt (hs : List Str) (h : Heap) (M : Nat) (ks : List Str) (lv : Lev.Lv) : Prop where
  ex : ∃ es ck m, h.get M = some (.map es ck) ∧ MapI es m ∧ Births es ck ∧ m.map (·.1) = ks ∧ ∀ x, m.find x = if x ∈ hs then some (lv x : Int) else none
theorem LevAt.keep (l : LevAt hs h M ks lv) (he : h'.get M = h.get M) : LevAt hs h' M ks lv := by
  obtain ⟨es, ck, m, h1, h2⟩ := l.ex
  exact ⟨es, ck, m, by rw [he]; exact h1, h2⟩
def edgeOf (r : RuleD) (c : CondD) : Lev.Edge := ⟨c.name, if c.neg then 1 else 0, r.name⟩
def edgeR (hs : List Str) (r : RuleD) (c : CondD) : List Lev.Edge := if c.kind = 0 ∧ c.name ∈ hs then [edgeOf r c] else []
def edgesR (hs : List Str) (r : RuleD) (cs : List CondD) : List Lev.Edge := cs.flatMap (edgeR hs r)
def edges (hs : List Str) (rs : List RuleD) : List Lev.Edge := rs.flatMap fun r => edgesR hs r r.body.l
theorem edgesR_step {r : RuleD} {cs : List CondD} {c : CondD} (hc : cs[j]? = some c) : edgesR hs r (cs.take (j + 1)) = edgesR hs r (cs.take j) ++ edgeR hs r c := by
  unfold edgesR; rw [List.take_add_one, hc]; simp
theorem edges_step {rs : List RuleD} {i : Nat} {r : RuleD} (hr : rs[i]? = some r) : edges hs (rs.take (i + 1)) = edges hs (rs.take i) ++ edgesR hs r r.body.l := by
  unfold edges; rw [List.take_add_one, hr]; simp
theorem LevAt.look (l : LevAt hs h M ks lv) (k : Str) :
    lookupS .string (.int .i64 0) true (.map M) (.str k) h = some (.tuple [.int .i64 (if k ∈ hs then (lv k : Int) else 0), .bool (decide (k ∈ hs))]) := by
  obtain ⟨es, ck, m, h1, h2, h3, h4, h5⟩ := l.ex
  rw [lookup_map h1 h2, h5]
  by_cases hk : k ∈ hs <;> simp [hk]
theorem LevAt.lookf (l : LevAt hs h M ks lv) (k : Str) :
    lookupS .string (.int .i64 0) false (.map M) (.str k) h = some (.int .i64 (if k ∈ hs then (lv k : Int) else 0)) := by
  obtain ⟨es, ck, m, h1, h2, h3, h4, h5⟩ := l.ex
  rw [lookup_mapf h1 h2, h5]
  by_cases hk : k ∈ hs <;> simp [hk]
theorem LevAt.rise {e : Lev.Edge} (l : LevAt hs h M ks lv) (hh : e.h ∈ hs) (hlt : lv e.h < lv e.b + e.w) :
    ∃ born h', mapEntryS .string (.int .i64 0) (.map M) (.str e.h) h = some (.tuple [.int .i64 (lv e.h : Int), .int .i64 born], h) ∧ entryStoreS (.map M) (.int .i64 born) (.int .i64 ((lv e.b + e.w : Nat) : Int)) h = some h' ∧
      LevAt hs h' M ks (Lev.relax lv e) ∧ (∀ b, b ≠ M → h'.get b = h.get b) ∧ h'.next = h.next := by
  obtain ⟨es, ck, m, h1, h2, h3, h4, h5⟩ := l.ex
  have hf : m.find e.h = some (lv e.h : Int) := by rw [h5, if_pos hh]
  obtain ⟨es', born, q1, q2, q3, q4⟩ := entry_map h1 h2 h3 hf ((lv e.b + e.w : Nat) : Int)
  refine ⟨born, _, q1, q2, ⟨es', ck, _, by rw [Heap.get_set, if_pos rfl], q3, q4, ?_, fun x => ?_⟩, fun b hb => by rw [Heap.get_set, if_neg hb], Heap.next_set _ _ _⟩
  · rw [keys_upd, if_pos (List.mem_map.2 ⟨_, find_memI hf, rfl⟩)]; exact h4
  · rw [find_updI]
    unfold Lev.relax
    rw [if_pos hlt]
    by_cases hx : x = e.h
    · subst hx; rw [if_pos rfl, if_pos hh, if_pos rfl]
    · rw [if_neg hx, if_neg hx, h5]
theorem rules_rise {A : AV} {rules : Sl RuleD} {N : Nat} (hP : h.get P = some (.cells [encSl encRu 3 rules, A, .map M])) (hl : LevAt hs h M ks lv) (hPn : P < h.next) (hMn : M < h.next)
    (hr : rules.l.length ≤ 60) (hb : ∀ r ∈ rules.l, r.body.l.length ≤ 20 ∧ r.name ∈ hs) (hN : ∀ x, lv x ≤ N) (hNb : N ≤ 1000000)
    (hK : ∀ h', LevAt hs h' M ks (Lev.round (edges hs rules.l) lv) → (∀ b, b < h.next → b ≠ M → h'.get b = h.get b) → h.next ≤ h'.next → K (.ret (.bool (!decide (Lev.Stable (edges hs rules.l) lv)))) h' = true) : Sem TP 141 [.ptr P 0] h K := by
  have hPM : P ≠ M := fun e => by
    obtain ⟨es, ck, m, h1, _⟩ := hl.ex
    rw [e, h1] at hP; cases hP
  refine F.rules_program_rise_sem ?_
  rw [F.rules_program_rise_eq]
  simp only [AMc, Nat.reduceAdd, Nat.reduceEqDiff, reduceIte, nilCheck_ptr, load_ptr hP]
  refine loopB_range 0 rules.l.length (Nat.zero_le _) (fun i e h' => ∃ cur ch, Lev.RS lv cur (edges hs (rules.l.take i)) ch ∧ LevAt hs h' M ks cur ∧ (∀ x, cur x ≤ N + i * 20) ∧ (∀ b, b < h.next → b ≠ M → h'.get b = h.get b) ∧ h.next ≤ h'.next ∧
    e 0 = .ptr P 0 ∧ e 3 = .bool ch ∧ e 13 = encSl encRu 3 rules ∧ e 14 = .int .i64 (rules.l.length : Int) ∧ e 15 = .int .i64 (i : Int)) ⟨lv, false, Lev.RS.nil lv, hl, by simpa using hN, fun _ _ _ => rfl, ZrF _, rfl, rfl, rfl, rfl, rfl⟩ ?_ ?_
  · rintro i e h' _ hi ⟨cur, ch, rs, la, bd, fr, hn', e0, e3, e13, e14, e15⟩ K' hn hx hr' hp
    have hv : rules.l[i]? = some rules.l[i] := ZgE hi
    generalize rules.l[i] = r at hv
    obtain ⟨hb20, hin⟩ := hb r (ZmG hv)
    obtain ⟨H, hs1, g1, go, gn⟩ := store_new (h := h') (zs := [.str [], .nils, .nils]) (cs := encRu r) (n := 3) rfl rfl (one_encRu r)
    rw [F.rules_program_rise.L0_eq]
    simp only [e0, e3, e13, e14, e15, AMc, Nat.reduceAdd, Nat.reduceEqDiff, reduceIte, lt_true hi, iaS_enc rules hi, load_agg len_encRu hv, hs1]
    simp only [AMc, Nat.reduceAdd, Nat.reduceEqDiff, reduceIte, load_ptr g1, encRu]
    refine loopB_range 0 r.body.l.length (Nat.zero_le _) (fun j e h2 => ∃ cur ch, Lev.RS lv cur (edges hs (rules.l.take i) ++ edgesR hs r (r.body.l.take j)) ch ∧ LevAt hs h2 M ks cur ∧ (∀ x, cur x ≤ N + i * 20 + j) ∧ (∀ b, b < h.next → b ≠ M → h2.get b = h.get b) ∧ h2.get h'.next = some (.cells (encRu r)) ∧ h'.next < h2.next ∧
      e 0 = .ptr P 0 ∧ e 3 = .bool ch ∧ e 5 = .ptr h'.next 0 ∧ e 13 = encSl encRu 3 rules ∧ e 14 = .int .i64 (rules.l.length : Int) ∧ e 15 = .int .i64 (i : Int) ∧ e 20 = encSl encCo 4 r.body ∧ e 21 = .int .i64 (r.body.l.length : Int) ∧ e 22 = .int .i64 (j : Int))
      ⟨cur, ch, by simpa [edgesR] using rs, la.keep (go M (by omega)), by simpa using bd, fun b hb1 hb2 => by rw [go b (by omega)]; exact fr b hb1 hb2, g1, by omega, e0, e3, rfl, e13, e14, e15, rfl, rfl, rfl⟩ ?_ ?_
    · rintro j e h2 _ hj ⟨cur, ch, rs, la, bd, fr, gR, hn2, e0, e3, e5, e13, e14, e15, e20, e21, e22⟩ K2 hn2' hx2 hr2 hp2
      have hc : r.body.l[j]? = some r.body.l[j] := ZgE hj
      generalize r.body.l[j] = c at hc
      obtain ⟨H2, hs2, k1, ko, kn⟩ := store_new (h := h2) (zs := [.int .i64 0, .bool false, .str [], .nils]) (cs := encCo c) (n := 4) rfl rfl (one_encCo c)
      have la2 : LevAt hs H2 M ks cur := la.keep (ko M (by omega))
      have gP2 : H2.get P = some (.cells [encSl encRu 3 rules, A, .map M]) := by rw [ko P (by omega), fr P hPn hPM]; exact hP
      have gR2 : H2.get h'.next = some (.cells (encRu r)) := by rw [ko _ (by omega)]; exact gR
      have fr2 : ∀ b, b < h.next → b ≠ M → H2.get b = h.get b := fun b hb1 hb2 => by rw [ko b (by omega)]; exact fr b hb1 hb2
      have hbig : r.body.l.length ≤ big := by unfold big; omega
      have hst := edgesR_step (hs := hs) (r := r) hc
      rw [F.rules_program_rise.L1_eq]
      simp only [e0, e3, e5, e13, e14, e15, e20, e21, e22, AMc, Nat.reduceAdd, Nat.reduceEqDiff, reduceIte, lt_true hj, iaS_enc r.body hj, load_agg len_encCo hc, hs2]
      simp only [AMc, Nat.reduceAdd, Nat.reduceEqDiff, reduceIte, load_ptr k1, nilCheck_ptr, load_ptr gP2, encCo, la2.look, int_beq]
      by_cases k0 : c.kind = 0
      · simp only [ZdT k0, Bool.not_true, cond_f]
        by_cases hm : c.name ∈ hs
        · have hed : edgeR hs r c = [edgeOf r c] := by unfold edgeR; rw [if_pos ⟨k0, hm⟩]
          rw [hed] at hst
          simp only [ZdT hm, Bool.not_true, cond_f, if_pos hm, AMc, Nat.reduceAdd, Nat.reduceEqDiff, reduceIte, load_ptr k1, encCo]
          have J : ∀ e' : Env, e' 0 = .ptr P 0 → e' 3 = .bool ch → e' 5 = .ptr h'.next 0 → e' 8 = .int .i64 ((cur c.name + (edgeOf r c).w : Nat) : Int) → e' 13 = encSl encRu 3 rules → e' 14 = .int .i64 (rules.l.length : Int) → e' 15 = .int .i64 (i : Int) → e' 20 = encSl encCo 4 r.body → e' 21 = .int .i64 (r.body.l.length : Int) → e' 22 = .int .i64 (j : Int) →
              F.rules_program_rise.J0 K2 ⟨e', 71, [], H2⟩ = true := by
            intro e' e0 e3 e5 e8 e13 e14 e15 e20 e21 e22
            rw [F.rules_program_rise.J0_eq]
            simp only [e0, e5, e8, AMc, Nat.reduceAdd, Nat.reduceEqDiff, reduceIte, nilCheck_ptr, load_ptr gP2, load_ptr gR2, encRu, la2.lookf, if_pos hin]
            by_cases hlt : cur r.name < cur c.name + (edgeOf r c).w
            · obtain ⟨born, h3, q1, q2, q3, q4, q5⟩ := la2.rise (e := edgeOf r c) hin hlt
              have q1' : mapEntryS .string (.int .i64 0) (.map M) (.str r.name) H2 = some (.tuple [.int .i64 (cur r.name : Int), .int .i64 born], H2) := q1
              have q2' : entryStoreS (.map M) (.int .i64 born) (.int .i64 ((cur c.name + (edgeOf r c).w : Nat) : Int)) H2 = some h3 := q2
              simp only [lt_true hlt, cond_t, e0, e5, e8, e22, AMc, Nat.reduceAdd, Nat.reduceEqDiff, reduceIte, nilCheck_ptr, load_ptr gP2, load_ptr gR2, encRu, q1', q2', succ_i64 hj hbig]
              refine hn2' _ _ ⟨_, true, ?_, q3, fun x => ?_, fun b hb1 hb2 => by rw [q4 b hb2]; exact fr2 b hb1 hb2, ?_, by omega, e0, rfl, e5, e13, e14, e15, e20, e21, rfl⟩
              · rw [hst, ← List.append_assoc]; exact rs.up hlt
              · have := Lev.relax_bound (e := edgeOf r c) bd (by unfold edgeOf; simp only; split <;> omega) x; omega
              · rw [q4 _ (by omega)]; exact gR2
            · simp only [ZdF (by omega : ¬ ((cur r.name : Int) < ((cur c.name + (edgeOf r c).w : Nat) : Int))), cond_f, e22, succ_i64 hj hbig, bindO_some]
              exact hn2' _ _ ⟨cur, ch, by rw [hst, ← List.append_assoc]; exact rs.same hlt, la2, fun x => by have := bd x; omega, fr2, gR2, by omega, e0, e3, e5, e13, e14, e15, e20, e21, rfl⟩
          cases hng : c.neg with
          | true =>
            have hw : (edgeOf r c).w = 1 := by unfold edgeOf; simp [hng]
            have hadd := succ_i64 (i := cur c.name) (n := 2000000) (by have := bd c.name; omega) (by unfold big; omega)
            simp only [cond_t, hadd, bindO_some]
            exact J _ e0 e3 e5 (by rw [hw]; rfl) e13 e14 e15 e20 e21 e22
          | false =>
            have hw : (edgeOf r c).w = 0 := by unfold edgeOf; simp [hng]
            simp only [cond_f]
            exact J _ e0 e3 e5 (by rw [hw]; rfl) e13 e14 e15 e20 e21 e22
        · have hed : edgeR hs r c = [] := by unfold edgeR; rw [if_neg (fun h => hm h.2)]
          rw [hed, List.append_nil] at hst
          simp only [ZdF hm, Bool.not_false, cond_t, succ_i64 hj hbig, bindO_some]
          exact hn2' _ _ ⟨cur, ch, by rw [hst]; exact rs, la2, fun x => by have := bd x; omega, fr2, gR2, by omega, e0, e3, e5, e13, e14, e15, e20, e21, rfl⟩
      · have hed : edgeR hs r c = [] := by unfold edgeR; rw [if_neg (fun h => k0 h.1)]
        rw [hed, List.append_nil] at hst
        simp only [ZdF k0, Bool.not_false, cond_t, succ_i64 hj hbig, bindO_some]
        exact hn2' _ _ ⟨cur, ch, by rw [hst]; exact rs, la2, fun x => by have := bd x; omega, fr2, gR2, by omega, e0, e3, e5, e13, e14, e15, e20, e21, rfl⟩
    · rintro e h2 ⟨cur, ch, rs, la, bd, fr, gR, hn2, e0, e3, e5, e13, e14, e15, e20, e21, e22⟩ K2 hx2
      rw [F.rules_program_rise.L1_eq]
      simp only [e21, e22, AMc, Nat.reduceAdd, Nat.reduceEqDiff, reduceIte, lt_false]
      rw [hx2, F.rules_program_rise.L1_x2_eq]
      simp only [e15, AMc, Nat.reduceAdd, Nat.reduceEqDiff, reduceIte, succ_i64 hi (show rules.l.length ≤ big by unfold big; omega), bindO_some]
      rw [ZtL (ZrF _), ← edges_step hv] at rs
      exact hn _ _ ⟨cur, ch, rs, la, fun x => by have := bd x; omega, fr, by omega, e0, e3, e13, e14, rfl⟩
  · rintro e h' ⟨cur, ch, rs, la, bd, fr, hn', e0, e3, e13, e14, e15⟩ K' hx
    rw [F.rules_program_rise.L0_eq]
    simp only [e14, e15, AMc, Nat.reduceAdd, Nat.reduceEqDiff, reduceIte, lt_false]
    rw [hx, F.rules_program_rise.L0_x0_eq]
    rw [ZtL (ZrF _)] at rs
    obtain ⟨d1, d2⟩ := rs.done
    simp only [setV_eq, Nat.reduceEqDiff, reduceIte, e3]
    rw [d2]
    rw [d1] at la
    exact hK h' la fr hn'
theorem agg_P (x : Sl RuleD) (A M : Nat) : aggS [.nils, .nilm, .nilm] [(0, 1), (1, 1), (2, 1)] [encSl encRu 3 x, .map A, .map M] = some (.agg [encSl encRu 3 x, .map A, .map M]) := by cases x <;> rfl
theorem box_P (x : Sl RuleD) (A M : Nat) : boxS (.agg [encSl encRu 3 x, .map A, .map M]) = some [encSl encRu 3 x, .map A, .map M] := box_agg (by simp only [oneAll, one_encSl]; rfl)
def arStep (m : MapL) (nm : Str) (n : Nat) : Option MapL := match m.find nm with
  | none => some (m.upd nm n)
  | some k => if k = (n : Int) then some (m.upd nm n) else none
def condsGo : List CondD → MapL → Option MapL
  | [], m => some m
  | c :: cs, m => bif condOk c then (if c.kind = 0 then (match arStep m c.name c.args.l.length with | none => none | some m' => condsGo cs m') else condsGo cs m) else none
def rulesGo : List RuleD → MapL → Option MapL
  | [], m => some m
  | r :: rs, m => bif atomB r.name r.args.l then (match arStep m r.name r.args.l.length with
      | none => none
      | some m1 => if 20 < r.body.l.length then none else if 12 < (varsOf r).length then none else match condsGo r.body.l m1 with
        | none => none
        | some m2 => rulesGo rs m2) else none
theorem drop_step {l : List α} {i : Nat} {a : α} (h : l[i]? = some a) : l.drop i = a :: l.drop (i + 1) := by
  have hi : i < l.length := (ZgI.1 h).1
  rw [List.drop_eq_getElem_cons hi]
  rw [ZgE hi] at h
  cases h; rfl
theorem LevAt.add (l : LevAt hs h M ks (fun _ => 0)) (hn : ks.Nodup) (nm : Str) :
    ∃ h' ks', mapUpdateS .string (.map M) (.str nm) (.int .i64 0) h = some h' ∧ LevAt (hs ++ [nm]) h' M ks' (fun _ => 0) ∧ ks'.Nodup ∧ (∀ b, b ≠ M → h'.get b = h.get b) ∧ h'.next = h.next := by
  obtain ⟨es, ck, m, h1, h2, h3, h4, h5⟩ := l.ex
  obtain ⟨es', ck', q1, q2⟩ := update_map h1 h2 nm 0
  have g : (h.set M (.map es' ck')).get M = some (.map es' ck') := by rw [Heap.get_set, if_pos rfl]
  refine ⟨_, (m.upd nm 0).map (·.1), q1, ⟨es', ck', _, g, q2, update_births h1 h3 q1 g, rfl, fun x => ?_⟩, nodup_upd (by rw [h4]; exact hn) nm 0, fun b hb => by rw [Heap.get_set, if_neg hb], Heap.next_set _ _ _⟩
  rw [find_updI, h5]
  by_cases hx : x = nm
  · subst hx; simp
  · simp [hx]
theorem LevAt.mem (l : LevAt hs h M ks lv) (x : Str) : x ∈ ks ↔ x ∈ hs := by
  obtain ⟨es, ck, m, h1, h2, h3, h4, h5⟩ := l.ex
  rw [← h4]
  constructor
  · intro hx
    obtain ⟨p, hp, rfl⟩ := List.mem_map.1 hx
    have h6 := h5 p.1
    by_cases hh : p.1 ∈ hs
    · exact hh
    · rw [if_neg hh] at h6
      unfold MapL.find at h6
      rw [Option.map_eq_none_iff, List.find?_eq_none] at h6
      exact absurd (h6 p hp) (by simp)
  · intro hx
    have h6 := h5 x
    rw [if_pos hx] at h6
    exact List.mem_map.2 ⟨_, find_memI h6, rfl⟩
theorem LevAt.len (l : LevAt hs h M ks lv) : lenS .map (.map M) h = some (.int .i64 (ks.length : Int)) := by
  obtain ⟨es, ck, m, h1, h2, h3, h4, h5⟩ := l.ex
  have : ∀ (es : List Entry) (m : MapL), MapI es m → es.length = m.length := by
    intro es
    induction es with
    | nil => intro m hm; cases m with
      | nil => rfl
      | cons p m => exact hm.elim
    | cons e es ih => intro m hm; cases m with
      | nil => exact hm.elim
      | cons p m => rw [List.length_cons, List.length_cons, ih m hm.2.2]
  have hl := this es m h2
  rw [← h4, List.length_map, ← hl]
  simp [lenS, entriesS, h1]
theorem fold_bound : ∀ {E : List Lev.Edge} {L : Lev.Lv} {N : Nat}, (∀ e ∈ E, e.w ≤ 1) → (∀ x, L x ≤ N) → ∀ x, E.foldl Lev.relax L x ≤ N + E.length
  | [], L, N, _, h, x => h x
  | e :: E, L, N, hw, h, x => by
    have := fold_bound (E := E) (L := Lev.relax L e) (N := N + 1) (fun f hf => hw f (List.mem_cons_of_mem _ hf)) (Lev.relax_bound h (hw e List.mem_cons_self)) x
    rw [List.length_cons]
    show E.foldl Lev.relax (Lev.relax L e) x ≤ _
    omega
theorem edgesR_len (hs : List Str) (r : RuleD) : ∀ cs : List CondD, (edgesR hs r cs).length ≤ cs.length
  | [] => ZrF _
  | c :: cs => by
    have := edgesR_len hs r cs
    have h1 : (edgeR hs r c).length ≤ 1 := by unfold edgeR; split <;> simp
    show (edgeR hs r c ++ edgesR hs r cs).length ≤ _
    rw [List.length_append, List.length_cons]; omega
theorem edges_len (hs : List Str) : ∀ rs : List RuleD, (∀ r ∈ rs, r.body.l.length ≤ 20) → (edges hs rs).length ≤ rs.length * 20
  | [], _ => ZrF _
  | r :: rs, h => by
    have h1 := edges_len hs rs fun q hq => h q (List.mem_cons_of_mem _ hq)
    have h2 := edgesR_len hs r r.body.l
    have h3 := h r List.mem_cons_self
    show (edgesR hs r r.body.l ++ edges hs rs).length ≤ _
    rw [List.length_append, List.length_cons]; omega
theorem edges_of {rs : List RuleD} {e : Lev.Edge} (he : e ∈ edges hs rs) : ∃ r ∈ rs, ∃ c ∈ r.body.l, c.kind = 0 ∧ c.name ∈ hs ∧ e = edgeOf r c := by
  obtain ⟨r, hr, he⟩ := List.mem_flatMap.1 he
  obtain ⟨c, hc, he⟩ := List.mem_flatMap.1 he
  unfold edgeR at he
  split at he
  · rename_i h; rw [List.mem_singleton] at he; exact ⟨r, hr, c, hc, h.1, h.2, he⟩
  · cases he
theorem edge_w (r : RuleD) (c : CondD) : (edgeOf r c).w ≤ 1 := by unfold edgeOf; simp only; split <;> omega
theorem rulesGo_ok : ∀ {rs : List RuleD} {m m' : MapL}, rulesGo rs m = some m' → ∀ r ∈ rs, atomB r.name r.args.l = true ∧ r.body.l.length ≤ 20 ∧ (varsOf r).length ≤ 12
  | [], _, _, _, r, hr => by cases hr
  | r0 :: rs, m, m', h, r, hr => by
    rw [rulesGo] at h
    cases ha : atomB r0.name r0.args.l with
    | false => rw [ha] at h; cases h
    | true =>
      rw [ha, cond_true] at h
      split at h
      · cases h
      · split at h
        · cases h
        · split at h
          · cases h
          · split at h
            · cases h
            · rcases List.mem_cons.1 hr with rfl | hr
              · exact ⟨ha, by omega, by omega⟩
              · exact rulesGo_ok h r hr
def headsOf (rs : List RuleD) : List Str := rs.map (·.name)
def edgesP (rs : List RuleD) : List Lev.Edge := edges (headsOf rs) rs
structure GoodP (rs : List RuleD) : Prop where
  few : rs.length ≤ 60
  go : ∃ m, rulesGo rs [] = some m
  lev : ∃ k, Lev.Stable (edgesP rs) (Lev.iter (edgesP rs) k)
theorem iter_bound {rs : List RuleD} (h60 : rs.length ≤ 60) (h20 : ∀ r ∈ rs, r.body.l.length ≤ 20) : ∀ k x, Lev.iter (edgesP rs) k x ≤ k * 1200
  | 0, x => Nat.zero_le _
  | k + 1, x => by
    have h1 := fold_bound (E := edgesP rs) (L := Lev.iter (edgesP rs) k) (N := k * 1200) (fun e he => by obtain ⟨r, _, c, _, _, _, rfl⟩ := edges_of he; exact edge_w r c) (iter_bound h60 h20 k) x
    have h2 : (edgesP rs).length ≤ rs.length * 20 := edges_len _ rs h20
    show (edgesP rs).foldl Lev.relax (Lev.iter (edgesP rs) k) x ≤ _
    omega
def arOk (m : MapL) (nm : Str) (n : Nat) : Bool := match m.find nm with | none => true | some k => decide (k = (n : Int))
theorem arStep_eq (m : MapL) (nm : Str) (n : Nat) : arStep m nm n = if arOk m nm n = true then some (m.upd nm n) else none := by
  unfold arStep arOk
  cases m.find nm with
  | none => rfl
  | some k => by_cases h : k = (n : Int) <;> simp [h]
theorem rules_arity' {v w : AV} (hP : h.get P = some (.cells [v, .map M, w])) (hM : h.get M = some (.map es ck)) (hm : MapI es m) (hPn : P < h.next) (hMn : M < h.next)
    (hK : ∀ h' es' ck', h'.get M = some (.map es' ck') → MapI es' (m.upd nm xs.l.length) → (∀ b, b < h.next → b ≠ M → h'.get b = h.get b) → h.next ≤ h'.next → K (.ret (.bool (arOk m nm xs.l.length))) h' = true) :
    Sem TP 139 [.ptr P 0, .agg [.str nm, encSl encS 1 xs]] h K := rules_arity hP hM hm hPn hMn hK
set_option maxHeartbeats 1000000 in
theorem rules_of {rules : Sl RuleD} (hok : ∀ r ∈ rules.l, r.ok) (hfew : ∀ r ∈ rules.l, r.few) {h : Heap} {K : Out → Heap → Bool}
    (hno : ¬ GoodP rules.l → ∀ h', K (.ret (.tuple [.nilp, .bool false])) h' = true)
    (hyes : ∀ h' P A M ks k, GoodP rules.l → Lev.Stable (edgesP rules.l) (Lev.iter (edgesP rules.l) k) → h'.get P = some (.cells [encSl encRu 3 rules, .map A, .map M]) → LevAt (headsOf rules.l) h' M ks (Lev.iter (edgesP rules.l) k) → ks.Nodup → P < h'.next → M < h'.next →
      K (.ret (.tuple [.ptr P 0, .bool true])) h' = true) : Sem TP 98 [encSl encRu 3 rules] h K := by
  refine F.rules_of_sem ?_
  rw [F.rules_of_eq]
  simp only [Heap.next_alloc, agg_P, box_P, bindO_some]
  have gA : (Heap.alloc (Heap.alloc (Heap.alloc h (.map [] 0)) (.map [] 0)) (.cells [encSl encRu 3 rules, .map h.next, .map (h.next + 1)])).get h.next = some (.map [] 0) := by
    rw [Heap.get_alloc, Heap.next_alloc, Heap.next_alloc, if_neg (by omega), Heap.get_alloc, Heap.next_alloc, if_neg (by omega)]; exact get_alloc_same _ _
  have gM : (Heap.alloc (Heap.alloc (Heap.alloc h (.map [] 0)) (.map [] 0)) (.cells [encSl encRu 3 rules, .map h.next, .map (h.next + 1)])).get (h.next + 1) = some (.map [] 0) := by
    rw [Heap.get_alloc, Heap.next_alloc, Heap.next_alloc, if_neg (by omega)]; exact get_alloc_same _ _
  have gP : (Heap.alloc (Heap.alloc (Heap.alloc h (.map [] 0)) (.map [] 0)) (.cells [encSl encRu 3 rules, .map h.next, .map (h.next + 1)])).get (h.next + 1 + 1) = some (.cells [encSl encRu 3 rules, .map h.next, .map (h.next + 1)]) := get_alloc_same _ _
  have gn : (Heap.alloc (Heap.alloc (Heap.alloc h (.map [] 0)) (.map [] 0)) (.cells [encSl encRu 3 rules, .map h.next, .map (h.next + 1)])).next = h.next + 1 + 1 + 1 := rfl
  generalize (Heap.alloc (Heap.alloc (Heap.alloc h (.map [] 0)) (.map [] 0)) (.cells [encSl encRu 3 rules, .map h.next, .map (h.next + 1)])) = H0 at gA gM gP gn ⊢
  obtain ⟨A, hA⟩ : ∃ A, A = h.next := ⟨_, rfl⟩
  obtain ⟨M, hM⟩ : ∃ M, M = h.next + 1 := ⟨_, rfl⟩
  obtain ⟨P, hP⟩ : ∃ P, P = h.next + 1 + 1 := ⟨_, rfl⟩
  rw [← hP] at gP gn ⊢
  rw [← hM] at gM gP ⊢
  rw [← hA] at gA gP ⊢
  have hAM : A < M := by omega
  have hMP : M < P := by omega
  clear hA hM hP
  simp only [AMc, Nat.reduceAdd, Nat.reduceEqDiff, reduceIte]
  by_cases h61 : 60 < rules.l.length
  · simp only [ZdT (by omega : (60 : Int) < (rules.l.length : Int)), cond_t]
    exact hno (fun hg => by have := hg.few; omega) _
  have h60 : rules.l.length ≤ 60 := by omega
  simp only [ZdF (by omega : ¬ (60 : Int) < (rules.l.length : Int)), cond_f]
  have hbig : rules.l.length ≤ big := by unfold big; omega
  have bad : rulesGo rules.l [] = none → ∀ h', K (.ret (.tuple [.nilp, .bool false])) h' = true := fun hn h' => hno (fun hg => by obtain ⟨m, hm⟩ := hg.go; rw [hn] at hm; cases hm) h'
  refine loopB_range 0 rules.l.length (Nat.zero_le _) (fun i e h' => ∃ m ks es ck, rulesGo rules.l [] = rulesGo (rules.l.drop i) m ∧ h'.get A = some (.map es ck) ∧ MapI es m ∧ LevAt (headsOf (rules.l.take i)) h' M ks (fun _ => 0) ∧ ks.Nodup ∧
    h'.get P = some (.cells [encSl encRu 3 rules, .map A, .map M]) ∧ P < h'.next ∧ e 4 = .ptr P 0 ∧ e 17 = encSl encRu 3 rules ∧ e 18 = .int .i64 (rules.l.length : Int) ∧ e 19 = .int .i64 (i : Int))
    ⟨[], [], [], 0, rfl, gA, trivial, ⟨[], 0, [], gM, trivial, Births.nil 0, rfl, fun x => by simp [headsOf, MapL.find]⟩, List.nodup_nil, gP, by omega, rfl, rfl, rfl, rfl⟩ ?_ ?_
  · rintro i e h' _ hi ⟨m, ks, es, ck, hm, qA, hmI, la, hks, qP, hPn, e4, e17, e18, e19⟩ K' hn hx hr hp
    have hv : rules.l[i]? = some rules.l[i] := ZgE hi
    generalize rules.l[i] = r at hv
    have hrok := hok r (ZmG hv)
    have hrf := hfew r (ZmG hv)
    obtain ⟨H, hs1, g1, go, gn1⟩ := store_new (h := h') (zs := [.str [], .nils, .nils]) (cs := encRu r) (n := 3) rfl rfl (one_encRu r)
    have pA : H.get A = some (.map es ck) := by rw [go A (by omega)]; exact qA
    have pP : H.get P = some (.cells [encSl encRu 3 rules, .map A, .map M]) := by rw [go P (by omega)]; exact qP
    have pl : LevAt (headsOf (rules.l.take i)) H M ks (fun _ => 0) := la.keep (go M (by omega))
    rw [drop_step hv, rulesGo] at hm
    rw [F.rules_of.L0_eq]
    simp only [e4, e17, e18, e19, AMc, Nat.reduceAdd, Nat.reduceEqDiff, reduceIte, lt_true hi, iaS_enc rules hi, load_agg len_encRu hv, hs1]
    simp only [AMc, Nat.reduceAdd, Nat.reduceEqDiff, reduceIte, load_ptr g1, encRu, part2_3]
    refine semCall_true (rules_atom hrok.2.1 ?_)
    simp only [AMc, Nat.reduceAdd, Nat.reduceEqDiff, reduceIte]
    cases ha : atomB r.name r.args.l with
    | false =>
      rw [ha, cond_false] at hm
      simp only [Bool.not_false, cond_t]
      rw [hr, F.rules_of.L0_r_eq]
      exact bad hm _
    | true =>
    rw [ha, cond_true, arStep_eq] at hm
    simp only [Bool.not_true, cond_f, AMc, Nat.reduceAdd, Nat.reduceEqDiff, reduceIte, load_ptr g1, encRu, part2_3, e4]
    refine semCall_true (rules_arity' pP pA hmI (by omega) (by omega) fun h3 es3 ck3 a1 a2 a3 a4 => ?_)
    simp only [AMc, Nat.reduceAdd, Nat.reduceEqDiff, reduceIte]
    cases hq : arOk m r.name r.args.l.length with
    | false =>
      rw [hq, if_neg (by simp)] at hm
      simp only [Bool.not_false, cond_t]
      rw [hr, F.rules_of.L0_r_eq]
      exact bad hm _
    | true =>
    rw [hq, if_pos rfl] at hm
    have g3 : h3.get h'.next = some (.cells (encRu r)) := by rw [a3 _ (by omega) (by omega)]; exact g1
    have P3 : h3.get P = some (.cells [encSl encRu 3 rules, .map A, .map M]) := by rw [a3 P (by omega) (by omega)]; exact pP
    have l3 : LevAt (headsOf (rules.l.take i)) h3 M ks (fun _ => 0) := pl.keep (a3 M (by omega) (by omega))
    simp only [Bool.not_true, cond_f, AMc, Nat.reduceAdd, Nat.reduceEqDiff, reduceIte, load_ptr g3, encRu]
    by_cases h20 : 20 < r.body.l.length
    · simp only at hm
      rw [if_pos h20] at hm
      simp only [ZdT (by omega : (20 : Int) < (r.body.l.length : Int)), cond_t]
      rw [hr, F.rules_of.L0_r_eq]
      exact bad hm _
    simp only at hm
    rw [if_neg h20] at hm
    simp only [ZdF (by omega : ¬ (20 : Int) < (r.body.l.length : Int)), cond_f, AMc, Nat.reduceAdd, Nat.reduceEqDiff, reduceIte, load_ptr g3, encRu, part3_3]
    refine semCall_true (rules_Variables hrf fun x hx1 => ?_)
    simp only [AMc, Nat.reduceAdd, Nat.reduceEqDiff, reduceIte, hx1]
    by_cases h12 : 12 < (varsOf r).length
    · rw [if_pos h12] at hm
      simp only [ZdT (by omega : (12 : Int) < ((varsOf r).length : Int)), cond_t]
      rw [hr, F.rules_of.L0_r_eq]
      exact bad hm _
    rw [if_neg h12] at hm
    simp only [ZdF (by omega : ¬ (12 : Int) < ((varsOf r).length : Int)), cond_f, AMc, Nat.reduceAdd, Nat.reduceEqDiff, reduceIte, load_ptr g3, encRu]
    have hbb : r.body.l.length ≤ big := by unfold big; omega
    refine loopB_range 0 r.body.l.length (Nat.zero_le _) (fun j e h2 => ∃ m2 es2 ck2, condsGo r.body.l (m.upd r.name r.args.l.length) = condsGo (r.body.l.drop j) m2 ∧ h2.get A = some (.map es2 ck2) ∧ MapI es2 m2 ∧ LevAt (headsOf (rules.l.take i)) h2 M ks (fun _ => 0) ∧
      h2.get P = some (.cells [encSl encRu 3 rules, .map A, .map M]) ∧ h2.get h'.next = some (.cells (encRu r)) ∧ h'.next < h2.next ∧ e 4 = .ptr P 0 ∧ e 6 = .ptr h'.next 0 ∧ e 17 = encSl encRu 3 rules ∧ e 18 = .int .i64 (rules.l.length : Int) ∧ e 19 = .int .i64 (i : Int) ∧
      e 47 = encSl encCo 4 r.body ∧ e 48 = .int .i64 (r.body.l.length : Int) ∧ e 49 = .int .i64 (j : Int))
      ⟨_, es3, ck3, rfl, a1, a2, l3, P3, g3, by omega, e4, rfl, e17, e18, e19, rfl, rfl, rfl⟩ ?_ ?_
    · rintro j e h2 _ hj ⟨m2, es2, ck2, hm2, qA2, hmI2, la2, qP2, qR2, hn2, e4, e6, e17, e18, e19, e47, e48, e49⟩ K2 hnn hx2 hr2 hp2
      have hc : r.body.l[j]? = some r.body.l[j] := ZgE hj
      generalize r.body.l[j] = c at hc
      have hcok := hrok.2.2.2.2 c (ZmG hc)
      obtain ⟨H2, hs2, k1, ko, kn⟩ := store_new (h := h2) (zs := [.int .i64 0, .bool false, .str [], .nils]) (cs := encCo c) (n := 4) rfl rfl (one_encCo c)
      have kA : H2.get A = some (.map es2 ck2) := by rw [ko A (by omega)]; exact qA2
      have kP : H2.get P = some (.cells [encSl encRu 3 rules, .map A, .map M]) := by rw [ko P (by omega)]; exact qP2
      have kR : H2.get h'.next = some (.cells (encRu r)) := by rw [ko _ (by omega)]; exact qR2
      have kl : LevAt (headsOf (rules.l.take i)) H2 M ks (fun _ => 0) := la2.keep (ko M (by omega))
      rw [drop_step hc, condsGo] at hm2
      rw [F.rules_of.L1_eq]
      simp only [e4, e6, e17, e18, e19, e47, e48, e49, AMc, Nat.reduceAdd, Nat.reduceEqDiff, reduceIte, lt_true hj, iaS_enc r.body hj, load_agg len_encCo hc, hs2]
      simp only [AMc, Nat.reduceAdd, Nat.reduceEqDiff, reduceIte, load_ptr k1, encCo, part4_4]
      refine semCall_true (rules_condition hcok ?_)
      simp only [AMc, Nat.reduceAdd, Nat.reduceEqDiff, reduceIte]
      cases hco : condOk c with
      | false =>
        rw [hco, cond_false] at hm2
        rw [hm2] at hm
        simp only [Bool.not_false, cond_t]
        rw [hr2, F.rules_of.L1_r_eq, hr, F.rules_of.L0_r_eq]
        exact bad hm _
      | true =>
      rw [hco, cond_true] at hm2
      simp only [Bool.not_true, cond_f, AMc, Nat.reduceAdd, Nat.reduceEqDiff, reduceIte, load_ptr k1, encCo, int_beq]
      by_cases k0 : c.kind = 0
      · rw [if_pos k0, arStep_eq] at hm2
        simp only [ZdT k0, cond_t, AMc, Nat.reduceAdd, Nat.reduceEqDiff, reduceIte, load_ptr k1, encCo, part2_4, e4]
        refine semCall_true (rules_arity' kP kA hmI2 (by omega) (by omega) fun h4 es4 ck4 b1 b2 b3 b4 => ?_)
        simp only [AMc, Nat.reduceAdd, Nat.reduceEqDiff, reduceIte]
        cases hq2 : arOk m2 c.name c.args.l.length with
        | false =>
          rw [hq2, if_neg (by simp)] at hm2
          simp only at hm2
          rw [hm2] at hm
          simp only [Bool.not_false, cond_t]
          rw [hr2, F.rules_of.L1_r_eq, hr, F.rules_of.L0_r_eq]
          exact bad hm _
        | true =>
          rw [hq2, if_pos rfl] at hm2
          simp only [Bool.not_true, cond_f, e49, succ_i64 hj hbb, bindO_some]
          refine hnn _ _ ⟨_, es4, ck4, hm2, b1, b2, kl.keep (b3 M (by omega) (by omega)), ?_, ?_, by omega, e4, e6, e17, e18, e19, e47, e48, rfl⟩
          · rw [b3 P (by omega) (by omega)]; exact kP
          · rw [b3 _ (by omega) (by omega)]; exact kR
      · rw [if_neg k0] at hm2
        simp only [ZdF k0, cond_f, e49, succ_i64 hj hbb, bindO_some]
        exact hnn _ _ ⟨m2, es2, ck2, hm2, kA, hmI2, kl, kP, kR, by omega, e4, e6, e17, e18, e19, e47, e48, rfl⟩
    · rintro e h2 ⟨m2, es2, ck2, hm2, qA2, hmI2, la2, qP2, qR2, hn2, e4, e6, e17, e18, e19, e47, e48, e49⟩ K2 hx2
      rw [List.drop_of_length_le (ZrF _), condsGo] at hm2
      rw [hm2] at hm
      simp only at hm
      obtain ⟨h5, ks5, u1, u2, u3, u4, u5⟩ := la2.add hks r.name
      rw [F.rules_of.L1_eq]
      simp only [e48, e49, AMc, Nat.reduceAdd, Nat.reduceEqDiff, reduceIte, lt_false]
      rw [hx2, F.rules_of.L1_x2_eq]
      simp only [e4, e6, e19, AMc, Nat.reduceAdd, Nat.reduceEqDiff, reduceIte, nilCheck_ptr, load_ptr qP2, load_ptr qR2, encRu, u1, succ_i64 hi hbig]
      refine hn _ _ ⟨m2, ks5, es2, ck2, hm, by rw [u4 A (by omega)]; exact qA2, hmI2, ?_, u3, by rw [u4 P (by omega)]; exact qP2, by omega, e4, e17, e18, rfl⟩
      have : headsOf (rules.l.take (i + 1)) = headsOf (rules.l.take i) ++ [r.name] := by unfold headsOf; rw [List.take_add_one, hv]; simp
      rw [this]; exact u2
  · rintro e h' ⟨m, ks, es, ck, hm, qA, hmI, la, hks, qP, hPn, e4, e17, e18, e19⟩ K' hx
    rw [List.drop_of_length_le (ZrF _), rulesGo] at hm
    rw [ZtL (ZrF _)] at la
    have hgo := rulesGo_ok hm
    have hk60 : ks.length ≤ 60 := by
      have := Lev.nodup_le hks (m := headsOf rules.l) fun x hx => (la.mem x).1 hx
      have h1 : (headsOf rules.l).length = rules.l.length := by simp [headsOf]
      omega
    rw [F.rules_of.L0_eq]
    simp only [e18, e19, AMc, Nat.reduceAdd, Nat.reduceEqDiff, reduceIte, lt_false]
    rw [hx, F.rules_of.L0_x0_eq]
    simp only [e4, AMc, Nat.reduceAdd, Nat.reduceEqDiff, reduceIte, nilCheck_ptr, load_ptr qP, la.len, succ_i64 (i := ks.length) (n := 61) (by omega) (by unfold big; omega)]
    refine loopB_range 0 (ks.length + 1) (Nat.zero_le _) (fun i e h' => LevAt (headsOf rules.l) h' M ks (Lev.iter (edgesP rules.l) i) ∧ h'.get P = some (.cells [encSl encRu 3 rules, .map A, .map M]) ∧ P < h'.next ∧ (∀ j, j < i → ¬ Lev.Stable (edgesP rules.l) (Lev.iter (edgesP rules.l) j)) ∧
      e 4 = .ptr P 0 ∧ e 82 = .int .i64 ((ks.length + 1 : Nat) : Int) ∧ e 83 = .int .i64 (i : Int)) ⟨la, qP, hPn, fun j hj => by omega, e4, rfl, rfl⟩ ?_ ?_
    · rintro i e h2 _ hi ⟨l2, q2, n2, st2, e4, e82, e83⟩ K2 hn2 hx2 hr2 hp2
      rw [F.rules_of.L2_eq]
      simp only [e4, e82, e83, AMc, Nat.reduceAdd, Nat.reduceEqDiff, reduceIte, lt_true hi]
      refine semCall_true (rules_rise (N := i * 1200) q2 l2 n2 (by omega) h60 (fun r hr => ⟨(hgo r hr).2.1, List.mem_map_of_mem hr⟩) (iter_bound h60 (fun r hr => (hgo r hr).2.1) i) (by omega) fun h3 l3 f3 n3 => ?_)
      simp only [AMc, Nat.reduceAdd, Nat.reduceEqDiff, reduceIte, Bool.not_not]
      have q3 : h3.get P = some (.cells [encSl encRu 3 rules, .map A, .map M]) := by rw [f3 P n2 (by omega)]; exact q2
      by_cases hst : Lev.Stable (edgesP rules.l) (Lev.iter (edgesP rules.l) i)
      · have hst' : Lev.Stable (edges (headsOf rules.l) rules.l) (Lev.iter (edgesP rules.l) i) := hst
        simp only [ZdT hst', cond_t]
        rw [hr2, F.rules_of.L2_r_eq]
        simp only [setV_eq, Nat.reduceEqDiff, reduceIte, e4]
        rw [Lev.round_same hst'] at l3
        exact hyes h3 P A M ks i ⟨h60, ⟨m, hm⟩, i, hst⟩ hst q3 l3 hks (by omega) (by omega)
      · have hst' : ¬ Lev.Stable (edges (headsOf rules.l) rules.l) (Lev.iter (edgesP rules.l) i) := hst
        simp only [ZdF hst', cond_f, e83, succ_i64 hi (show ks.length + 1 ≤ big by unfold big; omega), bindO_some]
        exact hn2 _ _ ⟨l3, q3, by omega, fun j hj => by
          by_cases hji : j = i
          · subst hji; exact hst
          · exact st2 j (by omega), e4, e82, rfl⟩
    · rintro e h2 ⟨l2, q2, n2, st2, e4, e82, e83⟩ K2 hx2
      rw [F.rules_of.L2_eq]
      simp only [e82, e83, AMc, Nat.reduceAdd, Nat.reduceEqDiff, reduceIte, lt_false]
      rw [hx2, F.rules_of.L2_x4_eq]
      refine hno (fun hg => ?_) _
      obtain ⟨k, hk⟩ := hg.lev
      refine st2 ks.length (by omega) (Lev.settle (fun e he => ?_) hk)
      obtain ⟨r, hr, c, hc, _, hin, rfl⟩ := edges_of he
      exact ⟨(la.mem _).2 hin, (la.mem _).2 (List.mem_map_of_mem hr)⟩
theorem one_encI (n : Int) : oneAll (encI n) = true := rfl
theorem row_I (n : Int) : rowS [.int .i64 0] [(0, 1)] [.int .i64 n] = some (encI n) := rfl
def encT (t : Sl Int) : List AV := [encSl encI 1 t]
theorem len_encT (t : Sl Int) : (encT t).length = 1 := rfl
theorem pure_encT (t : Sl Int) : AV.pureL (encT t) = true := by simp [encT, AV.pureL, pure_encSl pure_encI]
theorem get_tup {l : List (Sl Int)} {i : Nat} {t : Sl Int} (ht : l[i]? = some t) : loadS none (.iptr (l.flatMap encT) (i * 1)) h = some (encSl encI 1 t) := by
  rw [load_elem1 len_encT ht]; rfl
section
variable {α : Type} {enc : α → List AV} {sz k : Nat}
theorem Own.frz {l : List α} (o : Own enc sz k h a l) (hf : ∀ v ∈ l, ∀ x ∈ enc v, Fz true h x x) : Fz true h a (encSl enc sz (match a with | .nils => none | _ => some l)) := by
  cases o with
  | nil => exact .of_pure rfl
  | row b l h1 h2 h3 =>
    refine .slice b 0 l.length sz _ _ h3 rfl fun i x y hx hy => ?_
    rw [hx] at hy
    cases hy
    have := ZmG hx
    rw [List.mem_flatMap] at this
    obtain ⟨v, hv, hxv⟩ := this
    exact hf v hv x hxv
end
abbrev PB := Nat × List Int
def encP (p : PB) : List AV := [.slice p.1 0 p.2.length 1]
theorem len_encP (p : PB) : (encP p).length = 1 := rfl
theorem one_encP (p : PB) : oneAll (encP p) = true := rfl
structure Nest (k : Nat) (h : Heap) (a : AV) (ps : List PB) : Prop where
  own : Own encP 1 k h a ps
  cell : ∀ p ∈ ps, k ≤ p.1 ∧ p.1 < h.next ∧ blkOf a ≠ some p.1 ∧ h.get p.1 = some (.cells (p.2.map iv))
theorem Nest.nil (k : Nat) (h : Heap) : Nest k h .nils [] := ⟨.nil, fun p hp => by cases hp⟩
theorem Nest.ext {k : Nat} {h h' : Heap} {a : AV} {ps : List PB} (n : Nest k h a ps) (hx : HExt h h') : Nest k h' a ps :=
  ⟨n.own.ext hx, fun p hp => by
    obtain ⟨h1, h2, h3, h4⟩ := n.cell p hp
    exact ⟨h1, Nat.lt_of_lt_of_le h2 hx.next, h3, by rw [hx.get _ h2]; exact h4⟩⟩
theorem Nest.frz {old : Bool} {ps : List PB} (n : Nest k h a ps) : ∃ x : Sl (Sl Int), x.l.map Sl.l = ps.map (·.2) ∧ Fz old h a (encSl encT 1 x) := by
  obtain ⟨o, hc⟩ := n
  cases o with
  | nil => exact ⟨none, rfl, .scalar _ rfl⟩
  | row b ps h1 h2 h3 =>
    refine ⟨some (ps.map fun p => some p.2), by simp [List.map_map, Function.comp_def], ?_⟩
    have e1 : ps.flatMap encP = ps.map fun p => AV.slice p.1 0 p.2.length 1 := by
      induction ps with
      | nil => rfl
      | cons p ps ih => rw [List.flatMap_cons, List.map_cons]; exact congrArg _ (by
          clear ih h3 hc
          induction ps with
          | nil => rfl
          | cons q ps ih => rw [List.flatMap_cons, List.map_cons, ih]; rfl)
    have e2 : (ps.map fun p => (some p.2 : Sl Int)).flatMap encT = ps.map fun p => encSl encI 1 (some p.2) := by
      clear h3 hc e1
      induction ps with
      | nil => rfl
      | cons q ps ih => rw [List.map_cons, List.flatMap_cons, List.map_cons, ih]; rfl
    rw [e1] at h3
    have hf : Fz old h (.slice b 0 ps.length 1) (.islice (ps.map fun p => encSl encI 1 (some p.2)) 0 ps.length 1) := by
      refine .slice b 0 ps.length 1 _ _ h3 (by simp) fun i x y hx hy => ?_
      rw [List.getElem?_map] at hx hy
      obtain ⟨p, hp, rfl⟩ := Option.map_eq_some_iff.1 hx
      rw [hp] at hy; cases hy
      exact fz_ints (hc p (ZmG hp)).2.2.2
    have : encSl encT 1 (some (ps.map fun p => (some p.2 : Sl Int))) = .islice (ps.map fun p => encSl encI 1 (some p.2)) 0 ps.length 1 := by
      simp only [encSl, e2, List.length_map]
    rw [this]; exact hf
theorem Nest.push {k : Nat} {h : Heap} {a : AV} {ps : List PB} (n : Nest k h a ps) (hk : k ≤ h.next) (hroom : (ps.length + 1) * 24 ≤ maxBytes) (p : PB) (p1 : k ≤ p.1) (p2 : p.1 < h.next) (p3 : blkOf a ≠ some p.1) (p4 : h.get p.1 = some (.cells (p.2.map iv))) :
    ∃ a' h', appendS 1 24 a (.slice h.next 0 1 1) (h.alloc (.cells (encP p))) = some (a', h') ∧ Nest k h' a' (ps ++ [p]) ∧ h.next ≤ h'.next ∧ (∀ c, c < h.next → blkOf a ≠ some c → h'.get c = h.get c) ∧ (∀ h0, HExt h0 h → h0.next ≤ k → HExt h0 h') ∧ ∀ c, blkOf a' = some c → h.next ≤ c := by
  obtain ⟨a', h', e1, o1, f1, n1, x1, b1⟩ := n.own.push len_encP one_encP hk hroom p
  refine ⟨a', h', e1, ⟨o1, fun q hq => ?_⟩, n1, f1, x1, b1⟩
  have hq' : k ≤ q.1 ∧ q.1 < h.next ∧ blkOf a ≠ some q.1 ∧ h.get q.1 = some (.cells (q.2.map iv)) := by
    rcases List.mem_append.1 hq with hq | hq
    · exact n.cell q hq
    · rw [List.mem_singleton] at hq; subst hq; exact ⟨p1, p2, p3, p4⟩
  obtain ⟨q1, q2, q3, q4⟩ := hq'
  exact ⟨q1, by omega, fun hb => by have := b1 _ hb; omega, by rw [f1 _ q2 q3]; exact q4⟩
theorem Nest.at_ {ps : List PB} (n : Nest k h a ps) {i : Nat} {p : PB} (hp : ps[i]? = some p) :
    ∃ b, (∀ q : IntKind, iaS 1 a (.int q (i : Int)) = some (.ptr b (i * 1))) ∧ b < h.next ∧ (∀ h', HExt h h' → loadS none (.ptr b (i * 1)) h' = some (.slice p.1 0 p.2.length 1)) := by
  obtain ⟨b, b1, b2, b3, _, b5⟩ := n.own.get len_encP hp
  refine ⟨b, b3, b2, fun h' hx => ?_⟩
  obtain ⟨b', _, _, c3, _, c5⟩ := (n.own.ext hx).get len_encP hp
  obtain rfl : b = b' := by have := b3 .i64; rw [c3 .i64] at this; cases this; rfl
  have := c5 0 (by omega)
  rw [Nat.add_zero] at this
  rw [this]; rfl
theorem push_tup {l : List Int} (hb : h.get b = some (.cells (l.map iv))) (hbn : b < h.next) (hl : l.length ≤ 1000000) (x : Int) :
    ∃ b' h', appendS 1 8 (.slice b 0 l.length 1) (.slice h.next 0 1 1) (h.alloc (.cells [.int .i64 x])) = some (.slice b' 0 (l ++ [x]).length 1, h') ∧ h'.get b' = some (.cells ((l ++ [x]).map iv)) ∧ (∀ c, c < h.next → c ≠ b → h'.get c = h.get c) ∧ h.next ≤ b' ∧ b' < h'.next := by
  have hm : maxBytes = 140737488355328 := rfl
  have g : (h.alloc (.cells [.int .i64 x])).get h.next = some (.cells [.int .i64 x]) := get_alloc_same _ _
  have g2 : (h.alloc (.cells [.int .i64 x])).get b = some (.cells (l.map iv)) := by rw [Heap.get_alloc, if_neg (by omega)]; exact hb
  refine ⟨h.next + 1, ((h.alloc (.cells [.int .i64 x])).set b .dead).alloc (.cells ((l ++ [x]).map iv)), ?_, ?_, fun c hc hcb => ?_, by omega, ?_⟩
  · have hf : firstS 1 1 (.slice h.next 0 1 1) (h.alloc (.cells [.int .i64 x])) = some [.int .i64 x] := by simp [firstS, g]
    simp only [appendS, lenA, hf, if_true, g2]
    rw [if_neg (by decide), if_pos (by simp [oneAll, AV.one]; omega)]
    simp only [Heap.next_set, Heap.next_alloc, List.drop_zero, Nat.mul_one]
    congr 2
    · simp
    · congr 2
      rw [ZtL (by simp), List.map_append]; rfl
  · have := get_alloc_same ((h.alloc (.cells [.int .i64 x])).set b .dead) (.cells ((l ++ [x]).map iv))
    rwa [Heap.next_set, Heap.next_alloc] at this
  · rw [Heap.get_alloc, Heap.next_set, Heap.next_alloc, if_neg (by omega), Heap.get_set, if_neg hcb, Heap.get_alloc, if_neg (by omega)]
  · rw [Heap.next_alloc, Heap.next_set, Heap.next_alloc]; omega
structure Gate where
  kind : Int
  name : Str
  at_ : Sl Int
  kids : Sl Int
structure Circ where
  size : Int
  gates : Sl Gate
theorem pow_up {n : Nat} (h1 : 1 ≤ n) {i : Nat} (h : i ≤ k) : n ^ i ≤ n ^ k := Nat.pow_le_pow_right h1 h
theorem rkGo_append (n : Nat) : ∀ (a b : List Int) (r : Nat), rkGo n (a ++ b) r = rkGo n b (rkGo n a r)
  | [], _, _ => rfl
  | x :: a, b, r => rkGo_append n a b _
theorem rkGo_lt {n : Nat} : ∀ (l : List Int) (r i : Nat), inB n l = true → r < n ^ i → rkGo n l r < n ^ (i + l.length)
  | [], r, i, _, h => h
  | x :: l, r, i, hb, h => by
    simp only [inB, List.all_cons, Bool.and_eq_true, Bool.not_eq_true', decide_eq_false_iff_not] at hb
    have : r * n + x.toNat < n ^ (i + 1) := by
      have h1 : (r + 1) * n ≤ n ^ i * n := Nat.mul_le_mul_right n h
      rw [Nat.succ_mul] at h1
      rw [Nat.pow_succ]
      omega
    have := rkGo_lt l (r * n + x.toNat) (i + 1) (by rw [inB, List.all_eq_true]; simpa using hb.2) this
    rw [List.length_cons, show i + (l.length + 1) = i + 1 + l.length by omega]
    exact this
theorem rkN_lt {n : Nat} {l : List Int} (hb : inB n l = true) : rkN n l < n ^ l.length := by
  have := rkGo_lt l 0 0 hb (by simp)
  rw [Nat.zero_add] at this
  exact this
theorem rkN_step {n : Nat} {l : List Int} {i : Nat} (hv : l[i]? = some v) : rkN n (l.take (i + 1)) = rkN n (l.take i) * n + v.toNat := by
  rw [rkN, List.take_add_one, hv, rkGo_append]; rfl
theorem in_take {n : Int} {l : List Int} (hb : inB n l = true) (i : Nat) : inB n (l.take i) = true := by
  unfold inB at hb ⊢
  rw [List.all_eq_true] at hb ⊢
  exact fun x hx => hb x (List.mem_of_mem_take hx)
theorem in_get {n : Int} {l : List Int} (hb : inB n l = true) {i : Nat} (hv : l[i]? = some v) : 0 ≤ v ∧ v < n := by
  unfold inB at hb
  rw [List.all_eq_true] at hb
  have := hb v (ZmG hv)
  simp at this; omega
theorem rank_ops {n : Nat} {l : List Int} (hb : inB n l = true) (h1 : 1 ≤ n) (hc : n ^ l.length ≤ 4096) {i : Nat} (hv : l[i]? = some v) :
    binS .mul (.int .i64 ((rkN n (l.take i) : Nat) : Int)) (.int .i64 (n : Int)) = some (.int .i64 ((rkN n (l.take i) * n : Nat) : Int)) ∧
    binS .add (.int .i64 ((rkN n (l.take i) * n : Nat) : Int)) (.int .i64 v) = some (.int .i64 ((rkN n (l.take (i + 1)) : Nat) : Int)) := by
  have hi : i < l.length := (ZgI.1 hv).1
  have hlt : rkN n (l.take (i + 1)) < n ^ (l.take (i + 1)).length := rkN_lt (in_take hb _)
  have hp : n ^ (l.take (i + 1)).length ≤ 4096 := Nat.le_trans (pow_up h1 (by rw [List.length_take]; omega)) hc
  obtain ⟨v0, v1⟩ := in_get hb hv
  have he : rkN n (l.take (i + 1)) = rkN n (l.take i) * n + v.toNat := rkN_step hv
  have hm : ((rkN n (l.take i) : Nat) : Int) * (n : Int) = ((rkN n (l.take i) * n : Nat) : Int) := by rw [Int.natCast_mul]
  have hs : ((rkN n (l.take i) * n : Nat) : Int) + v = ((rkN n (l.take (i + 1)) : Nat) : Int) := by omega
  exact ⟨by rw [mul_i64 (by rw [hm]; omega) (by rw [hm]; omega), hm], by rw [add_i64 (by rw [hs]; omega) (by rw [hs]; omega), hs]⟩
def lessB : List Int → List Int → Bool
  | a :: l, b :: m => if a = b then lessB l m else decide (a < b)
  | _, _ => false
structure Rel where
  name : Str
  arity : Int
  tuples : Sl (Sl Int)
structure Strc where
  size : Int
  rels : Sl Rel
def allN (p : Nat → Bool) (n : Nat) : Bool := (List.range n).all p
def tupAt (n k : Nat) (l : List (Sl Int)) (i : Nat) : Bool := match l[i]? with
  | none => true
  | some t => decide (t.l.length = k) && (inB n t.l && (match i with
    | 0 => true
    | j + 1 => match l[j]? with
      | none => true
      | some p => lessB p.l t.l))
def tupB (n k : Nat) (l : List (Sl Int)) : Bool := allN (tupAt n k l) l.length
def relB (n : Nat) (r : Rel) : Bool := nameB r.name && (decide (0 ≤ r.arity) && (decide (r.arity ≤ 12) && (decide (n ^ r.arity.toNat ≤ 4096) && tupB n r.arity.toNat r.tuples.l)))
def relAt (s : Strc) (i : Nat) : Bool := match s.rels.l[i]? with
  | none => true
  | some r => relB s.size.toNat r && !((s.rels.l.take i).any fun q => q.name == r.name)
def strcB (s : Strc) : Bool := decide (1 ≤ s.size) && (decide (s.size ≤ 64) && (decide (s.rels.l.length ≤ 8) && allN (relAt s) s.rels.l.length))
theorem lookup_mapA {m : MapA} (hb : h.get b = some (.map es ck)) (hm : MapE es m) (z : AV) (k : Str) :
    lookupS .string z false (.map b) (.str k) h = some ((m.find k).getD z) := by
  obtain ⟨r, hr, hm'⟩ := MapE.findA (k := k) 0 hm
  simp only [lookupS, entriesS, hb, findK, keyOk, if_true, hr]
  cases r with
  | none => simp at hm'; simp [hm']
  | some jv =>
    obtain ⟨n, _, b, _⟩ := hm'
    obtain ⟨j, v⟩ := jv
    simp [b]
structure CondA where
  name : Str
  blk : Nat
  n : Nat
def encC (c : CondA) : List AV := [.int .i64 0, .bool false, .str c.name, .slice c.blk 0 c.n 1]
structure Rule1 (h : Heap) (rb : Nat) (k : Nat) (body : AV) (cs : List CondA) : Prop where
  get : h.get rb = some (.cells [.str [], .nils, body])
  lt : rb < h.next
  own : Own encC 4 k h body cs
theorem Rule1.ext {h h' : Heap} {rb k : Nat} {body : AV} {cs : List CondA} (r : Rule1 h rb k body cs) (hx : HExt h h') : Rule1 h' rb k body cs :=
  ⟨by rw [hx.get rb r.lt]; exact r.get, Nat.lt_of_lt_of_le r.lt hx.next, r.own.ext hx⟩
def bv (b : Bool) : AV := .bool b
theorem store_bl {i : Nat} {v : Bool} (hb : h.get b = some (.cells (d.map bv))) (hi : i < d.length) : storeS 1 (.ptr b i) (.bool v) h = some (h.set b (.cells ((d.set i v).map bv))) := by
  rw [store_ptr (n := 1) hb rfl rfl (by simp; omega), List.map_set]; rfl
theorem rep_bv (n : Nat) : repZero [.bool false] n = (List.replicate n false).map bv := by
  induction n with
  | zero => rfl
  | succ n ih => rw [repZero, ih]; rfl
theorem make_bl {n : Nat} (hn : n ≤ 1000000) (h : Heap) : makeSliceS 1 1 [.bool false] (.int .i64 (n : Int)) (.int .i64 (n : Int)) h = some (.slice h.next 0 n 1, h.alloc (.cells ((List.replicate n false).map bv))) := by
  have : ((n : Int)) ≤ 140737488355328 := by omega
  simp [makeSliceS, makeOk, this, rep_bv]
def bitsGo (n : Nat) : List (Sl Int) → List Bool → List Bool
  | [], d => d
  | t :: ts, d => bitsGo n ts (d.set (rkN n t.l) true)
theorem bits_drop {n : Nat} {l : List (Sl Int)} {i : Nat} {t : Sl Int} (ht : l[i]? = some t) (d : List Bool) : bitsGo n (l.drop i) d = bitsGo n (l.drop (i + 1)) (d.set (rkN n t.l) true) := by
  have h1 := (ZgI.1 ht).1
  rw [List.drop_eq_getElem_cons h1]
  rw [ZgE h1] at ht
  cases ht; rfl
def bitsOf (n k : Nat) (ts : List (Sl Int)) : List Bool := bitsGo n ts (List.replicate (n ^ k) false)
def atB (d : List Bool) (k : Int) : Bool := d.getD k.toNat false
structure BitsAt (D : Str → Option (Nat × List Bool)) (h : Heap) (B lo : Nat) : Prop where
  ex : ∃ es ck m, h.get B = some (.map es ck) ∧ MapE es m ∧ ∀ nm, m.find nm = (D nm).map fun p => .slice p.1 0 p.2.length 1
  blk : ∀ nm p, D nm = some p → lo ≤ p.1 ∧ p.1 < h.next ∧ p.1 ≠ B ∧ h.get p.1 = some (.cells (p.2.map bv))
  inj : ∀ nm nm' p p', D nm = some p → D nm' = some p' → p.1 = p'.1 → nm = nm'
  lt : B < h.next
theorem BitsAt.ext {lo : Nat} (b : BitsAt D h B lo) (hx : HExt h h') : BitsAt D h' B lo := by
  obtain ⟨es, ck, m, h1, h2, h3⟩ := b.ex
  refine ⟨⟨es, ck, m, by rw [hx.get _ b.lt]; exact h1, h2, h3⟩, fun nm p hp => ?_, b.inj, Nat.lt_of_lt_of_le b.lt hx.next⟩
  obtain ⟨q1, q2, q3, q4⟩ := b.blk nm p hp
  exact ⟨q1, Nat.lt_of_lt_of_le q2 hx.next, q3, by rw [hx.get _ q2]; exact q4⟩
structure RunsD (n : Nat) (D : Str → Option (Nat × List Bool)) (c : Circ) : Prop where
  len : ∀ g ∈ c.gates.l, g.kind = 1 → g.at_.l.length ≤ 12
  pow : ∀ g ∈ c.gates.l, g.kind = 1 → n ^ g.at_.l.length ≤ 4096
  in_ : ∀ g ∈ c.gates.l, g.kind = 1 → inB n g.at_.l = true
  bit : ∀ g ∈ c.gates.l, g.kind = 1 → ∃ p, D g.name = some p ∧ rkN n g.at_.l < p.2.length
def datR (r : Rel) : Str × Int × List (List Int) := (r.name, r.arity, r.tuples.l.map Sl.l)
abbrev DatR := Str × Int × List (List Int)
def HasF (n : Nat) (ds : List DatR) (nm : Str) (r : Nat) : Prop := ∃ d ∈ ds, d.1 = nm ∧ ∃ u ∈ d.2.2, rkN n u = r
def sigD (d : DatR) : Str × Int := (d.1, d.2.1)
def LeB (d d' : List Bool) : Prop := ∀ k : Int, atB d k = true → atB d' k = true
theorem atB_set {i : Nat} {b : Bool} (k : Int) : atB (d.set i b) k = if k.toNat = i ∧ i < d.length then b else atB d k := by
  unfold atB
  rw [List.getD_eq_getElem?_getD, List.getD_eq_getElem?_getD]
  by_cases h : k.toNat = i
  · subst h
    by_cases hl : k.toNat < d.length
    · rw [if_pos ⟨rfl, hl⟩, List.getElem?_set_self hl]; rfl
    · rw [if_neg (fun h => hl h.2), List.set_eq_of_length_le (by omega)]
  · rw [if_neg (fun hh => h hh.1), List.getElem?_set_ne (Ne.symm h)]
theorem LeB.set {d d' : List Bool} (h : LeB d d') (hl : d.length = d'.length) (i : Nat) {b b' : Bool} (hb : b = true → b' = true) : LeB (d.set i b) (d'.set i b') := fun k hk => by
  rw [atB_set] at hk ⊢
  by_cases e : k.toNat = i ∧ i < d.length
  · rw [if_pos e] at hk
    rw [if_pos ⟨e.1, by omega⟩]; exact hb hk
  · rw [if_neg e] at hk
    rw [if_neg (fun hh => e ⟨hh.1, by omega⟩)]; exact h k hk
structure Ge (s s' : Strc) : Prop where
  valid : strcB s' = true
  size : s'.size = s.size
  sig : (s'.rels.l.map datR).map sigD = (s.rels.l.map datR).map sigD
  has : ∀ nm q, HasF s.size.toNat (s.rels.l.map datR) nm q → HasF s.size.toNat (s'.rels.l.map datR) nm q
theorem Ge.at_ {s s' : Strc} (hg : Ge s s') {i : Nat} {r r0 : Rel} (hr : s'.rels.l[i]? = some r) (hr0 : s.rels.l[i]? = some r0) : r.name = r0.name ∧ r.arity = r0.arity := by
  have := congrArg (fun l : List (Str × Int) => l[i]?) hg.sig
  simp only [List.getElem?_map, hr, hr0, Option.map_some, Option.some.injEq] at this
  exact ⟨congrArg Prod.fst this, congrArg Prod.snd this⟩
def setD (D : Str → Option (Nat × List Bool)) (nm : Str) (b : Nat) (d : List Bool) : Str → Option (Nat × List Bool) := fun j => if j = nm then some (b, d) else D j
theorem BitsAt.set {D : Str → Option (Nat × List Bool)} {h : Heap} {B lo : Nat} (H : BitsAt D h B lo) {nm : Str} {p : Nat × List Bool} (hp : D nm = some p) {d : List Bool} (hd : d.length = p.2.length) : BitsAt (setD D nm p.1 d) (h.set p.1 (.cells (d.map bv))) B lo := by
  obtain ⟨es, ck, m, h1, h2, h3⟩ := H.ex
  obtain ⟨k1, k2, k3, k4⟩ := H.blk nm p hp
  refine ⟨⟨es, ck, m, by rw [Heap.get_set, if_neg (Ne.symm k3)]; exact h1, h2, fun j => ?_⟩, fun j q hq => ?_, fun j j' q q' hq hq' hqq => ?_, by rw [Heap.next_set]; exact H.lt⟩
  · rw [h3]; unfold setD
    by_cases e : j = nm
    · subst e; rw [if_pos rfl, hp, Option.map_some, Option.map_some, hd]
    · rw [if_neg e]
  · unfold setD at hq
    by_cases e : j = nm
    · rw [if_pos e] at hq; cases hq
      exact ⟨k1, by rw [Heap.next_set]; exact k2, k3, by rw [Heap.get_set, if_pos rfl]⟩
    · rw [if_neg e] at hq
      obtain ⟨q1, q2, q3, q4⟩ := H.blk j q hq
      exact ⟨q1, by rw [Heap.next_set]; exact q2, q3, by rw [Heap.get_set, if_neg (fun e' => e (H.inj j nm q p hq hp e'))]; exact q4⟩
  · unfold setD at hq hq'
    by_cases e : j = nm
    · by_cases e' : j' = nm
      · rw [e, e']
      · rw [if_pos e] at hq; rw [if_neg e'] at hq'; cases hq
        exact absurd (H.inj nm j' p q' hp hq' hqq).symm e'
    · by_cases e' : j' = nm
      · rw [if_neg e] at hq; rw [if_pos e'] at hq'; cases hq'
        exact absurd (H.inj j nm q p hq hp hqq) e
      · rw [if_neg e] at hq; rw [if_neg e'] at hq'; exact H.inj j j' q q' hq hq' hqq
theorem RunsD.set {n : Nat} {c : Circ} (h : RunsD n D c) (hp : D nm = some p) (hd : d.length = p.2.length) : RunsD n (setD D nm p.1 d) c :=
  ⟨h.len, h.pow, h.in_, fun g hg k1 => by
    obtain ⟨q, q1, q2⟩ := h.bit g hg k1
    unfold setD
    by_cases e : g.name = nm
    · rw [e, hp] at q1; cases q1
      exact ⟨_, if_pos e, by rw [hd]; exact q2⟩
    · exact ⟨q, by rw [if_neg e]; exact q1, q2⟩⟩
theorem BitsAt.look {lo : Nat} (b : BitsAt D h B lo) (hp : D nm = some p) : lookupS .string .nils false (.map B) (.str nm) h = some (.slice p.1 0 p.2.length 1) := by
  obtain ⟨es, ck, m, h1, h2, h3⟩ := b.ex
  rw [lookup_mapA h1 h2, h3, hp]; rfl
theorem Index_enc (hx : x.l.length ≤ big) (hs : s ∈ x.l) (hK : K (.ret (.int .i64 (x.l.idxOf s : Int))) h = true) : Sem TP 145 [encSl encS 1 x, .str s] h K := by
  refine F.slices_Index_S_string_string_sem ?_
  rw [F.slices_Index_S_string_string_eq]
  simp only [AMc, Nat.reduceAdd, Nat.reduceEqDiff, reduceIte]
  refine loopB_range 0 x.l.length (Nat.zero_le _) (fun i e h' => h' = h ∧ e 0 = encSl encS 1 x ∧ e 1 = .str s ∧ e 7 = .int .i64 (x.l.length : Int) ∧ e 8 = .int .i64 (i : Int) ∧ i ≤ x.l.idxOf s) ⟨rfl, rfl, rfl, rfl, rfl, Nat.zero_le _⟩ ?_ ?_
  · rintro i e h' _ hi ⟨rfl, e0, e1, e7, e8, ht⟩ K' hn hx' hr hp'
    have hv : x.l[i]? = some x.l[i] := ZgE hi
    have hlt : x.l.idxOf s < x.l.length := List.idxOf_lt_length_of_mem hs
    rw [F.slices_Index_S_string_string.L0_eq]
    simp only [e0, e1, e7, e8, AMc, Nat.reduceAdd, Nat.reduceEqDiff, reduceIte, lt_true hi, iaS_enc x hi, get_strs hv, str_beq]
    by_cases hq : s = x.l[i]
    · simp only [ZdT hq, cond_t]
      rw [hr, F.slices_Index_S_string_string.L0_r_eq]
      have : x.l.idxOf s = i := by
        refine Nat.le_antisymm ?_ ht
        refine Nat.le_of_not_lt fun h => ?_
        have h2 := List.not_of_lt_findIdx (p := fun a => a == s) (xs := x.l) (i := i) h
        simp [← hq] at h2
      rw [this] at hK; exact hK
    · simp only [ZdF hq, cond_f, succ_i64 hi hx, bindO_some]
      refine hn _ _ ⟨rfl, e0, e1, e7, rfl, ?_⟩
      refine Nat.lt_of_le_of_ne ht fun h => ?_
      have h3 : x.l[x.l.idxOf s] = s := List.getElem_idxOf hlt
      exact hq (by rw [← h3]; congr 1; exact h.symm)
  · rintro e h' ⟨rfl, e0, e1, e7, e8, ht⟩ K' hx'
    have hlt : x.l.idxOf s < x.l.length := List.idxOf_lt_length_of_mem hs
    omega
def placesOf (vars xs : List Str) : List Nat := xs.map fun s => vars.idxOf s
theorem planOf_1 {vars : Sl Str} (hV : h.get V = some (.cells [encSl encS 1 vars])) (hVn : V < h.next) (hall : ∀ s ∈ xs.l, s ∈ vars.l) (hx : xs.l.length ≤ 1000000) (hv : vars.l.length ≤ big)
    (hK : ∀ a h', Own encI 1 h.next h' a ((placesOf vars.l xs.l).map fun (p : Nat) => (p : Int)) → HExt h h' → K (.ret a) h' = true) : Sem TP 144 [encSl encS 1 xs, .ptr V 0] h K := by
  have hxb : xs.l.length ≤ big := by unfold big; omega
  refine F.rules_planOf_1_sem ?_
  rw [F.rules_planOf_1_eq]
  simp only [AMc, Nat.reduceAdd, Nat.reduceEqDiff, reduceIte]
  refine loopB_range 0 xs.l.length (Nat.zero_le _) (fun i e h' => ∃ a, Own encI 1 h.next h' a ((placesOf vars.l (xs.l.take i)).map fun (p : Nat) => (p : Int)) ∧ HExt h h' ∧ e 1 = .ptr V 0 ∧ e 4 = a ∧ e 7 = encSl encS 1 xs ∧ e 8 = .int .i64 (xs.l.length : Int) ∧ e 9 = .int .i64 (i : Int)) ⟨.nils, .nil, HExt.refl _, rfl, rfl, rfl, rfl, rfl⟩ ?_ ?_
  · rintro i e h' _ hi ⟨a, o, qx, e1, e4, e7, e8, e9⟩ K' hn hx' hr hp
    have hs : xs.l[i]? = some xs.l[i] := ZgE hi
    generalize xs.l[i] = s at hs
    have qV : h'.get V = some (.cells [encSl encS 1 vars]) := by rw [qx.get V hVn]; exact hV
    rw [F.rules_planOf_1.L0_eq]
    simp only [e1, e4, e7, e8, e9, AMc, Nat.reduceAdd, Nat.reduceEqDiff, reduceIte, lt_true hi, iaS_enc xs hi, get_strs hs, load_ptr qV]
    refine semCall_true (Index_enc hv (hall s (ZmG hs)) ?_)
    obtain ⟨a2, h2, p1, p2, p3, p4, p5, p6⟩ := o.push len_encI one_encI qx.next (bytes := 8) (by have := List.length_take_le i xs.l; simp only [placesOf, List.length_map]; unfold maxBytes; omega) (vars.l.idxOf s : Int)
    simp only [AMc, Nat.reduceAdd, Nat.reduceEqDiff, reduceIte, e4, row_I, p1, e9, succ_i64 hi hxb]
    refine hn _ _ ⟨a2, ?_, p5 h qx (ZrF _), e1, rfl, e7, e8, rfl⟩
    have : placesOf vars.l (xs.l.take (i + 1)) = placesOf vars.l (xs.l.take i) ++ [vars.l.idxOf s] := by unfold placesOf; rw [List.take_add_one, hs]; simp
    rw [this]; simpa using p2
  · rintro e h' ⟨a, o, qx, e1, e4, e7, e8, e9⟩ K' hx'
    rw [F.rules_planOf_1.L0_eq]
    simp only [e8, e9, AMc, Nat.reduceAdd, Nat.reduceEqDiff, reduceIte, lt_false]
    rw [hx', F.rules_planOf_1.L0_x0_eq]
    rw [ZtL (ZrF _)] at o
    simp only [e4, setV_eq, Nat.reduceEqDiff, reduceIte]
    exact hK a h' o qx
abbrev RW := Option (Nat × List Int)
def RW.av : RW → AV
  | none => .nils
  | some p => .slice p.1 0 p.2.length 1
def RW.l : RW → List Int
  | none => []
  | some p => p.2
def encW (w : RW) : List AV := [w.av]
theorem len_encW (w : RW) : (encW w).length = 1 := rfl
theorem one_encW (w : RW) : oneAll (encW w) = true := by cases w <;> rfl
theorem row_W (w : RW) : rowS [.nils] [(0, 1)] [w.av] = some (encW w) := by cases w <;> rfl
theorem own_rw {l : List Int} (o : Own encI 1 k h a l) : ∃ w : RW, a = w.av ∧ w.l = l ∧ ∀ p, w = some p → k ≤ p.1 ∧ p.1 < h.next ∧ h.get p.1 = some (.cells (p.2.map iv)) := by
  cases o with
  | nil => exact ⟨none, rfl, rfl, fun p hp => by cases hp⟩
  | row b l h1 h2 h3 => exact ⟨some (b, l), rfl, rfl, fun p hp => by cases hp; exact ⟨h1, h2, by rw [map_iv]; exact h3⟩⟩
theorem row_one {enc : α → List AV} (he : ∀ x, (enc x).length = sz) {v : α} (hb : h.get b = some (.cells (enc v))) : Row enc sz h (.slice b 0 1 sz) [v] := by
  refine ⟨rfl, ?_⟩
  have hl : (enc v).length = sz := he v
  simp only [firstS, hb, if_true, List.length_singleton, Nat.one_mul, Nat.zero_add, hl, ZrF, List.drop_zero]
  rw [← hl, List.take_length]; simp
structure Two (k : Nat) (h : Heap) (cW lW : AV) (ws : List RW) (ls : List Int) (held : List RW) : Prop where
  oc : Own encW 1 k h cW ws
  ol : Own encI 1 k h lW ls
  ok : ∀ w ∈ held, ∀ p, w = some p → k ≤ p.1 ∧ p.1 < h.next ∧ h.get p.1 = some (.cells (p.2.map iv)) ∧ blkOf cW ≠ some p.1 ∧ blkOf lW ≠ some p.1
  sep : ∀ b, blkOf cW = some b → blkOf lW ≠ some b
theorem Two.ext {k : Nat} {h h' : Heap} {cW lW : AV} {ws : List RW} {ls : List Int} {held : List RW} (t : Two k h cW lW ws ls held) (hx : HExt h h') : Two k h' cW lW ws ls held :=
  ⟨t.oc.ext hx, t.ol.ext hx, fun w hw p hp => by
    obtain ⟨q1, q2, q3, q4⟩ := t.ok w hw p hp
    exact ⟨q1, Nat.lt_of_lt_of_le q2 hx.next, by rw [hx.get _ q2]; exact q3, q4⟩, t.sep⟩
theorem Two.hold {ws : List RW} {ls : List Int} {held : List RW} (t : Two k h cW lW ws ls held) {w : RW} (hj : ∀ p, w = some p → j ≤ p.1 ∧ k ≤ p.1 ∧ p.1 < h.next ∧ h.get p.1 = some (.cells (p.2.map iv)))
    (hc : ∀ b, blkOf cW = some b → b < j) (hl : ∀ b, blkOf lW = some b → b < j) : Two k h cW lW ws ls (held ++ [w]) :=
  ⟨t.oc, t.ol, fun v hv p hp => by
    rcases List.mem_append.1 hv with hv | hv
    · exact t.ok v hv p hp
    · rw [List.mem_singleton] at hv; subst hv
      obtain ⟨q1, q2, q3, q4⟩ := hj p hp
      exact ⟨q2, q3, q4, fun h => by have := hc _ h; omega, fun h => by have := hl _ h; omega⟩, t.sep⟩
theorem Two.low {ws : List RW} {ls : List Int} {held : List RW} (t : Two k h cW lW ws ls held) {d : Nat} (hd : d < k) (x : AObj) : Two k (h.set d x) cW lW ws ls held :=
  ⟨t.oc.setLow hd x, t.ol.setLow hd x, fun w hw p hp => by
    obtain ⟨q1, q2, q3, q4⟩ := t.ok w hw p hp
    exact ⟨q1, by rw [Heap.next_set]; exact q2, by rw [Heap.get_set, if_neg (by omega)]; exact q3, q4⟩, t.sep⟩
theorem Two.push {ws : List RW} {ls : List Int} {held : List RW} (t : Two k h cW lW ws ls held) (hk : k ≤ h.next) (hw : ws.length ≤ 1000000) (hl : ls.length ≤ 1000000) (w : RW) (x : Int) :
    ∃ c' l' h2 h3, appendS 1 24 cW (.slice h.next 0 1 1) ((h.alloc (.cells (encW w))).alloc (.cells (encI x))) = some (c', h2) ∧ appendS 1 8 lW (.slice (h.next + 1) 0 1 1) h2 = some (l', h3) ∧
      Two k h3 c' l' (ws ++ [w]) (ls ++ [x]) held ∧ (∀ c, c < k → h2.get c = h.get c ∧ h3.get c = h.get c) ∧ h.next ≤ h3.next := by
  have g0 : ((h.alloc (.cells (encW w))).alloc (.cells (encI x))).get h.next = some (.cells (encW w)) := by
    rw [Heap.get_alloc, Heap.next_alloc, if_neg (by omega)]; exact get_alloc_same _ _
  have g1 : ((h.alloc (.cells (encW w))).alloc (.cells (encI x))).get (h.next + 1) = some (.cells (encI x)) := get_alloc_same _ _
  have gx : HExt h ((h.alloc (.cells (encW w))).alloc (.cells (encI x))) := (HExt.alloc _ _).trans (HExt.alloc _ _)
  have gn : ((h.alloc (.cells (encW w))).alloc (.cells (encI x))).next = h.next + 2 := rfl
  generalize ((h.alloc (.cells (encW w))).alloc (.cells (encI x))) = H at g0 g1 gx gn ⊢
  have tH := t.ext gx
  have cge : ∀ b, blkOf cW = some b → k ≤ b ∧ b < h.next := fun b hb => ⟨t.oc.ge hb, t.oc.lt hb⟩
  have lge : ∀ b, blkOf lW = some b → k ≤ b ∧ b < h.next := fun b hb => ⟨t.ol.ge hb, t.ol.lt hb⟩
  obtain ⟨c', h2, p1, p2, p3, p4, p5⟩ := tH.oc.append len_encW one_encW (row_one len_encW g0) (by omega) (bytes := 24) (by simp only [List.length_singleton]; unfold maxBytes; omega)
  have cnew := p5 (by simp)
  have e1 : h2.get (h.next + 1) = some (.cells (encI x)) := by rw [p3 _ (by omega) (fun hb => by have := (cge _ hb).2; omega)]; exact g1
  have ol2 : Own encI 1 k h2 lW ls := by
    have o := tH.ol
    cases o with
    | nil => exact .nil
    | row b l q1 q2 q3 => exact .row b _ q1 (by omega) (by rw [p3 b q2 (fun hb => t.sep b hb rfl)]; exact q3)
  obtain ⟨l', h3, r1, r2, r3, r4, r5⟩ := ol2.append len_encI one_encI (row_one len_encI e1) (by omega) (bytes := 8) (by simp only [List.length_singleton]; unfold maxBytes; omega)
  have lnew := r5 (by simp)
  have oc3 : Own encW 1 k h3 c' (ws ++ [w]) := by
    generalize hL : ws ++ [w] = L at p2
    cases p2 with
    | nil => exact .nil
    | row b l q1 q2 q3 => exact .row b _ q1 (by omega) (by rw [r3 b q2 (fun hb => by have := (lge _ hb).2; have := cnew b rfl; omega)]; exact q3)
  refine ⟨c', l', h2, h3, p1, r1, ⟨oc3, r2, fun v hv p hp => ?_, fun b hb hb' => ?_⟩, fun c hc => ?_, by omega⟩
  · obtain ⟨q1, q2, q3, q4, q5⟩ := t.ok v hv p hp
    have a1 : h2.get p.1 = some (.cells (p.2.map iv)) := by rw [p3 _ (by omega) q4, gx.get _ q2]; exact q3
    refine ⟨q1, by omega, by rw [r3 _ (by omega) q5]; exact a1, fun h => by have := cnew _ h; omega, fun h => by have := lnew _ h; omega⟩
  · have := p2.lt hb
    have := lnew b hb'
    omega
  · have a1 : h2.get c = h.get c := by rw [p3 c (by omega) (fun hb => by have := (cge _ hb).1; omega), gx.get c (by omega)]
    exact ⟨a1, by rw [r3 c (by omega) (fun hb => by have := (lge _ hb).1; omega)]; exact a1⟩
theorem flat_W : ∀ ws : List RW, ws.flatMap encW = ws.map RW.av
  | [] => rfl
  | w :: ws => by rw [List.flatMap_cons, List.map_cons, flat_W ws]; rfl
theorem flat_T : ∀ ws : List RW, (ws.map fun w => (w.map (·.2) : Sl Int)).flatMap encT = ws.map fun w => encSl encI 1 (w.map (·.2))
  | [] => rfl
  | w :: ws => by rw [List.map_cons, List.flatMap_cons, List.map_cons, flat_T ws]; rfl
theorem Two.frz {ws : List RW} {ls : List Int} {held : List RW} (t : Two k h cW lW ws ls held) (hs : ∀ w ∈ ws, w ∈ held) : ∃ x : Sl (Sl Int), x.l.map Sl.l = ws.map RW.l ∧ Fz true h cW (encSl encT 1 x) := by
  have hrow : ∀ w ∈ held, Fz true h w.av (encSl encI 1 (w.map (·.2))) := fun w hw => by
    cases w with
    | none => exact .of_pure rfl
    | some p => exact fz_ints (t.ok _ hw p rfl).2.2.1
  obtain ⟨o, _, _, _⟩ := t
  cases o with
  | nil => exact ⟨none, rfl, .of_pure rfl⟩
  | row b ws h1 h2 h3 =>
    refine ⟨some (ws.map fun w => (w.map (·.2) : Sl Int)), ?_, ?_⟩
    · simp only [Sl.l_some, List.map_map]
      refine List.map_congr_left fun w _ => ?_
      cases w <;> rfl
    · have e1 := flat_W ws
      have e2 := flat_T ws
      rw [e1] at h3
      have hf : Fz true h (.slice b 0 ws.length 1) (.islice (ws.map fun w => encSl encI 1 (w.map (·.2))) 0 ws.length 1) := by
        refine .slice b 0 ws.length 1 _ _ h3 (by simp) fun i x y hx hy => ?_
        rw [List.getElem?_map] at hx hy
        obtain ⟨w, hw, rfl⟩ := Option.map_eq_some_iff.1 hx
        rw [hw] at hy; cases hy
        exact hrow w (hs w (ZmG hw))
      have : encSl encT 1 (some (ws.map fun w => (w.map (·.2) : Sl Int))) = .islice (ws.map fun w => encSl encI 1 (w.map (·.2))) 0 ws.length 1 := by
        simp only [encSl, e2, List.length_map]
      rw [this]; exact hf
def namedB (xs : List Str) : Bool := xs.all nameB && decide (xs.length ≤ 12)
theorem ref07_Named {x : Sl Str} (hx : x.l.length ≤ big) {h : Heap} {K : Out → Heap → Bool} (hK : K (.ret (.bool (namedB x.l))) h = true) : Sem TP 154 [encSl encS 1 x] h K := by
  refine F.ref07_Named_sem ?_
  rw [F.ref07_Named_eq]
  refine loopB_range 0 x.l.length (Nat.zero_le _) (fun i e h' => h' = h ∧ e 0 = encSl encS 1 x ∧ e 3 = .int .i64 (i : Int) ∧ (x.l.take i).all nameB = true) ⟨rfl, rfl, rfl, rfl⟩ ?_ ?_
  · rintro i e h' _ hi ⟨rfl, e0, e3, ht⟩ K' hn hx' hr hp'
    have hv : x.l[i]? = some x.l[i] := ZgE hi
    generalize x.l[i] = s at hv
    rw [F.ref07_Named.L0_eq]
    simp only [e0, e3, AMc, Nat.reduceAdd, Nat.reduceEqDiff, reduceIte, lt_true hi, iaS_enc x hi, get_strs hv]
    refine semCall_true (ref01_Name ?_)
    simp only [AMc, Nat.reduceAdd, Nat.reduceEqDiff, reduceIte]
    cases hq : nameB s with
    | false =>
      simp only [Bool.not_false, cond_t]
      rw [hr, F.ref07_Named.L0_r_eq]
      have : namedB x.l = false := by unfold namedB; rw [all_false hv hq, Bool.false_and]
      rw [this] at hK; exact hK
    | true =>
      simp only [Bool.not_true, cond_f, succ_i64 hi hx, bindO_some]
      exact hn _ _ ⟨rfl, e0, rfl, take_all hv ht hq⟩
  · rintro e h' ⟨rfl, e0, e3, ht⟩ K' hx'
    rw [F.ref07_Named.L0_eq]
    simp only [e0, e3, AMc, Nat.reduceAdd, Nat.reduceEqDiff, reduceIte, lt_false]
    rw [hx', F.ref07_Named.L0_x0_eq]
    simp only [e0, AMc, Nat.reduceAdd, Nat.reduceEqDiff, reduceIte]
    rw [ZtL (ZrF _)] at ht
    have : namedB x.l = decide ((x.l.length : Int) ≤ 12) := by unfold namedB; rw [ht, Bool.true_and]; by_cases h : x.l.length ≤ 12 <;> simp <;> omega
    rw [this] at hK; exact hK
def allV (r : RuleD) : List Str := r.args.l ++ r.body.l.flatMap fun c => c.args.l
theorem addAll_append (o a b : List Str) : addAll o (a ++ b) = addAll (addAll o a) b := by unfold addAll; rw [List.foldl_append]
theorem condVars_flat : ∀ (cs : List CondD) (o : List Str), condVars o cs = addAll o (cs.flatMap fun c => c.args.l)
  | [], o => rfl
  | c :: cs, o => by
    rw [List.flatMap_cons, addAll_append]
    exact condVars_flat cs (addAll o c.args.l)
theorem varsOf_all (r : RuleD) : varsOf r = addAll [] (allV r) := by
  unfold varsOf allV; rw [addAll_append, condVars_flat]
theorem allV_len {r : RuleD} (hf : r.few) (i : Nat) : (r.args.l ++ (r.body.l.take i).flatMap fun c => c.args.l).length ≤ 3000000 := by
  have : ∀ (cs : List CondD), (∀ c ∈ cs, c.args.l.length ≤ 1500) → (cs.flatMap fun c => c.args.l).length ≤ cs.length * 1500 := by
    intro cs
    induction cs with
    | nil => intro _; simp
    | cons c cs ih =>
      intro h
      have h1 := ih fun d hd => h d (List.mem_cons_of_mem _ hd)
      have h2 := h c List.mem_cons_self
      rw [List.flatMap_cons, List.length_append, List.length_cons]; omega
  have h1 := this (r.body.l.take i) fun c hc => hf.2.2 c (List.mem_of_mem_take hc)
  have h2 := List.length_take_le i r.body.l
  have h4 := List.length_take_le' i r.body.l
  have := hf.1; have := hf.2.1
  rw [List.length_append]; omega
theorem ref07_Variables {r : RuleD} (hf : r.few) {h : Heap} {K : Out → Heap → Bool} (hK : ∀ x : Sl Str, x.l = varsOf r → K (.ret (encSl encS 1 x)) h = true) :
    Sem TP 43 [.agg [.str r.name, encSl encS 1 r.args, encSl encCo 4 r.body]] h K := by
  have hbb : r.body.l.length ≤ big := by have := hf.2.1; unfold big; omega
  have main : Sem TP 43 [.agg [.str r.name, encSl encS 1 r.args, encSl encCo 4 r.body]] Heap.empty (fun o h' => yes (∃ v, ∃ x : Sl Str, o = .ret v ∧ x.l = varsOf r ∧ Fz true h' v (encSl encS 1 x))) := by
    refine F.ref07_Variables_sem ?_
    rw [F.ref07_Variables_eq]
    have hb : boxS (.agg [.str r.name, encSl encS 1 r.args, encSl encCo 4 r.body]) = some (encRu r) := box_agg (one_encRu r)
    have hrow : rowS [] [] [] = some [] := rfl
    simp only [hb, hrow, bindO_some, next_empty, Heap.next_alloc]
    have g0 : (Heap.alloc (Heap.alloc Heap.empty (.cells (encRu r))) (.cells [])).get 0 = some (.cells (encRu r)) := by simp [Heap.get_alloc, next_empty]
    have g1 : (Heap.alloc (Heap.alloc Heap.empty (.cells (encRu r))) (.cells [])).get 1 = some (.cells (([] : List Str).flatMap encS)) := by simp [Heap.get_alloc, next_empty]
    have gn : (Heap.alloc (Heap.alloc Heap.empty (.cells (encRu r))) (.cells [])).next = 2 := rfl
    generalize (Heap.alloc (Heap.alloc Heap.empty (.cells (encRu r))) (.cells [])) = H at g0 g1 gn ⊢
    have o0 : Own encS 1 1 H (.slice (0 + 1) 0 0 1) [] := .row 1 [] (ZrF _) (by omega) g1
    obtain ⟨a1, h1, p1, p2, p3, p4, p5⟩ := o0.append len_encS one_encS (row_enc len_encS r.args H) (by omega) (bytes := 16) (by have := hf.1; unfold maxBytes; simp only [List.length_nil]; omega)
    have g0' : h1.get 0 = some (.cells (encRu r)) := by rw [p3 0 (by omega) (fun hb => by simp [blkOf] at hb)]; exact g0
    simp only [AMc, Nat.reduceAdd, Nat.reduceEqDiff, reduceIte, load_ptr g0, encRu]
    simp only [p1, AMc, Nat.reduceAdd, Nat.reduceEqDiff, reduceIte]
    refine loopB_range 0 r.body.l.length (Nat.zero_le _) (fun i e h' => ∃ a, h'.get 0 = some (.cells (encRu r)) ∧ 2 ≤ h'.next ∧ Own encS 1 1 h' a (r.args.l ++ (r.body.l.take i).flatMap fun c => c.args.l) ∧ e 1 = .ptr 0 0 ∧ e 3 = a ∧ e 4 = .int .i64 (i : Int))
      ⟨a1, g0', by omega, by simpa using p2, rfl, rfl, rfl⟩ ?_ ?_
    · rintro i e h' _ hi ⟨a, q0, qn, o, e1, e3, e4⟩ K' hn hx hr hp
      have hv : r.body.l[i]? = some r.body.l[i] := ZgE hi
      generalize r.body.l[i] = c at hv
      have hc := hf.2.2 c (ZmG hv)
      obtain ⟨a2, h2, s1, s2, s3, s4, s5⟩ := o.append len_encS one_encS (row_enc len_encS c.args h') (by omega) (bytes := 16) (by have := allV_len hf i; unfold maxBytes; omega)
      have ld : ∀ j, j < 4 → ∀ h, loadS none (.iptr (r.body.l.flatMap encCo) (i * 4 + j)) h = (encCo c)[j]? := fun j hj h => load_elem len_encCo hv hj
      rw [F.ref07_Variables.L0_eq]
      simp only [e1, e3, e4, AMc, Nat.reduceAdd, Nat.reduceEqDiff, reduceIte, load_ptr q0, encRu, lt_true hi, iaS_enc r.body hi]
      simp only [AMc, Nat.reduceAdd, Nat.reduceEqDiff, reduceIte, Nat.add_assoc, Nat.reduceAdd, ld 3 (by omega), encCo, s1, succ_i64 hi hbb]
      refine hn _ _ ⟨a2, ?_, by omega, ?_, e1, rfl, rfl⟩
      · rw [s3 0 (by omega) (fun hb => by have := o.ge hb; omega)]; exact q0
      · rw [List.take_add_one, hv, List.flatMap_append, ← List.append_assoc]; simpa using s2
    · rintro e h' ⟨a, q0, qn, o, e1, e3, e4⟩ K' hx
      rw [ZtL (ZrF _)] at o
      have hal : (allV r).length ≤ 3000000 := by have := allV_len hf r.body.l.length; rw [ZtL (ZrF _)] at this; exact this
      have hab : (allV r).length ≤ big := by unfold big; omega
      have o' : Own encS 1 1 h' a (allV r) := o
      rw [F.ref07_Variables.L0_eq]
      simp only [e1, e4, AMc, Nat.reduceAdd, Nat.reduceEqDiff, reduceIte, load_ptr q0, encRu, lt_false]
      rw [hx, F.ref07_Variables.L0_x0_eq]
      refine loopB_range 0 (allV r).length (Nat.zero_le _) (fun i e h2 => ∃ b, HExt h' h2 ∧ Own encS 1 h'.next h2 b (addAll [] ((allV r).take i)) ∧ e 3 = a ∧ e 5 = b ∧ e 6 = .int .i64 (i : Int))
        ⟨.nils, HExt.refl _, by simpa [addAll] using Own.nil, by simp only [setV_eq, Nat.reduceEqDiff, reduceIte, e3], rfl, rfl⟩ ?_ ?_
      · rintro i e h2 _ hi ⟨b, x2, ob, e3, e5, e6⟩ K2 hn hx2 hr hp
        have hv : (allV r)[i]? = some (allV r)[i] := ZgE hi
        generalize (allV r)[i] = s at hv
        have oa := o'.ext x2
        obtain ⟨q, _, g1, g2⟩ := own_name oa hv
        have hlb : (addAll [] ((allV r).take i)).length ≤ 3000000 := by
          have h1 := addAll_len ((allV r).take i) []
          have h2 := List.length_take_le' i (allV r)
          simp only [List.length_nil] at h1; omega
        have hcomm : ((addAll [] ((allV r).take i)).any fun x => x == s) = (addAll [] ((allV r).take i)).any fun x => s == x := by
          congr 1; funext x; exact Bool.eq_iff_iff.2 ⟨fun h => by rw [beq_iff_eq] at h ⊢; exact h.symm, fun h => by rw [beq_iff_eq] at h ⊢; exact h.symm⟩
        have hstep := addAll_step (o := []) hv
        unfold addV at hstep
        rw [F.ref07_Variables.L1_eq]
        simp only [e3, e5, e6, oa.len, AMc, Nat.reduceAdd, Nat.reduceEqDiff, reduceIte, lt_true hi, g1, g2]
        refine semCall_true (ref02_Among ob (by unfold big; omega) ?_)
        rw [hcomm]
        simp only [AMc, Nat.reduceAdd, Nat.reduceEqDiff, reduceIte]
        cases hq : (addAll [] ((allV r).take i)).any fun x => s == x with
        | true =>
          rw [hq, if_pos rfl] at hstep
          simp only [Bool.not_true, cond_f, succ_i64 hi hab, bindO_some]
          exact hn _ _ ⟨b, x2, by rw [hstep]; exact ob, e3, e5, rfl⟩
        | false =>
          rw [hq, if_neg (by simp)] at hstep
          obtain ⟨b2, h3, p1, p2, p3, p4, p5, p6⟩ := ob.push len_encS one_encS x2.next (bytes := 16) (by unfold maxBytes; omega) s
          simp only [Bool.not_false, cond_t, e3, e5, e6, g1, g2, AMc, Nat.reduceAdd, Nat.reduceEqDiff, reduceIte, row_S, p1, succ_i64 hi hab]
          exact hn _ _ ⟨b2, p5 h' x2 (ZrF _), by rw [hstep]; exact p2, e3, rfl, rfl⟩
      · rintro e h2 ⟨b, x2, ob, e3, e5, e6⟩ K2 hx2
        have oa := o'.ext x2
        rw [F.ref07_Variables.L1_eq]
        simp only [e3, e6, oa.len, AMc, Nat.reduceAdd, Nat.reduceEqDiff, reduceIte, lt_false]
        rw [hx2, F.ref07_Variables.L1_x2_eq]
        rw [ZtL (ZrF _), ← varsOf_all] at ob
        simp only [setV_eq, Nat.reduceEqDiff, reduceIte, e5]
        obtain ⟨x, hx1, hx2⟩ := ob.frzx (fun v y hy => by
          simp only [encS, List.mem_cons, List.not_mem_nil, or_false] at hy
          subst hy; exact .scalar _ rfl)
        exact yes_eq.2 ⟨b, x, rfl, hx1, hx2⟩
  refine main.frozen (by have := pure_encRu r; simpa [encRu, AV.pureL, AV.pure] using this) fun o h' ho => ?_
  obtain ⟨v, x, rfl, hx, hfz⟩ := yes_eq.1 ho
  exact ⟨v, _, rfl, hfz, hK x hx⟩
def mxI (a b : Int) : Int := if b > a then b else a
theorem fold_mxI (a b : Int) : foldS true (.int .i64 a) [.int .i64 b] = some (.int .i64 (mxI a b)) := by simp [foldS, minmax, mxI]
def lastI (ps : List Nat) : Int := ps.foldl (fun a (p : Nat) => mxI a (p : Int)) (-1)
theorem mem_addV {t : Str} : s ∈ addV o t ↔ s ∈ o ∨ s = t := by
  unfold addV
  split
  · rename_i h
    obtain ⟨x, hx, hq⟩ := List.any_eq_true.1 h
    rw [beq_iff_eq] at hq
    exact ⟨.inl, fun h => h.elim id fun e => by rw [e, hq]; exact hx⟩
  · simp
theorem mem_addAll {s : Str} : ∀ {l o : List Str}, s ∈ addAll o l ↔ s ∈ o ∨ s ∈ l
  | [], o => by simp [addAll]
  | t :: l, o => by
    show s ∈ addAll (addV o t) l ↔ _
    rw [mem_addAll, mem_addV, List.mem_cons, or_assoc]
theorem mem_vars {r : RuleD} : s ∈ varsOf r ↔ s ∈ allV r := by rw [varsOf_all, mem_addAll]; simp
theorem vars_head {r : RuleD} : ∀ s ∈ r.args.l, s ∈ varsOf r := fun s hs => mem_vars.2 (List.mem_append_left _ hs)
theorem vars_cond {r : RuleD} {c : CondD} (hc : c ∈ r.body.l) : ∀ s ∈ c.args.l, s ∈ varsOf r := fun s hs => mem_vars.2 (List.mem_append_right _ (List.mem_flatMap.2 ⟨c, hc, hs⟩))
def placesI (vars xs : List Str) : List Int := (placesOf vars xs).map fun (p : Nat) => (p : Int)
theorem agg_plan (i n : Int) (nm : Str) (xs : Sl Str) (ys : Sl CondD) (w : RW) : aggS [.int .i64 0, .str [], .nils, .nils, .int .i64 0, .nils, .nils, .nils] [(0, 1), (1, 3), (4, 1), (5, 1)] [.int .i64 i, .agg [.str nm, encSl encS 1 xs, encSl encCo 4 ys], .int .i64 n, w.av] = some (.agg [.int .i64 i, .str nm, encSl encS 1 xs, encSl encCo 4 ys, .int .i64 n, w.av, .nils, .nils]) := by
  cases xs <;> cases ys <;> cases w <;> rfl
theorem plan_res (s : St) : resultL TP s Tryz.f102.results.toList = (match loadS (some 8) (s.env 4) s.h, (some [] : Option (List AV)) with | some v, some vs => some (v :: vs) | _, _ => none) := by kernel_rfl
theorem part8 (a b c d e f g i : AV) : partS (some 8) [a, b, c, d, e, f, g, i] 0 = some (.agg [a, b, c, d, e, f, g, i]) := rfl
def planCells (i : Int) (r : RuleD) (n : Int) (hd c l : AV) : List AV := [.int .i64 i, .str r.name, encSl encS 1 r.args, encSl encCo 4 r.body, .int .i64 n, hd, c, l]
theorem one_plan (i : Int) (r : RuleD) (n : Int) (w : RW) {c l : AV} (hc : oneAll [c] = true) (hl : oneAll [l] = true) : oneAll (planCells i r n w.av c l) = true := by
  have hw : w.av.one = true := by cases w <;> rfl
  unfold planCells
  simp only [oneAll, Bool.and_true] at hc hl ⊢
  simp only [one_encSl, hw, hc, hl, Bool.and_true]; rfl
theorem store8 {cs vs : List AV} (hP : h.get P = some (.cells cs)) (hc : cs.length = 8) (hv : vs.length = 8) (h1 : oneAll vs = true) : storeS 8 (.ptr P 0) (.agg vs) h = some (h.set P (.cells vs)) := by
  rw [store_ptr hP (by exact hv) (by exact h1) (by omega)]
  congr 1
  match cs, hc, vs, hv with
  | [a, b, c, d, e, f, g, i], _, [a', b', c', d', e', f', g', i'], _ => rfl
set_option maxHeartbeats 2000000 in
theorem rules_planOf {i0 : Int} {r : RuleD} (hf : r.few) {h : Heap} {K : Out → Heap → Bool}
    (hK : ∀ (hd : Sl Int) (cs : Sl (Sl Int)) (ls : Sl Int), hd.l = placesI (varsOf r) r.args.l → cs.l.map Sl.l = r.body.l.map (fun c => placesI (varsOf r) c.args.l) → ls.l = r.body.l.map (fun c => lastI (placesOf (varsOf r) c.args.l)) →
      K (.ret (.agg (planCells i0 r (varsOf r).length (encSl encI 1 hd) (encSl encT 1 cs) (encSl encI 1 ls)))) h = true) :
    Sem TP 102 [.int .i64 i0, .agg [.str r.name, encSl encS 1 r.args, encSl encCo 4 r.body]] h K := by
  have hbb : r.body.l.length ≤ big := by have := hf.2.1; unfold big; omega
  have hvl : (varsOf r).length ≤ 3000000 := by have := vars_pre hf r.body.l.length; rw [ZtL (ZrF _)] at this; exact this
  have gen : ∀ R : Out → Heap → Bool, (∀ (h' : Heap) (hdW : RW) (cW lW : AV) (cs : Sl (Sl Int)) (ls : Sl Int), Fz true h' hdW.av (encSl encI 1 (hdW.map (·.2))) → hdW.l = placesI (varsOf r) r.args.l → Fz true h' cW (encSl encT 1 cs) → Fz true h' lW (encSl encI 1 ls) →
      cs.l.map Sl.l = r.body.l.map (fun c => placesI (varsOf r) c.args.l) → ls.l = r.body.l.map (fun c => lastI (placesOf (varsOf r) c.args.l)) → R (.ret (.agg (planCells i0 r (varsOf r).length hdW.av cW lW))) h' = true) →
      Sem TP 102 [.int .i64 i0, .agg [.str r.name, encSl encS 1 r.args, encSl encCo 4 r.body]] Heap.empty R := by
    intro R fin
    refine F.rules_planOf_sem ?_
    rw [F.rules_planOf_eq]
    have hb : boxS (.agg [.str r.name, encSl encS 1 r.args, encSl encCo 4 r.body]) = some (encRu r) := box_agg (one_encRu r)
    simp only [hb, bindO_some, next_empty, Heap.next_alloc]
    have g0 : (Heap.alloc (Heap.alloc Heap.empty (.cells (encRu r))) (.cells [.int .i64 0, .str [], .nils, .nils, .int .i64 0, .nils, .nils, .nils])).get 0 = some (.cells (encRu r)) := by simp [Heap.get_alloc, next_empty]
    have g1 : (Heap.alloc (Heap.alloc Heap.empty (.cells (encRu r))) (.cells [.int .i64 0, .str [], .nils, .nils, .int .i64 0, .nils, .nils, .nils])).get 1 = some (.cells [.int .i64 0, .str [], .nils, .nils, .int .i64 0, .nils, .nils, .nils]) := by simp [Heap.get_alloc, next_empty]
    have gn : (Heap.alloc (Heap.alloc Heap.empty (.cells (encRu r))) (.cells [.int .i64 0, .str [], .nils, .nils, .int .i64 0, .nils, .nils, .nils])).next = 2 := rfl
    generalize (Heap.alloc (Heap.alloc Heap.empty (.cells (encRu r))) (.cells [.int .i64 0, .str [], .nils, .nils, .int .i64 0, .nils, .nils, .nils])) = H at g0 g1 gn ⊢
    simp only [load_ptr g0, encRu, part3_3, bindO_some]
    refine semCall_true (rules_Variables hf fun x hx1 => ?_)
    have hxb : x.l.length ≤ big := by rw [hx1]; unfold big; omega
    obtain ⟨H3, hs3, k2, ko, kn⟩ := store_new1 (h := H) (z := .nils) (v := encSl encS 1 x) (by cases x <;> rfl) (by simp only [oneAll, one_encSl]; rfl)
    have q0 : H3.get 0 = some (.cells (encRu r)) := by rw [ko 0 (by omega)]; exact g0
    have q1 : H3.get 1 = some (.cells [.int .i64 0, .str [], .nils, .nils, .int .i64 0, .nils, .nils, .nils]) := by rw [ko 1 (by omega)]; exact g1
    rw [gn] at hs3 k2
    simp only [AMc, Nat.reduceAdd, Nat.reduceEqDiff, reduceIte, gn, hs3]
    simp only [AMc, Nat.reduceAdd, Nat.reduceEqDiff, reduceIte, load_ptr q0, load_ptr k2, encRu, part3_3, show H3.next = 3 by omega]
    have gx := HExt.alloc H3 (.cells [.int .i64 0, .str [], .nils, .nils, .int .i64 0, .nils, .nils, .nils])
    have g3 : (H3.alloc (.cells [.int .i64 0, .str [], .nils, .nils, .int .i64 0, .nils, .nils, .nils])).get 3 = some (.cells [.int .i64 0, .str [], .nils, .nils, .int .i64 0, .nils, .nils, .nils]) := by
      have := get_alloc_same H3 (.cells [.int .i64 0, .str [], .nils, .nils, .int .i64 0, .nils, .nils, .nils]); rw [show H3.next = 3 by omega] at this; exact this
    have gn3 : (H3.alloc (.cells [.int .i64 0, .str [], .nils, .nils, .int .i64 0, .nils, .nils, .nils])).next = 4 := by rw [Heap.next_alloc]; omega
    generalize (H3.alloc (.cells [.int .i64 0, .str [], .nils, .nils, .int .i64 0, .nils, .nils, .nils])) = H4 at gx g3 gn3 ⊢
    have p0 : H4.get 0 = some (.cells (encRu r)) := by rw [gx.get 0 (by omega)]; exact q0
    have p1 : H4.get 1 = some (.cells [.int .i64 0, .str [], .nils, .nils, .int .i64 0, .nils, .nils, .nils]) := by rw [gx.get 1 (by omega)]; exact q1
    have p2 : H4.get 2 = some (.cells [encSl encS 1 x]) := by rw [gx.get 2 (by omega)]; exact k2
    refine semCall_true (planOf_1 p2 (by omega) (fun s hs => by rw [hx1]; exact vars_head s hs) (by have := hf.1; omega) hxb fun a h5 oa x5 => ?_)
    rw [gn3] at oa
    obtain ⟨hdW, rfl, hdl, hdk⟩ := own_rw oa
    have r0 : h5.get 0 = some (.cells (encRu r)) := by rw [x5.get 0 (by omega)]; exact p0
    have r1 : h5.get 1 = some (.cells [.int .i64 0, .str [], .nils, .nils, .int .i64 0, .nils, .nils, .nils]) := by rw [x5.get 1 (by omega)]; exact p1
    have r2 : h5.get 2 = some (.cells [encSl encS 1 x]) := by rw [x5.get 2 (by omega)]; exact p2
    have r3 : h5.get 3 = some (.cells [.int .i64 0, .str [], .nils, .nils, .int .i64 0, .nils, .nils, .nils]) := by rw [x5.get 3 (by omega)]; exact g3
    have rn := x5.next
    have hst := store8 (vs := planCells i0 r (varsOf r).length hdW.av .nils .nils) r3 rfl rfl (one_plan _ _ _ _ rfl rfl)
    have hag := agg_plan i0 (varsOf r).length r.name r.args r.body hdW
    rw [← hx1] at hst hag
    simp only [AMc, Nat.reduceAdd, Nat.reduceEqDiff, reduceIte, load_ptr r0, load_ptr r2, encRu, part3_3, AV.beq_refl, Bool.and_self, Bool.and_true, if_true, hag]
    simp only [planCells] at hst
    simp only [hst, AMc, Nat.reduceAdd, Nat.reduceEqDiff, reduceIte]
    have t0 : Two 4 (h5.set 3 (.cells (planCells i0 r x.l.length hdW.av .nils .nils))) .nils .nils [] [] [hdW] :=
      (Two.low ⟨.nil, .nil, fun w hw p hp => by
        rw [List.mem_singleton] at hw; subst hw
        obtain ⟨a1, a2, a3⟩ := hdk p hp
        exact ⟨a1, a2, a3, by simp [blkOf], by simp [blkOf]⟩, fun b hb => by simp [blkOf] at hb⟩ (by omega) _)
    have s0 : (h5.set 3 (.cells (planCells i0 r x.l.length hdW.av .nils .nils))).get 0 = some (.cells (encRu r)) := by rw [Heap.get_set, if_neg (by omega)]; exact r0
    have s1 : (h5.set 3 (.cells (planCells i0 r x.l.length hdW.av .nils .nils))).get 1 = some (.cells [.int .i64 0, .str [], .nils, .nils, .int .i64 0, .nils, .nils, .nils]) := by rw [Heap.get_set, if_neg (by omega)]; exact r1
    have s2 : (h5.set 3 (.cells (planCells i0 r x.l.length hdW.av .nils .nils))).get 2 = some (.cells [encSl encS 1 x]) := by rw [Heap.get_set, if_neg (by omega)]; exact r2
    have s3 : (h5.set 3 (.cells (planCells i0 r x.l.length hdW.av .nils .nils))).get 3 = some (.cells (planCells i0 r x.l.length hdW.av .nils .nils)) := by rw [Heap.get_set, if_pos rfl]
    have sn : (h5.set 3 (.cells (planCells i0 r x.l.length hdW.av .nils .nils))).next = h5.next := Heap.next_set _ _ _
    simp only [planCells] at t0 s0 s1 s2 s3 sn
    generalize (h5.set 3 (.cells [.int .i64 i0, .str r.name, encSl encS 1 r.args, encSl encCo 4 r.body, .int .i64 (x.l.length : Int), hdW.av, .nils, .nils])) = H6 at t0 s0 s1 s2 s3 sn ⊢
    simp only [load_ptr s0, encRu, AMc, Nat.reduceAdd, Nat.reduceEqDiff, reduceIte]
    refine loopB_range 0 r.body.l.length (Nat.zero_le _) (fun i e h' => ∃ cW lW ws ls, Two 4 h' cW lW ws ls (hdW :: ws) ∧ ws.map RW.l = (r.body.l.take i).map (fun c => placesI (varsOf r) c.args.l) ∧ ls = (r.body.l.take i).map (fun c => lastI (placesOf (varsOf r) c.args.l)) ∧
      h'.get 1 = some (.cells [.int .i64 0, .str [], .nils, .nils, .int .i64 0, .nils, .nils, .nils]) ∧ h'.get 2 = some (.cells [encSl encS 1 x]) ∧ h'.get 3 = some (.cells [.int .i64 i0, .str r.name, encSl encS 1 r.args, encSl encCo 4 r.body, .int .i64 (x.l.length : Int), hdW.av, cW, lW]) ∧ 4 ≤ h'.next ∧
      e 4 = .ptr 1 0 ∧ e 6 = .func 144 [] [.ptr 2 0] ∧ e 7 = .ptr 3 0 ∧ e 28 = encSl encCo 4 r.body ∧ e 29 = .int .i64 (r.body.l.length : Int) ∧ e 30 = .int .i64 (i : Int))
      ⟨.nils, .nils, [], [], t0, rfl, rfl, s1, s2, s3, by omega, rfl, rfl, rfl, rfl, rfl, rfl⟩ ?_ ?_
    · rintro i e h' _ hi ⟨cW, lW, ws, ls, tw, hws, hls, u1, u2, u3, un, e4, e6, e7, e28, e29, e30⟩ K' hn hx hr hp
      have hv : r.body.l[i]? = some r.body.l[i] := ZgE hi
      generalize r.body.l[i] = c at hv
      have hcm := ZmG hv
      have hc15 := hf.2.2 c hcm
      obtain ⟨H2, hs2, c1, co, cn⟩ := store_new (h := h') (zs := [.int .i64 0, .bool false, .str [], .nils]) (cs := encCo c) (n := 4) rfl rfl (one_encCo c)
      have x2 : HExt h' H2 := ⟨by omega, fun b hb => co b (by omega)⟩
      rw [F.rules_planOf.L0_eq]
      simp only [e6, e28, e29, e30, AMc, Nat.reduceAdd, Nat.reduceEqDiff, reduceIte, lt_true hi, iaS_enc r.body hi, load_agg len_encCo hv, hs2]
      simp only [AMc, Nat.reduceAdd, Nat.reduceEqDiff, reduceIte, load_ptr c1, encCo, callV_func, List.nil_append, List.cons_append]
      refine semCall_true (planOf_1 (xs := c.args) (by rw [x2.get 2 (by omega)]; exact u2) (by omega) (fun s hs => by rw [hx1]; exact vars_cond hcm s hs) (by omega) hxb fun a h3 oa x3 => ?_)
      rw [hx1] at oa
      obtain ⟨w, rfl, hwl, hwk⟩ := own_rw oa
      have x23 := x2.trans x3
      have tw3 := tw.ext x23
      have v1 : h3.get 1 = some (.cells [.int .i64 0, .str [], .nils, .nils, .int .i64 0, .nils, .nils, .nils]) := by rw [x23.get 1 (by omega)]; exact u1
      have v2 : h3.get 2 = some (.cells [encSl encS 1 x]) := by rw [x23.get 2 (by omega)]; exact u2
      have v3 : h3.get 3 = some (.cells [.int .i64 i0, .str r.name, encSl encS 1 r.args, encSl encCo 4 r.body, .int .i64 (x.l.length : Int), hdW.av, cW, lW]) := by rw [x23.get 3 (by omega)]; exact u3
      have vn := x23.next
      have twh : Two 4 h3 cW lW ws ls (hdW :: ws ++ [w]) := tw3.hold (j := H2.next) (fun p hp => by
        obtain ⟨a1, a2, a3⟩ := hwk p hp
        exact ⟨a1, by omega, a2, a3⟩) (fun b hb => by have := tw.oc.lt hb; omega) (fun b hb => by have := tw.ol.lt hb; omega)
      have hpl : (placesOf (varsOf r) c.args.l).length ≤ big := by unfold placesOf big; rw [List.length_map]; omega
      have hlen : ∀ h, lenS .slice w.av h = some (.int .i64 ((placesOf (varsOf r) c.args.l).length : Int)) := fun h => by rw [oa.len]; simp
      simp only [AMc, Nat.reduceAdd, Nat.reduceEqDiff, reduceIte, hlen]
      refine loopB_range 0 (placesOf (varsOf r) c.args.l).length (Nat.zero_le _) (fun j e h2 => h2 = h3 ∧ e 4 = .ptr 1 0 ∧ e 6 = .func 144 [] [.ptr 2 0] ∧ e 7 = .ptr 3 0 ∧ e 28 = encSl encCo 4 r.body ∧ e 29 = .int .i64 (r.body.l.length : Int) ∧ e 30 = .int .i64 (i : Int) ∧
        e 10 = w.av ∧ e 11 = .int .i64 (lastI ((placesOf (varsOf r) c.args.l).take j)) ∧ e 39 = w.av ∧ e 40 = .int .i64 ((placesOf (varsOf r) c.args.l).length : Int) ∧ e 41 = .int .i64 (j : Int)) ⟨rfl, e4, e6, e7, e28, e29, e30, rfl, rfl, rfl, rfl, rfl⟩ ?_ ?_
      · rintro j e h2 _ hj ⟨rfl, e4, e6, e7, e28, e29, e30, e10, e11, e39, e40, e41⟩ K2 hn2 hx2 hr2 hp2
        have hpj : (placesOf (varsOf r) c.args.l)[j]? = some (placesOf (varsOf r) c.args.l)[j] := ZgE hj
        generalize (placesOf (varsOf r) c.args.l)[j] = p at hpj
        have hpi : ((placesOf (varsOf r) c.args.l).map fun (p : Nat) => (p : Int))[j]? = some (p : Int) := by rw [List.getElem?_map, hpj]; rfl
        obtain ⟨b, _, _, i1, _, i3⟩ := oa.get len_encI hpi
        have i3' : loadS none (.ptr b (j * 1)) h2 = some (.int .i64 (p : Int)) := i3 0 (by omega)
        rw [F.rules_planOf.L1_eq]
        simp only [e11, e39, e40, e41, AMc, Nat.reduceAdd, Nat.reduceEqDiff, reduceIte, lt_true hj, i1, i3', fold_mxI, succ_i64 hj hpl]
        refine hn2 _ _ ⟨rfl, e4, e6, e7, e28, e29, e30, e10, ?_, e39, e40, rfl⟩
        have : lastI ((placesOf (varsOf r) c.args.l).take (j + 1)) = mxI (lastI ((placesOf (varsOf r) c.args.l).take j)) (p : Int) := by unfold lastI; rw [List.take_add_one, hpj]; simp
        rw [this]; rfl
      · rintro e h2 ⟨rfl, e4, e6, e7, e28, e29, e30, e10, e11, e39, e40, e41⟩ K2 hx2
        rw [ZtL (ZrF _)] at e11
        have hwsl : ws.length ≤ 1500 := by have h1 := congrArg List.length hws; simp only [List.length_map] at h1; have h2 := List.length_take_le' i r.body.l; have := hf.2.1; omega
        have hlsl : ls.length ≤ 1500 := by rw [hls, List.length_map]; have h2 := List.length_take_le' i r.body.l; have := hf.2.1; omega
        obtain ⟨c', l', m2, m3, t1, t2, t3, t4, t5⟩ := twh.push (by omega) (by omega) (by omega) w (lastI (placesOf (varsOf r) c.args.l))
        have y3 : m2.get 3 = some (.cells [.int .i64 i0, .str r.name, encSl encS 1 r.args, encSl encCo 4 r.body, .int .i64 (x.l.length : Int), hdW.av, cW, lW]) := by rw [(t4 3 (by omega)).1]; exact v3
        have z3 : m3.get 3 = some (.cells [.int .i64 i0, .str r.name, encSl encS 1 r.args, encSl encCo 4 r.body, .int .i64 (x.l.length : Int), hdW.av, cW, lW]) := by rw [(t4 3 (by omega)).2]; exact v3
        obtain ⟨w1, w2⟩ := own_cell t3.oc
        obtain ⟨w3, w4⟩ := own_cell t3.ol
        have st1 : storeS 1 (.ptr 3 6) c' m3 = some (m3.set 3 (.cells [.int .i64 i0, .str r.name, encSl encS 1 r.args, encSl encCo 4 r.body, .int .i64 (x.l.length : Int), hdW.av, c', lW])) := by
          rw [store_ptr (n := 1) z3 (by rw [w1]; rfl) (by rw [w1]; exact w2) (by simp), w1]; rfl
        have z4 : (m3.set 3 (.cells [.int .i64 i0, .str r.name, encSl encS 1 r.args, encSl encCo 4 r.body, .int .i64 (x.l.length : Int), hdW.av, c', lW])).get 3 = some (.cells [.int .i64 i0, .str r.name, encSl encS 1 r.args, encSl encCo 4 r.body, .int .i64 (x.l.length : Int), hdW.av, c', lW]) := by rw [Heap.get_set, if_pos rfl]
        have st2 : storeS 1 (.ptr 3 7) l' (m3.set 3 (.cells [.int .i64 i0, .str r.name, encSl encS 1 r.args, encSl encCo 4 r.body, .int .i64 (x.l.length : Int), hdW.av, c', lW])) = some ((m3.set 3 (.cells [.int .i64 i0, .str r.name, encSl encS 1 r.args, encSl encCo 4 r.body, .int .i64 (x.l.length : Int), hdW.av, c', lW])).set 3 (.cells [.int .i64 i0, .str r.name, encSl encS 1 r.args, encSl encCo 4 r.body, .int .i64 (x.l.length : Int), hdW.av, c', l'])) := by
          rw [store_ptr (n := 1) z4 (by rw [w3]; rfl) (by rw [w3]; exact w4) (by simp), w3]; rfl
        rw [F.rules_planOf.L1_eq]
        simp only [e40, e41, AMc, Nat.reduceAdd, Nat.reduceEqDiff, reduceIte, lt_false]
        rw [hx2, F.rules_planOf.L1_x2_eq]
        simp only [e7, e10, e11, e30, AMc, Nat.reduceAdd, Nat.reduceEqDiff, reduceIte, load_ptr v3, row_W, row_I, Heap.next_alloc]
        rw [load_ptr (r := none) (o := 7) (h := (Heap.alloc h2 (.cells (encW w)))) (cs := [.int .i64 i0, .str r.name, encSl encS 1 r.args, encSl encCo 4 r.body, .int .i64 (x.l.length : Int), hdW.av, cW, lW]) (by rw [Heap.get_alloc, if_neg (by omega)]; exact v3)]
        simp only [AMc, Nat.reduceAdd, Nat.reduceEqDiff, reduceIte, row_I, Heap.next_alloc, t1, load_ptr y3, AV.beq_refl, Bool.and_self, if_true, t2, st1, st2, succ_i64 hi hbb]
        refine hn _ _ ⟨c', l', ws ++ [w], ls ++ [lastI (placesOf (varsOf r) c.args.l)], (t3.low (by omega) _).low (by omega) _, ?_, ?_, ?_, ?_, by rw [Heap.get_set, if_pos rfl], by rw [Heap.next_set, Heap.next_set]; omega, e4, e6, e7, e28, e29, rfl⟩
        · rw [List.map_append, hws, List.take_add_one, hv, List.map_append]
          simp only [List.map_cons, List.map_nil, Option.toList_some]
          rw [hwl]; rfl
        · rw [hls, List.take_add_one, hv, List.map_append]; rfl
        · rw [Heap.get_set, if_neg (by omega), Heap.get_set, if_neg (by omega), (t4 1 (by omega)).2]; exact v1
        · rw [Heap.get_set, if_neg (by omega), Heap.get_set, if_neg (by omega), (t4 2 (by omega)).2]; exact v2
    · rintro e h' ⟨cW, lW, ws, ls, tw, hws, hls, u1, u2, u3, un, e4, e6, e7, e28, e29, e30⟩ K' hx
      rw [ZtL (ZrF _)] at hws hls
      obtain ⟨_, w2⟩ := own_cell tw.oc
      obtain ⟨_, w4⟩ := own_cell tw.ol
      have hst2 := store8 (vs := planCells i0 r x.l.length hdW.av cW lW) u1 rfl rfl (one_plan _ _ _ _ w2 w4)
      simp only [planCells] at hst2
      rw [F.rules_planOf.L0_eq]
      simp only [e29, e30, AMc, Nat.reduceAdd, Nat.reduceEqDiff, reduceIte, lt_false]
      rw [hx, F.rules_planOf.L0_x0_eq]
      simp only [e4, e7, AMc, Nat.reduceAdd, Nat.reduceEqDiff, reduceIte, load_ptr u3, part8, hst2, plan_res]
      have tf := tw.low (by omega : 1 < 4) (.cells [.int .i64 i0, .str r.name, encSl encS 1 r.args, encSl encCo 4 r.body, .int .i64 (x.l.length : Int), hdW.av, cW, lW])
      have gf : (h'.set 1 (.cells [.int .i64 i0, .str r.name, encSl encS 1 r.args, encSl encCo 4 r.body, .int .i64 (x.l.length : Int), hdW.av, cW, lW])).get 1 = some (.cells [.int .i64 i0, .str r.name, encSl encS 1 r.args, encSl encCo 4 r.body, .int .i64 (x.l.length : Int), hdW.av, cW, lW]) := by rw [Heap.get_set, if_pos rfl]
      simp only [setV_eq, Nat.reduceEqDiff, reduceIte, e4, load_ptr gf, part8, bindO_some, oneOf]
      obtain ⟨cs, cs1, cs2⟩ := tf.frz (fun w hw => List.mem_cons_of_mem _ hw)
      obtain ⟨lx, lx1, lx2⟩ := tf.ol.frzx (fun v y hy => by
        simp only [encI, List.mem_cons, List.not_mem_nil, or_false] at hy
        subst hy; exact .scalar _ rfl)
      have hfz : Fz true (h'.set 1 (.cells [.int .i64 i0, .str r.name, encSl encS 1 r.args, encSl encCo 4 r.body, .int .i64 (x.l.length : Int), hdW.av, cW, lW])) hdW.av (encSl encI 1 (hdW.map (·.2))) := by
        cases hdW with
        | none => exact .of_pure rfl
        | some p => exact fz_ints (tf.ok _ List.mem_cons_self p rfl).2.2.1
      have := fin _ hdW cW lW cs lx hfz (by rw [← hx1]; exact hdl) cs2 lx2 (by rw [cs1, hws]) (by rw [lx1, hls])
      rw [← hx1] at this
      exact this
  have main := gen (fun o h' => yes (∃ (hdW : RW) (cW lW : AV) (cs : Sl (Sl Int)) (ls : Sl Int), o = .ret (.agg (planCells i0 r (varsOf r).length hdW.av cW lW)) ∧ Fz true h' hdW.av (encSl encI 1 (hdW.map (·.2))) ∧ hdW.l = placesI (varsOf r) r.args.l ∧ Fz true h' cW (encSl encT 1 cs) ∧ Fz true h' lW (encSl encI 1 ls) ∧
      cs.l.map Sl.l = r.body.l.map (fun c => placesI (varsOf r) c.args.l) ∧ ls.l = r.body.l.map (fun c => lastI (placesOf (varsOf r) c.args.l)))) (fun h' hdW cW lW cs ls f1 f2 f3 f4 f5 f6 => yes_eq.2 ⟨hdW, cW, lW, cs, ls, rfl, f1, f2, f3, f4, f5, f6⟩)
  refine main.frozen (by have := pure_encRu r; simpa [encRu, AV.pureL, AV.pure] using this) fun o h' ho => ?_
  obtain ⟨hdW, cW, lW, cs, ls, rfl, f1, f2, f3, f4, f5, f6⟩ := yes_eq.1 ho
  have fl : FzL true h' (planCells i0 r (varsOf r).length hdW.av cW lW) (planCells i0 r (varsOf r).length (encSl encI 1 (hdW.map (·.2))) (encSl encT 1 cs) (encSl encI 1 ls)) :=
    .cons (.scalar _ rfl) (.cons (.scalar _ rfl) (.cons (.of_pure (pure_encSl pure_encS _)) (.cons (.of_pure (pure_encSl pure_encCo _)) (.cons (.scalar _ rfl) (.cons f1 (.cons f3 (.cons f4 .nil)))))))
  exact ⟨_, _, rfl, .agg _ _ fl.len fl.rel, hK (hdW.map (·.2)) cs ls (by rw [← f2]; cases hdW <;> rfl) f5 f6⟩
structure AskOk (n : Nat) (D : Str → Option (Nat × List Bool)) (r : RuleD) : Prop where
  rel : ∀ c ∈ r.body.l, c.kind = 0 → n ^ c.args.l.length ≤ 4096 ∧ ∃ p, D c.name = some p ∧ p.2.length = n ^ c.args.l.length
  two : ∀ c ∈ r.body.l, c.kind = 1 ∨ c.kind = 2 → c.args.l.length = 2
  kinds : ∀ c ∈ r.body.l, c.kind = 0 ∨ c.kind = 1 ∨ c.kind = 2
  arity : ∀ c ∈ r.body.l, c.args.l.length ≤ 12
structure Cells (S n k : Nat) (N0 N1 N2 N4 N5 N6 V base : Nat) (i0 : Int) (r : RuleD) (hd : Sl Int) (cs : Sl (Sl Int)) (ls : Sl Int) (g : FuncId) (ga gb : List AV) (h : Heap) : Prop where
  h0 : h.get N0 = some (.cells [.ptr S 0])
  h1 : h.get N1 = some (.cells (planCells i0 r k (encSl encI 1 hd) (encSl encT 1 cs) (encSl encI 1 ls)))
  h2 : h.get N2 = some (.cells [.func g ga gb])
  h4 : h.get N4 = some (.cells [.slice V 0 k 1])
  h5 : h.get N5 = some (.cells [.func 157 [] [.ptr N1 0, .ptr N0 0, .ptr N4 0]])
  h6 : h.get N6 = some (.cells [.func 159 [] [.ptr N1 0, .ptr N2 0, .ptr N4 0, .ptr N0 0, .ptr N5 0, .ptr N6 0]])
  lo : base ≤ N0 ∧ base ≤ N1 ∧ base ≤ N2 ∧ base ≤ N4 ∧ base ≤ N5 ∧ base ≤ N6 ∧ base ≤ V
  hi : N0 < h.next ∧ N1 < h.next ∧ N2 < h.next ∧ N4 < h.next ∧ N5 < h.next ∧ N6 < h.next ∧ V < h.next
  ne : N0 ≠ V ∧ N1 ≠ V ∧ N2 ≠ V ∧ N4 ≠ V ∧ N5 ≠ V ∧ N6 ≠ V
theorem Cells.keep {S n N0 N1 N2 N4 N5 N6 base : Nat} {i0 : Int} {r : RuleD} {hd : Sl Int} {cs : Sl (Sl Int)} {ls : Sl Int} {ga gb : List AV} (c : Cells S n k N0 N1 N2 N4 N5 N6 V base i0 r hd cs ls g ga gb h) (hb : ∀ b, base ≤ b → b < h.next → b ≠ V → h'.get b = h.get b) (hn : h.next ≤ h'.next) :
    Cells S n k N0 N1 N2 N4 N5 N6 V base i0 r hd cs ls g ga gb h' := by
  obtain ⟨h0, h1, h2, h4, h5, h6, ⟨l0, l1, l2, l4, l5, l6, lv⟩, ⟨i0', i1, i2, i4, i5, i6, iv'⟩, ⟨n0, n1, n2, n4, n5, n6⟩⟩ := c
  exact ⟨by rw [hb _ l0 i0' n0]; exact h0, by rw [hb _ l1 i1 n1]; exact h1, by rw [hb _ l2 i2 n2]; exact h2, by rw [hb _ l4 i4 n4]; exact h4, by rw [hb _ l5 i5 n5]; exact h5, by rw [hb _ l6 i6 n6]; exact h6,
    ⟨l0, l1, l2, l4, l5, l6, lv⟩, ⟨by omega, by omega, by omega, by omega, by omega, by omega, by omega⟩, ⟨n0, n1, n2, n4, n5, n6⟩⟩
abbrev DB := Str → Option (Nat × List Bool)
def SameDim (D D0 : DB) : Prop := ∀ nm, (D nm).map (fun p => (p.1, p.2.length)) = (D0 nm).map (fun p => (p.1, p.2.length))
theorem SameDim.get {D D0 : DB} (h : SameDim D D0) {p0 : Nat × List Bool} (h0 : D0 nm = some p0) : ∃ p, D nm = some p ∧ p.1 = p0.1 ∧ p.2.length = p0.2.length := by
  have := h nm
  rw [h0] at this
  cases hd : D nm with
  | none => rw [hd] at this; cases this
  | some p =>
    rw [hd] at this
    simp only [Option.map_some, Option.some.injEq, Prod.mk.injEq] at this
    exact ⟨p, rfl, this.1, this.2⟩
theorem SameDim.back {D D0 : DB} (h : SameDim D D0) (hp : D nm = some p) : ∃ p0, D0 nm = some p0 ∧ p.1 = p0.1 ∧ p.2.length = p0.2.length := by
  have := h nm
  rw [hp] at this
  cases hd : D0 nm with
  | none => rw [hd] at this; cases this
  | some p0 =>
    rw [hd] at this
    simp only [Option.map_some, Option.some.injEq, Prod.mk.injEq] at this
    exact ⟨p0, rfl, this.1, this.2⟩
theorem SameDim.set {D D0 : DB} (h : SameDim D D0) (hp : D nm = some p) (hd : d.length = p.2.length) : SameDim (setD D nm p.1 d) D0 := fun j => by
  rw [← h j]
  unfold setD
  by_cases e : j = nm
  · rw [if_pos e, e, hp, Option.map_some, Option.map_some, hd]
  · rw [if_neg e]
structure SolAbs (S B n lo base P3 P5 P6 PL : Nat) (D0 : DB) (r : RuleD) (i0 : Int) (k : Nat) (hd : Sl Int) (cs : Sl (Sl Int)) (ls : Sl Int) (ng : FuncId) (na nb : List AV) (h0 : Heap) (s : DB × Bool) (h : Heap) : Prop where
  hS : h.get S = some (.cells [.int .i64 (n : Int), .map B])
  hD : BitsAt s.1 h B lo
  dim : SameDim s.1 D0
  h3 : h.get P3 = some (.cells [.ptr S 0])
  h5 : h.get P5 = some (.cells [.func ng na nb])
  h6 : h.get P6 = some (.cells [.bool s.2])
  hL : h.get PL = some (.cells (planCells i0 r k (encSl encI 1 hd) (encSl encT 1 cs) (encSl encI 1 ls)))
  lt : base ≤ h.next
  old : ∀ b, b < base → b ≠ P6 → (∀ nm p, D0 nm = some p → b ≠ p.1) → h.get b = h0.get b
structure SolOk (S B n lo base P3 P5 P6 PL : Nat) (D0 : DB) (r : RuleD) (k : Nat) (hd : Sl Int) (ng : FuncId) (na nb : List AV) : Prop where
  n1 : 1 ≤ n
  n64 : n ≤ 64
  low : S < base ∧ B < base ∧ P3 < base ∧ P5 < base ∧ P6 < base ∧ PL < base
  rows : ∀ nm p, D0 nm = some p → p.1 < base ∧ p.1 ≠ S ∧ p.1 ≠ P3 ∧ p.1 ≠ P5 ∧ p.1 ≠ P6 ∧ p.1 ≠ PL
  six : P6 ≠ S ∧ P6 ≠ B ∧ P6 ≠ P3 ∧ P6 ≠ P5 ∧ P6 ≠ PL
  ask : ∀ D, SameDim D D0 → AskOk n D r
  head : n ^ r.args.l.length ≤ 4096 ∧ r.args.l.length ≤ 12 ∧ ∃ p, D0 r.name = some p ∧ p.2.length = n ^ r.args.l.length
  hkk : k = (varsOf r).length
  hhd : hd.l = placesI (varsOf r) r.args.l
  note : ∀ (i : Int) (r : RuleD) (k : Int) (hd : Sl Int) (cs : Sl (Sl Int)) (ls : Sl Int) (y : AV) (h : Heap) (K : Out → Heap → Bool), (∀ h', HExt h h' → K (.ret (.tuple [])) h' = true) → Sem TP ng (na ++ ([.agg (planCells i r k (encSl encI 1 hd) (encSl encT 1 cs) (encSl encI 1 ls)), y] ++ nb)) h K
theorem SolAbs.keep {S n lo base P3 P5 P6 PL : Nat} {D0 : DB} {r : RuleD} {i0 : Int} {hd : Sl Int} {cs : Sl (Sl Int)} {ls : Sl Int} {ng : FuncId} {na nb : List AV} {h0 : Heap} (o : SolOk S B n lo base P3 P5 P6 PL D0 r k hd ng na nb) {s : DB × Bool}
    (a : SolAbs S B n lo base P3 P5 P6 PL D0 r i0 k hd cs ls ng na nb h0 s h) (hb : ∀ b, b < base → h'.get b = h.get b) (hn : h.next ≤ h'.next) : SolAbs S B n lo base P3 P5 P6 PL D0 r i0 k hd cs ls ng na nb h0 s h' := by
  obtain ⟨l1, l2, l3, l4, l5, l6⟩ := o.low
  refine ⟨by rw [hb _ l1]; exact a.hS, ?_, a.dim, by rw [hb _ l3]; exact a.h3, by rw [hb _ l4]; exact a.h5, by rw [hb _ l5]; exact a.h6, by rw [hb _ l6]; exact a.hL, Nat.le_trans a.lt hn, fun b b1 b2 b3 => by rw [hb b b1]; exact a.old b b1 b2 b3⟩
  obtain ⟨es, ck, m, e1, e2, e3⟩ := a.hD.ex
  refine ⟨⟨es, ck, m, by rw [hb _ l2]; exact e1, e2, e3⟩, fun nm p hp => ?_, a.hD.inj, Nat.lt_of_lt_of_le a.hD.lt hn⟩
  obtain ⟨q1, q2, q3, q4⟩ := a.hD.blk nm p hp
  obtain ⟨p0, r1, r2, _⟩ := a.dim.back hp
  have := (o.rows nm p0 r1).1
  exact ⟨q1, Nat.lt_of_lt_of_le q2 hn, q3, by rw [hb _ (by omega)]; exact q4⟩
structure PlanD where
  i : Int
  r : RuleD
  hd : Sl Int
  cs : Sl (Sl Int)
  ls : Sl Int
structure PlanD.ok (p : PlanD) : Prop where
  few : p.r.few
  k12 : (varsOf p.r).length ≤ 12
  hd : p.hd.l = placesI (varsOf p.r) p.r.args.l
  cs : p.cs.l.map Sl.l = p.r.body.l.map (fun c => placesI (varsOf p.r) c.args.l)
  ls : p.ls.l = p.r.body.l.map (fun c => lastI (placesOf (varsOf p.r) c.args.l))
theorem atomB_named (nm : Str) (xs : List Str) : atomB nm xs = (nameB nm && namedB xs) := by
  unfold atomB namedB; rw [Bool.and_comm (xs.all nameB)]
def ruleOk (r : RuleD) : Bool := nameB r.name && (namedB r.args.l && (decide (r.body.l.length ≤ 20) && (r.body.l.all condOk && decide ((varsOf r).length ≤ 12))))
theorem ref07_rule {r : RuleD} (hok : r.ok) (hf : r.few) {h : Heap} {K : Out → Heap → Bool} (hK : K (.ret (.bool (ruleOk r))) h = true) :
    Sem TP 112 [.agg [.str r.name, encSl encS 1 r.args, encSl encCo 4 r.body]] h K := by
  refine Sem.data (r := .bool (ruleOk r)) ?_ (by have := pure_encRu r; simpa [encRu, AV.pureL, AV.pure] using this) hK
  clear hK
  have hbb : r.body.l.length ≤ big := hok.2.2.2.1
  refine F.ref07_rule_sem ?_
  rw [F.ref07_rule_eq]
  have g0 : (Heap.alloc Heap.empty (.cells (encRu r))).get 0 = some (.cells (encRu r)) := get_alloc_same _ _
  have gn : (Heap.alloc Heap.empty (.cells (encRu r))).next = 1 := rfl
  have hb : boxS (.agg [.str r.name, encSl encS 1 r.args, encSl encCo 4 r.body]) = some (encRu r) := box_agg (one_encRu r)
  simp only [hb, bindO_some, next_empty]
  generalize (Heap.alloc Heap.empty (.cells (encRu r))) = H at g0 gn ⊢
  have fin : ∀ (b : Bool) h', b = ruleOk r → frzK (.bool (ruleOk r)) (.ret (.bool b)) h' = true := fun b h' hb => by rw [hb]; exact frzK_same rfl
  generalize frzK (.bool (ruleOk r)) = R at fin ⊢
  simp only [AMc, Nat.reduceAdd, Nat.reduceEqDiff, reduceIte, load_ptr g0, encRu]
  refine semCall_true (ref01_Name ?_)
  simp only [AMc, Nat.reduceAdd, Nat.reduceEqDiff, reduceIte]
  cases hn : nameB r.name with
  | false => simp only [Bool.not_false, cond_t]; exact fin _ _ (by simp [ruleOk, hn])
  | true =>
  simp only [Bool.not_true, cond_f, AMc, Nat.reduceAdd, Nat.reduceEqDiff, reduceIte, load_ptr g0, encRu]
  refine semCall_true (ref07_Named hok.2.1 ?_)
  simp only [AMc, Nat.reduceAdd, Nat.reduceEqDiff, reduceIte]
  cases hnd : namedB r.args.l with
  | false => simp only [Bool.not_false, cond_t]; exact fin _ _ (by simp [ruleOk, hnd])
  | true =>
  simp only [Bool.not_true, cond_f, AMc, Nat.reduceAdd, Nat.reduceEqDiff, reduceIte, load_ptr g0, encRu]
  by_cases h20 : 20 < r.body.l.length
  · simp only [ZdT (by omega : (20 : Int) < (r.body.l.length : Int)), cond_t]
    exact fin _ _ (by simp [ruleOk, show ¬ r.body.l.length ≤ 20 by omega])
  simp only [ZdF (by omega : ¬ (20 : Int) < (r.body.l.length : Int)), cond_f]
  have h20' : r.body.l.length ≤ 20 := by omega
  refine loopB_range 0 r.body.l.length (Nat.zero_le _) (fun i e h' => HExt H h' ∧ e 1 = .ptr 0 0 ∧ e 3 = .int .i64 (i : Int) ∧ (r.body.l.take i).all condOk = true) ⟨HExt.refl _, rfl, rfl, rfl⟩ ?_ ?_
  · rintro i e h' _ hi ⟨x1, e1, e3, ht⟩ K' hnn hx hr hp
    have hv : r.body.l[i]? = some r.body.l[i] := ZgE hi
    generalize r.body.l[i] = c at hv
    have hcok := hok.2.2.2.2 c (ZmG hv)
    have q0 : h'.get 0 = some (.cells (encRu r)) := by rw [x1.get 0 (by omega)]; exact g0
    obtain ⟨H2, hs2, k1, ko, kn⟩ := store_new (h := h') (zs := [.int .i64 0, .bool false, .str [], .nils]) (cs := encCo c) (n := 4) rfl rfl (one_encCo c)
    have x2 : HExt H H2 := x1.trans ⟨by omega, fun b hb => ko b (by omega)⟩
    have no : condOk c = false → ∀ h', R (.ret (.bool false)) h' = true := fun hc h' => fin _ _ (by simp [ruleOk, all_false hv hc])
    rw [F.ref07_rule.L0_eq]
    simp only [e1, e3, AMc, Nat.reduceAdd, Nat.reduceEqDiff, reduceIte, load_ptr q0, encRu, lt_true hi, iaS_enc r.body hi, load_agg len_encCo hv, hs2]
    simp only [AMc, Nat.reduceAdd, Nat.reduceEqDiff, reduceIte, load_ptr k1, encCo, int_beq]
    by_cases k0 : c.kind = 0
    · have hco : condOk c = (nameB c.name && namedB c.args.l) := by unfold condOk; rw [if_pos k0, atomB_named]
      simp only [ZdT k0, cond_t, AMc, Nat.reduceAdd, Nat.reduceEqDiff, reduceIte, load_ptr k1, encCo]
      refine semCall_true (ref01_Name ?_)
      simp only [AMc, Nat.reduceAdd, Nat.reduceEqDiff, reduceIte]
      cases n1 : nameB c.name with
      | false =>
        simp only [Bool.not_false, cond_t]
        rw [hr, F.ref07_rule.L0_r_eq]
        exact no (by rw [hco, n1]; rfl) _
      | true =>
      simp only [Bool.not_true, cond_f, AMc, Nat.reduceAdd, Nat.reduceEqDiff, reduceIte, load_ptr k1, encCo]
      refine semCall_true (ref07_Named hcok.2.1 ?_)
      simp only [AMc, Nat.reduceAdd, Nat.reduceEqDiff, reduceIte]
      cases n2 : namedB c.args.l with
      | false =>
        simp only [Bool.not_false, cond_t]
        rw [hr, F.ref07_rule.L0_r_eq]
        exact no (by rw [hco, n2, Bool.and_false]) _
      | true =>
      simp only [Bool.not_true, cond_f, succ_i64 hi hbb, bindO_some]
      exact hnn _ _ ⟨x2, e1, rfl, take_all hv ht (by rw [hco, n1, n2]; rfl)⟩
    simp only [ZdF k0, cond_f]
    have J : ∀ (e : Env) (b : Bool), e 1 = .ptr 0 0 → e 3 = .int .i64 (i : Int) → e 4 = .ptr h'.next 0 → e 44 = .bool b → (b = true ↔ (c.kind = 1 ∨ c.kind = 2)) → F.ref07_rule.J0 K' ⟨e, 67, [], H2⟩ = true := by
      intro e b e1 e3 e4 e44 hb
      rw [F.ref07_rule.J0_eq]
      simp only [e4, e44, AMc, Nat.reduceAdd, Nat.reduceEqDiff, reduceIte]
      cases b with
      | false =>
        simp only [cond_f]
        have : ¬ (c.kind = 1 ∨ c.kind = 2) := fun h => by have := hb.2 h; cases this
        rw [hr, F.ref07_rule.L0_r_eq]
        exact no (by unfold condOk; rw [if_neg k0, if_neg this]) _
      | true =>
        have hk := hb.1 rfl
        have hc1 : condOk c = (decide (c.name = []) && (decide (c.args.l.length = 2) && c.args.l.all nameB)) := by simp only [condOk, if_neg k0, if_pos hk]
        simp only [cond_t, AMc, Nat.reduceAdd, Nat.reduceEqDiff, reduceIte, load_ptr k1, encCo, str_beq]
        by_cases hn : c.name = []
        · simp only [ZdT hn, Bool.not_true, cond_f, AMc, Nat.reduceAdd, Nat.reduceEqDiff, reduceIte, load_ptr k1, encCo, int_beq]
          by_cases h2 : c.args.l.length = 2
          · simp only [ZdT (by omega : (c.args.l.length : Int) = 2), Bool.not_true, cond_f, AMc, Nat.reduceAdd, Nat.reduceEqDiff, reduceIte, load_ptr k1, encCo]
            refine semCall_true (ref07_Named hcok.2.1 ?_)
            simp only [AMc, Nat.reduceAdd, Nat.reduceEqDiff, reduceIte]
            have hnm : namedB c.args.l = c.args.l.all nameB := by unfold namedB; rw [ZdT (by omega : c.args.l.length ≤ 12), Bool.and_true]
            rw [hnm]
            cases n2 : c.args.l.all nameB with
            | false =>
              simp only [Bool.not_false, cond_t]
              rw [hr, F.ref07_rule.L0_r_eq]
              exact no (by rw [hc1, n2, Bool.and_false, Bool.and_false]) _
            | true =>
              simp only [Bool.not_true, cond_f, e3, succ_i64 hi hbb, bindO_some]
              exact hnn _ _ ⟨x2, e1, rfl, take_all hv ht (by rw [hc1, n2]; simp [hn, h2])⟩
          · simp only [ZdF (by omega : ¬ (c.args.l.length : Int) = 2), Bool.not_false, cond_t]
            rw [hr, F.ref07_rule.L0_r_eq]
            exact no (by rw [hc1]; simp [h2]) _
        · simp only [ZdF hn, Bool.not_false, cond_t]
          rw [hr, F.ref07_rule.L0_r_eq]
          exact no (by rw [hc1]; simp [hn]) _
    by_cases k1' : c.kind = 1
    · simp only [ZdT k1', cond_t]
      exact J _ true e1 e3 rfl rfl (by simp [k1'])
    · simp only [ZdF k1', cond_f]
      exact J _ (decide (c.kind = 2)) e1 e3 rfl rfl (by simp [k1'])
  · rintro e h' ⟨x1, e1, e3, ht⟩ K' hx
    have q0 : h'.get 0 = some (.cells (encRu r)) := by rw [x1.get 0 (by omega)]; exact g0
    rw [F.ref07_rule.L0_eq]
    simp only [e1, e3, AMc, Nat.reduceAdd, Nat.reduceEqDiff, reduceIte, load_ptr q0, encRu, lt_false]
    rw [hx, F.ref07_rule.L0_x0_eq]
    simp only [e1, AMc, Nat.reduceAdd, Nat.reduceEqDiff, reduceIte, load_ptr q0, encRu, part3_3]
    refine semCall_true (ref07_Variables hf fun x hx1 => ?_)
    simp only [AMc, Nat.reduceAdd, Nat.reduceEqDiff, reduceIte, hx1]
    rw [ZtL (ZrF _)] at ht
    refine fin _ _ ?_
    unfold ruleOk
    rw [hn, hnd, ZdT h20', ht]
    by_cases h12 : (varsOf r).length ≤ 12
    · rw [ZdT h12, ZdT (by omega : ((varsOf r).length : Int) ≤ 12)]; rfl
    · rw [ZdF h12, ZdF (by omega : ¬ ((varsOf r).length : Int) ≤ 12)]; rfl
def condAtoms (cs : List CondD) : List (Str × Int) := (cs.filter fun c => decide (c.kind = 0)).map fun c => (c.name, (c.args.l.length : Int))
def atomsR (r : RuleD) : List (Str × Int) := (r.name, (r.args.l.length : Int)) :: condAtoms r.body.l
def atomsOf (rs : List RuleD) : List (Str × Int) := rs.flatMap atomsR
theorem condAtoms_step {cs : List CondD} {c : CondD} (hc : cs[j]? = some c) : condAtoms (cs.take (j + 1)) = condAtoms (cs.take j) ++ if c.kind = 0 then [(c.name, (c.args.l.length : Int))] else [] := by
  unfold condAtoms; rw [List.take_add_one, hc, Option.toList_some, List.filter_append, List.map_append]
  by_cases h : c.kind = 0 <;> simp [h]
theorem condAtoms_len (cs : List CondD) : (condAtoms cs).length ≤ cs.length := by
  unfold condAtoms; rw [List.length_map]; exact List.length_filter_le _ _
theorem atomsOf_len : ∀ rs : List RuleD, (∀ r ∈ rs, r.body.l.length ≤ 20) → (atomsOf rs).length ≤ rs.length * 21
  | [], _ => ZrF _
  | r :: rs, h => by
    have h1 := atomsOf_len rs fun q hq => h q (List.mem_cons_of_mem _ hq)
    have h2 := condAtoms_len r.body.l
    have h3 := h r List.mem_cons_self
    show (atomsR r ++ atomsOf rs).length ≤ _
    unfold atomsR
    rw [List.length_append, List.length_cons, List.length_cons]; omega
theorem ref07_atoms {rules : Sl RuleD} (h60 : rules.l.length ≤ 60) (h20 : ∀ r ∈ rules.l, r.body.l.length ≤ 20) {h : Heap} {K : Out → Heap → Bool} (hK : ∀ x : Sl (Str × Int), x.l = atomsOf rules.l → K (.ret (encSl encZ 2 x)) h = true) :
    Sem TP 113 [encSl encRu 3 rules] h K := by
  have hbig : rules.l.length ≤ big := by unfold big; omega
  have hmx : maxBytes = 140737488355328 := rfl
  have main : Sem TP 113 [encSl encRu 3 rules] Heap.empty (fun o h' => yes (∃ v, ∃ x : Sl (Str × Int), o = .ret v ∧ x.l = atomsOf rules.l ∧ Fz true h' v (encSl encZ 2 x))) := by
    refine F.ref07_atoms_sem ?_
    rw [F.ref07_atoms_eq]
    refine loopB_range 0 rules.l.length (Nat.zero_le _) (fun i e h' => ∃ a, Own encZ 2 0 h' a (atomsOf (rules.l.take i)) ∧ e 0 = encSl encRu 3 rules ∧ e 3 = a ∧ e 4 = .int .i64 (i : Int)) ⟨.nils, .nil, rfl, rfl, rfl⟩ ?_ ?_
    · rintro i e h' _ hi ⟨a, o, e0, e3, e4⟩ K' hn hx hr hp
      have hv : rules.l[i]? = some rules.l[i] := ZgE hi
      generalize rules.l[i] = r at hv
      have hb20 := h20 r (ZmG hv)
      have hbb : r.body.l.length ≤ big := by unfold big; omega
      have ld : ∀ j, j < 3 → ∀ h, loadS none (.iptr (rules.l.flatMap encRu) (i * 3 + j)) h = (encRu r)[j]? := fun j hj h => load_elem len_encRu hv hj
      have ld0 : ∀ h, loadS none (.iptr (rules.l.flatMap encRu) (i * 3)) h = some (.str r.name) := fun h => ld 0 (by omega) h
      have hal : (atomsOf (rules.l.take i)).length ≤ 1260 := by
        have h1 := atomsOf_len (rules.l.take i) fun q hq => h20 q (List.mem_of_mem_take hq)
        have h2 := List.length_take_le i rules.l
        omega
      obtain ⟨a1, h1, p1, p2, p3, p4, p5, p6⟩ := o.push len_encZ (fun x => rfl) (Nat.zero_le _) (bytes := 24) (by omega) (r.name, (r.args.l.length : Int))
      rw [F.ref07_atoms.L0_eq]
      simp only [e0, e3, e4, AMc, Nat.reduceAdd, Nat.reduceEqDiff, reduceIte, lt_true hi, iaS_enc rules hi, ld0, ld 1 (by omega), encRu, agg_Z, row_Z, p1]
      refine loopB_range 0 r.body.l.length (Nat.zero_le _) (fun j e h2 => ∃ a, Own encZ 2 0 h2 a (atomsOf (rules.l.take i) ++ (r.name, (r.args.l.length : Int)) :: condAtoms (r.body.l.take j)) ∧ e 0 = encSl encRu 3 rules ∧ e 3 = a ∧ e 4 = .int .i64 (i : Int) ∧ e 5 = .int .i64 (j : Int))
        ⟨a1, by simpa [condAtoms] using p2, e0, rfl, e4, rfl⟩ ?_ ?_
      · rintro j e h2 _ hj ⟨a, o, e0, e3, e4, e5⟩ K2 hn2 hx2 hr2 hp2
        have hc : r.body.l[j]? = some r.body.l[j] := ZgE hj
        generalize r.body.l[j] = c at hc
        obtain ⟨H2, hs2, k1, ko, kn⟩ := store_new (h := h2) (zs := [.int .i64 0, .bool false, .str [], .nils]) (cs := encCo c) (n := 4) rfl rfl (one_encCo c)
        have x2 : HExt h2 H2 := ⟨by omega, fun b hb => ko b (by omega)⟩
        have hst := condAtoms_step hc
        rw [F.ref07_atoms.L1_eq]
        simp only [e0, e3, e4, e5, AMc, Nat.reduceAdd, Nat.reduceEqDiff, reduceIte, iaS_enc rules hi, ld 2 (by omega), encRu, lt_true hj, iaS_enc r.body hj, load_agg len_encCo hc, hs2]
        simp only [AMc, Nat.reduceAdd, Nat.reduceEqDiff, reduceIte, load_ptr k1, encCo, int_beq]
        by_cases k0 : c.kind = 0
        · rw [if_pos k0] at hst
          have hcl : (condAtoms (r.body.l.take j)).length ≤ 20 := by
            have h1 := condAtoms_len (r.body.l.take j)
            have h2 := List.length_take_le' j r.body.l
            omega
          obtain ⟨a2, h3, s1, s2, s3, s4, s5, s6⟩ := (o.ext x2).push len_encZ (fun x => rfl) (Nat.zero_le _) (bytes := 24) (by rw [List.length_append, List.length_cons]; omega) (c.name, (c.args.l.length : Int))
          simp only [ZdT k0, cond_t, AMc, Nat.reduceAdd, Nat.reduceEqDiff, reduceIte, load_ptr k1, encCo, agg_Z, row_Z, s1, succ_i64 hj hbb]
          refine hn2 _ _ ⟨a2, ?_, e0, rfl, e4, rfl⟩
          rw [hst]; simpa using s2
        · rw [if_neg k0, List.append_nil] at hst
          simp only [ZdF k0, cond_f, succ_i64 hj hbb, bindO_some]
          exact hn2 _ _ ⟨a, by rw [hst]; exact o.ext x2, e0, e3, e4, rfl⟩
      · rintro e h2 ⟨a, o, e0, e3, e4, e5⟩ K2 hx2
        rw [F.ref07_atoms.L1_eq]
        simp only [e0, e4, e5, AMc, Nat.reduceAdd, Nat.reduceEqDiff, reduceIte, iaS_enc rules hi, ld 2 (by omega), encRu, lt_false]
        rw [hx2, F.ref07_atoms.L1_x2_eq]
        simp only [e4, AMc, Nat.reduceAdd, Nat.reduceEqDiff, reduceIte, succ_i64 hi hbig]
        refine hn _ _ ⟨a, ?_, e0, e3, rfl⟩
        rw [ZtL (ZrF _)] at o
        have : atomsOf (rules.l.take (i + 1)) = atomsOf (rules.l.take i) ++ (r.name, (r.args.l.length : Int)) :: condAtoms r.body.l := by
          unfold atomsOf; rw [List.take_add_one, hv]; simp [atomsR]
        rw [this]; exact o
    · rintro e h' ⟨a, o, e0, e3, e4⟩ K' hx
      rw [F.ref07_atoms.L0_eq]
      simp only [e0, e4, AMc, Nat.reduceAdd, Nat.reduceEqDiff, reduceIte, lt_false]
      rw [hx, F.ref07_atoms.L0_x0_eq]
      rw [ZtL (ZrF _)] at o
      simp only [setV_eq, Nat.reduceEqDiff, reduceIte, e3]
      obtain ⟨x, hx1, hx2⟩ := o.frzx (fun v y hy => by
        simp only [encZ, List.mem_cons, List.not_mem_nil, or_false] at hy
        rcases hy with rfl | rfl <;> exact .scalar _ rfl)
      exact yes_eq.2 ⟨a, x, rfl, hx1, hx2⟩
  refine main.frozen (by simp [AV.pureL, pure_encSl pure_encRu]) fun o h' ho => ?_
  obtain ⟨v, x, rfl, hx, hf⟩ := yes_eq.1 ho
  exact ⟨v, _, rfl, hf, hK x hx⟩
theorem loopB_while {f : St → (AX → St → Bool) → Bool} {K : AX → St → Bool} {n : Nat} {defs : List ADef} {e0 : Env} {h0 : Heap} (I : Nat → Env → Heap → Prop) (m : Nat) (hI : I m e0 h0)
    (step : ∀ m e h, I m e h → ∀ K' : AX → St → Bool, (∀ m' e' h', m' < m → I m' e' h' → K' .normal ⟨e', n, defs, h'⟩ = true) → (∀ id s, K' (.exit id) s = K (.exit id) s) → (∀ s, K' .ret s = K .ret s) → f ⟨e, n, defs, h⟩ K' = true) : loopB f ⟨e0, n, defs, h0⟩ K = true :=
  loopB_rule I m hI fun m e h hi => step m e h hi _ (fun m' e' h' hlt hi' => loopK_normal (I := I) m' hlt hi') (fun _ _ => rfl) (fun _ => rfl)
theorem rising_len : ∀ (l : List Str) (s : Str), (risingL l s).length ≤ l.length + 1
  | [], s => ZrF _
  | x :: l, s => by
    have := rising_len l s
    rw [risingL]
    split
    · rw [List.length_cons, List.length_cons]; omega
    · split
      · omega
      · simp
def defL (rs : List RuleD) : List Str := rs.foldl (fun o r => risingL o r.name) []
theorem defL_step {rs : List RuleD} {i : Nat} {r : RuleD} (hr : rs[i]? = some r) : defL (rs.take (i + 1)) = risingL (defL (rs.take i)) r.name := by
  unfold defL; rw [List.take_add_one, hr]; simp
theorem fold_rising_len : ∀ (rs : List RuleD) (o : List Str), (rs.foldl (fun o r => risingL o r.name) o).length ≤ o.length + rs.length
  | [], o => ZrF _
  | r :: rs, o => by
    have h1 := fold_rising_len rs (risingL o r.name)
    have h2 := rising_len o r.name
    rw [List.foldl_cons, List.length_cons]; omega
theorem defL_len (rs : List RuleD) : (defL rs).length ≤ rs.length := by
  have := fold_rising_len rs []; simpa [defL] using this
theorem fold_rising_sorted : ∀ (rs : List RuleD) (o : List Str), SortS o → SortS (rs.foldl (fun o r => risingL o r.name) o)
  | [], o, h => h
  | r :: rs, o, h => fold_rising_sorted rs _ (rising_sorted h r.name)
theorem defL_sorted (rs : List RuleD) : SortS (defL rs) := fold_rising_sorted rs [] List.Pairwise.nil
theorem fold_rising_mem {s : Str} : ∀ (rs : List RuleD) (o : List Str), s ∈ rs.foldl (fun o r => risingL o r.name) o ↔ s ∈ o ∨ s ∈ headsOf rs
  | [], o => by simp [headsOf]
  | r :: rs, o => by
    rw [List.foldl_cons, fold_rising_mem rs, mem_rising]
    simp [headsOf, or_assoc]
theorem defL_mem (rs : List RuleD) : s ∈ defL rs ↔ s ∈ headsOf rs := by
  have := fold_rising_mem (s := s) rs []; simpa [defL] using this
theorem sortS_nodup {l : List Str} (h : SortS l) : l.Nodup := by
  unfold SortS at h; unfold List.Nodup
  exact h.imp fun {a b} hab e => by subst e; rw [strLt_irr] at hab; cases hab
theorem ref07_Defined {rules : Sl RuleD} (h60 : rules.l.length ≤ 60) {h : Heap} {K : Out → Heap → Bool} (hK : ∀ x : Sl Str, x.l = defL rules.l → K (.ret (encSl encS 1 x)) h = true) :
    Sem TP 35 [encSl encRu 3 rules] h K := by
  have hbig : rules.l.length ≤ big := by unfold big; omega
  have main : Sem TP 35 [encSl encRu 3 rules] Heap.empty (fun o h' => yes (∃ v, ∃ x : Sl Str, o = .ret v ∧ x.l = defL rules.l ∧ Fz true h' v (encSl encS 1 x))) := by
    refine F.ref07_Defined_sem ?_
    rw [F.ref07_Defined_eq]
    refine loopB_range 0 rules.l.length (Nat.zero_le _) (fun i e h' => ∃ a, Own encS 1 0 h' a (defL (rules.l.take i)) ∧ e 0 = encSl encRu 3 rules ∧ e 3 = a ∧ e 4 = .int .i64 (i : Int)) ⟨.nils, .nil, rfl, rfl, rfl⟩ ?_ ?_
    · rintro i e h' _ hi ⟨a, o, e0, e3, e4⟩ K' hn hx hr hp
      have hv : rules.l[i]? = some rules.l[i] := ZgE hi
      generalize rules.l[i] = r at hv
      have ld : ∀ h, loadS none (.iptr (rules.l.flatMap encRu) (i * 3)) h = some (.str r.name) := fun h => load_elem len_encRu hv (by omega : 0 < 3)
      have hst := defL_step hv
      rw [F.ref07_Defined.L0_eq]
      simp only [e0, e3, e4, AMc, Nat.reduceAdd, Nat.reduceEqDiff, reduceIte, lt_true hi, iaS_enc rules hi, ld]
      refine semCall_true (ref07_rising o (Nat.zero_le _) (by have h1 := defL_len (rules.l.take i); have h2 := List.length_take_le i rules.l; omega) fun a1 h1 x1 o1 => ?_)
      simp only [AMc, Nat.reduceAdd, Nat.reduceEqDiff, reduceIte, succ_i64 hi hbig]
      exact hn _ _ ⟨a1, by rw [hst]; exact o1, e0, rfl, rfl⟩
    · rintro e h' ⟨a, o, e0, e3, e4⟩ K' hx
      rw [F.ref07_Defined.L0_eq]
      simp only [e0, e4, AMc, Nat.reduceAdd, Nat.reduceEqDiff, reduceIte, lt_false]
      rw [hx, F.ref07_Defined.L0_x0_eq]
      rw [ZtL (ZrF _)] at o
      simp only [setV_eq, Nat.reduceEqDiff, reduceIte, e3]
      obtain ⟨x, hx1, hx2⟩ := o.frzx (fun v y hy => by
        simp only [encS, List.mem_cons, List.not_mem_nil, or_false] at hy
        subst hy; exact .scalar _ rfl)
      exact yes_eq.2 ⟨a, x, rfl, hx1, hx2⟩
  refine main.frozen (by simp [AV.pureL, pure_encSl pure_encRu]) fun o h' ho => ?_
  obtain ⟨v, x, rfl, hx, hf⟩ := yes_eq.1 ho
  exact ⟨v, _, rfl, hf, hK x hx⟩
theorem ref07_place {x : Sl Str} {s : Str} (hx : x.l.length ≤ big) {h : Heap} {K : Out → Heap → Bool} (hyes : ∀ i : Nat, x.l[i]? = some s → K (.ret (.int .i64 (i : Int))) h = true) (hno : s ∉ x.l → K (.ret (.int .i64 (-1))) h = true) : Sem TP 128 [encSl encS 1 x, .str s] h K := by
  refine F.ref07_place_sem ?_
  rw [F.ref07_place_eq]
  refine loopB_range 0 x.l.length (Nat.zero_le _) (fun i e h' => h' = h ∧ e 0 = encSl encS 1 x ∧ e 1 = .str s ∧ e 5 = .int .i64 (i : Int) ∧ s ∉ x.l.take i) ⟨rfl, rfl, rfl, rfl, by simp⟩ ?_ ?_
  · rintro i e h' _ hi ⟨rfl, e0, e1, e5, ht⟩ K' hn hx' hr hp
    have hv : x.l[i]? = some x.l[i] := ZgE hi
    generalize x.l[i] = t at hv
    rw [F.ref07_place.L0_eq]
    simp only [e0, e1, e5, AMc, Nat.reduceAdd, Nat.reduceEqDiff, reduceIte, lt_true hi, iaS_enc x hi, get_strs hv, str_beq]
    by_cases hq : t = s
    · subst hq
      simp only [decide_true, cond_t]
      rw [hr, F.ref07_place.L0_r_eq]
      exact hyes i hv
    · simp only [ZdF hq, cond_f, succ_i64 hi hx, bindO_some]
      refine hn _ _ ⟨rfl, e0, e1, rfl, ?_⟩
      rw [List.take_add_one, hv]
      simp only [Option.toList_some, List.mem_append, List.mem_singleton]
      exact fun h => h.elim ht fun h => hq h.symm
  · rintro e h' ⟨rfl, e0, e1, e5, ht⟩ K' hx'
    rw [F.ref07_place.L0_eq]
    simp only [e0, e5, AMc, Nat.reduceAdd, Nat.reduceEqDiff, reduceIte, lt_false]
    rw [hx', F.ref07_place.L0_x0_eq]
    rw [ZtL (ZrF _)] at ht
    exact hno ht
end
end Go.AM
