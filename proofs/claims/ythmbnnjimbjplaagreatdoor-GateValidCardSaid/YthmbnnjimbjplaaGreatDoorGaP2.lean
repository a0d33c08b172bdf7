/- Names. Conditions: none. -/
import Derived.Test.YthmbnnjimbjplaaGreatDoorGaP1
namespace Go.AM
open Go Go.Proofs
set_option linter.unusedVariables false
set_option linter.unusedSimpArgs false
noncomputable section

def okB (b : UInt8) : Bool := letterI b.toNat || digitI b.toNat
def nameB (s : Str) : Bool := match s with
  | [] => false
  | c :: _ => decide (s.length ≤ 12) && (letterI c.toNat && (!wordB s && s.all okB))
theorem take_all {α : Type} {p : α → Bool} {l : List α} {i : Nat} {a : α} (ha : l[i]? = some a) (ht : (l.take i).all p = true) (hp : p a = true) : (l.take (i + 1)).all p = true := by
  rw [List.take_add_one, ha]; simp [ht, hp]
theorem all_false {α : Type} {p : α → Bool} {l : List α} {i : Nat} {a : α} (ha : l[i]? = some a) (hp : p a = false) : l.all p = false := by
  rw [Bool.eq_false_iff]
  intro h
  rw [List.all_eq_true] at h
  have := h a (List.mem_of_getElem? ha)
  rw [hp] at this; cases this

theorem ref01_Name {s : Str} {h : Heap} {K : Out → Heap → Bool} (hK : K (.ret (.bool (nameB s))) h = true) : Sem Tryz.prog 107 [.str s] h K := by
  refine F.ref01_Name_sem ?_
  cases s with
  | nil => simpa [nameB, len_str, lss_int, condB, bindO] using hK
  | cons c s' =>
    have h0 : (c :: s')[0]? = some c := rfl
    simp only [len_str, lss_int, gtr_int, bindO_some, condB_bool]
    have h1 : decide (((c :: s').length : Int) < 1) = false := by simp; omega
    simp only [h1, cond_f]
    by_cases h2 : (c :: s').length ≤ 12
    · have h3 : decide ((12 : Int) < ((c :: s').length : Int)) = false := by simp at h2 ⊢; omega
      simp only [h3, cond_f]
      rw [show strIdxS (.str (c :: s')) (.int .i64 0) = some (.int .u8 (c.toNat : Int)) from idx_str (i := 0) h0]
      simp only [bindO_some]
      refine semCall_true (ref01_letter ?_)
      simp only [outK_ret, not_bool, bindO_some, condB_bool]
      cases hl : letterI c.toNat with
      | false => simpa [nameB, hl] using hK
      | true =>
        simp only [Bool.not_true, cond_f]
        refine semCall_true (ref01_word ?_)
        simp only [outK_ret, condB_bool]
        cases hw : wordB (c :: s') with
        | true => simpa [nameB, hl, hw] using hK
        | false =>
          simp only [cond_f]
          have hn : nameB (c :: s') = (c :: s').all okB := by simp only [nameB, hl, hw, Bool.not_false, Bool.true_and]; rw [decide_eq_true h2, Bool.true_and]
          rw [hn] at hK
          have h4 : ((c :: s').take 1).all okB = true := by simp [okB, hl]
          have h5 : 1 ≤ (c :: s').length := by simp
          clear h0 h1 h3 hl hw hn
          generalize (c :: s') = s at hK h2 h4 h5 ⊢
          refine loopB_range 1 s.length h5 (fun i e h' => h' = h ∧ e 0 = .str s ∧ e 3 = .int .i64 (i : Int) ∧ (s.take i).all okB = true) ⟨rfl, rfl, rfl, h4⟩ ?_ ?_
          · rintro i e h' _ hi ⟨rfl, e0, e3, ht⟩ K' hn hx hr hp
            have hb : s[i]? = some s[i] := List.getElem?_eq_getElem hi
            have hlt : decide ((i : Int) < (s.length : Int)) = true := by simp; omega
            rw [F.ref01_Name.L0_eq]
            simp only [e0, e3, len_str, lss_int, idx_str hb, bindO_some, condB_bool, hlt, cond_t]
            refine semCall_true (ref01_letter ?_)
            simp only [outK_ret, not_bool, bindO_some, condB_bool]
            cases hl : letterI s[i].toNat with
            | true =>
              simp only [Bool.not_true, cond_f, add_i64 (a := (i : Int)) (b := 1) (by omega) (by omega), bindO_some]
              exact hn _ _ ⟨rfl, e0, rfl, take_all hb ht (by simp [okB, hl])⟩
            | false =>
              simp only [Bool.not_false, cond_t]
              refine semCall_true (ref01_digit ?_)
              simp only [outK_ret, not_bool, bindO_some, condB_bool]
              cases hd : digitI s[i].toNat with
              | true =>
                simp only [Bool.not_true, cond_f, add_i64 (a := (i : Int)) (b := 1) (by omega) (by omega), bindO_some]
                exact hn _ _ ⟨rfl, e0, rfl, take_all hb ht (by simp [okB, hd])⟩
              | false =>
                simp only [Bool.not_false, cond_t]
                rw [hr, F.ref01_Name.L0_r_eq]
                have : s.all okB = false := all_false hb (by simp [okB, hl, hd])
                rw [this] at hK; exact hK
          · rintro e h' ⟨rfl, e0, e3, ht⟩ K' hx
            have hlt : decide ((s.length : Int) < (s.length : Int)) = false := by simp
            rw [F.ref01_Name.L0_eq]
            simp only [e0, e3, len_str, lss_int, bindO_some, condB_bool, hlt, cond_f]
            rw [hx, F.ref01_Name.L0_x0_eq]
            rw [List.take_of_length_le (Nat.le_refl _)] at ht
            rw [ht] at hK; exact hK
    · have h3 : decide ((12 : Int) < ((c :: s').length : Int)) = true := by simp at h2 ⊢; omega
      simp only [h3, cond_t]
      have : nameB (c :: s') = false := by simp only [nameB]; rw [decide_eq_false h2]; rfl
      rw [this] at hK; exact hK
theorem shape_Name {s : Str} {h : Heap} {K : Out → Heap → Bool} (hK : K (.ret (.bool (nameB s))) h = true) : Sem Tryz.prog 152 [.str s] h K := by
  refine F.shape_Name_sem ?_
  cases s with
  | nil => simpa [nameB, eq_str, condB, bindO] using hK
  | cons c s' =>
    have h0 : (c :: s')[0]? = some c := rfl
    have h1 : ((c :: s') == ([] : Str)) = false := rfl
    simp only [len_str, eq_str, gtr_int, bindO_some, condB_bool, h1, cond_f]
    by_cases h2 : (c :: s').length ≤ 12
    · have h3 : decide ((12 : Int) < ((c :: s').length : Int)) = false := by simp at h2 ⊢; omega
      simp only [h3, cond_f]
      rw [show strIdxS (.str (c :: s')) (.int .i64 0) = some (.int .u8 (c.toNat : Int)) from idx_str (i := 0) h0]
      simp only [bindO_some]
      refine semCall_true (shape_letter ?_)
      simp only [outK_ret, not_bool, bindO_some, condB_bool]
      cases hl : letterI c.toNat with
      | false => simpa [nameB, hl] using hK
      | true =>
        simp only [Bool.not_true, cond_f]
        refine semCall_true (shape_word ?_)
        simp only [outK_ret, condB_bool]
        cases hw : wordB (c :: s') with
        | true => simpa [nameB, hl, hw] using hK
        | false =>
          simp only [cond_f, len_str, bindO_some]
          have hn : nameB (c :: s') = (c :: s').all okB := by simp only [nameB, hl, hw, Bool.not_false, Bool.true_and]; rw [decide_eq_true h2, Bool.true_and]
          rw [hn] at hK
          have h4 : ((c :: s').take 1).all okB = true := by simp [okB, hl]
          have h5 : 1 ≤ (c :: s').length := by simp
          clear h0 h1 h3 hl hw hn
          generalize (c :: s') = s at hK h2 h4 h5 ⊢
          refine loopB_range 0 s.length (Nat.zero_le _) (fun i e h' => h' = h ∧ e 0 = .str s ∧ e 23 = .int .i64 (i : Int) ∧ e 22 = .int .i64 (s.length : Int) ∧ (s.take i).all okB = true) ⟨rfl, rfl, rfl, rfl, rfl⟩ ?_ ?_
          · rintro i e h' _ hi ⟨rfl, e0, e3, e22, ht⟩ K' hn hx hr hp
            have hb : s[i]? = some s[i] := List.getElem?_eq_getElem hi
            have hlt : decide ((i : Int) < (s.length : Int)) = true := by simp; omega
            rw [F.shape_Name.L0_eq]
            simp only [e0, e3, e22, len_str, lss_int, idx_str hb, bindO_some, condB_bool, hlt, cond_t]
            refine semCall_true (shape_letter ?_)
            simp only [outK_ret, not_bool, bindO_some, condB_bool]
            cases hl : letterI s[i].toNat with
            | true =>
              simp only [Bool.not_true, cond_f, add_i64 (a := (i : Int)) (b := 1) (by omega) (by omega), bindO_some]
              exact hn _ _ ⟨rfl, e0, rfl, e22, take_all hb ht (by simp [okB, hl])⟩
            | false =>
              simp only [Bool.not_false, cond_t]
              refine semCall_true (shape_digit ?_)
              simp only [outK_ret, not_bool, bindO_some, condB_bool]
              cases hd : digitI s[i].toNat with
              | true =>
                simp only [Bool.not_true, cond_f, add_i64 (a := (i : Int)) (b := 1) (by omega) (by omega), bindO_some]
                exact hn _ _ ⟨rfl, e0, rfl, e22, take_all hb ht (by simp [okB, hd])⟩
              | false =>
                simp only [Bool.not_false, cond_t]
                rw [hr, F.shape_Name.L0_r_eq]
                have : s.all okB = false := all_false hb (by simp [okB, hl, hd])
                rw [this] at hK; exact hK
          · rintro e h' ⟨rfl, e0, e3, e22, ht⟩ K' hx
            have hlt : decide ((s.length : Int) < (s.length : Int)) = false := by simp
            rw [F.shape_Name.L0_eq]
            simp only [e0, e3, e22, len_str, lss_int, bindO_some, condB_bool, hlt, cond_f]
            rw [hx, F.shape_Name.L0_x0_eq]
            rw [List.take_of_length_le (Nat.le_refl _)] at ht
            rw [ht] at hK; exact hK
    · have h3 : decide ((12 : Int) < ((c :: s').length : Int)) = true := by simp at h2 ⊢; omega
      simp only [h3, cond_t]
      have : nameB (c :: s') = false := by simp only [nameB]; rw [decide_eq_false h2]; rfl
      rw [this] at hK; exact hK
end
end Go.AM
