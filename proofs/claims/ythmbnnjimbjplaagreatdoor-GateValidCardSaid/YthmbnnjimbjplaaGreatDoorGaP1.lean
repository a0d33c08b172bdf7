/- What small functions answer: letters, words, names, lists of numbers. Conditions: none. -/
import Derived.Test.YthmbnnjimbjplaaGreatDoorAmData
import Derived.Test.YthmbnnjimbjplaaGreatDoorGaF1
namespace Go.AM
open Go Go.Proofs
set_option linter.unusedVariables false
set_option linter.unusedSimpArgs false
noncomputable section

def letterI (n : Int) : Bool := (decide (97 ≤ n) && decide (n ≤ 122)) || (decide (65 ≤ n) && decide (n ≤ 90))
def digitI (n : Int) : Bool := decide (48 ≤ n) && decide (n ≤ 57)
def words : List Str := [[97, 110, 100], [111, 114], [110, 111, 116], [115, 111, 109, 101], [97, 108, 108], [108, 102, 112], [112, 102, 112], [116, 99], [101, 120, 105, 115, 116, 115], [116, 114, 117, 101], [102, 97, 108, 115, 101]]
def wordB (s : Str) : Bool := words.any fun w => s == w

theorem ref01_letter {n : Int} {h : Heap} {K : Out → Heap → Bool} (hK : K (.ret (.bool (letterI n))) h = true) : Sem Tryz.prog 163 [.int .u8 n] h K := by
  refine F.ref01_letter_sem ?_
  simp only [geq_int, leq_int, bindO_some, condB_bool]
  unfold letterI at hK
  by_cases h1 : 97 ≤ n <;> by_cases h2 : n ≤ 122 <;> by_cases h3 : 65 ≤ n <;> by_cases h4 : n ≤ 90 <;> simpa [h1, h2, h3, h4] using hK
theorem ref01_digit {n : Int} {h : Heap} {K : Out → Heap → Bool} (hK : K (.ret (.bool (digitI n))) h = true) : Sem Tryz.prog 165 [.int .u8 n] h K := by
  refine F.ref01_digit_sem ?_
  simp only [geq_int, leq_int, bindO_some, condB_bool]
  unfold digitI at hK
  by_cases h1 : 48 ≤ n <;> by_cases h2 : n ≤ 57 <;> simpa [h1, h2] using hK
theorem shape_letter {n : Int} {h : Heap} {K : Out → Heap → Bool} (hK : K (.ret (.bool (letterI n))) h = true) : Sem Tryz.prog 191 [.int .u8 n] h K := by
  refine F.shape_letter_sem ?_
  simp only [geq_int, leq_int, bindO_some, condB_bool]
  unfold letterI at hK
  by_cases h1 : 97 ≤ n <;> by_cases h2 : n ≤ 122 <;> by_cases h3 : 65 ≤ n <;> by_cases h4 : n ≤ 90 <;> simpa [h1, h2, h3, h4] using hK
theorem shape_digit {n : Int} {h : Heap} {K : Out → Heap → Bool} (hK : K (.ret (.bool (digitI n))) h = true) : Sem Tryz.prog 193 [.int .u8 n] h K := by
  refine F.shape_digit_sem ?_
  simp only [geq_int, leq_int, bindO_some, condB_bool]
  unfold digitI at hK
  by_cases h1 : 48 ≤ n <;> by_cases h2 : n ≤ 57 <;> simpa [h1, h2] using hK
theorem ref01_word {s : Str} {h : Heap} {K : Out → Heap → Bool} (hK : K (.ret (.bool (wordB s))) h = true) : Sem Tryz.prog 164 [.str s] h K := by
  refine F.ref01_Word_sem ?_
  simp only [eq_str, bindO_some, condB_bool]
  simp only [wordB, words, List.any_cons, List.any_nil, Bool.or_false] at hK
  repeat (first | exact hK | (generalize (s == _) = b at hK ⊢; cases b <;> simp only [cond_t, cond_f, Bool.true_or, Bool.false_or] at hK ⊢ <;> try exact hK))
theorem shape_word {s : Str} {h : Heap} {K : Out → Heap → Bool} (hK : K (.ret (.bool (wordB s))) h = true) : Sem Tryz.prog 192 [.str s] h K := by
  refine F.shape_word_sem ?_
  simp only [eq_str, bindO_some, condB_bool]
  simp only [wordB, words, List.any_cons, List.any_nil, Bool.or_false] at hK
  repeat (first | exact hK | (generalize (s == _) = b at hK ⊢; cases b <;> simp only [cond_t, cond_f, Bool.true_or, Bool.false_or] at hK ⊢ <;> try exact hK))
end
end Go.AM
