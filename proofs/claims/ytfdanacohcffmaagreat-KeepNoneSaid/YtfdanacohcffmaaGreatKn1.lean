set_option linter.unusedVariables false
/- Whether the abstract machine makes rows of bytes out of strings. Conditions: none. -/
namespace Go.AM
theorem ZdF {p : Prop} [Decidable p] : ¬ p → decide p = false := decide_eq_false
theorem ZdT {p : Prop} [Decidable p] : p → decide p = true := decide_eq_true
theorem ZgE {α : Type} {l : List α} {i : Nat} (h : i < l.length) : l[i]? = some l[i] := List.getElem?_eq_getElem h
theorem ZmG {α : Type} {l : List α} {i : Nat} {a : α} (h : l[i]? = some a) : a ∈ l := List.mem_of_getElem? h
theorem ZtL {α : Type} {l : List α} {i : Nat} (h : l.length ≤ i) : l.take i = l := List.take_of_length_le h
theorem ZrF (n : Nat) : n ≤ n := Nat.le_refl n
theorem ZgI {α : Type} {l : List α} {i : Nat} {a : α} : l[i]? = some a ↔ ∃ h : i < l.length, l[i] = a := List.getElem?_eq_some_iff
def bytesOk : Bool := false
end Go.AM
