set_option linter.unusedVariables false
/- Whether the abstract machine makes rows of bytes out of strings. Conditions: none. -/
namespace Go.AM
open List Nat Bool Option
theorem eR{p:Prop}[Decidable p]:¬ p->decide p=false:=_root_.decide_eq_false
theorem fh{p:Prop}[Decidable p]:p->decide p=true:=_root_.decide_eq_true
theorem jQ{α:Type}{l:List α}{i:Nat}(h:i<l.length):l[i]?=some l[i]:=getElem?_eq_getElem h
theorem ij{α:Type}{l:List α}{i:Nat}{a:α}(h:l[i]?=some a):a ∈ l:=mem_of_getElem? h
theorem jD{α:Type}{l:List α}{i:Nat}(h:l.length<=i):l.take i=l:=take_of_length_le h
theorem dK(n:Nat):n<=n:=Nat.le_refl n
theorem lR{α:Type}{l:List α}{i:Nat}{a:α}:l[i]?=some a↔∃ h:i<l.length,l[i]=a:=List.getElem?_eq_some_iff
def zm:Bool:=false
end Go.AM