set_option linter.unusedSimpArgs false
set_option linter.unusedVariables false
/- Whether the abstract machine makes rows of bytes out of strings. Conditions: none. -/
namespace Go.AM
open List Nat Bool Option
theorem fB{p:Prop}[Decidable p]:¬ p->decide p=false:=_root_.decide_eq_false
theorem fS{p:Prop}[Decidable p]:p->decide p=true:=_root_.decide_eq_true
theorem fc{α:Type}{l:List α}{i:Nat}(h:i<l.length):l[i]?=some l[i]:=getElem?_eq_getElem h
theorem iz{α:Type}{l:List α}{i:Nat}{a:α}(h:l[i]?=some a):a ∈ l:=mem_of_getElem? h
theorem yA{α:Type}{l:List α}{i:Nat}(h:l.length<=i):l.take i=l:=take_of_length_le h
theorem dR(n:Nat):n<=n:=Nat.le_refl n
theorem fR{α:Type}{l:List α}{i:Nat}{a:α}:l[i]?=some a↔∃ h:i<l.length,l[i]=a:=List.getElem?_eq_some_iff
def CJ:Bool:=true
end Go.AM