/- A closed call of the program's function 19: what it answers. Conditions: none. -/
import Derived.Test.YtfdanacohcffmaaGreatKp19
set_option linter.unusedVariables false
namespace Go.AM
open List Nat Bool Option
open Go
noncomputable section
def air:List AV:=[(.ax [(.str [80]),(.ax [(.str [120]),(.str [121])] 0 2 1),(.ax [(I6 0),bF,(.str [69]),(.ax [(.str [120]),(.str [121])] 0 2 1)] 0 1 4),(.str [80]),(.ax [(.str [120]),(.str [121])] 0 2 1),(.ax [(I6 0),bF,(.str [69]),(.ax [(.str [120]),(.str [122])] 0 2 1),(I6 0),bF,(.str [80]),(.ax [(.str [122]),(.str [121])] 0 2 1)] 0 2 4)] 0 2 3),(.agg [(I6 3),(.ax [(.str [69]),(I6 2),(.ax [(.ax [(I6 0),(I6 1)] 0 2 1),(.ax [(I6 1),(I6 2)] 0 2 1)] 0 2 1)] 0 1 3)])]
def ais:AV:=(.tuple [(.agg [(I6 3),(.ax [(.str [69]),(I6 2),(.ax [(.ax [(I6 0),(I6 1)] 0 2 1),(.ax [(I6 1),(I6 2)] 0 2 1)] 0 2 1),(.str [80]),(I6 2),(.ax [(.ax [(I6 0),(I6 1)] 0 2 1),(.ax [(I6 0),(I6 2)] 0 2 1),(.ax [(I6 1),(I6 2)] 0 2 1)] 0 3 1)] 0 2 3)]),(I6 0)])
theorem aax:cq TP F3 D0 200 19 air Heap.empty (cR false 20 ais)=true:=by kernel_rfl
end
end Go.AM