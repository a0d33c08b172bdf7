/- A closed call of the program's function 19: what it answers. Conditions: none. -/
import Derived.Test.YtfdanacohcffmaaGreatKd19
set_option linter.unusedVariables false
namespace Go.AM
open List Nat Bool Option
open Go
noncomputable section
def abY:List AV:=[(.au [(.str [80]),(.au [(.str [120]),(.str [121])] 0 2 1),(.au [(.int .i64 0),(.bool false),(.str [69]),(.au [(.str [120]),(.str [121])] 0 2 1)] 0 1 4),(.str [80]),(.au [(.str [120]),(.str [121])] 0 2 1),(.au [(.int .i64 0),(.bool false),(.str [69]),(.au [(.str [120]),(.str [122])] 0 2 1),(.int .i64 0),(.bool false),(.str [80]),(.au [(.str [122]),(.str [121])] 0 2 1)] 0 2 4)] 0 2 3),(.agg [(.int .i64 3),(.au [(.str [69]),(.int .i64 2),(.au [(.au [(.int .i64 0),(.int .i64 1)] 0 2 1),(.au [(.int .i64 1),(.int .i64 2)] 0 2 1)] 0 2 1)] 0 1 3)])]
def abZ:AV:=(.tuple [(.agg [(.int .i64 3),(.au [(.str [69]),(.int .i64 2),(.au [(.au [(.int .i64 0),(.int .i64 1)] 0 2 1),(.au [(.int .i64 1),(.int .i64 2)] 0 2 1)] 0 2 1),(.str [80]),(.int .i64 2),(.au [(.au [(.int .i64 0),(.int .i64 1)] 0 2 1),(.au [(.int .i64 0),(.int .i64 2)] 0 2 1),(.au [(.int .i64 1),(.int .i64 2)] 0 2 1)] 0 3 1)] 0 2 3)]),(.int .i64 0)])
theorem UH:bU TP F3 D0 200 19 abY Heap.empty (cB false 20 abZ)=true:=by kernel_rfl
end
end Go.AM