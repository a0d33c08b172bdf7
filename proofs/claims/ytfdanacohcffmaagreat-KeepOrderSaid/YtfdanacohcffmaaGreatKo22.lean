/- A closed call of the program's function 19: what it answers. Conditions: none. -/
import Derived.Test.YtfdanacohcffmaaGreatKo19
set_option linter.unusedVariables false
namespace Go.AM
open List Nat Bool Option
open Go
noncomputable section
def Z7:List AV:=[(.ax [(.str [80]),(.ax [(.str [120]),(.str [121])] 0 2 1),(.ax [(.int .i64 0),(.bool false),(.str [69]),(.ax [(.str [120]),(.str [121])] 0 2 1)] 0 1 4),(.str [80]),(.ax [(.str [120]),(.str [121])] 0 2 1),(.ax [(.int .i64 0),(.bool false),(.str [69]),(.ax [(.str [120]),(.str [122])] 0 2 1),(.int .i64 0),(.bool false),(.str [80]),(.ax [(.str [122]),(.str [121])] 0 2 1)] 0 2 4)] 0 2 3),(.agg [(.int .i64 3),(.ax [(.str [69]),(.int .i64 2),(.ax [(.ax [(.int .i64 0),(.int .i64 1)] 0 2 1),(.ax [(.int .i64 1),(.int .i64 2)] 0 2 1)] 0 2 1)] 0 1 3)])]
def Z8:AV:=(.tuple [(.agg [(.int .i64 3),(.ax [(.str [69]),(.int .i64 2),(.ax [(.ax [(.int .i64 0),(.int .i64 1)] 0 2 1),(.ax [(.int .i64 1),(.int .i64 2)] 0 2 1)] 0 2 1),(.str [80]),(.int .i64 2),(.ax [(.ax [(.int .i64 0),(.int .i64 1)] 0 2 1),(.ax [(.int .i64 0),(.int .i64 2)] 0 2 1),(.ax [(.int .i64 1),(.int .i64 2)] 0 2 1)] 0 3 1)] 0 2 3)]),(.int .i64 0)])
theorem S2:bQ TP F3 D0 200 19 Z7 Heap.empty (cC false 20 Z8)=true:=by kernel_rfl
end
end Go.AM