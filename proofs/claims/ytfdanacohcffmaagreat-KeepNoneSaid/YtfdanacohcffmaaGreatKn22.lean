/- A closed call of the program's function 19: what it answers. Conditions: none. -/
import Derived.Test.YtfdanacohcffmaaGreatKn18
set_option linter.unusedVariables false
namespace Go.AM
open Go
noncomputable section
def sA78 : List AV := [(.islice [(.str [80]), (.islice [(.str [120]), (.str [121])] 0 2 1), (.islice [(.int .i64 0), (.bool false), (.str [69]), (.islice [(.str [120]), (.str [121])] 0 2 1)] 0 1 4), (.str [80]), (.islice [(.str [120]), (.str [121])] 0 2 1), (.islice [(.int .i64 0), (.bool false), (.str [69]), (.islice [(.str [120]), (.str [122])] 0 2 1), (.int .i64 0), (.bool false), (.str [80]), (.islice [(.str [122]), (.str [121])] 0 2 1)] 0 2 4)] 0 2 3), (.agg [(.int .i64 3), (.islice [(.str [69]), (.int .i64 2), (.islice [(.islice [(.int .i64 1), (.int .i64 2)] 0 2 1)] 0 1 1)] 0 1 3)])]
def sR78 : AV := (.tuple [(.agg [(.int .i64 3), (.islice [(.str [69]), (.int .i64 2), (.islice [(.islice [(.int .i64 1), (.int .i64 2)] 0 2 1)] 0 1 1), (.str [80]), (.int .i64 2), (.islice [(.islice [(.int .i64 1), (.int .i64 2)] 0 2 1)] 0 1 1)] 0 2 3)]), (.int .i64 0)])
theorem stage78 : evalFn TP F3 D0 200 19 sA78 Heap.empty (pureK false 20 sR78) = true := by kernel_rfl
end
end Go.AM
