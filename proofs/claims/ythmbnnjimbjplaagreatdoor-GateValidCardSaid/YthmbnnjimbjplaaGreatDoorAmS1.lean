/- A closed call of the program's function 18: what it answers. Conditions: none. -/
import Derived.Test.YthmbnnjimbjplaaGreatDoorAmBase
namespace Go.AM
open Go
noncomputable section
def sA1 : List AV := [(.agg [(.int .i64 2), (.islice [(.int .i64 1), (.str [69]), (.islice [(.int .i64 0), (.int .i64 0)] 0 2 1), .nils, (.int .i64 1), (.str [69]), (.islice [(.int .i64 0), (.int .i64 1)] 0 2 1), .nils, (.int .i64 4), (.str []), .nils, (.islice [(.int .i64 0), (.int .i64 1)] 0 2 1), (.int .i64 1), (.str [69]), (.islice [(.int .i64 1), (.int .i64 0)] 0 2 1), .nils, (.int .i64 1), (.str [69]), (.islice [(.int .i64 1), (.int .i64 1)] 0 2 1), .nils, (.int .i64 4), (.str []), .nils, (.islice [(.int .i64 3), (.int .i64 4)] 0 2 1), (.int .i64 3), (.str []), .nils, (.islice [(.int .i64 2), (.int .i64 5)] 0 2 1)] 0 7 4)]), (.agg [(.int .i64 2), (.islice [(.str [69]), (.int .i64 2), (.islice [(.islice [(.int .i64 0), (.int .i64 1)] 0 2 1), (.islice [(.int .i64 1), (.int .i64 0)] 0 2 1)] 0 2 1)] 0 1 3)])]
def sR1 : AV := (.tuple [(.bool true), (.int .i64 0)])
theorem stage1 : evalFn Proofs.Tryz.prog F0 D0 200 18 sA1 Heap.empty (pureK false 20 sR1) = true := by kernel_rfl
end
end Go.AM
