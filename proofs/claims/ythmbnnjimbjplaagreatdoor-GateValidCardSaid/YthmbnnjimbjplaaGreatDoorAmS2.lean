/- A closed call of the program's function 38: what it answers. Conditions: none. -/
import Derived.Test.YthmbnnjimbjplaaGreatDoorAmBase
namespace Go.AM
open Go
noncomputable section
def sA2 : List AV := [(.agg [(.int .i64 2), (.islice [(.int .i64 1), (.str [69]), (.islice [(.int .i64 0), (.int .i64 0)] 0 2 1), .nils, (.int .i64 1), (.str [69]), (.islice [(.int .i64 0), (.int .i64 1)] 0 2 1), .nils, (.int .i64 4), (.str []), .nils, (.islice [(.int .i64 0), (.int .i64 1)] 0 2 1), (.int .i64 1), (.str [69]), (.islice [(.int .i64 1), (.int .i64 0)] 0 2 1), .nils, (.int .i64 1), (.str [69]), (.islice [(.int .i64 1), (.int .i64 1)] 0 2 1), .nils, (.int .i64 4), (.str []), .nils, (.islice [(.int .i64 3), (.int .i64 4)] 0 2 1), (.int .i64 3), (.str []), .nils, (.islice [(.int .i64 2), (.int .i64 5)] 0 2 1)] 0 7 4)]), (.agg [(.int .i64 2), (.islice [(.str [69]), (.int .i64 2), (.islice [(.islice [(.int .i64 0), (.int .i64 1)] 0 2 1), (.islice [(.int .i64 1), (.int .i64 0)] 0 2 1)] 0 2 1)] 0 1 3)])]
def sR2 : AV := (.tuple [(.islice [(.str [69]), (.islice [(.int .i64 0), (.int .i64 1)] 0 2 1), (.str [69]), (.islice [(.int .i64 1), (.int .i64 0)] 0 2 1)] 0 2 2), (.int .i64 0)])
theorem stage2 : evalFn Proofs.Tryz.prog F0 D0 200 38 sA2 Heap.empty (pureK false 20 sR2) = true := by kernel_rfl
end
end Go.AM
