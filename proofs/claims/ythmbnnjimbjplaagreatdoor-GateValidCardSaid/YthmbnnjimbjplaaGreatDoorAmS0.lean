/- A closed call of the program's function 24: what it answers. Conditions: none. -/
import Derived.Test.YthmbnnjimbjplaaGreatDoorAmBase
namespace Go.AM
open Go
noncomputable section
def sA0 : List AV := [(.agg [(.int .i64 7), (.int .i64 0), (.str []), (.islice [(.str [120])] 0 1 1), .nils, (.islice [(.int .i64 6), (.int .i64 0), (.str []), (.islice [(.str [121])] 0 1 1), .nils, (.islice [(.int .i64 0), (.int .i64 0), (.str [69]), .nils, (.islice [(.str [120]), (.str [121])] 0 2 1), .nils] 0 1 6)] 0 1 6)]), (.int .i64 2)]
def sR0 : AV := (.tuple [(.agg [(.int .i64 2), (.islice [(.int .i64 1), (.str [69]), (.islice [(.int .i64 0), (.int .i64 0)] 0 2 1), .nils, (.int .i64 1), (.str [69]), (.islice [(.int .i64 0), (.int .i64 1)] 0 2 1), .nils, (.int .i64 4), (.str []), .nils, (.islice [(.int .i64 0), (.int .i64 1)] 0 2 1), (.int .i64 1), (.str [69]), (.islice [(.int .i64 1), (.int .i64 0)] 0 2 1), .nils, (.int .i64 1), (.str [69]), (.islice [(.int .i64 1), (.int .i64 1)] 0 2 1), .nils, (.int .i64 4), (.str []), .nils, (.islice [(.int .i64 3), (.int .i64 4)] 0 2 1), (.int .i64 3), (.str []), .nils, (.islice [(.int .i64 2), (.int .i64 5)] 0 2 1)] 0 7 4)]), (.int .i64 0)])
theorem stage0 : evalFn Proofs.Tryz.prog F0 D0 200 24 sA0 Heap.empty (pureK false 20 sR0) = true := by kernel_rfl
end
end Go.AM
