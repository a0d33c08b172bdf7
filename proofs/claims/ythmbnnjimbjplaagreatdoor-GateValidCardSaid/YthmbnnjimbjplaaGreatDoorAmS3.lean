/- A closed call of the program's function 16: what it answers. Conditions: none. -/
import Derived.Test.YthmbnnjimbjplaaGreatDoorAmBase
namespace Go.AM
open Go
noncomputable section
def sA3 : List AV := [(.agg [(.int .i64 2), (.islice [(.int .i64 1), (.str [69]), (.islice [(.int .i64 0), (.int .i64 0)] 0 2 1), .nils, (.int .i64 1), (.str [69]), (.islice [(.int .i64 0), (.int .i64 1)] 0 2 1), .nils, (.int .i64 4), (.str []), .nils, (.islice [(.int .i64 0), (.int .i64 1)] 0 2 1), (.int .i64 1), (.str [69]), (.islice [(.int .i64 1), (.int .i64 0)] 0 2 1), .nils, (.int .i64 1), (.str [69]), (.islice [(.int .i64 1), (.int .i64 1)] 0 2 1), .nils, (.int .i64 4), (.str []), .nils, (.islice [(.int .i64 3), (.int .i64 4)] 0 2 1), (.int .i64 3), (.str []), .nils, (.islice [(.int .i64 2), (.int .i64 5)] 0 2 1)] 0 7 4)])]
def sR3 : AV := (.int .i64 2)
theorem stage3 : evalFn Proofs.Tryz.prog F0 D0 200 16 sA3 Heap.empty (pureK true 20 sR3) = true := by kernel_rfl
end
end Go.AM
