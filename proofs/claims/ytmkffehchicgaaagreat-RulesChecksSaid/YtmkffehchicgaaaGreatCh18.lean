/- A closed call of the program's function 22: what it answers. Conditions: none. -/
import Derived.Test.YtmkffehchicgaaaGreatCh15
namespace Go.AM
open Go
noncomputable section
def R8:List AV:=[(.islice [(.str [80]),(.islice [(.str [120]),(.str [121])] 0 2 1),(.islice [(.int .i64 0),(.bool false),(.str [69]),(.islice [(.str [120]),(.str [121])] 0 2 1)] 0 1 4),(.str [80]),(.islice [(.str [120]),(.str [121])] 0 2 1),(.islice [(.int .i64 0),(.bool false),(.str [69]),(.islice [(.str [120]),(.str [122])] 0 2 1),(.int .i64 0),(.bool false),(.str [80]),(.islice [(.str [122]),(.str [121])] 0 2 1)] 0 2 4)] 0 2 3),(.agg [(.int .i64 3),(.islice [(.str [69]),(.int .i64 2),(.islice [(.islice [(.int .i64 0),(.int .i64 1)] 0 2 1),(.islice [(.int .i64 1),(.int .i64 2)] 0 2 1)] 0 2 1)] 0 1 3)]),(.str [80]),(.islice [(.int .i64 0),(.int .i64 2)] 0 2 1)]
def R9:AV:=(.tuple [(.agg [(.int .i64 1),(.islice [(.int .i64 0),(.int .i64 2),(.int .i64 1)] 0 3 1),(.islice [(.int .i64 0),(.islice [(.int .i64 1),(.int .i64 2)] 0 2 1),.nils] 0 1 3)]),(.int .i64 0)])
theorem Nr:bN Proofs.Tryz.prog F3 D0 200 22 R8 ag.empty (cp false 20 R9)=true:=by kernel_rfl
end
end Go.AM