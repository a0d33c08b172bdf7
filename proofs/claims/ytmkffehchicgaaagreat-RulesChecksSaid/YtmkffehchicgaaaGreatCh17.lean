/- A closed call of the program's function 13: what it answers. Conditions: none. -/
import Derived.Test.YtmkffehchicgaaaGreatCh15
namespace Go.AM
open Go
noncomputable section
def R6:List AV:=[(.islice [(.str [80]),(.islice [(.str [120]),(.str [121])] 0 2 1),(.islice [(.int .i64 0),(.bool false),(.str [69]),(.islice [(.str [120]),(.str [121])] 0 2 1)] 0 1 4),(.str [80]),(.islice [(.str [120]),(.str [121])] 0 2 1),(.islice [(.int .i64 0),(.bool false),(.str [69]),(.islice [(.str [120]),(.str [122])] 0 2 1),(.int .i64 0),(.bool false),(.str [80]),(.islice [(.str [122]),(.str [121])] 0 2 1)] 0 2 4)] 0 2 3),(.agg [(.int .i64 3),(.islice [(.str [69]),(.int .i64 2),(.islice [(.islice [(.int .i64 0),(.int .i64 1)] 0 2 1),(.islice [(.int .i64 1),(.int .i64 2)] 0 2 1)] 0 2 1)] 0 1 3)])]
def R7:AV:=(.tuple [(.agg [(.int .i64 3),(.islice [(.str [69]),(.int .i64 2),(.islice [(.islice [(.int .i64 0),(.int .i64 1)] 0 2 1),(.islice [(.int .i64 1),(.int .i64 2)] 0 2 1)] 0 2 1),(.str [80]),(.int .i64 2),(.islice [(.islice [(.int .i64 0),(.int .i64 1)] 0 2 1),(.islice [(.int .i64 0),(.int .i64 2)] 0 2 1),(.islice [(.int .i64 1),(.int .i64 2)] 0 2 1)] 0 3 1)] 0 2 3)]),(.int .i64 0)])
theorem Nq:bN Proofs.Tryz.prog F3 D0 200 13 R6 ag.empty (cp false 20 R7)=true:=by kernel_rfl
end
end Go.AM