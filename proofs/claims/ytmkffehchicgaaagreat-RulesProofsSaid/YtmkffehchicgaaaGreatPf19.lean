/- A closed call of the program's function 27: what it answers. Conditions: none. -/
import Derived.Test.YtmkffehchicgaaaGreatPf15
namespace Go.AM
open List Nat Bool Option
open Go
noncomputable section
def afJ:List AV:=[(.ay [(.str [80]),(.ay [(.str [120]),(.str [121])] 0 2 1),(.ay [(.int .i64 0),(.bool false),(.str [69]),(.ay [(.str [120]),(.str [121])] 0 2 1)] 0 1 4),(.str [80]),(.ay [(.str [120]),(.str [121])] 0 2 1),(.ay [(.int .i64 0),(.bool false),(.str [69]),(.ay [(.str [120]),(.str [122])] 0 2 1),(.int .i64 0),(.bool false),(.str [80]),(.ay [(.str [122]),(.str [121])] 0 2 1)] 0 2 4)] 0 2 3),(.agg [(.int .i64 3),(.ay [(.str [69]),(.int .i64 2),(.ay [(.ay [(.int .i64 0),(.int .i64 1)] 0 2 1),(.ay [(.int .i64 1),(.int .i64 2)] 0 2 1)] 0 2 1)] 0 1 3)]),(.str [80]),(.ay [(.int .i64 0),(.int .i64 2)] 0 2 1),(.agg [(.int .i64 1),(.ay [(.int .i64 0),(.int .i64 2),(.int .i64 1)] 0 3 1),(.ay [(.int .i64 0),(.ay [(.int .i64 1),(.int .i64 2)] 0 2 1),.au] 0 1 3)])]
def afK:AV:=(.bool true)
theorem Yj:b8 TP F3 D0 200 27 afJ ag.empty (cK false 20 afK)=true:=by kernel_rfl
end
end Go.AM