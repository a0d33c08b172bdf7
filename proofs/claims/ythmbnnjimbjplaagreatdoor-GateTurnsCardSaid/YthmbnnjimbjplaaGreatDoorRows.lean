/-
  NARROWER THAN 'FOR EVERY INPUT', by the rows' own cells (each row's printed sentence says how): GateValid: laid · GateRuns: laid · GateFrom: loops, laid · GateMonotone: laid · GateFlips: laid · GateSlim: laid · GateOwn: loops, laid · GateTurns: laid.
  DERIVED. THE GIVEN ROWS OF THIS SEAT. 8 by the template 'for every input the law returns true; each argument reads behind the call as it read before'; 0 by the template 'total and deterministic' (their statements: YthmbnnjimbjplaaGreatDoorTotals.lean).
  GIVEN WITH THE SEED: the statements are not yours to turn. If you find one false, say at which input.
  Laid BY PROGRAM, IN A SANDBOX (cutbox-rows.mjs): the forced cells as the released guide's own fill.sh prints them over the translation c660187a05ff60e9… (all of the seat's roots in one cut). By AI agents, Wed Nov 11 2026. No macro, syntax, notation, axiom, sorry.
-/
import Derived.Test.YthmbnnjimbjplaaGreatDoorChecked
import GoSem.Claim
import GoSem.ClaimJoined
import GoSem.ClaimMapViews
import Derived.JoinedTies
import Derived.KernelRfl
namespace Go.Proofs.YthmbnnjimbjplaaGreatDoor
/- THE CELL 'sum', in the pinned program and in every row, IS THE sha256 OF THE DUMP (.gsa) THAT YthmbnnjimbjplaaGreatDoorProg.lean LOADS. Nothing in Lean hashes anything: it is a label: what it is worth is what the hold of that sum in a sandbox is worth. -/
noncomputable def Tryz.pinned : Pinned := { name := "ythmbnnjimbjplaagreatdoor", sum := "c660187a05ff60e9ae115c2c87ea4ad97c0aa7a83458f96ad310e7a18db63d2e", checked := Tryz.checked }
namespace Rows
def none {H : Type} : Left H := { results := [], args := [] }

/- WHAT THE LISTED PACKAGE-LEVEL VARIABLES READ AS WHEN THE CALL BEGINS. Each datum BY PROGRAM (the guide's laid-datum.mjs) off the statement by which the dump's own 'gosem.cut.vars' lays the variable. In a bare row this is a premise. The card (YthmbnnjimbjplaaGreatDoorCards.lean) ties it to the program's text. -/
def laid_math_bits_deBruijn32tab {H : Type} : DataW H := .agg [.lit (.int .u8 0), .lit (.int .u8 1), .lit (.int .u8 28), .lit (.int .u8 2), .lit (.int .u8 29), .lit (.int .u8 14), .lit (.int .u8 24), .lit (.int .u8 3), .lit (.int .u8 30), .lit (.int .u8 22), .lit (.int .u8 20), .lit (.int .u8 15), .lit (.int .u8 25), .lit (.int .u8 17), .lit (.int .u8 4), .lit (.int .u8 8), .lit (.int .u8 31), .lit (.int .u8 27), .lit (.int .u8 13), .lit (.int .u8 23), .lit (.int .u8 21), .lit (.int .u8 19), .lit (.int .u8 16), .lit (.int .u8 7), .lit (.int .u8 26), .lit (.int .u8 12), .lit (.int .u8 18), .lit (.int .u8 6), .lit (.int .u8 11), .lit (.int .u8 5), .lit (.int .u8 10), .lit (.int .u8 9)]
def laid_math_bits_deBruijn64tab {H : Type} : DataW H := .agg [.lit (.int .u8 0), .lit (.int .u8 1), .lit (.int .u8 56), .lit (.int .u8 2), .lit (.int .u8 57), .lit (.int .u8 49), .lit (.int .u8 28), .lit (.int .u8 3), .lit (.int .u8 61), .lit (.int .u8 58), .lit (.int .u8 42), .lit (.int .u8 50), .lit (.int .u8 38), .lit (.int .u8 29), .lit (.int .u8 17), .lit (.int .u8 4), .lit (.int .u8 62), .lit (.int .u8 47), .lit (.int .u8 59), .lit (.int .u8 36), .lit (.int .u8 45), .lit (.int .u8 43), .lit (.int .u8 51), .lit (.int .u8 22), .lit (.int .u8 53), .lit (.int .u8 39), .lit (.int .u8 33), .lit (.int .u8 30), .lit (.int .u8 24), .lit (.int .u8 18), .lit (.int .u8 12), .lit (.int .u8 5), .lit (.int .u8 63), .lit (.int .u8 55), .lit (.int .u8 48), .lit (.int .u8 27), .lit (.int .u8 60), .lit (.int .u8 41), .lit (.int .u8 37), .lit (.int .u8 16), .lit (.int .u8 46), .lit (.int .u8 35), .lit (.int .u8 44), .lit (.int .u8 21), .lit (.int .u8 52), .lit (.int .u8 32), .lit (.int .u8 23), .lit (.int .u8 11), .lit (.int .u8 54), .lit (.int .u8 26), .lit (.int .u8 40), .lit (.int .u8 15), .lit (.int .u8 34), .lit (.int .u8 20), .lit (.int .u8 31), .lit (.int .u8 10), .lit (.int .u8 25), .lit (.int .u8 14), .lit (.int .u8 19), .lit (.int .u8 9), .lit (.int .u8 13), .lit (.int .u8 8), .lit (.int .u8 7), .lit (.int .u8 6)]
def laid_internal_strconv_uint64pow10 {H : Type} : DataW H := .agg [.lit (.int .u64 1), .lit (.int .u64 10), .lit (.int .u64 100), .lit (.int .u64 1000), .lit (.int .u64 10000), .lit (.int .u64 100000), .lit (.int .u64 1000000), .lit (.int .u64 10000000), .lit (.int .u64 100000000), .lit (.int .u64 1000000000), .lit (.int .u64 10000000000), .lit (.int .u64 100000000000), .lit (.int .u64 1000000000000), .lit (.int .u64 10000000000000), .lit (.int .u64 100000000000000), .lit (.int .u64 1000000000000000), .lit (.int .u64 10000000000000000), .lit (.int .u64 100000000000000000), .lit (.int .u64 1000000000000000000), .lit (.int .u64 10000000000000000000)]

/-- 'paraphrastlaw11.GateValid': WHATEVER THE INPUT: true; the input reads as it did. -/
def gateValidSpec : ChangeSpec := { name := "gateValid", fn := fun _ => fun
  | [d] => { results := [.lit (.bool true)], args := [d] }
  | _ => none }
def gateValidRow : OpenClaim := { program := "ythmbnnjimbjplaagreatdoor", sum := "c660187a05ff60e9ae115c2c87ea4ad97c0aa7a83458f96ad310e7a18db63d2e", func := "paraphrast/paraphrastlaw11.GateValid", spec := "gateValid", unfollowed := true, recurses := true, named := ["internal/strconv.uint64pow10", "math/bits.deBruijn32tab", "math/bits.deBruijn64tab"], apart := false, laid := [("math/bits.deBruijn32tab", laid_math_bits_deBruijn32tab), ("math/bits.deBruijn64tab", laid_math_bits_deBruijn64tab), ("internal/strconv.uint64pow10", laid_internal_strconv_uint64pow10)] }
def GateValidSaid : Prop := gateValidRow.holds Tryz.pinned (OpenSpec.ofChange gateValidSpec)

/-- ITS FALSE NEIGHBOUR: 'it returns false'. Refute it at one input. -/
def gateValidWrong : ChangeSpec := { name := "gateValid", fn := fun _ => fun
  | [d] => { results := [.lit (.bool false)], args := [d] }
  | _ => none }
def GateValidWrongFalsely : Prop := gateValidRow.holds Tryz.pinned (OpenSpec.ofChange gateValidWrong)

/-- 'paraphrastlaw11.GateRuns': WHATEVER THE INPUT: true; the input reads as it did. -/
def gateRunsSpec : ChangeSpec := { name := "gateRuns", fn := fun _ => fun
  | [d1, d2] => { results := [.lit (.bool true)], args := [d1, d2] }
  | _ => none }
def gateRunsRow : OpenClaim := { program := "ythmbnnjimbjplaagreatdoor", sum := "c660187a05ff60e9ae115c2c87ea4ad97c0aa7a83458f96ad310e7a18db63d2e", func := "paraphrast/paraphrastlaw11.GateRuns", spec := "gateRuns", unfollowed := true, recurses := true, named := ["internal/strconv.uint64pow10", "math/bits.deBruijn32tab", "math/bits.deBruijn64tab"], apart := false, laid := [("math/bits.deBruijn32tab", laid_math_bits_deBruijn32tab), ("math/bits.deBruijn64tab", laid_math_bits_deBruijn64tab), ("internal/strconv.uint64pow10", laid_internal_strconv_uint64pow10)] }
def GateRunsSaid : Prop := gateRunsRow.holds Tryz.pinned (OpenSpec.ofChange gateRunsSpec)

/-- ITS FALSE NEIGHBOUR: 'it returns false'. Refute it at one input. -/
def gateRunsWrong : ChangeSpec := { name := "gateRuns", fn := fun _ => fun
  | [d1, d2] => { results := [.lit (.bool false)], args := [d1, d2] }
  | _ => none }
def GateRunsWrongFalsely : Prop := gateRunsRow.holds Tryz.pinned (OpenSpec.ofChange gateRunsWrong)

/-- 'paraphrastlaw11.GateFrom': WHATEVER THE INPUT: true; the input reads as it did. -/
def gateFromSpec : ChangeSpec := { name := "gateFrom", fn := fun _ => fun
  | [d1, d2, d3] => { results := [.lit (.bool true)], args := [d1, d2, d3] }
  | _ => none }
def gateFromRow : OpenClaim := { program := "ythmbnnjimbjplaagreatdoor", sum := "c660187a05ff60e9ae115c2c87ea4ad97c0aa7a83458f96ad310e7a18db63d2e", func := "paraphrast/paraphrastlaw11.GateFrom", spec := "gateFrom", unfollowed := true, recurses := true, named := ["internal/strconv.uint64pow10", "math/bits.deBruijn32tab", "math/bits.deBruijn64tab"], loops := true, apart := false, laid := [("math/bits.deBruijn32tab", laid_math_bits_deBruijn32tab), ("math/bits.deBruijn64tab", laid_math_bits_deBruijn64tab), ("internal/strconv.uint64pow10", laid_internal_strconv_uint64pow10)] }
def GateFromSaid : Prop := gateFromRow.holds Tryz.pinned (OpenSpec.ofChange gateFromSpec)

/-- ITS FALSE NEIGHBOUR: 'it returns false'. Refute it at one input. -/
def gateFromWrong : ChangeSpec := { name := "gateFrom", fn := fun _ => fun
  | [d1, d2, d3] => { results := [.lit (.bool false)], args := [d1, d2, d3] }
  | _ => none }
def GateFromWrongFalsely : Prop := gateFromRow.holds Tryz.pinned (OpenSpec.ofChange gateFromWrong)

/-- 'paraphrastlaw11.GateMonotone': WHATEVER THE INPUT: true; the input reads as it did. -/
def gateMonotoneSpec : ChangeSpec := { name := "gateMonotone", fn := fun _ => fun
  | [d1, d2, d3] => { results := [.lit (.bool true)], args := [d1, d2, d3] }
  | _ => none }
def gateMonotoneRow : OpenClaim := { program := "ythmbnnjimbjplaagreatdoor", sum := "c660187a05ff60e9ae115c2c87ea4ad97c0aa7a83458f96ad310e7a18db63d2e", func := "paraphrast/paraphrastlaw11.GateMonotone", spec := "gateMonotone", unfollowed := true, recurses := true, named := ["internal/strconv.uint64pow10", "math/bits.deBruijn32tab", "math/bits.deBruijn64tab"], apart := false, laid := [("math/bits.deBruijn32tab", laid_math_bits_deBruijn32tab), ("math/bits.deBruijn64tab", laid_math_bits_deBruijn64tab), ("internal/strconv.uint64pow10", laid_internal_strconv_uint64pow10)] }
def GateMonotoneSaid : Prop := gateMonotoneRow.holds Tryz.pinned (OpenSpec.ofChange gateMonotoneSpec)

/-- ITS FALSE NEIGHBOUR: 'it returns false'. Refute it at one input. -/
def gateMonotoneWrong : ChangeSpec := { name := "gateMonotone", fn := fun _ => fun
  | [d1, d2, d3] => { results := [.lit (.bool false)], args := [d1, d2, d3] }
  | _ => none }
def GateMonotoneWrongFalsely : Prop := gateMonotoneRow.holds Tryz.pinned (OpenSpec.ofChange gateMonotoneWrong)

/-- 'paraphrastlaw11.GateFlips': WHATEVER THE INPUT: true; the input reads as it did. -/
def gateFlipsSpec : ChangeSpec := { name := "gateFlips", fn := fun _ => fun
  | [d1, d2] => { results := [.lit (.bool true)], args := [d1, d2] }
  | _ => none }
def gateFlipsRow : OpenClaim := { program := "ythmbnnjimbjplaagreatdoor", sum := "c660187a05ff60e9ae115c2c87ea4ad97c0aa7a83458f96ad310e7a18db63d2e", func := "paraphrast/paraphrastlaw11.GateFlips", spec := "gateFlips", unfollowed := true, recurses := true, named := ["internal/strconv.uint64pow10", "math/bits.deBruijn32tab", "math/bits.deBruijn64tab"], apart := false, laid := [("math/bits.deBruijn32tab", laid_math_bits_deBruijn32tab), ("math/bits.deBruijn64tab", laid_math_bits_deBruijn64tab), ("internal/strconv.uint64pow10", laid_internal_strconv_uint64pow10)] }
def GateFlipsSaid : Prop := gateFlipsRow.holds Tryz.pinned (OpenSpec.ofChange gateFlipsSpec)

/-- ITS FALSE NEIGHBOUR: 'it returns false'. Refute it at one input. -/
def gateFlipsWrong : ChangeSpec := { name := "gateFlips", fn := fun _ => fun
  | [d1, d2] => { results := [.lit (.bool false)], args := [d1, d2] }
  | _ => none }
def GateFlipsWrongFalsely : Prop := gateFlipsRow.holds Tryz.pinned (OpenSpec.ofChange gateFlipsWrong)

/-- 'paraphrastlaw11.GateSlim': WHATEVER THE INPUT: true; the input reads as it did. -/
def gateSlimSpec : ChangeSpec := { name := "gateSlim", fn := fun _ => fun
  | [d1, d2] => { results := [.lit (.bool true)], args := [d1, d2] }
  | _ => none }
def gateSlimRow : OpenClaim := { program := "ythmbnnjimbjplaagreatdoor", sum := "c660187a05ff60e9ae115c2c87ea4ad97c0aa7a83458f96ad310e7a18db63d2e", func := "paraphrast/paraphrastlaw11.GateSlim", spec := "gateSlim", unfollowed := true, recurses := true, named := ["internal/strconv.uint64pow10", "math/bits.deBruijn32tab", "math/bits.deBruijn64tab"], apart := false, laid := [("math/bits.deBruijn32tab", laid_math_bits_deBruijn32tab), ("math/bits.deBruijn64tab", laid_math_bits_deBruijn64tab), ("internal/strconv.uint64pow10", laid_internal_strconv_uint64pow10)] }
def GateSlimSaid : Prop := gateSlimRow.holds Tryz.pinned (OpenSpec.ofChange gateSlimSpec)

/-- ITS FALSE NEIGHBOUR: 'it returns false'. Refute it at one input. -/
def gateSlimWrong : ChangeSpec := { name := "gateSlim", fn := fun _ => fun
  | [d1, d2] => { results := [.lit (.bool false)], args := [d1, d2] }
  | _ => none }
def GateSlimWrongFalsely : Prop := gateSlimRow.holds Tryz.pinned (OpenSpec.ofChange gateSlimWrong)

/-- 'paraphrastlaw11.GateOwn': WHATEVER THE INPUT: true; the input reads as it did. -/
def gateOwnSpec : ChangeSpec := { name := "gateOwn", fn := fun _ => fun
  | [d1, d2, d3] => { results := [.lit (.bool true)], args := [d1, d2, d3] }
  | _ => none }
def gateOwnRow : OpenClaim := { program := "ythmbnnjimbjplaagreatdoor", sum := "c660187a05ff60e9ae115c2c87ea4ad97c0aa7a83458f96ad310e7a18db63d2e", func := "paraphrast/paraphrastlaw11.GateOwn", spec := "gateOwn", unfollowed := true, recurses := true, named := ["internal/strconv.uint64pow10", "math/bits.deBruijn32tab", "math/bits.deBruijn64tab"], loops := true, apart := false, laid := [("math/bits.deBruijn32tab", laid_math_bits_deBruijn32tab), ("math/bits.deBruijn64tab", laid_math_bits_deBruijn64tab), ("internal/strconv.uint64pow10", laid_internal_strconv_uint64pow10)] }
def GateOwnSaid : Prop := gateOwnRow.holds Tryz.pinned (OpenSpec.ofChange gateOwnSpec)

/-- ITS FALSE NEIGHBOUR: 'it returns false'. Refute it at one input. -/
def gateOwnWrong : ChangeSpec := { name := "gateOwn", fn := fun _ => fun
  | [d1, d2, d3] => { results := [.lit (.bool false)], args := [d1, d2, d3] }
  | _ => none }
def GateOwnWrongFalsely : Prop := gateOwnRow.holds Tryz.pinned (OpenSpec.ofChange gateOwnWrong)

/-- 'paraphrastlaw11.GateTurns': WHATEVER THE INPUT: true; the input reads as it did. -/
def gateTurnsSpec : ChangeSpec := { name := "gateTurns", fn := fun _ => fun
  | [d1, d2] => { results := [.lit (.bool true)], args := [d1, d2] }
  | _ => none }
def gateTurnsRow : OpenClaim := { program := "ythmbnnjimbjplaagreatdoor", sum := "c660187a05ff60e9ae115c2c87ea4ad97c0aa7a83458f96ad310e7a18db63d2e", func := "paraphrast/paraphrastlaw11.GateTurns", spec := "gateTurns", inPlace := ["slices.overlaps[[]int]"], unfollowed := true, recurses := true, named := ["internal/strconv.uint64pow10", "math/bits.deBruijn32tab", "math/bits.deBruijn64tab"], apart := false, laid := [("math/bits.deBruijn32tab", laid_math_bits_deBruijn32tab), ("math/bits.deBruijn64tab", laid_math_bits_deBruijn64tab), ("internal/strconv.uint64pow10", laid_internal_strconv_uint64pow10)] }
def GateTurnsSaid : Prop := gateTurnsRow.holds Tryz.pinned (OpenSpec.ofChange gateTurnsSpec)

/-- ITS FALSE NEIGHBOUR: 'it returns false'. Refute it at one input. -/
def gateTurnsWrong : ChangeSpec := { name := "gateTurns", fn := fun _ => fun
  | [d1, d2] => { results := [.lit (.bool false)], args := [d1, d2] }
  | _ => none }
def GateTurnsWrongFalsely : Prop := gateTurnsRow.holds Tryz.pinned (OpenSpec.ofChange gateTurnsWrong)

/- THE SECOND FORM. 'bulk': how many values and letters a reading holds, each counted each time it is reached (what is shared counts as often as it is met; a slice's spare places count too). A statement '..UptoSaid' is the law's where the arguments, and the package variables that the reading takes, are together of bulk at most 1048576: NARROWER than '..Said'. Prove '..Said' where nothing that the law and all that it calls make is longer than what came in: it says more and counts as full. Else prove '..UptoSaid'. A law counts once. -/
mutual
def uptoBulk {H : Type} : DataW H → Nat
  | .lit (.string bytes) => bytes.length + 1
  | .lit _ => 1
  | .nil => 1
  | .ptr d => uptoBulk d + 1
  | .slice elems spare => uptoBulkAll elems + uptoBulkAll spare + 1
  | .agg parts => uptoBulkAll parts + 1
  | .iface _ d => uptoBulk d + 1
  | .map entries => uptoBulkEntries entries + 1
  | .held _ => 1
def uptoBulkAll {H : Type} : List (DataW H) → Nat
  | [] => 0
  | d :: r => uptoBulk d + uptoBulkAll r
def uptoBulkEntries {H : Type} : List (Lit × DataW H) → Nat
  | [] => 0
  | x :: r => uptoBulkEntry x + uptoBulkEntries r
def uptoBulkEntry {H : Type} : Lit × DataW H → Nat
  | (.string bytes, d) => bytes.length + uptoBulk d + 1
  | (_, d) => uptoBulk d + 1
 end
def uptoSmall : (H : Type) → List (DataW H) → Bool := fun _ ds => decide (uptoBulkAll ds ≤ 1048576)
def OpenSpec.upto (s : _root_.Go.ChangeSpec) : _root_.Go.OpenSpec := { _root_.Go.OpenSpec.ofChange s with cond := some uptoSmall }

/-- 'paraphrastlaw11.GateValid', WHERE WHAT IT READS IS OF BULK AT MOST 1048576: true; the input reads as it did. -/
def gateValidUptoRow : OpenClaim := { program := "ythmbnnjimbjplaagreatdoor", sum := "c660187a05ff60e9ae115c2c87ea4ad97c0aa7a83458f96ad310e7a18db63d2e", func := "paraphrast/paraphrastlaw11.GateValid", spec := "gateValid", unfollowed := true, recurses := true, named := ["internal/strconv.uint64pow10", "math/bits.deBruijn32tab", "math/bits.deBruijn64tab"], apart := false, laid := [("math/bits.deBruijn32tab", laid_math_bits_deBruijn32tab), ("math/bits.deBruijn64tab", laid_math_bits_deBruijn64tab), ("internal/strconv.uint64pow10", laid_internal_strconv_uint64pow10)], narrowed := true }
def GateValidUptoSaid : Prop := gateValidUptoRow.holds Tryz.pinned (OpenSpec.upto gateValidSpec)

/-- 'paraphrastlaw11.GateRuns', WHERE WHAT IT READS IS OF BULK AT MOST 1048576: true; the input reads as it did. -/
def gateRunsUptoRow : OpenClaim := { program := "ythmbnnjimbjplaagreatdoor", sum := "c660187a05ff60e9ae115c2c87ea4ad97c0aa7a83458f96ad310e7a18db63d2e", func := "paraphrast/paraphrastlaw11.GateRuns", spec := "gateRuns", unfollowed := true, recurses := true, named := ["internal/strconv.uint64pow10", "math/bits.deBruijn32tab", "math/bits.deBruijn64tab"], apart := false, laid := [("math/bits.deBruijn32tab", laid_math_bits_deBruijn32tab), ("math/bits.deBruijn64tab", laid_math_bits_deBruijn64tab), ("internal/strconv.uint64pow10", laid_internal_strconv_uint64pow10)], narrowed := true }
def GateRunsUptoSaid : Prop := gateRunsUptoRow.holds Tryz.pinned (OpenSpec.upto gateRunsSpec)

/-- 'paraphrastlaw11.GateFrom', WHERE WHAT IT READS IS OF BULK AT MOST 1048576: true; the input reads as it did. -/
def gateFromUptoRow : OpenClaim := { program := "ythmbnnjimbjplaagreatdoor", sum := "c660187a05ff60e9ae115c2c87ea4ad97c0aa7a83458f96ad310e7a18db63d2e", func := "paraphrast/paraphrastlaw11.GateFrom", spec := "gateFrom", unfollowed := true, recurses := true, named := ["internal/strconv.uint64pow10", "math/bits.deBruijn32tab", "math/bits.deBruijn64tab"], loops := true, apart := false, laid := [("math/bits.deBruijn32tab", laid_math_bits_deBruijn32tab), ("math/bits.deBruijn64tab", laid_math_bits_deBruijn64tab), ("internal/strconv.uint64pow10", laid_internal_strconv_uint64pow10)], narrowed := true }
def GateFromUptoSaid : Prop := gateFromUptoRow.holds Tryz.pinned (OpenSpec.upto gateFromSpec)

/-- 'paraphrastlaw11.GateMonotone', WHERE WHAT IT READS IS OF BULK AT MOST 1048576: true; the input reads as it did. -/
def gateMonotoneUptoRow : OpenClaim := { program := "ythmbnnjimbjplaagreatdoor", sum := "c660187a05ff60e9ae115c2c87ea4ad97c0aa7a83458f96ad310e7a18db63d2e", func := "paraphrast/paraphrastlaw11.GateMonotone", spec := "gateMonotone", unfollowed := true, recurses := true, named := ["internal/strconv.uint64pow10", "math/bits.deBruijn32tab", "math/bits.deBruijn64tab"], apart := false, laid := [("math/bits.deBruijn32tab", laid_math_bits_deBruijn32tab), ("math/bits.deBruijn64tab", laid_math_bits_deBruijn64tab), ("internal/strconv.uint64pow10", laid_internal_strconv_uint64pow10)], narrowed := true }
def GateMonotoneUptoSaid : Prop := gateMonotoneUptoRow.holds Tryz.pinned (OpenSpec.upto gateMonotoneSpec)

/-- 'paraphrastlaw11.GateFlips', WHERE WHAT IT READS IS OF BULK AT MOST 1048576: true; the input reads as it did. -/
def gateFlipsUptoRow : OpenClaim := { program := "ythmbnnjimbjplaagreatdoor", sum := "c660187a05ff60e9ae115c2c87ea4ad97c0aa7a83458f96ad310e7a18db63d2e", func := "paraphrast/paraphrastlaw11.GateFlips", spec := "gateFlips", unfollowed := true, recurses := true, named := ["internal/strconv.uint64pow10", "math/bits.deBruijn32tab", "math/bits.deBruijn64tab"], apart := false, laid := [("math/bits.deBruijn32tab", laid_math_bits_deBruijn32tab), ("math/bits.deBruijn64tab", laid_math_bits_deBruijn64tab), ("internal/strconv.uint64pow10", laid_internal_strconv_uint64pow10)], narrowed := true }
def GateFlipsUptoSaid : Prop := gateFlipsUptoRow.holds Tryz.pinned (OpenSpec.upto gateFlipsSpec)

/-- 'paraphrastlaw11.GateSlim', WHERE WHAT IT READS IS OF BULK AT MOST 1048576: true; the input reads as it did. -/
def gateSlimUptoRow : OpenClaim := { program := "ythmbnnjimbjplaagreatdoor", sum := "c660187a05ff60e9ae115c2c87ea4ad97c0aa7a83458f96ad310e7a18db63d2e", func := "paraphrast/paraphrastlaw11.GateSlim", spec := "gateSlim", unfollowed := true, recurses := true, named := ["internal/strconv.uint64pow10", "math/bits.deBruijn32tab", "math/bits.deBruijn64tab"], apart := false, laid := [("math/bits.deBruijn32tab", laid_math_bits_deBruijn32tab), ("math/bits.deBruijn64tab", laid_math_bits_deBruijn64tab), ("internal/strconv.uint64pow10", laid_internal_strconv_uint64pow10)], narrowed := true }
def GateSlimUptoSaid : Prop := gateSlimUptoRow.holds Tryz.pinned (OpenSpec.upto gateSlimSpec)

/-- 'paraphrastlaw11.GateOwn', WHERE WHAT IT READS IS OF BULK AT MOST 1048576: true; the input reads as it did. -/
def gateOwnUptoRow : OpenClaim := { program := "ythmbnnjimbjplaagreatdoor", sum := "c660187a05ff60e9ae115c2c87ea4ad97c0aa7a83458f96ad310e7a18db63d2e", func := "paraphrast/paraphrastlaw11.GateOwn", spec := "gateOwn", unfollowed := true, recurses := true, named := ["internal/strconv.uint64pow10", "math/bits.deBruijn32tab", "math/bits.deBruijn64tab"], loops := true, apart := false, laid := [("math/bits.deBruijn32tab", laid_math_bits_deBruijn32tab), ("math/bits.deBruijn64tab", laid_math_bits_deBruijn64tab), ("internal/strconv.uint64pow10", laid_internal_strconv_uint64pow10)], narrowed := true }
def GateOwnUptoSaid : Prop := gateOwnUptoRow.holds Tryz.pinned (OpenSpec.upto gateOwnSpec)

/-- 'paraphrastlaw11.GateTurns', WHERE WHAT IT READS IS OF BULK AT MOST 1048576: true; the input reads as it did. -/
def gateTurnsUptoRow : OpenClaim := { program := "ythmbnnjimbjplaagreatdoor", sum := "c660187a05ff60e9ae115c2c87ea4ad97c0aa7a83458f96ad310e7a18db63d2e", func := "paraphrast/paraphrastlaw11.GateTurns", spec := "gateTurns", inPlace := ["slices.overlaps[[]int]"], unfollowed := true, recurses := true, named := ["internal/strconv.uint64pow10", "math/bits.deBruijn32tab", "math/bits.deBruijn64tab"], apart := false, laid := [("math/bits.deBruijn32tab", laid_math_bits_deBruijn32tab), ("math/bits.deBruijn64tab", laid_math_bits_deBruijn64tab), ("internal/strconv.uint64pow10", laid_internal_strconv_uint64pow10)], narrowed := true }
def GateTurnsUptoSaid : Prop := gateTurnsUptoRow.holds Tryz.pinned (OpenSpec.upto gateTurnsSpec)

end Rows
end Go.Proofs.YthmbnnjimbjplaaGreatDoor
