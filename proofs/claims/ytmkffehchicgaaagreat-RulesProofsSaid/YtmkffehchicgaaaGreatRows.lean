/-
  NARROWER THAN 'FOR EVERY INPUT', by the rows' own cells (each row's printed sentence says how): RulesChecks: loops · RulesSound: loops.
  DERIVED. THE GIVEN ROWS OF THIS SEAT. 8 by the template 'for every input the law returns true; each argument reads behind the call as it read before'; 0 by the template 'total and deterministic' (their statements: YtmkffehchicgaaaGreatTotals.lean).
  GIVEN WITH THE SEED: the statements are not yours to turn. If you find one false, say at which input.
  Laid BY PROGRAM, IN A SANDBOX (cutbox-rows.mjs): the forced cells as the released guide's own fill.sh prints them over the translation de28a7fe68e10ff0… (all of the seat's roots in one cut). By AI agents, Wed Nov 11 2026. No macro, syntax, notation, axiom, sorry.
-/
import Derived.Test.YtmkffehchicgaaaGreatChecked
import GoSem.Claim
import GoSem.ClaimJoined
import GoSem.ClaimMapViews
import Derived.JoinedTies
import Derived.KernelRfl
namespace Go.Proofs.YtmkffehchicgaaaGreat
/- THE CELL 'sum', in the pinned program and in every row, IS THE sha256 OF THE DUMP (.gsa) THAT YtmkffehchicgaaaGreatProg.lean LOADS. Nothing in Lean hashes anything: it is a label: what it is worth is what the hold of that sum in a sandbox is worth. -/
noncomputable def Tryz.pinned : Pinned := { name := "ytmkffehchicgaaagreat", sum := "de28a7fe68e10ff0e8b24598a8d12a1191a2d7ea6c84b79bfc160e054c2194ad", checked := Tryz.checked }
namespace Rows
def none {H : Type} : Left H := { results := [], args := [] }

/-- 'paraphrastlaw07.RulesRuns': WHATEVER THE INPUT: true; the input reads as it did. -/
def rulesRunsSpec : ChangeSpec := { name := "rulesRuns", fn := fun _ => fun
  | [d1, d2] => { results := [.lit (.bool true)], args := [d1, d2] }
  | _ => none }
def rulesRunsRow : OpenClaim := { program := "ytmkffehchicgaaagreat", sum := "de28a7fe68e10ff0e8b24598a8d12a1191a2d7ea6c84b79bfc160e054c2194ad", func := "paraphrast/paraphrastlaw07.RulesRuns", spec := "rulesRuns", unfollowed := true, recurses := true, apart := false }
def RulesRunsSaid : Prop := rulesRunsRow.holds Tryz.pinned (OpenSpec.ofChange rulesRunsSpec)

/-- ITS FALSE NEIGHBOUR: 'it returns false'. Refute it at one input. -/
def rulesRunsWrong : ChangeSpec := { name := "rulesRuns", fn := fun _ => fun
  | [d1, d2] => { results := [.lit (.bool false)], args := [d1, d2] }
  | _ => none }
def RulesRunsWrongFalsely : Prop := rulesRunsRow.holds Tryz.pinned (OpenSpec.ofChange rulesRunsWrong)

/-- 'paraphrastlaw07.RulesLeast': WHATEVER THE INPUT: true; the input reads as it did. -/
def rulesLeastSpec : ChangeSpec := { name := "rulesLeast", fn := fun _ => fun
  | [d1, d2] => { results := [.lit (.bool true)], args := [d1, d2] }
  | _ => none }
def rulesLeastRow : OpenClaim := { program := "ytmkffehchicgaaagreat", sum := "de28a7fe68e10ff0e8b24598a8d12a1191a2d7ea6c84b79bfc160e054c2194ad", func := "paraphrast/paraphrastlaw07.RulesLeast", spec := "rulesLeast", unfollowed := true, recurses := true, apart := false }
def RulesLeastSaid : Prop := rulesLeastRow.holds Tryz.pinned (OpenSpec.ofChange rulesLeastSpec)

/-- ITS FALSE NEIGHBOUR: 'it returns false'. Refute it at one input. -/
def rulesLeastWrong : ChangeSpec := { name := "rulesLeast", fn := fun _ => fun
  | [d1, d2] => { results := [.lit (.bool false)], args := [d1, d2] }
  | _ => none }
def RulesLeastWrongFalsely : Prop := rulesLeastRow.holds Tryz.pinned (OpenSpec.ofChange rulesLeastWrong)

/-- 'paraphrastlaw07.RulesProofs': WHATEVER THE INPUT: true; the input reads as it did. -/
def rulesProofsSpec : ChangeSpec := { name := "rulesProofs", fn := fun _ => fun
  | [d1, d2, d3] => { results := [.lit (.bool true)], args := [d1, d2, d3] }
  | _ => none }
def rulesProofsRow : OpenClaim := { program := "ytmkffehchicgaaagreat", sum := "de28a7fe68e10ff0e8b24598a8d12a1191a2d7ea6c84b79bfc160e054c2194ad", func := "paraphrast/paraphrastlaw07.RulesProofs", spec := "rulesProofs", unfollowed := true, recurses := true, apart := false }
def RulesProofsSaid : Prop := rulesProofsRow.holds Tryz.pinned (OpenSpec.ofChange rulesProofsSpec)

/-- ITS FALSE NEIGHBOUR: 'it returns false'. Refute it at one input. -/
def rulesProofsWrong : ChangeSpec := { name := "rulesProofs", fn := fun _ => fun
  | [d1, d2, d3] => { results := [.lit (.bool false)], args := [d1, d2, d3] }
  | _ => none }
def RulesProofsWrongFalsely : Prop := rulesProofsRow.holds Tryz.pinned (OpenSpec.ofChange rulesProofsWrong)

/-- 'paraphrastlaw07.RulesChecks': WHATEVER THE INPUT: true; the input reads as it did. -/
def rulesChecksSpec : ChangeSpec := { name := "rulesChecks", fn := fun _ => fun
  | [d1, d2, d3] => { results := [.lit (.bool true)], args := [d1, d2, d3] }
  | _ => none }
def rulesChecksRow : OpenClaim := { program := "ytmkffehchicgaaagreat", sum := "de28a7fe68e10ff0e8b24598a8d12a1191a2d7ea6c84b79bfc160e054c2194ad", func := "paraphrast/paraphrastlaw07.RulesChecks", spec := "rulesChecks", unfollowed := true, recurses := true, loops := true, apart := false }
def RulesChecksSaid : Prop := rulesChecksRow.holds Tryz.pinned (OpenSpec.ofChange rulesChecksSpec)

/-- ITS FALSE NEIGHBOUR: 'it returns false'. Refute it at one input. -/
def rulesChecksWrong : ChangeSpec := { name := "rulesChecks", fn := fun _ => fun
  | [d1, d2, d3] => { results := [.lit (.bool false)], args := [d1, d2, d3] }
  | _ => none }
def RulesChecksWrongFalsely : Prop := rulesChecksRow.holds Tryz.pinned (OpenSpec.ofChange rulesChecksWrong)

/-- 'paraphrastlaw07.RulesLevels': WHATEVER THE INPUT: true; the input reads as it did. -/
def rulesLevelsSpec : ChangeSpec := { name := "rulesLevels", fn := fun _ => fun
  | [d] => { results := [.lit (.bool true)], args := [d] }
  | _ => none }
def rulesLevelsRow : OpenClaim := { program := "ytmkffehchicgaaagreat", sum := "de28a7fe68e10ff0e8b24598a8d12a1191a2d7ea6c84b79bfc160e054c2194ad", func := "paraphrast/paraphrastlaw07.RulesLevels", spec := "rulesLevels", unfollowed := true, recurses := true, apart := false }
def RulesLevelsSaid : Prop := rulesLevelsRow.holds Tryz.pinned (OpenSpec.ofChange rulesLevelsSpec)

/-- ITS FALSE NEIGHBOUR: 'it returns false'. Refute it at one input. -/
def rulesLevelsWrong : ChangeSpec := { name := "rulesLevels", fn := fun _ => fun
  | [d] => { results := [.lit (.bool false)], args := [d] }
  | _ => none }
def RulesLevelsWrongFalsely : Prop := rulesLevelsRow.holds Tryz.pinned (OpenSpec.ofChange rulesLevelsWrong)

/-- 'paraphrastlaw07.RulesSound': WHATEVER THE INPUT: true; the input reads as it did. -/
def rulesSoundSpec : ChangeSpec := { name := "rulesSound", fn := fun _ => fun
  | [d1, d2, d3] => { results := [.lit (.bool true)], args := [d1, d2, d3] }
  | _ => none }
def rulesSoundRow : OpenClaim := { program := "ytmkffehchicgaaagreat", sum := "de28a7fe68e10ff0e8b24598a8d12a1191a2d7ea6c84b79bfc160e054c2194ad", func := "paraphrast/paraphrastlaw07.RulesSound", spec := "rulesSound", unfollowed := true, recurses := true, loops := true, apart := false }
def RulesSoundSaid : Prop := rulesSoundRow.holds Tryz.pinned (OpenSpec.ofChange rulesSoundSpec)

/-- ITS FALSE NEIGHBOUR: 'it returns false'. Refute it at one input. -/
def rulesSoundWrong : ChangeSpec := { name := "rulesSound", fn := fun _ => fun
  | [d1, d2, d3] => { results := [.lit (.bool false)], args := [d1, d2, d3] }
  | _ => none }
def RulesSoundWrongFalsely : Prop := rulesSoundRow.holds Tryz.pinned (OpenSpec.ofChange rulesSoundWrong)

/-- 'paraphrastlaw07.RulesTexts': WHATEVER THE INPUT: true; the input reads as it did. -/
def rulesTextsSpec : ChangeSpec := { name := "rulesTexts", fn := fun _ => fun
  | [d1, d2] => { results := [.lit (.bool true)], args := [d1, d2] }
  | _ => none }
def rulesTextsRow : OpenClaim := { program := "ytmkffehchicgaaagreat", sum := "de28a7fe68e10ff0e8b24598a8d12a1191a2d7ea6c84b79bfc160e054c2194ad", func := "paraphrast/paraphrastlaw07.RulesTexts", spec := "rulesTexts", inPlace := ["internal/abi.NoEscape", "internal/bytealg.MakeNoZero"], unfollowed := true, recurses := true, apart := false }
def RulesTextsSaid : Prop := rulesTextsRow.holds Tryz.pinned (OpenSpec.ofChange rulesTextsSpec)

/-- ITS FALSE NEIGHBOUR: 'it returns false'. Refute it at one input. -/
def rulesTextsWrong : ChangeSpec := { name := "rulesTexts", fn := fun _ => fun
  | [d1, d2] => { results := [.lit (.bool false)], args := [d1, d2] }
  | _ => none }
def RulesTextsWrongFalsely : Prop := rulesTextsRow.holds Tryz.pinned (OpenSpec.ofChange rulesTextsWrong)

/-- 'paraphrastlaw07.RulesBack': WHATEVER THE INPUT: true; the input reads as it did. -/
def rulesBackSpec : ChangeSpec := { name := "rulesBack", fn := fun _ => fun
  | [d1, d2] => { results := [.lit (.bool true)], args := [d1, d2] }
  | _ => none }
def rulesBackRow : OpenClaim := { program := "ytmkffehchicgaaagreat", sum := "de28a7fe68e10ff0e8b24598a8d12a1191a2d7ea6c84b79bfc160e054c2194ad", func := "paraphrast/paraphrastlaw07.RulesBack", spec := "rulesBack", inPlace := ["internal/abi.NoEscape", "internal/bytealg.MakeNoZero"], unfollowed := true, recurses := true, apart := false }
def RulesBackSaid : Prop := rulesBackRow.holds Tryz.pinned (OpenSpec.ofChange rulesBackSpec)

/-- ITS FALSE NEIGHBOUR: 'it returns false'. Refute it at one input. -/
def rulesBackWrong : ChangeSpec := { name := "rulesBack", fn := fun _ => fun
  | [d1, d2] => { results := [.lit (.bool false)], args := [d1, d2] }
  | _ => none }
def RulesBackWrongFalsely : Prop := rulesBackRow.holds Tryz.pinned (OpenSpec.ofChange rulesBackWrong)

/- THE SECOND FORM. 'bulk': how many values and letters a reading holds, each counted each time it is reached (what is shared counts as often as it is met; a slice's spare places count too). A statement '..UptoSaid' is the law's where the arguments, and the package variables that the reading takes, are together of bulk at most 1048576: NARROWER than '..Said'. Prove '..Said' where nothing that the law and all that it calls make is longer than what came in: it says more and counts as full. Else prove '..UptoSaid'. A law counts once. -/
mutual
def uptoBulk {H : Type} : DataW H → Nat
  | .lit (.string bytes) => bytes.length + 1
  | .lit _ => 1
  | .nil => 1
  | .ptr d => uptoBulk d + 1
  | .slice elems spare => uptoBulkAll elems + uptoBulkAll spare + 1
  | .agg parts => uptoBulkAll parts + 1
  | .iface _ d => uptoBulk d + 1
  | .map entries => uptoBulkEntries entries + 1
  | .held _ => 1
def uptoBulkAll {H : Type} : List (DataW H) → Nat
  | [] => 0
  | d :: r => uptoBulk d + uptoBulkAll r
def uptoBulkEntries {H : Type} : List (Lit × DataW H) → Nat
  | [] => 0
  | x :: r => uptoBulkEntry x + uptoBulkEntries r
def uptoBulkEntry {H : Type} : Lit × DataW H → Nat
  | (.string bytes, d) => bytes.length + uptoBulk d + 1
  | (_, d) => uptoBulk d + 1
 end
def uptoSmall : (H : Type) → List (DataW H) → Bool := fun _ ds => decide (uptoBulkAll ds ≤ 1048576)
def OpenSpec.upto (s : _root_.Go.ChangeSpec) : _root_.Go.OpenSpec := { _root_.Go.OpenSpec.ofChange s with cond := some uptoSmall }

/-- 'paraphrastlaw07.RulesRuns', WHERE WHAT IT READS IS OF BULK AT MOST 1048576: true; the input reads as it did. -/
def rulesRunsUptoRow : OpenClaim := { program := "ytmkffehchicgaaagreat", sum := "de28a7fe68e10ff0e8b24598a8d12a1191a2d7ea6c84b79bfc160e054c2194ad", func := "paraphrast/paraphrastlaw07.RulesRuns", spec := "rulesRuns", unfollowed := true, recurses := true, apart := false, narrowed := true }
def RulesRunsUptoSaid : Prop := rulesRunsUptoRow.holds Tryz.pinned (OpenSpec.upto rulesRunsSpec)

/-- 'paraphrastlaw07.RulesLeast', WHERE WHAT IT READS IS OF BULK AT MOST 1048576: true; the input reads as it did. -/
def rulesLeastUptoRow : OpenClaim := { program := "ytmkffehchicgaaagreat", sum := "de28a7fe68e10ff0e8b24598a8d12a1191a2d7ea6c84b79bfc160e054c2194ad", func := "paraphrast/paraphrastlaw07.RulesLeast", spec := "rulesLeast", unfollowed := true, recurses := true, apart := false, narrowed := true }
def RulesLeastUptoSaid : Prop := rulesLeastUptoRow.holds Tryz.pinned (OpenSpec.upto rulesLeastSpec)

/-- 'paraphrastlaw07.RulesProofs', WHERE WHAT IT READS IS OF BULK AT MOST 1048576: true; the input reads as it did. -/
def rulesProofsUptoRow : OpenClaim := { program := "ytmkffehchicgaaagreat", sum := "de28a7fe68e10ff0e8b24598a8d12a1191a2d7ea6c84b79bfc160e054c2194ad", func := "paraphrast/paraphrastlaw07.RulesProofs", spec := "rulesProofs", unfollowed := true, recurses := true, apart := false, narrowed := true }
def RulesProofsUptoSaid : Prop := rulesProofsUptoRow.holds Tryz.pinned (OpenSpec.upto rulesProofsSpec)

/-- 'paraphrastlaw07.RulesChecks', WHERE WHAT IT READS IS OF BULK AT MOST 1048576: true; the input reads as it did. -/
def rulesChecksUptoRow : OpenClaim := { program := "ytmkffehchicgaaagreat", sum := "de28a7fe68e10ff0e8b24598a8d12a1191a2d7ea6c84b79bfc160e054c2194ad", func := "paraphrast/paraphrastlaw07.RulesChecks", spec := "rulesChecks", unfollowed := true, recurses := true, loops := true, apart := false, narrowed := true }
def RulesChecksUptoSaid : Prop := rulesChecksUptoRow.holds Tryz.pinned (OpenSpec.upto rulesChecksSpec)

/-- 'paraphrastlaw07.RulesLevels', WHERE WHAT IT READS IS OF BULK AT MOST 1048576: true; the input reads as it did. -/
def rulesLevelsUptoRow : OpenClaim := { program := "ytmkffehchicgaaagreat", sum := "de28a7fe68e10ff0e8b24598a8d12a1191a2d7ea6c84b79bfc160e054c2194ad", func := "paraphrast/paraphrastlaw07.RulesLevels", spec := "rulesLevels", unfollowed := true, recurses := true, apart := false, narrowed := true }
def RulesLevelsUptoSaid : Prop := rulesLevelsUptoRow.holds Tryz.pinned (OpenSpec.upto rulesLevelsSpec)

/-- 'paraphrastlaw07.RulesSound', WHERE WHAT IT READS IS OF BULK AT MOST 1048576: true; the input reads as it did. -/
def rulesSoundUptoRow : OpenClaim := { program := "ytmkffehchicgaaagreat", sum := "de28a7fe68e10ff0e8b24598a8d12a1191a2d7ea6c84b79bfc160e054c2194ad", func := "paraphrast/paraphrastlaw07.RulesSound", spec := "rulesSound", unfollowed := true, recurses := true, loops := true, apart := false, narrowed := true }
def RulesSoundUptoSaid : Prop := rulesSoundUptoRow.holds Tryz.pinned (OpenSpec.upto rulesSoundSpec)

/-- 'paraphrastlaw07.RulesTexts', WHERE WHAT IT READS IS OF BULK AT MOST 1048576: true; the input reads as it did. -/
def rulesTextsUptoRow : OpenClaim := { program := "ytmkffehchicgaaagreat", sum := "de28a7fe68e10ff0e8b24598a8d12a1191a2d7ea6c84b79bfc160e054c2194ad", func := "paraphrast/paraphrastlaw07.RulesTexts", spec := "rulesTexts", inPlace := ["internal/abi.NoEscape", "internal/bytealg.MakeNoZero"], unfollowed := true, recurses := true, apart := false, narrowed := true }
def RulesTextsUptoSaid : Prop := rulesTextsUptoRow.holds Tryz.pinned (OpenSpec.upto rulesTextsSpec)

/-- 'paraphrastlaw07.RulesBack', WHERE WHAT IT READS IS OF BULK AT MOST 1048576: true; the input reads as it did. -/
def rulesBackUptoRow : OpenClaim := { program := "ytmkffehchicgaaagreat", sum := "de28a7fe68e10ff0e8b24598a8d12a1191a2d7ea6c84b79bfc160e054c2194ad", func := "paraphrast/paraphrastlaw07.RulesBack", spec := "rulesBack", inPlace := ["internal/abi.NoEscape", "internal/bytealg.MakeNoZero"], unfollowed := true, recurses := true, apart := false, narrowed := true }
def RulesBackUptoSaid : Prop := rulesBackUptoRow.holds Tryz.pinned (OpenSpec.upto rulesBackSpec)

end Rows
end Go.Proofs.YtmkffehchicgaaaGreat
