/-
  No cell of these rows narrows 'for every input' (looked for: loops, veiled, ifaces, maps, wideKeys, modest, calm, conditions, laid).
  DERIVED. THE GIVEN ROWS OF THIS SEAT. 7 by the template 'for every input the law returns true; each argument reads behind the call as it read before'; 0 by the template 'total and deterministic' (their statements: YtfdanacohcffmaaGreatTotals.lean).
  GIVEN WITH THE SEED: the statements are not yours to turn. If you find one false, say at which input.
  Laid BY PROGRAM, IN A SANDBOX (cutbox-rows.mjs): the forced cells as the released guide's own fill.sh prints them over the translation 91f24ec4eaefb89a… (all of the seat's roots in one cut). By AI agents, Wed Nov 11 2026. No macro, syntax, notation, axiom, sorry.
-/
import Derived.Test.YtfdanacohcffmaaGreatChecked
import GoSem.Claim
import GoSem.ClaimJoined
import GoSem.ClaimMapViews
import Derived.JoinedTies
import Derived.KernelRfl
namespace Go.Proofs.YtfdanacohcffmaaGreat
/- THE CELL 'sum', in the pinned program and in every row, IS THE sha256 OF THE DUMP (.gsa) THAT YtfdanacohcffmaaGreatProg.lean LOADS. Nothing in Lean hashes anything: it is a label: what it is worth is what the hold of that sum in a sandbox is worth. -/
noncomputable def Tryz.pinned : Pinned := { name := "ytfdanacohcffmaagreat", sum := "91f24ec4eaefb89a50d148cb70e8b8020d41bd0979012911f0e1d5db17e9a8f2", checked := Tryz.checked }
namespace Rows
def none {H : Type} : Left H := { results := [], args := [] }

/-- 'paraphrastlaw08.KeepFacts': WHATEVER THE INPUT: true; the input reads as it did. -/
def keepFactsSpec : ChangeSpec := { name := "keepFacts", fn := fun _ => fun
  | [d1, d2, d3] => { results := [.lit (.bool true)], args := [d1, d2, d3] }
  | _ => none }
def keepFactsRow : OpenClaim := { program := "ytfdanacohcffmaagreat", sum := "91f24ec4eaefb89a50d148cb70e8b8020d41bd0979012911f0e1d5db17e9a8f2", func := "paraphrast/paraphrastlaw08.KeepFacts", spec := "keepFacts", inPlace := ["slices.overlaps[[]int]"], unfollowed := true, recurses := true, apart := false }
def KeepFactsSaid : Prop := keepFactsRow.holds Tryz.pinned (OpenSpec.ofChange keepFactsSpec)

/-- ITS FALSE NEIGHBOUR: 'it returns false'. Refute it at one input. -/
def keepFactsWrong : ChangeSpec := { name := "keepFacts", fn := fun _ => fun
  | [d1, d2, d3] => { results := [.lit (.bool false)], args := [d1, d2, d3] }
  | _ => none }
def KeepFactsWrongFalsely : Prop := keepFactsRow.holds Tryz.pinned (OpenSpec.ofChange keepFactsWrong)

/-- 'paraphrastlaw08.KeepOrder': WHATEVER THE INPUT: true; the input reads as it did. -/
def keepOrderSpec : ChangeSpec := { name := "keepOrder", fn := fun _ => fun
  | [d1, d2, d3] => { results := [.lit (.bool true)], args := [d1, d2, d3] }
  | _ => none }
def keepOrderRow : OpenClaim := { program := "ytfdanacohcffmaagreat", sum := "91f24ec4eaefb89a50d148cb70e8b8020d41bd0979012911f0e1d5db17e9a8f2", func := "paraphrast/paraphrastlaw08.KeepOrder", spec := "keepOrder", inPlace := ["slices.overlaps[[]int]"], unfollowed := true, recurses := true, apart := false }
def KeepOrderSaid : Prop := keepOrderRow.holds Tryz.pinned (OpenSpec.ofChange keepOrderSpec)

/-- ITS FALSE NEIGHBOUR: 'it returns false'. Refute it at one input. -/
def keepOrderWrong : ChangeSpec := { name := "keepOrder", fn := fun _ => fun
  | [d1, d2, d3] => { results := [.lit (.bool false)], args := [d1, d2, d3] }
  | _ => none }
def KeepOrderWrongFalsely : Prop := keepOrderRow.holds Tryz.pinned (OpenSpec.ofChange keepOrderWrong)

/-- 'paraphrastlaw08.KeepUndone': WHATEVER THE INPUT: true; the input reads as it did. -/
def keepUndoneSpec : ChangeSpec := { name := "keepUndone", fn := fun _ => fun
  | [d1, d2, d3] => { results := [.lit (.bool true)], args := [d1, d2, d3] }
  | _ => none }
def keepUndoneRow : OpenClaim := { program := "ytfdanacohcffmaagreat", sum := "91f24ec4eaefb89a50d148cb70e8b8020d41bd0979012911f0e1d5db17e9a8f2", func := "paraphrast/paraphrastlaw08.KeepUndone", spec := "keepUndone", inPlace := ["slices.overlaps[[]int]"], unfollowed := true, recurses := true, apart := false }
def KeepUndoneSaid : Prop := keepUndoneRow.holds Tryz.pinned (OpenSpec.ofChange keepUndoneSpec)

/-- ITS FALSE NEIGHBOUR: 'it returns false'. Refute it at one input. -/
def keepUndoneWrong : ChangeSpec := { name := "keepUndone", fn := fun _ => fun
  | [d1, d2, d3] => { results := [.lit (.bool false)], args := [d1, d2, d3] }
  | _ => none }
def KeepUndoneWrongFalsely : Prop := keepUndoneRow.holds Tryz.pinned (OpenSpec.ofChange keepUndoneWrong)

/-- 'paraphrastlaw08.KeepOwn': WHATEVER THE INPUT: true; the input reads as it did. -/
def keepOwnSpec : ChangeSpec := { name := "keepOwn", fn := fun _ => fun
  | [d1, d2, d3] => { results := [.lit (.bool true)], args := [d1, d2, d3] }
  | _ => none }
def keepOwnRow : OpenClaim := { program := "ytfdanacohcffmaagreat", sum := "91f24ec4eaefb89a50d148cb70e8b8020d41bd0979012911f0e1d5db17e9a8f2", func := "paraphrast/paraphrastlaw08.KeepOwn", spec := "keepOwn", inPlace := ["slices.overlaps[[]int]"], unfollowed := true, recurses := true, apart := false }
def KeepOwnSaid : Prop := keepOwnRow.holds Tryz.pinned (OpenSpec.ofChange keepOwnSpec)

/-- ITS FALSE NEIGHBOUR: 'it returns false'. Refute it at one input. -/
def keepOwnWrong : ChangeSpec := { name := "keepOwn", fn := fun _ => fun
  | [d1, d2, d3] => { results := [.lit (.bool false)], args := [d1, d2, d3] }
  | _ => none }
def KeepOwnWrongFalsely : Prop := keepOwnRow.holds Tryz.pinned (OpenSpec.ofChange keepOwnWrong)

/-- 'paraphrastlaw08.KeepDerived': WHATEVER THE INPUT: true; the input reads as it did. -/
def keepDerivedSpec : ChangeSpec := { name := "keepDerived", fn := fun _ => fun
  | [d1, d2, d3] => { results := [.lit (.bool true)], args := [d1, d2, d3] }
  | _ => none }
def keepDerivedRow : OpenClaim := { program := "ytfdanacohcffmaagreat", sum := "91f24ec4eaefb89a50d148cb70e8b8020d41bd0979012911f0e1d5db17e9a8f2", func := "paraphrast/paraphrastlaw08.KeepDerived", spec := "keepDerived", inPlace := ["slices.overlaps[[]int]"], unfollowed := true, recurses := true, apart := false }
def KeepDerivedSaid : Prop := keepDerivedRow.holds Tryz.pinned (OpenSpec.ofChange keepDerivedSpec)

/-- ITS FALSE NEIGHBOUR: 'it returns false'. Refute it at one input. -/
def keepDerivedWrong : ChangeSpec := { name := "keepDerived", fn := fun _ => fun
  | [d1, d2, d3] => { results := [.lit (.bool false)], args := [d1, d2, d3] }
  | _ => none }
def KeepDerivedWrongFalsely : Prop := keepDerivedRow.holds Tryz.pinned (OpenSpec.ofChange keepDerivedWrong)

/-- 'paraphrastlaw08.KeepPlays': WHATEVER THE INPUT: true; the input reads as it did. -/
def keepPlaysSpec : ChangeSpec := { name := "keepPlays", fn := fun _ => fun
  | [d1, d2, d3] => { results := [.lit (.bool true)], args := [d1, d2, d3] }
  | _ => none }
def keepPlaysRow : OpenClaim := { program := "ytfdanacohcffmaagreat", sum := "91f24ec4eaefb89a50d148cb70e8b8020d41bd0979012911f0e1d5db17e9a8f2", func := "paraphrast/paraphrastlaw08.KeepPlays", spec := "keepPlays", inPlace := ["slices.overlaps[[]int]"], unfollowed := true, recurses := true, apart := false }
def KeepPlaysSaid : Prop := keepPlaysRow.holds Tryz.pinned (OpenSpec.ofChange keepPlaysSpec)

/-- ITS FALSE NEIGHBOUR: 'it returns false'. Refute it at one input. -/
def keepPlaysWrong : ChangeSpec := { name := "keepPlays", fn := fun _ => fun
  | [d1, d2, d3] => { results := [.lit (.bool false)], args := [d1, d2, d3] }
  | _ => none }
def KeepPlaysWrongFalsely : Prop := keepPlaysRow.holds Tryz.pinned (OpenSpec.ofChange keepPlaysWrong)

/-- 'paraphrastlaw08.KeepNone': WHATEVER THE INPUT: true; the input reads as it did. -/
def keepNoneSpec : ChangeSpec := { name := "keepNone", fn := fun _ => fun
  | [d1, d2, d3] => { results := [.lit (.bool true)], args := [d1, d2, d3] }
  | _ => none }
def keepNoneRow : OpenClaim := { program := "ytfdanacohcffmaagreat", sum := "91f24ec4eaefb89a50d148cb70e8b8020d41bd0979012911f0e1d5db17e9a8f2", func := "paraphrast/paraphrastlaw08.KeepNone", spec := "keepNone", inPlace := ["slices.overlaps[[]int]"], unfollowed := true, recurses := true, apart := false }
def KeepNoneSaid : Prop := keepNoneRow.holds Tryz.pinned (OpenSpec.ofChange keepNoneSpec)

/-- ITS FALSE NEIGHBOUR: 'it returns false'. Refute it at one input. -/
def keepNoneWrong : ChangeSpec := { name := "keepNone", fn := fun _ => fun
  | [d1, d2, d3] => { results := [.lit (.bool false)], args := [d1, d2, d3] }
  | _ => none }
def KeepNoneWrongFalsely : Prop := keepNoneRow.holds Tryz.pinned (OpenSpec.ofChange keepNoneWrong)

/- THE SECOND FORM. 'bulk': how many values and letters a reading holds, each counted each time it is reached (what is shared counts as often as it is met; a slice's spare places count too). A statement '..UptoSaid' is the law's where the arguments, and the package variables that the reading takes, are together of bulk at most 1048576: NARROWER than '..Said'. Prove '..Said' where nothing that the law and all that it calls make is longer than what came in: it says more and counts as full. Else prove '..UptoSaid'. A law counts once. -/
mutual
def uptoBulk {H : Type} : DataW H → Nat
  | .lit (.string bytes) => bytes.length + 1
  | .lit _ => 1
  | .nil => 1
  | .ptr d => uptoBulk d + 1
  | .slice elems spare => uptoBulkAll elems + uptoBulkAll spare + 1
  | .agg parts => uptoBulkAll parts + 1
  | .iface _ d => uptoBulk d + 1
  | .map entries => uptoBulkEntries entries + 1
  | .held _ => 1
def uptoBulkAll {H : Type} : List (DataW H) → Nat
  | [] => 0
  | d :: r => uptoBulk d + uptoBulkAll r
def uptoBulkEntries {H : Type} : List (Lit × DataW H) → Nat
  | [] => 0
  | x :: r => uptoBulkEntry x + uptoBulkEntries r
def uptoBulkEntry {H : Type} : Lit × DataW H → Nat
  | (.string bytes, d) => bytes.length + uptoBulk d + 1
  | (_, d) => uptoBulk d + 1
 end
def uptoSmall : (H : Type) → List (DataW H) → Bool := fun _ ds => decide (uptoBulkAll ds ≤ 1048576)
def OpenSpec.upto (s : _root_.Go.ChangeSpec) : _root_.Go.OpenSpec := { _root_.Go.OpenSpec.ofChange s with cond := some uptoSmall }

/-- 'paraphrastlaw08.KeepFacts', WHERE WHAT IT READS IS OF BULK AT MOST 1048576: true; the input reads as it did. -/
def keepFactsUptoRow : OpenClaim := { program := "ytfdanacohcffmaagreat", sum := "91f24ec4eaefb89a50d148cb70e8b8020d41bd0979012911f0e1d5db17e9a8f2", func := "paraphrast/paraphrastlaw08.KeepFacts", spec := "keepFacts", inPlace := ["slices.overlaps[[]int]"], unfollowed := true, recurses := true, apart := false, narrowed := true }
def KeepFactsUptoSaid : Prop := keepFactsUptoRow.holds Tryz.pinned (OpenSpec.upto keepFactsSpec)

/-- 'paraphrastlaw08.KeepOrder', WHERE WHAT IT READS IS OF BULK AT MOST 1048576: true; the input reads as it did. -/
def keepOrderUptoRow : OpenClaim := { program := "ytfdanacohcffmaagreat", sum := "91f24ec4eaefb89a50d148cb70e8b8020d41bd0979012911f0e1d5db17e9a8f2", func := "paraphrast/paraphrastlaw08.KeepOrder", spec := "keepOrder", inPlace := ["slices.overlaps[[]int]"], unfollowed := true, recurses := true, apart := false, narrowed := true }
def KeepOrderUptoSaid : Prop := keepOrderUptoRow.holds Tryz.pinned (OpenSpec.upto keepOrderSpec)

/-- 'paraphrastlaw08.KeepUndone', WHERE WHAT IT READS IS OF BULK AT MOST 1048576: true; the input reads as it did. -/
def keepUndoneUptoRow : OpenClaim := { program := "ytfdanacohcffmaagreat", sum := "91f24ec4eaefb89a50d148cb70e8b8020d41bd0979012911f0e1d5db17e9a8f2", func := "paraphrast/paraphrastlaw08.KeepUndone", spec := "keepUndone", inPlace := ["slices.overlaps[[]int]"], unfollowed := true, recurses := true, apart := false, narrowed := true }
def KeepUndoneUptoSaid : Prop := keepUndoneUptoRow.holds Tryz.pinned (OpenSpec.upto keepUndoneSpec)

/-- 'paraphrastlaw08.KeepOwn', WHERE WHAT IT READS IS OF BULK AT MOST 1048576: true; the input reads as it did. -/
def keepOwnUptoRow : OpenClaim := { program := "ytfdanacohcffmaagreat", sum := "91f24ec4eaefb89a50d148cb70e8b8020d41bd0979012911f0e1d5db17e9a8f2", func := "paraphrast/paraphrastlaw08.KeepOwn", spec := "keepOwn", inPlace := ["slices.overlaps[[]int]"], unfollowed := true, recurses := true, apart := false, narrowed := true }
def KeepOwnUptoSaid : Prop := keepOwnUptoRow.holds Tryz.pinned (OpenSpec.upto keepOwnSpec)

/-- 'paraphrastlaw08.KeepDerived', WHERE WHAT IT READS IS OF BULK AT MOST 1048576: true; the input reads as it did. -/
def keepDerivedUptoRow : OpenClaim := { program := "ytfdanacohcffmaagreat", sum := "91f24ec4eaefb89a50d148cb70e8b8020d41bd0979012911f0e1d5db17e9a8f2", func := "paraphrast/paraphrastlaw08.KeepDerived", spec := "keepDerived", inPlace := ["slices.overlaps[[]int]"], unfollowed := true, recurses := true, apart := false, narrowed := true }
def KeepDerivedUptoSaid : Prop := keepDerivedUptoRow.holds Tryz.pinned (OpenSpec.upto keepDerivedSpec)

/-- 'paraphrastlaw08.KeepPlays', WHERE WHAT IT READS IS OF BULK AT MOST 1048576: true; the input reads as it did. -/
def keepPlaysUptoRow : OpenClaim := { program := "ytfdanacohcffmaagreat", sum := "91f24ec4eaefb89a50d148cb70e8b8020d41bd0979012911f0e1d5db17e9a8f2", func := "paraphrast/paraphrastlaw08.KeepPlays", spec := "keepPlays", inPlace := ["slices.overlaps[[]int]"], unfollowed := true, recurses := true, apart := false, narrowed := true }
def KeepPlaysUptoSaid : Prop := keepPlaysUptoRow.holds Tryz.pinned (OpenSpec.upto keepPlaysSpec)

/-- 'paraphrastlaw08.KeepNone', WHERE WHAT IT READS IS OF BULK AT MOST 1048576: true; the input reads as it did. -/
def keepNoneUptoRow : OpenClaim := { program := "ytfdanacohcffmaagreat", sum := "91f24ec4eaefb89a50d148cb70e8b8020d41bd0979012911f0e1d5db17e9a8f2", func := "paraphrast/paraphrastlaw08.KeepNone", spec := "keepNone", inPlace := ["slices.overlaps[[]int]"], unfollowed := true, recurses := true, apart := false, narrowed := true }
def KeepNoneUptoSaid : Prop := keepNoneUptoRow.holds Tryz.pinned (OpenSpec.upto keepNoneSpec)

end Rows
end Go.Proofs.YtfdanacohcffmaaGreat
