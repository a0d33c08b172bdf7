/-
  DERIVED. GIVEN WITH THE SEED: THE CARDS: each row of YthmbnnjimbjplaaGreatDoorRows.lean that lists a variable, with what it lists TIED to the program's text (the seventh form; the later family's looks); each row that meets fmt, with fmt's text TOLD by the authors' own Lean function (tested against real Go, not proved from fmt's source: count such statements apart). THE CARD IS WHAT COUNTS. Prove the row's statement (the work); the ties are given (YthmbnnjimbjplaaGreatDoorTie.lean); close each card by the builder's one call (the guide's Derived/Test/ToyasCard.lean, 'card_holds'). Laid BY PROGRAM, IN A SANDBOX (cutbox-door.mjs). By AI agents, Wed Nov 11 2026. No macro, syntax, notation, axiom, sorry.
-/
import Derived.Test.YthmbnnjimbjplaaGreatDoorRows
import GoSem.ClaimSeven
namespace Go.Proofs.YthmbnnjimbjplaaGreatDoor
namespace Rows

/-- THE TIED CARD OF 'paraphrastlaw11.GateValid'. -/
def gateValidCard : Claim7 := { stood := { row := gateValidRow, standIns := [], harness := (true, "682b77736fb6ecc668a96d87b6e2caa7b5e541bbb29003d9383514afc2fa3038"), looks := true }, kinds := [], alts := [], laidByText := true, laidKinds := [.data, .data, .data], laidTests := true, laidLooks := .later }
def GateValidCardSaid : Prop := Claim7.holds Tryz.pinned (.plain (OpenSpec.ofChange gateValidSpec)) gateValidCard

/-- THE TIED CARD OF 'paraphrastlaw11.GateRuns'. -/
def gateRunsCard : Claim7 := { stood := { row := gateRunsRow, standIns := [], harness := (true, "682b77736fb6ecc668a96d87b6e2caa7b5e541bbb29003d9383514afc2fa3038"), looks := true }, kinds := [], alts := [], laidByText := true, laidKinds := [.data, .data, .data], laidTests := true, laidLooks := .later }
def GateRunsCardSaid : Prop := Claim7.holds Tryz.pinned (.plain (OpenSpec.ofChange gateRunsSpec)) gateRunsCard

/-- THE TIED CARD OF 'paraphrastlaw11.GateFrom'. -/
def gateFromCard : Claim7 := { stood := { row := gateFromRow, standIns := [], harness := (true, "682b77736fb6ecc668a96d87b6e2caa7b5e541bbb29003d9383514afc2fa3038"), looks := true }, kinds := [], alts := [], laidByText := true, laidKinds := [.data, .data, .data], laidTests := true, laidLooks := .later }
def GateFromCardSaid : Prop := Claim7.holds Tryz.pinned (.plain (OpenSpec.ofChange gateFromSpec)) gateFromCard

/-- THE TIED CARD OF 'paraphrastlaw11.GateMonotone'. -/
def gateMonotoneCard : Claim7 := { stood := { row := gateMonotoneRow, standIns := [], harness := (true, "682b77736fb6ecc668a96d87b6e2caa7b5e541bbb29003d9383514afc2fa3038"), looks := true }, kinds := [], alts := [], laidByText := true, laidKinds := [.data, .data, .data], laidTests := true, laidLooks := .later }
def GateMonotoneCardSaid : Prop := Claim7.holds Tryz.pinned (.plain (OpenSpec.ofChange gateMonotoneSpec)) gateMonotoneCard

/-- THE TIED CARD OF 'paraphrastlaw11.GateFlips'. -/
def gateFlipsCard : Claim7 := { stood := { row := gateFlipsRow, standIns := [], harness := (true, "682b77736fb6ecc668a96d87b6e2caa7b5e541bbb29003d9383514afc2fa3038"), looks := true }, kinds := [], alts := [], laidByText := true, laidKinds := [.data, .data, .data], laidTests := true, laidLooks := .later }
def GateFlipsCardSaid : Prop := Claim7.holds Tryz.pinned (.plain (OpenSpec.ofChange gateFlipsSpec)) gateFlipsCard

/-- THE TIED CARD OF 'paraphrastlaw11.GateSlim'. -/
def gateSlimCard : Claim7 := { stood := { row := gateSlimRow, standIns := [], harness := (true, "682b77736fb6ecc668a96d87b6e2caa7b5e541bbb29003d9383514afc2fa3038"), looks := true }, kinds := [], alts := [], laidByText := true, laidKinds := [.data, .data, .data], laidTests := true, laidLooks := .later }
def GateSlimCardSaid : Prop := Claim7.holds Tryz.pinned (.plain (OpenSpec.ofChange gateSlimSpec)) gateSlimCard

/-- THE TIED CARD OF 'paraphrastlaw11.GateOwn'. -/
def gateOwnCard : Claim7 := { stood := { row := gateOwnRow, standIns := [], harness := (true, "682b77736fb6ecc668a96d87b6e2caa7b5e541bbb29003d9383514afc2fa3038"), looks := true }, kinds := [], alts := [], laidByText := true, laidKinds := [.data, .data, .data], laidTests := true, laidLooks := .later }
def GateOwnCardSaid : Prop := Claim7.holds Tryz.pinned (.plain (OpenSpec.ofChange gateOwnSpec)) gateOwnCard

/-- THE TIED CARD OF 'paraphrastlaw11.GateTurns'. -/
def gateTurnsCard : Claim7 := { stood := { row := gateTurnsRow, standIns := [], harness := (true, "682b77736fb6ecc668a96d87b6e2caa7b5e541bbb29003d9383514afc2fa3038"), looks := true }, kinds := [], alts := [], laidByText := true, laidKinds := [.data, .data, .data], laidTests := true, laidLooks := .later }
def GateTurnsCardSaid : Prop := Claim7.holds Tryz.pinned (.plain (OpenSpec.ofChange gateTurnsSpec)) gateTurnsCard

/-- THE SECOND FORM's CARD OF 'paraphrastlaw11.GateValid'. -/
def gateValidUptoCard : Claim7 := { stood := { row := gateValidUptoRow, standIns := [], harness := (true, "682b77736fb6ecc668a96d87b6e2caa7b5e541bbb29003d9383514afc2fa3038"), looks := true }, kinds := [], alts := [], laidByText := true, laidKinds := [.data, .data, .data], laidTests := true, laidLooks := .later }
def GateValidUptoCardSaid : Prop := Claim7.holds Tryz.pinned (.plain (OpenSpec.upto gateValidSpec)) gateValidUptoCard

/-- THE SECOND FORM's CARD OF 'paraphrastlaw11.GateRuns'. -/
def gateRunsUptoCard : Claim7 := { stood := { row := gateRunsUptoRow, standIns := [], harness := (true, "682b77736fb6ecc668a96d87b6e2caa7b5e541bbb29003d9383514afc2fa3038"), looks := true }, kinds := [], alts := [], laidByText := true, laidKinds := [.data, .data, .data], laidTests := true, laidLooks := .later }
def GateRunsUptoCardSaid : Prop := Claim7.holds Tryz.pinned (.plain (OpenSpec.upto gateRunsSpec)) gateRunsUptoCard

/-- THE SECOND FORM's CARD OF 'paraphrastlaw11.GateFrom'. -/
def gateFromUptoCard : Claim7 := { stood := { row := gateFromUptoRow, standIns := [], harness := (true, "682b77736fb6ecc668a96d87b6e2caa7b5e541bbb29003d9383514afc2fa3038"), looks := true }, kinds := [], alts := [], laidByText := true, laidKinds := [.data, .data, .data], laidTests := true, laidLooks := .later }
def GateFromUptoCardSaid : Prop := Claim7.holds Tryz.pinned (.plain (OpenSpec.upto gateFromSpec)) gateFromUptoCard

/-- THE SECOND FORM's CARD OF 'paraphrastlaw11.GateMonotone'. -/
def gateMonotoneUptoCard : Claim7 := { stood := { row := gateMonotoneUptoRow, standIns := [], harness := (true, "682b77736fb6ecc668a96d87b6e2caa7b5e541bbb29003d9383514afc2fa3038"), looks := true }, kinds := [], alts := [], laidByText := true, laidKinds := [.data, .data, .data], laidTests := true, laidLooks := .later }
def GateMonotoneUptoCardSaid : Prop := Claim7.holds Tryz.pinned (.plain (OpenSpec.upto gateMonotoneSpec)) gateMonotoneUptoCard

/-- THE SECOND FORM's CARD OF 'paraphrastlaw11.GateFlips'. -/
def gateFlipsUptoCard : Claim7 := { stood := { row := gateFlipsUptoRow, standIns := [], harness := (true, "682b77736fb6ecc668a96d87b6e2caa7b5e541bbb29003d9383514afc2fa3038"), looks := true }, kinds := [], alts := [], laidByText := true, laidKinds := [.data, .data, .data], laidTests := true, laidLooks := .later }
def GateFlipsUptoCardSaid : Prop := Claim7.holds Tryz.pinned (.plain (OpenSpec.upto gateFlipsSpec)) gateFlipsUptoCard

/-- THE SECOND FORM's CARD OF 'paraphrastlaw11.GateSlim'. -/
def gateSlimUptoCard : Claim7 := { stood := { row := gateSlimUptoRow, standIns := [], harness := (true, "682b77736fb6ecc668a96d87b6e2caa7b5e541bbb29003d9383514afc2fa3038"), looks := true }, kinds := [], alts := [], laidByText := true, laidKinds := [.data, .data, .data], laidTests := true, laidLooks := .later }
def GateSlimUptoCardSaid : Prop := Claim7.holds Tryz.pinned (.plain (OpenSpec.upto gateSlimSpec)) gateSlimUptoCard

/-- THE SECOND FORM's CARD OF 'paraphrastlaw11.GateOwn'. -/
def gateOwnUptoCard : Claim7 := { stood := { row := gateOwnUptoRow, standIns := [], harness := (true, "682b77736fb6ecc668a96d87b6e2caa7b5e541bbb29003d9383514afc2fa3038"), looks := true }, kinds := [], alts := [], laidByText := true, laidKinds := [.data, .data, .data], laidTests := true, laidLooks := .later }
def GateOwnUptoCardSaid : Prop := Claim7.holds Tryz.pinned (.plain (OpenSpec.upto gateOwnSpec)) gateOwnUptoCard

/-- THE SECOND FORM's CARD OF 'paraphrastlaw11.GateTurns'. -/
def gateTurnsUptoCard : Claim7 := { stood := { row := gateTurnsUptoRow, standIns := [], harness := (true, "682b77736fb6ecc668a96d87b6e2caa7b5e541bbb29003d9383514afc2fa3038"), looks := true }, kinds := [], alts := [], laidByText := true, laidKinds := [.data, .data, .data], laidTests := true, laidLooks := .later }
def GateTurnsUptoCardSaid : Prop := Claim7.holds Tryz.pinned (.plain (OpenSpec.upto gateTurnsSpec)) gateTurnsUptoCard
end Rows
end Go.Proofs.YthmbnnjimbjplaaGreatDoor
