/-
  DERIVED. GIVEN WITH THE SEED: THE CARDS: each row of YtbdnkneedengcaaGreatDoorRows.lean that lists a variable, with what it lists TIED to the program's text (the seventh form; the later family's looks); each row that meets fmt, with fmt's text TOLD by the authors' own Lean function (tested against real Go, not proved from fmt's source: count such statements apart). THE CARD IS WHAT COUNTS. Prove the row's statement (the work); the ties are given (YtbdnkneedengcaaGreatDoorTie.lean); close each card by the builder's one call (the guide's Derived/Test/ToyasCard.lean, 'card_holds'). Laid BY PROGRAM, IN A SANDBOX (cutbox-door.mjs). By AI agents, Wed Nov 11 2026. No macro, syntax, notation, axiom, sorry.
-/
import Derived.Test.YtbdnkneedengcaaGreatDoorRows
import GoSem.ClaimSeven
namespace Go.Proofs.YtbdnkneedengcaaGreatDoor
namespace Rows

/-- THE TIED CARD OF 'vouchlaw01.NatReckons'. -/
def natReckonsCard : Claim7 := { stood := { row := natReckonsRow, standIns := [], harness := (true, "f359f1ec3b8a34669a412f1fb12c4f4546e2aa5dd4fb8b79c44fe11e8264e144"), looks := true }, kinds := [], alts := [], laidByText := true, laidKinds := [.data, .data, .data, .data, .data, .data], laidTests := true, laidLooks := .later }
def NatReckonsCardSaid : Prop := Claim7.holds Tryz.pinned (.plain (OpenSpec.ofChange natReckonsSpec)) natReckonsCard

/-- THE TIED CARD OF 'vouchlaw01.NatMoves'. -/
def natMovesCard : Claim7 := { stood := { row := natMovesRow, standIns := [], harness := (true, "f359f1ec3b8a34669a412f1fb12c4f4546e2aa5dd4fb8b79c44fe11e8264e144"), looks := true }, kinds := [], alts := [], laidByText := true, laidKinds := [.data, .data, .data, .data, .data, .data], laidTests := true, laidLooks := .later }
def NatMovesCardSaid : Prop := Claim7.holds Tryz.pinned (.plain (OpenSpec.ofChange natMovesSpec)) natMovesCard

/-- THE TIED CARD OF 'vouchlaw01.NatReads'. -/
def natReadsCard : Claim7 := { stood := { row := natReadsRow, standIns := [], harness := (true, "f359f1ec3b8a34669a412f1fb12c4f4546e2aa5dd4fb8b79c44fe11e8264e144"), looks := true }, kinds := [], alts := [], laidByText := true, laidKinds := [.data, .data, .data, .data, .data, .data, .data, .sentinel, .sentinel, .pinned], laidTests := true, laidLooks := .later }
def NatReadsCardSaid : Prop := Claim7.holds Tryz.pinned (.plain (OpenSpec.ofChange natReadsSpec)) natReadsCard

/-- THE TIED CARD OF 'vouchlaw01.NatBack'. -/
def natBackCard : Claim7 := { stood := { row := natBackRow, standIns := [], harness := (true, "f359f1ec3b8a34669a412f1fb12c4f4546e2aa5dd4fb8b79c44fe11e8264e144"), looks := true }, kinds := [], alts := [], laidByText := true, laidKinds := [.data, .data, .data, .data, .data, .data, .data, .sentinel, .sentinel, .pinned], laidTests := true, laidLooks := .later }
def NatBackCardSaid : Prop := Claim7.holds Tryz.pinned (.plain (OpenSpec.ofChange natBackSpec)) natBackCard

/-- THE TIED CARD OF 'vouchlaw01.NatKnown'. -/
def natKnownCard : Claim7 := { stood := { row := natKnownRow, standIns := [], harness := (true, "f359f1ec3b8a34669a412f1fb12c4f4546e2aa5dd4fb8b79c44fe11e8264e144"), looks := true }, kinds := [], alts := [], laidByText := true, laidKinds := [.data, .data, .data, .data, .data, .data, .data, .sentinel, .sentinel, .pinned], laidTests := true, laidLooks := .later }
def NatKnownCardSaid : Prop := Claim7.holds Tryz.pinned (.plain (OpenSpec.ofChange natKnownSpec)) natKnownCard

/-- THE SECOND FORM's CARD OF 'vouchlaw01.NatReckons'. -/
def natReckonsUptoCard : Claim7 := { stood := { row := natReckonsUptoRow, standIns := [], harness := (true, "f359f1ec3b8a34669a412f1fb12c4f4546e2aa5dd4fb8b79c44fe11e8264e144"), looks := true }, kinds := [], alts := [], laidByText := true, laidKinds := [.data, .data, .data, .data, .data, .data], laidTests := true, laidLooks := .later }
def NatReckonsUptoCardSaid : Prop := Claim7.holds Tryz.pinned (.plain (OpenSpec.upto natReckonsSpec)) natReckonsUptoCard

/-- THE SECOND FORM's CARD OF 'vouchlaw01.NatMoves'. -/
def natMovesUptoCard : Claim7 := { stood := { row := natMovesUptoRow, standIns := [], harness := (true, "f359f1ec3b8a34669a412f1fb12c4f4546e2aa5dd4fb8b79c44fe11e8264e144"), looks := true }, kinds := [], alts := [], laidByText := true, laidKinds := [.data, .data, .data, .data, .data, .data], laidTests := true, laidLooks := .later }
def NatMovesUptoCardSaid : Prop := Claim7.holds Tryz.pinned (.plain (OpenSpec.upto natMovesSpec)) natMovesUptoCard

/-- THE SECOND FORM's CARD OF 'vouchlaw01.NatReads'. -/
def natReadsUptoCard : Claim7 := { stood := { row := natReadsUptoRow, standIns := [], harness := (true, "f359f1ec3b8a34669a412f1fb12c4f4546e2aa5dd4fb8b79c44fe11e8264e144"), looks := true }, kinds := [], alts := [], laidByText := true, laidKinds := [.data, .data, .data, .data, .data, .data, .data, .sentinel, .sentinel, .pinned], laidTests := true, laidLooks := .later }
def NatReadsUptoCardSaid : Prop := Claim7.holds Tryz.pinned (.plain (OpenSpec.upto natReadsSpec)) natReadsUptoCard

/-- THE SECOND FORM's CARD OF 'vouchlaw01.NatBack'. -/
def natBackUptoCard : Claim7 := { stood := { row := natBackUptoRow, standIns := [], harness := (true, "f359f1ec3b8a34669a412f1fb12c4f4546e2aa5dd4fb8b79c44fe11e8264e144"), looks := true }, kinds := [], alts := [], laidByText := true, laidKinds := [.data, .data, .data, .data, .data, .data, .data, .sentinel, .sentinel, .pinned], laidTests := true, laidLooks := .later }
def NatBackUptoCardSaid : Prop := Claim7.holds Tryz.pinned (.plain (OpenSpec.upto natBackSpec)) natBackUptoCard

/-- THE SECOND FORM's CARD OF 'vouchlaw01.NatKnown'. -/
def natKnownUptoCard : Claim7 := { stood := { row := natKnownUptoRow, standIns := [], harness := (true, "f359f1ec3b8a34669a412f1fb12c4f4546e2aa5dd4fb8b79c44fe11e8264e144"), looks := true }, kinds := [], alts := [], laidByText := true, laidKinds := [.data, .data, .data, .data, .data, .data, .data, .sentinel, .sentinel, .pinned], laidTests := true, laidLooks := .later }
def NatKnownUptoCardSaid : Prop := Claim7.holds Tryz.pinned (.plain (OpenSpec.upto natKnownSpec)) natKnownUptoCard
end Rows
end Go.Proofs.YtbdnkneedengcaaGreatDoor
