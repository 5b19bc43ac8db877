/-
  DERIVED. GIVEN WITH THE SEED: THE CARDS: each row of YtkiecgkgbogbaaaDoorRows.lean that lists a variable, with what it lists TIED to the program's text (the seventh form; the later family's looks); each row that meets fmt, with fmt's text TOLD by the authors' own Lean function (tested against real Go, not proved from fmt's source: count such statements apart). THE CARD IS WHAT COUNTS. Prove the row's statement (the work); the ties are given (YtkiecgkgbogbaaaDoorTie.lean); close each card by the builder's one call (the guide's Derived/Test/ToyasCard.lean, 'card_holds'). Laid BY PROGRAM, IN A SANDBOX (cutbox-door.mjs). By AI agents, Wed Nov 11 2026. No macro, syntax, notation, axiom, sorry.
-/
import Derived.Test.YtkiecgkgbogbaaaDoorRows
import GoSem.ClaimSeven
namespace Go.Proofs.YtkiecgkgbogbaaaDoor
namespace Rows

/-- THE TIED CARD OF 'vouchlaw06.CodingTells'. -/
def codingTellsCard : Claim7 := { stood := { row := codingTellsRow, standIns := [], harness := (true, "f8b44dcaa85ac0566c79ab81753e15c4d3dda83bef56da4901400e8532865c88"), looks := false }, kinds := [], alts := [], laidByText := true, laidKinds := [.data], laidTests := true, laidLooks := .later }
def CodingTellsCardSaid : Prop := Claim7.holds Tryd.pinned (.plain (OpenSpec.ofChange codingTellsSpec)) codingTellsCard

/-- THE TIED CARD OF 'vouchlaw06.CodingReads'. -/
def codingReadsCard : Claim7 := { stood := { row := codingReadsRow, standIns := [], harness := (true, "f8b44dcaa85ac0566c79ab81753e15c4d3dda83bef56da4901400e8532865c88"), looks := false }, kinds := [], alts := [], laidByText := true, laidKinds := [.data], laidTests := true, laidLooks := .later }
def CodingReadsCardSaid : Prop := Claim7.holds Tryd.pinned (.plain (OpenSpec.ofChange codingReadsSpec)) codingReadsCard

/-- THE TIED CARD OF 'vouchlaw06.CodingBack'. -/
def codingBackCard : Claim7 := { stood := { row := codingBackRow, standIns := [], harness := (true, "f8b44dcaa85ac0566c79ab81753e15c4d3dda83bef56da4901400e8532865c88"), looks := false }, kinds := [], alts := [], laidByText := true, laidKinds := [.data], laidTests := true, laidLooks := .later }
def CodingBackCardSaid : Prop := Claim7.holds Tryd.pinned (.plain (OpenSpec.ofChange codingBackSpec)) codingBackCard

/-- THE TIED CARD OF 'vouchlaw06.CodingOnce'. -/
def codingOnceCard : Claim7 := { stood := { row := codingOnceRow, standIns := [], harness := (true, "f8b44dcaa85ac0566c79ab81753e15c4d3dda83bef56da4901400e8532865c88"), looks := false }, kinds := [], alts := [], laidByText := true, laidKinds := [.data], laidTests := true, laidLooks := .later }
def CodingOnceCardSaid : Prop := Claim7.holds Tryd.pinned (.plain (OpenSpec.ofChange codingOnceSpec)) codingOnceCard

/-- THE TIED CARD OF 'vouchlaw06.CodingKnown'. -/
def codingKnownCard : Claim7 := { stood := { row := codingKnownRow, standIns := [], harness := (true, "f8b44dcaa85ac0566c79ab81753e15c4d3dda83bef56da4901400e8532865c88"), looks := false }, kinds := [], alts := [], laidByText := true, laidKinds := [.data], laidTests := true, laidLooks := .later }
def CodingKnownCardSaid : Prop := Claim7.holds Tryd.pinned (.plain (OpenSpec.ofChange codingKnownSpec)) codingKnownCard

/-- THE SECOND FORM's CARD OF 'vouchlaw06.CodingTells'. -/
def codingTellsUptoCard : Claim7 := { stood := { row := codingTellsUptoRow, standIns := [], harness := (true, "f8b44dcaa85ac0566c79ab81753e15c4d3dda83bef56da4901400e8532865c88"), looks := false }, kinds := [], alts := [], laidByText := true, laidKinds := [.data], laidTests := true, laidLooks := .later }
def CodingTellsUptoCardSaid : Prop := Claim7.holds Tryd.pinned (.plain (OpenSpec.upto codingTellsSpec)) codingTellsUptoCard

/-- THE SECOND FORM's CARD OF 'vouchlaw06.CodingReads'. -/
def codingReadsUptoCard : Claim7 := { stood := { row := codingReadsUptoRow, standIns := [], harness := (true, "f8b44dcaa85ac0566c79ab81753e15c4d3dda83bef56da4901400e8532865c88"), looks := false }, kinds := [], alts := [], laidByText := true, laidKinds := [.data], laidTests := true, laidLooks := .later }
def CodingReadsUptoCardSaid : Prop := Claim7.holds Tryd.pinned (.plain (OpenSpec.upto codingReadsSpec)) codingReadsUptoCard

/-- THE SECOND FORM's CARD OF 'vouchlaw06.CodingBack'. -/
def codingBackUptoCard : Claim7 := { stood := { row := codingBackUptoRow, standIns := [], harness := (true, "f8b44dcaa85ac0566c79ab81753e15c4d3dda83bef56da4901400e8532865c88"), looks := false }, kinds := [], alts := [], laidByText := true, laidKinds := [.data], laidTests := true, laidLooks := .later }
def CodingBackUptoCardSaid : Prop := Claim7.holds Tryd.pinned (.plain (OpenSpec.upto codingBackSpec)) codingBackUptoCard

/-- THE SECOND FORM's CARD OF 'vouchlaw06.CodingOnce'. -/
def codingOnceUptoCard : Claim7 := { stood := { row := codingOnceUptoRow, standIns := [], harness := (true, "f8b44dcaa85ac0566c79ab81753e15c4d3dda83bef56da4901400e8532865c88"), looks := false }, kinds := [], alts := [], laidByText := true, laidKinds := [.data], laidTests := true, laidLooks := .later }
def CodingOnceUptoCardSaid : Prop := Claim7.holds Tryd.pinned (.plain (OpenSpec.upto codingOnceSpec)) codingOnceUptoCard

/-- THE SECOND FORM's CARD OF 'vouchlaw06.CodingKnown'. -/
def codingKnownUptoCard : Claim7 := { stood := { row := codingKnownUptoRow, standIns := [], harness := (true, "f8b44dcaa85ac0566c79ab81753e15c4d3dda83bef56da4901400e8532865c88"), looks := false }, kinds := [], alts := [], laidByText := true, laidKinds := [.data], laidTests := true, laidLooks := .later }
def CodingKnownUptoCardSaid : Prop := Claim7.holds Tryd.pinned (.plain (OpenSpec.upto codingKnownSpec)) codingKnownUptoCard
end Rows
end Go.Proofs.YtkiecgkgbogbaaaDoor
