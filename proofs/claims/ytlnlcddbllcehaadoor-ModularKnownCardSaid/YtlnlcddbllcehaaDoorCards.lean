/-
  DERIVED. GIVEN WITH THE SEED: THE CARDS: each row of YtlnlcddbllcehaaDoorRows.lean that lists a variable, with what it lists TIED to the program's text (the seventh form; the later family's looks); each row that meets fmt, with fmt's text TOLD by the authors' own Lean function (tested against real Go, not proved from fmt's source: count such statements apart). THE CARD IS WHAT COUNTS. Prove the row's statement (the work); the ties are given (YtlnlcddbllcehaaDoorTie.lean); close each card by the builder's one call (the guide's Derived/Test/ToyasCard.lean, 'card_holds'). Laid BY PROGRAM, IN A SANDBOX (cutbox-door.mjs). By AI agents, Wed Nov 11 2026. No macro, syntax, notation, axiom, sorry.
-/
import Derived.Test.YtlnlcddbllcehaaDoorRows
import GoSem.ClaimSeven
namespace Go.Proofs.YtlnlcddbllcehaaDoor
namespace Rows

/-- THE TIED CARD OF 'vouchlaw04.ModularPowers'. -/
def modularPowersCard : Claim7 := { stood := { row := modularPowersRow, standIns := [], harness := (true, "7eeef222ccc28ed4efe3101caf646cc54bce785ba59262e261ca0340073ef9df"), looks := false }, kinds := [], alts := [], laidByText := true, laidKinds := [.data, .data, .data], laidTests := true, laidLooks := .later }
def ModularPowersCardSaid : Prop := Claim7.holds Tryd.pinned (.plain (OpenSpec.ofChange modularPowersSpec)) modularPowersCard

/-- THE TIED CARD OF 'vouchlaw04.ModularSteps'. -/
def modularStepsCard : Claim7 := { stood := { row := modularStepsRow, standIns := [], harness := (true, "7eeef222ccc28ed4efe3101caf646cc54bce785ba59262e261ca0340073ef9df"), looks := false }, kinds := [], alts := [], laidByText := true, laidKinds := [.data, .data, .data], laidTests := true, laidLooks := .later }
def ModularStepsCardSaid : Prop := Claim7.holds Tryd.pinned (.plain (OpenSpec.ofChange modularStepsSpec)) modularStepsCard

/-- THE TIED CARD OF 'vouchlaw04.ModularPrimes'. -/
def modularPrimesCard : Claim7 := { stood := { row := modularPrimesRow, standIns := [], harness := (true, "7eeef222ccc28ed4efe3101caf646cc54bce785ba59262e261ca0340073ef9df"), looks := false }, kinds := [], alts := [], laidByText := true, laidKinds := [.data, .data, .data], laidTests := true, laidLooks := .later }
def ModularPrimesCardSaid : Prop := Claim7.holds Tryd.pinned (.plain (OpenSpec.ofChange modularPrimesSpec)) modularPrimesCard

/-- THE TIED CARD OF 'vouchlaw04.ModularReckons'. -/
def modularReckonsCard : Claim7 := { stood := { row := modularReckonsRow, standIns := [], harness := (true, "7eeef222ccc28ed4efe3101caf646cc54bce785ba59262e261ca0340073ef9df"), looks := false }, kinds := [], alts := [], laidByText := true, laidKinds := [.data, .data, .data], laidTests := true, laidLooks := .later }
def ModularReckonsCardSaid : Prop := Claim7.holds Tryd.pinned (.plain (OpenSpec.ofChange modularReckonsSpec)) modularReckonsCard

/-- THE TIED CARD OF 'vouchlaw04.ModularLeaves'. -/
def modularLeavesCard : Claim7 := { stood := { row := modularLeavesRow, standIns := [], harness := (true, "7eeef222ccc28ed4efe3101caf646cc54bce785ba59262e261ca0340073ef9df"), looks := false }, kinds := [], alts := [], laidByText := true, laidKinds := [.data, .data, .data], laidTests := true, laidLooks := .later }
def ModularLeavesCardSaid : Prop := Claim7.holds Tryd.pinned (.plain (OpenSpec.ofChange modularLeavesSpec)) modularLeavesCard

/-- THE TIED CARD OF 'vouchlaw04.ModularInverts'. -/
def modularInvertsCard : Claim7 := { stood := { row := modularInvertsRow, standIns := [], harness := (true, "7eeef222ccc28ed4efe3101caf646cc54bce785ba59262e261ca0340073ef9df"), looks := false }, kinds := [], alts := [], laidByText := true, laidKinds := [.data, .data, .data], laidTests := true, laidLooks := .later }
def ModularInvertsCardSaid : Prop := Claim7.holds Tryd.pinned (.plain (OpenSpec.ofChange modularInvertsSpec)) modularInvertsCard

/-- THE TIED CARD OF 'vouchlaw04.ModularKnown'. -/
def modularKnownCard : Claim7 := { stood := { row := modularKnownRow, standIns := [], harness := (true, "7eeef222ccc28ed4efe3101caf646cc54bce785ba59262e261ca0340073ef9df"), looks := false }, kinds := [], alts := [], laidByText := true, laidKinds := [.data, .data, .data], laidTests := true, laidLooks := .later }
def ModularKnownCardSaid : Prop := Claim7.holds Tryd.pinned (.plain (OpenSpec.ofChange modularKnownSpec)) modularKnownCard

/-- THE SECOND FORM's CARD OF 'vouchlaw04.ModularPowers'. -/
def modularPowersUptoCard : Claim7 := { stood := { row := modularPowersUptoRow, standIns := [], harness := (true, "7eeef222ccc28ed4efe3101caf646cc54bce785ba59262e261ca0340073ef9df"), looks := false }, kinds := [], alts := [], laidByText := true, laidKinds := [.data, .data, .data], laidTests := true, laidLooks := .later }
def ModularPowersUptoCardSaid : Prop := Claim7.holds Tryd.pinned (.plain (OpenSpec.upto modularPowersSpec)) modularPowersUptoCard

/-- THE SECOND FORM's CARD OF 'vouchlaw04.ModularSteps'. -/
def modularStepsUptoCard : Claim7 := { stood := { row := modularStepsUptoRow, standIns := [], harness := (true, "7eeef222ccc28ed4efe3101caf646cc54bce785ba59262e261ca0340073ef9df"), looks := false }, kinds := [], alts := [], laidByText := true, laidKinds := [.data, .data, .data], laidTests := true, laidLooks := .later }
def ModularStepsUptoCardSaid : Prop := Claim7.holds Tryd.pinned (.plain (OpenSpec.upto modularStepsSpec)) modularStepsUptoCard

/-- THE SECOND FORM's CARD OF 'vouchlaw04.ModularPrimes'. -/
def modularPrimesUptoCard : Claim7 := { stood := { row := modularPrimesUptoRow, standIns := [], harness := (true, "7eeef222ccc28ed4efe3101caf646cc54bce785ba59262e261ca0340073ef9df"), looks := false }, kinds := [], alts := [], laidByText := true, laidKinds := [.data, .data, .data], laidTests := true, laidLooks := .later }
def ModularPrimesUptoCardSaid : Prop := Claim7.holds Tryd.pinned (.plain (OpenSpec.upto modularPrimesSpec)) modularPrimesUptoCard

/-- THE SECOND FORM's CARD OF 'vouchlaw04.ModularReckons'. -/
def modularReckonsUptoCard : Claim7 := { stood := { row := modularReckonsUptoRow, standIns := [], harness := (true, "7eeef222ccc28ed4efe3101caf646cc54bce785ba59262e261ca0340073ef9df"), looks := false }, kinds := [], alts := [], laidByText := true, laidKinds := [.data, .data, .data], laidTests := true, laidLooks := .later }
def ModularReckonsUptoCardSaid : Prop := Claim7.holds Tryd.pinned (.plain (OpenSpec.upto modularReckonsSpec)) modularReckonsUptoCard

/-- THE SECOND FORM's CARD OF 'vouchlaw04.ModularLeaves'. -/
def modularLeavesUptoCard : Claim7 := { stood := { row := modularLeavesUptoRow, standIns := [], harness := (true, "7eeef222ccc28ed4efe3101caf646cc54bce785ba59262e261ca0340073ef9df"), looks := false }, kinds := [], alts := [], laidByText := true, laidKinds := [.data, .data, .data], laidTests := true, laidLooks := .later }
def ModularLeavesUptoCardSaid : Prop := Claim7.holds Tryd.pinned (.plain (OpenSpec.upto modularLeavesSpec)) modularLeavesUptoCard

/-- THE SECOND FORM's CARD OF 'vouchlaw04.ModularInverts'. -/
def modularInvertsUptoCard : Claim7 := { stood := { row := modularInvertsUptoRow, standIns := [], harness := (true, "7eeef222ccc28ed4efe3101caf646cc54bce785ba59262e261ca0340073ef9df"), looks := false }, kinds := [], alts := [], laidByText := true, laidKinds := [.data, .data, .data], laidTests := true, laidLooks := .later }
def ModularInvertsUptoCardSaid : Prop := Claim7.holds Tryd.pinned (.plain (OpenSpec.upto modularInvertsSpec)) modularInvertsUptoCard

/-- THE SECOND FORM's CARD OF 'vouchlaw04.ModularKnown'. -/
def modularKnownUptoCard : Claim7 := { stood := { row := modularKnownUptoRow, standIns := [], harness := (true, "7eeef222ccc28ed4efe3101caf646cc54bce785ba59262e261ca0340073ef9df"), looks := false }, kinds := [], alts := [], laidByText := true, laidKinds := [.data, .data, .data], laidTests := true, laidLooks := .later }
def ModularKnownUptoCardSaid : Prop := Claim7.holds Tryd.pinned (.plain (OpenSpec.upto modularKnownSpec)) modularKnownUptoCard
end Rows
end Go.Proofs.YtlnlcddbllcehaaDoor
