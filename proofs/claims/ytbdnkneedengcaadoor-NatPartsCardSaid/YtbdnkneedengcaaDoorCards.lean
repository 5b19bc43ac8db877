/-
  DERIVED. GIVEN WITH THE SEED: THE CARDS: each row of YtbdnkneedengcaaDoorRows.lean that lists a variable, with what it lists TIED to the program's text (the seventh form; the later family's looks); each row that meets fmt, with fmt's text TOLD by the authors' own Lean function (tested against real Go, not proved from fmt's source: count such statements apart). THE CARD IS WHAT COUNTS. Prove the row's statement (the work); the ties are given (YtbdnkneedengcaaDoorTie.lean); close each card by the builder's one call (the guide's Derived/Test/ToyasCard.lean, 'card_holds'). Laid BY PROGRAM, IN A SANDBOX (cutbox-door.mjs). By AI agents, Wed Nov 11 2026. No macro, syntax, notation, axiom, sorry.
-/
import Derived.Test.YtbdnkneedengcaaDoorRows
import GoSem.ClaimSeven
namespace Go.Proofs.YtbdnkneedengcaaDoor
namespace Rows

/-- THE TIED CARD OF 'vouchlaw01.NatCommon'. -/
def natCommonCard : Claim7 := { stood := { row := natCommonRow, standIns := [], harness := (true, "5146734cd9957351bebcf073fdcbea4e13584e167b6fe6558341177cdadb25c2"), looks := false }, kinds := [], alts := [], laidByText := true, laidKinds := [.data, .data, .data, .data, .data, .data], laidTests := true, laidLooks := .later }
def NatCommonCardSaid : Prop := Claim7.holds Tryd.pinned (.plain (OpenSpec.ofChange natCommonSpec)) natCommonCard

/-- THE TIED CARD OF 'vouchlaw01.NatLaws'. -/
def natLawsCard : Claim7 := { stood := { row := natLawsRow, standIns := [], harness := (true, "5146734cd9957351bebcf073fdcbea4e13584e167b6fe6558341177cdadb25c2"), looks := false }, kinds := [], alts := [], laidByText := true, laidKinds := [.data, .data, .data, .data, .data, .data], laidTests := true, laidLooks := .later }
def NatLawsCardSaid : Prop := Claim7.holds Tryd.pinned (.plain (OpenSpec.ofChange natLawsSpec)) natLawsCard

/-- THE TIED CARD OF 'vouchlaw01.NatParts'. -/
def natPartsCard : Claim7 := { stood := { row := natPartsRow, standIns := [], harness := (true, "5146734cd9957351bebcf073fdcbea4e13584e167b6fe6558341177cdadb25c2"), looks := false }, kinds := [], alts := [], laidByText := true, laidKinds := [.data, .data, .data, .data, .data, .data], laidTests := true, laidLooks := .later }
def NatPartsCardSaid : Prop := Claim7.holds Tryd.pinned (.plain (OpenSpec.ofChange natPartsSpec)) natPartsCard

/-- THE SECOND FORM's CARD OF 'vouchlaw01.NatCommon'. -/
def natCommonUptoCard : Claim7 := { stood := { row := natCommonUptoRow, standIns := [], harness := (true, "5146734cd9957351bebcf073fdcbea4e13584e167b6fe6558341177cdadb25c2"), looks := false }, kinds := [], alts := [], laidByText := true, laidKinds := [.data, .data, .data, .data, .data, .data], laidTests := true, laidLooks := .later }
def NatCommonUptoCardSaid : Prop := Claim7.holds Tryd.pinned (.plain (OpenSpec.upto natCommonSpec)) natCommonUptoCard

/-- THE SECOND FORM's CARD OF 'vouchlaw01.NatLaws'. -/
def natLawsUptoCard : Claim7 := { stood := { row := natLawsUptoRow, standIns := [], harness := (true, "5146734cd9957351bebcf073fdcbea4e13584e167b6fe6558341177cdadb25c2"), looks := false }, kinds := [], alts := [], laidByText := true, laidKinds := [.data, .data, .data, .data, .data, .data], laidTests := true, laidLooks := .later }
def NatLawsUptoCardSaid : Prop := Claim7.holds Tryd.pinned (.plain (OpenSpec.upto natLawsSpec)) natLawsUptoCard

/-- THE SECOND FORM's CARD OF 'vouchlaw01.NatParts'. -/
def natPartsUptoCard : Claim7 := { stood := { row := natPartsUptoRow, standIns := [], harness := (true, "5146734cd9957351bebcf073fdcbea4e13584e167b6fe6558341177cdadb25c2"), looks := false }, kinds := [], alts := [], laidByText := true, laidKinds := [.data, .data, .data, .data, .data, .data], laidTests := true, laidLooks := .later }
def NatPartsUptoCardSaid : Prop := Claim7.holds Tryd.pinned (.plain (OpenSpec.upto natPartsSpec)) natPartsUptoCard
end Rows
end Go.Proofs.YtbdnkneedengcaaDoor
