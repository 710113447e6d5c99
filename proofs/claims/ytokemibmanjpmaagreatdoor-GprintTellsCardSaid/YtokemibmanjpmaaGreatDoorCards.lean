/-
  DERIVED. GIVEN WITH THE SEED: THE CARDS: each row of YtokemibmanjpmaaGreatDoorRows.lean that lists a variable, with what it lists TIED to the program's text (the seventh form; the later family's looks); each row that meets fmt, with fmt's text TOLD by the authors' own Lean function (tested against real Go, not proved from fmt's source: count such statements apart). THE CARD IS WHAT COUNTS. Prove the row's statement (the work); the ties are given (YtokemibmanjpmaaGreatDoorTie.lean); close each card by the builder's one call (the guide's Derived/Test/ToyasCard.lean, 'card_holds'). Laid BY PROGRAM, IN A SANDBOX (cutbox-door.mjs). By AI agents, Wed Nov 11 2026. No macro, syntax, notation, axiom, sorry.
-/
import Derived.Test.YtokemibmanjpmaaGreatDoorRows
import GoSem.ClaimSeven
namespace Go.Proofs.YtokemibmanjpmaaGreatDoor
namespace Rows

/-- THE TIED CARD OF 'straitlaw17.GreadLines'. -/
def greadLinesCard : Claim7 := { stood := { row := greadLinesRow, standIns := [], harness := (true, "c5edb92c99b7e40986120bc0446757fefa6657334a2d4b2a0417b2e7e2993fc6"), looks := true }, kinds := [], alts := [], laidByText := true, laidKinds := [.data, .data, .data, .data, .sentinel, .sentinel, .pinned], laidTests := true, laidLooks := .later }
def GreadLinesCardSaid : Prop := Claim7.holds Tryz.pinned (.plain (OpenSpec.ofChange greadLinesSpec)) greadLinesCard

/-- THE TIED CARD OF 'straitlaw17.GreadEnds'. -/
def greadEndsCard : Claim7 := { stood := { row := greadEndsRow, standIns := [], harness := (true, "c5edb92c99b7e40986120bc0446757fefa6657334a2d4b2a0417b2e7e2993fc6"), looks := true }, kinds := [], alts := [], laidByText := true, laidKinds := [.data, .data, .data, .data, .sentinel, .sentinel, .pinned], laidTests := true, laidLooks := .later }
def GreadEndsCardSaid : Prop := Claim7.holds Tryz.pinned (.plain (OpenSpec.ofChange greadEndsSpec)) greadEndsCard

/-- THE TIED CARD OF 'straitlaw17.GreadReads'. -/
def greadReadsCard : Claim7 := { stood := { row := greadReadsRow, standIns := [], harness := (true, "c5edb92c99b7e40986120bc0446757fefa6657334a2d4b2a0417b2e7e2993fc6"), looks := true }, kinds := [], alts := [], laidByText := true, laidKinds := [.data, .data, .data, .data, .sentinel, .sentinel, .pinned], laidTests := true, laidLooks := .later }
def GreadReadsCardSaid : Prop := Claim7.holds Tryz.pinned (.plain (OpenSpec.ofChange greadReadsSpec)) greadReadsCard

/-- THE TIED CARD OF 'straitlaw18.GprintFloats'. -/
def gprintFloatsCard : Claim7 := { stood := { row := gprintFloatsRow, standIns := [], harness := (true, "c5edb92c99b7e40986120bc0446757fefa6657334a2d4b2a0417b2e7e2993fc6"), looks := true }, kinds := [], alts := [], laidByText := true, laidKinds := [.data, .data, .data], laidTests := true, laidLooks := .later }
def GprintFloatsCardSaid : Prop := Claim7.holds Tryz.pinned (.plain (OpenSpec.ofChange gprintFloatsSpec)) gprintFloatsCard

/-- THE TIED CARD OF 'straitlaw18.GprintTells'. -/
def gprintTellsCard : Claim7 := { stood := { row := gprintTellsRow, standIns := [], harness := (true, "c5edb92c99b7e40986120bc0446757fefa6657334a2d4b2a0417b2e7e2993fc6"), looks := true }, kinds := [], alts := [], laidByText := true, laidKinds := [.data, .data, .data], laidTests := true, laidLooks := .later }
def GprintTellsCardSaid : Prop := Claim7.holds Tryz.pinned (.plain (OpenSpec.ofChange gprintTellsSpec)) gprintTellsCard

/-- THE TIED CARD OF 'straitlaw18.GprintBack'. -/
def gprintBackCard : Claim7 := { stood := { row := gprintBackRow, standIns := [], harness := (true, "c5edb92c99b7e40986120bc0446757fefa6657334a2d4b2a0417b2e7e2993fc6"), looks := true }, kinds := [], alts := [], laidByText := true, laidKinds := [.data, .data, .data, .data, .sentinel, .sentinel, .pinned], laidTests := true, laidLooks := .later }
def GprintBackCardSaid : Prop := Claim7.holds Tryz.pinned (.plain (OpenSpec.ofChange gprintBackSpec)) gprintBackCard

/-- THE SECOND FORM's CARD OF 'straitlaw17.GreadLines'. -/
def greadLinesUptoCard : Claim7 := { stood := { row := greadLinesUptoRow, standIns := [], harness := (true, "c5edb92c99b7e40986120bc0446757fefa6657334a2d4b2a0417b2e7e2993fc6"), looks := true }, kinds := [], alts := [], laidByText := true, laidKinds := [.data, .data, .data, .data, .sentinel, .sentinel, .pinned], laidTests := true, laidLooks := .later }
def GreadLinesUptoCardSaid : Prop := Claim7.holds Tryz.pinned (.plain (OpenSpec.upto greadLinesSpec)) greadLinesUptoCard

/-- THE SECOND FORM's CARD OF 'straitlaw17.GreadEnds'. -/
def greadEndsUptoCard : Claim7 := { stood := { row := greadEndsUptoRow, standIns := [], harness := (true, "c5edb92c99b7e40986120bc0446757fefa6657334a2d4b2a0417b2e7e2993fc6"), looks := true }, kinds := [], alts := [], laidByText := true, laidKinds := [.data, .data, .data, .data, .sentinel, .sentinel, .pinned], laidTests := true, laidLooks := .later }
def GreadEndsUptoCardSaid : Prop := Claim7.holds Tryz.pinned (.plain (OpenSpec.upto greadEndsSpec)) greadEndsUptoCard

/-- THE SECOND FORM's CARD OF 'straitlaw17.GreadReads'. -/
def greadReadsUptoCard : Claim7 := { stood := { row := greadReadsUptoRow, standIns := [], harness := (true, "c5edb92c99b7e40986120bc0446757fefa6657334a2d4b2a0417b2e7e2993fc6"), looks := true }, kinds := [], alts := [], laidByText := true, laidKinds := [.data, .data, .data, .data, .sentinel, .sentinel, .pinned], laidTests := true, laidLooks := .later }
def GreadReadsUptoCardSaid : Prop := Claim7.holds Tryz.pinned (.plain (OpenSpec.upto greadReadsSpec)) greadReadsUptoCard

/-- THE SECOND FORM's CARD OF 'straitlaw18.GprintFloats'. -/
def gprintFloatsUptoCard : Claim7 := { stood := { row := gprintFloatsUptoRow, standIns := [], harness := (true, "c5edb92c99b7e40986120bc0446757fefa6657334a2d4b2a0417b2e7e2993fc6"), looks := true }, kinds := [], alts := [], laidByText := true, laidKinds := [.data, .data, .data], laidTests := true, laidLooks := .later }
def GprintFloatsUptoCardSaid : Prop := Claim7.holds Tryz.pinned (.plain (OpenSpec.upto gprintFloatsSpec)) gprintFloatsUptoCard

/-- THE SECOND FORM's CARD OF 'straitlaw18.GprintTells'. -/
def gprintTellsUptoCard : Claim7 := { stood := { row := gprintTellsUptoRow, standIns := [], harness := (true, "c5edb92c99b7e40986120bc0446757fefa6657334a2d4b2a0417b2e7e2993fc6"), looks := true }, kinds := [], alts := [], laidByText := true, laidKinds := [.data, .data, .data], laidTests := true, laidLooks := .later }
def GprintTellsUptoCardSaid : Prop := Claim7.holds Tryz.pinned (.plain (OpenSpec.upto gprintTellsSpec)) gprintTellsUptoCard

/-- THE SECOND FORM's CARD OF 'straitlaw18.GprintBack'. -/
def gprintBackUptoCard : Claim7 := { stood := { row := gprintBackUptoRow, standIns := [], harness := (true, "c5edb92c99b7e40986120bc0446757fefa6657334a2d4b2a0417b2e7e2993fc6"), looks := true }, kinds := [], alts := [], laidByText := true, laidKinds := [.data, .data, .data, .data, .sentinel, .sentinel, .pinned], laidTests := true, laidLooks := .later }
def GprintBackUptoCardSaid : Prop := Claim7.holds Tryz.pinned (.plain (OpenSpec.upto gprintBackSpec)) gprintBackUptoCard
end Rows
end Go.Proofs.YtokemibmanjpmaaGreatDoor
