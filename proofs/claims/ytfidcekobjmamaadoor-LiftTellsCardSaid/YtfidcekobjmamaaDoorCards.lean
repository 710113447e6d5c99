/-
  DERIVED. GIVEN WITH THE SEED: THE CARDS: each row of YtfidcekobjmamaaDoorRows.lean that lists a variable, with what it lists TIED to the program's text (the seventh form; the later family's looks); each row that meets fmt, with fmt's text TOLD by the authors' own Lean function (tested against real Go, not proved from fmt's source: count such statements apart). THE CARD IS WHAT COUNTS. Prove the row's statement (the work); the ties are given (YtfidcekobjmamaaDoorTie.lean); close each card by the builder's one call (the guide's Derived/Test/ToyasCard.lean, 'card_holds'). Laid BY PROGRAM, IN A SANDBOX (cutbox-door.mjs). By AI agents, Wed Nov 11 2026. No macro, syntax, notation, axiom, sorry.
-/
import Derived.Test.YtfidcekobjmamaaDoorRows
import GoSem.ClaimSeven
namespace Go.Proofs.YtfidcekobjmamaaDoor
namespace Rows

/-- THE TIED CARD OF 'straitlaw32.LiftAbove'. -/
def liftAboveCard : Claim7 := { stood := { row := liftAboveRow, standIns := [], harness := (true, "f2a88cfcd2611f081f2bcc8f94774d21844836137afe38374a1c7fdd252be1fd"), looks := false }, kinds := [], alts := [], laidByText := true, laidKinds := [.data, .data], laidTests := true, laidLooks := .later }
def LiftAboveCardSaid : Prop := Claim7.holds Tryd.pinned (.plain (OpenSpec.ofChange liftAboveSpec)) liftAboveCard

/-- THE TIED CARD OF 'straitlaw32.LiftTells'. -/
def liftTellsCard : Claim7 := { stood := { row := liftTellsRow, standIns := [], harness := (true, "f2a88cfcd2611f081f2bcc8f94774d21844836137afe38374a1c7fdd252be1fd"), looks := false }, kinds := [], alts := [], laidByText := true, laidKinds := [.data, .data], laidTests := true, laidLooks := .later }
def LiftTellsCardSaid : Prop := Claim7.holds Tryd.pinned (.plain (OpenSpec.ofChange liftTellsSpec)) liftTellsCard

/-- THE TIED CARD OF 'straitlaw32.LiftMost'. -/
def liftMostCard : Claim7 := { stood := { row := liftMostRow, standIns := [], harness := (true, "f2a88cfcd2611f081f2bcc8f94774d21844836137afe38374a1c7fdd252be1fd"), looks := false }, kinds := [], alts := [], laidByText := true, laidKinds := [.data, .data], laidTests := true, laidLooks := .later }
def LiftMostCardSaid : Prop := Claim7.holds Tryd.pinned (.plain (OpenSpec.ofChange liftMostSpec)) liftMostCard

/-- THE SECOND FORM's CARD OF 'straitlaw32.LiftAbove'. -/
def liftAboveUptoCard : Claim7 := { stood := { row := liftAboveUptoRow, standIns := [], harness := (true, "f2a88cfcd2611f081f2bcc8f94774d21844836137afe38374a1c7fdd252be1fd"), looks := false }, kinds := [], alts := [], laidByText := true, laidKinds := [.data, .data], laidTests := true, laidLooks := .later }
def LiftAboveUptoCardSaid : Prop := Claim7.holds Tryd.pinned (.plain (OpenSpec.upto liftAboveSpec)) liftAboveUptoCard

/-- THE SECOND FORM's CARD OF 'straitlaw32.LiftTells'. -/
def liftTellsUptoCard : Claim7 := { stood := { row := liftTellsUptoRow, standIns := [], harness := (true, "f2a88cfcd2611f081f2bcc8f94774d21844836137afe38374a1c7fdd252be1fd"), looks := false }, kinds := [], alts := [], laidByText := true, laidKinds := [.data, .data], laidTests := true, laidLooks := .later }
def LiftTellsUptoCardSaid : Prop := Claim7.holds Tryd.pinned (.plain (OpenSpec.upto liftTellsSpec)) liftTellsUptoCard

/-- THE SECOND FORM's CARD OF 'straitlaw32.LiftMost'. -/
def liftMostUptoCard : Claim7 := { stood := { row := liftMostUptoRow, standIns := [], harness := (true, "f2a88cfcd2611f081f2bcc8f94774d21844836137afe38374a1c7fdd252be1fd"), looks := false }, kinds := [], alts := [], laidByText := true, laidKinds := [.data, .data], laidTests := true, laidLooks := .later }
def LiftMostUptoCardSaid : Prop := Claim7.holds Tryd.pinned (.plain (OpenSpec.upto liftMostSpec)) liftMostUptoCard
end Rows
end Go.Proofs.YtfidcekobjmamaaDoor
