/-
  DERIVED. GIVEN WITH THE SEED: THE CARDS: each row of YtmojgekepkpfcaaDoorRows.lean that lists a variable, with what it lists TIED to the program's text (the seventh form; the later family's looks); each row that meets fmt, with fmt's text TOLD by the authors' own Lean function (tested against real Go, not proved from fmt's source: count such statements apart). THE CARD IS WHAT COUNTS. Prove the row's statement (the work); the ties are given (YtmojgekepkpfcaaDoorTie.lean); close each card by the builder's one call (the guide's Derived/Test/ToyasCard.lean, 'card_holds'). Laid BY PROGRAM, IN A SANDBOX (cutbox-door.mjs). By AI agents, Wed Nov 11 2026. No macro, syntax, notation, axiom, sorry.
-/
import Derived.Test.YtmojgekepkpfcaaDoorRows
import GoSem.ClaimSeven
namespace Go.Proofs.YtmojgekepkpfcaaDoor
namespace Rows

/-- THE TIED CARD OF 'straitlaw09.VsetPlays'. -/
def vsetPlaysCard : Claim7 := { stood := { row := vsetPlaysRow, standIns := [], harness := (true, "ca28c4a4282ef3f31e02341c52aeba7d55e4ec00ceed1db6d98787944226921f"), looks := false }, kinds := [], alts := [], laidByText := true, laidKinds := [.data], laidTests := true, laidLooks := .later }
def VsetPlaysCardSaid : Prop := Claim7.holds Tryd.pinned (.plain (OpenSpec.ofChange vsetPlaysSpec)) vsetPlaysCard

/-- THE TIED CARD OF 'straitlaw09.VsetOf'. -/
def vsetOfCard : Claim7 := { stood := { row := vsetOfRow, standIns := [], harness := (true, "ca28c4a4282ef3f31e02341c52aeba7d55e4ec00ceed1db6d98787944226921f"), looks := false }, kinds := [], alts := [], laidByText := true, laidKinds := [.data], laidTests := true, laidLooks := .later }
def VsetOfCardSaid : Prop := Claim7.holds Tryd.pinned (.plain (OpenSpec.ofChange vsetOfSpec)) vsetOfCard

/-- THE TIED CARD OF 'straitlaw09.VsetOther'. -/
def vsetOtherCard : Claim7 := { stood := { row := vsetOtherRow, standIns := [], harness := (true, "ca28c4a4282ef3f31e02341c52aeba7d55e4ec00ceed1db6d98787944226921f"), looks := false }, kinds := [], alts := [], laidByText := true, laidKinds := [.data], laidTests := true, laidLooks := .later }
def VsetOtherCardSaid : Prop := Claim7.holds Tryd.pinned (.plain (OpenSpec.ofChange vsetOtherSpec)) vsetOtherCard

/-- THE SECOND FORM's CARD OF 'straitlaw09.VsetPlays'. -/
def vsetPlaysUptoCard : Claim7 := { stood := { row := vsetPlaysUptoRow, standIns := [], harness := (true, "ca28c4a4282ef3f31e02341c52aeba7d55e4ec00ceed1db6d98787944226921f"), looks := false }, kinds := [], alts := [], laidByText := true, laidKinds := [.data], laidTests := true, laidLooks := .later }
def VsetPlaysUptoCardSaid : Prop := Claim7.holds Tryd.pinned (.plain (OpenSpec.upto vsetPlaysSpec)) vsetPlaysUptoCard

/-- THE SECOND FORM's CARD OF 'straitlaw09.VsetOf'. -/
def vsetOfUptoCard : Claim7 := { stood := { row := vsetOfUptoRow, standIns := [], harness := (true, "ca28c4a4282ef3f31e02341c52aeba7d55e4ec00ceed1db6d98787944226921f"), looks := false }, kinds := [], alts := [], laidByText := true, laidKinds := [.data], laidTests := true, laidLooks := .later }
def VsetOfUptoCardSaid : Prop := Claim7.holds Tryd.pinned (.plain (OpenSpec.upto vsetOfSpec)) vsetOfUptoCard

/-- THE SECOND FORM's CARD OF 'straitlaw09.VsetOther'. -/
def vsetOtherUptoCard : Claim7 := { stood := { row := vsetOtherUptoRow, standIns := [], harness := (true, "ca28c4a4282ef3f31e02341c52aeba7d55e4ec00ceed1db6d98787944226921f"), looks := false }, kinds := [], alts := [], laidByText := true, laidKinds := [.data], laidTests := true, laidLooks := .later }
def VsetOtherUptoCardSaid : Prop := Claim7.holds Tryd.pinned (.plain (OpenSpec.upto vsetOtherSpec)) vsetOtherUptoCard
end Rows
end Go.Proofs.YtmojgekepkpfcaaDoor
