/-
  DERIVED. GIVEN WITH THE SEED: THE CARDS: each row of YtmejnpadgbdhaaaGreatDoorRows.lean that lists a variable, with what it lists TIED to the program's text (the seventh form; the later family's looks); each row that meets fmt, with fmt's text TOLD by the authors' own Lean function (tested against real Go, not proved from fmt's source: count such statements apart). THE CARD IS WHAT COUNTS. Prove the row's statement (the work); the ties are given (YtmejnpadgbdhaaaGreatDoorTie.lean); close each card by the builder's one call (the guide's Derived/Test/ToyasCard.lean, 'card_holds'). Laid BY PROGRAM, IN A SANDBOX (cutbox-door.mjs). By AI agents, Wed Nov 11 2026. No macro, syntax, notation, axiom, sorry.
-/
import Derived.Test.YtmejnpadgbdhaaaGreatDoorRows
import GoSem.ClaimSeven
namespace Go.Proofs.YtmejnpadgbdhaaaGreatDoor
namespace Rows

/-- THE TIED CARD OF 'straitlaw49.AnswerReads'. -/
def answerReadsCard : Claim7 := { stood := { row := answerReadsRow, standIns := [], harness := (true, "cd26d847574a38032a2eda8fbca91aa3e9a92b879dbfcac69fe9b911775bb9be"), looks := true }, kinds := [], alts := [], laidByText := true, laidKinds := [.data, .data, .data, .data, .sentinel, .sentinel, .pinned], laidTests := true, laidLooks := .later }
def AnswerReadsCardSaid : Prop := Claim7.holds Tryz.pinned (.plain (OpenSpec.ofChange answerReadsSpec)) answerReadsCard

/-- THE SECOND FORM's CARD OF 'straitlaw49.AnswerReads'. -/
def answerReadsUptoCard : Claim7 := { stood := { row := answerReadsUptoRow, standIns := [], harness := (true, "cd26d847574a38032a2eda8fbca91aa3e9a92b879dbfcac69fe9b911775bb9be"), looks := true }, kinds := [], alts := [], laidByText := true, laidKinds := [.data, .data, .data, .data, .sentinel, .sentinel, .pinned], laidTests := true, laidLooks := .later }
def AnswerReadsUptoCardSaid : Prop := Claim7.holds Tryz.pinned (.plain (OpenSpec.upto answerReadsSpec)) answerReadsUptoCard
end Rows
end Go.Proofs.YtmejnpadgbdhaaaGreatDoor
