/-
  DERIVED. GIVEN WITH THE SEED: THE CARDS: each row of YtmejnpadgbdhaaaDoorRows.lean that lists a variable, with what it lists TIED to the program's text (the seventh form; the later family's looks); each row that meets fmt, with fmt's text TOLD by the authors' own Lean function (tested against real Go, not proved from fmt's source: count such statements apart). THE CARD IS WHAT COUNTS. Prove the row's statement (the work); the ties are given (YtmejnpadgbdhaaaDoorTie.lean); close each card by the builder's one call (the guide's Derived/Test/ToyasCard.lean, 'card_holds'). Laid BY PROGRAM, IN A SANDBOX (cutbox-door.mjs). By AI agents, Wed Nov 11 2026. No macro, syntax, notation, axiom, sorry.
-/
import Derived.Test.YtmejnpadgbdhaaaDoorRows
import GoSem.ClaimSeven
namespace Go.Proofs.YtmejnpadgbdhaaaDoor
namespace Rows

/-- THE TIED CARD OF 'straitlaw49.AnswerPuts'. -/
def answerPutsCard : Claim7 := { stood := { row := answerPutsRow, standIns := [], harness := (true, "01d37f9eca4320beee2d8ca7e63d27b927d58e07ac1ed495aa6f3685c62aa3d8"), looks := true }, kinds := [], alts := [], laidByText := true, laidKinds := [.data, .data, .data, .data, .sentinel, .sentinel, .pinned], laidTests := true, laidLooks := .later }
def AnswerPutsCardSaid : Prop := Claim7.holds Tryd.pinned (.plain (OpenSpec.ofChange answerPutsSpec)) answerPutsCard

/-- THE SECOND FORM's CARD OF 'straitlaw49.AnswerPuts'. -/
def answerPutsUptoCard : Claim7 := { stood := { row := answerPutsUptoRow, standIns := [], harness := (true, "01d37f9eca4320beee2d8ca7e63d27b927d58e07ac1ed495aa6f3685c62aa3d8"), looks := true }, kinds := [], alts := [], laidByText := true, laidKinds := [.data, .data, .data, .data, .sentinel, .sentinel, .pinned], laidTests := true, laidLooks := .later }
def AnswerPutsUptoCardSaid : Prop := Claim7.holds Tryd.pinned (.plain (OpenSpec.upto answerPutsSpec)) answerPutsUptoCard
end Rows
end Go.Proofs.YtmejnpadgbdhaaaDoor
