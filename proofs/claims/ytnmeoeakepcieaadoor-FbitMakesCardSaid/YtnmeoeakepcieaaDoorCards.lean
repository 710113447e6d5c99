/-
  DERIVED. GIVEN WITH THE SEED: THE CARDS: each row of YtnmeoeakepcieaaDoorRows.lean that lists a variable, with what it lists TIED to the program's text (the seventh form; the later family's looks); each row that meets fmt, with fmt's text TOLD by the authors' own Lean function (tested against real Go, not proved from fmt's source: count such statements apart). THE CARD IS WHAT COUNTS. Prove the row's statement (the work); the ties are given (YtnmeoeakepcieaaDoorTie.lean); close each card by the builder's one call (the guide's Derived/Test/ToyasCard.lean, 'card_holds'). Laid BY PROGRAM, IN A SANDBOX (cutbox-door.mjs). By AI agents, Wed Nov 11 2026. No macro, syntax, notation, axiom, sorry.
-/
import Derived.Test.YtnmeoeakepcieaaDoorRows
import GoSem.ClaimSeven
namespace Go.Proofs.YtnmeoeakepcieaaDoor
namespace Rows

/-- THE TIED CARD OF 'straitlaw02.FbitTells'. -/
def fbitTellsCard : Claim7 := { stood := { row := fbitTellsRow, standIns := [], harness := (true, "8dfaecf71217000621328a789d38d9aaa3743881bd771abf979eb99d29d687e2"), looks := true }, kinds := [], alts := [], laidByText := true, laidKinds := [.data], laidTests := true, laidLooks := .later }
def FbitTellsCardSaid : Prop := Claim7.holds Tryd.pinned (.plain (OpenSpec.ofChange fbitTellsSpec)) fbitTellsCard

/-- THE TIED CARD OF 'straitlaw02.FbitMakes'. -/
def fbitMakesCard : Claim7 := { stood := { row := fbitMakesRow, standIns := [], harness := (true, "8dfaecf71217000621328a789d38d9aaa3743881bd771abf979eb99d29d687e2"), looks := true }, kinds := [], alts := [], laidByText := true, laidKinds := [.data], laidTests := true, laidLooks := .later }
def FbitMakesCardSaid : Prop := Claim7.holds Tryd.pinned (.plain (OpenSpec.ofChange fbitMakesSpec)) fbitMakesCard

/-- THE TIED CARD OF 'straitlaw02.FbitBack'. -/
def fbitBackCard : Claim7 := { stood := { row := fbitBackRow, standIns := [], harness := (true, "8dfaecf71217000621328a789d38d9aaa3743881bd771abf979eb99d29d687e2"), looks := true }, kinds := [], alts := [], laidByText := true, laidKinds := [.data], laidTests := true, laidLooks := .later }
def FbitBackCardSaid : Prop := Claim7.holds Tryd.pinned (.plain (OpenSpec.ofChange fbitBackSpec)) fbitBackCard

/-- THE TIED CARD OF 'straitlaw05.QuantSteps'. -/
def quantStepsCard : Claim7 := { stood := { row := quantStepsRow, standIns := [], harness := (true, "8dfaecf71217000621328a789d38d9aaa3743881bd771abf979eb99d29d687e2"), looks := true }, kinds := [], alts := [], laidByText := true, laidKinds := [.data], laidTests := true, laidLooks := .later }
def QuantStepsCardSaid : Prop := Claim7.holds Tryd.pinned (.plain (OpenSpec.ofChange quantStepsSpec)) quantStepsCard

/-- THE TIED CARD OF 'straitlaw05.QuantBacks'. -/
def quantBacksCard : Claim7 := { stood := { row := quantBacksRow, standIns := [], harness := (true, "8dfaecf71217000621328a789d38d9aaa3743881bd771abf979eb99d29d687e2"), looks := true }, kinds := [], alts := [], laidByText := true, laidKinds := [.data], laidTests := true, laidLooks := .later }
def QuantBacksCardSaid : Prop := Claim7.holds Tryd.pinned (.plain (OpenSpec.ofChange quantBacksSpec)) quantBacksCard

/-- THE TIED CARD OF 'straitlaw05.QuantWhole'. -/
def quantWholeCard : Claim7 := { stood := { row := quantWholeRow, standIns := [], harness := (true, "8dfaecf71217000621328a789d38d9aaa3743881bd771abf979eb99d29d687e2"), looks := true }, kinds := [], alts := [], laidByText := true, laidKinds := [.data], laidTests := true, laidLooks := .later }
def QuantWholeCardSaid : Prop := Claim7.holds Tryd.pinned (.plain (OpenSpec.ofChange quantWholeSpec)) quantWholeCard

/-- THE SECOND FORM's CARD OF 'straitlaw02.FbitTells'. -/
def fbitTellsUptoCard : Claim7 := { stood := { row := fbitTellsUptoRow, standIns := [], harness := (true, "8dfaecf71217000621328a789d38d9aaa3743881bd771abf979eb99d29d687e2"), looks := true }, kinds := [], alts := [], laidByText := true, laidKinds := [.data], laidTests := true, laidLooks := .later }
def FbitTellsUptoCardSaid : Prop := Claim7.holds Tryd.pinned (.plain (OpenSpec.upto fbitTellsSpec)) fbitTellsUptoCard

/-- THE SECOND FORM's CARD OF 'straitlaw02.FbitMakes'. -/
def fbitMakesUptoCard : Claim7 := { stood := { row := fbitMakesUptoRow, standIns := [], harness := (true, "8dfaecf71217000621328a789d38d9aaa3743881bd771abf979eb99d29d687e2"), looks := true }, kinds := [], alts := [], laidByText := true, laidKinds := [.data], laidTests := true, laidLooks := .later }
def FbitMakesUptoCardSaid : Prop := Claim7.holds Tryd.pinned (.plain (OpenSpec.upto fbitMakesSpec)) fbitMakesUptoCard

/-- THE SECOND FORM's CARD OF 'straitlaw02.FbitBack'. -/
def fbitBackUptoCard : Claim7 := { stood := { row := fbitBackUptoRow, standIns := [], harness := (true, "8dfaecf71217000621328a789d38d9aaa3743881bd771abf979eb99d29d687e2"), looks := true }, kinds := [], alts := [], laidByText := true, laidKinds := [.data], laidTests := true, laidLooks := .later }
def FbitBackUptoCardSaid : Prop := Claim7.holds Tryd.pinned (.plain (OpenSpec.upto fbitBackSpec)) fbitBackUptoCard

/-- THE SECOND FORM's CARD OF 'straitlaw05.QuantSteps'. -/
def quantStepsUptoCard : Claim7 := { stood := { row := quantStepsUptoRow, standIns := [], harness := (true, "8dfaecf71217000621328a789d38d9aaa3743881bd771abf979eb99d29d687e2"), looks := true }, kinds := [], alts := [], laidByText := true, laidKinds := [.data], laidTests := true, laidLooks := .later }
def QuantStepsUptoCardSaid : Prop := Claim7.holds Tryd.pinned (.plain (OpenSpec.upto quantStepsSpec)) quantStepsUptoCard

/-- THE SECOND FORM's CARD OF 'straitlaw05.QuantBacks'. -/
def quantBacksUptoCard : Claim7 := { stood := { row := quantBacksUptoRow, standIns := [], harness := (true, "8dfaecf71217000621328a789d38d9aaa3743881bd771abf979eb99d29d687e2"), looks := true }, kinds := [], alts := [], laidByText := true, laidKinds := [.data], laidTests := true, laidLooks := .later }
def QuantBacksUptoCardSaid : Prop := Claim7.holds Tryd.pinned (.plain (OpenSpec.upto quantBacksSpec)) quantBacksUptoCard

/-- THE SECOND FORM's CARD OF 'straitlaw05.QuantWhole'. -/
def quantWholeUptoCard : Claim7 := { stood := { row := quantWholeUptoRow, standIns := [], harness := (true, "8dfaecf71217000621328a789d38d9aaa3743881bd771abf979eb99d29d687e2"), looks := true }, kinds := [], alts := [], laidByText := true, laidKinds := [.data], laidTests := true, laidLooks := .later }
def QuantWholeUptoCardSaid : Prop := Claim7.holds Tryd.pinned (.plain (OpenSpec.upto quantWholeSpec)) quantWholeUptoCard
end Rows
end Go.Proofs.YtnmeoeakepcieaaDoor
