/-
  DERIVED. GIVEN WITH THE SEED: THE CARDS: each row of YtnepdopakngpfaaDoorRows.lean that lists a variable, with what it lists TIED to the program's text (the seventh form; the later family's looks); each row that meets fmt, with fmt's text TOLD by the authors' own Lean function (tested against real Go, not proved from fmt's source: count such statements apart). THE CARD IS WHAT COUNTS. Prove the row's statement (the work); the ties are given (YtnepdopakngpfaaDoorTie.lean); close each card by the builder's one call (the guide's Derived/Test/ToyasCard.lean, 'card_holds'). Laid BY PROGRAM, IN A SANDBOX (cutbox-door.mjs). By AI agents, Wed Nov 11 2026. No macro, syntax, notation, axiom, sorry.
-/
import Derived.Test.YtnepdopakngpfaaDoorRows
import GoSem.ClaimSeven
namespace Go.Proofs.YtnepdopakngpfaaDoor
namespace Rows

/-- THE TIED CARD OF 'straitlaw07.WordCuts'. -/
def wordCutsCard : Claim7 := { stood := { row := wordCutsRow, standIns := [], harness := (true, "c393a3418e382f199858983a81dee36eab484f1736a2b4eccf939277599dcae2"), looks := true }, kinds := [], alts := [], laidByText := true, laidKinds := [.data, .pinned], laidTests := true, laidLooks := .later }
def WordCutsCardSaid : Prop := Claim7.holds Tryd.pinned (.plain (OpenSpec.ofChange wordCutsSpec)) wordCutsCard

/-- THE TIED CARD OF 'straitlaw07.WordBack'. -/
def wordBackCard : Claim7 := { stood := { row := wordBackRow, standIns := [], harness := (true, "c393a3418e382f199858983a81dee36eab484f1736a2b4eccf939277599dcae2"), looks := true }, kinds := [], alts := [], laidByText := true, laidKinds := [.data, .pinned], laidTests := true, laidLooks := .later }
def WordBackCardSaid : Prop := Claim7.holds Tryd.pinned (.plain (OpenSpec.ofChange wordBackSpec)) wordBackCard

/-- THE TIED CARD OF 'straitlaw07.WordPuts'. -/
def wordPutsCard : Claim7 := { stood := { row := wordPutsRow, standIns := [], harness := (true, "c393a3418e382f199858983a81dee36eab484f1736a2b4eccf939277599dcae2"), looks := true }, kinds := [], alts := [], laidByText := true, laidKinds := [.data, .pinned], laidTests := true, laidLooks := .later }
def WordPutsCardSaid : Prop := Claim7.holds Tryd.pinned (.plain (OpenSpec.ofChange wordPutsSpec)) wordPutsCard

/-- THE TIED CARD OF 'straitlaw06.DecTells'. -/
def decTellsCard : Claim7 := { stood := { row := decTellsRow, standIns := [], harness := (true, "c393a3418e382f199858983a81dee36eab484f1736a2b4eccf939277599dcae2"), looks := true }, kinds := [], alts := [], laidByText := true, laidKinds := [.data, .data, .data, .data, .sentinel, .sentinel, .pinned], laidTests := true, laidLooks := .later }
def DecTellsCardSaid : Prop := Claim7.holds Tryd.pinned (.plain (OpenSpec.ofChange decTellsSpec)) decTellsCard

/-- THE TIED CARD OF 'straitlaw06.DecLists'. -/
def decListsCard : Claim7 := { stood := { row := decListsRow, standIns := [], harness := (true, "c393a3418e382f199858983a81dee36eab484f1736a2b4eccf939277599dcae2"), looks := true }, kinds := [], alts := [], laidByText := true, laidKinds := [.data, .data, .data, .data, .sentinel, .sentinel, .pinned], laidTests := true, laidLooks := .later }
def DecListsCardSaid : Prop := Claim7.holds Tryd.pinned (.plain (OpenSpec.ofChange decListsSpec)) decListsCard

/-- THE TIED CARD OF 'straitlaw06.DecBack'. -/
def decBackCard : Claim7 := { stood := { row := decBackRow, standIns := [], harness := (true, "c393a3418e382f199858983a81dee36eab484f1736a2b4eccf939277599dcae2"), looks := true }, kinds := [], alts := [], laidByText := true, laidKinds := [.data, .data, .data, .data, .sentinel, .sentinel, .pinned], laidTests := true, laidLooks := .later }
def DecBackCardSaid : Prop := Claim7.holds Tryd.pinned (.plain (OpenSpec.ofChange decBackSpec)) decBackCard

/-- THE SECOND FORM's CARD OF 'straitlaw07.WordCuts'. -/
def wordCutsUptoCard : Claim7 := { stood := { row := wordCutsUptoRow, standIns := [], harness := (true, "c393a3418e382f199858983a81dee36eab484f1736a2b4eccf939277599dcae2"), looks := true }, kinds := [], alts := [], laidByText := true, laidKinds := [.data, .pinned], laidTests := true, laidLooks := .later }
def WordCutsUptoCardSaid : Prop := Claim7.holds Tryd.pinned (.plain (OpenSpec.upto wordCutsSpec)) wordCutsUptoCard

/-- THE SECOND FORM's CARD OF 'straitlaw07.WordBack'. -/
def wordBackUptoCard : Claim7 := { stood := { row := wordBackUptoRow, standIns := [], harness := (true, "c393a3418e382f199858983a81dee36eab484f1736a2b4eccf939277599dcae2"), looks := true }, kinds := [], alts := [], laidByText := true, laidKinds := [.data, .pinned], laidTests := true, laidLooks := .later }
def WordBackUptoCardSaid : Prop := Claim7.holds Tryd.pinned (.plain (OpenSpec.upto wordBackSpec)) wordBackUptoCard

/-- THE SECOND FORM's CARD OF 'straitlaw07.WordPuts'. -/
def wordPutsUptoCard : Claim7 := { stood := { row := wordPutsUptoRow, standIns := [], harness := (true, "c393a3418e382f199858983a81dee36eab484f1736a2b4eccf939277599dcae2"), looks := true }, kinds := [], alts := [], laidByText := true, laidKinds := [.data, .pinned], laidTests := true, laidLooks := .later }
def WordPutsUptoCardSaid : Prop := Claim7.holds Tryd.pinned (.plain (OpenSpec.upto wordPutsSpec)) wordPutsUptoCard

/-- THE SECOND FORM's CARD OF 'straitlaw06.DecTells'. -/
def decTellsUptoCard : Claim7 := { stood := { row := decTellsUptoRow, standIns := [], harness := (true, "c393a3418e382f199858983a81dee36eab484f1736a2b4eccf939277599dcae2"), looks := true }, kinds := [], alts := [], laidByText := true, laidKinds := [.data, .data, .data, .data, .sentinel, .sentinel, .pinned], laidTests := true, laidLooks := .later }
def DecTellsUptoCardSaid : Prop := Claim7.holds Tryd.pinned (.plain (OpenSpec.upto decTellsSpec)) decTellsUptoCard

/-- THE SECOND FORM's CARD OF 'straitlaw06.DecLists'. -/
def decListsUptoCard : Claim7 := { stood := { row := decListsUptoRow, standIns := [], harness := (true, "c393a3418e382f199858983a81dee36eab484f1736a2b4eccf939277599dcae2"), looks := true }, kinds := [], alts := [], laidByText := true, laidKinds := [.data, .data, .data, .data, .sentinel, .sentinel, .pinned], laidTests := true, laidLooks := .later }
def DecListsUptoCardSaid : Prop := Claim7.holds Tryd.pinned (.plain (OpenSpec.upto decListsSpec)) decListsUptoCard

/-- THE SECOND FORM's CARD OF 'straitlaw06.DecBack'. -/
def decBackUptoCard : Claim7 := { stood := { row := decBackUptoRow, standIns := [], harness := (true, "c393a3418e382f199858983a81dee36eab484f1736a2b4eccf939277599dcae2"), looks := true }, kinds := [], alts := [], laidByText := true, laidKinds := [.data, .data, .data, .data, .sentinel, .sentinel, .pinned], laidTests := true, laidLooks := .later }
def DecBackUptoCardSaid : Prop := Claim7.holds Tryd.pinned (.plain (OpenSpec.upto decBackSpec)) decBackUptoCard
end Rows
end Go.Proofs.YtnepdopakngpfaaDoor
