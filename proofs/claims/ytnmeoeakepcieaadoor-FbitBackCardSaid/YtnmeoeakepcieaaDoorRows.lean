/-
  NARROWER THAN 'FOR EVERY INPUT', by the rows' own cells (each row's printed sentence says how): FbitTells: laid · FbitMakes: laid · FbitBack: laid · QuantSteps: laid · QuantBacks: laid · QuantWhole: laid.
  DERIVED. THE GIVEN ROWS OF THIS SEAT. 6 by the template 'for every input the law returns true; each argument reads behind the call as it read before'; 0 by the template 'total and deterministic' (their statements: YtnmeoeakepcieaaDoorTotals.lean).
  GIVEN WITH THE SEED: the statements are not yours to turn. If you find one false, say at which input.
  Laid BY PROGRAM, IN A SANDBOX (cutbox-rows.mjs): the forced cells as the released guide's own fill.sh prints them over the translation 620a04e83f1ca68d… (all of the seat's roots in one cut). By AI agents, Wed Nov 11 2026. No macro, syntax, notation, axiom, sorry.
-/
import Derived.Test.YtnmeoeakepcieaaDoorChecked
import GoSem.Claim
import GoSem.ClaimJoined
import GoSem.ClaimMapViews
import Derived.JoinedTies
import Derived.KernelRfl
namespace Go.Proofs.YtnmeoeakepcieaaDoor
/- THE CELL 'sum', in the pinned program and in every row, IS THE sha256 OF THE DUMP (.gsa) THAT YtnmeoeakepcieaaDoorProg.lean LOADS. Nothing in Lean hashes anything: it is a label: what it is worth is what the hold of that sum in a sandbox is worth. -/
noncomputable def Tryd.pinned : Pinned := { name := "ytnmeoeakepcieaadoor", sum := "620a04e83f1ca68d293384a52477a9c75ebb7fffadc8431bc33db7485f8212a2", checked := Tryd.checked }
namespace Rows
def none {H : Type} : Left H := { results := [], args := [] }

/- WHAT THE LISTED PACKAGE-LEVEL VARIABLES READ AS WHEN THE CALL BEGINS. Each datum BY PROGRAM (the guide's laid-datum.mjs) off the statement by which the dump's own 'gosem.cut.vars' lays the variable. In a bare row this is a premise. The card (YtnmeoeakepcieaaDoorCards.lean) ties it to the program's text. -/
def laid_math_bits_deBruijn64tab {H : Type} : DataW H := .agg [.lit (.int .u8 0), .lit (.int .u8 1), .lit (.int .u8 56), .lit (.int .u8 2), .lit (.int .u8 57), .lit (.int .u8 49), .lit (.int .u8 28), .lit (.int .u8 3), .lit (.int .u8 61), .lit (.int .u8 58), .lit (.int .u8 42), .lit (.int .u8 50), .lit (.int .u8 38), .lit (.int .u8 29), .lit (.int .u8 17), .lit (.int .u8 4), .lit (.int .u8 62), .lit (.int .u8 47), .lit (.int .u8 59), .lit (.int .u8 36), .lit (.int .u8 45), .lit (.int .u8 43), .lit (.int .u8 51), .lit (.int .u8 22), .lit (.int .u8 53), .lit (.int .u8 39), .lit (.int .u8 33), .lit (.int .u8 30), .lit (.int .u8 24), .lit (.int .u8 18), .lit (.int .u8 12), .lit (.int .u8 5), .lit (.int .u8 63), .lit (.int .u8 55), .lit (.int .u8 48), .lit (.int .u8 27), .lit (.int .u8 60), .lit (.int .u8 41), .lit (.int .u8 37), .lit (.int .u8 16), .lit (.int .u8 46), .lit (.int .u8 35), .lit (.int .u8 44), .lit (.int .u8 21), .lit (.int .u8 52), .lit (.int .u8 32), .lit (.int .u8 23), .lit (.int .u8 11), .lit (.int .u8 54), .lit (.int .u8 26), .lit (.int .u8 40), .lit (.int .u8 15), .lit (.int .u8 34), .lit (.int .u8 20), .lit (.int .u8 31), .lit (.int .u8 10), .lit (.int .u8 25), .lit (.int .u8 14), .lit (.int .u8 19), .lit (.int .u8 9), .lit (.int .u8 13), .lit (.int .u8 8), .lit (.int .u8 7), .lit (.int .u8 6)]

/-- 'straitlaw02.FbitTells': WHATEVER THE INPUT: true; the input reads as it did. -/
def fbitTellsSpec : ChangeSpec := { name := "fbitTells", fn := fun _ => fun
  | [d] => { results := [.lit (.bool true)], args := [d] }
  | _ => none }
def fbitTellsRow : OpenClaim := { program := "ytnmeoeakepcieaadoor", sum := "620a04e83f1ca68d293384a52477a9c75ebb7fffadc8431bc33db7485f8212a2", func := "strait/straitlaw02.FbitTells", spec := "fbitTells", inPlace := ["math.Float64frombits", "math.Float64bits"], named := ["math/bits.deBruijn64tab"], apart := false, laid := [("math/bits.deBruijn64tab", laid_math_bits_deBruijn64tab)] }
def FbitTellsSaid : Prop := fbitTellsRow.holds Tryd.pinned (OpenSpec.ofChange fbitTellsSpec)

/-- ITS FALSE NEIGHBOUR: 'it returns false'. Refute it at one input. -/
def fbitTellsWrong : ChangeSpec := { name := "fbitTells", fn := fun _ => fun
  | [d] => { results := [.lit (.bool false)], args := [d] }
  | _ => none }
def FbitTellsWrongFalsely : Prop := fbitTellsRow.holds Tryd.pinned (OpenSpec.ofChange fbitTellsWrong)

/-- 'straitlaw02.FbitMakes': WHATEVER THE INPUT: true; the input reads as it did. -/
def fbitMakesSpec : ChangeSpec := { name := "fbitMakes", fn := fun _ => fun
  | [d1, d2, d3] => { results := [.lit (.bool true)], args := [d1, d2, d3] }
  | _ => none }
def fbitMakesRow : OpenClaim := { program := "ytnmeoeakepcieaadoor", sum := "620a04e83f1ca68d293384a52477a9c75ebb7fffadc8431bc33db7485f8212a2", func := "strait/straitlaw02.FbitMakes", spec := "fbitMakes", inPlace := ["math.Float64frombits", "math.Float64bits"], named := ["math/bits.deBruijn64tab"], apart := false, laid := [("math/bits.deBruijn64tab", laid_math_bits_deBruijn64tab)] }
def FbitMakesSaid : Prop := fbitMakesRow.holds Tryd.pinned (OpenSpec.ofChange fbitMakesSpec)

/-- ITS FALSE NEIGHBOUR: 'it returns false'. Refute it at one input. -/
def fbitMakesWrong : ChangeSpec := { name := "fbitMakes", fn := fun _ => fun
  | [d1, d2, d3] => { results := [.lit (.bool false)], args := [d1, d2, d3] }
  | _ => none }
def FbitMakesWrongFalsely : Prop := fbitMakesRow.holds Tryd.pinned (OpenSpec.ofChange fbitMakesWrong)

/-- 'straitlaw02.FbitBack': WHATEVER THE INPUT: true; the input reads as it did. -/
def fbitBackSpec : ChangeSpec := { name := "fbitBack", fn := fun _ => fun
  | [d1, d2, d3] => { results := [.lit (.bool true)], args := [d1, d2, d3] }
  | _ => none }
def fbitBackRow : OpenClaim := { program := "ytnmeoeakepcieaadoor", sum := "620a04e83f1ca68d293384a52477a9c75ebb7fffadc8431bc33db7485f8212a2", func := "strait/straitlaw02.FbitBack", spec := "fbitBack", inPlace := ["math.Float64frombits", "math.Float64bits"], named := ["math/bits.deBruijn64tab"], apart := false, laid := [("math/bits.deBruijn64tab", laid_math_bits_deBruijn64tab)] }
def FbitBackSaid : Prop := fbitBackRow.holds Tryd.pinned (OpenSpec.ofChange fbitBackSpec)

/-- ITS FALSE NEIGHBOUR: 'it returns false'. Refute it at one input. -/
def fbitBackWrong : ChangeSpec := { name := "fbitBack", fn := fun _ => fun
  | [d1, d2, d3] => { results := [.lit (.bool false)], args := [d1, d2, d3] }
  | _ => none }
def FbitBackWrongFalsely : Prop := fbitBackRow.holds Tryd.pinned (OpenSpec.ofChange fbitBackWrong)

/-- 'straitlaw05.QuantSteps': WHATEVER THE INPUT: true; the input reads as it did. -/
def quantStepsSpec : ChangeSpec := { name := "quantSteps", fn := fun _ => fun
  | [d1, d2] => { results := [.lit (.bool true)], args := [d1, d2] }
  | _ => none }
def quantStepsRow : OpenClaim := { program := "ytnmeoeakepcieaadoor", sum := "620a04e83f1ca68d293384a52477a9c75ebb7fffadc8431bc33db7485f8212a2", func := "strait/straitlaw05.QuantSteps", spec := "quantSteps", inPlace := ["math.Float64bits", "math.Float64frombits"], unfollowed := true, recurses := true, named := ["math/bits.deBruijn64tab"], apart := false, laid := [("math/bits.deBruijn64tab", laid_math_bits_deBruijn64tab)] }
def QuantStepsSaid : Prop := quantStepsRow.holds Tryd.pinned (OpenSpec.ofChange quantStepsSpec)

/-- ITS FALSE NEIGHBOUR: 'it returns false'. Refute it at one input. -/
def quantStepsWrong : ChangeSpec := { name := "quantSteps", fn := fun _ => fun
  | [d1, d2] => { results := [.lit (.bool false)], args := [d1, d2] }
  | _ => none }
def QuantStepsWrongFalsely : Prop := quantStepsRow.holds Tryd.pinned (OpenSpec.ofChange quantStepsWrong)

/-- 'straitlaw05.QuantBacks': WHATEVER THE INPUT: true; the input reads as it did. -/
def quantBacksSpec : ChangeSpec := { name := "quantBacks", fn := fun _ => fun
  | [d1, d2] => { results := [.lit (.bool true)], args := [d1, d2] }
  | _ => none }
def quantBacksRow : OpenClaim := { program := "ytnmeoeakepcieaadoor", sum := "620a04e83f1ca68d293384a52477a9c75ebb7fffadc8431bc33db7485f8212a2", func := "strait/straitlaw05.QuantBacks", spec := "quantBacks", inPlace := ["math.Float64bits", "math.Float64frombits"], unfollowed := true, recurses := true, named := ["math/bits.deBruijn64tab"], apart := false, laid := [("math/bits.deBruijn64tab", laid_math_bits_deBruijn64tab)] }
def QuantBacksSaid : Prop := quantBacksRow.holds Tryd.pinned (OpenSpec.ofChange quantBacksSpec)

/-- ITS FALSE NEIGHBOUR: 'it returns false'. Refute it at one input. -/
def quantBacksWrong : ChangeSpec := { name := "quantBacks", fn := fun _ => fun
  | [d1, d2] => { results := [.lit (.bool false)], args := [d1, d2] }
  | _ => none }
def QuantBacksWrongFalsely : Prop := quantBacksRow.holds Tryd.pinned (OpenSpec.ofChange quantBacksWrong)

/-- 'straitlaw05.QuantWhole': WHATEVER THE INPUT: true; the input reads as it did. -/
def quantWholeSpec : ChangeSpec := { name := "quantWhole", fn := fun _ => fun
  | [d1, d2] => { results := [.lit (.bool true)], args := [d1, d2] }
  | _ => none }
def quantWholeRow : OpenClaim := { program := "ytnmeoeakepcieaadoor", sum := "620a04e83f1ca68d293384a52477a9c75ebb7fffadc8431bc33db7485f8212a2", func := "strait/straitlaw05.QuantWhole", spec := "quantWhole", inPlace := ["math.Float64bits", "math.Float64frombits"], unfollowed := true, recurses := true, named := ["math/bits.deBruijn64tab"], apart := false, laid := [("math/bits.deBruijn64tab", laid_math_bits_deBruijn64tab)] }
def QuantWholeSaid : Prop := quantWholeRow.holds Tryd.pinned (OpenSpec.ofChange quantWholeSpec)

/-- ITS FALSE NEIGHBOUR: 'it returns false'. Refute it at one input. -/
def quantWholeWrong : ChangeSpec := { name := "quantWhole", fn := fun _ => fun
  | [d1, d2] => { results := [.lit (.bool false)], args := [d1, d2] }
  | _ => none }
def QuantWholeWrongFalsely : Prop := quantWholeRow.holds Tryd.pinned (OpenSpec.ofChange quantWholeWrong)

/- THE SECOND FORM. 'bulk': how many values and letters a reading holds, each counted each time it is reached (what is shared counts as often as it is met; a slice's spare places count too). A statement '..UptoSaid' is the law's where the arguments, and the package variables that the reading takes, are together of bulk at most 1048576: NARROWER than '..Said'. Prove '..Said' where nothing that the law and all that it calls make is longer than what came in: it says more and counts as full. Else prove '..UptoSaid'. A law counts once. -/
mutual
def uptoBulk {H : Type} : DataW H → Nat
  | .lit (.string bytes) => bytes.length + 1
  | .lit _ => 1
  | .nil => 1
  | .ptr d => uptoBulk d + 1
  | .slice elems spare => uptoBulkAll elems + uptoBulkAll spare + 1
  | .agg parts => uptoBulkAll parts + 1
  | .iface _ d => uptoBulk d + 1
  | .map entries => uptoBulkEntries entries + 1
  | .held _ => 1
def uptoBulkAll {H : Type} : List (DataW H) → Nat
  | [] => 0
  | d :: r => uptoBulk d + uptoBulkAll r
def uptoBulkEntries {H : Type} : List (Lit × DataW H) → Nat
  | [] => 0
  | x :: r => uptoBulkEntry x + uptoBulkEntries r
def uptoBulkEntry {H : Type} : Lit × DataW H → Nat
  | (.string bytes, d) => bytes.length + uptoBulk d + 1
  | (_, d) => uptoBulk d + 1
 end
def uptoSmall : (H : Type) → List (DataW H) → Bool := fun _ ds => decide (uptoBulkAll ds ≤ 1048576)
def OpenSpec.upto (s : _root_.Go.ChangeSpec) : _root_.Go.OpenSpec := { _root_.Go.OpenSpec.ofChange s with cond := some uptoSmall }

/-- 'straitlaw02.FbitTells', WHERE WHAT IT READS IS OF BULK AT MOST 1048576: true; the input reads as it did. -/
def fbitTellsUptoRow : OpenClaim := { program := "ytnmeoeakepcieaadoor", sum := "620a04e83f1ca68d293384a52477a9c75ebb7fffadc8431bc33db7485f8212a2", func := "strait/straitlaw02.FbitTells", spec := "fbitTells", inPlace := ["math.Float64frombits", "math.Float64bits"], named := ["math/bits.deBruijn64tab"], apart := false, laid := [("math/bits.deBruijn64tab", laid_math_bits_deBruijn64tab)], narrowed := true }
def FbitTellsUptoSaid : Prop := fbitTellsUptoRow.holds Tryd.pinned (OpenSpec.upto fbitTellsSpec)

/-- 'straitlaw02.FbitMakes', WHERE WHAT IT READS IS OF BULK AT MOST 1048576: true; the input reads as it did. -/
def fbitMakesUptoRow : OpenClaim := { program := "ytnmeoeakepcieaadoor", sum := "620a04e83f1ca68d293384a52477a9c75ebb7fffadc8431bc33db7485f8212a2", func := "strait/straitlaw02.FbitMakes", spec := "fbitMakes", inPlace := ["math.Float64frombits", "math.Float64bits"], named := ["math/bits.deBruijn64tab"], apart := false, laid := [("math/bits.deBruijn64tab", laid_math_bits_deBruijn64tab)], narrowed := true }
def FbitMakesUptoSaid : Prop := fbitMakesUptoRow.holds Tryd.pinned (OpenSpec.upto fbitMakesSpec)

/-- 'straitlaw02.FbitBack', WHERE WHAT IT READS IS OF BULK AT MOST 1048576: true; the input reads as it did. -/
def fbitBackUptoRow : OpenClaim := { program := "ytnmeoeakepcieaadoor", sum := "620a04e83f1ca68d293384a52477a9c75ebb7fffadc8431bc33db7485f8212a2", func := "strait/straitlaw02.FbitBack", spec := "fbitBack", inPlace := ["math.Float64frombits", "math.Float64bits"], named := ["math/bits.deBruijn64tab"], apart := false, laid := [("math/bits.deBruijn64tab", laid_math_bits_deBruijn64tab)], narrowed := true }
def FbitBackUptoSaid : Prop := fbitBackUptoRow.holds Tryd.pinned (OpenSpec.upto fbitBackSpec)

/-- 'straitlaw05.QuantSteps', WHERE WHAT IT READS IS OF BULK AT MOST 1048576: true; the input reads as it did. -/
def quantStepsUptoRow : OpenClaim := { program := "ytnmeoeakepcieaadoor", sum := "620a04e83f1ca68d293384a52477a9c75ebb7fffadc8431bc33db7485f8212a2", func := "strait/straitlaw05.QuantSteps", spec := "quantSteps", inPlace := ["math.Float64bits", "math.Float64frombits"], unfollowed := true, recurses := true, named := ["math/bits.deBruijn64tab"], apart := false, laid := [("math/bits.deBruijn64tab", laid_math_bits_deBruijn64tab)], narrowed := true }
def QuantStepsUptoSaid : Prop := quantStepsUptoRow.holds Tryd.pinned (OpenSpec.upto quantStepsSpec)

/-- 'straitlaw05.QuantBacks', WHERE WHAT IT READS IS OF BULK AT MOST 1048576: true; the input reads as it did. -/
def quantBacksUptoRow : OpenClaim := { program := "ytnmeoeakepcieaadoor", sum := "620a04e83f1ca68d293384a52477a9c75ebb7fffadc8431bc33db7485f8212a2", func := "strait/straitlaw05.QuantBacks", spec := "quantBacks", inPlace := ["math.Float64bits", "math.Float64frombits"], unfollowed := true, recurses := true, named := ["math/bits.deBruijn64tab"], apart := false, laid := [("math/bits.deBruijn64tab", laid_math_bits_deBruijn64tab)], narrowed := true }
def QuantBacksUptoSaid : Prop := quantBacksUptoRow.holds Tryd.pinned (OpenSpec.upto quantBacksSpec)

/-- 'straitlaw05.QuantWhole', WHERE WHAT IT READS IS OF BULK AT MOST 1048576: true; the input reads as it did. -/
def quantWholeUptoRow : OpenClaim := { program := "ytnmeoeakepcieaadoor", sum := "620a04e83f1ca68d293384a52477a9c75ebb7fffadc8431bc33db7485f8212a2", func := "strait/straitlaw05.QuantWhole", spec := "quantWhole", inPlace := ["math.Float64bits", "math.Float64frombits"], unfollowed := true, recurses := true, named := ["math/bits.deBruijn64tab"], apart := false, laid := [("math/bits.deBruijn64tab", laid_math_bits_deBruijn64tab)], narrowed := true }
def QuantWholeUptoSaid : Prop := quantWholeUptoRow.holds Tryd.pinned (OpenSpec.upto quantWholeSpec)

end Rows
end Go.Proofs.YtnmeoeakepcieaaDoor
