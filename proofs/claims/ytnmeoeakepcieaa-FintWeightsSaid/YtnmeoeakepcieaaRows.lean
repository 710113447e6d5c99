/-
  No cell of these rows narrows 'for every input' (looked for: loops, veiled, ifaces, maps, wideKeys, modest, calm, conditions, laid).
  DERIVED. THE GIVEN ROWS OF THIS SEAT. 3 by the template 'for every input the law returns true; each argument reads behind the call as it read before'; 0 by the template 'total and deterministic' (their statements: YtnmeoeakepcieaaTotals.lean).
  GIVEN WITH THE SEED: the statements are not yours to turn. If you find one false, say at which input.
  Laid BY PROGRAM, IN A SANDBOX (cutbox-rows.mjs): the forced cells as the released guide's own fill.sh prints them over the translation dec68c80b66fb001… (all of the seat's roots in one cut). By AI agents, Wed Nov 11 2026. No macro, syntax, notation, axiom, sorry.
-/
import Derived.Test.YtnmeoeakepcieaaChecked
import GoSem.Claim
import GoSem.ClaimJoined
import GoSem.ClaimMapViews
import Derived.JoinedTies
import Derived.KernelRfl
namespace Go.Proofs.Ytnmeoeakepcieaa
/- THE CELL 'sum', in the pinned program and in every row, IS THE sha256 OF THE DUMP (.gsa) THAT YtnmeoeakepcieaaProg.lean LOADS. Nothing in Lean hashes anything: it is a label: what it is worth is what the hold of that sum in a sandbox is worth. -/
noncomputable def Try.pinned : Pinned := { name := "ytnmeoeakepcieaa", sum := "dec68c80b66fb001e8efbe7b1ebbc2a4f386dc941de106b9e4b907af7f8871f3", checked := Try.checked }
namespace Rows
def none {H : Type} : Left H := { results := [], args := [] }

/-- 'straitlaw04.FintWeights': WHATEVER THE INPUT: true; the input reads as it did. -/
def fintWeightsSpec : ChangeSpec := { name := "fintWeights", fn := fun _ => fun
  | [d] => { results := [.lit (.bool true)], args := [d] }
  | _ => none }
def fintWeightsRow : OpenClaim := { program := "ytnmeoeakepcieaa", sum := "dec68c80b66fb001e8efbe7b1ebbc2a4f386dc941de106b9e4b907af7f8871f3", func := "strait/straitlaw04.FintWeights", spec := "fintWeights", inPlace := ["math.Float64bits", "math.archTrunc", "math.Float64frombits"], apart := false }
def FintWeightsSaid : Prop := fintWeightsRow.holds Try.pinned (OpenSpec.ofChange fintWeightsSpec)

/-- ITS FALSE NEIGHBOUR: 'it returns false'. Refute it at one input. -/
def fintWeightsWrong : ChangeSpec := { name := "fintWeights", fn := fun _ => fun
  | [d] => { results := [.lit (.bool false)], args := [d] }
  | _ => none }
def FintWeightsWrongFalsely : Prop := fintWeightsRow.holds Try.pinned (OpenSpec.ofChange fintWeightsWrong)

/-- 'straitlaw04.FintBack': WHATEVER THE INPUT: true; the input reads as it did. -/
def fintBackSpec : ChangeSpec := { name := "fintBack", fn := fun _ => fun
  | [d1, d2] => { results := [.lit (.bool true)], args := [d1, d2] }
  | _ => none }
def fintBackRow : OpenClaim := { program := "ytnmeoeakepcieaa", sum := "dec68c80b66fb001e8efbe7b1ebbc2a4f386dc941de106b9e4b907af7f8871f3", func := "strait/straitlaw04.FintBack", spec := "fintBack", inPlace := ["math.Float64frombits", "math.Float64bits", "math.archTrunc"], apart := false }
def FintBackSaid : Prop := fintBackRow.holds Try.pinned (OpenSpec.ofChange fintBackSpec)

/-- ITS FALSE NEIGHBOUR: 'it returns false'. Refute it at one input. -/
def fintBackWrong : ChangeSpec := { name := "fintBack", fn := fun _ => fun
  | [d1, d2] => { results := [.lit (.bool false)], args := [d1, d2] }
  | _ => none }
def FintBackWrongFalsely : Prop := fintBackRow.holds Try.pinned (OpenSpec.ofChange fintBackWrong)

/-- 'straitlaw04.FintTells': WHATEVER THE INPUT: true; the input reads as it did. -/
def fintTellsSpec : ChangeSpec := { name := "fintTells", fn := fun _ => fun
  | [d1, d2] => { results := [.lit (.bool true)], args := [d1, d2] }
  | _ => none }
def fintTellsRow : OpenClaim := { program := "ytnmeoeakepcieaa", sum := "dec68c80b66fb001e8efbe7b1ebbc2a4f386dc941de106b9e4b907af7f8871f3", func := "strait/straitlaw04.FintTells", spec := "fintTells", inPlace := ["math.Float64frombits", "math.Float64bits", "math.archTrunc"], apart := false }
def FintTellsSaid : Prop := fintTellsRow.holds Try.pinned (OpenSpec.ofChange fintTellsSpec)

/-- ITS FALSE NEIGHBOUR: 'it returns false'. Refute it at one input. -/
def fintTellsWrong : ChangeSpec := { name := "fintTells", fn := fun _ => fun
  | [d1, d2] => { results := [.lit (.bool false)], args := [d1, d2] }
  | _ => none }
def FintTellsWrongFalsely : Prop := fintTellsRow.holds Try.pinned (OpenSpec.ofChange fintTellsWrong)

/- THE SECOND FORM. 'bulk': how many values and letters a reading holds, each counted each time it is reached (what is shared counts as often as it is met; a slice's spare places count too). A statement '..UptoSaid' is the law's where the arguments, and the package variables that the reading takes, are together of bulk at most 1048576: NARROWER than '..Said'. Prove '..Said' where nothing that the law and all that it calls make is longer than what came in: it says more and counts as full. Else prove '..UptoSaid'. A law counts once. -/
mutual
def uptoBulk {H : Type} : DataW H → Nat
  | .lit (.string bytes) => bytes.length + 1
  | .lit _ => 1
  | .nil => 1
  | .ptr d => uptoBulk d + 1
  | .slice elems spare => uptoBulkAll elems + uptoBulkAll spare + 1
  | .agg parts => uptoBulkAll parts + 1
  | .iface _ d => uptoBulk d + 1
  | .map entries => uptoBulkEntries entries + 1
  | .held _ => 1
def uptoBulkAll {H : Type} : List (DataW H) → Nat
  | [] => 0
  | d :: r => uptoBulk d + uptoBulkAll r
def uptoBulkEntries {H : Type} : List (Lit × DataW H) → Nat
  | [] => 0
  | x :: r => uptoBulkEntry x + uptoBulkEntries r
def uptoBulkEntry {H : Type} : Lit × DataW H → Nat
  | (.string bytes, d) => bytes.length + uptoBulk d + 1
  | (_, d) => uptoBulk d + 1
 end
def uptoSmall : (H : Type) → List (DataW H) → Bool := fun _ ds => decide (uptoBulkAll ds ≤ 1048576)
def OpenSpec.upto (s : _root_.Go.ChangeSpec) : _root_.Go.OpenSpec := { _root_.Go.OpenSpec.ofChange s with cond := some uptoSmall }

/-- 'straitlaw04.FintWeights', WHERE WHAT IT READS IS OF BULK AT MOST 1048576: true; the input reads as it did. -/
def fintWeightsUptoRow : OpenClaim := { program := "ytnmeoeakepcieaa", sum := "dec68c80b66fb001e8efbe7b1ebbc2a4f386dc941de106b9e4b907af7f8871f3", func := "strait/straitlaw04.FintWeights", spec := "fintWeights", inPlace := ["math.Float64bits", "math.archTrunc", "math.Float64frombits"], apart := false, narrowed := true }
def FintWeightsUptoSaid : Prop := fintWeightsUptoRow.holds Try.pinned (OpenSpec.upto fintWeightsSpec)

/-- 'straitlaw04.FintBack', WHERE WHAT IT READS IS OF BULK AT MOST 1048576: true; the input reads as it did. -/
def fintBackUptoRow : OpenClaim := { program := "ytnmeoeakepcieaa", sum := "dec68c80b66fb001e8efbe7b1ebbc2a4f386dc941de106b9e4b907af7f8871f3", func := "strait/straitlaw04.FintBack", spec := "fintBack", inPlace := ["math.Float64frombits", "math.Float64bits", "math.archTrunc"], apart := false, narrowed := true }
def FintBackUptoSaid : Prop := fintBackUptoRow.holds Try.pinned (OpenSpec.upto fintBackSpec)

/-- 'straitlaw04.FintTells', WHERE WHAT IT READS IS OF BULK AT MOST 1048576: true; the input reads as it did. -/
def fintTellsUptoRow : OpenClaim := { program := "ytnmeoeakepcieaa", sum := "dec68c80b66fb001e8efbe7b1ebbc2a4f386dc941de106b9e4b907af7f8871f3", func := "strait/straitlaw04.FintTells", spec := "fintTells", inPlace := ["math.Float64frombits", "math.Float64bits", "math.archTrunc"], apart := false, narrowed := true }
def FintTellsUptoSaid : Prop := fintTellsUptoRow.holds Try.pinned (OpenSpec.upto fintTellsSpec)

end Rows
end Go.Proofs.Ytnmeoeakepcieaa
