/-
  No cell of these rows narrows 'for every input' (looked for: loops, veiled, ifaces, maps, wideKeys, modest, calm, conditions, laid).
  DERIVED. THE GIVEN ROWS OF THIS SEAT. 8 by the template 'for every input the law returns true; each argument reads behind the call as it read before'; 0 by the template 'total and deterministic' (their statements: YtfidcekobjmamaaTotals.lean).
  GIVEN WITH THE SEED: the statements are not yours to turn. If you find one false, say at which input.
  Laid BY PROGRAM, IN A SANDBOX (cutbox-rows.mjs): the forced cells as the released guide's own fill.sh prints them over the translation ad9dde173523f2e3… (all of the seat's roots in one cut). By AI agents, Wed Nov 11 2026. No macro, syntax, notation, axiom, sorry.
-/
import Derived.Test.YtfidcekobjmamaaChecked
import GoSem.Claim
import GoSem.ClaimJoined
import GoSem.ClaimMapViews
import Derived.JoinedTies
import Derived.KernelRfl
namespace Go.Proofs.Ytfidcekobjmamaa
/- THE CELL 'sum', in the pinned program and in every row, IS THE sha256 OF THE DUMP (.gsa) THAT YtfidcekobjmamaaProg.lean LOADS. Nothing in Lean hashes anything: it is a label: what it is worth is what the hold of that sum in a sandbox is worth. -/
noncomputable def Try.pinned : Pinned := { name := "ytfidcekobjmamaa", sum := "ad9dde173523f2e34f0d26339c9a6529621ca421c0b121b03950150da045c553", checked := Try.checked }
namespace Rows
def none {H : Type} : Left H := { results := [], args := [] }

/-- 'straitlaw29.TreeSame': WHATEVER THE INPUT: true; the input reads as it did. -/
def treeSameSpec : ChangeSpec := { name := "treeSame", fn := fun _ => fun
  | [d1, d2] => { results := [.lit (.bool true)], args := [d1, d2] }
  | _ => none }
def treeSameRow : OpenClaim := { program := "ytfidcekobjmamaa", sum := "ad9dde173523f2e34f0d26339c9a6529621ca421c0b121b03950150da045c553", func := "strait/straitlaw29.TreeSame", spec := "treeSame", apart := false }
def TreeSameSaid : Prop := treeSameRow.holds Try.pinned (OpenSpec.ofChange treeSameSpec)

/-- ITS FALSE NEIGHBOUR: 'it returns false'. Refute it at one input. -/
def treeSameWrong : ChangeSpec := { name := "treeSame", fn := fun _ => fun
  | [d1, d2] => { results := [.lit (.bool false)], args := [d1, d2] }
  | _ => none }
def TreeSameWrongFalsely : Prop := treeSameRow.holds Try.pinned (OpenSpec.ofChange treeSameWrong)

/-- 'straitlaw29.TreeTells': WHATEVER THE INPUT: true; the input reads as it did. -/
def treeTellsSpec : ChangeSpec := { name := "treeTells", fn := fun _ => fun
  | [d] => { results := [.lit (.bool true)], args := [d] }
  | _ => none }
def treeTellsRow : OpenClaim := { program := "ytfidcekobjmamaa", sum := "ad9dde173523f2e34f0d26339c9a6529621ca421c0b121b03950150da045c553", func := "strait/straitlaw29.TreeTells", spec := "treeTells", unfollowed := true, recurses := true, apart := false }
def TreeTellsSaid : Prop := treeTellsRow.holds Try.pinned (OpenSpec.ofChange treeTellsSpec)

/-- ITS FALSE NEIGHBOUR: 'it returns false'. Refute it at one input. -/
def treeTellsWrong : ChangeSpec := { name := "treeTells", fn := fun _ => fun
  | [d] => { results := [.lit (.bool false)], args := [d] }
  | _ => none }
def TreeTellsWrongFalsely : Prop := treeTellsRow.holds Try.pinned (OpenSpec.ofChange treeTellsWrong)

/-- 'straitlaw29.TreeWays': WHATEVER THE INPUT: true; the input reads as it did. -/
def treeWaysSpec : ChangeSpec := { name := "treeWays", fn := fun _ => fun
  | [d1, d2] => { results := [.lit (.bool true)], args := [d1, d2] }
  | _ => none }
def treeWaysRow : OpenClaim := { program := "ytfidcekobjmamaa", sum := "ad9dde173523f2e34f0d26339c9a6529621ca421c0b121b03950150da045c553", func := "strait/straitlaw29.TreeWays", spec := "treeWays", unfollowed := true, recurses := true, apart := false }
def TreeWaysSaid : Prop := treeWaysRow.holds Try.pinned (OpenSpec.ofChange treeWaysSpec)

/-- ITS FALSE NEIGHBOUR: 'it returns false'. Refute it at one input. -/
def treeWaysWrong : ChangeSpec := { name := "treeWays", fn := fun _ => fun
  | [d1, d2] => { results := [.lit (.bool false)], args := [d1, d2] }
  | _ => none }
def TreeWaysWrongFalsely : Prop := treeWaysRow.holds Try.pinned (OpenSpec.ofChange treeWaysWrong)

/-- 'straitlaw29.TreeParts': WHATEVER THE INPUT: true; the input reads as it did. -/
def treePartsSpec : ChangeSpec := { name := "treeParts", fn := fun _ => fun
  | [d1, d2] => { results := [.lit (.bool true)], args := [d1, d2] }
  | _ => none }
def treePartsRow : OpenClaim := { program := "ytfidcekobjmamaa", sum := "ad9dde173523f2e34f0d26339c9a6529621ca421c0b121b03950150da045c553", func := "strait/straitlaw29.TreeParts", spec := "treeParts", unfollowed := true, recurses := true, apart := false }
def TreePartsSaid : Prop := treePartsRow.holds Try.pinned (OpenSpec.ofChange treePartsSpec)

/-- ITS FALSE NEIGHBOUR: 'it returns false'. Refute it at one input. -/
def treePartsWrong : ChangeSpec := { name := "treeParts", fn := fun _ => fun
  | [d1, d2] => { results := [.lit (.bool false)], args := [d1, d2] }
  | _ => none }
def TreePartsWrongFalsely : Prop := treePartsRow.holds Try.pinned (OpenSpec.ofChange treePartsWrong)

/-- 'straitlaw35.MatrixTells': WHATEVER THE INPUT: true; the input reads as it did. -/
def matrixTellsSpec : ChangeSpec := { name := "matrixTells", fn := fun _ => fun
  | [d] => { results := [.lit (.bool true)], args := [d] }
  | _ => none }
def matrixTellsRow : OpenClaim := { program := "ytfidcekobjmamaa", sum := "ad9dde173523f2e34f0d26339c9a6529621ca421c0b121b03950150da045c553", func := "strait/straitlaw35.MatrixTells", spec := "matrixTells", unfollowed := true, recurses := true, apart := false }
def MatrixTellsSaid : Prop := matrixTellsRow.holds Try.pinned (OpenSpec.ofChange matrixTellsSpec)

/-- ITS FALSE NEIGHBOUR: 'it returns false'. Refute it at one input. -/
def matrixTellsWrong : ChangeSpec := { name := "matrixTells", fn := fun _ => fun
  | [d] => { results := [.lit (.bool false)], args := [d] }
  | _ => none }
def MatrixTellsWrongFalsely : Prop := matrixTellsRow.holds Try.pinned (OpenSpec.ofChange matrixTellsWrong)

/-- 'straitlaw35.MatrixTrees': WHATEVER THE INPUT: true; the input reads as it did. -/
def matrixTreesSpec : ChangeSpec := { name := "matrixTrees", fn := fun _ => fun
  | [d1, d2] => { results := [.lit (.bool true)], args := [d1, d2] }
  | _ => none }
def matrixTreesRow : OpenClaim := { program := "ytfidcekobjmamaa", sum := "ad9dde173523f2e34f0d26339c9a6529621ca421c0b121b03950150da045c553", func := "strait/straitlaw35.MatrixTrees", spec := "matrixTrees", unfollowed := true, recurses := true, apart := false }
def MatrixTreesSaid : Prop := matrixTreesRow.holds Try.pinned (OpenSpec.ofChange matrixTreesSpec)

/-- ITS FALSE NEIGHBOUR: 'it returns false'. Refute it at one input. -/
def matrixTreesWrong : ChangeSpec := { name := "matrixTrees", fn := fun _ => fun
  | [d1, d2] => { results := [.lit (.bool false)], args := [d1, d2] }
  | _ => none }
def MatrixTreesWrongFalsely : Prop := matrixTreesRow.holds Try.pinned (OpenSpec.ofChange matrixTreesWrong)

/-- 'straitlaw35.MatrixWide': WHATEVER THE INPUT: true; the input reads as it did. -/
def matrixWideSpec : ChangeSpec := { name := "matrixWide", fn := fun _ => fun
  | [d] => { results := [.lit (.bool true)], args := [d] }
  | _ => none }
def matrixWideRow : OpenClaim := { program := "ytfidcekobjmamaa", sum := "ad9dde173523f2e34f0d26339c9a6529621ca421c0b121b03950150da045c553", func := "strait/straitlaw35.MatrixWide", spec := "matrixWide", unfollowed := true, recurses := true, apart := false }
def MatrixWideSaid : Prop := matrixWideRow.holds Try.pinned (OpenSpec.ofChange matrixWideSpec)

/-- ITS FALSE NEIGHBOUR: 'it returns false'. Refute it at one input. -/
def matrixWideWrong : ChangeSpec := { name := "matrixWide", fn := fun _ => fun
  | [d] => { results := [.lit (.bool false)], args := [d] }
  | _ => none }
def MatrixWideWrongFalsely : Prop := matrixWideRow.holds Try.pinned (OpenSpec.ofChange matrixWideWrong)

/-- 'straitlaw36.KlassLeast': WHATEVER THE INPUT: true; the input reads as it did. -/
def klassLeastSpec : ChangeSpec := { name := "klassLeast", fn := fun _ => fun
  | [d1, d2, d3] => { results := [.lit (.bool true)], args := [d1, d2, d3] }
  | _ => none }
def klassLeastRow : OpenClaim := { program := "ytfidcekobjmamaa", sum := "ad9dde173523f2e34f0d26339c9a6529621ca421c0b121b03950150da045c553", func := "strait/straitlaw36.KlassLeast", spec := "klassLeast", unfollowed := true, recurses := true, apart := false }
def KlassLeastSaid : Prop := klassLeastRow.holds Try.pinned (OpenSpec.ofChange klassLeastSpec)

/-- ITS FALSE NEIGHBOUR: 'it returns false'. Refute it at one input. -/
def klassLeastWrong : ChangeSpec := { name := "klassLeast", fn := fun _ => fun
  | [d1, d2, d3] => { results := [.lit (.bool false)], args := [d1, d2, d3] }
  | _ => none }
def KlassLeastWrongFalsely : Prop := klassLeastRow.holds Try.pinned (OpenSpec.ofChange klassLeastWrong)

/- THE SECOND FORM. 'bulk': how many values and letters a reading holds, each counted each time it is reached (what is shared counts as often as it is met; a slice's spare places count too). A statement '..UptoSaid' is the law's where the arguments, and the package variables that the reading takes, are together of bulk at most 1048576: NARROWER than '..Said'. Prove '..Said' where nothing that the law and all that it calls make is longer than what came in: it says more and counts as full. Else prove '..UptoSaid'. A law counts once. -/
mutual
def uptoBulk {H : Type} : DataW H → Nat
  | .lit (.string bytes) => bytes.length + 1
  | .lit _ => 1
  | .nil => 1
  | .ptr d => uptoBulk d + 1
  | .slice elems spare => uptoBulkAll elems + uptoBulkAll spare + 1
  | .agg parts => uptoBulkAll parts + 1
  | .iface _ d => uptoBulk d + 1
  | .map entries => uptoBulkEntries entries + 1
  | .held _ => 1
def uptoBulkAll {H : Type} : List (DataW H) → Nat
  | [] => 0
  | d :: r => uptoBulk d + uptoBulkAll r
def uptoBulkEntries {H : Type} : List (Lit × DataW H) → Nat
  | [] => 0
  | x :: r => uptoBulkEntry x + uptoBulkEntries r
def uptoBulkEntry {H : Type} : Lit × DataW H → Nat
  | (.string bytes, d) => bytes.length + uptoBulk d + 1
  | (_, d) => uptoBulk d + 1
 end
def uptoSmall : (H : Type) → List (DataW H) → Bool := fun _ ds => decide (uptoBulkAll ds ≤ 1048576)
def OpenSpec.upto (s : _root_.Go.ChangeSpec) : _root_.Go.OpenSpec := { _root_.Go.OpenSpec.ofChange s with cond := some uptoSmall }

/-- 'straitlaw29.TreeSame', WHERE WHAT IT READS IS OF BULK AT MOST 1048576: true; the input reads as it did. -/
def treeSameUptoRow : OpenClaim := { program := "ytfidcekobjmamaa", sum := "ad9dde173523f2e34f0d26339c9a6529621ca421c0b121b03950150da045c553", func := "strait/straitlaw29.TreeSame", spec := "treeSame", apart := false, narrowed := true }
def TreeSameUptoSaid : Prop := treeSameUptoRow.holds Try.pinned (OpenSpec.upto treeSameSpec)

/-- 'straitlaw29.TreeTells', WHERE WHAT IT READS IS OF BULK AT MOST 1048576: true; the input reads as it did. -/
def treeTellsUptoRow : OpenClaim := { program := "ytfidcekobjmamaa", sum := "ad9dde173523f2e34f0d26339c9a6529621ca421c0b121b03950150da045c553", func := "strait/straitlaw29.TreeTells", spec := "treeTells", unfollowed := true, recurses := true, apart := false, narrowed := true }
def TreeTellsUptoSaid : Prop := treeTellsUptoRow.holds Try.pinned (OpenSpec.upto treeTellsSpec)

/-- 'straitlaw29.TreeWays', WHERE WHAT IT READS IS OF BULK AT MOST 1048576: true; the input reads as it did. -/
def treeWaysUptoRow : OpenClaim := { program := "ytfidcekobjmamaa", sum := "ad9dde173523f2e34f0d26339c9a6529621ca421c0b121b03950150da045c553", func := "strait/straitlaw29.TreeWays", spec := "treeWays", unfollowed := true, recurses := true, apart := false, narrowed := true }
def TreeWaysUptoSaid : Prop := treeWaysUptoRow.holds Try.pinned (OpenSpec.upto treeWaysSpec)

/-- 'straitlaw29.TreeParts', WHERE WHAT IT READS IS OF BULK AT MOST 1048576: true; the input reads as it did. -/
def treePartsUptoRow : OpenClaim := { program := "ytfidcekobjmamaa", sum := "ad9dde173523f2e34f0d26339c9a6529621ca421c0b121b03950150da045c553", func := "strait/straitlaw29.TreeParts", spec := "treeParts", unfollowed := true, recurses := true, apart := false, narrowed := true }
def TreePartsUptoSaid : Prop := treePartsUptoRow.holds Try.pinned (OpenSpec.upto treePartsSpec)

/-- 'straitlaw35.MatrixTells', WHERE WHAT IT READS IS OF BULK AT MOST 1048576: true; the input reads as it did. -/
def matrixTellsUptoRow : OpenClaim := { program := "ytfidcekobjmamaa", sum := "ad9dde173523f2e34f0d26339c9a6529621ca421c0b121b03950150da045c553", func := "strait/straitlaw35.MatrixTells", spec := "matrixTells", unfollowed := true, recurses := true, apart := false, narrowed := true }
def MatrixTellsUptoSaid : Prop := matrixTellsUptoRow.holds Try.pinned (OpenSpec.upto matrixTellsSpec)

/-- 'straitlaw35.MatrixTrees', WHERE WHAT IT READS IS OF BULK AT MOST 1048576: true; the input reads as it did. -/
def matrixTreesUptoRow : OpenClaim := { program := "ytfidcekobjmamaa", sum := "ad9dde173523f2e34f0d26339c9a6529621ca421c0b121b03950150da045c553", func := "strait/straitlaw35.MatrixTrees", spec := "matrixTrees", unfollowed := true, recurses := true, apart := false, narrowed := true }
def MatrixTreesUptoSaid : Prop := matrixTreesUptoRow.holds Try.pinned (OpenSpec.upto matrixTreesSpec)

/-- 'straitlaw35.MatrixWide', WHERE WHAT IT READS IS OF BULK AT MOST 1048576: true; the input reads as it did. -/
def matrixWideUptoRow : OpenClaim := { program := "ytfidcekobjmamaa", sum := "ad9dde173523f2e34f0d26339c9a6529621ca421c0b121b03950150da045c553", func := "strait/straitlaw35.MatrixWide", spec := "matrixWide", unfollowed := true, recurses := true, apart := false, narrowed := true }
def MatrixWideUptoSaid : Prop := matrixWideUptoRow.holds Try.pinned (OpenSpec.upto matrixWideSpec)

/-- 'straitlaw36.KlassLeast', WHERE WHAT IT READS IS OF BULK AT MOST 1048576: true; the input reads as it did. -/
def klassLeastUptoRow : OpenClaim := { program := "ytfidcekobjmamaa", sum := "ad9dde173523f2e34f0d26339c9a6529621ca421c0b121b03950150da045c553", func := "strait/straitlaw36.KlassLeast", spec := "klassLeast", unfollowed := true, recurses := true, apart := false, narrowed := true }
def KlassLeastUptoSaid : Prop := klassLeastUptoRow.holds Try.pinned (OpenSpec.upto klassLeastSpec)

end Rows
end Go.Proofs.Ytfidcekobjmamaa
