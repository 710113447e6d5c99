/-
  No cell of these rows narrows 'for every input' (looked for: loops, veiled, ifaces, maps, wideKeys, modest, calm, conditions, laid).
  DERIVED. THE GIVEN ROWS OF THIS SEAT. 3 by the template 'for every input the law returns true; each argument reads behind the call as it read before'; 0 by the template 'total and deterministic' (their statements: YtcmbgiekffgcoaaTotals.lean).
  GIVEN WITH THE SEED: the statements are not yours to turn. If you find one false, say at which input.
  Laid BY PROGRAM, IN A SANDBOX (cutbox-rows.mjs): the forced cells as the released guide's own fill.sh prints them over the translation 8b97b5d83e90ed10… (all of the seat's roots in one cut). By AI agents, Wed Nov 11 2026. No macro, syntax, notation, axiom, sorry.
-/
import Derived.Test.YtcmbgiekffgcoaaChecked
import GoSem.Claim
import GoSem.ClaimJoined
import GoSem.ClaimMapViews
import Derived.JoinedTies
import Derived.KernelRfl
namespace Go.Proofs.Ytcmbgiekffgcoaa
/- THE CELL 'sum', in the pinned program and in every row, IS THE sha256 OF THE DUMP (.gsa) THAT YtcmbgiekffgcoaaProg.lean LOADS. Nothing in Lean hashes anything: it is a label: what it is worth is what the hold of that sum in a sandbox is worth. -/
noncomputable def Try.pinned : Pinned := { name := "ytcmbgiekffgcoaa", sum := "8b97b5d83e90ed10d75919af5035e6427cdd2062b1f4a13bcdd849465df44764", checked := Try.checked }
namespace Rows
def none {H : Type} : Left H := { results := [], args := [] }

/-- 'straitlaw03.ForderTells': WHATEVER THE INPUT: true; the input reads as it did. -/
def forderTellsSpec : ChangeSpec := { name := "forderTells", fn := fun _ => fun
  | [d1, d2] => { results := [.lit (.bool true)], args := [d1, d2] }
  | _ => none }
def forderTellsRow : OpenClaim := { program := "ytcmbgiekffgcoaa", sum := "8b97b5d83e90ed10d75919af5035e6427cdd2062b1f4a13bcdd849465df44764", func := "strait/straitlaw03.ForderTells", spec := "forderTells", inPlace := ["math.Float64frombits", "math.Float64bits"], unfollowed := true, recurses := true, apart := false }
def ForderTellsSaid : Prop := forderTellsRow.holds Try.pinned (OpenSpec.ofChange forderTellsSpec)

/-- ITS FALSE NEIGHBOUR: 'it returns false'. Refute it at one input. -/
def forderTellsWrong : ChangeSpec := { name := "forderTells", fn := fun _ => fun
  | [d1, d2] => { results := [.lit (.bool false)], args := [d1, d2] }
  | _ => none }
def ForderTellsWrongFalsely : Prop := forderTellsRow.holds Try.pinned (OpenSpec.ofChange forderTellsWrong)

/-- 'straitlaw03.ForderLists': WHATEVER THE INPUT: true; the input reads as it did. -/
def forderListsSpec : ChangeSpec := { name := "forderLists", fn := fun _ => fun
  | [d] => { results := [.lit (.bool true)], args := [d] }
  | _ => none }
def forderListsRow : OpenClaim := { program := "ytcmbgiekffgcoaa", sum := "8b97b5d83e90ed10d75919af5035e6427cdd2062b1f4a13bcdd849465df44764", func := "strait/straitlaw03.ForderLists", spec := "forderLists", inPlace := ["math.Float64frombits", "math.Float64bits"], unfollowed := true, recurses := true, apart := false }
def ForderListsSaid : Prop := forderListsRow.holds Try.pinned (OpenSpec.ofChange forderListsSpec)

/-- ITS FALSE NEIGHBOUR: 'it returns false'. Refute it at one input. -/
def forderListsWrong : ChangeSpec := { name := "forderLists", fn := fun _ => fun
  | [d] => { results := [.lit (.bool false)], args := [d] }
  | _ => none }
def ForderListsWrongFalsely : Prop := forderListsRow.holds Try.pinned (OpenSpec.ofChange forderListsWrong)

/-- 'straitlaw03.ForderGoes': WHATEVER THE INPUT: true; the input reads as it did. -/
def forderGoesSpec : ChangeSpec := { name := "forderGoes", fn := fun _ => fun
  | [d1, d2, d3] => { results := [.lit (.bool true)], args := [d1, d2, d3] }
  | _ => none }
def forderGoesRow : OpenClaim := { program := "ytcmbgiekffgcoaa", sum := "8b97b5d83e90ed10d75919af5035e6427cdd2062b1f4a13bcdd849465df44764", func := "strait/straitlaw03.ForderGoes", spec := "forderGoes", inPlace := ["math.Float64frombits", "math.Float64bits"], unfollowed := true, recurses := true, apart := false }
def ForderGoesSaid : Prop := forderGoesRow.holds Try.pinned (OpenSpec.ofChange forderGoesSpec)

/-- ITS FALSE NEIGHBOUR: 'it returns false'. Refute it at one input. -/
def forderGoesWrong : ChangeSpec := { name := "forderGoes", fn := fun _ => fun
  | [d1, d2, d3] => { results := [.lit (.bool false)], args := [d1, d2, d3] }
  | _ => none }
def ForderGoesWrongFalsely : Prop := forderGoesRow.holds Try.pinned (OpenSpec.ofChange forderGoesWrong)

/- THE SECOND FORM. 'bulk': how many values and letters a reading holds, each counted each time it is reached (what is shared counts as often as it is met; a slice's spare places count too). A statement '..UptoSaid' is the law's where the arguments, and the package variables that the reading takes, are together of bulk at most 1048576: NARROWER than '..Said'. Prove '..Said' where nothing that the law and all that it calls make is longer than what came in: it says more and counts as full. Else prove '..UptoSaid'. A law counts once. -/
mutual
def uptoBulk {H : Type} : DataW H → Nat
  | .lit (.string bytes) => bytes.length + 1
  | .lit _ => 1
  | .nil => 1
  | .ptr d => uptoBulk d + 1
  | .slice elems spare => uptoBulkAll elems + uptoBulkAll spare + 1
  | .agg parts => uptoBulkAll parts + 1
  | .iface _ d => uptoBulk d + 1
  | .map entries => uptoBulkEntries entries + 1
  | .held _ => 1
def uptoBulkAll {H : Type} : List (DataW H) → Nat
  | [] => 0
  | d :: r => uptoBulk d + uptoBulkAll r
def uptoBulkEntries {H : Type} : List (Lit × DataW H) → Nat
  | [] => 0
  | x :: r => uptoBulkEntry x + uptoBulkEntries r
def uptoBulkEntry {H : Type} : Lit × DataW H → Nat
  | (.string bytes, d) => bytes.length + uptoBulk d + 1
  | (_, d) => uptoBulk d + 1
 end
def uptoSmall : (H : Type) → List (DataW H) → Bool := fun _ ds => decide (uptoBulkAll ds ≤ 1048576)
def OpenSpec.upto (s : _root_.Go.ChangeSpec) : _root_.Go.OpenSpec := { _root_.Go.OpenSpec.ofChange s with cond := some uptoSmall }

/-- 'straitlaw03.ForderTells', WHERE WHAT IT READS IS OF BULK AT MOST 1048576: true; the input reads as it did. -/
def forderTellsUptoRow : OpenClaim := { program := "ytcmbgiekffgcoaa", sum := "8b97b5d83e90ed10d75919af5035e6427cdd2062b1f4a13bcdd849465df44764", func := "strait/straitlaw03.ForderTells", spec := "forderTells", inPlace := ["math.Float64frombits", "math.Float64bits"], unfollowed := true, recurses := true, apart := false, narrowed := true }
def ForderTellsUptoSaid : Prop := forderTellsUptoRow.holds Try.pinned (OpenSpec.upto forderTellsSpec)

/-- 'straitlaw03.ForderLists', WHERE WHAT IT READS IS OF BULK AT MOST 1048576: true; the input reads as it did. -/
def forderListsUptoRow : OpenClaim := { program := "ytcmbgiekffgcoaa", sum := "8b97b5d83e90ed10d75919af5035e6427cdd2062b1f4a13bcdd849465df44764", func := "strait/straitlaw03.ForderLists", spec := "forderLists", inPlace := ["math.Float64frombits", "math.Float64bits"], unfollowed := true, recurses := true, apart := false, narrowed := true }
def ForderListsUptoSaid : Prop := forderListsUptoRow.holds Try.pinned (OpenSpec.upto forderListsSpec)

/-- 'straitlaw03.ForderGoes', WHERE WHAT IT READS IS OF BULK AT MOST 1048576: true; the input reads as it did. -/
def forderGoesUptoRow : OpenClaim := { program := "ytcmbgiekffgcoaa", sum := "8b97b5d83e90ed10d75919af5035e6427cdd2062b1f4a13bcdd849465df44764", func := "strait/straitlaw03.ForderGoes", spec := "forderGoes", inPlace := ["math.Float64frombits", "math.Float64bits"], unfollowed := true, recurses := true, apart := false, narrowed := true }
def ForderGoesUptoSaid : Prop := forderGoesUptoRow.holds Try.pinned (OpenSpec.upto forderGoesSpec)

end Rows
end Go.Proofs.Ytcmbgiekffgcoaa
