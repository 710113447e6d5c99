/-
  No cell of these rows narrows 'for every input' (looked for: loops, veiled, ifaces, maps, wideKeys, modest, calm, conditions, laid).
  DERIVED. THE GIVEN ROWS OF THIS SEAT. 3 by the template 'for every input the law returns true; each argument reads behind the call as it read before'; 0 by the template 'total and deterministic' (their statements: YtbhndlpjfncliaaTotals.lean).
  GIVEN WITH THE SEED: the statements are not yours to turn. If you find one false, say at which input.
  Laid BY PROGRAM, IN A SANDBOX (cutbox-rows.mjs): the forced cells as the released guide's own fill.sh prints them over the translation 96fdc812d4bdb54b… (all of the seat's roots in one cut). By AI agents, Wed Nov 11 2026. No macro, syntax, notation, axiom, sorry.
-/
import Derived.Test.YtbhndlpjfncliaaChecked
import GoSem.Claim
import GoSem.ClaimJoined
import GoSem.ClaimMapViews
import Derived.JoinedTies
import Derived.KernelRfl
namespace Go.Proofs.Ytbhndlpjfncliaa
/- THE CELL 'sum', in the pinned program and in every row, IS THE sha256 OF THE DUMP (.gsa) THAT YtbhndlpjfncliaaProg.lean LOADS. Nothing in Lean hashes anything: it is a label: what it is worth is what the hold of that sum in a sandbox is worth. -/
noncomputable def Try.pinned : Pinned := { name := "ytbhndlpjfncliaa", sum := "96fdc812d4bdb54bd4b76b8e5396edcbe1cfb3ee9db8f88e98913e968623a406", checked := Try.checked }
namespace Rows
def none {H : Type} : Left H := { results := [], args := [] }

/-- 'straitlaw21.SideParts': WHATEVER THE INPUT: true; the input reads as it did. -/
def sidePartsSpec : ChangeSpec := { name := "sideParts", fn := fun _ => fun
  | [d1, d2, d3] => { results := [.lit (.bool true)], args := [d1, d2, d3] }
  | _ => none }
def sidePartsRow : OpenClaim := { program := "ytbhndlpjfncliaa", sum := "96fdc812d4bdb54bd4b76b8e5396edcbe1cfb3ee9db8f88e98913e968623a406", func := "strait/straitlaw21.SideParts", spec := "sideParts", unfollowed := true, recurses := true, plainKeys := false, apart := false }
def SidePartsSaid : Prop := sidePartsRow.holds Try.pinned (OpenSpec.ofChange sidePartsSpec)

/-- ITS FALSE NEIGHBOUR: 'it returns false'. Refute it at one input. -/
def sidePartsWrong : ChangeSpec := { name := "sideParts", fn := fun _ => fun
  | [d1, d2, d3] => { results := [.lit (.bool false)], args := [d1, d2, d3] }
  | _ => none }
def SidePartsWrongFalsely : Prop := sidePartsRow.holds Try.pinned (OpenSpec.ofChange sidePartsWrong)

/-- 'straitlaw21.SideTwo': WHATEVER THE INPUT: true; the input reads as it did. -/
def sideTwoSpec : ChangeSpec := { name := "sideTwo", fn := fun _ => fun
  | [d1, d2, d3] => { results := [.lit (.bool true)], args := [d1, d2, d3] }
  | _ => none }
def sideTwoRow : OpenClaim := { program := "ytbhndlpjfncliaa", sum := "96fdc812d4bdb54bd4b76b8e5396edcbe1cfb3ee9db8f88e98913e968623a406", func := "strait/straitlaw21.SideTwo", spec := "sideTwo", unfollowed := true, recurses := true, plainKeys := false, apart := false }
def SideTwoSaid : Prop := sideTwoRow.holds Try.pinned (OpenSpec.ofChange sideTwoSpec)

/-- ITS FALSE NEIGHBOUR: 'it returns false'. Refute it at one input. -/
def sideTwoWrong : ChangeSpec := { name := "sideTwo", fn := fun _ => fun
  | [d1, d2, d3] => { results := [.lit (.bool false)], args := [d1, d2, d3] }
  | _ => none }
def SideTwoWrongFalsely : Prop := sideTwoRow.holds Try.pinned (OpenSpec.ofChange sideTwoWrong)

/-- 'straitlaw21.SideTells': WHATEVER THE INPUT: true; the input reads as it did. -/
def sideTellsSpec : ChangeSpec := { name := "sideTells", fn := fun _ => fun
  | [d1, d2, d3] => { results := [.lit (.bool true)], args := [d1, d2, d3] }
  | _ => none }
def sideTellsRow : OpenClaim := { program := "ytbhndlpjfncliaa", sum := "96fdc812d4bdb54bd4b76b8e5396edcbe1cfb3ee9db8f88e98913e968623a406", func := "strait/straitlaw21.SideTells", spec := "sideTells", unfollowed := true, recurses := true, plainKeys := false, apart := false }
def SideTellsSaid : Prop := sideTellsRow.holds Try.pinned (OpenSpec.ofChange sideTellsSpec)

/-- ITS FALSE NEIGHBOUR: 'it returns false'. Refute it at one input. -/
def sideTellsWrong : ChangeSpec := { name := "sideTells", fn := fun _ => fun
  | [d1, d2, d3] => { results := [.lit (.bool false)], args := [d1, d2, d3] }
  | _ => none }
def SideTellsWrongFalsely : Prop := sideTellsRow.holds Try.pinned (OpenSpec.ofChange sideTellsWrong)

/- THE SECOND FORM. 'bulk': how many values and letters a reading holds, each counted each time it is reached (what is shared counts as often as it is met; a slice's spare places count too). A statement '..UptoSaid' is the law's where the arguments, and the package variables that the reading takes, are together of bulk at most 1048576: NARROWER than '..Said'. Prove '..Said' where nothing that the law and all that it calls make is longer than what came in: it says more and counts as full. Else prove '..UptoSaid'. A law counts once. -/
mutual
def uptoBulk {H : Type} : DataW H → Nat
  | .lit (.string bytes) => bytes.length + 1
  | .lit _ => 1
  | .nil => 1
  | .ptr d => uptoBulk d + 1
  | .slice elems spare => uptoBulkAll elems + uptoBulkAll spare + 1
  | .agg parts => uptoBulkAll parts + 1
  | .iface _ d => uptoBulk d + 1
  | .map entries => uptoBulkEntries entries + 1
  | .held _ => 1
def uptoBulkAll {H : Type} : List (DataW H) → Nat
  | [] => 0
  | d :: r => uptoBulk d + uptoBulkAll r
def uptoBulkEntries {H : Type} : List (Lit × DataW H) → Nat
  | [] => 0
  | x :: r => uptoBulkEntry x + uptoBulkEntries r
def uptoBulkEntry {H : Type} : Lit × DataW H → Nat
  | (.string bytes, d) => bytes.length + uptoBulk d + 1
  | (_, d) => uptoBulk d + 1
 end
def uptoSmall : (H : Type) → List (DataW H) → Bool := fun _ ds => decide (uptoBulkAll ds ≤ 1048576)
def OpenSpec.upto (s : _root_.Go.ChangeSpec) : _root_.Go.OpenSpec := { _root_.Go.OpenSpec.ofChange s with cond := some uptoSmall }

/-- 'straitlaw21.SideParts', WHERE WHAT IT READS IS OF BULK AT MOST 1048576: true; the input reads as it did. -/
def sidePartsUptoRow : OpenClaim := { program := "ytbhndlpjfncliaa", sum := "96fdc812d4bdb54bd4b76b8e5396edcbe1cfb3ee9db8f88e98913e968623a406", func := "strait/straitlaw21.SideParts", spec := "sideParts", unfollowed := true, recurses := true, plainKeys := false, apart := false, narrowed := true }
def SidePartsUptoSaid : Prop := sidePartsUptoRow.holds Try.pinned (OpenSpec.upto sidePartsSpec)

/-- 'straitlaw21.SideTwo', WHERE WHAT IT READS IS OF BULK AT MOST 1048576: true; the input reads as it did. -/
def sideTwoUptoRow : OpenClaim := { program := "ytbhndlpjfncliaa", sum := "96fdc812d4bdb54bd4b76b8e5396edcbe1cfb3ee9db8f88e98913e968623a406", func := "strait/straitlaw21.SideTwo", spec := "sideTwo", unfollowed := true, recurses := true, plainKeys := false, apart := false, narrowed := true }
def SideTwoUptoSaid : Prop := sideTwoUptoRow.holds Try.pinned (OpenSpec.upto sideTwoSpec)

/-- 'straitlaw21.SideTells', WHERE WHAT IT READS IS OF BULK AT MOST 1048576: true; the input reads as it did. -/
def sideTellsUptoRow : OpenClaim := { program := "ytbhndlpjfncliaa", sum := "96fdc812d4bdb54bd4b76b8e5396edcbe1cfb3ee9db8f88e98913e968623a406", func := "strait/straitlaw21.SideTells", spec := "sideTells", unfollowed := true, recurses := true, plainKeys := false, apart := false, narrowed := true }
def SideTellsUptoSaid : Prop := sideTellsUptoRow.holds Try.pinned (OpenSpec.upto sideTellsSpec)

end Rows
end Go.Proofs.Ytbhndlpjfncliaa
