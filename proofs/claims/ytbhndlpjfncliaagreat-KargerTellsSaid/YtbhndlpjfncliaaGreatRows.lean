/-
  No cell of these rows narrows 'for every input' (looked for: loops, veiled, ifaces, maps, wideKeys, modest, calm, conditions, laid).
  DERIVED. THE GIVEN ROWS OF THIS SEAT. 4 by the template 'for every input the law returns true; each argument reads behind the call as it read before'; 0 by the template 'total and deterministic' (their statements: YtbhndlpjfncliaaGreatTotals.lean).
  GIVEN WITH THE SEED: the statements are not yours to turn. If you find one false, say at which input.
  Laid BY PROGRAM, IN A SANDBOX (cutbox-rows.mjs): the forced cells as the released guide's own fill.sh prints them over the translation 793e8bdc53d67c4f… (all of the seat's roots in one cut). By AI agents, Wed Nov 11 2026. No macro, syntax, notation, axiom, sorry.
-/
import Derived.Test.YtbhndlpjfncliaaGreatChecked
import GoSem.Claim
import GoSem.ClaimJoined
import GoSem.ClaimMapViews
import Derived.JoinedTies
import Derived.KernelRfl
namespace Go.Proofs.YtbhndlpjfncliaaGreat
/- THE CELL 'sum', in the pinned program and in every row, IS THE sha256 OF THE DUMP (.gsa) THAT YtbhndlpjfncliaaGreatProg.lean LOADS. Nothing in Lean hashes anything: it is a label: what it is worth is what the hold of that sum in a sandbox is worth. -/
noncomputable def Tryz.pinned : Pinned := { name := "ytbhndlpjfncliaagreat", sum := "793e8bdc53d67c4f90da761c181c7cafcd690e57145d45391f88a3a7a3f1e229", checked := Tryz.checked }
namespace Rows
def none {H : Type} : Left H := { results := [], args := [] }

/-- 'straitlaw20.CompBridges': WHATEVER THE INPUT: true; the input reads as it did. -/
def compBridgesSpec : ChangeSpec := { name := "compBridges", fn := fun _ => fun
  | [d1, d2] => { results := [.lit (.bool true)], args := [d1, d2] }
  | _ => none }
def compBridgesRow : OpenClaim := { program := "ytbhndlpjfncliaagreat", sum := "793e8bdc53d67c4f90da761c181c7cafcd690e57145d45391f88a3a7a3f1e229", func := "strait/straitlaw20.CompBridges", spec := "compBridges", unfollowed := true, recurses := true, plainKeys := false, apart := false }
def CompBridgesSaid : Prop := compBridgesRow.holds Tryz.pinned (OpenSpec.ofChange compBridgesSpec)

/-- ITS FALSE NEIGHBOUR: 'it returns false'. Refute it at one input. -/
def compBridgesWrong : ChangeSpec := { name := "compBridges", fn := fun _ => fun
  | [d1, d2] => { results := [.lit (.bool false)], args := [d1, d2] }
  | _ => none }
def CompBridgesWrongFalsely : Prop := compBridgesRow.holds Tryz.pinned (OpenSpec.ofChange compBridgesWrong)

/-- 'straitlaw20.CompTells': WHATEVER THE INPUT: true; the input reads as it did. -/
def compTellsSpec : ChangeSpec := { name := "compTells", fn := fun _ => fun
  | [d1, d2, d3] => { results := [.lit (.bool true)], args := [d1, d2, d3] }
  | _ => none }
def compTellsRow : OpenClaim := { program := "ytbhndlpjfncliaagreat", sum := "793e8bdc53d67c4f90da761c181c7cafcd690e57145d45391f88a3a7a3f1e229", func := "strait/straitlaw20.CompTells", spec := "compTells", unfollowed := true, recurses := true, plainKeys := false, apart := false }
def CompTellsSaid : Prop := compTellsRow.holds Tryz.pinned (OpenSpec.ofChange compTellsSpec)

/-- ITS FALSE NEIGHBOUR: 'it returns false'. Refute it at one input. -/
def compTellsWrong : ChangeSpec := { name := "compTells", fn := fun _ => fun
  | [d1, d2, d3] => { results := [.lit (.bool false)], args := [d1, d2, d3] }
  | _ => none }
def CompTellsWrongFalsely : Prop := compTellsRow.holds Tryz.pinned (OpenSpec.ofChange compTellsWrong)

/-- 'straitlaw41.KargerLeast': WHATEVER THE INPUT: true; the input reads as it did. -/
def kargerLeastSpec : ChangeSpec := { name := "kargerLeast", fn := fun _ => fun
  | [d1, d2, d3] => { results := [.lit (.bool true)], args := [d1, d2, d3] }
  | _ => none }
def kargerLeastRow : OpenClaim := { program := "ytbhndlpjfncliaagreat", sum := "793e8bdc53d67c4f90da761c181c7cafcd690e57145d45391f88a3a7a3f1e229", func := "strait/straitlaw41.KargerLeast", spec := "kargerLeast", unfollowed := true, recurses := true, plainKeys := false, apart := false }
def KargerLeastSaid : Prop := kargerLeastRow.holds Tryz.pinned (OpenSpec.ofChange kargerLeastSpec)

/-- ITS FALSE NEIGHBOUR: 'it returns false'. Refute it at one input. -/
def kargerLeastWrong : ChangeSpec := { name := "kargerLeast", fn := fun _ => fun
  | [d1, d2, d3] => { results := [.lit (.bool false)], args := [d1, d2, d3] }
  | _ => none }
def KargerLeastWrongFalsely : Prop := kargerLeastRow.holds Tryz.pinned (OpenSpec.ofChange kargerLeastWrong)

/-- 'straitlaw41.KargerTells': WHATEVER THE INPUT: true; the input reads as it did. -/
def kargerTellsSpec : ChangeSpec := { name := "kargerTells", fn := fun _ => fun
  | [d1, d2, d3] => { results := [.lit (.bool true)], args := [d1, d2, d3] }
  | _ => none }
def kargerTellsRow : OpenClaim := { program := "ytbhndlpjfncliaagreat", sum := "793e8bdc53d67c4f90da761c181c7cafcd690e57145d45391f88a3a7a3f1e229", func := "strait/straitlaw41.KargerTells", spec := "kargerTells", unfollowed := true, recurses := true, plainKeys := false, apart := false }
def KargerTellsSaid : Prop := kargerTellsRow.holds Tryz.pinned (OpenSpec.ofChange kargerTellsSpec)

/-- ITS FALSE NEIGHBOUR: 'it returns false'. Refute it at one input. -/
def kargerTellsWrong : ChangeSpec := { name := "kargerTells", fn := fun _ => fun
  | [d1, d2, d3] => { results := [.lit (.bool false)], args := [d1, d2, d3] }
  | _ => none }
def KargerTellsWrongFalsely : Prop := kargerTellsRow.holds Tryz.pinned (OpenSpec.ofChange kargerTellsWrong)

/- THE SECOND FORM. 'bulk': how many values and letters a reading holds, each counted each time it is reached (what is shared counts as often as it is met; a slice's spare places count too). A statement '..UptoSaid' is the law's where the arguments, and the package variables that the reading takes, are together of bulk at most 1048576: NARROWER than '..Said'. Prove '..Said' where nothing that the law and all that it calls make is longer than what came in: it says more and counts as full. Else prove '..UptoSaid'. A law counts once. -/
mutual
def uptoBulk {H : Type} : DataW H → Nat
  | .lit (.string bytes) => bytes.length + 1
  | .lit _ => 1
  | .nil => 1
  | .ptr d => uptoBulk d + 1
  | .slice elems spare => uptoBulkAll elems + uptoBulkAll spare + 1
  | .agg parts => uptoBulkAll parts + 1
  | .iface _ d => uptoBulk d + 1
  | .map entries => uptoBulkEntries entries + 1
  | .held _ => 1
def uptoBulkAll {H : Type} : List (DataW H) → Nat
  | [] => 0
  | d :: r => uptoBulk d + uptoBulkAll r
def uptoBulkEntries {H : Type} : List (Lit × DataW H) → Nat
  | [] => 0
  | x :: r => uptoBulkEntry x + uptoBulkEntries r
def uptoBulkEntry {H : Type} : Lit × DataW H → Nat
  | (.string bytes, d) => bytes.length + uptoBulk d + 1
  | (_, d) => uptoBulk d + 1
 end
def uptoSmall : (H : Type) → List (DataW H) → Bool := fun _ ds => decide (uptoBulkAll ds ≤ 1048576)
def OpenSpec.upto (s : _root_.Go.ChangeSpec) : _root_.Go.OpenSpec := { _root_.Go.OpenSpec.ofChange s with cond := some uptoSmall }

/-- 'straitlaw20.CompBridges', WHERE WHAT IT READS IS OF BULK AT MOST 1048576: true; the input reads as it did. -/
def compBridgesUptoRow : OpenClaim := { program := "ytbhndlpjfncliaagreat", sum := "793e8bdc53d67c4f90da761c181c7cafcd690e57145d45391f88a3a7a3f1e229", func := "strait/straitlaw20.CompBridges", spec := "compBridges", unfollowed := true, recurses := true, plainKeys := false, apart := false, narrowed := true }
def CompBridgesUptoSaid : Prop := compBridgesUptoRow.holds Tryz.pinned (OpenSpec.upto compBridgesSpec)

/-- 'straitlaw20.CompTells', WHERE WHAT IT READS IS OF BULK AT MOST 1048576: true; the input reads as it did. -/
def compTellsUptoRow : OpenClaim := { program := "ytbhndlpjfncliaagreat", sum := "793e8bdc53d67c4f90da761c181c7cafcd690e57145d45391f88a3a7a3f1e229", func := "strait/straitlaw20.CompTells", spec := "compTells", unfollowed := true, recurses := true, plainKeys := false, apart := false, narrowed := true }
def CompTellsUptoSaid : Prop := compTellsUptoRow.holds Tryz.pinned (OpenSpec.upto compTellsSpec)

/-- 'straitlaw41.KargerLeast', WHERE WHAT IT READS IS OF BULK AT MOST 1048576: true; the input reads as it did. -/
def kargerLeastUptoRow : OpenClaim := { program := "ytbhndlpjfncliaagreat", sum := "793e8bdc53d67c4f90da761c181c7cafcd690e57145d45391f88a3a7a3f1e229", func := "strait/straitlaw41.KargerLeast", spec := "kargerLeast", unfollowed := true, recurses := true, plainKeys := false, apart := false, narrowed := true }
def KargerLeastUptoSaid : Prop := kargerLeastUptoRow.holds Tryz.pinned (OpenSpec.upto kargerLeastSpec)

/-- 'straitlaw41.KargerTells', WHERE WHAT IT READS IS OF BULK AT MOST 1048576: true; the input reads as it did. -/
def kargerTellsUptoRow : OpenClaim := { program := "ytbhndlpjfncliaagreat", sum := "793e8bdc53d67c4f90da761c181c7cafcd690e57145d45391f88a3a7a3f1e229", func := "strait/straitlaw41.KargerTells", spec := "kargerTells", unfollowed := true, recurses := true, plainKeys := false, apart := false, narrowed := true }
def KargerTellsUptoSaid : Prop := kargerTellsUptoRow.holds Tryz.pinned (OpenSpec.upto kargerTellsSpec)

end Rows
end Go.Proofs.YtbhndlpjfncliaaGreat
