/-
  No cell of these rows narrows 'for every input' (looked for: loops, veiled, ifaces, maps, wideKeys, modest, calm, conditions, laid).
  DERIVED. THE GIVEN ROWS OF THIS SEAT. 3 by the template 'for every input the law returns true; each argument reads behind the call as it read before'; 0 by the template 'total and deterministic' (their statements: YtapjbmfgmnhpdaaTotals.lean).
  GIVEN WITH THE SEED: the statements are not yours to turn. If you find one false, say at which input.
  Laid BY PROGRAM, IN A SANDBOX (cutbox-rows.mjs): the forced cells as the released guide's own fill.sh prints them over the translation 51cd061d77976cc0… (all of the seat's roots in one cut). By AI agents, Wed Nov 11 2026. No macro, syntax, notation, axiom, sorry.
-/
import Derived.Test.YtapjbmfgmnhpdaaChecked
import GoSem.Claim
import GoSem.ClaimJoined
import GoSem.ClaimMapViews
import Derived.JoinedTies
import Derived.KernelRfl
namespace Go.Proofs.Ytapjbmfgmnhpdaa
/- THE CELL 'sum', in the pinned program and in every row, IS THE sha256 OF THE DUMP (.gsa) THAT YtapjbmfgmnhpdaaProg.lean LOADS. Nothing in Lean hashes anything: it is a label: what it is worth is what the hold of that sum in a sandbox is worth. -/
noncomputable def Try.pinned : Pinned := { name := "ytapjbmfgmnhpdaa", sum := "51cd061d77976cc0c0d68cabe2a6d9050aaf7ee6bd726749f5fed1f1bd6b0e80", checked := Try.checked }
namespace Rows
def none {H : Type} : Left H := { results := [], args := [] }

/-- 'straitlaw15.EdgeTells': WHATEVER THE INPUT: true; the input reads as it did. -/
def edgeTellsSpec : ChangeSpec := { name := "edgeTells", fn := fun _ => fun
  | [d1, d2, d3] => { results := [.lit (.bool true)], args := [d1, d2, d3] }
  | _ => none }
def edgeTellsRow : OpenClaim := { program := "ytapjbmfgmnhpdaa", sum := "51cd061d77976cc0c0d68cabe2a6d9050aaf7ee6bd726749f5fed1f1bd6b0e80", func := "strait/straitlaw15.EdgeTells", spec := "edgeTells", unfollowed := true, recurses := true, plainKeys := false, apart := false }
def EdgeTellsSaid : Prop := edgeTellsRow.holds Try.pinned (OpenSpec.ofChange edgeTellsSpec)

/-- ITS FALSE NEIGHBOUR: 'it returns false'. Refute it at one input. -/
def edgeTellsWrong : ChangeSpec := { name := "edgeTells", fn := fun _ => fun
  | [d1, d2, d3] => { results := [.lit (.bool false)], args := [d1, d2, d3] }
  | _ => none }
def EdgeTellsWrongFalsely : Prop := edgeTellsRow.holds Try.pinned (OpenSpec.ofChange edgeTellsWrong)

/-- 'straitlaw15.EdgeMerges': WHATEVER THE INPUT: true; the input reads as it did. -/
def edgeMergesSpec : ChangeSpec := { name := "edgeMerges", fn := fun _ => fun
  | [d] => { results := [.lit (.bool true)], args := [d] }
  | _ => none }
def edgeMergesRow : OpenClaim := { program := "ytapjbmfgmnhpdaa", sum := "51cd061d77976cc0c0d68cabe2a6d9050aaf7ee6bd726749f5fed1f1bd6b0e80", func := "strait/straitlaw15.EdgeMerges", spec := "edgeMerges", unfollowed := true, recurses := true, plainKeys := false, apart := false }
def EdgeMergesSaid : Prop := edgeMergesRow.holds Try.pinned (OpenSpec.ofChange edgeMergesSpec)

/-- ITS FALSE NEIGHBOUR: 'it returns false'. Refute it at one input. -/
def edgeMergesWrong : ChangeSpec := { name := "edgeMerges", fn := fun _ => fun
  | [d] => { results := [.lit (.bool false)], args := [d] }
  | _ => none }
def EdgeMergesWrongFalsely : Prop := edgeMergesRow.holds Try.pinned (OpenSpec.ofChange edgeMergesWrong)

/-- 'straitlaw15.EdgeOrder': WHATEVER THE INPUT: true; the input reads as it did. -/
def edgeOrderSpec : ChangeSpec := { name := "edgeOrder", fn := fun _ => fun
  | [d] => { results := [.lit (.bool true)], args := [d] }
  | _ => none }
def edgeOrderRow : OpenClaim := { program := "ytapjbmfgmnhpdaa", sum := "51cd061d77976cc0c0d68cabe2a6d9050aaf7ee6bd726749f5fed1f1bd6b0e80", func := "strait/straitlaw15.EdgeOrder", spec := "edgeOrder", unfollowed := true, recurses := true, plainKeys := false, apart := false }
def EdgeOrderSaid : Prop := edgeOrderRow.holds Try.pinned (OpenSpec.ofChange edgeOrderSpec)

/-- ITS FALSE NEIGHBOUR: 'it returns false'. Refute it at one input. -/
def edgeOrderWrong : ChangeSpec := { name := "edgeOrder", fn := fun _ => fun
  | [d] => { results := [.lit (.bool false)], args := [d] }
  | _ => none }
def EdgeOrderWrongFalsely : Prop := edgeOrderRow.holds Try.pinned (OpenSpec.ofChange edgeOrderWrong)

/- THE SECOND FORM. 'bulk': how many values and letters a reading holds, each counted each time it is reached (what is shared counts as often as it is met; a slice's spare places count too). A statement '..UptoSaid' is the law's where the arguments, and the package variables that the reading takes, are together of bulk at most 1048576: NARROWER than '..Said'. Prove '..Said' where nothing that the law and all that it calls make is longer than what came in: it says more and counts as full. Else prove '..UptoSaid'. A law counts once. -/
mutual
def uptoBulk {H : Type} : DataW H → Nat
  | .lit (.string bytes) => bytes.length + 1
  | .lit _ => 1
  | .nil => 1
  | .ptr d => uptoBulk d + 1
  | .slice elems spare => uptoBulkAll elems + uptoBulkAll spare + 1
  | .agg parts => uptoBulkAll parts + 1
  | .iface _ d => uptoBulk d + 1
  | .map entries => uptoBulkEntries entries + 1
  | .held _ => 1
def uptoBulkAll {H : Type} : List (DataW H) → Nat
  | [] => 0
  | d :: r => uptoBulk d + uptoBulkAll r
def uptoBulkEntries {H : Type} : List (Lit × DataW H) → Nat
  | [] => 0
  | x :: r => uptoBulkEntry x + uptoBulkEntries r
def uptoBulkEntry {H : Type} : Lit × DataW H → Nat
  | (.string bytes, d) => bytes.length + uptoBulk d + 1
  | (_, d) => uptoBulk d + 1
 end
def uptoSmall : (H : Type) → List (DataW H) → Bool := fun _ ds => decide (uptoBulkAll ds ≤ 1048576)
def OpenSpec.upto (s : _root_.Go.ChangeSpec) : _root_.Go.OpenSpec := { _root_.Go.OpenSpec.ofChange s with cond := some uptoSmall }

/-- 'straitlaw15.EdgeTells', WHERE WHAT IT READS IS OF BULK AT MOST 1048576: true; the input reads as it did. -/
def edgeTellsUptoRow : OpenClaim := { program := "ytapjbmfgmnhpdaa", sum := "51cd061d77976cc0c0d68cabe2a6d9050aaf7ee6bd726749f5fed1f1bd6b0e80", func := "strait/straitlaw15.EdgeTells", spec := "edgeTells", unfollowed := true, recurses := true, plainKeys := false, apart := false, narrowed := true }
def EdgeTellsUptoSaid : Prop := edgeTellsUptoRow.holds Try.pinned (OpenSpec.upto edgeTellsSpec)

/-- 'straitlaw15.EdgeMerges', WHERE WHAT IT READS IS OF BULK AT MOST 1048576: true; the input reads as it did. -/
def edgeMergesUptoRow : OpenClaim := { program := "ytapjbmfgmnhpdaa", sum := "51cd061d77976cc0c0d68cabe2a6d9050aaf7ee6bd726749f5fed1f1bd6b0e80", func := "strait/straitlaw15.EdgeMerges", spec := "edgeMerges", unfollowed := true, recurses := true, plainKeys := false, apart := false, narrowed := true }
def EdgeMergesUptoSaid : Prop := edgeMergesUptoRow.holds Try.pinned (OpenSpec.upto edgeMergesSpec)

/-- 'straitlaw15.EdgeOrder', WHERE WHAT IT READS IS OF BULK AT MOST 1048576: true; the input reads as it did. -/
def edgeOrderUptoRow : OpenClaim := { program := "ytapjbmfgmnhpdaa", sum := "51cd061d77976cc0c0d68cabe2a6d9050aaf7ee6bd726749f5fed1f1bd6b0e80", func := "strait/straitlaw15.EdgeOrder", spec := "edgeOrder", unfollowed := true, recurses := true, plainKeys := false, apart := false, narrowed := true }
def EdgeOrderUptoSaid : Prop := edgeOrderUptoRow.holds Try.pinned (OpenSpec.upto edgeOrderSpec)

end Rows
end Go.Proofs.Ytapjbmfgmnhpdaa
