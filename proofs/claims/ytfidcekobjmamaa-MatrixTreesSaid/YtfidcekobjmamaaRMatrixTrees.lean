/- PROVED HERE: the statement 'MatrixTreesSaid' of the seat: the Go function strait/straitlaw35.MatrixTrees returns true, whatever the input, and leaves memory that was there as it was. No condition. -/
import Derived.Test.YtfidcekobjmamaaRows
import Derived.Test.YtfidcekobjmamaaJJ
import Derived.Test.YtfidcekobjmamaaRd
import Derived.WalkKit
import Derived.ProofKit
import Derived.OpenShut
import Derived.ShutString
import Derived.ChangeOld
import Derived.Below
namespace Go.Proofs.Ytfidcekobjmamaa.matrixTrees
open Go.Hp
set_option linter.unusedSimpArgs false
set_option linter.unusedVariables false
open Go.ChangeShapes Go.WideShapes Go.ChangeAt Go.RowKit

theorem own : ownKnob Try.prog.godebug = none := by kernel_rfl
theorem laidOut : laidOutB Try.prog = true := by kernel_rfl

theorem walk (a0 : Option Addr) (a0l a0c : Nat) (a1 : Option Addr) (a1l a1c : Nat) (w : World) (n0 : Nat) (r0 : Rd Try.prog w.heap n0 44 [.slice a0 a0l a0c]) (n1 : Nat) (r1 : Rd Try.prog w.heap n1 44 [.slice a1 a1l a1c]) :
    Calls Try.prog 8 #[.slice a0 a0l a0c, .slice a1 a1l a1c] w fun e w' => e = .returned (.bool true) ∧ Below w.heap.size w w' := by
  obtain ⟨L, hl, j1, hw⟩ := Rd.jag (e := 23) (g := 2) r0 Try.underlying44 (by kernel_rfl) Try.underlying23 (by kernel_rfl) (by kernel_rfl)
  obtain ⟨L2, hl2, j2, _⟩ := Rd.jag (e := 23) (g := 2) r1 Try.underlying44 (by kernel_rfl) Try.underlying23 (by kernel_rfl) (by kernel_rfl)
  subst hl; subst hl2
  exact law_calls straitlaw35_MatrixTrees.ret_elim (straitlaw35_MatrixTrees.calls (MatrixTrees_of j1 j2 hw fun h' e => ⟨rfl, e⟩) w rfl).2

set_option maxRecDepth 100000 in
theorem lifted (os : Os) (started : os.Started) (H : Type) (enc : TypeId × Value → H) :
    ReturnsInHanded {} Try.checked os 8 .any (Rows.matrixTreesSpec.pre6 enc Try.prog Try.f8 Rows.matrixTreesRow.domain false) (Rows.matrixTreesSpec.post enc Try.prog Try.f8 false true false false) := by
  refine returnsInHanded_of_change (C := Try.checked) own started (by kernel_rfl) Try.func8
    (ChangeSpec.witness6 (enc := enc) (C := Try.checked) false ⟨#[], #[.slice none 0 0, .slice none 0 0], []⟩ 8 (by kernel_rfl) (by kernel_rfl) (by kernel_rfl) (by kernel_rfl)) ?_
  intro W base args ds gs before hval0 hW hcnd _
  have hval : ∀ (j : Nat) t v, Try.f8.params[j]? = some t → args[j]? = some v → Value.okWide Try.prog W .any base t v := hval0
  have hW' := hW
  obtain ⟨p, q, hA0, hV, rfl, hfz, hnd⟩ := hW
  have hA : DataW.TrodAll enc Try.prog W 0 (fun _ => true) true Try.f8.params.toList args.toList ds p := hA0
  rw [Try.params8] at hA hval
  obtain ⟨v0, vs0, d0, ds0, p0, q0, hargs0, rfl, rfl, h0, r0_⟩ := trodAll_cons hA
  obtain ⟨v1, vs1, d1, ds1, p1, q1, hargs1, rfl, rfl, h1, r1_⟩ := trodAll_cons r0_
  obtain ⟨he_, rfl, rfl⟩ := trodAll_nil r1_
  obtain rfl : args = #[v0, v1] := by cases args; simp_all
  obtain ⟨rfl, rfl⟩ := trodVars_none hV
  have k0 := h0
  have lt0 : ∀ x ∈ p0, x.block < W.heap.size := by obtain ⟨m, hm⟩ := k0; exact DataW.trod_lt m _ _ _ hm
  have k1 := h1
  have lt1 : ∀ x ∈ p1, x.block < W.heap.size := by obtain ⟨m, hm⟩ := k1; exact DataW.trod_lt m _ _ _ hm
  obtain ⟨a0, a0l, a0c, rfl⟩ := okWide_slice Try.underlying44 (hval 0 44 v0 rfl rfl)
  obtain ⟨n0, r0⟩ : ∃ n, Rd Try.prog W.heap n 44 [.slice a0 a0l a0c] := by obtain ⟨m, hm⟩ := h0; exact ⟨m, rd_of_trod hm⟩
  obtain ⟨a1, a1l, a1c, rfl⟩ := okWide_slice Try.underlying44 (hval 1 44 v1 rfl rfl)
  obtain ⟨n1, r1⟩ : ∃ n, Rd Try.prog W.heap n 44 [.slice a1 a1l a1c] := by obtain ⟨m, hm⟩ := h1; exact ⟨m, rd_of_trod hm⟩
  clear hA0 hval0
  refine (walk a0 a0l a0c a1 a1l a1c W n0 r0 n1 r1).mono fun e W' ⟨he, bel⟩ => ?_
  subst he
  exact ⟨_, rfl, _, _, _, [], _, [], hW', trodAll_mk1 (shut_bool Try.underlying4 _), (trodAll_cons_mk (Below.trod laidOut (by kernel_rfl) (of_decide_eq_true (by kernel_rfl)) k0 bel lt0) (trodAll_cons_mk (Below.trod laidOut (by kernel_rfl) (of_decide_eq_true (by kernel_rfl)) k1 bel lt1) trodAll_mk0)), rfl, bel.frame _, fun h => by cases h⟩

theorem over : Rows.matrixTreesRow.holds Try.pinned (OpenSpec.ofChange Rows.matrixTreesSpec) :=
  OpenClaim.holds_of_wide 8 Try.f8 rfl rfl rfl rfl rfl rfl rfl ⟨rfl, rfl, rfl, rfl, rfl⟩ rfl rfl rfl rfl rfl (by kernel_rfl) Try.func8 (by kernel_rfl)
    (of_decide_eq_true (by kernel_rfl)) (by unfold Func.isWrapper; first | (rw [if_pos (by decide +kernel)]; kernel_rfl) | (rw [if_neg (by decide +kernel)]; exact ⟨rfl, rfl⟩))
    (fun os started H enc _ => lifted os started H enc)

/-- The statement. -/
theorem proved : Rows.MatrixTreesSaid := over
end Go.Proofs.Ytfidcekobjmamaa.matrixTrees
#print axioms Go.Proofs.Ytfidcekobjmamaa.matrixTrees.proved
