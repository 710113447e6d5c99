/- PROVED HERE: the statement 'MatrixTellsSaid' of the seat: the Go function strait/straitlaw35.MatrixTells returns true, whatever the input, and leaves memory that was there as it was. No condition. -/
import Derived.Test.YtfidcekobjmamaaRows
import Derived.Test.YtfidcekobjmamaaJ6
import Derived.Test.YtfidcekobjmamaaRd
import Derived.WalkKit
import Derived.ProofKit
import Derived.OpenShut
import Derived.ShutString
import Derived.ChangeOld
import Derived.Below
namespace Go.Proofs.Ytfidcekobjmamaa.matrixTells
open Go.Hp
set_option linter.unusedSimpArgs false
set_option linter.unusedVariables false
open Go.ChangeShapes Go.WideShapes Go.ChangeAt Go.RowKit

theorem own : ownKnob Try.prog.godebug = none := by kernel_rfl
theorem laidOut : laidOutB Try.prog = true := by kernel_rfl

theorem walk (a0_0 : Option Addr) (a0_0l a0_0c : Nat) (a0_1 : Option Addr) (a0_1l a0_1c : Nat) (w : World) (n0_0 : Nat) (r0_0 : Rd Try.prog w.heap n0_0 22 [.slice a0_0 a0_0l a0_0c]) (n0_1 : Nat) (r0_1 : Rd Try.prog w.heap n0_1 23 [.slice a0_1 a0_1l a0_1c]) :
    Calls Try.prog 7 #[.agg #[.slice a0_0 a0_0l a0_0c, .slice a0_1 a0_1l a0_1c]] w fun e w' => e = .returned (.bool true) ∧ Below w.heap.size w w' := by
  obtain ⟨g1, g2, uA, hA, vA, _⟩ := r0_0.ints (k := .i64) Try.underlying22 (by kernel_rfl) (by kernel_rfl)
  obtain ⟨g3, g4, wA, hA', vA', wfA⟩ := r0_1.ints (k := .i64) Try.underlying23 (by kernel_rfl) (by kernel_rfl)
  exact law_calls straitlaw35_MatrixTells.ret_elim (straitlaw35_MatrixTells.calls (MatrixTells_of hA hA' wfA vA vA' fun h' e => ⟨rfl, e⟩) w rfl).2

set_option maxRecDepth 100000 in
theorem lifted (os : Os) (started : os.Started) (H : Type) (enc : TypeId × Value → H) :
    ReturnsInHanded {} Try.checked os 7 .any (Rows.matrixTellsSpec.pre6 enc Try.prog Try.f7 Rows.matrixTellsRow.domain false) (Rows.matrixTellsSpec.post enc Try.prog Try.f7 false true false false) := by
  refine returnsInHanded_of_change (C := Try.checked) own started (by kernel_rfl) Try.func7
    (ChangeSpec.witness6 (enc := enc) (C := Try.checked) false ⟨#[], #[.agg #[.slice none 0 0, .slice none 0 0]], []⟩ 8 (by kernel_rfl) (by kernel_rfl) (by kernel_rfl) (by kernel_rfl)) ?_
  intro W base args ds gs before hval0 hW hcnd _
  have hval : ∀ (j : Nat) t v, Try.f7.params[j]? = some t → args[j]? = some v → Value.okWide Try.prog W .any base t v := hval0
  have hW' := hW
  obtain ⟨p, q, hA0, hV, rfl, hfz, hnd⟩ := hW
  have hA : DataW.TrodAll enc Try.prog W 0 (fun _ => true) true Try.f7.params.toList args.toList ds p := hA0
  rw [Try.params7] at hA hval
  obtain ⟨v0, vs0, d0, ds0, p0, q0, hargs0, rfl, rfl, h0, r0_⟩ := trodAll_cons hA
  obtain ⟨he_, rfl, rfl⟩ := trodAll_nil r0_
  obtain rfl : args = #[v0] := by cases args; simp_all
  obtain ⟨rfl, rfl⟩ := trodVars_none hV
  have k0 := h0
  have lt0 : ∀ x ∈ p0, x.block < W.heap.size := by obtain ⟨m, hm⟩ := k0; exact DataW.trod_lt m _ _ _ hm
  obtain ⟨cs0, rfl, hs0⟩ := okWide_struct Try.underlying25 (hval 0 25 v0 rfl rfl)
  obtain ⟨n0, r0⟩ : ∃ n, Rd Try.prog W.heap n 25 cs0.toList := by obtain ⟨m, hm⟩ := h0; exact ⟨m, rd_of_trod hm⟩
  obtain ⟨c0_0, c0_1, rfl⟩ := arr2 (xs := cs0) (by rw [hs0]; kernel_rfl)
  obtain ⟨_, m0_0, m0_0h⟩ := Rd.struct r0 Try.underlying25
  have q0_1 : Rd Try.prog W.heap m0_0 22 [c0_0] := by
    have hh : Rd Try.prog W.heap m0_0 22 ((([c0_0, c0_1] : List Value).drop 0).take (Try.prog.cellsOf 22)) := m0_0h 0 _ rfl
    rw [show Try.prog.cellsOf 22 = 1 by kernel_rfl] at hh; exact hh
  have q0_2 : Rd Try.prog W.heap m0_0 23 [c0_1] := by
    have hh : Rd Try.prog W.heap m0_0 23 ((([c0_0, c0_1] : List Value).drop 1).take (Try.prog.cellsOf 23)) := m0_0h 1 _ rfl
    rw [show Try.prog.cellsOf 23 = 1 by kernel_rfl] at hh; exact hh
  obtain ⟨a0_0, a0_0l, a0_0c, he, _⟩ := Rd.slice q0_1 Try.underlying22; cases he
  obtain ⟨a0_1, a0_1l, a0_1c, he, _⟩ := Rd.slice q0_2 Try.underlying23; cases he
  clear hA0 hval0
  refine (walk a0_0 a0_0l a0_0c a0_1 a0_1l a0_1c W _ q0_1 _ q0_2).mono fun e W' ⟨he, bel⟩ => ?_
  subst he
  exact ⟨_, rfl, _, _, _, [], _, [], hW', trodAll_mk1 (shut_bool Try.underlying4 _), (trodAll_cons_mk (Below.trod laidOut (by kernel_rfl) (of_decide_eq_true (by kernel_rfl)) k0 bel lt0) trodAll_mk0), rfl, bel.frame _, fun h => by cases h⟩

theorem over : Rows.matrixTellsRow.holds Try.pinned (OpenSpec.ofChange Rows.matrixTellsSpec) :=
  OpenClaim.holds_of_wide 7 Try.f7 rfl rfl rfl rfl rfl rfl rfl ⟨rfl, rfl, rfl, rfl, rfl⟩ rfl rfl rfl rfl rfl (by kernel_rfl) Try.func7 (by kernel_rfl)
    (of_decide_eq_true (by kernel_rfl)) (by unfold Func.isWrapper; first | (rw [if_pos (by decide +kernel)]; kernel_rfl) | (rw [if_neg (by decide +kernel)]; exact ⟨rfl, rfl⟩))
    (fun os started H enc _ => lifted os started H enc)

/-- The statement. -/
theorem proved : Rows.MatrixTellsSaid := over
end Go.Proofs.Ytfidcekobjmamaa.matrixTells
#print axioms Go.Proofs.Ytfidcekobjmamaa.matrixTells.proved
