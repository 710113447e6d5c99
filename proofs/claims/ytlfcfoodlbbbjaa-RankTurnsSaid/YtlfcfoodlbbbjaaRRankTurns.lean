/- PROVED HERE: the statement 'RankTurnsSaid' of the seat: the Go function strait/straitlaw14.RankTurns returns true, whatever the input, and leaves memory that was there as it was. No condition. -/
import Derived.Test.YtlfcfoodlbbbjaaRows
import Derived.Test.YtlfcfoodlbbbjaaK18
import Derived.Test.YtlfcfoodlbbbjaaRd
import Derived.WalkKit
import Derived.ProofKit
import Derived.OpenShut
import Derived.ShutString
import Derived.ChangeOld
import Derived.Below
namespace Go.Proofs.Ytlfcfoodlbbbjaa.rankTurns
open Go.Hp
set_option linter.unusedSimpArgs false
set_option linter.unusedVariables false
open Go.ChangeShapes Go.WideShapes Go.ChangeAt Go.RowKit

theorem own : ownKnob Try.prog.godebug = none := by kernel_rfl
theorem laidOut : laidOutB Try.prog = true := by kernel_rfl

theorem walk (a0 : Option Addr) (a0l a0c : Nat) (a1 : Option Addr) (a1l a1c : Nat) (w : World) (n0 : Nat) (r0 : Rd Try.prog w.heap n0 26 [.slice a0 a0l a0c]) (n1 : Nat) (r1 : Rd Try.prog w.heap n1 26 [.slice a1 a1l a1c]) :
    Calls Try.prog 4 #[.slice a0 a0l a0c, .slice a1 a1l a1c] w fun e w' => e = .returned (.bool true) ∧ Below w.heap.size w w' := by
  obtain ⟨g1, g2, p, hp, vp, _⟩ := r0.ints (k := .i64) Try.underlying26 (by kernel_rfl) (by kernel_rfl)
  obtain ⟨g3, g4, l, hl, vl, _⟩ := r1.ints (k := .i64) Try.underlying26 (by kernel_rfl) (by kernel_rfl)
  exact law_calls straitlaw14_RankTurns.ret_elim (straitlaw14_RankTurns.calls (Turns_of hp hl vp vl fun h' e => ⟨rfl, e⟩) w rfl).2

set_option maxRecDepth 100000 in
theorem lifted (os : Os) (started : os.Started) (H : Type) (enc : TypeId × Value → H) :
    ReturnsInHanded {} Try.checked os 4 .any (Rows.rankTurnsSpec.pre6 enc Try.prog Try.f4 Rows.rankTurnsRow.domain false) (Rows.rankTurnsSpec.post enc Try.prog Try.f4 false true false false) := by
  refine returnsInHanded_of_change (C := Try.checked) own started (by kernel_rfl) Try.func4
    (ChangeSpec.witness6 (enc := enc) (C := Try.checked) false ⟨#[], #[.slice none 0 0, .slice none 0 0], []⟩ 8 (by kernel_rfl) (by kernel_rfl) (by kernel_rfl) (by kernel_rfl)) ?_
  intro W base args ds gs before hval0 hW hcnd _
  have hval : ∀ (j : Nat) t v, Try.f4.params[j]? = some t → args[j]? = some v → Value.okWide Try.prog W .any base t v := hval0
  have hW' := hW
  obtain ⟨p, q, hA0, hV, rfl, hfz, hnd⟩ := hW
  have hA : DataW.TrodAll enc Try.prog W 0 (fun _ => true) true Try.f4.params.toList args.toList ds p := hA0
  rw [Try.params4] at hA hval
  obtain ⟨v0, vs0, d0, ds0, p0, q0, hargs0, rfl, rfl, h0, r0_⟩ := trodAll_cons hA
  obtain ⟨v1, vs1, d1, ds1, p1, q1, hargs1, rfl, rfl, h1, r1_⟩ := trodAll_cons r0_
  obtain ⟨he_, rfl, rfl⟩ := trodAll_nil r1_
  obtain rfl : args = #[v0, v1] := by cases args; simp_all
  obtain ⟨rfl, rfl⟩ := trodVars_none hV
  have k0 := h0
  have lt0 : ∀ x ∈ p0, x.block < W.heap.size := by obtain ⟨m, hm⟩ := k0; exact DataW.trod_lt m _ _ _ hm
  have k1 := h1
  have lt1 : ∀ x ∈ p1, x.block < W.heap.size := by obtain ⟨m, hm⟩ := k1; exact DataW.trod_lt m _ _ _ hm
  obtain ⟨a0, a0l, a0c, rfl⟩ := okWide_slice Try.underlying26 (hval 0 26 v0 rfl rfl)
  obtain ⟨n0, r0⟩ : ∃ n, Rd Try.prog W.heap n 26 [.slice a0 a0l a0c] := by obtain ⟨m, hm⟩ := h0; exact ⟨m, rd_of_trod hm⟩
  obtain ⟨a1, a1l, a1c, rfl⟩ := okWide_slice Try.underlying26 (hval 1 26 v1 rfl rfl)
  obtain ⟨n1, r1⟩ : ∃ n, Rd Try.prog W.heap n 26 [.slice a1 a1l a1c] := by obtain ⟨m, hm⟩ := h1; exact ⟨m, rd_of_trod hm⟩
  clear hA0 hval0
  refine (walk a0 a0l a0c a1 a1l a1c W n0 r0 n1 r1).mono fun e W' ⟨he, bel⟩ => ?_
  subst he
  exact ⟨_, rfl, _, _, _, [], _, [], hW', trodAll_mk1 (shut_bool Try.underlying4 _), (trodAll_cons_mk (Below.trod laidOut (by kernel_rfl) (of_decide_eq_true (by kernel_rfl)) k0 bel lt0) (trodAll_cons_mk (Below.trod laidOut (by kernel_rfl) (of_decide_eq_true (by kernel_rfl)) k1 bel lt1) trodAll_mk0)), rfl, bel.frame _, fun h => by cases h⟩

theorem over : Rows.rankTurnsRow.holds Try.pinned (OpenSpec.ofChange Rows.rankTurnsSpec) :=
  OpenClaim.holds_of_wide 4 Try.f4 rfl rfl rfl rfl rfl rfl rfl ⟨rfl, rfl, rfl, rfl, rfl⟩ rfl rfl rfl rfl rfl (by kernel_rfl) Try.func4 (by kernel_rfl)
    (of_decide_eq_true (by kernel_rfl)) (by unfold Func.isWrapper; first | (rw [if_pos (by decide +kernel)]; kernel_rfl) | (rw [if_neg (by decide +kernel)]; exact ⟨rfl, rfl⟩))
    (fun os started H enc _ => lifted os started H enc)

/-- The statement. -/
theorem proved : Rows.RankTurnsSaid := over
end Go.Proofs.Ytlfcfoodlbbbjaa.rankTurns
#print axioms Go.Proofs.Ytlfcfoodlbbbjaa.rankTurns.proved
