/- PROVED HERE: the statement 'CompBridgesSaid' of the seat: the Go function strait/straitlaw20.CompBridges returns true, whatever the input, and leaves memory that was there as it was. No condition. -/
import Derived.Test.YtbhndlpjfncliaaGreatRows
import Derived.Test.YtbhndlpjfncliaaGreatMD
import Derived.Test.YtbhndlpjfncliaaGreatRd
import Derived.WalkKit
import Derived.ProofKit
import Derived.OpenShut
import Derived.ShutString
import Derived.ChangeOld
import Derived.Below
namespace Go.Proofs.YtbhndlpjfncliaaGreat.compBridges
open Go.Hp
set_option linter.unusedSimpArgs false
set_option linter.unusedVariables false
open Go.ChangeShapes Go.WideShapes Go.ChangeAt Go.RowKit

theorem own : ownKnob Tryz.prog.godebug = none := by kernel_rfl
theorem laidOut : laidOutB Tryz.prog = true := by kernel_rfl

theorem walk (a0 : Int) (a1 : Option Addr) (a1l a1c : Nat) (w : World) (n0 : Nat) (r0 : Rd Tryz.prog w.heap n0 5 [.int .u8 a0]) (n1 : Nat) (r1 : Rd Tryz.prog w.heap n1 22 [.slice a1 a1l a1c]) :
    Calls Tryz.prog 3 #[.int .u8 a0, .slice a1 a1l a1c] w fun e w' => e = .returned (.bool true) ∧ Below w.heap.size w w' := by
  obtain ⟨x0, he0, w0⟩ := r0.int (k := .u8) Tryz.underlying5
  obtain rfl : a0 = x0 := by simpa using he0
  have ha : 0 ≤ a0 ∧ a0 ≤ 255 := wf_u8 w0
  obtain ⟨hc1, hc2, l, m, hl, hr, hcs⟩ := r1.rows Tryz.underlying22
  have c3 : Program.cellsOf Tryz.prog 82 = 3 := by kernel_rfl
  rw [c3] at hr
  obtain ⟨es, rfl, hw⟩ := exists_map (l := l) (f := Ed.vs) (Q := fun e => True) (fun cs hc => by
    obtain ⟨xs, hx, rfl, hwf⟩ := (hcs cs hc).2.intStruct Tryz.underlying82 (by kernel_rfl) (by kernel_rfl)
    obtain ⟨a, b, c, rfl⟩ := list3 (show xs.length = 3 from hx)
    exact ⟨(a, b, c), rfl, trivial⟩)
  exact law_calls straitlaw20_CompBridges.ret_elim (straitlaw20_CompBridges.calls (Bridges_law ha (by simpa using hl) (eV_rows hr) fun h' e => ⟨rfl, e⟩) w rfl).2

set_option maxRecDepth 100000 in
theorem lifted (os : Os) (started : os.Started) (H : Type) (enc : TypeId × Value → H) :
    ReturnsInHanded {} Tryz.checked os 3 .any (Rows.compBridgesSpec.pre6 enc Tryz.prog Tryz.f3 Rows.compBridgesRow.domain false) (Rows.compBridgesSpec.post enc Tryz.prog Tryz.f3 false true false false) := by
  refine returnsInHanded_of_change (C := Tryz.checked) own started (by kernel_rfl) Tryz.func3
    (ChangeSpec.witness6 (enc := enc) (C := Tryz.checked) false ⟨#[], #[.int .u8 0, .slice none 0 0], []⟩ 8 (by kernel_rfl) (by kernel_rfl) (by kernel_rfl) (by kernel_rfl)) ?_
  intro W base args ds gs before hval0 hW hcnd _
  have hval : ∀ (j : Nat) t v, Tryz.f3.params[j]? = some t → args[j]? = some v → Value.okWide Tryz.prog W .any base t v := hval0
  have hW' := hW
  obtain ⟨p, q, hA0, hV, rfl, hfz, hnd⟩ := hW
  have hA : DataW.TrodAll enc Tryz.prog W 0 (fun _ => true) true Tryz.f3.params.toList args.toList ds p := hA0
  rw [Tryz.params3] at hA hval
  obtain ⟨v0, vs0, d0, ds0, p0, q0, hargs0, rfl, rfl, h0, r0_⟩ := trodAll_cons hA
  obtain ⟨v1, vs1, d1, ds1, p1, q1, hargs1, rfl, rfl, h1, r1_⟩ := trodAll_cons r0_
  obtain ⟨he_, rfl, rfl⟩ := trodAll_nil r1_
  obtain rfl : args = #[v0, v1] := by cases args; simp_all
  obtain ⟨rfl, rfl⟩ := trodVars_none hV
  have k0 := h0
  have lt0 : ∀ x ∈ p0, x.block < W.heap.size := by obtain ⟨m, hm⟩ := k0; exact DataW.trod_lt m _ _ _ hm
  have k1 := h1
  have lt1 : ∀ x ∈ p1, x.block < W.heap.size := by obtain ⟨m, hm⟩ := k1; exact DataW.trod_lt m _ _ _ hm
  obtain ⟨a0, rfl⟩ := okWide_int Tryz.underlying5 (hval 0 5 v0 rfl rfl)
  obtain ⟨n0, r0⟩ : ∃ n, Rd Tryz.prog W.heap n 5 [.int .u8 a0] := by obtain ⟨m, hm⟩ := h0; exact ⟨m, rd_of_trod hm⟩
  obtain ⟨a1, a1l, a1c, rfl⟩ := okWide_slice Tryz.underlying22 (hval 1 22 v1 rfl rfl)
  obtain ⟨n1, r1⟩ : ∃ n, Rd Tryz.prog W.heap n 22 [.slice a1 a1l a1c] := by obtain ⟨m, hm⟩ := h1; exact ⟨m, rd_of_trod hm⟩
  clear hA0 hval0
  refine (walk a0 a1 a1l a1c W n0 r0 n1 r1).mono fun e W' ⟨he, bel⟩ => ?_
  subst he
  exact ⟨_, rfl, _, _, _, [], _, [], hW', trodAll_mk1 (shut_bool Tryz.underlying4 _), (trodAll_cons_mk (Below.trod laidOut (by kernel_rfl) (of_decide_eq_true (by kernel_rfl)) k0 bel lt0) (trodAll_cons_mk (Below.trod laidOut (by kernel_rfl) (of_decide_eq_true (by kernel_rfl)) k1 bel lt1) trodAll_mk0)), rfl, bel.frame _, fun h => by cases h⟩

theorem over : Rows.compBridgesRow.holds Tryz.pinned (OpenSpec.ofChange Rows.compBridgesSpec) :=
  OpenClaim.holds_of_wide 3 Tryz.f3 rfl rfl rfl rfl rfl rfl rfl ⟨rfl, rfl, rfl, rfl, rfl⟩ rfl rfl rfl rfl rfl (by kernel_rfl) Tryz.func3 (by kernel_rfl)
    (of_decide_eq_true (by kernel_rfl)) (by unfold Func.isWrapper; first | (rw [if_pos (by decide +kernel)]; kernel_rfl) | (rw [if_neg (by decide +kernel)]; exact ⟨rfl, rfl⟩))
    (fun os started H enc _ => lifted os started H enc)

/-- The statement. -/
theorem proved : Rows.CompBridgesSaid := over
end Go.Proofs.YtbhndlpjfncliaaGreat.compBridges
#print axioms Go.Proofs.YtbhndlpjfncliaaGreat.compBridges.proved
