/- PROVED HERE: the statement 'CompTellsSaid' of the seat: the Go function strait/straitlaw20.CompTells returns true, whatever the input, and leaves memory that was there as it was. No condition. -/
import Derived.Test.YtbhndlpjfncliaaGreatRows
import Derived.Test.YtbhndlpjfncliaaGreatM8
import Derived.Test.YtbhndlpjfncliaaGreatRd
import Derived.WalkKit
import Derived.ProofKit
import Derived.OpenShut
import Derived.ShutString
import Derived.ChangeOld
import Derived.Below
namespace Go.Proofs.YtbhndlpjfncliaaGreat.compTells
open Go.Hp
set_option linter.unusedSimpArgs false
set_option linter.unusedVariables false
open Go.ChangeShapes Go.WideShapes Go.ChangeAt Go.RowKit

theorem own : ownKnob Tryz.prog.godebug = none := by kernel_rfl
theorem laidOut : laidOutB Tryz.prog = true := by kernel_rfl

theorem walk (a0 : Int) (a1 : Option Addr) (a1l a1c : Nat) (a2_0 : Int) (a2_1 : Int) (w : World) (n0 : Nat) (r0 : Rd Tryz.prog w.heap n0 5 [.int .u8 a0]) (n1 : Nat) (r1 : Rd Tryz.prog w.heap n1 22 [.slice a1 a1l a1c]) (n2_0 : Nat) (r2_0 : Rd Tryz.prog w.heap n2_0 3 [.int .i64 a2_0]) (n2_1 : Nat) (r2_1 : Rd Tryz.prog w.heap n2_1 3 [.int .i64 a2_1]) :
    Calls Tryz.prog 4 #[.int .u8 a0, .slice a1 a1l a1c, .agg #[.int .i64 a2_0, .int .i64 a2_1]] w fun e w' => e = .returned (.bool true) ∧ Below w.heap.size w w' := by
  obtain ⟨x0, he0, w0⟩ := r0.int (k := .u8) Tryz.underlying5
  obtain rfl : a0 = x0 := by simpa using he0
  have ha : 0 ≤ a0 ∧ a0 ≤ 255 := wf_u8 w0
  obtain ⟨hc1, hc2, l, m, hl, hr, hcs⟩ := r1.rows Tryz.underlying22
  have c3 : Program.cellsOf Tryz.prog 82 = 3 := by kernel_rfl
  rw [c3] at hr
  obtain ⟨es, rfl, hw⟩ := exists_map (l := l) (f := Ed.vs) (Q := fun e => True) (fun cs hc => by
    obtain ⟨xs, hx, rfl, hwf⟩ := (hcs cs hc).2.intStruct Tryz.underlying82 (by kernel_rfl) (by kernel_rfl)
    obtain ⟨a, b, c, rfl⟩ := list3 (show xs.length = 3 from hx)
    exact ⟨(a, b, c), rfl, trivial⟩)
  exact law_calls straitlaw20_CompTells.ret_elim (straitlaw20_CompTells.calls (Tells_of ha (by simpa using hl) (eV_rows hr) fun h' e => ⟨rfl, e⟩) w rfl).2

set_option maxRecDepth 100000 in
theorem lifted (os : Os) (started : os.Started) (H : Type) (enc : TypeId × Value → H) :
    ReturnsInHanded {} Tryz.checked os 4 .any (Rows.compTellsSpec.pre6 enc Tryz.prog Tryz.f4 Rows.compTellsRow.domain false) (Rows.compTellsSpec.post enc Tryz.prog Tryz.f4 false true false false) := by
  refine returnsInHanded_of_change (C := Tryz.checked) own started (by kernel_rfl) Tryz.func4
    (ChangeSpec.witness6 (enc := enc) (C := Tryz.checked) false ⟨#[], #[.int .u8 0, .slice none 0 0, .agg #[.int .i64 0, .int .i64 0]], []⟩ 8 (by kernel_rfl) (by kernel_rfl) (by kernel_rfl) (by kernel_rfl)) ?_
  intro W base args ds gs before hval0 hW hcnd _
  have hval : ∀ (j : Nat) t v, Tryz.f4.params[j]? = some t → args[j]? = some v → Value.okWide Tryz.prog W .any base t v := hval0
  have hW' := hW
  obtain ⟨p, q, hA0, hV, rfl, hfz, hnd⟩ := hW
  have hA : DataW.TrodAll enc Tryz.prog W 0 (fun _ => true) true Tryz.f4.params.toList args.toList ds p := hA0
  rw [Tryz.params4] at hA hval
  obtain ⟨v0, vs0, d0, ds0, p0, q0, hargs0, rfl, rfl, h0, r0_⟩ := trodAll_cons hA
  obtain ⟨v1, vs1, d1, ds1, p1, q1, hargs1, rfl, rfl, h1, r1_⟩ := trodAll_cons r0_
  obtain ⟨v2, vs2, d2, ds2, p2, q2, hargs2, rfl, rfl, h2, r2_⟩ := trodAll_cons r1_
  obtain ⟨he_, rfl, rfl⟩ := trodAll_nil r2_
  obtain rfl : args = #[v0, v1, v2] := by cases args; simp_all
  obtain ⟨rfl, rfl⟩ := trodVars_none hV
  have k0 := h0
  have lt0 : ∀ x ∈ p0, x.block < W.heap.size := by obtain ⟨m, hm⟩ := k0; exact DataW.trod_lt m _ _ _ hm
  have k1 := h1
  have lt1 : ∀ x ∈ p1, x.block < W.heap.size := by obtain ⟨m, hm⟩ := k1; exact DataW.trod_lt m _ _ _ hm
  have k2 := h2
  have lt2 : ∀ x ∈ p2, x.block < W.heap.size := by obtain ⟨m, hm⟩ := k2; exact DataW.trod_lt m _ _ _ hm
  obtain ⟨a0, rfl⟩ := okWide_int Tryz.underlying5 (hval 0 5 v0 rfl rfl)
  obtain ⟨n0, r0⟩ : ∃ n, Rd Tryz.prog W.heap n 5 [.int .u8 a0] := by obtain ⟨m, hm⟩ := h0; exact ⟨m, rd_of_trod hm⟩
  obtain ⟨a1, a1l, a1c, rfl⟩ := okWide_slice Tryz.underlying22 (hval 1 22 v1 rfl rfl)
  obtain ⟨n1, r1⟩ : ∃ n, Rd Tryz.prog W.heap n 22 [.slice a1 a1l a1c] := by obtain ⟨m, hm⟩ := h1; exact ⟨m, rd_of_trod hm⟩
  obtain ⟨cs2, rfl, hs2⟩ := okWide_array Tryz.underlying43 (hval 2 43 v2 rfl rfl)
  obtain ⟨n2, r2⟩ : ∃ n, Rd Tryz.prog W.heap n 43 cs2.toList := by obtain ⟨m, hm⟩ := h2; exact ⟨m, rd_of_trod hm⟩
  obtain ⟨c2_0, c2_1, rfl⟩ := arr2 (xs := cs2) (by rw [hs2]; kernel_rfl)
  obtain ⟨_, m2_0, m2_0h⟩ := Rd.array r2 Tryz.underlying43
  have q2_1 : Rd Tryz.prog W.heap m2_0 3 [c2_0] := by
    have hh : Rd Tryz.prog W.heap m2_0 3 ((([c2_0, c2_1] : List Value).drop (0 * Tryz.prog.cellsOf 3)).take (Tryz.prog.cellsOf 3)) := m2_0h 0 (by decide)
    rw [show Tryz.prog.cellsOf 3 = 1 by kernel_rfl] at hh; exact hh
  have q2_2 : Rd Tryz.prog W.heap m2_0 3 [c2_1] := by
    have hh : Rd Tryz.prog W.heap m2_0 3 ((([c2_0, c2_1] : List Value).drop (1 * Tryz.prog.cellsOf 3)).take (Tryz.prog.cellsOf 3)) := m2_0h 1 (by decide)
    rw [show Tryz.prog.cellsOf 3 = 1 by kernel_rfl] at hh; exact hh
  obtain ⟨a2_0, he, _⟩ := Rd.int q2_1 Tryz.underlying3; cases he
  obtain ⟨a2_1, he, _⟩ := Rd.int q2_2 Tryz.underlying3; cases he
  clear hA0 hval0
  refine (walk a0 a1 a1l a1c a2_0 a2_1 W n0 r0 n1 r1 _ q2_1 _ q2_2).mono fun e W' ⟨he, bel⟩ => ?_
  subst he
  exact ⟨_, rfl, _, _, _, [], _, [], hW', trodAll_mk1 (shut_bool Tryz.underlying4 _), (trodAll_cons_mk (Below.trod laidOut (by kernel_rfl) (of_decide_eq_true (by kernel_rfl)) k0 bel lt0) (trodAll_cons_mk (Below.trod laidOut (by kernel_rfl) (of_decide_eq_true (by kernel_rfl)) k1 bel lt1) (trodAll_cons_mk (Below.trod laidOut (by kernel_rfl) (of_decide_eq_true (by kernel_rfl)) k2 bel lt2) trodAll_mk0))), rfl, bel.frame _, fun h => by cases h⟩

theorem over : Rows.compTellsRow.holds Tryz.pinned (OpenSpec.ofChange Rows.compTellsSpec) :=
  OpenClaim.holds_of_wide 4 Tryz.f4 rfl rfl rfl rfl rfl rfl rfl ⟨rfl, rfl, rfl, rfl, rfl⟩ rfl rfl rfl rfl rfl (by kernel_rfl) Tryz.func4 (by kernel_rfl)
    (of_decide_eq_true (by kernel_rfl)) (by unfold Func.isWrapper; first | (rw [if_pos (by decide +kernel)]; kernel_rfl) | (rw [if_neg (by decide +kernel)]; exact ⟨rfl, rfl⟩))
    (fun os started H enc _ => lifted os started H enc)

/-- The statement. -/
theorem proved : Rows.CompTellsSaid := over
end Go.Proofs.YtbhndlpjfncliaaGreat.compTells
#print axioms Go.Proofs.YtbhndlpjfncliaaGreat.compTells.proved
