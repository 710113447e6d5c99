/- PROVED HERE: the statement 'KargerTellsSaid' of the seat: the Go function strait/straitlaw41.KargerTells returns true, whatever the input, and leaves memory that was there as it was. No condition. -/
import Derived.Test.YtbhndlpjfncliaaGreatRows
import Derived.Test.YtbhndlpjfncliaaGreatU8
import Derived.Test.YtbhndlpjfncliaaGreatRd
import Derived.WalkKit
import Derived.ProofKit
import Derived.OpenShut
import Derived.ShutString
import Derived.ChangeOld
import Derived.Below
namespace Go.Proofs.YtbhndlpjfncliaaGreat.kargerTells
open Go.Hp
set_option linter.unusedSimpArgs false
set_option linter.unusedVariables false
open Go.ChangeShapes Go.WideShapes Go.ChangeAt Go.RowKit

theorem own : ownKnob Tryz.prog.godebug = none := by kernel_rfl
theorem laidOut : laidOutB Tryz.prog = true := by kernel_rfl

theorem walk (a0 : Int) (a1 : Option Addr) (a1l a1c : Nat) (a2_0 : Int) (a2_1 : Option Addr) (a2_1l a2_1c : Nat) (a2_2 : Int) (a2_3 : Int) (w : World) (n0 : Nat) (r0 : Rd Tryz.prog w.heap n0 5 [.int .u8 a0]) (n1 : Nat) (r1 : Rd Tryz.prog w.heap n1 22 [.slice a1 a1l a1c]) (n2_0 : Nat) (r2_0 : Rd Tryz.prog w.heap n2_0 3 [.int .i64 a2_0]) (n2_1 : Nat) (r2_1 : Rd Tryz.prog w.heap n2_1 58 [.slice a2_1 a2_1l a2_1c]) (n2_2 : Nat) (r2_2 : Rd Tryz.prog w.heap n2_2 53 [.int .u64 a2_2]) (n2_3 : Nat) (r2_3 : Rd Tryz.prog w.heap n2_3 3 [.int .i64 a2_3]) :
    Calls Tryz.prog 6 #[.int .u8 a0, .slice a1 a1l a1c, .agg #[.int .i64 a2_0, .slice a2_1 a2_1l a2_1c, .int .u64 a2_2, .int .i64 a2_3]] w fun e w' => e = .returned (.bool true) ∧ Below w.heap.size w w' := by
  obtain ⟨x0, he0, w0⟩ := r0.int (k := .u8) Tryz.underlying5
  obtain rfl : a0 = x0 := by simpa using he0
  have ha : 0 ≤ a0 ∧ a0 ≤ 255 := wf_u8 w0
  obtain ⟨hc1, hc2, l, m, hl, hr, hcs⟩ := r1.rows Tryz.underlying22
  have c3 : Program.cellsOf Tryz.prog 82 = 3 := by kernel_rfl
  rw [c3] at hr
  obtain ⟨es, rfl, hw⟩ := exists_map (l := l) (f := Ed.vs) (Q := fun e => True) (fun cs hc => by
    obtain ⟨xs, hx, rfl, hwf⟩ := (hcs cs hc).2.intStruct Tryz.underlying82 (by kernel_rfl) (by kernel_rfl)
    obtain ⟨a, b, c, rfl⟩ := list3 (show xs.length = 3 from hx)
    exact ⟨(a, b, c), rfl, trivial⟩)
  obtain ⟨g1, g2, ps, hps, vps, wps⟩ := r2_1.ints (k := .u64) Tryz.underlying58 (by kernel_rfl) (by kernel_rfl)
  have hpos : ∀ x ∈ ps, 0 ≤ x := fun x hx => wf_u64 (wps x hx)
  exact law_calls straitlaw41_KargerTells.ret_elim (straitlaw41_KargerTells.calls (Tells_law ha (by simpa using hl) (eV_rows hr) hps vps hpos fun h' e => ⟨rfl, e⟩) w rfl).2

set_option maxRecDepth 100000 in
theorem lifted (os : Os) (started : os.Started) (H : Type) (enc : TypeId × Value → H) :
    ReturnsInHanded {} Tryz.checked os 6 .any (Rows.kargerTellsSpec.pre6 enc Tryz.prog Tryz.f6 Rows.kargerTellsRow.domain false) (Rows.kargerTellsSpec.post enc Tryz.prog Tryz.f6 false true false false) := by
  refine returnsInHanded_of_change (C := Tryz.checked) own started (by kernel_rfl) Tryz.func6
    (ChangeSpec.witness6 (enc := enc) (C := Tryz.checked) false ⟨#[], #[.int .u8 0, .slice none 0 0, .agg #[.int .i64 0, .slice none 0 0, .int .u64 0, .int .i64 0]], []⟩ 8 (by kernel_rfl) (by kernel_rfl) (by kernel_rfl) (by kernel_rfl)) ?_
  intro W base args ds gs before hval0 hW hcnd _
  have hval : ∀ (j : Nat) t v, Tryz.f6.params[j]? = some t → args[j]? = some v → Value.okWide Tryz.prog W .any base t v := hval0
  have hW' := hW
  obtain ⟨p, q, hA0, hV, rfl, hfz, hnd⟩ := hW
  have hA : DataW.TrodAll enc Tryz.prog W 0 (fun _ => true) true Tryz.f6.params.toList args.toList ds p := hA0
  rw [Tryz.params6] at hA hval
  obtain ⟨v0, vs0, d0, ds0, p0, q0, hargs0, rfl, rfl, h0, r0_⟩ := trodAll_cons hA
  obtain ⟨v1, vs1, d1, ds1, p1, q1, hargs1, rfl, rfl, h1, r1_⟩ := trodAll_cons r0_
  obtain ⟨v2, vs2, d2, ds2, p2, q2, hargs2, rfl, rfl, h2, r2_⟩ := trodAll_cons r1_
  obtain ⟨he_, rfl, rfl⟩ := trodAll_nil r2_
  obtain rfl : args = #[v0, v1, v2] := by cases args; simp_all
  obtain ⟨rfl, rfl⟩ := trodVars_none hV
  have k0 := h0
  have lt0 : ∀ x ∈ p0, x.block < W.heap.size := by obtain ⟨m, hm⟩ := k0; exact DataW.trod_lt m _ _ _ hm
  have k1 := h1
  have lt1 : ∀ x ∈ p1, x.block < W.heap.size := by obtain ⟨m, hm⟩ := k1; exact DataW.trod_lt m _ _ _ hm
  have k2 := h2
  have lt2 : ∀ x ∈ p2, x.block < W.heap.size := by obtain ⟨m, hm⟩ := k2; exact DataW.trod_lt m _ _ _ hm
  obtain ⟨a0, rfl⟩ := okWide_int Tryz.underlying5 (hval 0 5 v0 rfl rfl)
  obtain ⟨n0, r0⟩ : ∃ n, Rd Tryz.prog W.heap n 5 [.int .u8 a0] := by obtain ⟨m, hm⟩ := h0; exact ⟨m, rd_of_trod hm⟩
  obtain ⟨a1, a1l, a1c, rfl⟩ := okWide_slice Tryz.underlying22 (hval 1 22 v1 rfl rfl)
  obtain ⟨n1, r1⟩ : ∃ n, Rd Tryz.prog W.heap n 22 [.slice a1 a1l a1c] := by obtain ⟨m, hm⟩ := h1; exact ⟨m, rd_of_trod hm⟩
  obtain ⟨cs2, rfl, hs2⟩ := okWide_struct Tryz.underlying67 (hval 2 67 v2 rfl rfl)
  obtain ⟨n2, r2⟩ : ∃ n, Rd Tryz.prog W.heap n 67 cs2.toList := by obtain ⟨m, hm⟩ := h2; exact ⟨m, rd_of_trod hm⟩
  obtain ⟨c2_0, c2_1, c2_2, c2_3, rfl⟩ := arr4 (xs := cs2) (by rw [hs2]; kernel_rfl)
  obtain ⟨_, m2_0, m2_0h⟩ := Rd.struct r2 Tryz.underlying67
  have q2_1 : Rd Tryz.prog W.heap m2_0 3 [c2_0] := by
    have hh : Rd Tryz.prog W.heap m2_0 3 ((([c2_0, c2_1, c2_2, c2_3] : List Value).drop 0).take (Tryz.prog.cellsOf 3)) := m2_0h 0 _ rfl
    rw [show Tryz.prog.cellsOf 3 = 1 by kernel_rfl] at hh; exact hh
  have q2_2 : Rd Tryz.prog W.heap m2_0 58 [c2_1] := by
    have hh : Rd Tryz.prog W.heap m2_0 58 ((([c2_0, c2_1, c2_2, c2_3] : List Value).drop 1).take (Tryz.prog.cellsOf 58)) := m2_0h 1 _ rfl
    rw [show Tryz.prog.cellsOf 58 = 1 by kernel_rfl] at hh; exact hh
  have q2_3 : Rd Tryz.prog W.heap m2_0 53 [c2_2] := by
    have hh : Rd Tryz.prog W.heap m2_0 53 ((([c2_0, c2_1, c2_2, c2_3] : List Value).drop 2).take (Tryz.prog.cellsOf 53)) := m2_0h 2 _ rfl
    rw [show Tryz.prog.cellsOf 53 = 1 by kernel_rfl] at hh; exact hh
  have q2_4 : Rd Tryz.prog W.heap m2_0 3 [c2_3] := by
    have hh : Rd Tryz.prog W.heap m2_0 3 ((([c2_0, c2_1, c2_2, c2_3] : List Value).drop 3).take (Tryz.prog.cellsOf 3)) := m2_0h 3 _ rfl
    rw [show Tryz.prog.cellsOf 3 = 1 by kernel_rfl] at hh; exact hh
  obtain ⟨a2_0, he, _⟩ := Rd.int q2_1 Tryz.underlying3; cases he
  obtain ⟨a2_1, a2_1l, a2_1c, he, _⟩ := Rd.slice q2_2 Tryz.underlying58; cases he
  obtain ⟨a2_2, he, _⟩ := Rd.int q2_3 Tryz.underlying53; cases he
  obtain ⟨a2_3, he, _⟩ := Rd.int q2_4 Tryz.underlying3; cases he
  clear hA0 hval0
  refine (walk a0 a1 a1l a1c a2_0 a2_1 a2_1l a2_1c a2_2 a2_3 W n0 r0 n1 r1 _ q2_1 _ q2_2 _ q2_3 _ q2_4).mono fun e W' ⟨he, bel⟩ => ?_
  subst he
  exact ⟨_, rfl, _, _, _, [], _, [], hW', trodAll_mk1 (shut_bool Tryz.underlying4 _), (trodAll_cons_mk (Below.trod laidOut (by kernel_rfl) (of_decide_eq_true (by kernel_rfl)) k0 bel lt0) (trodAll_cons_mk (Below.trod laidOut (by kernel_rfl) (of_decide_eq_true (by kernel_rfl)) k1 bel lt1) (trodAll_cons_mk (Below.trod laidOut (by kernel_rfl) (of_decide_eq_true (by kernel_rfl)) k2 bel lt2) trodAll_mk0))), rfl, bel.frame _, fun h => by cases h⟩

theorem over : Rows.kargerTellsRow.holds Tryz.pinned (OpenSpec.ofChange Rows.kargerTellsSpec) :=
  OpenClaim.holds_of_wide 6 Tryz.f6 rfl rfl rfl rfl rfl rfl rfl ⟨rfl, rfl, rfl, rfl, rfl⟩ rfl rfl rfl rfl rfl (by kernel_rfl) Tryz.func6 (by kernel_rfl)
    (of_decide_eq_true (by kernel_rfl)) (by unfold Func.isWrapper; first | (rw [if_pos (by decide +kernel)]; kernel_rfl) | (rw [if_neg (by decide +kernel)]; exact ⟨rfl, rfl⟩))
    (fun os started H enc _ => lifted os started H enc)

/-- The statement. -/
theorem proved : Rows.KargerTellsSaid := over
end Go.Proofs.YtbhndlpjfncliaaGreat.kargerTells
#print axioms Go.Proofs.YtbhndlpjfncliaaGreat.kargerTells.proved
