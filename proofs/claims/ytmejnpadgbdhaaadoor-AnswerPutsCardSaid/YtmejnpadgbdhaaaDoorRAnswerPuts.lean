/- PROVED HERE: the statement 'AnswerPutsCardSaid' of the seat: the Go function strait/straitlaw49.AnswerPuts returns true, whatever the input, and leaves memory that was there as it was. No condition. -/
import Derived.Test.YtmejnpadgbdhaaaDoorTie
import Derived.Test.YtmejnpadgbdhaaaDoorCards
import Derived.LaidMore
import Derived.Lay
import Derived.SevenTiedAt
import Derived.Stop.Joined
import Derived.Test.YtmejnpadgbdhaaaDoorA8
import Derived.Test.YtmejnpadgbdhaaaDoorRd
import Derived.WalkKit
import Derived.ProofKit
import Derived.OpenShut
import Derived.ShutString
import Derived.ChangeOld
import Derived.Below
namespace Go.Proofs.YtmejnpadgbdhaaaDoor.answerPuts
open Go.Hp
set_option linter.unusedSimpArgs false
set_option linter.unusedVariables false
open Go.ChangeShapes Go.WideShapes Go.ChangeAt Go.RowKit

theorem own : ownKnob Tryd.prog.godebug = none := by kernel_rfl
theorem laidOut : laidOutB Tryd.prog = true := by kernel_rfl

theorem walk (a0_0 : Int) (a0_1 : Option Addr) (a0_1l a0_1c : Nat) (a0_2 : Option Addr) (a0_2l a0_2c : Nat) (a0_3 : Option Addr) (a0_3l a0_3c : Nat) (a1_0 : Int) (a1_1 : Option Addr) (a1_1l a1_1c : Nat) (a1_2 : Option Addr) (a1_2l a1_2c : Nat) (a1_3 : Option Addr) (a1_3l a1_3c : Nat) (w : World) (n0_0 : Nat) (r0_0 : Rd Tryd.prog w.heap n0_0 22 [.int .i64 a0_0]) (n0_1 : Nat) (r0_1 : Rd Tryd.prog w.heap n0_1 23 [.slice a0_1 a0_1l a0_1c]) (n0_2 : Nat) (r0_2 : Rd Tryd.prog w.heap n0_2 24 [.slice a0_2 a0_2l a0_2c]) (n0_3 : Nat) (r0_3 : Rd Tryd.prog w.heap n0_3 25 [.slice a0_3 a0_3l a0_3c]) (n1_0 : Nat) (r1_0 : Rd Tryd.prog w.heap n1_0 22 [.int .i64 a1_0]) (n1_1 : Nat) (r1_1 : Rd Tryd.prog w.heap n1_1 23 [.slice a1_1 a1_1l a1_1c]) (n1_2 : Nat) (r1_2 : Rd Tryd.prog w.heap n1_2 24 [.slice a1_2 a1_2l a1_2c]) (n1_3 : Nat) (r1_3 : Rd Tryd.prog w.heap n1_3 25 [.slice a1_3 a1_3l a1_3c]) (hl : Facts w.heap) :
    Calls Tryd.prog 3 #[.agg #[.int .i64 a0_0, .slice a0_1 a0_1l a0_1c, .slice a0_2 a0_2l a0_2c, .slice a0_3 a0_3l a0_3c], .agg #[.int .i64 a1_0, .slice a1_1 a1_1l a1_1c, .slice a1_2 a1_2l a1_2c, .slice a1_3 a1_3l a1_3c]] w fun e w' => e = .returned (.bool true) ∧ Below w.heap.size w w' := by
  obtain ⟨a, va, rfl, rfl, rfl, rfl, v1, v2, v3⟩ := ans_of r0_0 r0_1 r0_2 r0_3
  obtain ⟨b, vb, rfl, rfl, rfl, rfl, w1, w2, w3⟩ := ans_of r1_0 r1_1 r1_2 r1_3
  exact law_calls straitlaw49_AnswerPuts.ret_elim (straitlaw49_AnswerPuts.calls (AnswerPuts_of hl va vb v1 v2 v3 w1 w2 w3 fun h' e => ⟨rfl, e⟩) w rfl).2

set_option maxRecDepth 100000 in
theorem lifted (os : Os) (started : os.Started) (H : Type) (enc : TypeId × Value → H) :
    ReturnsInHanded {} Tryd.checked os 3 .any (fun w args => (Rows.answerPutsSpec.pre enc Tryd.prog Tryd.f3 Rows.answerPutsRow.domain false w args ∧ laidMetH Tryd.prog Rows.answerPutsRow.laid w) ∧ sizedMet enc Tryd.prog Tryd.f3 (OpenSpec.ofChange Rows.answerPutsSpec) false w args) (Rows.answerPutsSpec.post enc Tryd.prog Tryd.f3 false true false false) := by
  refine wrap_shaped (C := Tryd.checked) (X := fun w _ => laidMetH Tryd.prog Rows.answerPutsRow.laid w) (fun _ _ _ hh h => h.of_heap hh) own started (by kernel_rfl) Tryd.func3
    (ChangeSpec.witness_shaped (enc := enc) (C := Tryd.checked) (os := os) (X := fun w _ => laidMetH Tryd.prog Rows.answerPutsRow.laid w) false (World.laidAll Tryd.prog os Rows.answerPutsRow.laid) #[.agg #[.int .i64 0, .slice none 0 0, .slice none 0 0, .slice none 0 0], .agg #[.int .i64 0, .slice none 0 0, .slice none 0 0, .slice none 0 0]] 8 (World.laidAll_os _ _ _)
      (World.shaped_of_ZipB (by kernel_rfl) (by kernel_rfl)) (by kernel_rfl) (by kernel_rfl) (by kernel_rfl)
      (by rw [MakeChecks.laidMetH_plain _ _ _ (by kernel_rfl)]; exact laidMet_laidAll _ (by kernel_rfl) (by kernel_rfl))) ?_
  intro W base args ds gs before hval0 hW hL hS
  have hval : ∀ (j : Nat) t v, Tryd.f3.params[j]? = some t → args[j]? = some v → Value.okWide Tryd.prog W .any base t v := hval0
  have hW' := hW
  obtain ⟨p, q, hA0, hV, rfl, hfz, hnd⟩ := hW
  have hA : DataW.TrodAll enc Tryd.prog W 0 (fun _ => true) true Tryd.f3.params.toList args.toList ds p := hA0
  rw [Tryd.params3] at hA hval
  obtain ⟨v0, vs0, d0, ds0, p0, q0, hargs0, rfl, rfl, h0, r0_⟩ := trodAll_cons hA
  obtain ⟨v1, vs1, d1, ds1, p1, q1, hargs1, rfl, rfl, h1, r1_⟩ := trodAll_cons r0_
  obtain ⟨he_, rfl, rfl⟩ := trodAll_nil r1_
  obtain rfl : args = #[v0, v1] := by cases args; simp_all
  obtain ⟨rfl, rfl⟩ := trodVars_none hV
  have k0 := h0
  have lt0 : ∀ x ∈ p0, x.block < W.heap.size := by obtain ⟨m, hm⟩ := k0; exact DataW.trod_lt m _ _ _ hm
  have k1 := h1
  have lt1 : ∀ x ∈ p1, x.block < W.heap.size := by obtain ⟨m, hm⟩ := k1; exact DataW.trod_lt m _ _ _ hm
  obtain ⟨cs0, rfl, hs0⟩ := okWide_struct Tryd.underlying27 (hval 0 27 v0 rfl rfl)
  obtain ⟨n0, r0⟩ : ∃ n, Rd Tryd.prog W.heap n 27 cs0.toList := by obtain ⟨m, hm⟩ := h0; exact ⟨m, rd_of_trod hm⟩
  obtain ⟨c0_0, c0_1, c0_2, c0_3, rfl⟩ := arr4 (xs := cs0) (by rw [hs0]; kernel_rfl)
  obtain ⟨_, m0_0, m0_0h⟩ := Rd.struct r0 Tryd.underlying27
  have q0_1 : Rd Tryd.prog W.heap m0_0 22 [c0_0] := by
    have hh : Rd Tryd.prog W.heap m0_0 22 ((([c0_0, c0_1, c0_2, c0_3] : List Value).drop 0).take (Tryd.prog.cellsOf 22)) := m0_0h 0 _ rfl
    rw [show Tryd.prog.cellsOf 22 = 1 by kernel_rfl] at hh; exact hh
  have q0_2 : Rd Tryd.prog W.heap m0_0 23 [c0_1] := by
    have hh : Rd Tryd.prog W.heap m0_0 23 ((([c0_0, c0_1, c0_2, c0_3] : List Value).drop 1).take (Tryd.prog.cellsOf 23)) := m0_0h 1 _ rfl
    rw [show Tryd.prog.cellsOf 23 = 1 by kernel_rfl] at hh; exact hh
  have q0_3 : Rd Tryd.prog W.heap m0_0 24 [c0_2] := by
    have hh : Rd Tryd.prog W.heap m0_0 24 ((([c0_0, c0_1, c0_2, c0_3] : List Value).drop 2).take (Tryd.prog.cellsOf 24)) := m0_0h 2 _ rfl
    rw [show Tryd.prog.cellsOf 24 = 1 by kernel_rfl] at hh; exact hh
  have q0_4 : Rd Tryd.prog W.heap m0_0 25 [c0_3] := by
    have hh : Rd Tryd.prog W.heap m0_0 25 ((([c0_0, c0_1, c0_2, c0_3] : List Value).drop 3).take (Tryd.prog.cellsOf 25)) := m0_0h 3 _ rfl
    rw [show Tryd.prog.cellsOf 25 = 1 by kernel_rfl] at hh; exact hh
  obtain ⟨a0_0, he, _⟩ := Rd.int q0_1 Tryd.underlying22; cases he
  obtain ⟨a0_1, a0_1l, a0_1c, he, _⟩ := Rd.slice q0_2 Tryd.underlying23; cases he
  obtain ⟨a0_2, a0_2l, a0_2c, he, _⟩ := Rd.slice q0_3 Tryd.underlying24; cases he
  obtain ⟨a0_3, a0_3l, a0_3c, he, _⟩ := Rd.slice q0_4 Tryd.underlying25; cases he
  obtain ⟨cs1, rfl, hs1⟩ := okWide_struct Tryd.underlying27 (hval 1 27 v1 rfl rfl)
  obtain ⟨n1, r1⟩ : ∃ n, Rd Tryd.prog W.heap n 27 cs1.toList := by obtain ⟨m, hm⟩ := h1; exact ⟨m, rd_of_trod hm⟩
  obtain ⟨c1_0, c1_1, c1_2, c1_3, rfl⟩ := arr4 (xs := cs1) (by rw [hs1]; kernel_rfl)
  obtain ⟨_, m1_0, m1_0h⟩ := Rd.struct r1 Tryd.underlying27
  have q1_1 : Rd Tryd.prog W.heap m1_0 22 [c1_0] := by
    have hh : Rd Tryd.prog W.heap m1_0 22 ((([c1_0, c1_1, c1_2, c1_3] : List Value).drop 0).take (Tryd.prog.cellsOf 22)) := m1_0h 0 _ rfl
    rw [show Tryd.prog.cellsOf 22 = 1 by kernel_rfl] at hh; exact hh
  have q1_2 : Rd Tryd.prog W.heap m1_0 23 [c1_1] := by
    have hh : Rd Tryd.prog W.heap m1_0 23 ((([c1_0, c1_1, c1_2, c1_3] : List Value).drop 1).take (Tryd.prog.cellsOf 23)) := m1_0h 1 _ rfl
    rw [show Tryd.prog.cellsOf 23 = 1 by kernel_rfl] at hh; exact hh
  have q1_3 : Rd Tryd.prog W.heap m1_0 24 [c1_2] := by
    have hh : Rd Tryd.prog W.heap m1_0 24 ((([c1_0, c1_1, c1_2, c1_3] : List Value).drop 2).take (Tryd.prog.cellsOf 24)) := m1_0h 2 _ rfl
    rw [show Tryd.prog.cellsOf 24 = 1 by kernel_rfl] at hh; exact hh
  have q1_4 : Rd Tryd.prog W.heap m1_0 25 [c1_3] := by
    have hh : Rd Tryd.prog W.heap m1_0 25 ((([c1_0, c1_1, c1_2, c1_3] : List Value).drop 3).take (Tryd.prog.cellsOf 25)) := m1_0h 3 _ rfl
    rw [show Tryd.prog.cellsOf 25 = 1 by kernel_rfl] at hh; exact hh
  obtain ⟨a1_0, he, _⟩ := Rd.int q1_1 Tryd.underlying22; cases he
  obtain ⟨a1_1, a1_1l, a1_1c, he, _⟩ := Rd.slice q1_2 Tryd.underlying23; cases he
  obtain ⟨a1_2, a1_2l, a1_2c, he, _⟩ := Rd.slice q1_3 Tryd.underlying24; cases he
  obtain ⟨a1_3, a1_3l, a1_3c, he, _⟩ := Rd.slice q1_4 Tryd.underlying25; cases he
  clear hA0 hval0
  refine (walk a0_0 a0_1 a0_1l a0_1c a0_2 a0_2l a0_2c a0_3 a0_3l a0_3c a1_0 a1_1 a1_1l a1_1c a1_2 a1_2l a1_2c a1_3 a1_3l a1_3c W _ q0_1 _ q0_2 _ q0_3 _ q0_4 _ q1_1 _ q1_2 _ q1_3 _ q1_4 (facts_of hL hS)).mono fun e W' ⟨he, bel⟩ => ?_
  subst he
  exact ⟨_, rfl, _, _, _, [], _, [], hW', trodAll_mk1 (shut_bool Tryd.underlying4 _), (trodAll_cons_mk (Below.trod laidOut (by kernel_rfl) (of_decide_eq_true (by kernel_rfl)) k0 bel lt0) (trodAll_cons_mk (Below.trod laidOut (by kernel_rfl) (of_decide_eq_true (by kernel_rfl)) k1 bel lt1) trodAll_mk0)), rfl, bel.frame _, fun h => by cases h⟩

theorem over : Rows.answerPutsRow.holds Tryd.pinned (OpenSpec.ofChange Rows.answerPutsSpec) :=
  OpenClaim.holds_of_wide 3 Tryd.f3 rfl rfl rfl rfl rfl rfl rfl ⟨rfl, rfl, rfl, rfl, rfl⟩ rfl rfl rfl rfl rfl (by kernel_rfl) Tryd.func3 (by kernel_rfl)
    (of_decide_eq_true (by kernel_rfl)) (by unfold Func.isWrapper; first | (rw [if_pos (by decide +kernel)]; kernel_rfl) | (rw [if_neg (by decide +kernel)]; exact ⟨rfl, rfl⟩))
    (fun os started H enc _ => lifted os started H enc)

/-- The statement. -/
theorem proved : Rows.AnswerPutsCardSaid :=
  Claim7.holds_tied_plain_at .later [] [.data, .data, .data, .data, .sentinel, .sentinel, .pinned] true (true, "01d37f9eca4320beee2d8ca7e63d27b927d58e07ac1ed495aa6f3685c62aa3d8") true over (fun _ h => by cases h) (by kernel_rfl) (fun _ h => by cases h) answerPuts_row_tie rfl ⟨rfl, rfl⟩ (by kernel_rfl) rfl
    (fun f fn hf hfn => by
      obtain rfl : f = 3 := Option.some.inj ((show Tryd.prog.funcNamed "strait/straitlaw49.AnswerPuts" = some 3 by kernel_rfl).symm.trans hf) |>.symm
      obtain rfl : fn = Tryd.f3 := (Option.some.inj (Tryd.func3.symm.trans hfn)).symm
      exact ⟨by kernel_rfl, fun j t ht => by
        rw [Tryd.params3] at ht
        have hall : (([27, 27] : List TypeId).all fun u => !Tryd.prog.wantsStandIn u) = true := by kernel_rfl
        have hm : t ∈ ([27, 27] : List TypeId) := by simpa using Array.mem_of_getElem? ht
        exact (show Tryd.prog.wantsStandIn t = false by simpa using List.all_eq_true.1 hall t hm)⟩)
    (by kernel_rfl)
end Go.Proofs.YtmejnpadgbdhaaaDoor.answerPuts
#print axioms Go.Proofs.YtmejnpadgbdhaaaDoor.answerPuts.proved
