/- PROVED HERE: the statement 'LiftTellsCardSaid' of the seat: the Go function strait/straitlaw32.LiftTells returns true, whatever the input, and leaves memory that was there as it was. No condition. -/
import Derived.Test.YtfidcekobjmamaaDoorTie
import Derived.Test.YtfidcekobjmamaaDoorCards
import Derived.LaidMore
import Derived.Lay
import Derived.SevenTiedAt
import Derived.Stop.Joined
import Derived.Test.YtfidcekobjmamaaDoorLG
import Derived.Test.YtfidcekobjmamaaDoorLT
import Derived.Test.YtfidcekobjmamaaDoorRd
import Derived.WalkKit
import Derived.ProofKit
import Derived.OpenShut
import Derived.ShutString
import Derived.ChangeOld
import Derived.Below
namespace Go.Proofs.YtfidcekobjmamaaDoor.liftTells
open Go.Hp
set_option linter.unusedSimpArgs false
set_option linter.unusedVariables false
open Go.ChangeShapes Go.WideShapes Go.ChangeAt Go.RowKit

theorem own : ownKnob Tryd.prog.godebug = none := by kernel_rfl
theorem laidOut : laidOutB Tryd.prog = true := by kernel_rfl

theorem walk (a0_0 : Option Addr) (a0_0l a0_0c : Nat) (a0_1 : Option Addr) (a0_1l a0_1c : Nat) (a1_0 : Int) (a1_1 : Int) (a1_2 : Int) (w : World) (n0_0 : Nat) (r0_0 : Rd Tryd.prog w.heap n0_0 22 [.slice a0_0 a0_0l a0_0c]) (n0_1 : Nat) (r0_1 : Rd Tryd.prog w.heap n0_1 23 [.slice a0_1 a0_1l a0_1c]) (n1_0 : Nat) (r1_0 : Rd Tryd.prog w.heap n1_0 3 [.int .i64 a1_0]) (n1_1 : Nat) (r1_1 : Rd Tryd.prog w.heap n1_1 3 [.int .i64 a1_1]) (n1_2 : Nat) (r1_2 : Rd Tryd.prog w.heap n1_2 3 [.int .i64 a1_2]) (hl : Tab w.heap) :
    Calls Tryd.prog 4 #[.agg #[.slice a0_0 a0_0l a0_0c, .slice a0_1 a0_1l a0_1c], .agg #[.int .i64 a1_0, .int .i64 a1_1, .int .i64 a1_2]] w fun e w' => e = .returned (.bool true) ∧ Below w.heap.size w w' := by
  obtain ⟨g1, g2, uA, hA, vA, _⟩ := r0_0.ints (k := .i64) Tryd.underlying22 (by kernel_rfl) (by kernel_rfl)
  obtain ⟨g3, g4, wA, hA', vA', _⟩ := r0_1.ints (k := .i64) Tryd.underlying23 (by kernel_rfl) (by kernel_rfl)
  exact law_calls straitlaw32_LiftTells.ret_elim (straitlaw32_LiftTells.calls (LTells_of hl hA hA' vA vA' fun h' e => ⟨rfl, e⟩) w rfl).2

set_option maxRecDepth 100000 in
theorem lifted (os : Os) (started : os.Started) (H : Type) (enc : TypeId × Value → H) :
    ReturnsInHanded {} Tryd.checked os 4 .any (fun w args => (Rows.liftTellsSpec.pre enc Tryd.prog Tryd.f4 Rows.liftTellsRow.domain false w args ∧ laidMetH Tryd.prog Rows.liftTellsRow.laid w) ∧ sizedMet enc Tryd.prog Tryd.f4 (OpenSpec.ofChange Rows.liftTellsSpec) false w args) (Rows.liftTellsSpec.post enc Tryd.prog Tryd.f4 false true false false) := by
  refine returnsInHanded_of_change_and (C := Tryd.checked) (X := fun w _ => laidMetH Tryd.prog Rows.liftTellsRow.laid w) (fun _ _ _ hh h => h.of_heap hh) own started (by kernel_rfl) Tryd.func4
    (ChangeSpec.witness_shaped (enc := enc) (C := Tryd.checked) (os := os) (X := fun w _ => laidMetH Tryd.prog Rows.liftTellsRow.laid w) false (World.laidAll Tryd.prog os Rows.liftTellsRow.laid) #[.agg #[.slice none 0 0, .slice none 0 0], .agg #[.int .i64 0, .int .i64 0, .int .i64 0]] 8 (World.laidAll_os _ _ _)
      (World.shaped_of_ZipB (by kernel_rfl) (by kernel_rfl)) (by kernel_rfl) (by kernel_rfl) (by kernel_rfl)
      (by rw [MakeChecks.laidMetH_plain _ _ _ (by kernel_rfl)]; exact laidMet_laidAll _ (by kernel_rfl) (by kernel_rfl))) ?_
  intro W base args ds gs before hval0 hW hcnd _ hL _
  have hval : ∀ (j : Nat) t v, Tryd.f4.params[j]? = some t → args[j]? = some v → Value.okWide Tryd.prog W .any base t v := hval0
  have hW' := hW
  obtain ⟨p, q, hA0, hV, rfl, hfz, hnd⟩ := hW
  have hA : DataW.TrodAll enc Tryd.prog W 0 (fun _ => true) true Tryd.f4.params.toList args.toList ds p := hA0
  rw [Tryd.params4] at hA hval
  obtain ⟨v0, vs0, d0, ds0, p0, q0, hargs0, rfl, rfl, h0, r0_⟩ := trodAll_cons hA
  obtain ⟨v1, vs1, d1, ds1, p1, q1, hargs1, rfl, rfl, h1, r1_⟩ := trodAll_cons r0_
  obtain ⟨he_, rfl, rfl⟩ := trodAll_nil r1_
  obtain rfl : args = #[v0, v1] := by cases args; simp_all
  obtain ⟨rfl, rfl⟩ := trodVars_none hV
  have k0 := h0
  have lt0 : ∀ x ∈ p0, x.block < W.heap.size := by obtain ⟨m, hm⟩ := k0; exact DataW.trod_lt m _ _ _ hm
  have k1 := h1
  have lt1 : ∀ x ∈ p1, x.block < W.heap.size := by obtain ⟨m, hm⟩ := k1; exact DataW.trod_lt m _ _ _ hm
  obtain ⟨cs0, rfl, hs0⟩ := okWide_struct Tryd.underlying25 (hval 0 25 v0 rfl rfl)
  obtain ⟨n0, r0⟩ : ∃ n, Rd Tryd.prog W.heap n 25 cs0.toList := by obtain ⟨m, hm⟩ := h0; exact ⟨m, rd_of_trod hm⟩
  obtain ⟨c0_0, c0_1, rfl⟩ := arr2 (xs := cs0) (by rw [hs0]; kernel_rfl)
  obtain ⟨_, m0_0, m0_0h⟩ := Rd.struct r0 Tryd.underlying25
  have q0_1 : Rd Tryd.prog W.heap m0_0 22 [c0_0] := by
    have hh : Rd Tryd.prog W.heap m0_0 22 ((([c0_0, c0_1] : List Value).drop 0).take (Tryd.prog.cellsOf 22)) := m0_0h 0 _ rfl
    rw [show Tryd.prog.cellsOf 22 = 1 by kernel_rfl] at hh; exact hh
  have q0_2 : Rd Tryd.prog W.heap m0_0 23 [c0_1] := by
    have hh : Rd Tryd.prog W.heap m0_0 23 ((([c0_0, c0_1] : List Value).drop 1).take (Tryd.prog.cellsOf 23)) := m0_0h 1 _ rfl
    rw [show Tryd.prog.cellsOf 23 = 1 by kernel_rfl] at hh; exact hh
  obtain ⟨a0_0, a0_0l, a0_0c, he, _⟩ := Rd.slice q0_1 Tryd.underlying22; cases he
  obtain ⟨a0_1, a0_1l, a0_1c, he, _⟩ := Rd.slice q0_2 Tryd.underlying23; cases he
  obtain ⟨cs1, rfl, hs1⟩ := okWide_array Tryd.underlying35 (hval 1 35 v1 rfl rfl)
  obtain ⟨n1, r1⟩ : ∃ n, Rd Tryd.prog W.heap n 35 cs1.toList := by obtain ⟨m, hm⟩ := h1; exact ⟨m, rd_of_trod hm⟩
  obtain ⟨c1_0, c1_1, c1_2, rfl⟩ := arr3 (xs := cs1) (by rw [hs1]; kernel_rfl)
  obtain ⟨_, m1_0, m1_0h⟩ := Rd.array r1 Tryd.underlying35
  have q1_1 : Rd Tryd.prog W.heap m1_0 3 [c1_0] := by
    have hh : Rd Tryd.prog W.heap m1_0 3 ((([c1_0, c1_1, c1_2] : List Value).drop (0 * Tryd.prog.cellsOf 3)).take (Tryd.prog.cellsOf 3)) := m1_0h 0 (by decide)
    rw [show Tryd.prog.cellsOf 3 = 1 by kernel_rfl] at hh; exact hh
  have q1_2 : Rd Tryd.prog W.heap m1_0 3 [c1_1] := by
    have hh : Rd Tryd.prog W.heap m1_0 3 ((([c1_0, c1_1, c1_2] : List Value).drop (1 * Tryd.prog.cellsOf 3)).take (Tryd.prog.cellsOf 3)) := m1_0h 1 (by decide)
    rw [show Tryd.prog.cellsOf 3 = 1 by kernel_rfl] at hh; exact hh
  have q1_3 : Rd Tryd.prog W.heap m1_0 3 [c1_2] := by
    have hh : Rd Tryd.prog W.heap m1_0 3 ((([c1_0, c1_1, c1_2] : List Value).drop (2 * Tryd.prog.cellsOf 3)).take (Tryd.prog.cellsOf 3)) := m1_0h 2 (by decide)
    rw [show Tryd.prog.cellsOf 3 = 1 by kernel_rfl] at hh; exact hh
  obtain ⟨a1_0, he, _⟩ := Rd.int q1_1 Tryd.underlying3; cases he
  obtain ⟨a1_1, he, _⟩ := Rd.int q1_2 Tryd.underlying3; cases he
  obtain ⟨a1_2, he, _⟩ := Rd.int q1_3 Tryd.underlying3; cases he
  clear hA0 hval0
  refine (walk a0_0 a0_0l a0_0c a0_1 a0_1l a0_1c a1_0 a1_1 a1_2 W _ q0_1 _ q0_2 _ q1_1 _ q1_2 _ q1_3 (tab_of_laid hL)).mono fun e W' ⟨he, bel⟩ => ?_
  subst he
  exact ⟨_, rfl, _, _, _, [], _, [], hW', trodAll_mk1 (shut_bool Tryd.underlying4 _), (trodAll_cons_mk (Below.trod laidOut (by kernel_rfl) (of_decide_eq_true (by kernel_rfl)) k0 bel lt0) (trodAll_cons_mk (Below.trod laidOut (by kernel_rfl) (of_decide_eq_true (by kernel_rfl)) k1 bel lt1) trodAll_mk0)), rfl, bel.frame _, fun h => by cases h⟩

theorem over : Rows.liftTellsRow.holds Tryd.pinned (OpenSpec.ofChange Rows.liftTellsSpec) :=
  OpenClaim.holds_of_wide 4 Tryd.f4 rfl rfl rfl rfl rfl rfl rfl ⟨rfl, rfl, rfl, rfl, rfl⟩ rfl rfl rfl rfl rfl (by kernel_rfl) Tryd.func4 (by kernel_rfl)
    (of_decide_eq_true (by kernel_rfl)) (by unfold Func.isWrapper; first | (rw [if_pos (by decide +kernel)]; kernel_rfl) | (rw [if_neg (by decide +kernel)]; exact ⟨rfl, rfl⟩))
    (fun os started H enc _ => lifted os started H enc)

/-- The statement. -/
theorem proved : Rows.LiftTellsCardSaid :=
  Claim7.holds_tied_plain_at .later [] [.data, .data] true (true, "f2a88cfcd2611f081f2bcc8f94774d21844836137afe38374a1c7fdd252be1fd") false over (fun _ h => by cases h) (by kernel_rfl) (fun _ h => by cases h) liftTells_row_tie rfl ⟨rfl, rfl⟩ (by kernel_rfl) rfl
    (fun f fn hf hfn => by
      obtain rfl : f = 4 := Option.some.inj ((show Tryd.prog.funcNamed "strait/straitlaw32.LiftTells" = some 4 by kernel_rfl).symm.trans hf) |>.symm
      obtain rfl : fn = Tryd.f4 := (Option.some.inj (Tryd.func4.symm.trans hfn)).symm
      exact ⟨by kernel_rfl, fun j t ht => by
        rw [Tryd.params4] at ht
        have hall : (([25, 35] : List TypeId).all fun u => !Tryd.prog.wantsStandIn u) = true := by kernel_rfl
        have hm : t ∈ ([25, 35] : List TypeId) := by simpa using Array.mem_of_getElem? ht
        exact (show Tryd.prog.wantsStandIn t = false by simpa using List.all_eq_true.1 hall t hm)⟩)
    (by kernel_rfl)
end Go.Proofs.YtfidcekobjmamaaDoor.liftTells
#print axioms Go.Proofs.YtfidcekobjmamaaDoor.liftTells.proved
