/- PROVED HERE: the statement 'AnswerReadsCardSaid' of the seat: the Go function strait/straitlaw49.AnswerReads returns true, whatever the input, and leaves memory that was there as it was. No condition. -/
import Derived.Test.YtmejnpadgbdhaaaGreatDoorTie
import Derived.Test.YtmejnpadgbdhaaaGreatDoorCards
import Derived.LaidMore
import Derived.Lay
import Derived.SevenTiedAt
import Derived.Stop.Joined
import Derived.Test.YtmejnpadgbdhaaaGreatDoorB3
import Derived.Test.YtmejnpadgbdhaaaGreatDoorA8
import Derived.Test.YtmejnpadgbdhaaaGreatDoorRd
import Derived.WalkKit
import Derived.ProofKit
import Derived.OpenShut
import Derived.ShutString
import Derived.ChangeOld
import Derived.Below
namespace Go.Proofs.YtmejnpadgbdhaaaGreatDoor.answerReads
open Go.Hp
set_option linter.unusedSimpArgs false
set_option linter.unusedVariables false
open Go.ChangeShapes Go.WideShapes Go.ChangeAt Go.RowKit

theorem own : ownKnob Tryz.prog.godebug = none := by kernel_rfl
theorem laidOut : laidOutB Tryz.prog = true := by kernel_rfl

theorem walk (a0 : ByteArray) (a1_0 : Int) (a1_1 : Option Addr) (a1_1l a1_1c : Nat) (a1_2 : Option Addr) (a1_2l a1_2c : Nat) (a1_3 : Option Addr) (a1_3l a1_3c : Nat) (w : World) (n0 : Nat) (r0 : Rd Tryz.prog w.heap n0 9 [.string a0]) (n1_0 : Nat) (r1_0 : Rd Tryz.prog w.heap n1_0 22 [.int .i64 a1_0]) (n1_1 : Nat) (r1_1 : Rd Tryz.prog w.heap n1_1 23 [.slice a1_1 a1_1l a1_1c]) (n1_2 : Nat) (r1_2 : Rd Tryz.prog w.heap n1_2 24 [.slice a1_2 a1_2l a1_2c]) (n1_3 : Nat) (r1_3 : Rd Tryz.prog w.heap n1_3 25 [.slice a1_3 a1_3l a1_3c]) (hl : Facts w.heap) :
    Calls Tryz.prog 3 #[.string a0, .agg #[.int .i64 a1_0, .slice a1_1 a1_1l a1_1c, .slice a1_2 a1_2l a1_2c, .slice a1_3 a1_3l a1_3c]] w fun e w' => e = .returned (.bool true) ∧ Below w.heap.size w w' := by
  obtain ⟨a, va, rfl, rfl, rfl, rfl, v1, v2, v3⟩ := ans_of r1_0 r1_1 r1_2 r1_3
  exact law_calls straitlaw49_AnswerReads.ret_elim (straitlaw49_AnswerReads.calls (AnswerReads_of (L := bytes a0) hl va v1 v2 v3 fun h' e => ⟨rfl, e⟩) w rfl).2

set_option maxRecDepth 100000 in
theorem lifted (os : Os) (started : os.Started) (H : Type) (enc : TypeId × Value → H) :
    ReturnsInHanded {} Tryz.checked os 3 .any (fun w args => (Rows.answerReadsSpec.pre enc Tryz.prog Tryz.f3 Rows.answerReadsRow.domain false w args ∧ laidMetH Tryz.prog Rows.answerReadsRow.laid w) ∧ sizedMet enc Tryz.prog Tryz.f3 (OpenSpec.ofChange Rows.answerReadsSpec) false w args) (Rows.answerReadsSpec.post enc Tryz.prog Tryz.f3 false true false false) := by
  refine wrap_shaped (C := Tryz.checked) (X := fun w _ => laidMetH Tryz.prog Rows.answerReadsRow.laid w) (fun _ _ _ hh h => h.of_heap hh) own started (by kernel_rfl) Tryz.func3
    (ChangeSpec.witness_shaped (enc := enc) (C := Tryz.checked) (os := os) (X := fun w _ => laidMetH Tryz.prog Rows.answerReadsRow.laid w) false (World.laidAll Tryz.prog os Rows.answerReadsRow.laid) #[.string ByteArray.empty, .agg #[.int .i64 0, .slice none 0 0, .slice none 0 0, .slice none 0 0]] 8 (World.laidAll_os _ _ _)
      (World.shaped_of_ZipB (by kernel_rfl) (by kernel_rfl)) (by kernel_rfl) (by kernel_rfl) (by kernel_rfl)
      (by rw [MakeChecks.laidMetH_plain _ _ _ (by kernel_rfl)]; exact laidMet_laidAll _ (by kernel_rfl) (by kernel_rfl))) ?_
  intro W base args ds gs before hval0 hW hL hS
  have hval : ∀ (j : Nat) t v, Tryz.f3.params[j]? = some t → args[j]? = some v → Value.okWide Tryz.prog W .any base t v := hval0
  have hW' := hW
  obtain ⟨p, q, hA0, hV, rfl, hfz, hnd⟩ := hW
  have hA : DataW.TrodAll enc Tryz.prog W 0 (fun _ => true) true Tryz.f3.params.toList args.toList ds p := hA0
  rw [Tryz.params3] at hA hval
  obtain ⟨v0, vs0, d0, ds0, p0, q0, hargs0, rfl, rfl, h0, r0_⟩ := trodAll_cons hA
  obtain ⟨v1, vs1, d1, ds1, p1, q1, hargs1, rfl, rfl, h1, r1_⟩ := trodAll_cons r0_
  obtain ⟨he_, rfl, rfl⟩ := trodAll_nil r1_
  obtain rfl : args = #[v0, v1] := by cases args; simp_all
  obtain ⟨rfl, rfl⟩ := trodVars_none hV
  have k0 := h0
  have lt0 : ∀ x ∈ p0, x.block < W.heap.size := by obtain ⟨m, hm⟩ := k0; exact DataW.trod_lt m _ _ _ hm
  have k1 := h1
  have lt1 : ∀ x ∈ p1, x.block < W.heap.size := by obtain ⟨m, hm⟩ := k1; exact DataW.trod_lt m _ _ _ hm
  obtain ⟨a0, rfl⟩ := okWide_string Tryz.underlying9 (hval 0 9 v0 rfl rfl)
  obtain ⟨n0, r0⟩ : ∃ n, Rd Tryz.prog W.heap n 9 [.string a0] := by obtain ⟨m, hm⟩ := h0; exact ⟨m, rd_of_trod hm⟩
  obtain ⟨cs1, rfl, hs1⟩ := okWide_struct Tryz.underlying27 (hval 1 27 v1 rfl rfl)
  obtain ⟨n1, r1⟩ : ∃ n, Rd Tryz.prog W.heap n 27 cs1.toList := by obtain ⟨m, hm⟩ := h1; exact ⟨m, rd_of_trod hm⟩
  obtain ⟨c1_0, c1_1, c1_2, c1_3, rfl⟩ := arr4 (xs := cs1) (by rw [hs1]; kernel_rfl)
  obtain ⟨_, m1_0, m1_0h⟩ := Rd.struct r1 Tryz.underlying27
  have q1_1 : Rd Tryz.prog W.heap m1_0 22 [c1_0] := by
    have hh : Rd Tryz.prog W.heap m1_0 22 ((([c1_0, c1_1, c1_2, c1_3] : List Value).drop 0).take (Tryz.prog.cellsOf 22)) := m1_0h 0 _ rfl
    rw [show Tryz.prog.cellsOf 22 = 1 by kernel_rfl] at hh; exact hh
  have q1_2 : Rd Tryz.prog W.heap m1_0 23 [c1_1] := by
    have hh : Rd Tryz.prog W.heap m1_0 23 ((([c1_0, c1_1, c1_2, c1_3] : List Value).drop 1).take (Tryz.prog.cellsOf 23)) := m1_0h 1 _ rfl
    rw [show Tryz.prog.cellsOf 23 = 1 by kernel_rfl] at hh; exact hh
  have q1_3 : Rd Tryz.prog W.heap m1_0 24 [c1_2] := by
    have hh : Rd Tryz.prog W.heap m1_0 24 ((([c1_0, c1_1, c1_2, c1_3] : List Value).drop 2).take (Tryz.prog.cellsOf 24)) := m1_0h 2 _ rfl
    rw [show Tryz.prog.cellsOf 24 = 1 by kernel_rfl] at hh; exact hh
  have q1_4 : Rd Tryz.prog W.heap m1_0 25 [c1_3] := by
    have hh : Rd Tryz.prog W.heap m1_0 25 ((([c1_0, c1_1, c1_2, c1_3] : List Value).drop 3).take (Tryz.prog.cellsOf 25)) := m1_0h 3 _ rfl
    rw [show Tryz.prog.cellsOf 25 = 1 by kernel_rfl] at hh; exact hh
  obtain ⟨a1_0, he, _⟩ := Rd.int q1_1 Tryz.underlying22; cases he
  obtain ⟨a1_1, a1_1l, a1_1c, he, _⟩ := Rd.slice q1_2 Tryz.underlying23; cases he
  obtain ⟨a1_2, a1_2l, a1_2c, he, _⟩ := Rd.slice q1_3 Tryz.underlying24; cases he
  obtain ⟨a1_3, a1_3l, a1_3c, he, _⟩ := Rd.slice q1_4 Tryz.underlying25; cases he
  clear hA0 hval0
  refine (walk a0 a1_0 a1_1 a1_1l a1_1c a1_2 a1_2l a1_2c a1_3 a1_3l a1_3c W n0 r0 _ q1_1 _ q1_2 _ q1_3 _ q1_4 (facts_of hL hS)).mono fun e W' ⟨he, bel⟩ => ?_
  subst he
  exact ⟨_, rfl, _, _, _, [], _, [], hW', trodAll_mk1 (shut_bool Tryz.underlying4 _), (trodAll_cons_mk (Below.trod laidOut (by kernel_rfl) (of_decide_eq_true (by kernel_rfl)) k0 bel lt0) (trodAll_cons_mk (Below.trod laidOut (by kernel_rfl) (of_decide_eq_true (by kernel_rfl)) k1 bel lt1) trodAll_mk0)), rfl, bel.frame _, fun h => by cases h⟩

theorem over : Rows.answerReadsRow.holds Tryz.pinned (OpenSpec.ofChange Rows.answerReadsSpec) :=
  OpenClaim.holds_of_wide 3 Tryz.f3 rfl rfl rfl rfl rfl rfl rfl ⟨rfl, rfl, rfl, rfl, rfl⟩ rfl rfl rfl rfl rfl (by kernel_rfl) Tryz.func3 (by kernel_rfl)
    (of_decide_eq_true (by kernel_rfl)) (by unfold Func.isWrapper; first | (rw [if_pos (by decide +kernel)]; kernel_rfl) | (rw [if_neg (by decide +kernel)]; exact ⟨rfl, rfl⟩))
    (fun os started H enc _ => lifted os started H enc)

/-- The statement. -/
theorem proved : Rows.AnswerReadsCardSaid :=
  Claim7.holds_tied_plain_at .later [] [.data, .data, .data, .data, .sentinel, .sentinel, .pinned] true (true, "cd26d847574a38032a2eda8fbca91aa3e9a92b879dbfcac69fe9b911775bb9be") true over (fun _ h => by cases h) (by kernel_rfl) (fun _ h => by cases h) answerReads_row_tie rfl ⟨rfl, rfl⟩ (by kernel_rfl) rfl
    (fun f fn hf hfn => by
      obtain rfl : f = 3 := Option.some.inj ((show Tryz.prog.funcNamed "strait/straitlaw49.AnswerReads" = some 3 by kernel_rfl).symm.trans hf) |>.symm
      obtain rfl : fn = Tryz.f3 := (Option.some.inj (Tryz.func3.symm.trans hfn)).symm
      exact ⟨by kernel_rfl, fun j t ht => by
        rw [Tryz.params3] at ht
        have hall : (([9, 27] : List TypeId).all fun u => !Tryz.prog.wantsStandIn u) = true := by kernel_rfl
        have hm : t ∈ ([9, 27] : List TypeId) := by simpa using Array.mem_of_getElem? ht
        exact (show Tryz.prog.wantsStandIn t = false by simpa using List.all_eq_true.1 hall t hm)⟩)
    (by kernel_rfl)
end Go.Proofs.YtmejnpadgbdhaaaGreatDoor.answerReads
#print axioms Go.Proofs.YtmejnpadgbdhaaaGreatDoor.answerReads.proved
