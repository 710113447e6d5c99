/- PROVED HERE: the statement 'VsetOfCardSaid' of the seat: the Go function strait/straitlaw09.VsetOf returns true, whatever the input, and leaves memory that was there as it was. No condition. -/
import Derived.Test.YtmojgekepkpfcaaDoorTie
import Derived.Test.YtmojgekepkpfcaaDoorCards
import Derived.LaidMore
import Derived.Lay
import Derived.SevenTiedAt
import Derived.Stop.Joined
import Derived.Test.YtmojgekepkpfcaaDoorV8
import Derived.Test.YtmojgekepkpfcaaDoorVT
import Derived.Test.YtmojgekepkpfcaaDoorRd
import Derived.WalkKit
import Derived.ProofKit
import Derived.OpenShut
import Derived.ShutString
import Derived.ChangeOld
import Derived.Below
namespace Go.Proofs.YtmojgekepkpfcaaDoor.vsetOf
open Go.Hp
set_option linter.unusedSimpArgs false
set_option linter.unusedVariables false
open Go.ChangeShapes Go.WideShapes Go.ChangeAt Go.RowKit

theorem own : ownKnob Tryd.prog.godebug = none := by kernel_rfl
theorem laidOut : laidOutB Tryd.prog = true := by kernel_rfl

theorem walk (a0_0 : Int) (a0_1 : Int) (a1 : Option Addr) (a1l a1c : Nat) (a2 : Option Addr) (a2l a2c : Nat) (w : World) (n0_0 : Nat) (r0_0 : Rd Tryd.prog w.heap n0_0 3 [.int .i64 a0_0]) (n0_1 : Nat) (r0_1 : Rd Tryd.prog w.heap n0_1 3 [.int .i64 a0_1]) (n1 : Nat) (r1 : Rd Tryd.prog w.heap n1 39 [.slice a1 a1l a1c]) (n2 : Nat) (r2 : Rd Tryd.prog w.heap n2 39 [.slice a2 a2l a2c]) (hl : Tab w.heap) :
    Calls Tryd.prog 4 #[.agg #[.int .i64 a0_0, .int .i64 a0_1], .slice a1 a1l a1c, .slice a2 a2l a2c] w fun e w' => e = .returned (.bool true) ∧ Below w.heap.size w w' := by
  obtain ⟨_, _, l1, g1, hv1, _⟩ := r1.ints Tryd.underlying39 Tryd.underlying3 (by kernel_rfl)
  obtain ⟨_, _, l2, g2, hv2, _⟩ := r2.ints Tryd.underlying39 Tryd.underlying3 (by kernel_rfl)
  exact law_calls straitlaw09_VsetOf.ret_elim (straitlaw09_VsetOf.calls (Of_of (l1 := l1) (l2 := l2) hl g1 g2 hv1 hv2 fun h' e => ⟨rfl, e⟩) w rfl).2

set_option maxRecDepth 100000 in
theorem lifted (os : Os) (started : os.Started) (H : Type) (enc : TypeId × Value → H) :
    ReturnsInHanded {} Tryd.checked os 4 .any (fun w args => (Rows.vsetOfSpec.pre enc Tryd.prog Tryd.f4 Rows.vsetOfRow.domain false w args ∧ laidMetH Tryd.prog Rows.vsetOfRow.laid w) ∧ sizedMet enc Tryd.prog Tryd.f4 (OpenSpec.ofChange Rows.vsetOfSpec) false w args) (Rows.vsetOfSpec.post enc Tryd.prog Tryd.f4 false true false false) := by
  refine returnsInHanded_of_change_and (C := Tryd.checked) (X := fun w _ => laidMetH Tryd.prog Rows.vsetOfRow.laid w) (fun _ _ _ hh h => h.of_heap hh) own started (by kernel_rfl) Tryd.func4
    (ChangeSpec.witness_shaped (enc := enc) (C := Tryd.checked) (os := os) (X := fun w _ => laidMetH Tryd.prog Rows.vsetOfRow.laid w) false (World.laidAll Tryd.prog os Rows.vsetOfRow.laid) #[.agg #[.int .i64 0, .int .i64 0], .slice none 0 0, .slice none 0 0] 8 (World.laidAll_os _ _ _)
      (World.shaped_of_ZipB (by kernel_rfl) (by kernel_rfl)) (by kernel_rfl) (by kernel_rfl) (by kernel_rfl)
      (by rw [MakeChecks.laidMetH_plain _ _ _ (by kernel_rfl)]; exact laidMet_laidAll _ (by kernel_rfl) (by kernel_rfl))) ?_
  intro W base args ds gs before hval0 hW hcnd _ hL _
  have hval : ∀ (j : Nat) t v, Tryd.f4.params[j]? = some t → args[j]? = some v → Value.okWide Tryd.prog W .any base t v := hval0
  have hW' := hW
  obtain ⟨p, q, hA0, hV, rfl, hfz, hnd⟩ := hW
  have hA : DataW.TrodAll enc Tryd.prog W 0 (fun _ => true) true Tryd.f4.params.toList args.toList ds p := hA0
  rw [Tryd.params4] at hA hval
  obtain ⟨v0, vs0, d0, ds0, p0, q0, hargs0, rfl, rfl, h0, r0_⟩ := trodAll_cons hA
  obtain ⟨v1, vs1, d1, ds1, p1, q1, hargs1, rfl, rfl, h1, r1_⟩ := trodAll_cons r0_
  obtain ⟨v2, vs2, d2, ds2, p2, q2, hargs2, rfl, rfl, h2, r2_⟩ := trodAll_cons r1_
  obtain ⟨he_, rfl, rfl⟩ := trodAll_nil r2_
  obtain rfl : args = #[v0, v1, v2] := by cases args; simp_all
  obtain ⟨rfl, rfl⟩ := trodVars_none hV
  have k0 := h0
  have lt0 : ∀ x ∈ p0, x.block < W.heap.size := by obtain ⟨m, hm⟩ := k0; exact DataW.trod_lt m _ _ _ hm
  have k1 := h1
  have lt1 : ∀ x ∈ p1, x.block < W.heap.size := by obtain ⟨m, hm⟩ := k1; exact DataW.trod_lt m _ _ _ hm
  have k2 := h2
  have lt2 : ∀ x ∈ p2, x.block < W.heap.size := by obtain ⟨m, hm⟩ := k2; exact DataW.trod_lt m _ _ _ hm
  obtain ⟨cs0, rfl, hs0⟩ := okWide_array Tryd.underlying38 (hval 0 38 v0 rfl rfl)
  obtain ⟨n0, r0⟩ : ∃ n, Rd Tryd.prog W.heap n 38 cs0.toList := by obtain ⟨m, hm⟩ := h0; exact ⟨m, rd_of_trod hm⟩
  obtain ⟨c0_0, c0_1, rfl⟩ := arr2 (xs := cs0) (by rw [hs0]; kernel_rfl)
  obtain ⟨_, m0_0, m0_0h⟩ := Rd.array r0 Tryd.underlying38
  have q0_1 : Rd Tryd.prog W.heap m0_0 3 [c0_0] := by
    have hh : Rd Tryd.prog W.heap m0_0 3 ((([c0_0, c0_1] : List Value).drop (0 * Tryd.prog.cellsOf 3)).take (Tryd.prog.cellsOf 3)) := m0_0h 0 (by decide)
    rw [show Tryd.prog.cellsOf 3 = 1 by kernel_rfl] at hh; exact hh
  have q0_2 : Rd Tryd.prog W.heap m0_0 3 [c0_1] := by
    have hh : Rd Tryd.prog W.heap m0_0 3 ((([c0_0, c0_1] : List Value).drop (1 * Tryd.prog.cellsOf 3)).take (Tryd.prog.cellsOf 3)) := m0_0h 1 (by decide)
    rw [show Tryd.prog.cellsOf 3 = 1 by kernel_rfl] at hh; exact hh
  obtain ⟨a0_0, he, _⟩ := Rd.int q0_1 Tryd.underlying3; cases he
  obtain ⟨a0_1, he, _⟩ := Rd.int q0_2 Tryd.underlying3; cases he
  obtain ⟨a1, a1l, a1c, rfl⟩ := okWide_slice Tryd.underlying39 (hval 1 39 v1 rfl rfl)
  obtain ⟨n1, r1⟩ : ∃ n, Rd Tryd.prog W.heap n 39 [.slice a1 a1l a1c] := by obtain ⟨m, hm⟩ := h1; exact ⟨m, rd_of_trod hm⟩
  obtain ⟨a2, a2l, a2c, rfl⟩ := okWide_slice Tryd.underlying39 (hval 2 39 v2 rfl rfl)
  obtain ⟨n2, r2⟩ : ∃ n, Rd Tryd.prog W.heap n 39 [.slice a2 a2l a2c] := by obtain ⟨m, hm⟩ := h2; exact ⟨m, rd_of_trod hm⟩
  clear hA0 hval0
  refine (walk a0_0 a0_1 a1 a1l a1c a2 a2l a2c W _ q0_1 _ q0_2 n1 r1 n2 r2 (tab_of_laid hL)).mono fun e W' ⟨he, bel⟩ => ?_
  subst he
  exact ⟨_, rfl, _, _, _, [], _, [], hW', trodAll_mk1 (shut_bool Tryd.underlying4 _), (trodAll_cons_mk (Below.trod laidOut (by kernel_rfl) (of_decide_eq_true (by kernel_rfl)) k0 bel lt0) (trodAll_cons_mk (Below.trod laidOut (by kernel_rfl) (of_decide_eq_true (by kernel_rfl)) k1 bel lt1) (trodAll_cons_mk (Below.trod laidOut (by kernel_rfl) (of_decide_eq_true (by kernel_rfl)) k2 bel lt2) trodAll_mk0))), rfl, bel.frame _, fun h => by cases h⟩

theorem over : Rows.vsetOfRow.holds Tryd.pinned (OpenSpec.ofChange Rows.vsetOfSpec) :=
  OpenClaim.holds_of_wide 4 Tryd.f4 rfl rfl rfl rfl rfl rfl rfl ⟨rfl, rfl, rfl, rfl, rfl⟩ rfl rfl rfl rfl rfl (by kernel_rfl) Tryd.func4 (by kernel_rfl)
    (of_decide_eq_true (by kernel_rfl)) (by unfold Func.isWrapper; first | (rw [if_pos (by decide +kernel)]; kernel_rfl) | (rw [if_neg (by decide +kernel)]; exact ⟨rfl, rfl⟩))
    (fun os started H enc _ => lifted os started H enc)

/-- The statement. -/
theorem proved : Rows.VsetOfCardSaid :=
  Claim7.holds_tied_plain_at .later [] [.data] true (true, "ca28c4a4282ef3f31e02341c52aeba7d55e4ec00ceed1db6d98787944226921f") false over (fun _ h => by cases h) (by kernel_rfl) (fun _ h => by cases h) vsetOf_row_tie rfl ⟨rfl, rfl⟩ (by kernel_rfl) rfl
    (fun f fn hf hfn => by
      obtain rfl : f = 4 := Option.some.inj ((show Tryd.prog.funcNamed "strait/straitlaw09.VsetOf" = some 4 by kernel_rfl).symm.trans hf) |>.symm
      obtain rfl : fn = Tryd.f4 := (Option.some.inj (Tryd.func4.symm.trans hfn)).symm
      exact ⟨by kernel_rfl, fun j t ht => by
        rw [Tryd.params4] at ht
        have hall : (([38, 39, 39] : List TypeId).all fun u => !Tryd.prog.wantsStandIn u) = true := by kernel_rfl
        have hm : t ∈ ([38, 39, 39] : List TypeId) := by simpa using Array.mem_of_getElem? ht
        exact (show Tryd.prog.wantsStandIn t = false by simpa using List.all_eq_true.1 hall t hm)⟩)
    (by kernel_rfl)
end Go.Proofs.YtmojgekepkpfcaaDoor.vsetOf
#print axioms Go.Proofs.YtmojgekepkpfcaaDoor.vsetOf.proved
