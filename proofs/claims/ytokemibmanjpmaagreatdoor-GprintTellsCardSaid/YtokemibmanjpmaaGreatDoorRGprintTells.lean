/- PROVED HERE: the statement 'GprintTellsCardSaid' of the seat: the Go function strait/straitlaw18.GprintTells returns true, whatever the input, and leaves memory that was there as it was. No condition. -/
import Derived.Test.YtokemibmanjpmaaGreatDoorTie
import Derived.Test.YtokemibmanjpmaaGreatDoorCards
import Derived.LaidMore
import Derived.Lay
import Derived.SevenTiedAt
import Derived.Stop.Joined
import Derived.Test.YtokemibmanjpmaaGreatDoorPM
import Derived.Test.YtokemibmanjpmaaGreatDoorRd
import Derived.WalkKit
import Derived.ProofKit
import Derived.OpenShut
import Derived.ShutString
import Derived.ChangeOld
import Derived.Below
namespace Go.Proofs.YtokemibmanjpmaaGreatDoor.gprintTells
open Go.Hp
set_option linter.unusedSimpArgs false
set_option linter.unusedVariables false
open Go.ChangeShapes Go.WideShapes Go.ChangeAt Go.RowKit

theorem own : ownKnob Tryz.prog.godebug = none := by kernel_rfl
theorem laidOut : laidOutB Tryz.prog = true := by kernel_rfl

theorem walk (a0 : Int) (a1 : Option Addr) (a1l a1c : Nat) (w : World) (n0 : Nat) (r0 : Rd Tryz.prog w.heap n0 5 [.int .u8 a0]) (n1 : Nat) (r1 : Rd Tryz.prog w.heap n1 41 [.slice a1 a1l a1c]) (hl : TabP w.heap) :
    Calls Tryz.prog 7 #[.int .u8 a0, .slice a1 a1l a1c] w fun e w' => e = .returned (.bool true) ∧ Below w.heap.size w w' := by
  obtain ⟨x0, he0, w0⟩ := r0.int (k := .u8) Tryz.underlying5
  obtain rfl : a0 = x0 := by simpa using he0
  have ha : 0 ≤ a0 ∧ a0 ≤ 255 := wf_u8 w0
  obtain ⟨n8, rfl⟩ : ∃ n8 : Nat, a0 = n8 := ⟨a0.toNat, by omega⟩
  obtain ⟨hc1, hc2, l, m, hlE, hr, hcs⟩ := r1.rows Tryz.underlying41
  have c3 : Program.cellsOf Tryz.prog 27 = 3 := by kernel_rfl
  rw [c3] at hr
  obtain ⟨es, rfl, hw⟩ := exists_map (l := l) (f := Ed.vs) (Q := fun e => True) (fun cs hc => by
    obtain ⟨xs, hx, rfl, hwf⟩ := (hcs cs hc).2.intStruct Tryz.underlying27 (by kernel_rfl) (by kernel_rfl)
    obtain ⟨a, b, c, rfl⟩ := list3 (show xs.length = 3 from hx)
    exact ⟨(a, b, c), rfl, trivial⟩)
  exact law_calls straitlaw18_GprintTells.ret_elim (straitlaw18_GprintTells.calls (tells_law (by omega) (by simpa using hlE) (eV_rows hr) hl fun h' e => ⟨rfl, e⟩) w rfl).2

set_option maxRecDepth 100000 in
theorem lifted (os : Os) (started : os.Started) (H : Type) (enc : TypeId × Value → H) :
    ReturnsInHanded {} Tryz.checked os 7 .any (fun w args => (Rows.gprintTellsSpec.pre enc Tryz.prog Tryz.f7 Rows.gprintTellsRow.domain false w args ∧ laidMetH Tryz.prog Rows.gprintTellsRow.laid w) ∧ sizedMet enc Tryz.prog Tryz.f7 (OpenSpec.ofChange Rows.gprintTellsSpec) false w args) (Rows.gprintTellsSpec.post enc Tryz.prog Tryz.f7 false true false false) := by
  refine returnsInHanded_of_change_and (C := Tryz.checked) (X := fun w _ => laidMetH Tryz.prog Rows.gprintTellsRow.laid w) (fun _ _ _ hh h => h.of_heap hh) own started (by kernel_rfl) Tryz.func7
    (ChangeSpec.witness_shaped (enc := enc) (C := Tryz.checked) (os := os) (X := fun w _ => laidMetH Tryz.prog Rows.gprintTellsRow.laid w) false (World.laidAll Tryz.prog os Rows.gprintTellsRow.laid) #[.int .u8 0, .slice none 0 0] 8 (World.laidAll_os _ _ _)
      (World.shaped_of_ZipB (by kernel_rfl) (by kernel_rfl)) (by kernel_rfl) (by kernel_rfl) (by kernel_rfl)
      (by rw [MakeChecks.laidMetH_plain _ _ _ (by kernel_rfl)]; exact laidMet_laidAll _ (by kernel_rfl) (by kernel_rfl))) ?_
  intro W base args ds gs before hval0 hW hcnd _ hL _
  have hval : ∀ (j : Nat) t v, Tryz.f7.params[j]? = some t → args[j]? = some v → Value.okWide Tryz.prog W .any base t v := hval0
  have hW' := hW
  obtain ⟨p, q, hA0, hV, rfl, hfz, hnd⟩ := hW
  have hA : DataW.TrodAll enc Tryz.prog W 0 (fun _ => true) true Tryz.f7.params.toList args.toList ds p := hA0
  rw [Tryz.params7] at hA hval
  obtain ⟨v0, vs0, d0, ds0, p0, q0, hargs0, rfl, rfl, h0, r0_⟩ := trodAll_cons hA
  obtain ⟨v1, vs1, d1, ds1, p1, q1, hargs1, rfl, rfl, h1, r1_⟩ := trodAll_cons r0_
  obtain ⟨he_, rfl, rfl⟩ := trodAll_nil r1_
  obtain rfl : args = #[v0, v1] := by cases args; simp_all
  obtain ⟨rfl, rfl⟩ := trodVars_none hV
  have k0 := h0
  have lt0 : ∀ x ∈ p0, x.block < W.heap.size := by obtain ⟨m, hm⟩ := k0; exact DataW.trod_lt m _ _ _ hm
  have k1 := h1
  have lt1 : ∀ x ∈ p1, x.block < W.heap.size := by obtain ⟨m, hm⟩ := k1; exact DataW.trod_lt m _ _ _ hm
  obtain ⟨a0, rfl⟩ := okWide_int Tryz.underlying5 (hval 0 5 v0 rfl rfl)
  obtain ⟨n0, r0⟩ : ∃ n, Rd Tryz.prog W.heap n 5 [.int .u8 a0] := by obtain ⟨m, hm⟩ := h0; exact ⟨m, rd_of_trod hm⟩
  obtain ⟨a1, a1l, a1c, rfl⟩ := okWide_slice Tryz.underlying41 (hval 1 41 v1 rfl rfl)
  obtain ⟨n1, r1⟩ : ∃ n, Rd Tryz.prog W.heap n 41 [.slice a1 a1l a1c] := by obtain ⟨m, hm⟩ := h1; exact ⟨m, rd_of_trod hm⟩
  clear hA0 hval0
  refine (walk a0 a1 a1l a1c W n0 r0 n1 r1 (tab_of hL)).mono fun e W' ⟨he, bel⟩ => ?_
  subst he
  exact ⟨_, rfl, _, _, _, [], _, [], hW', trodAll_mk1 (shut_bool Tryz.underlying4 _), (trodAll_cons_mk (Below.trod laidOut (by kernel_rfl) (of_decide_eq_true (by kernel_rfl)) k0 bel lt0) (trodAll_cons_mk (Below.trod laidOut (by kernel_rfl) (of_decide_eq_true (by kernel_rfl)) k1 bel lt1) trodAll_mk0)), rfl, bel.frame _, fun h => by cases h⟩

theorem over : Rows.gprintTellsRow.holds Tryz.pinned (OpenSpec.ofChange Rows.gprintTellsSpec) :=
  OpenClaim.holds_of_wide 7 Tryz.f7 rfl rfl rfl rfl rfl rfl rfl ⟨rfl, rfl, rfl, rfl, rfl⟩ rfl rfl rfl rfl rfl (by kernel_rfl) Tryz.func7 (by kernel_rfl)
    (of_decide_eq_true (by kernel_rfl)) (by unfold Func.isWrapper; first | (rw [if_pos (by decide +kernel)]; kernel_rfl) | (rw [if_neg (by decide +kernel)]; exact ⟨rfl, rfl⟩))
    (fun os started H enc _ => lifted os started H enc)

/-- The statement. -/
theorem proved : Rows.GprintTellsCardSaid :=
  Claim7.holds_tied_plain_at .later [] [.data, .data, .data] true (true, "c5edb92c99b7e40986120bc0446757fefa6657334a2d4b2a0417b2e7e2993fc6") true over (fun _ h => by cases h) (by kernel_rfl) (fun _ h => by cases h) gprintTells_row_tie rfl ⟨rfl, rfl⟩ (by kernel_rfl) rfl
    (fun f fn hf hfn => by
      obtain rfl : f = 7 := Option.some.inj ((show Tryz.prog.funcNamed "strait/straitlaw18.GprintTells" = some 7 by kernel_rfl).symm.trans hf) |>.symm
      obtain rfl : fn = Tryz.f7 := (Option.some.inj (Tryz.func7.symm.trans hfn)).symm
      exact ⟨by kernel_rfl, fun j t ht => by
        rw [Tryz.params7] at ht
        have hall : (([5, 41] : List TypeId).all fun u => !Tryz.prog.wantsStandIn u) = true := by kernel_rfl
        have hm : t ∈ ([5, 41] : List TypeId) := by simpa using Array.mem_of_getElem? ht
        exact (show Tryz.prog.wantsStandIn t = false by simpa using List.all_eq_true.1 hall t hm)⟩)
    (by kernel_rfl)
end Go.Proofs.YtokemibmanjpmaaGreatDoor.gprintTells
#print axioms Go.Proofs.YtokemibmanjpmaaGreatDoor.gprintTells.proved
