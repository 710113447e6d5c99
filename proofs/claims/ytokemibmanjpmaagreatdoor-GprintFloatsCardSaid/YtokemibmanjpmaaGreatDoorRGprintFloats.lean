/- PROVED HERE: the statement 'GprintFloatsCardSaid' of the seat: the Go function strait/straitlaw18.GprintFloats returns true, whatever the input, and leaves memory that was there as it was. No condition. -/
import Derived.Test.YtokemibmanjpmaaGreatDoorTie
import Derived.Test.YtokemibmanjpmaaGreatDoorCards
import Derived.LaidMore
import Derived.Lay
import Derived.SevenTiedAt
import Derived.Stop.Joined
import Derived.Test.YtokemibmanjpmaaGreatDoorPM
import Derived.Test.YtokemibmanjpmaaGreatDoorRd
import Derived.WalkKit
import Derived.ProofKit
import Derived.OpenShut
import Derived.ShutString
import Derived.ChangeOld
import Derived.Below
namespace Go.Proofs.YtokemibmanjpmaaGreatDoor.gprintFloats
open Go.Hp
set_option linter.unusedSimpArgs false
set_option linter.unusedVariables false
open Go.ChangeShapes Go.WideShapes Go.ChangeAt Go.RowKit

theorem own : ownKnob Tryz.prog.godebug = none := by kernel_rfl
theorem laidOut : laidOutB Tryz.prog = true := by kernel_rfl

theorem walk (a0 : Int) (a1 : Option Addr) (a1l a1c : Nat) (a2 : Option Addr) (a2l a2c : Nat) (w : World) (n0 : Nat) (r0 : Rd Tryz.prog w.heap n0 3 [.int .i64 a0]) (n1 : Nat) (r1 : Rd Tryz.prog w.heap n1 41 [.slice a1 a1l a1c]) (n2 : Nat) (r2 : Rd Tryz.prog w.heap n2 51 [.slice a2 a2l a2c]) (hl : TabP w.heap) :
    Calls Tryz.prog 6 #[.int .i64 a0, .slice a1 a1l a1c, .slice a2 a2l a2c] w fun e w' => e = .returned (.bool true) ∧ Below w.heap.size w w' := by
  obtain ⟨x0, he0, w0⟩ := r0.int (k := .i64) Tryz.underlying3
  obtain rfl : a0 = x0 := by simpa using he0
  obtain ⟨hc1, hc2, l, m, hlE, hr, hcs⟩ := r1.rows Tryz.underlying41
  have c3 : Program.cellsOf Tryz.prog 27 = 3 := by kernel_rfl
  rw [c3] at hr
  obtain ⟨es, rfl, hw⟩ := exists_map (l := l) (f := Ed.vs) (Q := fun e => True) (fun cs hc => by
    obtain ⟨xs, hx, rfl, hwf⟩ := (hcs cs hc).2.intStruct Tryz.underlying27 (by kernel_rfl) (by kernel_rfl)
    obtain ⟨a, b, c, rfl⟩ := list3 (show xs.length = 3 from hx)
    exact ⟨(a, b, c), rfl, trivial⟩)
  obtain ⟨g1, g2, lS, hlS, vS, wS⟩ := r2.ints (k := .u64) Tryz.underlying51 Tryz.underlying55 (by kernel_rfl)
  obtain ⟨bs, rfl, hbs⟩ := nats_of wS
  exact law_calls straitlaw18_GprintFloats.ret_elim (straitlaw18_GprintFloats.calls (floats_law (bs := bs) (by simpa using hlE) (by simpa using hlS) hbs (eV_rows hr) (by rw [List.map_map] at vS; exact vS) hl (in_wf w0) fun h' e => ⟨rfl, e⟩) w rfl).2

set_option maxRecDepth 100000 in
theorem lifted (os : Os) (started : os.Started) (H : Type) (enc : TypeId × Value → H) :
    ReturnsInHanded {} Tryz.checked os 6 .any (fun w args => (Rows.gprintFloatsSpec.pre enc Tryz.prog Tryz.f6 Rows.gprintFloatsRow.domain false w args ∧ laidMetH Tryz.prog Rows.gprintFloatsRow.laid w) ∧ sizedMet enc Tryz.prog Tryz.f6 (OpenSpec.ofChange Rows.gprintFloatsSpec) false w args) (Rows.gprintFloatsSpec.post enc Tryz.prog Tryz.f6 false true false false) := by
  refine returnsInHanded_of_change_and (C := Tryz.checked) (X := fun w _ => laidMetH Tryz.prog Rows.gprintFloatsRow.laid w) (fun _ _ _ hh h => h.of_heap hh) own started (by kernel_rfl) Tryz.func6
    (ChangeSpec.witness_shaped (enc := enc) (C := Tryz.checked) (os := os) (X := fun w _ => laidMetH Tryz.prog Rows.gprintFloatsRow.laid w) false (World.laidAll Tryz.prog os Rows.gprintFloatsRow.laid) #[.int .i64 0, .slice none 0 0, .slice none 0 0] 8 (World.laidAll_os _ _ _)
      (World.shaped_of_ZipB (by kernel_rfl) (by kernel_rfl)) (by kernel_rfl) (by kernel_rfl) (by kernel_rfl)
      (by rw [MakeChecks.laidMetH_plain _ _ _ (by kernel_rfl)]; exact laidMet_laidAll _ (by kernel_rfl) (by kernel_rfl))) ?_
  intro W base args ds gs before hval0 hW hcnd _ hL _
  have hval : ∀ (j : Nat) t v, Tryz.f6.params[j]? = some t → args[j]? = some v → Value.okWide Tryz.prog W .any base t v := hval0
  have hW' := hW
  obtain ⟨p, q, hA0, hV, rfl, hfz, hnd⟩ := hW
  have hA : DataW.TrodAll enc Tryz.prog W 0 (fun _ => true) true Tryz.f6.params.toList args.toList ds p := hA0
  rw [Tryz.params6] at hA hval
  obtain ⟨v0, vs0, d0, ds0, p0, q0, hargs0, rfl, rfl, h0, r0_⟩ := trodAll_cons hA
  obtain ⟨v1, vs1, d1, ds1, p1, q1, hargs1, rfl, rfl, h1, r1_⟩ := trodAll_cons r0_
  obtain ⟨v2, vs2, d2, ds2, p2, q2, hargs2, rfl, rfl, h2, r2_⟩ := trodAll_cons r1_
  obtain ⟨he_, rfl, rfl⟩ := trodAll_nil r2_
  obtain rfl : args = #[v0, v1, v2] := by cases args; simp_all
  obtain ⟨rfl, rfl⟩ := trodVars_none hV
  have k0 := h0
  have lt0 : ∀ x ∈ p0, x.block < W.heap.size := by obtain ⟨m, hm⟩ := k0; exact DataW.trod_lt m _ _ _ hm
  have k1 := h1
  have lt1 : ∀ x ∈ p1, x.block < W.heap.size := by obtain ⟨m, hm⟩ := k1; exact DataW.trod_lt m _ _ _ hm
  have k2 := h2
  have lt2 : ∀ x ∈ p2, x.block < W.heap.size := by obtain ⟨m, hm⟩ := k2; exact DataW.trod_lt m _ _ _ hm
  obtain ⟨a0, rfl⟩ := okWide_int Tryz.underlying3 (hval 0 3 v0 rfl rfl)
  obtain ⟨n0, r0⟩ : ∃ n, Rd Tryz.prog W.heap n 3 [.int .i64 a0] := by obtain ⟨m, hm⟩ := h0; exact ⟨m, rd_of_trod hm⟩
  obtain ⟨a1, a1l, a1c, rfl⟩ := okWide_slice Tryz.underlying41 (hval 1 41 v1 rfl rfl)
  obtain ⟨n1, r1⟩ : ∃ n, Rd Tryz.prog W.heap n 41 [.slice a1 a1l a1c] := by obtain ⟨m, hm⟩ := h1; exact ⟨m, rd_of_trod hm⟩
  obtain ⟨a2, a2l, a2c, rfl⟩ := okWide_slice Tryz.underlying51 (hval 2 51 v2 rfl rfl)
  obtain ⟨n2, r2⟩ : ∃ n, Rd Tryz.prog W.heap n 51 [.slice a2 a2l a2c] := by obtain ⟨m, hm⟩ := h2; exact ⟨m, rd_of_trod hm⟩
  clear hA0 hval0
  refine (walk a0 a1 a1l a1c a2 a2l a2c W n0 r0 n1 r1 n2 r2 (tab_of hL)).mono fun e W' ⟨he, bel⟩ => ?_
  subst he
  exact ⟨_, rfl, _, _, _, [], _, [], hW', trodAll_mk1 (shut_bool Tryz.underlying4 _), (trodAll_cons_mk (Below.trod laidOut (by kernel_rfl) (of_decide_eq_true (by kernel_rfl)) k0 bel lt0) (trodAll_cons_mk (Below.trod laidOut (by kernel_rfl) (of_decide_eq_true (by kernel_rfl)) k1 bel lt1) (trodAll_cons_mk (Below.trod laidOut (by kernel_rfl) (of_decide_eq_true (by kernel_rfl)) k2 bel lt2) trodAll_mk0))), rfl, bel.frame _, fun h => by cases h⟩

theorem over : Rows.gprintFloatsRow.holds Tryz.pinned (OpenSpec.ofChange Rows.gprintFloatsSpec) :=
  OpenClaim.holds_of_wide 6 Tryz.f6 rfl rfl rfl rfl rfl rfl rfl ⟨rfl, rfl, rfl, rfl, rfl⟩ rfl rfl rfl rfl rfl (by kernel_rfl) Tryz.func6 (by kernel_rfl)
    (of_decide_eq_true (by kernel_rfl)) (by unfold Func.isWrapper; first | (rw [if_pos (by decide +kernel)]; kernel_rfl) | (rw [if_neg (by decide +kernel)]; exact ⟨rfl, rfl⟩))
    (fun os started H enc _ => lifted os started H enc)

/-- The statement. -/
theorem proved : Rows.GprintFloatsCardSaid :=
  Claim7.holds_tied_plain_at .later [] [.data, .data, .data] true (true, "c5edb92c99b7e40986120bc0446757fefa6657334a2d4b2a0417b2e7e2993fc6") true over (fun _ h => by cases h) (by kernel_rfl) (fun _ h => by cases h) gprintFloats_row_tie rfl ⟨rfl, rfl⟩ (by kernel_rfl) rfl
    (fun f fn hf hfn => by
      obtain rfl : f = 6 := Option.some.inj ((show Tryz.prog.funcNamed "strait/straitlaw18.GprintFloats" = some 6 by kernel_rfl).symm.trans hf) |>.symm
      obtain rfl : fn = Tryz.f6 := (Option.some.inj (Tryz.func6.symm.trans hfn)).symm
      exact ⟨by kernel_rfl, fun j t ht => by
        rw [Tryz.params6] at ht
        have hall : (([3, 41, 51] : List TypeId).all fun u => !Tryz.prog.wantsStandIn u) = true := by kernel_rfl
        have hm : t ∈ ([3, 41, 51] : List TypeId) := by simpa using Array.mem_of_getElem? ht
        exact (show Tryz.prog.wantsStandIn t = false by simpa using List.all_eq_true.1 hall t hm)⟩)
    (by kernel_rfl)
end Go.Proofs.YtokemibmanjpmaaGreatDoor.gprintFloats
#print axioms Go.Proofs.YtokemibmanjpmaaGreatDoor.gprintFloats.proved
