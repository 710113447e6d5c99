/-
  Jumps in a tree: awake; how many looks at the most.
-/
import Derived.Test.YtfidcekobjmamaaDoorL5
namespace Go.Proofs.YtfidcekobjmamaaDoor
set_option linter.unusedVariables false
set_option linter.unusedSimpArgs false
set_option linter.unnecessarySimpa false
open Go.Hp Go.RowKit
attribute [local irreducible] Go.Hp.iteB Go.Hp.stC Go.Hp.newP

def upA : List Int := [-1, 0, 1, 2]
def wA : List Int := [0, 3, 1, 2]
theorem hasA : ∀ v, v < 4 → hasD (fun v => upA.getD v 0) 4 v v
  | 0, _ => ⟨by omega, rfl⟩
  | 1, _ => ⟨by omega, 0, rfl, by omega, rfl⟩
  | 2, _ => ⟨by omega, 1, rfl, by omega, 0, rfl, by omega, rfl⟩
  | 3, _ => ⟨by omega, 2, rfl, by omega, 1, rfl, by omega, 0, rfl, by omega, rfl⟩
  | n + 4, h => by omega
theorem rightA : RightT upA wA := by
  refine ⟨rfl, by decide, ?_, by decide, fun v hv => ⟨v, hasA v hv⟩⟩
  intro v hv
  have hv : v < 4 := hv
  rcases (by omega : v = 0 ∨ v = 1 ∨ v = 2 ∨ v = 3) with rfl | rfl | rfl | rfl <;> decide
theorem tz1 : tz 1 = 0 := tz_odd rfl
theorem tz3 : tz 3 = 0 := tz_odd rfl
theorem tz2 : tz 2 = 1 := by rw [tz_even (by decide) rfl, show 2 / 2 = 1 from rfl, tz1]

section
variable {h0 : Base} {Z : Rws} {z : LT} {D : Nat → Int}
theorem climb_end {K2 : Int → Int → Heap → Prop} {h : Heap} {m : Nat} {a : Option Addr} {v least : Int} (hk : K2 v least h) : lift_Table_climb.l0 K2 (m + 1) a v 0 least h := by
  unfold lift_Table_climb.l0 lift_Table_climb.b0
  exact iteB_neg rfl hk
theorem climb1 {K : Int → Int → Heap → Prop} {h : Heap} {L : Int} (ht : Tab h0.heap) (lt : LTk h0 Z z 4 wA D (jK upA wA)) (hl : 2 ≤ z.rs.length) (s : St h0 h ((z.t, z.row 4 L) :: Z)) (hk : ∀ h' L', St h0 h' ((z.t, z.row 4 L') :: Z) → K 2 3 h') : lift_Table_climb (some ⟨z.t, 0, none⟩) 3 1 (-1) h K := by
  unfold lift_Table_climb
  obtain ⟨r0, hr0⟩ := get_lt (l := z.rs) (i := 0) (by omega)
  refine ⟨2, climb_step (v := 3) (st := 1) (r := r0) ht lt (by omega) (by omega) (by omega) (by omega) (by rw [tz1]; exact hr0) (by decide) (by rw [tz1]; decide) s fun h2 s2 => ?_⟩
  rw [tz1, show jK upA wA 0 3 = (2, 3) by decide, show ((1 &&& (1 - 1) : Nat) : Int) = 0 by decide, show betW wA (-1) ((2, 3) : Int × Int).2 = 3 by decide]
  exact climb_end (hk h2 _ s2)
theorem climb2 {K : Int → Int → Heap → Prop} {h : Heap} {L : Int} (ht : Tab h0.heap) (lt : LTk h0 Z z 4 wA D (jK upA wA)) (hl : 2 ≤ z.rs.length) (s : St h0 h ((z.t, z.row 4 L) :: Z)) (hk : ∀ h' L', St h0 h' ((z.t, z.row 4 L') :: Z) → K 1 2 h') : lift_Table_climb (some ⟨z.t, 0, none⟩) 3 2 (-1) h K := by
  unfold lift_Table_climb
  obtain ⟨r1, hr1⟩ := get_lt (l := z.rs) (i := 1) (by omega)
  refine ⟨2, climb_step (v := 3) (st := 2) (r := r1) ht lt (by omega) (by omega) (by omega) (by omega) (by rw [tz2]; exact hr1) (by decide) (by rw [tz2]; decide) s fun h2 s2 => ?_⟩
  rw [tz2, show jK upA wA 1 3 = (1, 2) by decide, show ((2 &&& (2 - 1) : Nat) : Int) = 0 by decide, show betW wA (-1) ((1, 2) : Int × Int).2 = 2 by decide]
  exact climb_end (hk h2 _ s2)
theorem climb3 {K : Int → Int → Heap → Prop} {h : Heap} {L : Int} (ht : Tab h0.heap) (lt : LTk h0 Z z 4 wA D (jK upA wA)) (hl : 2 ≤ z.rs.length) (s : St h0 h ((z.t, z.row 4 L) :: Z)) (hk : ∀ h' L', St h0 h' ((z.t, z.row 4 L') :: Z) → K 0 2 h') : lift_Table_climb (some ⟨z.t, 0, none⟩) 3 3 (-1) h K := by
  unfold lift_Table_climb
  obtain ⟨r0, hr0⟩ := get_lt (l := z.rs) (i := 0) (by omega)
  obtain ⟨r1, hr1⟩ := get_lt (l := z.rs) (i := 1) (by omega)
  refine ⟨3, climb_step (v := 3) (st := 3) (r := r0) ht lt (by omega) (by omega) (by omega) (by omega) (by rw [tz3]; exact hr0) (by decide) (by rw [tz3]; decide) s fun h2 s2 => ?_⟩
  rw [tz3, show jK upA wA 0 3 = (2, 3) by decide, show ((3 &&& (3 - 1) : Nat) : Int) = ((2 : Nat) : Int) by decide, show betW wA (-1) ((2, 3) : Int × Int).2 = 3 by decide]
  refine climb_step (v := 2) (st := 2) (r := r1) ht lt (by omega) (by omega) (by omega) (by omega) (by rw [tz2]; exact hr1) (by decide) (by rw [tz2]; decide) s2 fun h3 s3 => ?_
  rw [tz2, show jK upA wA 1 2 = (0, 2) by decide, show ((2 &&& (2 - 1) : Nat) : Int) = 0 by decide, show betW wA 3 ((0, 2) : Int × Int).2 = 2 by decide]
  exact climb_end (hk h3 _ s3)
theorem meet_c {K : Int → Int → Heap → Prop} {h : Heap} {L le : Int} {a b : Nat} (hab : a < b) (hb : b < 4) (hD : ∀ v, v < 4 → D v = (v : Int)) (lt : LTk h0 Z z 4 wA D (jK upA wA)) (s : St h0 h ((z.t, z.row 4 L) :: Z))
    (hc : ∀ (K2 : Int → Int → Heap → Prop), (∀ h' L', St h0 h' ((z.t, z.row 4 L') :: Z) → K2 (a : Int) le h') → lift_Table_climb (some ⟨z.t, 0, none⟩) (b : Int) ((b - a : Nat) : Int) (-1) h K2)
    (hk : ∀ h' L', St h0 h' ((z.t, z.row 4 L') :: Z) → K (a : Int) le h') : lift_Table_meet (some ⟨z.t, 0, none⟩) (a : Int) (b : Int) h K := by
  unfold lift_Table_meet
  have r0 := s.rd0
  simp only [LT.row] at r0
  have vd := lt.kd.atC s
  have ga := fun {G : Int → Prop} => vals_int (G := G) vd (ints_get (f := D) (show a < 4 by omega))
  have gb := fun {G : Int → Prop} => vals_int (G := G) vd (ints_get (f := D) (show b < 4 by omega))
  have ga2 : ∀ {G : Int → Prop}, (∃ y : Int, cell h ⟨z.bd, a, none⟩ = some (.int .i64 y) ∧ G y) = G (a : Int) := fun {G} => by
    have := ga (G := G); rw [chkP_some, add_mk, Nat.zero_add, hD a (by omega)] at this; exact this
  have gb2 : ∀ {G : Int → Prop}, (∃ y : Int, cell h ⟨z.bd, b, none⟩ = some (.int .i64 y) ∧ G y) = G (b : Int) := fun {G} => by
    have := gb (G := G); rw [chkP_some, add_mk, Nat.zero_add, hD b (by omega)] at this; exact this
  have ca : cell h ⟨z.bd, a, none⟩ = some (.int .i64 (a : Int)) := by
    obtain ⟨x, hx, hc⟩ := vd a _ (ints_get (f := D) (show a < 4 by omega)); cases hx; rw [add_mk, Nat.zero_add, hD a (by omega)] at hc; exact hc
  have cb : cell h ⟨z.bd, b, none⟩ = some (.int .i64 (b : Int)) := by
    obtain ⟨x, hx, hc⟩ := vd b _ (ints_get (f := D) (show b < 4 by omega)); cases hx; rw [add_mk, Nat.zero_add, hD b (by omega)] at hc; exact hc
  intro j
  have J : j (b : Int) (a : Int) := by
    simp -zeta only [j]
    refine ⟨_, _, _, r0 1, ⟨by omega, by omega⟩, (b : Int), ?_, _, _, _, r0 1, ⟨by omega, by omega⟩, (a : Int), ?_, ?_⟩
    · show cell h ((⟨z.bd, 0, none⟩ : Addr).add ((b : Int).toNat * 1)) = _
      rw [add_mk, Int.toNat_natCast, Nat.mul_one, Nat.zero_add]; exact cb
    · show cell h ((⟨z.bd, 0, none⟩ : Addr).add ((a : Int).toNat * 1)) = _
      rw [add_mk, Int.toNat_natCast, Nat.mul_one, Nat.zero_add]; exact ca
    rw [show IntKind.i64.wrap ((b : Int) - (a : Int)) = ((b - a : Nat) : Int) by rw [wrap64 (by omega) (by omega)]; omega]
    exact callP2.self (hc _ fun h2 L2 s2 => iteB_pos (by simp) (hk h2 L2 s2))
  clear_value j
  simp -zeta (disch := omega) only [chkP_some, iteB_true, iteB_false, add_mk, Nat.zero_add, Nat.add_zero, Nat.mul_one, Nat.reduceAdd, Int.toNat_natCast, ex_int, ex_slice, ex_ptr, ex_bool, ex_str, ex_flt, ex_any, bnd_in, List.getElem?_cons_zero, List.getElem?_cons_succ, List.set_cons_zero, List.set_cons_succ, List.cons_append, List.nil_append, bne_self_eq_false, beq_self_eq_true, Bool.not_true, Bool.not_false, Option.isNone_some, Option.isNone_none, eq_self, true_and, and_true, and_self, r0, ga2, gb2]
  exact iteB_pos (decide_eq_true (by omega)) J
theorem N_of {K : Int → Heap → Prop} {h : Heap} {L : Int} (s : St h0 h ((z.t, z.row 4 L) :: Z)) (hk : K 4 h) : lift_Table_N (some ⟨z.t, 0, none⟩) h K := by
  unfold lift_Table_N
  have r0 := s.rd0
  simp only [LT.row] at r0
  refine iteB_neg rfl ?_
  simp -zeta (disch := omega) only [chkP_some, iteB_true, iteB_false, add_mk, Nat.zero_add, Nat.add_zero, Nat.mul_one, Nat.reduceAdd, Int.toNat_natCast, ex_int, ex_slice, ex_ptr, ex_bool, ex_str, ex_flt, ex_any, bnd_in, List.getElem?_cons_zero, List.getElem?_cons_succ, List.set_cons_zero, List.set_cons_succ, List.cons_append, List.nil_append, bne_self_eq_false, beq_self_eq_true, Bool.not_true, Bool.not_false, Option.isNone_some, Option.isNone_none, eq_self, true_and, and_true, and_self, r0]
  exact hk
theorem in_of4 {K : Bool → Heap → Prop} {h : Heap} {L v : Int} (s : St h0 h ((z.t, z.row 4 L) :: Z)) (hv : 0 ≤ v ∧ v < 4) (hk : K true h) : lift_Table_in (some ⟨z.t, 0, none⟩) v h K := by
  unfold lift_Table_in
  refine iteB_pos (decide_eq_true (by omega)) (qcallP1.of _ (fun Q hQ => N_of s hQ) ?_)
  rw [decide_eq_true (by omega)]; exact hk
theorem Meet_c {K : Int → Heap → Prop} {h : Heap} {L le : Int} {a b : Nat} (hab : a < b) (hb : b < 4) (hD : ∀ v, v < 4 → D v = (v : Int)) (lt : LTk h0 Z z 4 wA D (jK upA wA)) (s : St h0 h ((z.t, z.row 4 L) :: Z))
    (hc : ∀ (K2 : Int → Int → Heap → Prop), (∀ h' L', St h0 h' ((z.t, z.row 4 L') :: Z) → K2 (a : Int) le h') → lift_Table_climb (some ⟨z.t, 0, none⟩) (b : Int) ((b - a : Nat) : Int) (-1) h K2)
    (hk : ∀ h' L', St h0 h' ((z.t, z.row 4 L') :: Z) → K (a : Int) h') : lift_Table_Meet (some ⟨z.t, 0, none⟩) (a : Int) (b : Int) h K := by
  unfold lift_Table_Meet
  refine qcallP1.of _ (fun Q hQ => in_of4 s ⟨by omega, by omega⟩ hQ) (iteB_neg rfl (qcallP1.of _ (fun Q hQ => in_of4 s ⟨by omega, by omega⟩ hQ) (iteB_neg rfl ?_)))
  have r0 := s.rd0
  simp only [LT.row] at r0
  simp -zeta (disch := omega) only [chkP_some, iteB_true, iteB_false, add_mk, Nat.zero_add, Nat.add_zero, Nat.mul_one, Nat.reduceAdd, Int.toNat_natCast, ex_int, ex_slice, ex_ptr, ex_bool, ex_str, ex_flt, ex_any, bnd_in, List.getElem?_cons_zero, List.getElem?_cons_succ, List.set_cons_zero, List.set_cons_succ, List.cons_append, List.nil_append, bne_self_eq_false, beq_self_eq_true, Bool.not_true, Bool.not_false, Option.isNone_some, Option.isNone_none, eq_self, true_and, and_true, and_self, r0]
  refine callP2.self (meet_c (le := le) hab hb hD lt s hc fun h2 L2 s2 => ?_)
  try simp -zeta only [chkP_some, iteB_true, iteB_false, add_mk, Nat.zero_add, Nat.add_zero, Nat.mul_one, Nat.reduceAdd, Int.toNat_natCast, ex_int, ex_slice, ex_ptr, ex_bool, ex_str, ex_flt, ex_any, bnd_in, List.getElem?_cons_zero, List.getElem?_cons_succ, List.set_cons_zero, List.set_cons_succ, List.cons_append, List.nil_append, bne_self_eq_false, beq_self_eq_true, Bool.not_true, Bool.not_false, Option.isNone_some, Option.isNone_none, eq_self, true_and, and_true, and_self]
  exact s2.st0 (by simp [LT.row]) fun h3 s3 => hk h3 L s3
end

theorem awake_of {h : Heap} {K : Bool → Heap → Prop} (ht : Tab h) (hk : ∀ h', Ext h h' → K true h') : straitlaw32_awake h K := by
  unfold straitlaw32_awake
  refine St.new_ (cs := upA.map (Value.int .i64)) (St.refl h) fun b1 h1 s1 => St.new_ (cs := wA.map (Value.int .i64)) s1 fun b2 h2 s2 => ?_
  refine callP2.self (New_of (up := upA) (w := wA) rfl rfl (Keeps.row (b := b1) (by simp)) (Keeps.row (b := b2) (by simp)) s2 (fun no => absurd rightA no) (fun _ rs q c t qw cw bd Z D h3 lt hD l1 l2 l3 s3 => ?_))
  have hD4 : ∀ v, v < 4 → D v = (v : Int) := fun v hv => by
    obtain ⟨d, e, hd⟩ := hD v hv
    have := hd.uniq (hasA v hv)
    rw [e, this]
  have l4 : 2 ≤ rs.length := by
    rcases (by omega : rs.length = 1 ∨ 2 ≤ rs.length) with e | e
    · rw [e] at l2; omega
    · exact e
  have ht0 : Tab (h : Base).heap := ht
  -- Least
  refine callP2.self ?_
  unfold lift_Table_Least
  refine iteB_neg rfl ?_
  simp -zeta only [chkP_some, iteB_true, iteB_false, add_mk, Nat.zero_add, Nat.add_zero, Nat.mul_one, Nat.reduceAdd, Int.toNat_natCast, ex_int, ex_slice, ex_ptr, ex_bool, ex_str, ex_flt, ex_any, bnd_in, List.getElem?_cons_zero, List.getElem?_cons_succ, List.set_cons_zero, List.set_cons_succ, List.cons_append, List.nil_append, bne_self_eq_false, beq_self_eq_true, Bool.not_true, Bool.not_false, Option.isNone_some, Option.isNone_none, eq_self, true_and, and_true, and_self]
  refine s3.st0 (by simp [LT.row]) fun h4 s4 => ?_
  have s4 : St (h : Base) h4 ((t, LT.row ⟨t, qw, cw, bd, q, c, rs⟩ 4 0) :: Z) := s4
  refine qcallP1.of _ (fun Q hQ => in_of4 (z := ⟨t, qw, cw, bd, q, c, rs⟩) s4 ⟨by omega, by omega⟩ hQ) (iteB_neg rfl (qcallP1.of _ (fun Q hQ => in_of4 (z := ⟨t, qw, cw, bd, q, c, rs⟩) s4 ⟨by omega, by omega⟩ hQ) (iteB_neg rfl ?_)))
  refine callP2.self (meet_c (z := ⟨t, qw, cw, bd, q, c, rs⟩) (a := 0) (b := 3) (le := 2) (by omega) (by omega) hD4 lt s4 (fun K2 hK2 => climb3 (z := ⟨t, qw, cw, bd, q, c, rs⟩) ht0 lt l4 s4 hK2) fun h5 L5 s5 => ?_)
  refine iteB_neg rfl ?_
  -- Up
  refine callP1.self ?_
  unfold lift_Table_Up
  refine qcallP1.of _ (fun Q hQ => in_of4 (z := ⟨t, qw, cw, bd, q, c, rs⟩) s5 ⟨by omega, by omega⟩ hQ) (iteB_neg rfl (iteB_neg rfl ?_))
  have r5 := s5.rd0
  simp only [LT.row] at r5
  have vd := lt.kd.atC s5
  have g3 : cell h5 ⟨bd, 3, none⟩ = some (.int .i64 3) := by
    obtain ⟨a, ha, hc⟩ := vd 3 _ (ints_get (f := D) (show 3 < 4 by omega)); cases ha; rw [add_mk, hD4 3 (by omega)] at hc; exact hc
  simp -zeta (disch := omega) only [chkP_some, iteB_true, iteB_false, add_mk, Nat.zero_add, Nat.add_zero, Nat.mul_one, Nat.reduceAdd, Int.toNat_natCast, ex_int, ex_slice, ex_ptr, ex_bool, ex_str, ex_flt, ex_any, bnd_in, List.getElem?_cons_zero, List.getElem?_cons_succ, List.set_cons_zero, List.set_cons_succ, List.cons_append, List.nil_append, bne_self_eq_false, beq_self_eq_true, Bool.not_true, Bool.not_false, Option.isNone_some, Option.isNone_none, eq_self, true_and, and_true, and_self, r5, g3, Int.reduceToNat]
  refine iteB_neg rfl ?_
  refine callP2.self (climb2 (z := ⟨t, qw, cw, bd, q, c, rs⟩) ht0 lt l4 s5 fun h6 L6 s6 => ?_)
  try simp -zeta only [chkP_some, iteB_true, iteB_false, add_mk, Nat.zero_add, Nat.add_zero, Nat.mul_one, Nat.reduceAdd, Int.toNat_natCast, ex_int, ex_slice, ex_ptr, ex_bool, ex_str, ex_flt, ex_any, bnd_in, List.getElem?_cons_zero, List.getElem?_cons_succ, List.set_cons_zero, List.set_cons_succ, List.cons_append, List.nil_append, bne_self_eq_false, beq_self_eq_true, Bool.not_true, Bool.not_false, Option.isNone_some, Option.isNone_none, eq_self, true_and, and_true, and_self]
  refine s6.st0 (by simp [LT.row]) fun h7 s7 => ?_
  have s7 : St (h : Base) h7 ((t, LT.row ⟨t, qw, cw, bd, q, c, rs⟩ 4 L5) :: Z) := s7
  -- Meet
  refine callP1.self (Meet_c (z := ⟨t, qw, cw, bd, q, c, rs⟩) (a := 2) (b := 3) (le := 3) (by omega) (by omega) hD4 lt s7 (fun K2 hK2 => climb1 (z := ⟨t, qw, cw, bd, q, c, rs⟩) ht0 lt l4 s7 hK2) fun h8 L8 s8 => ?_)
  refine iteB_pos rfl ?_
  -- Far
  refine callP1.self ?_
  unfold lift_Table_Far
  refine callP1.self (Meet_c (z := ⟨t, qw, cw, bd, q, c, rs⟩) (a := 0) (b := 3) (le := 2) (by omega) (by omega) hD4 lt s8 (fun K2 hK2 => climb3 (z := ⟨t, qw, cw, bd, q, c, rs⟩) ht0 lt l4 s8 hK2) fun h9 L9 s9 => ?_)
  refine iteB_neg rfl ?_
  have r9 := s9.rd0
  simp only [LT.row] at r9
  have vd := lt.kd.atC s9
  have g3 : cell h9 ⟨bd, 3, none⟩ = some (.int .i64 3) := by
    obtain ⟨a, ha, hc⟩ := vd 3 _ (ints_get (f := D) (show 3 < 4 by omega)); cases ha; rw [add_mk, hD4 3 (by omega)] at hc; exact hc
  have g0 : cell h9 ⟨bd, 0, none⟩ = some (.int .i64 0) := by
    obtain ⟨a, ha, hc⟩ := vd 0 _ (ints_get (f := D) (show 0 < 4 by omega)); cases ha; rw [add_mk, hD4 0 (by omega)] at hc; exact hc
  simp -zeta (disch := omega) only [chkP_some, iteB_true, iteB_false, add_mk, Nat.zero_add, Nat.add_zero, Nat.mul_one, Nat.reduceAdd, Int.toNat_natCast, ex_int, ex_slice, ex_ptr, ex_bool, ex_str, ex_flt, ex_any, bnd_in, List.getElem?_cons_zero, List.getElem?_cons_succ, List.set_cons_zero, List.set_cons_succ, List.cons_append, List.nil_append, bne_self_eq_false, beq_self_eq_true, Bool.not_true, Bool.not_false, Option.isNone_some, Option.isNone_none, eq_self, true_and, and_true, and_self, r9, g3, g0, Int.reduceToNat, Int.toNat_zero, Nat.zero_mul]
  refine bindV_intro fun x hx => ?_
  have hx : x = 3 := by rw [hx]; decide
  subst hx
  exact hk h9 s9.ext

theorem LMost_of {h : Heap} {n : Int} {K : Bool → Heap → Prop} (hf : -9223372036854775808 ≤ n ∧ n ≤ 9223372036854775807) (ht : Tab h) (hk : ∀ h', Ext h h' → K true h') : straitlaw32_LiftMost n h K := by
  unfold straitlaw32_LiftMost
  refine callP2.self (LLeast_nil ?_)
  refine qcallP1.of _ (fun Q hQ => Most_of hf hQ) (qcallP1.of _ (fun Q hQ => RMost_of hf hQ) (iteB_pos (by simp) ?_))
  refine qcallP1.of _ (fun Q hQ => LN_nil hQ) (iteB_pos rfl (qcallP1.of _ (fun Q hQ => LDepth_nil hQ) (iteB_pos rfl ?_)))
  refine callP1.self (LUp_nil (iteB_pos rfl (callP1.self (LMeet_nil (iteB_pos rfl (iteB_pos rfl (callP1.self (LFar_nil (iteB_pos rfl ?_)))))))))
  refine qcallP1.of _ (fun Q hQ => LLooks_nil hQ) (iteB_pos rfl ?_)
  exact callP1.self (awake_of ht hk)
end Go.Proofs.YtfidcekobjmamaaDoor
