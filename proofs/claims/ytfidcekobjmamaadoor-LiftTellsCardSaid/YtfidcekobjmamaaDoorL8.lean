/-
  Jumps in a tree: in, Depth, Up.
-/
import Derived.Test.YtfidcekobjmamaaDoorL7
namespace Go.Proofs.YtfidcekobjmamaaDoor
set_option linter.unusedVariables false
set_option linter.unusedSimpArgs false
set_option linter.unnecessarySimpa false
open Go.Hp Go.RowKit
attribute [local irreducible] Go.Hp.iteB Go.Hp.stC Go.Hp.newP

abbrev inL (v : Int) (n : Nat) : Prop := 0 ≤ v ∧ v < (n : Int)
section
variable {h0 : Base} {Z : Rws} {z : LT} {n : Nat} {up w : List Int} {D : Nat → Int}
theorem LN_of {K : Int → Heap → Prop} {h : Heap} {L : Int} (s : St h0 h ((z.t, z.row n L) :: Z)) (hk : K n h) : lift_Table_N (some ⟨z.t, 0, none⟩) h K := by
  unfold lift_Table_N
  have r0 := s.rd0
  simp only [LT.row] at r0
  refine iteB_neg rfl ?_
  simp -zeta (disch := omega) only [chkP_some, iteB_true, iteB_false, add_mk, Nat.zero_add, Nat.add_zero, Nat.mul_one, Nat.reduceAdd, Int.toNat_natCast, ex_int, ex_slice, ex_ptr, ex_bool, ex_str, ex_flt, ex_any, bnd_in, List.getElem?_cons_zero, List.getElem?_cons_succ, List.set_cons_zero, List.set_cons_succ, List.cons_append, List.nil_append, bne_self_eq_false, beq_self_eq_true, Bool.not_true, Bool.not_false, Option.isNone_some, Option.isNone_none, eq_self, true_and, and_true, and_self, r0]
  exact hk
theorem Lin_of {K : Bool → Heap → Prop} {h : Heap} {L v : Int} (s : St h0 h ((z.t, z.row n L) :: Z)) (hk : K (decide (inL v n)) h) : lift_Table_in (some ⟨z.t, 0, none⟩) v h K := by
  unfold lift_Table_in
  refine iteB_intro (fun c => qcallP1.of _ (fun Q hQ => LN_of s hQ) ?_) (fun c => ?_)
  · have c := of_decide_eq_true c
    rwa [show decide (inL v n) = decide (v < (n : Int)) from decide_eq_decide.2 ⟨fun h => h.2, fun h => ⟨by omega, h⟩⟩] at hk
  · have c := of_decide_eq_false c
    rwa [decide_eq_false (fun h : inL v n => c h.1)] at hk
theorem dep_cell {J : Nat → Nat → Int × Int} (lt : LTk h0 Z z n w D J) {h : Heap} {L : Int} (s : St h0 h ((z.t, z.row n L) :: Z)) {v : Nat} (hv : v < n) : cell h ⟨z.bd, v, none⟩ = some (.int .i64 (D v)) := by
  obtain ⟨x, hx, hc⟩ := (lt.kd.atC s) v _ (ints_get (f := D) hv); cases hx; rw [add_mk, Nat.zero_add] at hc; exact hc
theorem Depth_of {J : Nat → Nat → Int × Int} {K : Int → Heap → Prop} {h : Heap} {L v : Int} (lt : LTk h0 Z z n w D J) (s : St h0 h ((z.t, z.row n L) :: Z)) (hk : K (if inL v n then D v.toNat else -1) h) : lift_Table_Depth (some ⟨z.t, 0, none⟩) v h K := by
  unfold lift_Table_Depth
  refine qcallP1.of _ (fun Q hQ => Lin_of s hQ) ?_
  by_cases c : inL v n
  · rw [if_pos c] at hk
    obtain ⟨k, rfl⟩ : ∃ k : Nat, v = k := ⟨v.toNat, by omega⟩
    refine iteB_neg (by rw [decide_eq_true c]; rfl) ?_
    have r0 := s.rd0
    simp only [LT.row] at r0
    have g := dep_cell lt s (v := k) (by omega)
    simp -zeta (disch := omega) only [chkP_some, iteB_true, iteB_false, add_mk, Nat.zero_add, Nat.add_zero, Nat.mul_one, Nat.reduceAdd, Int.toNat_natCast, ex_int, ex_slice, ex_ptr, ex_bool, ex_str, ex_flt, ex_any, bnd_in, List.getElem?_cons_zero, List.getElem?_cons_succ, List.set_cons_zero, List.set_cons_succ, List.cons_append, List.nil_append, bne_self_eq_false, beq_self_eq_true, Bool.not_true, Bool.not_false, Option.isNone_some, Option.isNone_none, eq_self, true_and, and_true, and_self, r0, g]
    exact hk
  · rw [if_neg c] at hk
    exact iteB_pos (by rw [decide_eq_false c]; rfl) hk
/-- So many steps up, or -1. -/
def upI (up : List Int) (n : Nat) (D : Nat → Int) (v k : Int) : Int := if inL v n ∧ 0 ≤ k ∧ k ≤ D v.toNat then (upN (UU up) k.toNat v.toNat : Int) else -1
theorem Up_of {K : Int → Heap → Prop} {h : Heap} {L v k : Int} (ht : Tab h0.heap) (lt : LTk h0 Z z n w D (jK up w)) (hn : n ≤ 4096) (hrs : n ≤ 2 ^ z.rs.length) (hD : ∀ v, v < n → ∃ d : Nat, D v = (d : Int) ∧ hasD (UU up) n d v)
    (s : St h0 h ((z.t, z.row n L) :: Z)) (hk : ∀ h', St h0 h' ((z.t, z.row n L) :: Z) → K (upI up n D v k) h') : lift_Table_Up (some ⟨z.t, 0, none⟩) v k h K := by
  unfold lift_Table_Up
  have no : ¬ (inL v n ∧ 0 ≤ k ∧ k ≤ D v.toNat) → K (-1) h := fun c => by have := hk h s; unfold upI at this; rw [if_neg c] at this; exact this
  refine qcallP1.of _ (fun Q hQ => Lin_of s hQ) ?_
  by_cases c : inL v n
  · obtain ⟨a, rfl⟩ : ∃ k : Nat, v = k := ⟨v.toNat, by omega⟩
    refine iteB_neg (by rw [decide_eq_true c]; rfl) (iteB_intro (fun d => no (fun h => absurd h.2.1 (by have := of_decide_eq_true d; omega))) (fun d => ?_))
    have d := of_decide_eq_false d
    have r0 := s.rd0
    simp only [LT.row] at r0
    have g := dep_cell lt s (v := a) (by omega)
    simp -zeta (disch := omega) only [chkP_some, iteB_true, iteB_false, add_mk, Nat.zero_add, Nat.add_zero, Nat.mul_one, Nat.reduceAdd, Int.toNat_natCast, ex_int, ex_slice, ex_ptr, ex_bool, ex_str, ex_flt, ex_any, bnd_in, List.getElem?_cons_zero, List.getElem?_cons_succ, List.set_cons_zero, List.set_cons_succ, List.cons_append, List.nil_append, bne_self_eq_false, beq_self_eq_true, Bool.not_true, Bool.not_false, Option.isNone_some, Option.isNone_none, eq_self, true_and, and_true, and_self, r0, g]
    refine iteB_intro (fun e => no (fun h => absurd h.2.2 (by have := of_decide_eq_true e; rw [Int.toNat_natCast]; omega))) (fun e => ?_)
    have e := of_decide_eq_false e
    obtain ⟨dd, e1, hd⟩ := hD a (by omega)
    obtain ⟨b, rfl⟩ : ∃ b : Nat, k = b := ⟨k.toNat, by omega⟩
    refine callP2.self ?_
    unfold lift_Table_climb
    refine ⟨b + 1, climb_all (least0 := 0) (tv := 0) (tl := 0) ht lt hn hrs (b + 1) b dd a (-1) L h (by omega) hd (by omega) (by omega) (by omega) s fun h2 L2 s2 => ?_⟩
    try simp -zeta only [chkP_some, iteB_true, iteB_false, add_mk, Nat.zero_add, Nat.add_zero, Nat.mul_one, Nat.reduceAdd, Int.toNat_natCast, ex_int, ex_slice, ex_ptr, ex_bool, ex_str, ex_flt, ex_any, bnd_in, List.getElem?_cons_zero, List.getElem?_cons_succ, List.set_cons_zero, List.set_cons_succ, List.cons_append, List.nil_append, bne_self_eq_false, beq_self_eq_true, Bool.not_true, Bool.not_false, Option.isNone_some, Option.isNone_none, eq_self, true_and, and_true, and_self]
    refine s2.st0 (by simp [LT.row]) fun h3 s3 => ?_
    have := hk h3 s3
    unfold upI at this
    rw [if_pos ⟨c, by omega, by rw [Int.toNat_natCast]; omega⟩, Int.toNat_natCast, Int.toNat_natCast] at this
    exact this
  · exact iteB_pos (by rw [decide_eq_false c]; rfl) (no (fun h => c h.1))
end
end Go.Proofs.YtfidcekobjmamaaDoor
