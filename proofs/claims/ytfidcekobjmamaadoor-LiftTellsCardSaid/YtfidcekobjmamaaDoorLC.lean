/-
  Jumps in a tree: Meet and Far.
-/
import Derived.Test.YtfidcekobjmamaaDoorLB
namespace Go.Proofs.YtfidcekobjmamaaDoor
set_option linter.unusedVariables false
set_option linter.unusedSimpArgs false
set_option linter.unnecessarySimpa false
open Go.Hp Go.RowKit
attribute [local irreducible] Go.Hp.iteB Go.Hp.stC Go.Hp.newP

/-- What is known of a table of a right tree. -/
structure TK (h0 : Base) (Z : Rws) (z : LT) (n : Nat) (up w : List Int) (D : Nat → Int) : Prop where
  ht : Tab h0.heap
  lt : LTk h0 Z z n w D (jK up w)
  hn : n ≤ 4096
  hrs : n ≤ 2 ^ z.rs.length
  hr1 : 0 < z.rs.length
  hl13 : z.rs.length ≤ 13
  hD : ∀ v, v < n → ∃ d : Nat, D v = (d : Int) ∧ hasD (UU up) n d v
  one : ∀ a b : Nat, a < n → b < n → UU up a = -1 → UU up b = -1 → a = b
/-- Where two meet. -/
def IsTop (up : List Int) (u v du dv top p q : Nat) : Prop := upN (UU up) p u = top ∧ upN (UU up) q v = top ∧ p ≤ du ∧ q ≤ dv ∧ du - p = dv - q ∧ (p = 0 ∨ q = 0 ∨ upN (UU up) (p - 1) u ≠ upN (UU up) (q - 1) v)
section
variable {h0 : Base} {Z : Rws} {z : LT} {n : Nat} {up w : List Int} {D : Nat → Int}
theorem LMeet_of {K : Int → Heap → Prop} {h : Heap} {L : Int} {u v du dv : Nat} (t : TK h0 Z z n up w D) (hu : hasD (UU up) n du u) (hv : hasD (UU up) n dv v) (hL : 0 ≤ L ∧ L ≤ 1000) (s : St h0 h ((z.t, z.row n L) :: Z))
    (hk : ∀ (top p q : Nat) h', IsTop up u v du dv top p q → St h0 h' ((z.t, z.row n L) :: Z) → K (top : Int) h') : lift_Table_Meet (some ⟨z.t, 0, none⟩) (u : Int) (v : Int) h K := by
  unfold lift_Table_Meet
  have hul := hu.lt
  have hvl := hv.lt
  refine qcallP1.of _ (fun Q hQ => Lin_of s hQ) (iteB_neg (by rw [decide_eq_true ⟨by omega, by omega⟩]; rfl) (qcallP1.of _ (fun Q hQ => Lin_of s hQ) (iteB_neg (by rw [decide_eq_true ⟨by omega, by omega⟩]; rfl) ?_)))
  have r0 := s.rd0
  simp only [LT.row] at r0
  simp -zeta (disch := omega) only [chkP_some, iteB_true, iteB_false, add_mk, Nat.zero_add, Nat.add_zero, Nat.mul_one, Nat.reduceAdd, Int.toNat_natCast, ex_int, ex_slice, ex_ptr, ex_bool, ex_str, ex_flt, ex_any, bnd_in, List.getElem?_cons_zero, List.getElem?_cons_succ, List.set_cons_zero, List.set_cons_succ, List.cons_append, List.nil_append, bne_self_eq_false, beq_self_eq_true, Bool.not_true, Bool.not_false, Option.isNone_some, Option.isNone_none, eq_self, true_and, and_true, and_self, r0]
  refine callP2.self (meet_of t.ht t.lt t.hn t.hrs t.hr1 t.hl13 t.hD t.one hu hv s (bb := 12) (by omega) (by have := hu.lt_n; have := t.hn; omega) (by have := hv.lt_n; have := t.hn; omega) hL fun top p q le h2 L2 e1 e2 e3 e4 e5 e6 _ _ _ _ s2 => ?_)
  try simp -zeta only [chkP_some, iteB_true, iteB_false, add_mk, Nat.zero_add, Nat.add_zero, Nat.mul_one, Nat.reduceAdd, Int.toNat_natCast, ex_int, ex_slice, ex_ptr, ex_bool, ex_str, ex_flt, ex_any, bnd_in, List.getElem?_cons_zero, List.getElem?_cons_succ, List.set_cons_zero, List.set_cons_succ, List.cons_append, List.nil_append, bne_self_eq_false, beq_self_eq_true, Bool.not_true, Bool.not_false, Option.isNone_some, Option.isNone_none, eq_self, true_and, and_true, and_self]
  exact s2.st0 (by simp [LT.row]) fun h3 s3 => hk top p q h3 ⟨e1, e2, e3, e4, e5, e6⟩ s3
theorem LFar_of {K : Int → Heap → Prop} {h : Heap} {L : Int} {u v du dv : Nat} (t : TK h0 Z z n up w D) (hu : hasD (UU up) n du u) (hv : hasD (UU up) n dv v) (hL : 0 ≤ L ∧ L ≤ 1000) (s : St h0 h ((z.t, z.row n L) :: Z))
    (hk : ∀ (top p q : Nat) h', IsTop up u v du dv top p q → St h0 h' ((z.t, z.row n L) :: Z) → K ((p + q : Nat) : Int) h') : lift_Table_Far (some ⟨z.t, 0, none⟩) (u : Int) (v : Int) h K := by
  unfold lift_Table_Far
  refine callP1.self (LMeet_of t hu hv hL s fun top p q h2 it s2 => iteB_neg (decide_eq_false (by omega)) ?_)
  obtain ⟨e1, e2, e3, e4, e5, e6⟩ := it
  have htop := hu.upN e3
  rw [e1] at htop
  have Dd : ∀ {x d : Nat}, hasD (UU up) n d x → D x = (d : Int) := fun {x d} hx => by
    obtain ⟨d', e, hd⟩ := t.hD x hx.lt
    rw [e, hd.uniq hx]
  have r0 := s2.rd0
  simp only [LT.row] at r0
  have gu := dep_cell t.lt s2 hu.lt
  have gv := dep_cell t.lt s2 hv.lt
  have gt := dep_cell t.lt s2 htop.lt
  rw [Dd hu] at gu
  rw [Dd hv] at gv
  rw [Dd htop] at gt
  have b1 := hu.lt
  have b2 := hv.lt
  have b3 := htop.lt
  have b4 := hu.lt_n
  have b5 := hv.lt_n
  have hn := t.hn
  simp -zeta (disch := omega) only [chkP_some, iteB_true, iteB_false, add_mk, Nat.zero_add, Nat.add_zero, Nat.mul_one, Nat.reduceAdd, Int.toNat_natCast, ex_int, ex_slice, ex_ptr, ex_bool, ex_str, ex_flt, ex_any, bnd_in, List.getElem?_cons_zero, List.getElem?_cons_succ, List.set_cons_zero, List.set_cons_succ, List.cons_append, List.nil_append, bne_self_eq_false, beq_self_eq_true, Bool.not_true, Bool.not_false, Option.isNone_some, Option.isNone_none, eq_self, true_and, and_true, and_self, r0, gu, gv, gt]
  refine bindV_intro fun x hx => ?_
  rw [wrap64 (x := (du : Int) + (dv : Int)) (by omega) (by omega), wrap64 (x := 2 * ((du - p : Nat) : Int)) (by omega) (by omega), wrap64 (by omega) (by omega)] at hx
  have hx : x = ((p + q : Nat) : Int) := by rw [hx]; omega
  rw [hx]
  exact hk top p q h2 ⟨e1, e2, e3, e4, e5, e6⟩ s2
end
end Go.Proofs.YtfidcekobjmamaaDoor
