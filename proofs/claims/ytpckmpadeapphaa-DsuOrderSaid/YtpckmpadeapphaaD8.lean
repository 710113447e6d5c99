/-
  Classes that are joined: the laws.
-/
import Derived.Test.YtpckmpadeapphaaD7
namespace Go.Proofs.Ytpckmpadeapphaa
set_option linter.unusedVariables false
set_option linter.unusedSimpArgs false
set_option linter.unnecessarySimpa false
open Go.Hp Go.RowKit
attribute [local irreducible] Go.Hp.iteB Go.Hp.stC Go.Hp.newP

section
variable {h0 : Base} {R : Rws} {C : Nat → Nat} {z : DS} {a : DA} {n c : Nat} {q : Option Addr}
theorem awake_of {h : Heap} {K : Bool → Heap → Prop} (s : St h0 h R) (hk : ∀ h', St h0 h' R → K true h') : straitlaw10_awake h K := by
  unfold straitlaw10_awake
  refine callP1.self (DNew_of (n := 4) s fun a h1 s1 => ?_)
  have e4 : roomN 4 = 4 := rfl
  rw [e4] at s1
  refine iteB_pos rfl (callP1.self (DJoin_of (DInv.new (n := 4) (by omega)) s1 fun h2 z2 n2 iv2 s2 => ?_))
  obtain ⟨C2, e2⟩ : ∃ C2, C2 = joinC (fun v => v) 4 2 1 := ⟨_, rfl⟩
  have n2 : z2.n = 4 := n2
  refine iteB_pos (by decide) (callP1.self (DJoin_of iv2 s2 fun h3 z3 n3 iv3 s3 => ?_))
  rw [n2] at n3 iv3
  refine iteB_pos (by rw [n2]; decide) (callP1.self (DJoin_of iv3 s3 fun h4 z4 n4 iv4 s4 => ?_))
  rw [n3] at n4 iv4
  refine iteB_pos (by rw [n3]; decide) (callP1.self (DOf_of iv4 s4 fun h5 U5 iv5 s5 => ?_))
  refine iteB_pos (by rw [n4]; decide) (qcallP1.of _ (fun Q hQ => DCount_of s5 hQ) ?_)
  have hc : z4.cnt = 2 := by rw [iv4.cnt, n4]; decide
  refine iteB_pos (by rw [show ({ z4 with up := U5 } : DS).cnt = z4.cnt from rfl, hc]; rfl) (callP1.self (DSize_of iv5 s5 fun h6 U6 iv6 s6 => ?_))
  have := hk h6 s6.drop
  rw [show ({ z4 with up := U5 } : DS).n = 4 from n4]
  exact this

theorem Same_of {h : Heap} {v : Int} {Y : Rws} {K : Bool → Heap → Prop} (iv : DInv z C) (hn : z.n = n) (kq : Keeps h0 Y q (intN n C)) (hY : ∀ x ∈ Y, x ∈ R) (s : St h0 h (z.rows a ++ R))
    (hk : ∀ h' U, DInv { z with up := U } C → St h0 h' (({ z with up := U } : DS).rows a ++ R) → K true h') : straitlaw10_same (some ⟨a.b, 0, none⟩) q n c v h K := by
  unfold straitlaw10_same
  have hb := iv.n
  refine s.new_ fun b h1 s1 => iteB_pos rfl ?_
  have s1 : St h0 h1 (z.rows a ++ (b, [.slice q n c]) :: R) := (St.re s1 (by intro a; simp only [cntR_append, cntR_cons, cntR_nil, List.cons_append, List.nil_append, List.set_cons_zero, List.set_cons_succ]; omega))
  refine qcallP1.of (z.n : Int) (fun Q hQ => DRoom_of s1 hQ) ?_
  have r1 : ∀ j, cell h1 ⟨b, j, none⟩ = [Value.slice q n c][j]? := s1.rd (by simp)
  simp -zeta (disch := omega) only [chkP_some, iteB_true, iteB_false, add_mk, Nat.zero_add, Nat.add_zero, Nat.mul_one, Nat.reduceAdd, Int.toNat_natCast, ex_int, ex_slice, ex_ptr, ex_bool, ex_str, ex_flt, ex_any, bnd_in, List.getElem?_cons_zero, List.getElem?_cons_succ, List.set_cons_zero, List.set_cons_succ, List.cons_append, List.nil_append, bne_self_eq_false, beq_self_eq_true, Bool.not_true, Bool.not_false, Option.isNone_some, Option.isNone_none, eq_self, true_and, and_true, and_self, r1]
  refine iteB_pos (by rw [hn]; simp) ?_
  refine callP1.self (DOf_of iv s1 fun h2 U2 iv2 s2 => ?_)
  have r2 : ∀ j, cell h2 ⟨b, j, none⟩ = [Value.slice q n c][j]? := s2.rd (by simp)
  simp -zeta (disch := omega) only [chkP_some, iteB_true, iteB_false, add_mk, Nat.zero_add, Nat.add_zero, Nat.mul_one, Nat.reduceAdd, Int.toNat_natCast, ex_int, ex_slice, ex_ptr, ex_bool, ex_str, ex_flt, ex_any, bnd_in, List.getElem?_cons_zero, List.getElem?_cons_succ, List.set_cons_zero, List.set_cons_succ, List.cons_append, List.nil_append, bne_self_eq_false, beq_self_eq_true, Bool.not_true, Bool.not_false, Option.isNone_some, Option.isNone_none, eq_self, true_and, and_true, and_self, r2]
  refine callP1.self (ROf_of (n := n) (C := C) (kq.sub fun x hx => by simp [hY x hx]) s2 fun h3 s3 => ?_)
  have r3 : ∀ j, cell h3 ⟨b, j, none⟩ = [Value.slice q n c][j]? := s3.rd (by simp)
  refine iteB_pos (by rw [hn]; simp) ?_
  simp -zeta (disch := omega) only [chkP_some, iteB_true, iteB_false, add_mk, Nat.zero_add, Nat.add_zero, Nat.mul_one, Nat.reduceAdd, Int.toNat_natCast, ex_int, ex_slice, ex_ptr, ex_bool, ex_str, ex_flt, ex_any, bnd_in, List.getElem?_cons_zero, List.getElem?_cons_succ, List.set_cons_zero, List.set_cons_succ, List.cons_append, List.nil_append, bne_self_eq_false, beq_self_eq_true, Bool.not_true, Bool.not_false, Option.isNone_some, Option.isNone_none, eq_self, true_and, and_true, and_self, r3]
  refine callP1.self (DSize_of iv2 s3 fun h4 U4 iv4 s4 => ?_)
  have r4 : ∀ j, cell h4 ⟨b, j, none⟩ = [Value.slice q n c][j]? := s4.rd (by simp)
  simp -zeta (disch := omega) only [chkP_some, iteB_true, iteB_false, add_mk, Nat.zero_add, Nat.add_zero, Nat.mul_one, Nat.reduceAdd, Int.toNat_natCast, ex_int, ex_slice, ex_ptr, ex_bool, ex_str, ex_flt, ex_any, bnd_in, List.getElem?_cons_zero, List.getElem?_cons_succ, List.set_cons_zero, List.set_cons_succ, List.cons_append, List.nil_append, bne_self_eq_false, beq_self_eq_true, Bool.not_true, Bool.not_false, Option.isNone_some, Option.isNone_none, eq_self, true_and, and_true, and_self, r4]
  refine callP1.self (RSize_of (n := n) (C := C) (by omega) (kq.sub fun x hx => by simp [hY x hx]) s4 fun h5 s5 => ?_)
  have r5 : ∀ j, cell h5 ⟨b, j, none⟩ = [Value.slice q n c][j]? := s5.rd (by simp)
  refine iteB_pos (by rw [show ({ z with up := U2 } : DS).n = n from hn]; simp) ?_
  refine qcallP1.of _ (fun Q hQ => DCount_of s5 hQ) ?_
  simp -zeta (disch := omega) only [chkP_some, iteB_true, iteB_false, add_mk, Nat.zero_add, Nat.add_zero, Nat.mul_one, Nat.reduceAdd, Int.toNat_natCast, ex_int, ex_slice, ex_ptr, ex_bool, ex_str, ex_flt, ex_any, bnd_in, List.getElem?_cons_zero, List.getElem?_cons_succ, List.set_cons_zero, List.set_cons_succ, List.cons_append, List.nil_append, bne_self_eq_false, beq_self_eq_true, Bool.not_true, Bool.not_false, Option.isNone_some, Option.isNone_none, eq_self, true_and, and_true, and_self, r5]
  refine callP3.self (RList_of (n := n) (C := C) (by omega) (kq.sub fun x hx => by simp [hY x hx]) s5 fun h6 qo co qs Y2 _ _ s6 => ?_)
  have e : (((({ z with up := U4 } : DS).cnt : Nat) : Int) == ((clsL C n).length : Int)) = true := by
    rw [show ({ z with up := U4 } : DS).cnt = z.cnt from rfl, iv.cnt, clsL_len, hn]; simp
  rw [e]
  exact hk h6 U4 iv4 ((St.re s6 (by intro a; simp only [cntR_append, cntR_cons, cntR_nil, List.cons_append, List.nil_append, List.set_cons_zero, List.set_cons_succ]; omega)))
end
end Go.Proofs.Ytpckmpadeapphaa
