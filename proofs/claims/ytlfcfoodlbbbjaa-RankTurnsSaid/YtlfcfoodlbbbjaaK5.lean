/-
  Ranks: the inverse of a list, the program's.
-/
import Derived.Test.YtlfcfoodlbbbjaaK4
namespace Go.Proofs.Ytlfcfoodlbbbjaa
set_option linter.unusedVariables false
set_option linter.unusedSimpArgs false
set_option linter.unnecessarySimpa false
open Go.Hp Go.RowKit
attribute [local irreducible] Go.Hp.iteB Go.Hp.stC Go.Hp.newP

def IsOrd (p : List Int) : Prop := (∀ x ∈ p, 0 ≤ x ∧ x < (p.length : Int)) ∧ p.Nodup
/-- Where each one stands among the first i, or -1. -/
def invF (p : List Int) (i x : Nat) : Int := if (x : Int) ∈ p.take i then (((p.take i).idxOf (x : Int) : Nat) : Int) else -1
theorem invF_next {p : List Int} {i z : Nat} (hz : p[i]? = some (z : Int)) (hn : (z : Int) ∉ p.take i) (x : Nat) : invF p (i + 1) x = upd (invF p i) z (i : Int) x := by
  have hi := lt_get hz
  unfold Hp.upd invF
  rw [take_snoc hz]
  by_cases c : x = z
  · subst c
    rw [if_pos rfl, if_pos (by simp), List.idxOf_append, if_neg hn]
    simp; omega
  · rw [if_neg c]
    have c' : ¬ (x : Int) = (z : Int) := by omega
    by_cases m : (x : Int) ∈ p.take i
    · rw [if_pos m, if_pos (by simp [m]), List.idxOf_append, if_pos m]
    · rw [if_neg m, if_neg (by simp [m, c'])]

section
variable {h0 : Heap} {R : Rws}
theorem inv_l1 {K0 : Option Addr → Nat → Nat → Bool → Heap → Prop} {K4 : Heap → Prop} {q : Option Addr} {n c b cc : Nat} {p : List Int} (hl : p.length = n) (hn : n ≤ 2 ^ 20) (kq : Keeps h0 R q (p.map (Value.int .i64)))
    (hk0 : ¬ IsOrd p → ∀ h', St h0 h' R → K0 none 0 0 false h') (hk : IsOrd p → ∀ h', St h0 h' ((b, ints n (invF p n)) :: R) → K4 h') :
    ∀ (d i : Nat) (h : Heap), i + d = n → (∀ x ∈ p.take i, 0 ≤ x ∧ x < (n : Int)) → (p.take i).Nodup → St h0 h ((b, ints n (invF p i)) :: R) →
      rank_Inverse.l1 K0 K4 (d + 1) q n c ⟨b, 0, none⟩ n cc q n c (n : Int) (i : Int) h
  | 0, i, h, hi, hr, hd, s => by
    unfold rank_Inverse.l1 rank_Inverse.b1
    have hin : i = n := by omega
    subst hin
    rw [List.take_of_length_le (by omega)] at hr hd
    exact iteB_neg (decide_eq_false (by omega)) (hk ⟨by rw [hl]; exact hr, hd⟩ h s)
  | d + 1, i, h, hi, hr, hd, s => by
    unfold rank_Inverse.l1 rank_Inverse.b1
    obtain ⟨v, hv⟩ := get_lt (l := p) (i := i) (by omega)
    have gv : (p.map (Value.int .i64))[i]? = some (.int .i64 v) := by simp [hv]
    have vq := kq.at1 (X := [(b, ints n (invF p i))]) s
    have vm := List.mem_of_getElem? hv
    refine iteB_pos (decide_eq_true (by omega)) ?_
    simp -zeta (disch := omega) only [chkP_some, iteB_true, iteB_false, add_mk, Nat.zero_add, Nat.add_zero, Nat.mul_one, Nat.reduceAdd, Int.toNat_natCast, ex_int, ex_slice, ex_ptr, ex_bool, ex_str, ex_flt, ex_any, bnd_in, List.getElem?_cons_zero, List.getElem?_cons_succ, List.set_cons_zero, List.set_cons_succ, List.cons_append, List.nil_append, bne_self_eq_false, beq_self_eq_true, Bool.not_true, Bool.not_false, Option.isNone_some, Option.isNone_none, eq_self, true_and, and_true, and_self, vals_int vq gv]
    refine iteB_intro (fun e => hk0 (fun h => ?_) h s.tail) (fun e => ?_)
    · have := (h.1 v vm).1; have := of_decide_eq_true e; omega
    have e := of_decide_eq_false e
    refine iteB_intro (fun e => hk0 (fun h => ?_) h s.tail) (fun e2 => ?_)
    · have := (h.1 v vm).2; have := of_decide_eq_true e; omega
    have e2 := of_decide_eq_false e2
    obtain ⟨z, rfl⟩ := Int.eq_ofNat_of_zero_le (show 0 ≤ v by omega)
    have gz := ints_get (n := n) (f := invF p i) (show z < n by omega)
    simp -zeta (disch := omega) only [chkP_some, iteB_true, iteB_false, add_mk, Nat.zero_add, Nat.add_zero, Nat.mul_one, Nat.reduceAdd, Int.toNat_natCast, ex_int, ex_slice, ex_ptr, ex_bool, ex_str, ex_flt, ex_any, bnd_in, List.getElem?_cons_zero, List.getElem?_cons_succ, List.set_cons_zero, List.set_cons_succ, List.cons_append, List.nil_append, bne_self_eq_false, beq_self_eq_true, Bool.not_true, Bool.not_false, Option.isNone_some, Option.isNone_none, eq_self, true_and, and_true, and_self, s.rd0, gz]
    refine iteB_intro (fun e3 => hk0 (fun h => ?_) h s.tail) (fun e3 => ?_)
    · have e3 := of_decide_eq_true e3
      have m : (z : Int) ∈ p.take i := by
        unfold invF at e3; split at e3
        · assumption
        · omega
      obtain ⟨j, hj, ej⟩ := List.getElem_of_mem m
      rw [List.length_take] at hj
      rw [List.getElem_take] at ej
      have := (List.getElem_inj (h₀ := by omega) (h₁ := lt_get hv) h.2).1 (ej.trans (List.getElem?_eq_some_iff.1 hv).2.symm)
      omega
    have e3 := of_decide_eq_false e3
    have m : (z : Int) ∉ p.take i := fun m => by
      unfold invF at e3; rw [if_pos m] at e3; omega
    refine s.st0 (by rw [ints_length]; omega) fun h2 s2 => ?_
    rw [ints_set, ints_congr (g := invF p (i + 1)) fun x hx => (invF_next hv m x).symm] at s2
    rw [wrap64 (by omega) (by omega)]
    refine inv_l1 hl hn kq hk0 hk d (i + 1) h2 (by omega) (fun x hx => ?_) ?_ s2
    · rw [take_snoc hv, List.mem_append, List.mem_singleton] at hx
      rcases hx with hx | rfl
      · exact hr x hx
      · omega
    · rw [take_snoc hv]
      refine List.nodup_append.2 ⟨hd, by simp, fun a ha b hb e => ?_⟩
      simp only [List.mem_singleton] at hb
      subst hb e; exact m ha
end
end Go.Proofs.Ytlfcfoodlbbbjaa
