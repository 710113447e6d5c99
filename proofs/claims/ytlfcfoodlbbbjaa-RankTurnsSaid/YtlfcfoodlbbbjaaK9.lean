/-
  Ranks: a list in an order.
-/
import Derived.Test.YtlfcfoodlbbbjaaK8
namespace Go.Proofs.Ytlfcfoodlbbbjaa
set_option linter.unusedVariables false
set_option linter.unusedSimpArgs false
set_option linter.unnecessarySimpa false
open Go.Hp Go.RowKit
attribute [local irreducible] Go.Hp.iteB Go.Hp.stC Go.Hp.newP

def appF (p l : List Int) (k : Nat) : Int := l.getD (p.getD k 0).toNat 0
section
variable {h0 : Heap} {R : Rws}
theorem app_l0 {K2 : Heap → Prop} {qp ql : Option Addr} {n c c2 b cc : Nat} {p l : List Int} (ho : IsOrd p) (hl : p.length = n) (hll : l.length = n) (hn : n ≤ 2 ^ 20) (kp : Keeps h0 R qp (p.map (Value.int .i64))) (kl : Keeps h0 R ql (l.map (Value.int .i64))) (hk : ∀ h', St h0 h' ((b, ints n (appF p l)) :: R) → K2 h') :
    ∀ (d i : Nat) (h : Heap), i + d = n → St h0 h ((b, ints n fun k => if k < i then appF p l k else 0) :: R) → rank_Apply.l0 K2 (d + 1) ql n c2 ⟨b, 0, none⟩ n cc qp n c (n : Int) (i : Int) h
  | 0, i, h, hi, s => by
    unfold rank_Apply.l0 rank_Apply.b0
    have hin : i = n := by omega
    subst hin
    rw [ints_congr (g := appF p l) fun x hx => if_pos hx] at s
    exact iteB_neg (decide_eq_false (by omega)) (hk h s)
  | d + 1, i, h, hi, s => by
    unfold rank_Apply.l0 rank_Apply.b0
    obtain ⟨v, hv⟩ := get_lt (l := p) (i := i) (by omega)
    have gv : (p.map (Value.int .i64))[i]? = some (.int .i64 v) := by simp [hv]
    have hr := ho.1 v (List.mem_of_getElem? hv)
    obtain ⟨z, rfl⟩ := Int.eq_ofNat_of_zero_le hr.1
    have e1 : appF p l i = l.getD z 0 := by
      unfold appF
      rw [List.getD_eq_getElem?_getD (l := p), hv]; rfl
    have gl : (l.map (Value.int .i64))[z]? = some (.int .i64 (appF p l i)) := by rw [e1]; simp [List.getD, show z < l.length by omega]
    have vp := kp.at1 (X := [(b, ints n fun k => if k < i then appF p l k else 0)]) s
    have vl := kl.at1 (X := [(b, ints n fun k => if k < i then appF p l k else 0)]) s
    refine iteB_pos (decide_eq_true (by omega)) ?_
    simp -zeta (disch := omega) only [chkP_some, iteB_true, iteB_false, add_mk, Nat.zero_add, Nat.add_zero, Nat.mul_one, Nat.reduceAdd, Int.toNat_natCast, ex_int, ex_slice, ex_ptr, ex_bool, ex_str, ex_flt, ex_any, bnd_in, List.getElem?_cons_zero, List.getElem?_cons_succ, List.set_cons_zero, List.set_cons_succ, List.cons_append, List.nil_append, bne_self_eq_false, beq_self_eq_true, Bool.not_true, Bool.not_false, Option.isNone_some, Option.isNone_none, eq_self, true_and, and_true, and_self, vals_int vp gv, vals_int vl gl]
    refine s.st0 (by rw [ints_length]; omega) fun h2 s2 => ?_
    rw [ints_set, ints_congr (g := fun k => if k < i + 1 then appF p l k else 0) fun x hx => ?_] at s2
    · rw [wrap64 (by omega) (by omega)]
      exact app_l0 ho hl hll hn kp kl hk d (i + 1) h2 (by omega) s2
    · unfold Hp.upd
      by_cases c : x = i
      · subst c; simp
      · rw [if_neg c]
        by_cases c2 : x < i
        · simp [c2, show x < i + 1 by omega]
        · simp [c2, show ¬ x < i + 1 by omega]
end
end Go.Proofs.Ytlfcfoodlbbbjaa
