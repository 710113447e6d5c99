/-
  Ranks: is it an order, the document's.
-/
import Derived.Test.YtlfcfoodlbbbjaaK11
namespace Go.Proofs.Ytlfcfoodlbbbjaa
set_option linter.unusedVariables false
set_option linter.unusedSimpArgs false
set_option linter.unnecessarySimpa false
open Go.Hp Go.RowKit
attribute [local irreducible] Go.Hp.iteB Go.Hp.stC Go.Hp.newP

section
variable {h : Heap} {n c : Nat} {q : Option Addr} {p : List Int}
theorem ord_l1 {K0 : Bool → Heap → Prop} {K4 : Heap → Prop} {i : Nat} {v : Int} (hl : p.length = n) (hn : n ≤ 2 ^ 20) (vq : valsAt h q (p.map (Value.int .i64))) (hv : p[i]? = some v) (hk0 : v ∈ p.take i → K0 false h) (hk : v ∉ p.take i → K4 h) :
    ∀ (d k : Nat), k + d = i → v ∉ p.take k → straitref14_Order.l1 K0 K4 (d + 1) q n c (i : Int) (k : Int) h
  | 0, k, hi, hno => by
    unfold straitref14_Order.l1 straitref14_Order.b1
    have : k = i := by omega
    subst this
    exact iteB_neg (decide_eq_false (by omega)) (hk hno)
  | d + 1, k, hi, hno => by
    unfold straitref14_Order.l1 straitref14_Order.b1
    have hil := lt_get hv
    obtain ⟨x, hx⟩ := get_lt (l := p) (i := k) (by omega)
    have gx : (p.map (Value.int .i64))[k]? = some (.int .i64 x) := by simp [hx]
    have gv : (p.map (Value.int .i64))[i]? = some (.int .i64 v) := by simp [hv]
    refine iteB_pos (decide_eq_true (by omega)) ?_
    simp -zeta (disch := omega) only [chkP_some, iteB_true, iteB_false, add_mk, Nat.zero_add, Nat.add_zero, Nat.mul_one, Nat.reduceAdd, Int.toNat_natCast, ex_int, ex_slice, ex_ptr, ex_bool, ex_str, ex_flt, ex_any, bnd_in, List.getElem?_cons_zero, List.getElem?_cons_succ, List.set_cons_zero, List.set_cons_succ, List.cons_append, List.nil_append, bne_self_eq_false, beq_self_eq_true, Bool.not_true, Bool.not_false, Option.isNone_some, Option.isNone_none, eq_self, true_and, and_true, and_self, vals_int vq gx, vals_int vq gv]
    refine iteB_intro (fun e => hk0 ?_) (fun e => ?_)
    · have e : x = v := by simpa using e
      subst e
      exact List.mem_of_getElem? (i := k) (by rw [List.getElem?_take, if_pos (by omega)]; exact hx)
    · have e : ¬ x = v := by simpa using e
      rw [wrap64 (by omega) (by omega)]
      refine ord_l1 hl hn vq hv hk0 hk d (k + 1) (by omega) ?_
      rw [take_snoc hx, List.mem_append, List.mem_singleton]
      rintro (h | h)
      · exact hno h
      · exact e h.symm
theorem ord_l0 {K0 : Bool → Heap → Prop} {K2 : Heap → Prop} (hl : p.length = n) (hn : n ≤ 2 ^ 20) (vq : valsAt h q (p.map (Value.int .i64))) (hk0 : ¬ IsOrd p → K0 false h) (hk : IsOrd p → K2 h) :
    ∀ (d i : Nat), i + d = n → (∀ x ∈ p.take i, 0 ≤ x ∧ x < (n : Int)) → (p.take i).Nodup → straitref14_Order.l0 K0 K2 (d + 1) q n c (i : Int) h
  | 0, i, hi, hr, hd => by
    unfold straitref14_Order.l0 straitref14_Order.b0
    have : i = n := by omega
    subst this
    rw [List.take_of_length_le (by omega)] at hr hd
    exact iteB_neg (decide_eq_false (by omega)) (hk ⟨by rw [hl]; exact hr, hd⟩)
  | d + 1, i, hi, hr, hd => by
    unfold straitref14_Order.l0 straitref14_Order.b0
    obtain ⟨v, hv⟩ := get_lt (l := p) (i := i) (by omega)
    have gv : (p.map (Value.int .i64))[i]? = some (.int .i64 v) := by simp [hv]
    have vm := List.mem_of_getElem? hv
    refine iteB_pos (decide_eq_true (by omega)) ?_
    simp -zeta (disch := omega) only [chkP_some, iteB_true, iteB_false, add_mk, Nat.zero_add, Nat.add_zero, Nat.mul_one, Nat.reduceAdd, Int.toNat_natCast, ex_int, ex_slice, ex_ptr, ex_bool, ex_str, ex_flt, ex_any, bnd_in, List.getElem?_cons_zero, List.getElem?_cons_succ, List.set_cons_zero, List.set_cons_succ, List.cons_append, List.nil_append, bne_self_eq_false, beq_self_eq_true, Bool.not_true, Bool.not_false, Option.isNone_some, Option.isNone_none, eq_self, true_and, and_true, and_self, vals_int vq gv]
    refine iteB_intro (fun e => hk0 (fun h => ?_)) (fun e => ?_)
    · have := (h.1 v vm).1; have := of_decide_eq_true e; omega
    have e := of_decide_eq_false e
    refine iteB_intro (fun e => hk0 (fun h => ?_)) (fun e2 => ?_)
    · have := (h.1 v vm).2; have := of_decide_eq_true e; omega
    have e2 := of_decide_eq_false e2
    refine ⟨i + 1, ord_l1 hl hn vq hv (fun m => hk0 (fun h => ?_)) (fun m => ?_) i 0 (by omega) (by simp)⟩
    · obtain ⟨j, hj, ej⟩ := List.getElem_of_mem m
      rw [List.length_take] at hj
      rw [List.getElem_take] at ej
      have := (List.getElem_inj (h₀ := by omega) (h₁ := lt_get hv) h.2).1 (ej.trans (List.getElem?_eq_some_iff.1 hv).2.symm)
      omega
    · rw [wrap64 (by omega) (by omega)]
      refine ord_l0 hl hn vq hk0 hk d (i + 1) (by omega) (fun x hx => ?_) ?_
      · rw [take_snoc hv, List.mem_append, List.mem_singleton] at hx
        rcases hx with hx | rfl
        · exact hr x hx
        · omega
      · rw [take_snoc hv]
        refine List.nodup_append.2 ⟨hd, by simp, fun a ha b hb e => ?_⟩
        simp only [List.mem_singleton] at hb
        exact m (hb ▸ e ▸ ha)
open Classical in
theorem ROrder_of {K : Bool → Heap → Prop} (hl : p.length = n) (hn : n ≤ 2 ^ 20) (vq : valsAt h q (p.map (Value.int .i64))) (hk : K (decide (IsOrd p)) h) : straitref14_Order q n c h K := by
  unfold straitref14_Order
  exact ⟨n + 1, ord_l0 hl hn vq (fun h => by rw [decide_eq_false h] at hk; exact hk) (fun h => by rw [decide_eq_true h] at hk; exact hk) n 0 (by omega) (by simp) (by simp)⟩
end
end Go.Proofs.Ytlfcfoodlbbbjaa
