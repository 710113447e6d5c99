/-
  Sides: may it be one? is one among some?
-/
import Derived.Test.YtbhndlpjfncliaaGreatW1
namespace Go.Proofs.YtbhndlpjfncliaaGreat
set_option linter.unusedVariables false
set_option linter.unusedSimpArgs false
set_option linter.unnecessarySimpa false
open Go.Hp Go.RowKit
attribute [local irreducible] Go.Hp.iteB Go.Hp.stC Go.Hp.newP

def riseS (n : Int) : Int → List Int → Bool
  | _, [] => true
  | p, v :: r => decide (p < v) && (decide (v < n) && riseS n v r)
def chkS (n : Int) (l : List Int) : Int := if riseS n (-1) l = true then (if (l.length : Int) = 0 ∨ (l.length : Int) = n then 16 else 0) else 4
theorem riseS_mem {n : Int} : ∀ {l : List Int} {p : Int}, riseS n p l = true → ∀ v ∈ l, p < v ∧ v < n
  | x :: l, p, h, v, hv => by
    simp only [riseS, Bool.and_eq_true, decide_eq_true_eq] at h
    rcases List.mem_cons.1 hv with rfl | hv
    · exact ⟨h.1, h.2.1⟩
    · have := riseS_mem h.2.2 v hv
      exact ⟨by omega, this.2⟩
section
variable {n : Int} {q : Option Addr} {k c : Nat} {l : List Int} {h : Heap}
theorem scheck_l0 {K0 : Int → Heap → Prop} {K2 : Heap → Prop} (hl : l.length = k) (hb : k < 2 ^ 40) (vl : valsAt h q (l.map (Value.int .i64))) (hk0 : riseS n (-1) l = false → K0 4 h) (hk2 : riseS n (-1) l = true → K2 h) :
    ∀ (d i : Nat) (p : Int), i + d = k → riseS n p (l.drop i) = riseS n (-1) l → side_Check.l0 K0 K2 (d + 1) n q k c p q k c (k : Int) (i : Int) h
  | 0, i, p, hi, he => by
    unfold side_Check.l0 side_Check.b0
    rw [List.drop_of_length_le (by omega)] at he
    exact iteB_neg (decide_eq_false (by omega)) (hk2 he.symm)
  | d + 1, i, p, hi, he => by
    unfold side_Check.l0 side_Check.b0
    obtain ⟨x, hx⟩ := get_lt (l := l) (i := i) (by omega)
    have gx : (l.map (Value.int .i64))[i]? = some (.int .i64 x) := by simp [hx]
    rw [drop_cons hx] at he
    refine iteB_pos (decide_eq_true (by omega)) ?_
    simp -zeta (disch := omega) only [chkP_some, iteB_true, iteB_false, add_mk, Nat.zero_add, Nat.add_zero, Nat.mul_one, Nat.reduceAdd, Int.toNat_natCast, ex_int, ex_slice, ex_ptr, ex_bool, ex_str, ex_flt, ex_any, bnd_in, List.getElem?_cons_zero, List.getElem?_cons_succ, List.set_cons_zero, List.set_cons_succ, List.cons_append, List.nil_append, bne_self_eq_false, beq_self_eq_true, Bool.not_true, Bool.not_false, Option.isNone_some, Option.isNone_none, eq_self, true_and, and_true, and_self, vals_int vl gx]
    refine iteB_intro (fun e => ?_) fun e => iteB_intro (fun e2 => ?_) fun e2 => ?_
    · have e := of_decide_eq_true e
      exact hk0 (by rw [← he]; simp only [riseS]; rw [decide_eq_false (by omega), Bool.false_and])
    · have e2 := of_decide_eq_true e2
      exact hk0 (by rw [← he]; simp only [riseS]; rw [decide_eq_false (show ¬ x < n by omega), Bool.false_and, Bool.and_false])
    · have e := of_decide_eq_false e
      have e2 := of_decide_eq_false e2
      rw [wrap64 (by omega) (by omega)]
      refine scheck_l0 hl hb vl hk0 hk2 d (i + 1) x (by omega) ?_
      rw [← he]; simp only [riseS]; rw [decide_eq_true (show p < x by omega), decide_eq_true (show x < n by omega), Bool.true_and, Bool.true_and]
theorem SCheck_of {K : Int → Heap → Prop} (hl : l.length = k) (hb : k < 2 ^ 40) (vl : valsAt h q (l.map (Value.int .i64))) (hk : K (chkS n l) h) : side_Check n q k c h K := by
  unfold side_Check
  unfold chkS at hk
  refine ⟨k + 1, scheck_l0 hl hb vl (fun e => ?_) (fun e => ?_) k 0 (-1) (by omega) rfl⟩
  · rw [if_neg (by rw [e]; decide)] at hk; exact hk
  · rw [if_pos e, hl] at hk
    refine iteB_intro (fun e1 => ?_) fun e1 => iteB_intro (fun e2 => ?_) fun e2 => ?_
    · rw [if_pos (.inl (by simpa using e1))] at hk; exact hk
    · rw [if_pos (.inr (by simpa using e2))] at hk; exact hk
    · rw [if_neg (fun h => by rcases h with h | h; · simp [h] at e1
                              · simp [h] at e2)] at hk; exact hk
/-! ### Is one among some? -/
theorem ini_l0 {K0 : Bool → Heap → Prop} {K2 : Heap → Prop} {v : Int} (hl : l.length = k) (hb : k < 2 ^ 40) (vl : valsAt h q (l.map (Value.int .i64))) (hk0 : v ∈ l → K0 true h) (hk2 : v ∉ l → K2 h) :
    ∀ (d i : Nat), i + d = k → v ∉ l.take i → straitref21_In.l0 K0 K2 (d + 1) q k c v (i : Int) h
  | 0, i, hi, hno => by
    unfold straitref21_In.l0 straitref21_In.b0
    rw [List.take_of_length_le (by omega)] at hno
    exact iteB_neg (decide_eq_false (by omega)) (hk2 hno)
  | d + 1, i, hi, hno => by
    unfold straitref21_In.l0 straitref21_In.b0
    obtain ⟨x, hx⟩ := get_lt (l := l) (i := i) (by omega)
    have gx : (l.map (Value.int .i64))[i]? = some (.int .i64 x) := by simp [hx]
    refine iteB_pos (decide_eq_true (by omega)) ?_
    simp -zeta (disch := omega) only [chkP_some, iteB_true, iteB_false, add_mk, Nat.zero_add, Nat.add_zero, Nat.mul_one, Nat.reduceAdd, Int.toNat_natCast, ex_int, ex_slice, ex_ptr, ex_bool, ex_str, ex_flt, ex_any, bnd_in, List.getElem?_cons_zero, List.getElem?_cons_succ, List.set_cons_zero, List.set_cons_succ, List.cons_append, List.nil_append, bne_self_eq_false, beq_self_eq_true, Bool.not_true, Bool.not_false, Option.isNone_some, Option.isNone_none, eq_self, true_and, and_true, and_self, vals_int vl gx]
    refine iteB_intro (fun e => ?_) fun e => ?_
    · have e : x = v := by simpa using e
      subst e
      exact hk0 (List.mem_of_getElem? hx)
    · have e : x ≠ v := by simpa using e
      rw [wrap64 (by omega) (by omega)]
      refine ini_l0 hl hb vl hk0 hk2 d (i + 1) (by omega) ?_
      rw [take_snoc hx]; simp only [List.mem_append, List.mem_singleton, not_or]
      exact ⟨hno, fun h => e h.symm⟩
theorem InI_of {K : Bool → Heap → Prop} {v : Int} (hl : l.length = k) (hb : k < 2 ^ 40) (vl : valsAt h q (l.map (Value.int .i64))) (hk : K (decide (v ∈ l)) h) : straitref21_In q k c v h K := by
  unfold straitref21_In
  exact ⟨k + 1, ini_l0 hl hb vl (fun e => by rw [decide_eq_true e] at hk; exact hk) (fun e => by rw [decide_eq_false e] at hk; exact hk) k 0 (by omega) (by simp)⟩
end
/-! ### Parts -/
def partsS (n : Int) (l : List Int) (u v : Int) : Bool := decide (chkS n l = 0) && (decide (0 ≤ u ∧ u < n) && (decide (0 ≤ v ∧ v < n) && !(decide (u ∈ l) == decide (v ∈ l))))
section
variable {h0 : Base} {R : Rws} {n : Int} {q : Option Addr} {k c : Nat} {l : List Int}
end
end Go.Proofs.YtbhndlpjfncliaaGreat
