/-
  Classes that are joined: lists that are the same.
-/
import Derived.Test.YtbhndlpjfncliaaGreatD6
namespace Go.Proofs.YtbhndlpjfncliaaGreat
set_option linter.unusedVariables false
set_option linter.unusedSimpArgs false
set_option linter.unnecessarySimpa false
open Go.Hp Go.RowKit
attribute [local irreducible] Go.Hp.iteB Go.Hp.stC Go.Hp.newP

section
variable {h : Heap} {p1 p2 : Option Addr} {c1 c2 n n1 n2 : Nat} {K0 : Bool → Heap → Prop} {K2 : Heap → Prop} {K : Bool → Heap → Prop}
theorem ints_l0 {l1 l2 : List Int} (v1 : valsAt h p1 (l1.map (Value.int .i64))) (v2 : valsAt h p2 (l2.map (Value.int .i64))) (h1 : l1.length = n) (h2 : l2.length = n) (hn : n < 9223372036854775808) (hk0 : l1 ≠ l2 → K0 false h) (hk2 : l1 = l2 → K2 h) :
    ∀ (d i : Nat), i + d = n → l1.take i = l2.take i → straitref09_Ints.l0 K0 K2 (d + 1) p1 n c1 p2 n c2 (i : Int) h
  | 0, i, hi, he => by
    unfold straitref09_Ints.l0 straitref09_Ints.b0
    refine iteB_neg (decide_eq_false (by omega)) (hk2 ?_)
    rwa [List.take_of_length_le (by omega), List.take_of_length_le (by omega)] at he
  | d + 1, i, hi, he => by
    unfold straitref09_Ints.l0 straitref09_Ints.b0
    obtain ⟨x, hx⟩ := get_lt (l := l1) (i := i) (by omega)
    obtain ⟨y, hy⟩ := get_lt (l := l2) (i := i) (by omega)
    refine iteB_pos (decide_eq_true (by omega)) ?_
    simp -zeta (disch := omega) only [chkP_some, iteB_true, iteB_false, add_mk, Nat.zero_add, Nat.add_zero, Nat.mul_one, Nat.reduceAdd, Int.toNat_natCast, ex_int, ex_slice, ex_ptr, ex_bool, ex_str, ex_flt, ex_any, bnd_in, List.getElem?_cons_zero, List.getElem?_cons_succ, List.set_cons_zero, List.set_cons_succ, List.cons_append, List.nil_append, bne_self_eq_false, beq_self_eq_true, Bool.not_true, Bool.not_false, Option.isNone_some, Option.isNone_none, eq_self, true_and, and_true, and_self, vals_int v1 (show (l1.map (Value.int .i64))[i]? = some (.int .i64 x) by simp [hx]), vals_int v2 (show (l2.map (Value.int .i64))[i]? = some (.int .i64 y) by simp [hy])]
    refine iteB_intro (fun c => hk0 ?_) (fun c => ?_)
    · rintro rfl; rw [hx] at hy; cases hy; simp at c
    · have c : x = y := by simpa using c
      rw [wrap64 (by omega) (by omega)]
      exact ints_l0 v1 v2 h1 h2 hn hk0 hk2 d (i + 1) (by omega) (by rw [take_snoc hx, take_snoc hy, he, c])
theorem Ints_of {l1 l2 : List Int} (v1 : valsAt h p1 (l1.map (Value.int .i64))) (v2 : valsAt h p2 (l2.map (Value.int .i64))) (h1 : n1 = l1.length) (h2 : n2 = l2.length) (hn : n1 < 9223372036854775808) (hk : K (decide (l1 = l2)) h) : straitref09_Ints p1 n1 c1 p2 n2 c2 h K := by
  unfold straitref09_Ints
  subst h1 h2
  by_cases e : l1.length = l2.length
  · refine iteB_neg (by simp; omega) ⟨l1.length + 1, ?_⟩
    rw [← e]
    exact ints_l0 v1 v2 rfl e.symm hn (fun hne => by rw [decide_eq_false hne] at hk; exact hk) (fun he => by rw [decide_eq_true he] at hk; exact hk) l1.length 0 (by omega) rfl
  · refine iteB_pos (by simp; omega) ?_
    rw [decide_eq_false (fun h => e (by rw [h]))] at hk; exact hk
theorem nums_map (l : List Nat) : nums l = (l.map fun v : Nat => (v : Int)).map (Value.int .i64) := by simp [nums]
theorem IntsN_of {l : List Nat} (v1 : valsAt h p1 (nums l)) (v2 : valsAt h p2 (nums l)) (h1 : n1 = l.length) (h2 : n2 = l.length) (hn : l.length < 2 ^ 40) (hk : K true h) : straitref09_Ints p1 n1 c1 p2 n2 c2 h K := by
  rw [nums_map] at v1 v2
  exact Ints_of v1 v2 (by simpa using h1) (by simpa using h2) (by omega) (by rw [decide_eq_true rfl]; exact hk)

theorem val_slice {q q' : Option Addr} {i l c : Nat} {vs : List Value} {G : Option Addr → Nat → Nat → Prop} (hv : valsAt h q vs) (hx : vs[i]? = some (.slice q' l c)) : (chkP q fun a => ∃ (x : Option Addr) (xl xc : Nat), cell h (a.add i) = some (.slice x xl xc) ∧ G x xl xc) = G q' l c := by
  obtain ⟨a, rfl, ha⟩ := hv i _ hx
  rw [chkP_some, ha]; exact ex_slice

theorem lists_l0 {B : Base} {L Y1 Y2 : Rws} {qs1 qs2 : List SlT} {ls : List (List Nat)} (s : St B h L) (k1 : valsAt h p1 (slV qs1)) (k2 : valsAt h p2 (slV qs2)) (s1 : Sls B Y1 qs1 ls) (s2 : Sls B Y2 qs2 ls) (hy1 : ∀ x ∈ Y1, x ∈ L) (hy2 : ∀ x ∈ Y2, x ∈ L) (hn : ls.length = n) (hb : n < 2 ^ 40) (hl : ∀ l ∈ ls, l.length < 2 ^ 40) (hk2 : K2 h) :
    ∀ (d i : Nat), i + d = n → straitref10_Lists.l0 K0 K2 (d + 1) p1 n c1 p2 n c2 (i : Int) h
  | 0, i, hi => by
    unfold straitref10_Lists.l0 straitref10_Lists.b0
    exact iteB_neg (decide_eq_false (by omega)) hk2
  | d + 1, i, hi => by
    unfold straitref10_Lists.l0 straitref10_Lists.b0
    obtain ⟨l, hx⟩ := get_lt (l := ls) (i := i) (by omega)
    obtain ⟨a, ha⟩ := get_lt (l := qs1) (i := i) (by rw [s1.1]; omega)
    obtain ⟨b, hb2⟩ := get_lt (l := qs2) (i := i) (by rw [s2.1]; omega)
    obtain ⟨a1, a2⟩ := s1.2 i a l ha hx
    obtain ⟨b1, b2⟩ := s2.2 i b l hb2 hx
    refine iteB_pos (decide_eq_true (by omega)) ?_
    simp -zeta (disch := omega) only [chkP_some, iteB_true, iteB_false, add_mk, Nat.zero_add, Nat.add_zero, Nat.mul_one, Nat.reduceAdd, Int.toNat_natCast, ex_int, ex_slice, ex_ptr, ex_bool, ex_str, ex_flt, ex_any, bnd_in, List.getElem?_cons_zero, List.getElem?_cons_succ, List.set_cons_zero, List.set_cons_succ, List.cons_append, List.nil_append, bne_self_eq_false, beq_self_eq_true, Bool.not_true, Bool.not_false, Option.isNone_some, Option.isNone_none, eq_self, true_and, and_true, and_self, val_slice k1 (slV_get ha), val_slice k2 (slV_get hb2)]
    refine qcallP1.of true (fun Q hQ => IntsN_of (a2 h L s hy1) (b2 h L s hy2) a1 b1 (hl l (List.mem_of_getElem? hx)) hQ) (iteB_neg rfl ?_)
    rw [wrap64 (by omega) (by omega)]
    exact lists_l0 s k1 k2 s1 s2 hy1 hy2 hn hb hl hk2 d (i + 1) (by omega)
theorem Lists_of {B : Base} {L Y1 Y2 : Rws} {qs1 qs2 : List SlT} {ls : List (List Nat)} (s : St B h L) (k1 : Keeps B Y1 p1 (slV qs1)) (k2 : Keeps B Y2 p2 (slV qs2)) (s1 : Sls B Y1 qs1 ls) (s2 : Sls B Y2 qs2 ls) (hy1 : ∀ x ∈ Y1, x ∈ L) (hy2 : ∀ x ∈ Y2, x ∈ L) (hb : ls.length < 2 ^ 40) (hl : ∀ l ∈ ls, l.length < 2 ^ 40) (hk : K true h) :
    straitref10_Lists p1 ls.length c1 p2 ls.length c2 h K := by
  unfold straitref10_Lists
  exact iteB_neg (by simp) ⟨ls.length + 1, lists_l0 s (k1 h L s hy1) (k2 h L s hy2) s1 s2 hy1 hy2 rfl hb hl hk ls.length 0 (by omega)⟩
theorem clsL_small {C : Nat → Nat} {n : Nat} (hn : n ≤ 4096) : (clsL C n).length < 2 ^ 40 ∧ ∀ l ∈ clsL C n, l.length < 2 ^ 40 := by
  refine ⟨by have := clsT_le C n n; unfold clsL; omega, fun l hl => ?_⟩
  obtain ⟨c, _, rfl⟩ := List.mem_map.1 hl
  have := clsF_le C n c; omega
end
end Go.Proofs.YtbhndlpjfncliaaGreat
