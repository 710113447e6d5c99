/-
  Trees: the awake tree; the same lists.
-/
import Derived.Test.YtfidcekobjmamaaT4
namespace Go.Proofs.Ytfidcekobjmamaa
set_option linter.unusedVariables false
set_option linter.unusedSimpArgs false
set_option linter.unnecessarySimpa false
open Go.Hp Go.RowKit
attribute [local irreducible] Go.Hp.iteB Go.Hp.stC Go.Hp.newP

/-! ### Lists that are the same -/
section
variable {h : Heap} {p1 p2 : Option Addr} {c1 c2 n n1 n2 : Nat} {l1 l2 : List Int} {K0 : Bool → Heap → Prop} {K2 : Heap → Prop} {K : Bool → Heap → Prop}

theorem eqInt_l0 (v1 : valsAt h p1 (l1.map (Value.int .i64))) (v2 : valsAt h p2 (l2.map (Value.int .i64))) (h1 : l1.length = n) (h2 : l2.length = n) (hn : n < 9223372036854775808) (hk0 : l1 ≠ l2 → K0 false h) (hk2 : l1 = l2 → K2 h) :
    ∀ (d i : Nat), i + d = n → l1.take i = l2.take i → slices_Equal_Lint_int.l0 K0 K2 (d + 1) p1 n c1 p2 n c2 (n : Int) (i : Int) h
  | 0, i, hi, he => by
    unfold slices_Equal_Lint_int.l0 slices_Equal_Lint_int.b0
    refine iteB_neg (decide_eq_false (by omega)) (hk2 ?_)
    rwa [List.take_of_length_le (by omega), List.take_of_length_le (by omega)] at he
  | d + 1, i, hi, he => by
    unfold slices_Equal_Lint_int.l0 slices_Equal_Lint_int.b0
    obtain ⟨x, hx⟩ := get_lt (l := l1) (i := i) (by omega)
    obtain ⟨y, hy⟩ := get_lt (l := l2) (i := i) (by omega)
    refine iteB_pos (decide_eq_true (by omega)) ?_
    simp -zeta (disch := omega) only [chkP_some, iteB_true, iteB_false, add_mk, Nat.zero_add, Nat.add_zero, Nat.mul_one, Nat.reduceAdd, Int.toNat_natCast, ex_int, ex_slice, ex_ptr, ex_bool, ex_str, ex_flt, ex_any, bnd_in, List.getElem?_cons_zero, List.getElem?_cons_succ, List.set_cons_zero, List.set_cons_succ, List.cons_append, List.nil_append, bne_self_eq_false, beq_self_eq_true, Bool.not_true, Bool.not_false, Option.isNone_some, Option.isNone_none, eq_self, true_and, and_true, and_self, vals_int v1 (show (l1.map (Value.int .i64))[i]? = some (.int .i64 x) by simp [hx]), vals_int v2 (show (l2.map (Value.int .i64))[i]? = some (.int .i64 y) by simp [hy])]
    refine iteB_intro (fun c => hk0 ?_) (fun c => ?_)
    · rintro rfl; rw [hx] at hy; cases hy; simp at c
    · have c : x = y := by simpa using c
      rw [wrap64 (by omega) (by omega)]
      exact eqInt_l0 v1 v2 h1 h2 hn hk0 hk2 d (i + 1) (by omega) (by rw [take_snoc hx, take_snoc hy, he, c])
theorem EqInt_of (v1 : valsAt h p1 (l1.map (Value.int .i64))) (v2 : valsAt h p2 (l2.map (Value.int .i64))) (h1 : n1 = l1.length) (h2 : n2 = l2.length) (hn : n1 < 9223372036854775808) (hk : K (decide (l1 = l2)) h) : slices_Equal_Lint_int p1 n1 c1 p2 n2 c2 h K := by
  unfold slices_Equal_Lint_int
  subst h1 h2
  by_cases e : l1.length = l2.length
  · refine iteB_neg (by simp; omega) ⟨l1.length + 1, ?_⟩
    rw [← e]
    exact eqInt_l0 v1 v2 rfl e.symm hn (fun hne => by rw [decide_eq_false hne] at hk; exact hk) (fun he => by rw [decide_eq_true he] at hk; exact hk) l1.length 0 (by omega) rfl
  · refine iteB_pos (by simp; omega) ?_
    rw [decide_eq_false (fun h => e (by rw [h]))] at hk; exact hk

theorem eqInt64_l0 (v1 : valsAt h p1 (l1.map (Value.int .i64))) (v2 : valsAt h p2 (l2.map (Value.int .i64))) (h1 : l1.length = n) (h2 : l2.length = n) (hn : n < 9223372036854775808) (hk0 : l1 ≠ l2 → K0 false h) (hk2 : l1 = l2 → K2 h) :
    ∀ (d i : Nat), i + d = n → l1.take i = l2.take i → slices_Equal_Lint64_int64.l0 K0 K2 (d + 1) p1 n c1 p2 n c2 (n : Int) (i : Int) h
  | 0, i, hi, he => by
    unfold slices_Equal_Lint64_int64.l0 slices_Equal_Lint64_int64.b0
    refine iteB_neg (decide_eq_false (by omega)) (hk2 ?_)
    rwa [List.take_of_length_le (by omega), List.take_of_length_le (by omega)] at he
  | d + 1, i, hi, he => by
    unfold slices_Equal_Lint64_int64.l0 slices_Equal_Lint64_int64.b0
    obtain ⟨x, hx⟩ := get_lt (l := l1) (i := i) (by omega)
    obtain ⟨y, hy⟩ := get_lt (l := l2) (i := i) (by omega)
    refine iteB_pos (decide_eq_true (by omega)) ?_
    simp -zeta (disch := omega) only [chkP_some, iteB_true, iteB_false, add_mk, Nat.zero_add, Nat.add_zero, Nat.mul_one, Nat.reduceAdd, Int.toNat_natCast, ex_int, ex_slice, ex_ptr, ex_bool, ex_str, ex_flt, ex_any, bnd_in, List.getElem?_cons_zero, List.getElem?_cons_succ, List.set_cons_zero, List.set_cons_succ, List.cons_append, List.nil_append, bne_self_eq_false, beq_self_eq_true, Bool.not_true, Bool.not_false, Option.isNone_some, Option.isNone_none, eq_self, true_and, and_true, and_self, vals_int v1 (show (l1.map (Value.int .i64))[i]? = some (.int .i64 x) by simp [hx]), vals_int v2 (show (l2.map (Value.int .i64))[i]? = some (.int .i64 y) by simp [hy])]
    refine iteB_intro (fun c => hk0 ?_) (fun c => ?_)
    · rintro rfl; rw [hx] at hy; cases hy; simp at c
    · have c : x = y := by simpa using c
      rw [wrap64 (by omega) (by omega)]
      exact eqInt64_l0 v1 v2 h1 h2 hn hk0 hk2 d (i + 1) (by omega) (by rw [take_snoc hx, take_snoc hy, he, c])
theorem EqInt64_of (v1 : valsAt h p1 (l1.map (Value.int .i64))) (v2 : valsAt h p2 (l2.map (Value.int .i64))) (h1 : n1 = l1.length) (h2 : n2 = l2.length) (hn : n1 < 9223372036854775808) (hk : K (decide (l1 = l2)) h) : slices_Equal_Lint64_int64 p1 n1 c1 p2 n2 c2 h K := by
  unfold slices_Equal_Lint64_int64
  subst h1 h2
  by_cases e : l1.length = l2.length
  · refine iteB_neg (by simp; omega) ⟨l1.length + 1, ?_⟩
    rw [← e]
    exact eqInt64_l0 v1 v2 rfl e.symm hn (fun hne => by rw [decide_eq_false hne] at hk; exact hk) (fun he => by rw [decide_eq_true he] at hk; exact hk) l1.length 0 (by omega) rfl
  · refine iteB_pos (by simp; omega) ?_
    rw [decide_eq_false (fun h => e (by rw [h]))] at hk; exact hk

theorem ints_l0 (v1 : valsAt h p1 (l1.map (Value.int .i64))) (v2 : valsAt h p2 (l2.map (Value.int .i64))) (h1 : l1.length = n) (h2 : l2.length = n) (hn : n < 9223372036854775808) (hk0 : l1 ≠ l2 → K0 false h) (hk2 : l1 = l2 → K2 h) :
    ∀ (d i : Nat), i + d = n → l1.take i = l2.take i → straitref09_Ints.l0 K0 K2 (d + 1) p1 n c1 p2 n c2 (i : Int) h
  | 0, i, hi, he => by
    unfold straitref09_Ints.l0 straitref09_Ints.b0
    refine iteB_neg (decide_eq_false (by omega)) (hk2 ?_)
    rwa [List.take_of_length_le (by omega), List.take_of_length_le (by omega)] at he
  | d + 1, i, hi, he => by
    unfold straitref09_Ints.l0 straitref09_Ints.b0
    obtain ⟨x, hx⟩ := get_lt (l := l1) (i := i) (by omega)
    obtain ⟨y, hy⟩ := get_lt (l := l2) (i := i) (by omega)
    refine iteB_pos (decide_eq_true (by omega)) ?_
    simp -zeta (disch := omega) only [chkP_some, iteB_true, iteB_false, add_mk, Nat.zero_add, Nat.add_zero, Nat.mul_one, Nat.reduceAdd, Int.toNat_natCast, ex_int, ex_slice, ex_ptr, ex_bool, ex_str, ex_flt, ex_any, bnd_in, List.getElem?_cons_zero, List.getElem?_cons_succ, List.set_cons_zero, List.set_cons_succ, List.cons_append, List.nil_append, bne_self_eq_false, beq_self_eq_true, Bool.not_true, Bool.not_false, Option.isNone_some, Option.isNone_none, eq_self, true_and, and_true, and_self, vals_int v1 (show (l1.map (Value.int .i64))[i]? = some (.int .i64 x) by simp [hx]), vals_int v2 (show (l2.map (Value.int .i64))[i]? = some (.int .i64 y) by simp [hy])]
    refine iteB_intro (fun c => hk0 ?_) (fun c => ?_)
    · rintro rfl; rw [hx] at hy; cases hy; simp at c
    · have c : x = y := by simpa using c
      rw [wrap64 (by omega) (by omega)]
      exact ints_l0 v1 v2 h1 h2 hn hk0 hk2 d (i + 1) (by omega) (by rw [take_snoc hx, take_snoc hy, he, c])
theorem Ints_of (v1 : valsAt h p1 (l1.map (Value.int .i64))) (v2 : valsAt h p2 (l2.map (Value.int .i64))) (h1 : n1 = l1.length) (h2 : n2 = l2.length) (hn : n1 < 9223372036854775808) (hk : K (decide (l1 = l2)) h) : straitref09_Ints p1 n1 c1 p2 n2 c2 h K := by
  unfold straitref09_Ints
  subst h1 h2
  by_cases e : l1.length = l2.length
  · refine iteB_neg (by simp; omega) ⟨l1.length + 1, ?_⟩
    rw [← e]
    exact ints_l0 v1 v2 rfl e.symm hn (fun hne => by rw [decide_eq_false hne] at hk; exact hk) (fun he => by rw [decide_eq_true he] at hk; exact hk) l1.length 0 (by omega) rfl
  · refine iteB_pos (by simp; omega) ?_
    rw [decide_eq_false (fun h => e (by rw [h]))] at hk; exact hk

end

/-! ### The awake tree -/
theorem awake_right : RightT [-1, 0, 0, 1] [0, 3, 2, 2] where
  len := rfl
  max := by decide
  each := by decide
  roots := by decide
  deep v hv := by
    have hv : v = 0 ∨ v = 1 ∨ v = 2 ∨ v = 3 := by simp at hv; omega
    rcases hv with rfl | rfl | rfl | rfl
    · exact ⟨0, by decide, rfl⟩
    · exact ⟨1, by decide, 0, rfl, by decide, rfl⟩
    · exact ⟨1, by decide, 0, rfl, by decide, rfl⟩
    · exact ⟨2, by decide, 1, rfl, by decide, 0, rfl, by decide, rfl⟩
theorem awake_D {D : Nat → Int} (hD : DR [-1, 0, 0, 1] 4 D) : D 0 = 0 ∧ D 1 = 1 ∧ D 2 = 1 ∧ D 3 = 2 := by
  have e0 : hasD (UU [-1, 0, 0, 1]) 4 0 0 := ⟨by decide, rfl⟩
  have e1 : hasD (UU [-1, 0, 0, 1]) 4 1 1 := ⟨by decide, 0, rfl, e0⟩
  have e2 : hasD (UU [-1, 0, 0, 1]) 4 1 2 := ⟨by decide, 0, rfl, e0⟩
  have e3 : hasD (UU [-1, 0, 0, 1]) 4 2 3 := ⟨by decide, 1, rfl, e1⟩
  have go : ∀ {v d : Nat}, hasD (UU [-1, 0, 0, 1]) 4 d v → D v = d := fun {v d} h => by
    obtain ⟨d', h1, h2⟩ := hD v h.lt
    rw [h1, h.uniq h2]
  exact ⟨go e0, go e1, go e2, go e3⟩
theorem awake_path {D : Nat → Int} (hD : DR [-1, 0, 0, 1] 4 D) : pathF (UU [-1, 0, 0, 1]) D 9 3 2 = [3, 1, 0, 2] := by
  obtain ⟨d0, d1, d2, d3⟩ := awake_D hD
  unfold pathF
  have : meetF (UU [-1, 0, 0, 1]) D 9 3 2 = ([3, 1], 0, [2]) := by
    have u3 : (UU [-1, 0, 0, 1] 3).toNat = 1 := rfl
    have u1 : (UU [-1, 0, 0, 1] 1).toNat = 0 := rfl
    have u2 : (UU [-1, 0, 0, 1] 2).toNat = 0 := rfl
    simp [meetF, d0, d1, d2, d3, u3, u1, u2]
  rw [this]; rfl
theorem awake_least : leastF (UU [-1, 0, 0, 1]) (UU [0, 3, 2, 2]) [3, 1, 0, 2] = (2, true) := by decide

theorem awake_of {h0 h : Heap} {R : Rws} {K : Bool → Heap → Prop} (s : St h0 h R) (hk : ∀ h', St h0 h' R → K true h') : straitlaw29_awake h K := by
  unfold straitlaw29_awake
  refine s.new_ fun f1 h s => s.new_ fun f2 h s => s.new_ fun f3 h s => ?_
  try simp -zeta (disch := omega) only [chkP_some, iteB_true, iteB_false, add_mk, Nat.zero_add, Nat.add_zero, Nat.mul_one, Nat.reduceAdd, Int.toNat_natCast, ex_int, ex_slice, ex_ptr, ex_bool, ex_str, ex_flt, ex_any, bnd_in, List.getElem?_cons_zero, List.getElem?_cons_succ, List.set_cons_zero, List.set_cons_succ, List.cons_append, List.nil_append, bne_self_eq_false, beq_self_eq_true, Bool.not_true, Bool.not_false, Option.isNone_some, Option.isNone_none, eq_self, true_and, and_true, and_self, s.rd0, s.rd1, s.rd2]
  refine s.st0 (by simp) fun h s => s.st0 (by simp) fun h s => ?_
  try simp -zeta (disch := omega) only [chkP_some, iteB_true, iteB_false, add_mk, Nat.zero_add, Nat.add_zero, Nat.mul_one, Nat.reduceAdd, Int.toNat_natCast, ex_int, ex_slice, ex_ptr, ex_bool, ex_str, ex_flt, ex_any, bnd_in, List.getElem?_cons_zero, List.getElem?_cons_succ, List.set_cons_zero, List.set_cons_succ, List.cons_append, List.nil_append, bne_self_eq_false, beq_self_eq_true, Bool.not_true, Bool.not_false, Option.isNone_some, Option.isNone_none, eq_self, true_and, and_true, and_self, s.rd0, s.rd1, s.rd2]
  have kU : Keeps h0 ((f3, [Value.slice (some ⟨f1, 0, none⟩) 4 4, .slice (some ⟨f2, 0, none⟩) 4 4]) :: (f2, [Value.int .i64 0, .int .i64 3, .int .i64 2, .int .i64 2]) :: (f1, [Value.int .i64 (-1), .int .i64 0, .int .i64 0, .int .i64 1]) :: R) (some ⟨f1, 0, none⟩) (([-1, 0, 0, 1] : List Int).map (Value.int .i64)) := Keeps.row (by simp)
  have kW : Keeps h0 ((f3, [Value.slice (some ⟨f1, 0, none⟩) 4 4, .slice (some ⟨f2, 0, none⟩) 4 4]) :: (f2, [Value.int .i64 0, .int .i64 3, .int .i64 2, .int .i64 2]) :: (f1, [Value.int .i64 (-1), .int .i64 0, .int .i64 0, .int .i64 1]) :: R) (some ⟨f2, 0, none⟩) (([0, 3, 2, 2] : List Int).map (Value.int .i64)) := Keeps.row (by simp)
  refine callP2.self (Least_of (up := [-1, 0, 0, 1]) (w := [0, 3, 2, 2]) (n := 4) (m := 4) rfl rfl kU kW s (fun hno => absurd ⟨awake_right, by decide⟩ hno) (fun D a b r ha hb han hbn hD h s => ?_))
  obtain rfl : a = 3 := by omega
  obtain rfl : b = 2 := by omega
  rw [awake_path hD, awake_least]
  try simp -zeta (disch := omega) only [chkP_some, iteB_true, iteB_false, add_mk, Nat.zero_add, Nat.add_zero, Nat.mul_one, Nat.reduceAdd, Int.toNat_natCast, ex_int, ex_slice, ex_ptr, ex_bool, ex_str, ex_flt, ex_any, bnd_in, List.getElem?_cons_zero, List.getElem?_cons_succ, List.set_cons_zero, List.set_cons_succ, List.cons_append, List.nil_append, bne_self_eq_false, beq_self_eq_true, Bool.not_true, Bool.not_false, Option.isNone_some, Option.isNone_none, eq_self, true_and, and_true, and_self, s.rd0, s.rd1, s.rd2]
  refine callP1.self (Check_of (up := [-1, 0, 0, 1]) (w := [0, 3, 2, 2]) (n := 4) (m := 4) rfl rfl kU kW s fun h s => ?_)
  rw [if_pos awake_right]
  refine iteB_pos rfl ?_
  try simp -zeta (disch := omega) only [chkP_some, iteB_true, iteB_false, add_mk, Nat.zero_add, Nat.add_zero, Nat.mul_one, Nat.reduceAdd, Int.toNat_natCast, ex_int, ex_slice, ex_ptr, ex_bool, ex_str, ex_flt, ex_any, bnd_in, List.getElem?_cons_zero, List.getElem?_cons_succ, List.set_cons_zero, List.set_cons_succ, List.cons_append, List.nil_append, bne_self_eq_false, beq_self_eq_true, Bool.not_true, Bool.not_false, Option.isNone_some, Option.isNone_none, eq_self, true_and, and_true, and_self, s.rd0, s.rd1, s.rd2]
  refine callP3.self (Path_of (up := [-1, 0, 0, 1]) (w := [0, 3, 2, 2]) (n := 4) (m := 4) rfl rfl kU kW s (fun hno => absurd ⟨awake_right, by decide⟩ hno) (fun D a b r ha hb han hbn hD h p c X o s => ?_))
  obtain rfl : a = 3 := by omega
  obtain rfl : b = 2 := by omega
  rw [awake_path hD] at o ⊢
  refine s.new_ fun f4 h s => ?_
  have vp := o.vals s.tail
  rw [nats_ints] at vp
  have v4 : valsAt h (some ⟨f4, 0, none⟩) (([3, 1, 0, 2] : List Int).map (Value.int .i64)) := valsAt.row (s.rows _ (List.mem_cons_self ..)) (fun i v hi => by rw [Nat.zero_add]; exact hi)
  refine qcallP1.of _ (fun R hR => Ints_of vp v4 rfl rfl (by simp) hR) ?_
  rw [decide_eq_true (by rfl)]
  refine iteB_pos rfl ?_
  try refine iteB_pos rfl ?_
  try refine iteB_pos rfl ?_
  refine s.new_ fun f5 h s => s.new_ fun f6 h s => ?_
  refine callP1.self (Check_of (up := [0]) (w := [0]) (n := 1) (m := 1) rfl rfl (Keeps.row (b := f5) (by simp)) (Keeps.row (b := f6) (by simp)) s fun h s => ?_)
  rw [if_neg (fun r => by have := r.roots; revert this; decide)]
  exact hk _ ((St.re s (by intro a; simp only [cntR_append, cntR_cons, cntR_nil, List.cons_append, List.nil_append, List.set_cons_zero, List.set_cons_succ]; omega)))

/-! ### TreeSame -/
section
variable {h0 h : Heap} {R : Rws} {uA uB : List Int} {wA wB : List Int} {pA pB qA qB : Option Addr} {a a' b b' c c' d d' : Nat} {K : Bool → Heap → Prop}
theorem PSame_of (kA : Keeps h0 R pA (uA.map (Value.int .i64))) (kA' : Keeps h0 R qA (wA.map (Value.int .i64))) (kB : Keeps h0 R pB (uB.map (Value.int .i64))) (kB' : Keeps h0 R qB (wB.map (Value.int .i64)))
    (h1 : a = uA.length) (h2 : b = wA.length) (h3 : c = uB.length) (h4 : d = wB.length) (hm : uA.length ≤ maxLen) (hm' : wA.length ≤ maxLen) (s : St h0 h R) (hk : ∀ h', St h0 h' R → K (decide (uA = uB) && decide (wA = wB)) h') : tree_Same pA a a' qA b b' pB c c' qB d d' h K := by
  unfold maxLen at hm hm'
  unfold tree_Same
  refine s.new_ fun f1 h s => s.new_ fun f2 h s => ?_
  try simp -zeta (disch := omega) only [chkP_some, iteB_true, iteB_false, add_mk, Nat.zero_add, Nat.add_zero, Nat.mul_one, Nat.reduceAdd, Int.toNat_natCast, ex_int, ex_slice, ex_ptr, ex_bool, ex_str, ex_flt, ex_any, bnd_in, List.getElem?_cons_zero, List.getElem?_cons_succ, List.set_cons_zero, List.set_cons_succ, List.cons_append, List.nil_append, bne_self_eq_false, beq_self_eq_true, Bool.not_true, Bool.not_false, Option.isNone_some, Option.isNone_none, eq_self, true_and, and_true, and_self, s.rd0, s.rd1]
  refine qcallP1.of _ (fun R hR => EqInt_of (kA.at0 s.tail.tail) (kB.at0 s.tail.tail) h1 h3 (by omega) hR) ?_
  refine iteB_intro (fun e => ?_) (fun e => ?_)
  · rw [e] at hk
    refine qcallP1.of _ (fun R hR => EqInt64_of (kA'.at0 s.tail.tail) (kB'.at0 s.tail.tail) h2 h4 (by omega) hR) ?_
    exact hk _ s.tail.tail
  · rw [e] at hk; exact hk _ s.tail.tail
end
end Go.Proofs.Ytfidcekobjmamaa
