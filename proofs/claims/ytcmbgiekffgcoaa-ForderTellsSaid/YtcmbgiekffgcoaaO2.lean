/-
  Floats in order: the first one ahead of which none comes; how many are unlike.
-/
import Derived.Test.YtcmbgiekffgcoaaO1
namespace Go.Proofs.Ytcmbgiekffgcoaa
set_option linter.unusedVariables false
set_option linter.unusedSimpArgs false
open Go.Hp Go.RowKit
attribute [local irreducible] Go.Hp.iteB Go.Hp.stC Go.Hp.newP

/-- The first of n ahead of which none comes; -1: there is none. -/
def bestI (less : Nat → Nat → Bool) : Nat → Int
  | 0 => -1
  | n + 1 => if bestI less n < 0 ∨ less n (bestI less n).toNat = true then (n : Int) else bestI less n
theorem bestI_bd (less : Nat → Nat → Bool) : ∀ n, -1 ≤ bestI less n ∧ bestI less n < (n : Int) ∧ (0 < n → 0 ≤ bestI less n)
  | 0 => by simp [bestI]
  | n + 1 => by
    have ih := bestI_bd less n
    unfold bestI; split
    · omega
    · rename_i c; simp only [not_or, Int.not_lt] at c; omega
theorem bestI_congr {f g : Nat → Nat → Bool} : ∀ {n : Nat}, (∀ i j, i < n → j < n → f i j = g i j) → bestI f n = bestI g n
  | 0, _ => rfl
  | n + 1, h => by
    have ih := bestI_congr (n := n) fun i j hi hj => h i j (by omega) (by omega)
    have hb := bestI_bd g n
    unfold bestI; rw [ih]
    by_cases c : bestI g n < 0
    · simp [c]
    · rw [h n _ (by omega) (by omega)]

/-- The floats' places. -/
def plAt (l : List Nat) (i : Nat) : Int := pl (l.getD i 0)
def lowAt (l : List Nat) (i j : Nat) : Bool := decide (plAt l i < plAt l j)
def topAt (l : List Nat) (i j : Nat) : Bool := decide (plAt l j < plAt l i)
abbrev flts (l : List Nat) : List Value := l.map (Value.float .f64)
abbrev u64s (l : List Nat) : List Value := l.map fun b : Nat => Value.int .u64 (b : Int)
def Bnd (l : List Nat) : Prop := ∀ b ∈ l, b < 18446744073709551616
theorem Bnd.at {l : List Nat} (h : Bnd l) {i x : Nat} (hx : l[i]? = some x) : x < 18446744073709551616 := h _ (List.mem_of_getElem? hx)
theorem getD_of {l : List Nat} {i x : Nat} (hx : l[i]? = some x) : l.getD i 0 = x := by simp [List.getD, hx]

section
variable {h : Heap} {q : Option Addr} {c n : Nat} {l : List Nat} {K K2 : Int → Heap → Prop}

theorem flt_at (v : valsAt h q (flts l)) {i x : Nat} (hx : l[i]? = some x) {G : Nat → Prop} : (chkP q fun a => ∃ y : Nat, cell h (a.add i) = some (.float .f64 y) ∧ G y) = G x := vals_flt v (by simp [hx])
theorem u64_at (v : valsAt h q (u64s l)) {i x : Nat} (hx : l[i]? = some x) {G : Int → Prop} : (chkP q fun a => ∃ y : Int, cell h (a.add i) = some (.int .u64 y) ∧ G y) = G x := vals_int v (by simp [hx])

theorem least_l0 (v : valsAt h q (flts l)) (hl : l.length = n) (hn : n < 2 ^ 62) (hb : Bnd l) (hk : K2 (bestI (lowAt l) n) h) :
    ∀ (d i : Nat), i + d = n → forder_first_forder_place_cmp.l0 K2 (d + 1) q n c (bestI (lowAt l) i) q n c (n : Int) (i : Int) h
  | 0, i, hi => by
    unfold forder_first_forder_place_cmp.l0 forder_first_forder_place_cmp.b0
    have : i = n := by omega
    subst this
    exact iteB_neg (decide_eq_false (by omega)) hk
  | d + 1, i, hi => by
    unfold forder_first_forder_place_cmp.l0 forder_first_forder_place_cmp.b0
    obtain ⟨x, hx⟩ := get_lt (l := l) (i := i) (by omega)
    have bd := bestI_bd (lowAt l) i
    refine iteB_pos (decide_eq_true (by omega)) ?_
    intro j
    have J : ∀ y h', j y h' = forder_first_forder_place_cmp.l0 K2 (d + 1) q n c y q n c (n : Int) ((i + 1 : Nat) : Int) h' := by
      intro y h'; simp -zeta only [j]; rw [wrap64 (by omega) (by omega)]; rfl
    simp -zeta (disch := omega) only [chkP_some, iteB_true, iteB_false, add_mk, Nat.zero_add, Nat.add_zero, Nat.mul_one, Nat.reduceAdd, Int.toNat_natCast, ex_int, ex_slice, ex_ptr, ex_bool, ex_str, ex_flt, ex_any, bnd_in, List.getElem?_cons_zero, List.getElem?_cons_succ, List.set_cons_zero, List.set_cons_succ, List.cons_append, List.nil_append, bne_self_eq_false, beq_self_eq_true, Bool.not_true, Bool.not_false, Option.isNone_some, Option.isNone_none, eq_self, true_and, and_true, and_self, flt_at v hx, J]
    have ih := least_l0 v hl hn hb hk d (i + 1) (by omega)
    unfold bestI at ih
    refine iteB_intro (fun e => ?_) (fun e => ?_)
    · rw [if_pos (.inl (by simpa using e))] at ih; exact ih
    · have e : 0 ≤ bestI (lowAt l) i := by simpa using e
      obtain ⟨k, hk2⟩ : ∃ k : Nat, bestI (lowAt l) i = (k : Int) := ⟨_, (Int.toNat_of_nonneg e).symm⟩
      obtain ⟨y, hy⟩ := get_lt (l := l) (i := k) (by omega)
      refine qcallP1.of (pl x) (fun R hR => at_of (hb.at hx) hR) ?_
      rw [hk2]
      simp -zeta (disch := omega) only [chkP_some, iteB_true, iteB_false, add_mk, Nat.zero_add, Nat.add_zero, Nat.mul_one, Nat.reduceAdd, Int.toNat_natCast, ex_int, ex_slice, ex_ptr, ex_bool, ex_str, ex_flt, ex_any, bnd_in, List.getElem?_cons_zero, List.getElem?_cons_succ, List.set_cons_zero, List.set_cons_succ, List.cons_append, List.nil_append, bne_self_eq_false, beq_self_eq_true, Bool.not_true, Bool.not_false, Option.isNone_some, Option.isNone_none, eq_self, true_and, and_true, and_self, flt_at v hy]
      refine qcallP1.of (pl y) (fun R hR => at_of (hb.at hy) hR) ?_
      refine callP1.self (pcmp_of ?_)
      rw [hk2] at ih
      have el : lowAt l i (k : Int).toNat = decide (pl x < pl y) := by unfold lowAt plAt; rw [Int.toNat_natCast, getD_of hx, getD_of hy]
      rw [el] at ih
      refine iteB_intro (fun e => ?_) (fun e => ?_)
      · have e : pl x < pl y := cmpI_lt.1 (by simpa using e)
        rw [if_pos (.inr (by simpa using e))] at ih; exact ih
      · have e : ¬ pl x < pl y := fun h => by have := cmpI_lt.2 h; simp [this] at e
        rw [if_neg (by simp [e])] at ih; exact ih
theorem Least_of (v : valsAt h q (flts l)) (hl : l.length = n) (hn : n < 2 ^ 62) (hb : Bnd l) (hk : K (bestI (lowAt l) n) h) : forder_Least q n c h K := by
  unfold forder_Least
  refine callP1.self ?_
  unfold forder_first_forder_place_cmp
  exact ⟨n + 1, least_l0 v hl hn hb hk n 0 (by omega)⟩
theorem most_l0 (v : valsAt h q (flts l)) (hl : l.length = n) (hn : n < 2 ^ 62) (hb : Bnd l) (hk : K2 (bestI (topAt l) n) h) :
    ∀ (d i : Nat), i + d = n → forder_first_forder_place_back.l0 K2 (d + 1) q n c (bestI (topAt l) i) q n c (n : Int) (i : Int) h
  | 0, i, hi => by
    unfold forder_first_forder_place_back.l0 forder_first_forder_place_back.b0
    have : i = n := by omega
    subst this
    exact iteB_neg (decide_eq_false (by omega)) hk
  | d + 1, i, hi => by
    unfold forder_first_forder_place_back.l0 forder_first_forder_place_back.b0
    obtain ⟨x, hx⟩ := get_lt (l := l) (i := i) (by omega)
    have bd := bestI_bd (topAt l) i
    refine iteB_pos (decide_eq_true (by omega)) ?_
    intro j
    have J : ∀ y h', j y h' = forder_first_forder_place_back.l0 K2 (d + 1) q n c y q n c (n : Int) ((i + 1 : Nat) : Int) h' := by
      intro y h'; simp -zeta only [j]; rw [wrap64 (by omega) (by omega)]; rfl
    simp -zeta (disch := omega) only [chkP_some, iteB_true, iteB_false, add_mk, Nat.zero_add, Nat.add_zero, Nat.mul_one, Nat.reduceAdd, Int.toNat_natCast, ex_int, ex_slice, ex_ptr, ex_bool, ex_str, ex_flt, ex_any, bnd_in, List.getElem?_cons_zero, List.getElem?_cons_succ, List.set_cons_zero, List.set_cons_succ, List.cons_append, List.nil_append, bne_self_eq_false, beq_self_eq_true, Bool.not_true, Bool.not_false, Option.isNone_some, Option.isNone_none, eq_self, true_and, and_true, and_self, flt_at v hx, J]
    have ih := most_l0 v hl hn hb hk d (i + 1) (by omega)
    unfold bestI at ih
    refine iteB_intro (fun e => ?_) (fun e => ?_)
    · rw [if_pos (.inl (by simpa using e))] at ih; exact ih
    · have e : 0 ≤ bestI (topAt l) i := by simpa using e
      obtain ⟨k, hk2⟩ : ∃ k : Nat, bestI (topAt l) i = (k : Int) := ⟨_, (Int.toNat_of_nonneg e).symm⟩
      obtain ⟨y, hy⟩ := get_lt (l := l) (i := k) (by omega)
      refine qcallP1.of (pl x) (fun R hR => at_of (hb.at hx) hR) ?_
      rw [hk2]
      simp -zeta (disch := omega) only [chkP_some, iteB_true, iteB_false, add_mk, Nat.zero_add, Nat.add_zero, Nat.mul_one, Nat.reduceAdd, Int.toNat_natCast, ex_int, ex_slice, ex_ptr, ex_bool, ex_str, ex_flt, ex_any, bnd_in, List.getElem?_cons_zero, List.getElem?_cons_succ, List.set_cons_zero, List.set_cons_succ, List.cons_append, List.nil_append, bne_self_eq_false, beq_self_eq_true, Bool.not_true, Bool.not_false, Option.isNone_some, Option.isNone_none, eq_self, true_and, and_true, and_self, flt_at v hy]
      refine qcallP1.of (pl y) (fun R hR => at_of (hb.at hy) hR) ?_
      refine callP1.self (pback_of ?_)
      rw [hk2] at ih
      have el : topAt l i (k : Int).toNat = decide (pl y < pl x) := by unfold topAt plAt; rw [Int.toNat_natCast, getD_of hx, getD_of hy]
      rw [el] at ih
      refine iteB_intro (fun e => ?_) (fun e => ?_)
      · have e : pl y < pl x := cmpI_lt.1 (by simpa using e)
        rw [if_pos (.inr (by simpa using e))] at ih; exact ih
      · have e : ¬ pl y < pl x := fun h => by have := cmpI_lt.2 h; simp [this] at e
        rw [if_neg (by simp [e])] at ih; exact ih
theorem Most_of (v : valsAt h q (flts l)) (hl : l.length = n) (hn : n < 2 ^ 62) (hb : Bnd l) (hk : K (bestI (topAt l) n) h) : forder_Most q n c h K := by
  unfold forder_Most
  refine callP1.self ?_
  unfold forder_first_forder_place_back
  exact ⟨n + 1, most_l0 v hl hn hb hk n 0 (by omega)⟩

/-! The document's -/
theorem rleast_l0 (v : valsAt h q (u64s l)) (hl : l.length = n) (hn : n < 2 ^ 62) (hb : Bnd l) (hk : K2 (bestI (lowAt l) n) h) :
    ∀ (d i : Nat), i + d = n → straitref03_Least.l0 K2 (d + 1) q n c (bestI (lowAt l) i) (i : Int) h
  | 0, i, hi => by
    unfold straitref03_Least.l0 straitref03_Least.b0
    have : i = n := by omega
    subst this
    exact iteB_neg (decide_eq_false (by omega)) hk
  | d + 1, i, hi => by
    unfold straitref03_Least.l0 straitref03_Least.b0
    obtain ⟨x, hx⟩ := get_lt (l := l) (i := i) (by omega)
    have bd := bestI_bd (lowAt l) i
    have ih := rleast_l0 v hl hn hb hk d (i + 1) (by omega)
    unfold bestI at ih
    refine iteB_pos (decide_eq_true (by omega)) (iteB_intro (fun e => ?_) (fun e => ?_))
    · rw [wrap64 (by omega) (by omega)]
      rw [if_pos (.inl (by simpa using e))] at ih; exact ih
    · have e : 0 ≤ bestI (lowAt l) i := by simpa using e
      obtain ⟨k, hk2⟩ : ∃ k : Nat, bestI (lowAt l) i = (k : Int) := ⟨_, (Int.toNat_of_nonneg e).symm⟩
      obtain ⟨y, hy⟩ := get_lt (l := l) (i := k) (by omega)
      rw [hk2]
      simp -zeta (disch := omega) only [chkP_some, iteB_true, iteB_false, add_mk, Nat.zero_add, Nat.add_zero, Nat.mul_one, Nat.reduceAdd, Int.toNat_natCast, ex_int, ex_slice, ex_ptr, ex_bool, ex_str, ex_flt, ex_any, bnd_in, List.getElem?_cons_zero, List.getElem?_cons_succ, List.set_cons_zero, List.set_cons_succ, List.cons_append, List.nil_append, bne_self_eq_false, beq_self_eq_true, Bool.not_true, Bool.not_false, Option.isNone_some, Option.isNone_none, eq_self, true_and, and_true, and_self, u64_at v hx, u64_at v hy, wrap_id]
      refine qcallP1.of _ (fun R hR => RCmp_of (hb.at hx) (hb.at hy) hR) ?_
      rw [hk2] at ih
      have el : lowAt l i (k : Int).toNat = decide (pl x < pl y) := by unfold lowAt plAt; rw [Int.toNat_natCast, getD_of hx, getD_of hy]
      rw [el] at ih
      refine iteB_intro (fun e => ?_) (fun e => ?_)
      · have e : pl x < pl y := cmpI_lt.1 (by simpa using e)
        rw [if_pos (.inr (by simpa using e))] at ih; exact ih
      · have e : ¬ pl x < pl y := fun h => by have := cmpI_lt.2 h; simp [this] at e
        rw [if_neg (by simp [e])] at ih; exact ih
theorem RLeast_of (v : valsAt h q (u64s l)) (hl : l.length = n) (hn : n < 2 ^ 62) (hb : Bnd l) (hk : K (bestI (lowAt l) n) h) : straitref03_Least q n c h K := by
  unfold straitref03_Least
  exact ⟨n + 1, rleast_l0 v hl hn hb hk n 0 (by omega)⟩
theorem rmost_l0 (v : valsAt h q (u64s l)) (hl : l.length = n) (hn : n < 2 ^ 62) (hb : Bnd l) (hk : K2 (bestI (topAt l) n) h) :
    ∀ (d i : Nat), i + d = n → straitref03_Most.l0 K2 (d + 1) q n c (bestI (topAt l) i) (i : Int) h
  | 0, i, hi => by
    unfold straitref03_Most.l0 straitref03_Most.b0
    have : i = n := by omega
    subst this
    exact iteB_neg (decide_eq_false (by omega)) hk
  | d + 1, i, hi => by
    unfold straitref03_Most.l0 straitref03_Most.b0
    obtain ⟨x, hx⟩ := get_lt (l := l) (i := i) (by omega)
    have bd := bestI_bd (topAt l) i
    have ih := rmost_l0 v hl hn hb hk d (i + 1) (by omega)
    unfold bestI at ih
    refine iteB_pos (decide_eq_true (by omega)) (iteB_intro (fun e => ?_) (fun e => ?_))
    · rw [wrap64 (by omega) (by omega)]
      rw [if_pos (.inl (by simpa using e))] at ih; exact ih
    · have e : 0 ≤ bestI (topAt l) i := by simpa using e
      obtain ⟨k, hk2⟩ : ∃ k : Nat, bestI (topAt l) i = (k : Int) := ⟨_, (Int.toNat_of_nonneg e).symm⟩
      obtain ⟨y, hy⟩ := get_lt (l := l) (i := k) (by omega)
      rw [hk2]
      simp -zeta (disch := omega) only [chkP_some, iteB_true, iteB_false, add_mk, Nat.zero_add, Nat.add_zero, Nat.mul_one, Nat.reduceAdd, Int.toNat_natCast, ex_int, ex_slice, ex_ptr, ex_bool, ex_str, ex_flt, ex_any, bnd_in, List.getElem?_cons_zero, List.getElem?_cons_succ, List.set_cons_zero, List.set_cons_succ, List.cons_append, List.nil_append, bne_self_eq_false, beq_self_eq_true, Bool.not_true, Bool.not_false, Option.isNone_some, Option.isNone_none, eq_self, true_and, and_true, and_self, u64_at v hx, u64_at v hy, wrap_id]
      refine qcallP1.of _ (fun R hR => RCmp_of (hb.at hx) (hb.at hy) hR) ?_
      rw [hk2] at ih
      have el : topAt l i (k : Int).toNat = decide (pl y < pl x) := by unfold topAt plAt; rw [Int.toNat_natCast, getD_of hx, getD_of hy]
      rw [el] at ih
      refine iteB_intro (fun e => ?_) (fun e => ?_)
      · have e : pl y < pl x := cmpI_gt.1 (by simpa using e)
        rw [if_pos (.inr (by simpa using e))] at ih; exact ih
      · have e : ¬ pl y < pl x := fun h => by have := cmpI_gt.2 h; simp [this] at e
        rw [if_neg (by simp [e])] at ih; exact ih
theorem RMost_of (v : valsAt h q (u64s l)) (hl : l.length = n) (hn : n < 2 ^ 62) (hb : Bnd l) (hk : K (bestI (topAt l) n) h) : straitref03_Most q n c h K := by
  unfold straitref03_Most
  exact ⟨n + 1, rmost_l0 v hl hn hb hk n 0 (by omega)⟩

/-- Those ahead of which none stands that is like them. -/
def heads (l : List Int) : Nat → List Int
  | 0 => []
  | n + 1 => if l.getD n 0 ∈ l.take n then heads l n else heads l n ++ [l.getD n 0]
theorem heads_le (l : List Int) : ∀ n, (heads l n).length ≤ n
  | 0 => by simp [heads]
  | n + 1 => by have := heads_le l n; unfold heads; split <;> simp <;> omega
theorem rcount_l1 (v : valsAt h q (u64s l)) (hl : l.length = n) (hn : n < 2 ^ 62) (hb : Bnd l) {K4 : Bool → Heap → Prop} {i x : Nat} {s : Int} (hx : l[i]? = some x) (hk : K4 (decide (pl x ∈ (l.map pl).take i)) h) :
    ∀ (d k : Nat), k + d = i → straitref03_Count.l1 K4 (d + 1) q n c s (i : Int) (decide (pl x ∈ (l.map pl).take k)) (k : Int) h
  | 0, k, hi => by
    unfold straitref03_Count.l1 straitref03_Count.b1
    have : k = i := by omega
    subst this
    exact iteB_neg (decide_eq_false (by omega)) hk
  | d + 1, k, hi => by
    unfold straitref03_Count.l1 straitref03_Count.b1
    have := lt_get hx
    obtain ⟨y, hy⟩ := get_lt (l := l) (i := k) (by omega)
    have ih := rcount_l1 v hl hn hb (s := s) hx hk d (k + 1) (by omega)
    have et : (l.map pl).take (k + 1) = (l.map pl).take k ++ [pl y] := take_snoc (by simp [hy])
    rw [et] at ih
    refine iteB_pos (decide_eq_true (by omega)) (iteB_intro (fun e => ?_) (fun e => ?_))
    · have e : pl x ∈ (l.map pl).take k := by simpa using e
      rw [wrap64 (by omega) (by omega)]
      rw [decide_eq_true (by simp [e])] at ih; exact ih
    · have e : pl x ∉ (l.map pl).take k := by simpa using e
      simp -zeta (disch := omega) only [chkP_some, iteB_true, iteB_false, add_mk, Nat.zero_add, Nat.add_zero, Nat.mul_one, Nat.reduceAdd, Int.toNat_natCast, ex_int, ex_slice, ex_ptr, ex_bool, ex_str, ex_flt, ex_any, bnd_in, List.getElem?_cons_zero, List.getElem?_cons_succ, List.set_cons_zero, List.set_cons_succ, List.cons_append, List.nil_append, bne_self_eq_false, beq_self_eq_true, Bool.not_true, Bool.not_false, Option.isNone_some, Option.isNone_none, eq_self, true_and, and_true, and_self, u64_at v hx, u64_at v hy, wrap_id]
      refine qcallP1.of _ (fun R hR => RCmp_of (hb.at hx) (hb.at hy) hR) ?_
      have e2 : (cmpI (pl x) (pl y) == 0) = decide (pl x ∈ (l.map pl).take k ++ [pl y]) := by
        have := cmpI_eq (x := pl x) (y := pl y)
        by_cases c : pl x = pl y
        · rw [decide_eq_true (by simp [c]), this.2 c]; rfl
        · rw [decide_eq_false (by simp only [List.mem_append, List.mem_singleton]; exact fun h => h.elim e c)]; simpa using fun h => c (this.1 h)
      rw [e2]; exact ih
theorem rcount_l0 (v : valsAt h q (u64s l)) (hl : l.length = n) (hn : n < 2 ^ 62) (hb : Bnd l) (hk : K2 ((heads (l.map pl) n).length : Nat) h) :
    ∀ (d i : Nat), i + d = n → straitref03_Count.l0 K2 (d + 1) q n c ((heads (l.map pl) i).length : Nat) (i : Int) h
  | 0, i, hi => by
    unfold straitref03_Count.l0 straitref03_Count.b0
    have : i = n := by omega
    subst this
    exact iteB_neg (decide_eq_false (by omega)) hk
  | d + 1, i, hi => by
    unfold straitref03_Count.l0 straitref03_Count.b0
    obtain ⟨x, hx⟩ := get_lt (l := l) (i := i) (by omega)
    have ih := rcount_l0 v hl hn hb hk d (i + 1) (by omega)
    have hle := heads_le (l.map pl) i
    have eg : (l.map pl).getD i 0 = pl x := by simp [List.getD, hx]
    refine iteB_pos (decide_eq_true (by omega)) ⟨i + 1, rcount_l1 v hl hn hb (K4 := _) hx ?_ i 0 (by omega)⟩
    unfold heads at ih
    rw [eg] at ih
    refine iteB_intro (fun e => ?_) (fun e => ?_)
    · have e : pl x ∉ (l.map pl).take i := by simpa using e
      rw [if_neg e] at ih
      rw [wrap64 (by omega) (by omega), wrap64 (by omega) (by omega)]
      simp only [List.length_append, List.length_singleton] at ih
      exact ih
    · have e : pl x ∈ (l.map pl).take i := by simpa using e
      rw [if_pos e] at ih
      rw [wrap64 (by omega) (by omega)]; exact ih
theorem RCount_of (v : valsAt h q (u64s l)) (hl : l.length = n) (hn : n < 2 ^ 62) (hb : Bnd l) (hk : K ((heads (l.map pl) n).length : Nat) h) : straitref03_Count q n c h K := by
  unfold straitref03_Count
  exact ⟨n + 1, rcount_l0 v hl hn hb hk n 0 (by omega)⟩
end
end Go.Proofs.Ytcmbgiekffgcoaa
