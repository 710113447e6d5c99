/-
  Sides: plain laws (out of wip/side/XS8, XS9).
-/
import Derived.Test.YtbhndlpjfncliaaGreatS6
namespace Go.Proofs.YtbhndlpjfncliaaGreat
set_option linter.unusedVariables false
set_option linter.unusedSimpArgs false
set_option linter.unnecessarySimpa false
open Go Go.Hp Go.RowKit

theorem crs_side {n : Nat} {l : List Int} {L : List Ed} (G : Gr n L) : crs (inS n l) 0 L = crs (memS l) 0 L := crs_congr fun e he => by
  have r := G.range e he
  rw [inS_eq, inS_eq, decide_eq_true (show inV e.1 n from ⟨r.1, by omega⟩), decide_eq_true (show inV e.2.1 n from ⟨by omega, r.2.2.1⟩), Bool.true_and, Bool.true_and]
  exact ⟨rfl, rfl⟩
/-- The vertices that are in. -/
def bl (P : Nat → Bool) (n : Nat) : List Int := ((List.range n).filter P).map fun v : Nat => (v : Int)
theorem bl_succ (P : Nat → Bool) (n : Nat) : bl P (n + 1) = bl P n ++ (if P n = true then [(n : Int)] else []) := by
  unfold bl
  rw [List.range_succ, List.filter_append, List.map_append]
  congr 1
  by_cases h : P n = true
  · rw [if_pos h]; simp [h]
  · rw [if_neg h]; simp [h]
theorem bl_len (P : Nat → Bool) (n : Nat) : (bl P n).length ≤ n := by
  unfold bl
  have := List.length_filter_le P (List.range n)
  simpa using this
theorem mem_bl {P : Nat → Bool} {n : Nat} {k : Nat} (hk : k < n) : memS (bl P n) (k : Int) = P k := by
  unfold memS bl
  by_cases h : P k = true
  · rw [h]; exact decide_eq_true (List.mem_map.2 ⟨k, List.mem_filter.2 ⟨List.mem_range.2 hk, h⟩, rfl⟩)
  · have h : P k = false := by simpa using h
    rw [h]
    refine decide_eq_false fun hm => ?_
    obtain ⟨x, hx, e⟩ := List.mem_map.1 hm
    have hx := (List.mem_filter.1 hx).2
    have : x = k := by omega
    subst this
    rw [h] at hx; cases hx
theorem rise_of {n : Int} : ∀ {l : List Int} {p : Int}, l.Pairwise (· < ·) → (∀ x ∈ l, p < x ∧ x < n) → riseS n p l = true
  | [], _, _, _ => rfl
  | x :: l, p, hp, hx => by
    obtain ⟨h1, h2⟩ := List.pairwise_cons.1 hp
    simp only [riseS, Bool.and_eq_true, decide_eq_true_eq]
    exact ⟨(hx x (by simp)).1, (hx x (by simp)).2, rise_of h2 fun y hy => ⟨h1 y hy, (hx y (by simp [hy])).2⟩⟩
theorem rise_bl (P : Nat → Bool) (n : Nat) : riseS n (-1) (bl P n) = true := by
  refine rise_of ?_ fun x hx => ?_
  · unfold bl
    rw [List.pairwise_map]
    exact (List.Pairwise.filter P List.pairwise_lt_range).imp fun h => by omega
  · obtain ⟨y, hy, rfl⟩ := List.mem_map.1 hx
    have := List.mem_range.1 (List.mem_filter.1 hy).1
    omega
theorem chk_bl (P : Nat → Bool) (n : Nat) : chkS n (bl P n) = if ((bl P n).length : Int) = 0 ∨ ((bl P n).length : Int) = n then 16 else 0 := by
  unfold chkS; rw [if_pos (rise_bl P n)]
theorem len_bl (P : Nat → Bool) : ∀ n, (bl P n).length + (bl (fun v => !P v) n).length = n
  | 0 => rfl
  | n + 1 => by
    have ih := len_bl P n
    rw [bl_succ, bl_succ, List.length_append, List.length_append]
    cases P n <;> simp <;> omega
theorem all_bl {P : Nat → Bool} {n : Nat} (h : (bl P n).length = n) : ∀ k, k < n → P k = true := by
  have h2 := len_bl P n
  have h3 : bl (fun v => !P v) n = [] := List.length_eq_zero_iff.1 (by omega)
  intro k hk
  have := mem_bl (P := fun v => !P v) hk
  rw [h3] at this
  have e : memS [] (k : Int) = false := decide_eq_false (by simp)
  rw [e] at this
  simpa using this.symm
/-! ### What a side weighs -/
def cutW (p : Int → Bool) (e : Ed) : Int := if (p e.1 != p e.2.1) = true then e.2.2 else 0
theorem sum_cut (p : Int → Bool) : ∀ (L : List Ed) (i : Nat) (acc : Int), 0 ≤ acc → (∀ e ∈ L, 0 ≤ e.2.2) → acc + wsum L ≤ 9223372036854775807 → (crs p i L).foldl (fun s x => IntKind.i64.wrap (s + x.2.2.2)) acc = acc + tsum (cutW p) L
  | [], i, acc, _, _, _ => by simp [crs, tsum]
  | e :: L, i, acc, h0, hw, hs => by
    have h1 := hw e (by simp)
    have hL : ∀ x ∈ L, 0 ≤ x.2.2 := fun x hx => hw x (by simp [hx])
    have h2 : 0 ≤ wsum L := good_sum (l := L) hL
    have hs' : acc + (wf_ e + wsum L) ≤ 9223372036854775807 := hs
    unfold wf_ at hs'
    rw [tsum_cons]
    unfold crs
    by_cases c : (p e.1 != p e.2.1) = true
    · rw [if_pos c, List.foldl_cons]
      have ew : IntKind.i64.wrap (acc + e.2.2) = acc + e.2.2 := wrap64 (by omega) (by omega)
      show (crs p (i + 1) L).foldl _ (IntKind.i64.wrap (acc + e.2.2)) = _
      rw [ew, sum_cut p L (i + 1) (acc + e.2.2) (by omega) hL (by omega)]
      unfold cutW; rw [if_pos c]; omega
    · rw [if_neg c, sum_cut p L (i + 1) acc h0 hL (by omega)]
      unfold cutW; rw [if_neg c]; omega
theorem tsum_le {f g : Ed → Int} : ∀ {L : List Ed}, (∀ e ∈ L, f e ≤ g e) → tsum f L ≤ tsum g L
  | [], _ => Int.le_refl _
  | e :: L, h => by
    have h1 := tsum_le (L := L) fun x hx => h x (by simp [hx])
    have h2 := h e (by simp)
    rw [tsum_cons, tsum_cons]; omega
section
variable {n : Nat} {L : List Ed}
theorem cut_le {p : Int → Bool} (G : Gr n L) : 0 ≤ tsum (cutW p) L ∧ tsum (cutW p) L ≤ 2147483648 * 1048576 := by
  have hw : ∀ e ∈ L, 0 ≤ e.2.2 := fun e he => by have := G.range e he; omega
  constructor
  · exact tsum_nonneg fun e he => by unfold cutW; split; exact hw e he; omega
  · refine Int.le_trans (tsum_le (g := wf_) fun e he => ?_) G.sum
    unfold cutW wf_
    have := hw e he
    split <;> omega
theorem sum_tsum {p : Int → Bool} (G : Gr n L) : sumX (crs p 0 L) = tsum (cutW p) L := by
  have hw : ∀ e ∈ L, 0 ≤ e.2.2 := fun e he => by have := G.range e he; omega
  unfold sumX
  have hs := G.sum
  rw [sum_cut _ L 0 0 (by omega) hw (by omega)]; omega
theorem sum_nonneg {p : Int → Bool} (G : Gr n L) : 0 ≤ sumX (crs p 0 L) := by rw [sum_tsum G]; exact (cut_le G).1
end
end Go.Proofs.YtbhndlpjfncliaaGreat
