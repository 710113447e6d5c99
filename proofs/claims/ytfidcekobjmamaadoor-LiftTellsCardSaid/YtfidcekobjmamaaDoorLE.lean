/-
  Jumps in a tree: what is above.
-/
import Derived.Test.YtfidcekobjmamaaDoorLD
namespace Go.Proofs.YtfidcekobjmamaaDoor
set_option linter.unusedVariables false
set_option linter.unusedSimpArgs false
set_option linter.unnecessarySimpa false
open Go.Hp Go.RowKit
attribute [local irreducible] Go.Hp.iteB Go.Hp.stC Go.Hp.newP

theorem one_rootL {up w : List Int} (r : RightT up w) : ∀ a b : Nat, a < up.length → b < up.length → UU up a = -1 → UU up b = -1 → a = b := by
  intro a b ha hb h1 h2
  apply Classical.byContradiction
  intro hne
  have h : (up.filter (· == -1)).length ≤ 1 := by rw [r.roots]; omega
  have key : ∀ (l : List Int) (i j : Nat), i < j → l[i]? = some (-1) → l[j]? = some (-1) → 2 ≤ (l.filter (· == -1)).length := by
    intro l
    induction l with
    | nil => intro i j _ hi; simp at hi
    | cons x l ih =>
      intro i j hij hi hj
      obtain ⟨j, rfl⟩ : ∃ k, j = k + 1 := ⟨j - 1, by omega⟩
      have hj : l[j]? = some (-1) := by simpa using hj
      cases i with
      | zero =>
        have hx : x = -1 := by simpa using hi
        subst hx
        have : (-1 : Int) ∈ l.filter (· == -1) := List.mem_filter.2 ⟨List.mem_of_getElem? hj, rfl⟩
        have := List.length_pos_of_mem this
        rw [List.filter_cons_of_pos (by rfl)]; simp only [List.length_cons]; omega
      | succ i =>
        have := ih i j (by omega) (by simpa using hi) hj
        by_cases c : (x == -1) = true
        · rw [List.filter_cons, if_pos c]; simp only [List.length_cons]; omega
        · rw [List.filter_cons, if_neg c]; exact this
  have g1 := UU_get0 ha
  have g2 := UU_get0 hb
  rw [h1] at g1
  rw [h2] at g2
  rcases Nat.lt_or_ge a b with c | c
  · have := key up a b c g1 g2; omega
  · have := key up b a (by omega) g2 g1; omega
theorem TK.of {h0 : Base} {Z : Rws} {n : Nat} {up w : List Int} {D : Nat → Int} {z : LT} (ht : Tab h0.heap) (r : RightT up w) (hup : up.length = n) (lt : LTk h0 Z z n w D (jK up w)) (hD : ∀ v, v < n → ∃ d : Nat, D v = (d : Int) ∧ hasD (UU up) n d v) (l1 : 0 < z.rs.length) (l2 : n ≤ 2 ^ z.rs.length) (l3 : z.rs.length ≤ 13) : TK h0 Z z n up w D :=
  ⟨ht, lt, by have := r.max; omega, l2, l1, l3, hD, by subst hup; exact one_rootL r⟩
end Go.Proofs.YtfidcekobjmamaaDoor
