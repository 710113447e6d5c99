/-
  Jumps in a tree: what is above is unique.
-/
import Derived.Test.YtfidcekobjmamaaDoorLC
namespace Go.Proofs.YtfidcekobjmamaaDoor
set_option linter.unusedVariables false
set_option linter.unusedSimpArgs false
set_option linter.unnecessarySimpa false
open Go.Hp Go.RowKit
attribute [local irreducible] Go.Hp.iteB Go.Hp.stC Go.Hp.newP

theorem IsTop.le {up : List Int} {u v du dv top p q top' p' q' : Nat} (h : IsTop up u v du dv top p q) (h' : IsTop up u v du dv top' p' q') : p ≤ p' := by
  obtain ⟨e1, e2, e3, e4, e5, e6⟩ := h
  obtain ⟨g1, g2, g3, g4, g5, g6⟩ := h'
  apply Classical.byContradiction
  intro c
  rcases e6 with e | e | e
  · omega
  · omega
  · refine e ?_
    rw [show p - 1 = p' + (p - 1 - p') by omega, show q - 1 = q' + (p - 1 - p') by omega, upN_add, upN_add, g1, g2]
theorem IsTop.uniq {up : List Int} {u v du dv top p q top' p' q' : Nat} (h : IsTop up u v du dv top p q) (h' : IsTop up u v du dv top' p' q') : p = p' ∧ q = q' ∧ top = top' := by
  have h1 := h.le h'
  have h2 := h'.le h
  have hp : p = p' := by omega
  subst hp
  obtain ⟨e1, e2, e3, e4, e5, e6⟩ := h
  obtain ⟨g1, g2, g3, g4, g5, g6⟩ := h'
  exact ⟨rfl, by omega, by rw [← e1, g1]⟩
/-- So many steps, and so many more. -/
theorem upI_add {up : List Int} {n : Nat} {D : Nat → Int} (hD : ∀ v, v < n → ∃ d : Nat, D v = (d : Int) ∧ hasD (UU up) n d v) {u : Nat} (hu : u < n) {a b : Int} (ha : 0 ≤ a) (hb : 0 ≤ b) : upI up n D u (a + b) = upI up n D (upI up n D u a) b := by
  obtain ⟨d, e, hd⟩ := hD u hu
  obtain ⟨x, rfl⟩ : ∃ x : Nat, a = x := ⟨a.toNat, by omega⟩
  obtain ⟨y, rfl⟩ : ∃ x : Nat, b = x := ⟨b.toNat, by omega⟩
  unfold upI
  rw [Int.toNat_natCast, e]
  by_cases c : x ≤ d
  · have h2 := hd.upN c
    obtain ⟨d2, e2, hd2⟩ := hD _ h2.lt
    have ed : d2 = d - x := hd2.uniq h2
    rw [if_pos (show inL (u : Int) n ∧ (0 : Int) ≤ (x : Int) ∧ (x : Int) ≤ (d : Int) from ⟨⟨by omega, by omega⟩, by omega, by omega⟩), Int.toNat_natCast, Int.toNat_natCast, e2]
    have hl := h2.lt
    by_cases c2 : x + y ≤ d
    · rw [if_pos ⟨⟨by omega, by omega⟩, by omega, by omega⟩, if_pos ⟨⟨by omega, by omega⟩, by omega, by omega⟩]
      rw [show ((x : Int) + (y : Int)).toNat = x + y by omega, Int.toNat_natCast, upN_add]
    · rw [if_neg (by omega), if_neg (by omega)]
  · rw [if_neg (by omega), if_neg (show ¬ (inL (u : Int) n ∧ (0 : Int) ≤ (x : Int) ∧ (x : Int) ≤ (d : Int)) by omega), if_neg (by omega)]
end Go.Proofs.YtfidcekobjmamaaDoor
