/-
  Jumps in a tree: the plain law of where two meet.
-/
import Derived.Test.YtfidcekobjmamaaDoorL8
namespace Go.Proofs.YtfidcekobjmamaaDoor
set_option linter.unusedVariables false
set_option linter.unusedSimpArgs false
set_option linter.unnecessarySimpa false
open Go.Hp Go.RowKit

/-- They come together after 't' steps, and not before. -/
def Apart (U : Nat → Int) (t u v : Nat) : Prop := upN U t u = upN U t v ∧ ∀ s, s < t → upN U s u ≠ upN U s v
theorem Apart.shift {U : Nat → Int} {t u v a : Nat} (h : Apart U t u v) (ha : a ≤ t) : Apart U (t - a) (upN U a u) (upN U a v) := by
  refine ⟨?_, fun s hs => ?_⟩
  · rw [← upN_add, ← upN_add, show a + (t - a) = t by omega]; exact h.1
  · rw [← upN_add, ← upN_add]; exact h.2 _ (by omega)
theorem Apart.after {U : Nat → Int} {t u v a : Nat} (h : Apart U t u v) (ha : t ≤ a) : upN U a u = upN U a v := by
  rw [show a = t + (a - t) by omega, upN_add, upN_add, h.1]
/-- One row looked at. -/
theorem meet_step {up w : List Int} {n d u v t k : Nat} (hu : hasD (UU up) n d u) (hv : hasD (UU up) n d v) (a : Apart (UU up) t u v) (htd : t ≤ d) :
    ((jK up w k u).1 ≠ (jK up w k v).1 ∧ 2 ^ k < t ∧ 2 ^ k ≤ d ∧ jK up w k u = ((upN (UU up) (2 ^ k) u : Int), lstN (UU up) w (2 ^ k) u) ∧ jK up w k v = ((upN (UU up) (2 ^ k) v : Int), lstN (UU up) w (2 ^ k) v) ∧ Apart (UU up) (t - 2 ^ k) (upN (UU up) (2 ^ k) u) (upN (UU up) (2 ^ k) v)) ∨
    ((jK up w k u).1 = (jK up w k v).1 ∧ t ≤ 2 ^ k) := by
  have ju := jK_law (w := w) k d u hu
  have jv := jK_law (w := w) k d v hv
  by_cases c : 2 ^ k ≤ d
  · rw [if_pos c] at ju jv
    by_cases e : upN (UU up) (2 ^ k) u = upN (UU up) (2 ^ k) v
    · refine .inr ⟨by rw [ju, jv]; simp only [e], ?_⟩
      apply Classical.byContradiction
      intro h
      exact a.2 (2 ^ k) (by omega) e
    · refine .inl ⟨by rw [ju, jv]; simp only [ne_eq]; omega, ?_, c, ju, jv, ?_⟩
      · apply Classical.byContradiction
        intro h
        exact e (a.after (by omega))
      · refine a.shift ?_
        apply Classical.byContradiction
        intro h
        exact e (a.after (by omega))
  · rw [if_neg c] at ju jv
    exact .inr ⟨by rw [ju, jv], by omega⟩
/-- Two of the same depth come together. -/
theorem meets {U : Nat → Int} {n : Nat} (one : ∀ a b : Nat, a < n → b < n → U a = -1 → U b = -1 → a = b) : ∀ {d u v : Nat}, hasD U n d u → hasD U n d v → ∃ t, t ≤ d ∧ Apart U t u v
  | 0, u, v, hu, hv => ⟨0, Nat.le_refl _, one u v hu.1 hv.1 hu.2 hv.2, fun s hs => by omega⟩
  | d + 1, u, v, hu, hv => by
    by_cases e : u = v
    · exact ⟨0, by omega, e, fun s hs => by omega⟩
    · obtain ⟨_, a, ha, hu'⟩ := hu
      obtain ⟨_, b, hb, hv'⟩ := hv
      obtain ⟨t, h1, h2, h3⟩ := meets one hu' hv'
      refine ⟨t + 1, by omega, ?_, fun s hs => ?_⟩
      · show upN U t (U u).toNat = upN U t (U v).toNat
        rw [ha, hb]; exact h2
      · cases s with
        | zero => exact e
        | succ s =>
          show upN U s (U u).toNat ≠ upN U s (U v).toNat
          rw [ha, hb]; exact h3 s (by omega)
end Go.Proofs.YtfidcekobjmamaaDoor
