/-
  Texts, plainly: what is found at runes is found at bytes.
-/
import Derived.Test.YtnepdopakngpfaaDoorZ2
namespace Go.Proofs.YtnepdopakngpfaaDoor
set_option linter.unusedVariables false
set_option linter.unusedSimpArgs false
open Go.Proofs Go.Shelf Go.RowKit Go.Lib
theorem get_bang (s : ByteArray) (i : Nat) (h : i < s.size) : s.get! i = s[i]'h := by
  show s.data[i]! = s.data[i]'h
  exact getElem!_pos s.data i h
/-- What a rune beyond ASCII takes is beyond ASCII. -/
theorem high_in (s : ByteArray) (pos : Nat) (h : pos < s.size) (ha : 128 ≤ (s[pos]'h).toNat) (j : Nat) (h1 : pos ≤ j) (h2 : j < pos + (Utf8.decode s pos).2) (h3 : j < s.size) : 128 ≤ (s[j]'h3).toNat := by
  have e0 := get_bang s pos h
  rw [Lib.decode_at] at h2
  rw [← e0] at ha
  rw [← get_bang s j h3]
  unfold Lib.decodeN at h2
  have hcases : j = pos ∨ j = pos + 1 ∨ j = pos + 2 ∨ j = pos + 3 ∨ pos + 4 ≤ j := by omega
  rcases hcases with rfl | rfl | rfl | rfl | hj
  · exact ha
  all_goals (repeat' split at h2)
  all_goals first | omega | (simp only at h2; omega)
theorem idx_sign (p : Nat → Bool) (pb : UInt8 → Bool) (hi : Bool) (s : ByteArray) (h1 : ∀ b : UInt8, b.toNat < 128 → p b.toNat = pb b) (h2 : ∀ b : UInt8, 128 ≤ b.toNat → pb b = hi) (h3 : ∀ r, 128 ≤ r → p r = hi) :
    ∀ f pos, s.size ≤ pos + f → (0 ≤ Lib.idxFuncFrom p true s f pos ↔ ∃ j, pos ≤ j ∧ ∃ h : j < s.size, pb (s[j]'h) = true) := by
  intro f
  induction f with
  | zero =>
    intro pos hf
    constructor
    · intro h; simp [Lib.idxFuncFrom] at h
    · rintro ⟨j, hj, h, _⟩; omega
  | succ f ih =>
    intro pos hf
    unfold Lib.idxFuncFrom
    by_cases hp : pos < s.size
    · rw [if_pos hp]
      by_cases ha : (s[pos]'hp).toNat < 128
      · rw [decode_ascii s pos hp ha]
        simp only
        rw [h1 _ ha]
        by_cases c : pb (s[pos]'hp) = true
        · rw [if_pos c]
          exact ⟨fun _ => ⟨pos, Nat.le_refl _, hp, c⟩, fun _ => by omega⟩
        · rw [if_neg c, ih (pos + 1) (by omega)]
          constructor
          · rintro ⟨j, hj, h, hb⟩; exact ⟨j, by omega, h, hb⟩
          · rintro ⟨j, hj, h, hb⟩
            by_cases e : j = pos
            · subst e; exact absurd hb c
            · exact ⟨j, by omega, h, hb⟩
      · have ha : 128 ≤ (s[pos]'hp).toNat := by omega
        obtain ⟨d1, d2⟩ := decode_high s pos hp ha
        rw [h3 _ d1]
        cases hi with
        | true =>
          rw [if_pos rfl]
          exact ⟨fun _ => ⟨pos, Nat.le_refl _, hp, h2 _ ha⟩, fun _ => by omega⟩
        | false =>
          rw [if_neg (by decide), ih _ (by omega)]
          constructor
          · rintro ⟨j, hj, h, hb⟩; exact ⟨j, by omega, h, hb⟩
          · rintro ⟨j, hj, h, hb⟩
            by_cases e : pos + (Utf8.decode s pos).2 ≤ j
            · exact ⟨j, e, h, hb⟩
            · have := h2 _ (high_in s pos hp ha j hj (by omega) h)
              rw [this] at hb; cases hb
    · rw [if_neg hp]
      constructor
      · intro h; omega
      · rintro ⟨j, hj, h, _⟩; omega
def spB (b : UInt8) : Bool := b == 32 || b == 10
theorem idx_sp (s : ByteArray) : decide (0 ≤ Lib.idxFunc spP true s) = s.data.toList.any spB := by
  have all : ∀ b : Fin 256, (b.val < 128 → spP b.val = spB (UInt8.ofNat b.val)) ∧ (128 ≤ b.val → spB (UInt8.ofNat b.val) = false) := by decide +kernel
  have fb : ∀ b : UInt8, UInt8.ofNat b.toNat = b := fun b => by simp
  have := idx_sign spP spB false s (fun b hb => by have := (all ⟨b.toNat, b.toNat_lt⟩).1 hb; rw [fb] at this; exact this) (fun b hb => by have := (all ⟨b.toNat, b.toNat_lt⟩).2 hb; rw [fb] at this; exact this) (fun r hr => by unfold spP; simp; omega) s.size 0 (by omega)
  apply Bool.eq_iff_iff.2
  rw [decide_eq_true_iff, List.any_eq_true]
  unfold Lib.idxFunc
  rw [this]
  constructor
  · rintro ⟨j, _, h, hb⟩
    exact ⟨_, List.mem_of_getElem? (Lib.data_getElem? s j h), hb⟩
  · rintro ⟨b, hm, hb⟩
    obtain ⟨j, hj⟩ := List.mem_iff_getElem?.1 hm
    have h : j < s.size := by rw [Lib.size_eq]; exact (List.getElem?_eq_some_iff.1 hj).1
    refine ⟨j, Nat.zero_le _, h, ?_⟩
    have := Lib.data_getElem? s j h
    rw [this] at hj
    rw [Option.some.inj hj]; exact hb
end Go.Proofs.YtnepdopakngpfaaDoor
