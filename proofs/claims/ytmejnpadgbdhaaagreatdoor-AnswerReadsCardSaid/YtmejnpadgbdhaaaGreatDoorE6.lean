/-
  Numbers in digits, plainly: texts that are numbers.
-/
import Derived.Test.YtmejnpadgbdhaaaGreatDoorE5
namespace Go.Proofs.YtmejnpadgbdhaaaGreatDoor
set_option linter.unusedVariables false
set_option linter.unusedSimpArgs false
open Go.Proofs Go.Lib
/-- Is this text a number's digits? -/
def formL (l : List UInt8) : Bool := if l.head? = some 45 then natB l.tail && l.tail != [48] else natB l
/-- The number of these digits. -/
def valI (l : List UInt8) : Int := if l.head? = some 45 then -(valN 0 l.tail : Int) else (valN 0 l : Int)
theorem valN_pos {l : List UInt8} (h : natB l = true) (h0 : l ≠ [48]) : 1 ≤ valN 0 l := by
  simp only [natB, Bool.and_eq_true, Bool.or_eq_true, beq_iff_eq] at h
  obtain ⟨hd, hh⟩ := h
  have hh := hh.resolve_left h0
  match l, hd, hh with
  | [], _, hh => simp at hh
  | c :: r, hd, hh =>
    simp only [List.all_cons, Bool.and_eq_true] at hd
    have hc := dg_iff.1 hd.1
    have hn : c ≠ 48 := by simpa using hh
    have hn' : c.toNat ≠ 48 := fun e => hn (UInt8.toNat_inj.1 e)
    rw [valN_cons]
    have := valN_ge r (0 * 10 + (c.toNat - 48))
    omega
theorem itoa_val {l : List UInt8} (h : formL l = true) : itoa (valI l) = l := by
  unfold formL at h
  unfold valI
  split at h
  · rename_i hh
    rw [if_pos hh]
    simp only [Bool.and_eq_true, bne_iff_ne, ne_eq] at h
    rw [itoa_neg _ (valN_pos h.1 h.2), natB_dec h.1]
    match l, hh with
    | c :: r, hh => simp at hh; subst hh; rfl
  · rename_i hh
    rw [if_neg hh, itoa_nonneg, natB_dec h]
theorem natB_ne {l : List UInt8} (h : natB l = true) : l ≠ [] := by rintro rfl; simp [natB] at h
theorem natB_all {l : List UInt8} (h : natB l = true) : l.all dgB = true := by simp only [natB, Bool.and_eq_true] at h; exact h.1
theorem uint_form {l : List UInt8} (h : natB l = true) : parseUintB 64 l = if valN 0 l ≤ 18446744073709551615 then .ok (valN 0 l) else .range := by
  unfold parseUintB
  rw [if_neg (natB_ne h), show (2 ^ 64 - 1 : Nat) = 18446744073709551615 by decide]
  exact parse_digits (fun acc d h => by omega) l 0 (natB_all h) (by omega)
theorem parse_form {l : List UInt8} (h : formL l = true) : parseIntB 64 l = if -9223372036854775808 ≤ valI l ∧ valI l ≤ 9223372036854775807 then .ok (valI l) else .range := by
  unfold formL at h
  unfold valI
  split at h
  · rename_i hh
    rw [if_pos hh]
    simp only [Bool.and_eq_true] at h
    match l, hh, h with
    | c :: r, hh, h =>
      simp at hh; subst hh
      rw [List.tail_cons] at h ⊢
      rw [parseIntB_minus, uint_form h.1]
      generalize valN 0 r = n
      by_cases h1 : n ≤ 18446744073709551615
      · rw [if_pos h1]
        show (if 2 ^ (64 - 1) < n then NumEnd.range else .ok (-(n : Int))) = _
        rw [show (2 ^ (64 - 1) : Nat) = 9223372036854775808 by decide]
        by_cases h2 : 9223372036854775808 < n
        · rw [if_pos h2, if_neg (by omega)]
        · rw [if_neg h2, if_pos (by omega)]
      · rw [if_neg h1, if_neg (by omega)]; rfl
  · rename_i hh
    rw [if_neg hh]
    have ha := natB_all h
    match l, hh, h, ha with
    | [], _, h, _ => exact absurd rfl (natB_ne h)
    | c :: r, hh, h, ha =>
      simp only [List.all_cons, Bool.and_eq_true] at ha
      have hc := dg_iff.1 ha.1
      rw [parseIntB_plain 64 c r (by omega) (by omega), uint_form h]
      generalize valN 0 (c :: r) = n
      by_cases h1 : n ≤ 18446744073709551615
      · rw [if_pos h1]
        show (if 2 ^ (64 - 1) ≤ n then NumEnd.range else .ok (n : Int)) = _
        rw [show (2 ^ (64 - 1) : Nat) = 9223372036854775808 by decide]
        by_cases h2 : 9223372036854775808 ≤ n
        · rw [if_pos h2, if_neg (by omega)]
        · rw [if_neg h2, if_pos (by omega)]
      · rw [if_neg h1, if_neg (by omega)]; rfl
end Go.Proofs.YtmejnpadgbdhaaaGreatDoor
