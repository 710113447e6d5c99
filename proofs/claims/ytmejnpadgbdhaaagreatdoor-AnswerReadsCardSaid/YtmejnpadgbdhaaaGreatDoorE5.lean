/-
  Numbers in digits, plainly: the number of some digits, and the digits of a number.
-/
import Derived.Lib.ParseIntBCases
import Derived.Lib.ItoaMem
namespace Go.Proofs.YtmejnpadgbdhaaaGreatDoor
set_option linter.unusedVariables false
set_option linter.unusedSimpArgs false
open Go.Proofs Go.Lib
/-- Is this byte a digit? -/
def dgB (c : UInt8) : Bool := decide (48 ≤ c.toNat) && decide (c.toNat ≤ 57)
/-- The number of some digits, behind 'acc'. -/
def stepN (a : Nat) (c : UInt8) : Nat := a * 10 + (c.toNat - 48)
def valN (acc : Nat) (l : List UInt8) : Nat := l.foldl stepN acc
theorem valN_cons (acc : Nat) (c : UInt8) (r : List UInt8) : valN acc (c :: r) = valN (acc * 10 + (c.toNat - 48)) r := by
  unfold valN; rw [List.foldl_cons]; rfl
theorem valN_ge : ∀ (l : List UInt8) (acc : Nat), acc ≤ valN acc l
  | [], acc => Nat.le_refl _
  | c :: r, acc => by
    have := valN_ge r (acc * 10 + (c.toNat - 48))
    rw [valN_cons]
    omega
theorem dg_iff {c : UInt8} : dgB c = true ↔ 48 ≤ c.toNat ∧ c.toNat ≤ 57 := by simp [dgB]
theorem pu_cons (M acc : Nat) (c : UInt8) (r : List UInt8) : parseUintM M acc (c :: r) = if 48 ≤ c.toNat ∧ c.toNat ≤ 57 then (if 1844674407370955162 ≤ acc then .range else if M < acc * 10 + (c.toNat - 48) then .range else parseUintM M (acc * 10 + (c.toNat - 48)) r) else .syntax := by
  rw [parseUintM]
theorem parse_digits {M : Nat} (hM : ∀ acc d : Nat, 1844674407370955162 ≤ acc → M < acc * 10 + d) (l : List UInt8) : ∀ (acc : Nat), l.all dgB = true → acc ≤ M → parseUintM M acc l = if valN acc l ≤ M then .ok (valN acc l) else .range := by
  induction l with
  | nil => intro acc _ ha; rw [if_pos (show valN acc [] ≤ M from ha)]; rfl
  | cons c r ih =>
    intro acc h ha
    simp only [List.all_cons, Bool.and_eq_true] at h
    have hc := dg_iff.1 h.1
    have hg := valN_ge r (acc * 10 + (c.toNat - 48))
    rw [pu_cons, if_pos hc, valN_cons]
    by_cases h1 : 1844674407370955162 ≤ acc
    · have hb := hM acc (c.toNat - 48) h1
      rw [if_pos h1, if_neg (Nat.not_le.2 (Nat.lt_of_lt_of_le hb hg))]
    · rw [if_neg h1]
      by_cases h2 : M < acc * 10 + (c.toNat - 48)
      · rw [if_pos h2, if_neg (Nat.not_le.2 (Nat.lt_of_lt_of_le h2 hg))]
      · rw [if_neg h2]
        exact ih _ h.2 (Nat.not_lt.1 h2)
theorem byte_dig {c : UInt8} (h : 48 ≤ c.toNat) : UInt8.ofNat (48 + (c.toNat - 48)) = c := by
  rw [show 48 + (c.toNat - 48) = c.toNat by omega]; simp
theorem dec_step {a d : Nat} (ha : 1 ≤ a) (hd : d < 10) : decDigits (a * 10 + d) = decDigits a ++ [UInt8.ofNat (48 + d)] := by
  rw [decDigits, dif_neg (by omega), show (a * 10 + d) / 10 = a by omega, show (a * 10 + d) % 10 = d by omega]
theorem dec_val (l : List UInt8) : ∀ (a : Nat), 1 ≤ a → l.all dgB = true → decDigits (valN a l) = decDigits a ++ l := by
  induction l with
  | nil => intro a _ _; rw [List.append_nil]; rfl
  | cons c r ih =>
    intro a ha h
    simp only [List.all_cons, Bool.and_eq_true] at h
    have hc := dg_iff.1 h.1
    rw [valN_cons, ih _ (Nat.le_trans ha (by omega)) h.2, dec_step ha (by omega), byte_dig hc.1, List.append_assoc]
    rfl
/-- The digits of a number, without a 0 ahead. -/
def natB (l : List UInt8) : Bool := l.all dgB && (l == [48] || (l.head?.any fun c => c != 48))
theorem natB_dec {l : List UInt8} (h : natB l = true) : decDigits (valN 0 l) = l := by
  simp only [natB, Bool.and_eq_true, Bool.or_eq_true, beq_iff_eq] at h
  obtain ⟨hd, rfl | hh⟩ := h
  · rw [decDigits]; rfl
  · match l, hd, hh with
    | [], _, hh => simp at hh
    | c :: r, hd, hh =>
      simp only [List.all_cons, Bool.and_eq_true] at hd
      have hc := dg_iff.1 hd.1
      have hn : c ≠ 48 := by simpa using hh
      have hn' : c.toNat ≠ 48 := fun e => hn (UInt8.toNat_inj.1 e)
      rw [valN_cons, dec_val r _ (by omega) hd.2, decDigits, dif_pos (by omega), show 48 + (0 * 10 + (c.toNat - 48)) = 48 + (c.toNat - 48) by omega, byte_dig hc.1]
      rfl
end Go.Proofs.YtmejnpadgbdhaaaGreatDoor
