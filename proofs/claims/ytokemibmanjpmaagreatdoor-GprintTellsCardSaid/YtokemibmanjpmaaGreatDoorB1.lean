/-
  Plain laws on bits and products of 64 bits.
-/
import Derived.Test.YtokemibmanjpmaaGreatDoorFw9
namespace Go.Hp
set_option linter.unusedVariables false
set_option linter.unusedSimpArgs false
open Go.RowKit

def fits (x : Int) : Prop := -9223372036854775808 ≤ x ∧ x ≤ 9223372036854775807
instance (x : Int) : Decidable (fits x) := by unfold fits; exact inferInstance

theorem toInt_ofInt {x : Int} (h : fits x) : (BitVec.ofInt 64 x).toInt = x := by
  unfold fits at h
  rw [BitVec.toInt_ofInt]; simp only [Int.bmod]; omega

theorem wrap_toNat (b : BitVec 64) : IntKind.i64.wrap (b.toNat : Int) = b.toInt := by
  rw [wrap_i64_eq, BitVec.toInt_eq_toNat_cond]
  have := b.isLt
  split <;> omega

theorem msb_lt {x : Int} (h : fits x) : (BitVec.ofInt 64 x).msb = decide (x < 0) := by
  rw [BitVec.msb_eq_toInt, toInt_ofInt h]

theorem ofInt_wrap (b : BitVec 64) : BitVec.ofInt 64 (IntKind.i64.wrap (b.toNat : Int)) = b := by
  rw [wrap_toNat]; exact BitVec.ofInt_toInt

theorem bits_i64_and (x y : Int) : bits .and .i64 x y = (BitVec.ofInt 64 x &&& BitVec.ofInt 64 y).toInt := by
  unfold bits; exact wrap_toNat _
theorem bits_i64_xor (x y : Int) : bits .xor .i64 x y = (BitVec.ofInt 64 x ^^^ BitVec.ofInt 64 y).toInt := by
  unfold bits; exact wrap_toNat _

theorem sign_and_xor {a b c d : Int} (ha : fits a) (hb : fits b) (hc : fits c) (hd : fits d) :
    decide (bits .and .i64 (bits .xor .i64 a b) (bits .xor .i64 c d) < 0) = ((decide (a < 0) != decide (b < 0)) && (decide (c < 0) != decide (d < 0))) := by
  rw [bits_i64_and, bits_i64_xor, bits_i64_xor, BitVec.ofInt_toInt, BitVec.ofInt_toInt, ← BitVec.msb_eq_toInt]
  simp [BitVec.msb_and, BitVec.msb_xor, msb_lt ha, msb_lt hb, msb_lt hc, msb_lt hd]

theorem fits_wrap (x : Int) : fits (IntKind.i64.wrap x) := by rw [wrap_i64_eq]; unfold fits; omega

def addR (a b : Int) : Int × Bool := if fits (a + b) then (a + b, true) else (0, false)
def subR (a b : Int) : Int × Bool := if fits (a - b) then (a - b, true) else (0, false)
def mulR (a b : Int) : Int × Bool := if fits (a * b) then (a * b, true) else (0, false)

theorem add_over {a b : Int} (ha : fits a) (hb : fits b) :
    decide (bits .and .i64 (bits .xor .i64 a (IntKind.i64.wrap (a + b))) (bits .xor .i64 b (IntKind.i64.wrap (a + b))) < 0) = !decide (fits (a + b)) := by
  rw [sign_and_xor ha (fits_wrap _) hb (fits_wrap _), wrap_i64_eq]
  unfold fits at *
  by_cases h1 : a < 0 <;> by_cases h2 : b < 0 <;> by_cases h3 : -9223372036854775808 ≤ a + b ∧ a + b ≤ 9223372036854775807 <;> simp [h1, h2, h3] <;> omega

theorem sub_over {a b : Int} (ha : fits a) (hb : fits b) :
    decide (bits .and .i64 (bits .xor .i64 a b) (bits .xor .i64 a (IntKind.i64.wrap (a - b))) < 0) = !decide (fits (a - b)) := by
  rw [sign_and_xor ha hb ha (fits_wrap _), wrap_i64_eq]
  unfold fits at *
  by_cases h1 : a < 0 <;> by_cases h2 : b < 0 <;> by_cases h3 : -9223372036854775808 ≤ a - b ∧ a - b ≤ 9223372036854775807 <;> simp [h1, h2, h3] <;> omega

theorem low32 {a : Int} (h0 : 0 ≤ a) (h1 : a < 18446744073709551616) : bits .and .u64 a 4294967295 = a % 4294967296 := by
  unfold bits
  rw [wrap_u64]
  show ((((BitVec.ofInt 64 a : BitVec 64) &&& (BitVec.ofInt 64 4294967295 : BitVec 64)).toNat : Nat) : Int) % 18446744073709551616 = a % 4294967296
  have e1 : (BitVec.ofInt 64 a).toNat = a.toNat := by rw [BitVec.toNat_ofInt]; omega
  have e2 : (BitVec.ofInt 64 4294967295).toNat = 2 ^ 32 - 1 := by decide
  rw [BitVec.toNat_and, e1, e2, Nat.and_two_pow_sub_one_eq_mod]
  omega
theorem fdiv32 {a : Int} : a.fdiv (2 ^ 32) = a / 4294967296 := by
  rw [Int.fdiv_eq_ediv_of_nonneg _ (by decide)]; rfl

theorem mul_bd {a b m : Int} (ha : 0 ≤ a) (ha' : a ≤ m) (hb : 0 ≤ b) (hb' : b ≤ m) : 0 ≤ a * b ∧ a * b ≤ m * m :=
  ⟨Int.mul_nonneg ha hb, Int.mul_le_mul ha' hb' hb (by omega)⟩

/-- The 128 bits of a product. -/
theorem mul_hi {a b : Int} (ha : 0 ≤ a) (ha' : a < 18446744073709551616) (hb : 0 ≤ b) (hb' : b < 18446744073709551616) :
    let w (x : Int) := IntKind.u64.wrap x
    let t := w (w ((a.fdiv (2 ^ 32)) * (bits .and .u64 b 4294967295)) + (w ((bits .and .u64 a 4294967295) * (bits .and .u64 b 4294967295))).fdiv (2 ^ 32))
    w (w (w ((a.fdiv (2 ^ 32)) * (b.fdiv (2 ^ 32))) + t.fdiv (2 ^ 32)) + (w (bits .and .u64 t 4294967295 + w ((bits .and .u64 a 4294967295) * (b.fdiv (2 ^ 32))))).fdiv (2 ^ 32)) = a * b / 18446744073709551616 := by
  intro w t
  have hw : ∀ x, w x = x % 18446744073709551616 := wrap_u64
  have la := low32 ha ha'
  have lb := low32 hb hb'
  have e : a * b = (a / 4294967296) * (b / 4294967296) * 18446744073709551616 + ((a / 4294967296) * (b % 4294967296) + (a % 4294967296) * (b / 4294967296)) * 4294967296 + (a % 4294967296) * (b % 4294967296) := by
    have ea := Int.mul_ediv_add_emod a 4294967296
    have eb := Int.mul_ediv_add_emod b 4294967296
    generalize a / 4294967296 = x at *
    generalize a % 4294967296 = y at *
    generalize b / 4294967296 = u at *
    generalize b % 4294967296 = v at *
    rw [← ea, ← eb, show (18446744073709551616 : Int) = 4294967296 * 4294967296 from rfl]
    simp only [Int.mul_add, Int.add_mul, Int.mul_assoc, Int.mul_comm, Int.mul_left_comm]
    omega
  have p1 := mul_bd (a := a / 4294967296) (b := b / 4294967296) (m := 4294967295) (by omega) (by omega) (by omega) (by omega)
  have p2 := mul_bd (a := a / 4294967296) (b := b % 4294967296) (m := 4294967295) (by omega) (by omega) (by omega) (by omega)
  have p3 := mul_bd (a := a % 4294967296) (b := b / 4294967296) (m := 4294967295) (by omega) (by omega) (by omega) (by omega)
  have p4 := mul_bd (a := a % 4294967296) (b := b % 4294967296) (m := 4294967295) (by omega) (by omega) (by omega) (by omega)
  have ht : t = (a / 4294967296) * (b % 4294967296) + (a % 4294967296) * (b % 4294967296) / 4294967296 := by
    show w (w _ + (w _).fdiv _) = _
    rw [la, lb, fdiv32, fdiv32, hw, hw, hw]
    generalize (a / 4294967296) * (b % 4294967296) = q at *
    generalize (a % 4294967296) * (b % 4294967296) = s at *
    omega
  have ht2 := low32 (a := t) (by rw [ht]; omega) (by rw [ht]; omega)
  rw [ht2, la, fdiv32, fdiv32, fdiv32, fdiv32, hw, hw, hw, hw, hw, ht, e]
  generalize (a / 4294967296) * (b % 4294967296) = q at *
  generalize (a % 4294967296) * (b % 4294967296) = s at *
  generalize (a / 4294967296) * (b / 4294967296) = p at *
  generalize (a % 4294967296) * (b / 4294967296) = r at *
  omega
end Go.Hp
