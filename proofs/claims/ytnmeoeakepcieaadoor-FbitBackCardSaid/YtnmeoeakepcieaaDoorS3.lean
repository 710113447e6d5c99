/-
  What the functions of chapter 2 do: a float that is made, by the program and by the document.
-/
import Derived.Test.YtnmeoeakepcieaaDoorS2
namespace Go.Proofs.YtnmeoeakepcieaaDoor
set_option linter.unusedVariables false
set_option linter.unusedSimpArgs false
open Go.Hp Go.RowKit

/-- How many bits a number has. -/
def len (n : Nat) : Nat := if n = 0 then 0 else n.log2 + 1
theorem len_spec {n : Nat} (h : n ≠ 0) : 2 ^ (len n - 1) ≤ n ∧ n < 2 ^ len n := by
  unfold len; rw [if_neg h]
  exact ⟨Nat.log2_self_le h, Nat.lt_log2_self⟩
theorem len_le {n k : Nat} : len n ≤ k ↔ n < 2 ^ k := by
  unfold len
  by_cases h : n = 0
  · subst h; simp [Nat.two_pow_pos]
  · rw [if_neg h, ← Nat.log2_lt h]; omega
theorem len_shift {n : Nat} (k : Nat) (h : n / 2 ^ k ≠ 0) : len n = len (n / 2 ^ k) + k := by
  have h0 : n ≠ 0 := fun e => h (by subst e; simp)
  obtain ⟨a, b⟩ := len_spec h
  have hp := Nat.two_pow_pos k
  have l1 : 0 < len (n / 2 ^ k) := by unfold len; rw [if_neg h]; omega
  apply Nat.le_antisymm
  · rw [len_le, Nat.pow_add]; exact (Nat.div_lt_iff_lt_mul hp).1 b
  · have : ¬ len n ≤ len (n / 2 ^ k) - 1 + k := by
      rw [len_le, Nat.pow_add]
      have := (Nat.le_div_iff_mul_le hp).1 a
      omega
    omega

def len8tab : Array UInt8 := #[0, 1, 2, 2, 3, 3, 3, 3, 4, 4, 4, 4, 4, 4, 4, 4, 5, 5, 5, 5, 5, 5, 5, 5, 5, 5, 5, 5, 5, 5, 5, 5, 6, 6, 6, 6, 6, 6, 6, 6, 6, 6, 6, 6, 6, 6, 6, 6, 6, 6, 6, 6, 6, 6, 6, 6, 6, 6, 6, 6, 6, 6, 6, 6, 7, 7, 7, 7, 7, 7, 7, 7, 7, 7, 7, 7, 7, 7, 7, 7, 7, 7, 7, 7, 7, 7, 7, 7, 7, 7, 7, 7, 7, 7, 7, 7, 7, 7, 7, 7, 7, 7, 7, 7, 7, 7, 7, 7, 7, 7, 7, 7, 7, 7, 7, 7, 7, 7, 7, 7, 7, 7, 7, 7, 7, 7, 7, 7, 8, 8, 8, 8, 8, 8, 8, 8, 8, 8, 8, 8, 8, 8, 8, 8, 8, 8, 8, 8, 8, 8, 8, 8, 8, 8, 8, 8, 8, 8, 8, 8, 8, 8, 8, 8, 8, 8, 8, 8, 8, 8, 8, 8, 8, 8, 8, 8, 8, 8, 8, 8, 8, 8, 8, 8, 8, 8, 8, 8, 8, 8, 8, 8, 8, 8, 8, 8, 8, 8, 8, 8, 8, 8, 8, 8, 8, 8, 8, 8, 8, 8, 8, 8, 8, 8, 8, 8, 8, 8, 8, 8, 8, 8, 8, 8, 8, 8, 8, 8, 8, 8, 8, 8, 8, 8, 8, 8, 8, 8, 8, 8, 8, 8, 8, 8, 8, 8, 8, 8, 8, 8, 8, 8, 8, 8, 8, 8]
set_option maxRecDepth 100000 in
theorem len8_at : ∀ i : Nat, i < 256 → ∃ b8 : UInt8, (⟨len8tab⟩ : ByteArray)[i]? = some b8 ∧ b8.toNat = len i := by
  intro i hi
  have key : ∀ i, i < 256 → (len8tab.getD i 0).toNat = len i := by decide +kernel
  refine ⟨_, ?_, key i hi⟩
  rw [getElem?_pos _ _ (by exact hi)]
  congr 1
  simp only [Array.getD, ByteArray.getElem_eq_getElem_data]
  rw [dif_pos (by exact hi)]; rfl

theorem F35_of {a : Nat} {h : Heap} {K : Int → Heap → Prop} (hl : a < 18446744073709551616) (hk : K (len a : Nat) h) : F35 (a : Int) h K := by
  unfold F35
  have hj9 : ∀ (x n : Nat), x < 256 → n < 60 → len a = len x + n → (0 ≤ (IntKind.u8.wrap (x : Int)) ∧ ∃ b8 : UInt8, (⟨len8tab⟩ : ByteArray)[(IntKind.u8.wrap (x : Int)).toNat]? = some b8 ∧ (K (IntKind.i64.wrap ((n : Int) + (IntKind.i64.wrap (b8.toNat : Int)))) h)) := by
    intro x n hx hn he
    have hw : IntKind.u8.wrap (x : Int) = (x : Int) := by rw [IntKind.wrap_u8']; omega
    obtain ⟨b8, h1, h2⟩ := len8_at x hx
    rw [hw]
    refine ⟨by omega, b8, by simpa using h1, ?_⟩
    have : len x ≤ 8 := len_le.2 hx
    rw [h2, wrap_id (x := (len x : Int)) (by omega) (by omega), wrap_id (by omega) (by omega), show (n : Int) + (len x : Nat) = (len a : Nat) by omega]
    exact hk
  have hp : ∀ (x k : Nat), 2 ^ k ≤ x → x / 2 ^ k ≠ 0 := fun x k hx => Nat.pos_iff_ne_zero.1 (Nat.div_pos hx (Nat.two_pow_pos k))
  intro j11
  have hj11 : ∀ (x n : Nat), x < 4294967296 → n ≤ 32 → len a = len x + n → j11 (x : Int) (n : Int) := by
    intro x n hx hn he
    simp -zeta only [j11]
    intro j10
    have hj10 : ∀ (x n : Nat), x < 65536 → n ≤ 48 → len a = len x + n → j10 (x : Int) (n : Int) := by
      intro x n hx hn he
      simp -zeta only [j10]
      intro j9
      have hj9' : ∀ (x n : Nat), x < 256 → n < 60 → len a = len x + n → j9 (x : Int) (n : Int) := hj9
      clear_value j9
      rw [iteB_decide]
      by_cases c : (x : Int) ≥ 256
      · rw [if_pos c, fdiv_nat, wrap_id (by omega) (by omega)]
        have := len_shift 8 (hp x 8 (by omega))
        exact ⟨by decide, hj9' (x / 2 ^ 8) (n + 8) (by omega) (by omega) (by omega)⟩
      · rw [if_neg c]; exact hj9' x n (by omega) (by omega) he
    clear_value j10
    rw [iteB_decide]
    by_cases c : (x : Int) ≥ 65536
    · rw [if_pos c, fdiv_nat, wrap_id (by omega) (by omega)]
      have := len_shift 16 (hp x 16 (by omega))
      exact ⟨by decide, hj10 (x / 2 ^ 16) (n + 16) (by omega) (by omega) (by omega)⟩
    · rw [if_neg c]; exact hj10 x n (by omega) (by omega) he
  clear_value j11
  rw [iteB_decide]
  by_cases c : (a : Int) ≥ 4294967296
  · rw [if_pos c, fdiv_nat]
    have := len_shift 32 (hp a 32 (by omega))
    exact ⟨by decide, hj11 (a / 2 ^ 32) 32 (by omega) (by omega) (by omega)⟩
  · rw [if_neg c]; exact hj11 a 0 (by omega) (by omega) (by omega)
end Go.Proofs.YtnmeoeakepcieaaDoor
