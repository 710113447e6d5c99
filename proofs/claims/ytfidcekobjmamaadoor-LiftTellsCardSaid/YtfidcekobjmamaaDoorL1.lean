/-
  Jumps in a tree: how many looks at the most; of nil there is nothing.
-/
import Derived.Test.YtfidcekobjmamaaDoorT2
import Derived.Test.YtfidcekobjmamaaDoorB2
import Derived.Test.YtfidcekobjmamaaDoorG3
namespace Go.Proofs.YtfidcekobjmamaaDoor
set_option linter.unusedVariables false
set_option linter.unusedSimpArgs false
set_option linter.unnecessarySimpa false
open Go.Hp Go.RowKit

def len8tab : Array UInt8 := #[0, 1, 2, 2, 3, 3, 3, 3, 4, 4, 4, 4, 4, 4, 4, 4, 5, 5, 5, 5, 5, 5, 5, 5, 5, 5, 5, 5, 5, 5, 5, 5, 6, 6, 6, 6, 6, 6, 6, 6, 6, 6, 6, 6, 6, 6, 6, 6, 6, 6, 6, 6, 6, 6, 6, 6, 6, 6, 6, 6, 6, 6, 6, 6, 7, 7, 7, 7, 7, 7, 7, 7, 7, 7, 7, 7, 7, 7, 7, 7, 7, 7, 7, 7, 7, 7, 7, 7, 7, 7, 7, 7, 7, 7, 7, 7, 7, 7, 7, 7, 7, 7, 7, 7, 7, 7, 7, 7, 7, 7, 7, 7, 7, 7, 7, 7, 7, 7, 7, 7, 7, 7, 7, 7, 7, 7, 7, 7, 8, 8, 8, 8, 8, 8, 8, 8, 8, 8, 8, 8, 8, 8, 8, 8, 8, 8, 8, 8, 8, 8, 8, 8, 8, 8, 8, 8, 8, 8, 8, 8, 8, 8, 8, 8, 8, 8, 8, 8, 8, 8, 8, 8, 8, 8, 8, 8, 8, 8, 8, 8, 8, 8, 8, 8, 8, 8, 8, 8, 8, 8, 8, 8, 8, 8, 8, 8, 8, 8, 8, 8, 8, 8, 8, 8, 8, 8, 8, 8, 8, 8, 8, 8, 8, 8, 8, 8, 8, 8, 8, 8, 8, 8, 8, 8, 8, 8, 8, 8, 8, 8, 8, 8, 8, 8, 8, 8, 8, 8, 8, 8, 8, 8, 8, 8, 8, 8, 8, 8, 8, 8, 8, 8, 8, 8, 8, 8]
set_option maxRecDepth 100000 in
theorem len8_at : ∀ i : Nat, i < 256 → ∃ b8 : UInt8, (⟨len8tab⟩ : ByteArray)[i]? = some b8 ∧ b8.toNat = len i := by
  intro i hi
  have key : ∀ i, i < 256 → (len8tab.getD i 0).toNat = len i := by decide +kernel
  refine ⟨_, ?_, key i hi⟩
  rw [getElem?_pos _ _ (by exact hi)]
  congr 1
  simp only [Array.getD, ByteArray.getElem_eq_getElem_data]
  rw [dif_pos (by exact hi)]; rfl

theorem Len64_of {a : Nat} {h : Heap} {K : Int → Heap → Prop} (hl : a < 18446744073709551616) (hk : K (len a : Nat) h) : bits_Len64 (a : Int) h K := by
  unfold bits_Len64
  have hj9 : ∀ (x n : Nat), x < 256 → n < 60 → len a = len x + n → (0 ≤ (IntKind.u8.wrap (x : Int)) ∧ ∃ b8 : UInt8, (⟨len8tab⟩ : ByteArray)[(IntKind.u8.wrap (x : Int)).toNat]? = some b8 ∧ (K (IntKind.i64.wrap ((n : Int) + (IntKind.i64.wrap (b8.toNat : Int)))) h)) := by
    intro x n hx hn he
    have hw : IntKind.u8.wrap (x : Int) = (x : Int) := by rw [IntKind.wrap_u8']; omega
    obtain ⟨b8, h1, h2⟩ := len8_at x hx
    rw [hw]
    refine ⟨by omega, b8, by simpa using h1, ?_⟩
    have : len x ≤ 8 := len_le.2 hx
    rw [h2, wrap_id (x := (len x : Int)) (by omega) (by omega), wrap_id (by omega) (by omega), show (n : Int) + (len x : Nat) = (len a : Nat) by omega]
    exact hk
  have hp : ∀ (x k : Nat), 2 ^ k ≤ x → x / 2 ^ k ≠ 0 := fun x k hx => Nat.pos_iff_ne_zero.1 (Nat.div_pos hx (Nat.two_pow_pos k))
  intro j11
  have hj11 : ∀ (x n : Nat), x < 4294967296 → n ≤ 32 → len a = len x + n → j11 (x : Int) (n : Int) := by
    intro x n hx hn he
    simp -zeta only [j11]
    intro j10
    have hj10 : ∀ (x n : Nat), x < 65536 → n ≤ 48 → len a = len x + n → j10 (x : Int) (n : Int) := by
      intro x n hx hn he
      simp -zeta only [j10]
      intro j9
      have hj9' : ∀ (x n : Nat), x < 256 → n < 60 → len a = len x + n → j9 (x : Int) (n : Int) := hj9
      clear_value j9
      rw [iteB_decide]
      by_cases c : (x : Int) ≥ 256
      · rw [if_pos c, fdiv_nat, wrap_id (by omega) (by omega)]
        have := len_shift 8 (hp x 8 (by omega))
        exact ⟨by decide, hj9' (x / 2 ^ 8) (n + 8) (by omega) (by omega) (by omega)⟩
      · rw [if_neg c]; exact hj9' x n (by omega) (by omega) he
    clear_value j10
    rw [iteB_decide]
    by_cases c : (x : Int) ≥ 65536
    · rw [if_pos c, fdiv_nat, wrap_id (by omega) (by omega)]
      have := len_shift 16 (hp x 16 (by omega))
      exact ⟨by decide, hj10 (x / 2 ^ 16) (n + 16) (by omega) (by omega) (by omega)⟩
    · rw [if_neg c]; exact hj10 x n (by omega) (by omega) he
  clear_value j11
  rw [iteB_decide]
  by_cases c : (a : Int) ≥ 4294967296
  · rw [if_pos c, fdiv_nat]
    have := len_shift 32 (hp a 32 (by omega))
    exact ⟨by decide, hj11 (a / 2 ^ 32) 32 (by omega) (by omega) (by omega)⟩
  · rw [if_neg c]; exact hj11 a 0 (by omega) (by omega) (by omega)

attribute [local irreducible] Go.Hp.iteB Go.Hp.stC Go.Hp.newP
def mostN (n : Int) : Int := if n < 1 then 0 else 2 + 2 * (len (n - 1).toNat : Int)
theorem Most_of {h : Heap} {n : Int} {K : Int → Heap → Prop} (hf : -9223372036854775808 ≤ n ∧ n ≤ 9223372036854775807) (hk : K (mostN n) h) : lift_Most n h K := by
  unfold lift_Most
  unfold mostN at hk
  refine iteB_intro (fun c => ?_) (fun c => ?_)
  · rwa [if_pos (of_decide_eq_true c)] at hk
  · have c := of_decide_eq_false c
    rw [if_neg c] at hk
    obtain ⟨m, rfl⟩ : ∃ m : Nat, n = (m : Int) + 1 := ⟨(n - 1).toNat, by omega⟩
    rw [show ((m : Int) + 1 - 1).toNat = m by omega] at hk
    refine bindV_intro fun n2 e2 => ?_
    rw [wrap64 (by omega) (by omega), wrap_u64] at e2
    have e2 : n2 = (m : Int) := by omega
    subst e2
    have hl : len m ≤ 64 := len_le.2 (by omega)
    refine qcallP1.of ((len m : Nat) : Int) (fun Q hQ => by
      unfold bits_Len
      exact qcallP1.of _ (fun Q2 hQ2 => Len64_of (by omega) hQ2) hQ) ?_
    refine bindV_intro fun n4 e4 => ?_
    rw [wrap64 (x := 2 * ((len m : Nat) : Int)) (by omega) (by omega), wrap64 (by omega) (by omega)] at e4
    rw [e4]; exact hk
theorem len_is {m k : Nat} (h : m < 2 ^ k) (h2 : k = 0 ∨ 2 ^ (k - 1) ≤ m) : len m = k := by
  have h1 := len_le.2 h
  rcases h2 with rfl | h2
  · omega
  · by_cases c : k = 0
    · omega
    · have : ¬ len m ≤ k - 1 := fun h => by have := len_le.1 h; omega
      omega
theorem rmost_l0 {h : Heap} {n : Nat} {K2 : Int → Int → Heap → Prop} (hn : n ≤ 9223372036854775807) (hk : ∀ k : Nat, k ≤ 62 → (k = 0 ∨ 2 ^ (k - 1) < n) → (n ≤ 2 ^ k ∨ k = 62) → K2 (k : Int) ((2 ^ k : Nat) : Int) h) :
    ∀ (d k : Nat), k + d = 62 → (k = 0 ∨ 2 ^ (k - 1) < n) → straitref32_Most.l0 K2 (d + 1) (n : Int) (k : Int) ((2 ^ k : Nat) : Int) h
  | 0, k, hd, hi => by
    unfold straitref32_Most.l0 straitref32_Most.b0
    refine iteB_intro (fun c => iteB_neg (decide_eq_false (by omega)) (hk k (by omega) hi (.inr (by omega)))) (fun c => hk k (by omega) hi (.inr (by omega)))
  | d + 1, k, hd, hi => by
    unfold straitref32_Most.l0 straitref32_Most.b0
    have hp : 2 ^ k ≤ 2 ^ 61 := Nat.pow_le_pow_right (by omega) (by omega)
    refine iteB_intro (fun c => iteB_pos (decide_eq_true (by omega)) ?_) (fun c => hk k (by omega) hi (.inl ?_))
    · have c := of_decide_eq_true c
      have c : 2 ^ k < n := by omega
      have e : (2 : Nat) ^ (k + 1) = 2 ^ k * 2 := Nat.pow_succ ..
      rw [wrap64 (x := (k : Int) + 1) (by omega) (by omega), wrap64 (by omega) (by omega)]
      rw [show (((2 ^ k : Nat) : Int) * 2) = ((2 ^ (k + 1) : Nat) : Int) by omega]
      exact rmost_l0 hn hk d (k + 1) (by omega) (.inr (by simpa using c))
    · have c := of_decide_eq_false c; omega
theorem RMost_of {h : Heap} {n : Int} {K : Int → Heap → Prop} (hf : -9223372036854775808 ≤ n ∧ n ≤ 9223372036854775807) (hk : K (mostN n) h) : straitref32_Most n h K := by
  unfold straitref32_Most
  unfold mostN at hk
  refine iteB_intro (fun c => ?_) (fun c => ?_)
  · rwa [if_pos (of_decide_eq_true c)] at hk
  · have c := of_decide_eq_false c
    rw [if_neg c] at hk
    obtain ⟨m, rfl⟩ : ∃ m : Nat, n = ((m + 1 : Nat) : Int) := ⟨(n - 1).toNat, by omega⟩
    rw [show (((m + 1 : Nat) : Int) - 1).toNat = m by omega] at hk
    refine ⟨62 + 1, rmost_l0 (n := m + 1) (by omega) (fun k k62 h1 h2 => ?_) 62 0 (by omega) (.inl rfl)⟩
    have b : 2 ^ k ≤ 2 ^ 62 := Nat.pow_le_pow_right (by omega) k62
    refine iteB_intro (fun d => ?_) (fun d => ?_)
    · have d := of_decide_eq_true d
      have d : 2 ^ k < m + 1 := by omega
      have e : k = 62 := by omega
      subst e
      have : len m = 63 := len_is (by omega) (.inr (by simpa using Nat.lt_succ_iff.1 d))
      refine bindV_intro fun n8 e8 => ?_
      rw [wrap64 (x := ((62 : Nat) : Int) + 1) (by omega) (by omega), wrap64 (by omega) (by omega)] at e8
      rw [this] at hk
      rw [e8, wrap64 (by omega) (by omega)]; exact hk
    · have d := of_decide_eq_false d
      have d : m < 2 ^ k := by omega
      have : len m = k := len_is d (by rcases h1 with h | h; exact .inl h; exact .inr (by omega))
      refine bindV_intro fun n9 e9 => ?_
      rw [wrap64 (x := 2 * (k : Int)) (by omega) (by omega), wrap64 (by omega) (by omega)] at e9
      rw [this] at hk
      rw [e9, Int.add_comm]; exact hk

section
variable {h : Heap}
theorem LN_nil {K : Int → Heap → Prop} (hk : K 0 h) : lift_Table_N none h K := by unfold lift_Table_N; exact iteB_pos rfl hk
theorem Lin_nil {v : Int} {K : Bool → Heap → Prop} (hk : K false h) : lift_Table_in none v h K := by
  unfold lift_Table_in
  exact iteB_intro (fun c => qcallP1.of _ (fun Q hQ => LN_nil hQ) (by rw [decide_eq_false (by have := of_decide_eq_true c; omega)]; exact hk)) (fun _ => hk)
theorem LDepth_nil {v : Int} {K : Int → Heap → Prop} (hk : K (-1) h) : lift_Table_Depth none v h K := by
  unfold lift_Table_Depth; exact qcallP1.of _ (fun Q hQ => Lin_nil hQ) (iteB_pos rfl hk)
theorem LUp_nil {u v : Int} {K : Int → Heap → Prop} (hk : K (-1) h) : lift_Table_Up none u v h K := by
  unfold lift_Table_Up; exact qcallP1.of _ (fun Q hQ => Lin_nil hQ) (iteB_pos rfl hk)
theorem LMeet_nil {u v : Int} {K : Int → Heap → Prop} (hk : K (-1) h) : lift_Table_Meet none u v h K := by
  unfold lift_Table_Meet; exact qcallP1.of _ (fun Q hQ => Lin_nil hQ) (iteB_pos rfl hk)
theorem LFar_nil {u v : Int} {K : Int → Heap → Prop} (hk : K (-1) h) : lift_Table_Far none u v h K := by
  unfold lift_Table_Far; exact callP1.self (LMeet_nil (iteB_pos rfl hk))
theorem LLeast_nil {u v : Int} {K : Int → Bool → Heap → Prop} (hk : K 0 false h) : lift_Table_Least none u v h K := by unfold lift_Table_Least; exact iteB_pos rfl hk
theorem LLooks_nil {K : Int → Heap → Prop} (hk : K 0 h) : lift_Table_Looks none h K := by unfold lift_Table_Looks; exact iteB_pos rfl hk
end
end Go.Proofs.YtfidcekobjmamaaDoor
