/-
  Commands, plainly: bytes as a text of digits, and back.
-/
import Derived.Test.YtmejnpadgbdhaaaGreatDoorE8
namespace Go.Proofs.YtmejnpadgbdhaaaGreatDoor
set_option linter.unusedVariables false
set_option linter.unusedSimpArgs false
open Go.Proofs Go.Lib
/-- The digits of 16. -/
def hexD : List UInt8 := [48, 49, 50, 51, 52, 53, 54, 55, 56, 57, 97, 98, 99, 100, 101, 102]
def hx (n : Nat) : UInt8 := hexD.getD n 0
def nib (c : UInt8) : Nat := if 48 ≤ c.toNat ∧ c.toNat ≤ 57 then c.toNat - 48 else if 97 ≤ c.toNat ∧ c.toNat ≤ 102 then c.toNat - 87 else 16
def hexF (b : List UInt8) : List UInt8 := b.flatMap fun x => [hx (x.toNat / 16), hx (x.toNat % 16)]
def hexL (b : List UInt8) : List UInt8 := if b = [] then [46] else hexF b
def pairsB : List UInt8 → List UInt8
  | x :: y :: r => UInt8.ofNat (16 * nib x + nib y) :: pairsB r
  | _ => []
def nibs (l : List UInt8) : Bool := l.all fun c => decide (nib c < 16)
def bytesO (l : List UInt8) : Bool := decide (l = [46]) || (!decide (l = []) && decide (l.length % 2 = 0) && nibs l)
def bytesB (l : List UInt8) : List UInt8 := if l = [46] then [] else if bytesO l = true then pairsB l else []
theorem nib_hx : ∀ n : Fin 16, nib (hx n.val) = n.val := by decide
theorem hx_nib {c : UInt8} (h : nib c < 16) : hx (nib c) = c := by
  have h1 : ∀ n : Fin 10, hx n.val = UInt8.ofNat (48 + n.val) := by decide
  have h2 : ∀ n : Fin 6, hx (10 + n.val) = UInt8.ofNat (97 + n.val) := by decide
  unfold nib at h ⊢
  split
  · rename_i e
    have := h1 ⟨c.toNat - 48, by omega⟩
    simp only at this
    rw [this, show 48 + (c.toNat - 48) = c.toNat by omega, UInt8.ofNat_toNat]
  · split
    · rename_i e
      have := h2 ⟨c.toNat - 97, by omega⟩
      simp only at this
      rw [show c.toNat - 87 = 10 + (c.toNat - 97) by omega, this, show 97 + (c.toNat - 97) = c.toNat by omega, UInt8.ofNat_toNat]
    · rename_i e1 e2
      rw [if_neg e1, if_neg e2] at h
      omega
theorem pair_nat {a b : Nat} (ha : a < 16) (hb : b < 16) : (UInt8.ofNat (16 * a + b)).toNat = 16 * a + b := by
  rw [UInt8.toNat_ofNat']; omega
theorem pairs_hex : ∀ (b : List UInt8), pairsB (hexF b) = b
  | [] => rfl
  | x :: r => by
    have hl := x.toNat_lt
    have e1 := nib_hx ⟨x.toNat / 16, by omega⟩
    have e2 := nib_hx ⟨x.toNat % 16, by omega⟩
    simp only at e1 e2
    show UInt8.ofNat (16 * nib (hx (x.toNat / 16)) + nib (hx (x.toNat % 16))) :: pairsB (hexF r) = x :: r
    rw [e1, e2, pairs_hex r, show 16 * (x.toNat / 16) + x.toNat % 16 = x.toNat by omega, UInt8.ofNat_toNat]
theorem nibs_hex : ∀ (b : List UInt8), nibs (hexF b) = true
  | [] => rfl
  | x :: r => by
    have hl := x.toNat_lt
    have e1 := nib_hx ⟨x.toNat / 16, by omega⟩
    have e2 := nib_hx ⟨x.toNat % 16, by omega⟩
    simp only at e1 e2
    have := nibs_hex r
    show (decide (nib (hx (x.toNat / 16)) < 16) && (decide (nib (hx (x.toNat % 16)) < 16) && nibs (hexF r))) = true
    rw [e1, e2, this]
    simp; omega
theorem hexF_len : ∀ (b : List UInt8), (hexF b).length = 2 * b.length
  | [] => rfl
  | x :: r => by
    show (hexF r).length + 1 + 1 = _
    rw [hexF_len r, List.length_cons]; omega
theorem hex_pairs : ∀ (n : Nat) (l : List UInt8), l.length = 2 * n → nibs l = true → hexF (pairsB l) = l
  | 0, l, h, _ => by rw [List.length_eq_zero_iff.1 h]; rfl
  | n + 1, [], h, _ => by simp at h
  | n + 1, [x], h, _ => by simp at h; omega
  | n + 1, x :: y :: r, h, hn => by
    have h2 : nibs (x :: y :: r) = (decide (nib x < 16) && (decide (nib y < 16) && nibs r)) := rfl
    rw [h2] at hn
    simp only [Bool.and_eq_true, decide_eq_true_eq] at hn
    obtain ⟨hx1, hy1, hr⟩ := hn
    show hx ((UInt8.ofNat (16 * nib x + nib y)).toNat / 16) :: hx ((UInt8.ofNat (16 * nib x + nib y)).toNat % 16) :: hexF (pairsB r) = _
    rw [pair_nat hx1 hy1, show (16 * nib x + nib y) / 16 = nib x by omega, show (16 * nib x + nib y) % 16 = nib y by omega, hx_nib hx1, hx_nib hy1, hex_pairs n r (by simp at h; omega) hr]
theorem pairs_len : ∀ (n : Nat) (l : List UInt8), l.length = 2 * n → (pairsB l).length = n
  | 0, l, h => by rw [List.length_eq_zero_iff.1 h]; rfl
  | n + 1, [], h => by simp at h
  | n + 1, [x], h => by simp at h; omega
  | n + 1, x :: y :: r, h => by
    show (pairsB r).length + 1 = _
    rw [pairs_len n r (by simp at h; omega)]
theorem hex_back (b : List UInt8) : bytesO (hexL b) = true ∧ bytesB (hexL b) = b := by
  by_cases h : b = []
  · subst h; exact ⟨by decide, by decide⟩
  · have e : hexL b = hexF b := by unfold hexL; rw [if_neg h]
    have hl := hexF_len b
    have hp : 0 < b.length := List.length_pos_iff.2 h
    have n1 : hexF b ≠ [46] := fun hh => by rw [hh] at hl; simp at hl; omega
    have n2 : hexF b ≠ [] := fun hh => by rw [hh] at hl; simp at hl; omega
    have o : bytesO (hexF b) = true := by
      unfold bytesO
      rw [nibs_hex b, hl]
      simp [n2]
    rw [e]
    refine ⟨o, ?_⟩
    unfold bytesB
    rw [if_neg n1, if_pos o, pairs_hex]
theorem bytes_back {l : List UInt8} (h : bytesO l = true) : hexL (bytesB l) = l := by
  unfold bytesB
  by_cases c : l = [46]
  · rw [if_pos c, c]; rfl
  · rw [if_neg c, if_pos h]
    unfold bytesO at h
    simp only [Bool.or_eq_true, decide_eq_true_eq, Bool.and_eq_true, Bool.not_eq_true', decide_eq_false_iff_not] at h
    obtain ⟨⟨h1, h2⟩, h3⟩ := h.resolve_left c
    have hp : 0 < l.length := List.length_pos_iff.2 h1
    have hl : l.length = 2 * (l.length / 2) := by omega
    have hq := pairs_len _ l hl
    unfold hexL
    rw [if_neg (fun hh => by rw [hh] at hq; simp at hq; omega), hex_pairs _ l hl h3]
theorem hx_mem (n : Fin 16) : hx n.val ≠ 32 ∧ hx n.val ≠ 10 := by revert n; decide
theorem hex_clean (b : List UInt8) : hexL b ≠ [] ∧ ∀ c ∈ hexL b, c ≠ 32 ∧ c ≠ 10 := by
  unfold hexL
  split
  · exact ⟨by decide, by decide⟩
  · rename_i h
    refine ⟨fun hh => ?_, fun c hc => ?_⟩
    · have := hexF_len b
      have hp : 0 < b.length := List.length_pos_iff.2 h
      rw [hh] at this; simp at this; omega
    · obtain ⟨x, _, hx⟩ := List.mem_flatMap.1 hc
      have hl := x.toNat_lt
      rcases List.mem_cons.1 hx with rfl | hx
      · exact hx_mem ⟨x.toNat / 16, by omega⟩
      · obtain rfl : c = _ := by simpa using hx
        exact hx_mem ⟨x.toNat % 16, by omega⟩
theorem hexF_snoc (b : List UInt8) (x : UInt8) : hexF (b ++ [x]) = hexF b ++ [hx (x.toNat / 16), hx (x.toNat % 16)] := by
  unfold hexF; rw [List.flatMap_append]; rfl
theorem pairs_snoc : ∀ (n : Nat) (l : List UInt8) (x y : UInt8), l.length = 2 * n → pairsB (l ++ [x, y]) = pairsB l ++ [UInt8.ofNat (16 * nib x + nib y)]
  | 0, l, x, y, h => by rw [List.length_eq_zero_iff.1 h]; rfl
  | n + 1, [], x, y, h => by simp at h
  | n + 1, [a], x, y, h => by simp at h; omega
  | n + 1, a :: b :: r, x, y, h => by
    show _ :: pairsB (r ++ [x, y]) = _ :: (pairsB r ++ _)
    rw [pairs_snoc n r x y (by simp at h; omega)]
end Go.Proofs.YtmejnpadgbdhaaaGreatDoor
