/-
  Numbers in digits, plainly: what is printed is read, and what a text comes to.
-/
import Derived.Test.YtmejnpadgbdhaaaGreatDoorE6
namespace Go.Proofs.YtmejnpadgbdhaaaGreatDoor
set_option linter.unusedVariables false
set_option linter.unusedSimpArgs false
open Go.Proofs Go.Lib
theorem valN_app (acc : Nat) (a b : List UInt8) : valN acc (a ++ b) = valN (valN acc a) b := by
  unfold valN; rw [List.foldl_append]
theorem dig_nat {d : Nat} (h : d < 10) : (UInt8.ofNat (48 + d)).toNat = 48 + d := by
  rw [UInt8.toNat_ofNat']; omega
theorem dig_is {d : Nat} (h : d < 10) : dgB (UInt8.ofNat (48 + d)) = true := dg_iff.2 (by rw [dig_nat h]; omega)
theorem dec_facts : ∀ (u : Nat), (decDigits u).all dgB = true ∧ valN 0 (decDigits u) = u ∧ (1 ≤ u → ∃ c r, decDigits u = c :: r ∧ c ≠ 48) := by
  intro u
  induction u using Nat.strongRecOn with
  | _ u ih =>
    by_cases h : u < 10
    · rw [decDigits, dif_pos h]
      refine ⟨by rw [List.all_cons, dig_is h]; rfl, ?_, fun h1 => ⟨_, [], rfl, fun e => ?_⟩⟩
      · rw [valN_cons, dig_nat h]
        show 0 * 10 + (48 + u - 48) = u
        omega
      · have := congrArg UInt8.toNat e
        rw [dig_nat h] at this
        have e2 : (48 : UInt8).toNat = 48 := rfl
        omega
    · obtain ⟨h1, h2, h3⟩ := ih (u / 10) (by omega)
      obtain ⟨c, r, hc, hn⟩ := h3 (by omega)
      have hm : u % 10 < 10 := by omega
      rw [decDigits, dif_neg h]
      refine ⟨by rw [List.all_append, h1, List.all_cons, dig_is hm]; rfl, ?_, fun _ => ⟨c, r ++ [UInt8.ofNat (48 + u % 10)], by rw [hc]; rfl, hn⟩⟩
      rw [valN_app, h2, valN_cons, dig_nat hm]
      show u / 10 * 10 + (48 + u % 10 - 48) = u
      omega
theorem dec_nat (u : Nat) : natB (decDigits u) = true := by
  obtain ⟨h1, _, h3⟩ := dec_facts u
  unfold natB
  rw [h1, Bool.true_and]
  by_cases h : 1 ≤ u
  · obtain ⟨c, r, hc, hn⟩ := h3 h
    rw [hc]; simp [hn]
  · obtain rfl : u = 0 := by omega
    rw [decDigits]; rfl
theorem dec_head (u : Nat) : (decDigits u).head? ≠ some 45 := by
  intro h
  obtain ⟨h1, _, _⟩ := dec_facts u
  match hd : decDigits u, h with
  | c :: r, h =>
    rw [hd] at h1
    simp only [List.head?_cons, Option.some.injEq] at h
    subst h
    simp [dgB] at h1
/-- What is printed is a number's digits, of just this number. -/
theorem itoa_form (n : Int) : formL (itoa n) = true ∧ valI (itoa n) = n := by
  by_cases h : n < 0
  · obtain ⟨u, hu, rfl⟩ : ∃ u : Nat, 1 ≤ u ∧ n = -(u : Int) := ⟨n.natAbs, by omega, by omega⟩
    rw [itoa_neg u hu]
    have h2 := (dec_facts u).2.1
    constructor
    · unfold formL
      rw [if_pos (show (45 :: decDigits u).head? = some 45 from rfl), List.tail_cons, dec_nat u, Bool.true_and, bne_iff_ne]
      intro e
      rw [e] at h2
      have : valN 0 [48] = 0 := rfl
      omega
    · unfold valI
      rw [if_pos (show (45 :: decDigits u).head? = some 45 from rfl), List.tail_cons, h2]
  · obtain ⟨u, rfl⟩ : ∃ u : Nat, n = (u : Int) := ⟨n.toNat, by omega⟩
    rw [itoa_nonneg u]
    constructor
    · unfold formL
      rw [if_neg (dec_head u), dec_nat u]
    · unfold valI
      rw [if_neg (dec_head u), (dec_facts u).2.1]
theorem itoa_ne (n : Int) : itoa n ≠ [] := by
  intro h
  have := (itoa_form n).1
  rw [h] at this
  simp [formL, natB] at this
theorem no_blank {l : List UInt8} (h : formL l = true) : (32 : UInt8) ∉ l := by
  intro hm
  unfold formL at h
  split at h
  · rename_i hh
    match l, hh with
    | c :: r, hh =>
      simp at hh; subst hh
      simp only [List.tail_cons, Bool.and_eq_true] at h
      have := natB_all h.1
      rcases List.mem_cons.1 hm with e | e
      · exact absurd e (by decide)
      · have := List.all_eq_true.1 this _ e
        simp [dgB] at this
  · have := List.all_eq_true.1 (natB_all h) _ hm
    simp [dgB] at this
theorem dec_len : ∀ (k u : Nat), u < 10 ^ (k + 1) → (decDigits u).length ≤ k + 1
  | 0, u, h => by rw [decDigits, dif_pos (by omega)]; simp
  | k + 1, u, h => by
    by_cases c : u < 10
    · rw [decDigits, dif_pos c]; simp
    · rw [decDigits, dif_neg c]
      have := dec_len k (u / 10) (by rw [Nat.pow_succ] at h; omega)
      simp; omega
theorem itoa_len {n : Int} (h0 : -9223372036854775808 ≤ n) (h1 : n ≤ 9223372036854775807) : (itoa n).length ≤ 20 := by
  by_cases h : n < 0
  · obtain ⟨u, hu, rfl⟩ : ∃ u : Nat, 1 ≤ u ∧ n = -(u : Int) := ⟨n.natAbs, by omega, by omega⟩
    rw [itoa_neg u hu]
    have := dec_len 18 u (by omega)
    simp; omega
  · obtain ⟨u, rfl⟩ : ∃ u : Nat, n = (u : Int) := ⟨n.toNat, by omega⟩
    rw [itoa_nonneg u]
    have := dec_len 18 u (by omega)
    omega
/-- Is it a number of 64 bits? -/
def inR (v : Int) : Bool := decide (-9223372036854775808 ≤ v) && decide (v ≤ 9223372036854775807)
theorem inR_iff {v : Int} : inR v = true ↔ -9223372036854775808 ≤ v ∧ v ≤ 9223372036854775807 := by simp [inR]
/-- What a text comes to: the number, and why there is none. -/
def parN (l : List UInt8) : Int := if formL l && inR (valI l) then valI l else 0
def parE (l : List UInt8) : Int := if formL l then (if inR (valI l) then 0 else 10) else 2
theorem par_no {l : List UInt8} (h : formL l = false) : parN l = 0 ∧ parE l = 2 := by simp [parN, parE, h]
theorem par_out {l : List UInt8} (h : formL l = true) (h2 : inR (valI l) = false) : parN l = 0 ∧ parE l = 10 := by simp [parN, parE, h, h2]
theorem par_ok {l : List UInt8} (h : formL l = true) (h2 : inR (valI l) = true) : parN l = valI l ∧ parE l = 0 := by simp [parN, parE, h, h2]
theorem parN_in (l : List UInt8) : inR (parN l) = true := by
  unfold parN
  split
  · rename_i h; exact (Bool.and_eq_true _ _ ▸ h).2
  · decide
theorem par_back {l : List UInt8} (h : parE l = 0) : formL l = true ∧ itoa (parN l) = l := by
  unfold parE at h
  split at h
  · rename_i h1
    split at h
    · rename_i h2
      rw [(par_ok h1 h2).1]
      exact ⟨h1, itoa_val h1⟩
    · cases h
  · cases h
theorem par_itoa {n : Int} (h : inR n = true) : parN (itoa n) = n ∧ parE (itoa n) = 0 := by
  obtain ⟨h1, h2⟩ := itoa_form n
  have := par_ok h1 (by rw [h2]; exact h)
  rw [h2] at this; exact this
/-- The document's question: a number that was wrapped has these digits just if it was not wrapped. -/
theorem wrap_itoa {l : List UInt8} {w : Int} (h : formL l = true) (hw : inR w = true) (hm : ∃ k : Int, valI l = w + k * 18446744073709551616) : (itoa w = l ↔ inR (valI l) = true) ∧ (inR (valI l) = true → w = valI l) := by
  have key : inR (valI l) = true → w = valI l := fun hi => by
    obtain ⟨k, hk⟩ := hm
    have h1 := inR_iff.1 hi
    have h2 := inR_iff.1 hw
    omega
  refine ⟨⟨fun e => ?_, fun hi => ?_⟩, key⟩
  · have := (itoa_form w).2
    rw [e] at this
    rw [this]; exact hw
  · rw [key hi, itoa_val h]
theorem form_long {l : List UInt8} (h : formL l = true) (hl : 20 < l.length) : inR (valI l) = false := by
  cases hi : inR (valI l) with
  | false => rfl
  | true =>
    obtain ⟨h0, h1⟩ := inR_iff.1 hi
    have := itoa_len h0 h1
    rw [itoa_val h] at this
    omega
/-! ### Lists -/
/-- The first part that is none: why, and where. -/
def rdE : List (List UInt8) → Nat → Int × Nat
  | [], _ => (0, 0)
  | x :: r, k => if parE x = 0 then rdE r (k + 1) else (parE x, k)
/-- The parts of a text. -/
def parts (l : List UInt8) (segs : List (List UInt8)) : List (List UInt8) := if l = [] then [] else segs
def rdL (ls : List (List UInt8)) : List Int := if (rdE ls 0).1 = 0 then ls.map parN else []
theorem rdE_bad {x : List UInt8} (hx : parE x ≠ 0) : ∀ (a r : List (List UInt8)) (k : Nat), (∀ y ∈ a, parE y = 0) → rdE (a ++ x :: r) k = (parE x, k + a.length)
  | [], r, k, _ => by simp [rdE, hx]
  | y :: a, r, k, h => by
    rw [List.cons_append, rdE, if_pos (h y (by simp)), rdE_bad hx a r (k + 1) fun z hz => h z (by simp [hz])]
    simp; omega
theorem rdE_good : ∀ (a : List (List UInt8)) (k : Nat), (∀ y ∈ a, parE y = 0) → rdE a k = (0, 0)
  | [], k, _ => rfl
  | y :: a, k, h => by
    rw [rdE, if_pos (h y (by simp)), rdE_good a (k + 1) fun z hz => h z (by simp [hz])]
theorem rdE_zero : ∀ (a : List (List UInt8)) (k : Nat), (rdE a k).1 = 0 → ∀ y ∈ a, parE y = 0
  | [], k, _, y, hy => by cases hy
  | x :: a, k, h, y, hy => by
    rw [rdE] at h
    split at h
    · rename_i hx
      rcases List.mem_cons.1 hy with rfl | hy
      · exact hx
      · exact rdE_zero a _ h y hy
    · rename_i hx; exact absurd h hx
theorem rdL_len (ls : List (List UInt8)) : (rdL ls).length ≤ ls.length := by unfold rdL; split <;> simp
theorem rdL_in (ls : List (List UInt8)) : ∀ n ∈ rdL ls, inR n = true := by
  unfold rdL
  split
  · intro n hn
    obtain ⟨x, _, rfl⟩ := List.mem_map.1 hn
    exact parN_in x
  · intro n hn; cases hn
theorem rd_back {ls : List (List UInt8)} (h : (rdE ls 0).1 = 0) : (rdL ls).map itoa = ls := by
  have hz := rdE_zero ls 0 h
  unfold rdL
  rw [if_pos h, List.map_map]
  have : ∀ (a : List (List UInt8)), (∀ y ∈ a, parE y = 0) → a.map (itoa ∘ parN) = a := by
    intro a
    induction a with
    | nil => intro _; rfl
    | cons x r ih =>
      intro h
      rw [List.map_cons, ih fun y hy => h y (by simp [hy])]
      show itoa (parN x) :: r = x :: r
      rw [(par_back (h x (by simp))).2]
  exact this ls hz
theorem rd_itoa {l : List Int} (h : ∀ n ∈ l, inR n = true) : rdE (l.map itoa) 0 = (0, 0) ∧ rdL (l.map itoa) = l := by
  have h1 : ∀ y ∈ l.map itoa, parE y = 0 := fun y hy => by
    obtain ⟨n, hn, rfl⟩ := List.mem_map.1 hy
    exact (par_itoa (h n hn)).2
  have h2 := rdE_good _ 0 h1
  refine ⟨h2, ?_⟩
  unfold rdL
  rw [h2, if_pos rfl, List.map_map]
  have : ∀ (a : List Int), (∀ y ∈ a, inR y = true) → a.map (parN ∘ itoa) = a := by
    intro a
    induction a with
    | nil => intro _; rfl
    | cons x r ih =>
      intro h
      rw [List.map_cons, ih fun y hy => h y (by simp [hy])]
      show parN (itoa x) :: r = x :: r
      rw [(par_itoa (h x (by simp))).1]
  exact this l h
end Go.Proofs.YtmejnpadgbdhaaaGreatDoor
