/-
  What the functions of chapter 2 do: the document's float that is made; the law 'FbitMakes'.
-/
import Derived.Test.YtnmeoeakepcieaaDoorS4
namespace Go.Proofs.YtnmeoeakepcieaaDoor
set_option linter.unusedVariables false
set_option linter.unusedSimpArgs false
open Go.Hp Go.RowKit
attribute [local irreducible] Go.Hp.iteB

theorem res2 {h0 h : Heap} {b : Nat} {v0 v1 : Value} {x : Int} {z : Bool} {K : Int → Bool → Heap → Prop} (r : row h b [v0, v1]) (e : Ext h0 h) (hb : h0.size ≤ b) (hk : ∀ h', Ext h0 h' → K x z h') :
    stC h ⟨b, 0, none⟩ (.int .u64 x) fun h25 => stC h25 ((⟨b, 0, none⟩ : Addr).add 1) (.bool z) fun h27 =>
      (∃ (x28 : Int), cell h27 ⟨b, 0, none⟩ = some (.int .u64 x28) ∧ ∃ (x30 : Bool), cell h27 ((⟨b, 0, none⟩ : Addr).add 1) = some (.bool x30) ∧ K x28 x30 h27) := by
  simp only [add_mk, Nat.zero_add]
  refine stC_row r (by simp) ?_
  have r1 := r.set 0 (.int .u64 x)
  refine stC_row r1 (by simp) ?_
  have r2 := r1.set 1 (.bool z)
  exact ⟨x, by rw [r2.cell]; rfl, z, by rw [r2.cell]; rfl, hk _ ((e.setC hb _).setC hb _)⟩

theorem F20_l0 {K2 : Int → Int → Heap → Prop} {c6 : Addr} {c7 : Int} {h : Heap} : ∀ (k m : Nat) (e : Int), m ≠ 0 → m < 18446744073709551616 → tz m = k → -10000 ≤ e → e + (k : Nat) < 10000 → K2 ((m / 2 ^ k : Nat) : Int) (e + (k : Nat)) h → F20.l0 K2 (k + 1) (m : Int) e c6 c7 h
  | 0, m, e, h0, hm, ht, g1, g2, hk => by
    have odd : m % 2 = 1 := by
      rcases Nat.mod_two_eq_zero_or_one m with e | e
      · rw [tz_even h0 e] at ht; omega
      · exact e
    unfold F20.l0 F20.b0
    rw [tmod2, iteB_decide, if_neg (by omega)]
    exact ⟨by decide, by simpa using hk⟩
  | k + 1, m, e, h0, hm, ht, g1, g2, hk => by
    have even : m % 2 = 0 := by
      rcases Nat.mod_two_eq_zero_or_one m with e | e
      · exact e
      · rw [tz_odd e] at ht; omega
    have ht' : tz (m / 2) = k := by rw [tz_even h0 even] at ht; omega
    unfold F20.l0 F20.b0
    rw [tmod2, iteB_decide, if_pos even, tdiv2, wrap_nat (by omega), wrap_id (by omega) (by omega)]
    refine ⟨by decide, by decide, F20_l0 k (m / 2) (e + 1) (by omega) (by omega) ht' (by omega) (by omega) ?_⟩
    rw [Nat.div_div_eq_div_mul, Nat.mul_comm, ← Nat.pow_succ, show e + 1 + (k : Nat) = e + ((k + 1 : Nat) : Int) by omega]; exact hk

theorem F20_l1 {K4 : Int → Int → Heap → Prop} {c6 : Addr} {c7 : Int} {h : Heap} : ∀ (r o : Nat) (e : Int), o ≠ 0 → o < 9007199254740992 → -1074 ≤ e → e < 10000 → r = min (53 - len o) (e + 1074).toNat → K4 ((o * 2 ^ r : Nat) : Int) (e - (r : Nat)) h → F20.l1 K4 (r + 1) (o : Int) e c6 c7 h
  | 0, o, e, h0, hm, g1, g2, hr, hk => by
    have hl := @len_le o 52
    have hl' := @len_le o 53
    unfold F20.l1 F20.b1
    rw [show ((o * 2 ^ 0 : Nat) : Int) = (o : Int) by simp, show e - ((0 : Nat) : Int) = e by omega] at hk
    refine iteB_intro (fun c => ?_) (fun c => hk)
    have c := of_decide_eq_true c
    refine iteB_neg (decide_eq_false ?_) hk
    have : len o ≤ 52 := hl.2 (by omega)
    omega
  | r + 1, o, e, h0, hm, g1, g2, hr, hk => by
    have hl := @len_le o 52
    have h2 := len_mul 1 h0
    rw [Nat.pow_one] at h2
    unfold F20.l1 F20.b1
    have : o < 2 ^ 52 := hl.1 (by omega)
    refine iteB_pos (decide_eq_true (by omega)) (iteB_pos (decide_eq_true (by omega)) ?_)
    rw [show (o : Int) * 2 = ((o * 2 : Nat) : Int) by omega, wrap_nat (by omega), wrap_id (by omega) (by omega)]
    refine F20_l1 r (o * 2) (e - 1) (by omega) (by omega) (by omega) (by omega) (by omega) ?_
    rw [Nat.mul_assoc, Nat.mul_comm 2, ← Nat.pow_succ, show e - 1 - (r : Nat) = e - ((r + 1 : Nat) : Int) by omega]; exact hk

theorem F20_tail {s M : Nat} {e : Int} {h0 h : Heap} {b : Nat} {v0 v1 : Value} {K : Int → Bool → Heap → Prop} (r : row h b [v0, v1]) (ex : Ext h0 h) (hb : h0.size ≤ b) (hs : s = 0 ∨ s = 9223372036854775808) (hM : M < 2 ^ 53) (he : -1074 ≤ e) (he' : e < 10000)
    (h1 : M < 4503599627370496 → ∀ h', Ext h0 h' → K ((s + M : Nat) : Int) true h') (h2 : 4503599627370496 ≤ M → 2046 < e + 1075 → ∀ h', Ext h0 h' → K 0 false h')
    (h3 : 4503599627370496 ≤ M → e + 1075 ≤ 2046 → ∀ h', Ext h0 h' → K ((s + (e + 1075).toNat * 4503599627370496 + M % 4503599627370496 : Nat) : Int) true h') :
    iteB (decide ((M : Int) < (4503599627370496 : Int))) (stC h ⟨b, 0, none⟩ (.int .u64 (IntKind.u64.wrap ((s : Int) + (M : Int)))) fun h45 => stC h45 ((⟨b, 0, none⟩ : Addr).add 1) (.bool true) fun h46 => (∃ (x47 : Int), cell h46 ⟨b, 0, none⟩ = some (.int .u64 x47) ∧ ∃ (x48 : Bool), cell h46 ((⟨b, 0, none⟩ : Addr).add 1) = some (.bool x48) ∧ K x47 x48 h46))
      (iteB (decide ((IntKind.i64.wrap (e + 1075)) > (2046 : Int))) (stC h ⟨b, 0, none⟩ (.int .u64 0) fun h49 => stC h49 ((⟨b, 0, none⟩ : Addr).add 1) (.bool false) fun h50 => (∃ (x51 : Int), cell h50 ⟨b, 0, none⟩ = some (.int .u64 x51) ∧ ∃ (x52 : Bool), cell h50 ((⟨b, 0, none⟩ : Addr).add 1) = some (.bool x52) ∧ K x51 x52 h50))
        (0 ≤ (52 : Int) ∧ stC h ⟨b, 0, none⟩ (.int .u64 (IntKind.u64.wrap ((IntKind.u64.wrap ((s : Int) + (IntKind.u64.wrap ((IntKind.u64.wrap (IntKind.i64.wrap (e + 1075))) * 2 ^ 52)))) + (IntKind.u64.wrap ((M : Int) - 4503599627370496))))) fun h53 => stC h53 ((⟨b, 0, none⟩ : Addr).add 1) (.bool true) fun h54 => (∃ (x55 : Int), cell h54 ⟨b, 0, none⟩ = some (.int .u64 x55) ∧ ∃ (x56 : Bool), cell h54 ((⟨b, 0, none⟩ : Addr).add 1) = some (.bool x56) ∧ K x55 x56 h54))) := by
  have hs3 : s ≤ 9223372036854775808 := by omega
  refine iteB_intro (fun c => ?_) (fun c => ?_)
  · have c := of_decide_eq_true c
    rw [show (s : Int) + (M : Int) = ((s + M : Nat) : Int) by omega, wrap_nat (by omega)]
    exact res2 r ex hb (h1 (by omega))
  · have c := of_decide_eq_false c
    obtain ⟨E, hE⟩ : ∃ E : Nat, e + 1075 = (E : Int) := ⟨(e + 1075).toNat, by omega⟩
    rw [hE] at h2 h3
    rw [hE, wrap_id (x := (E : Int)) (by omega) (by omega)]
    refine iteB_intro (fun c => ?_) (fun c => ?_)
    · exact res2 r ex hb (h2 (by omega) (by have := of_decide_eq_true c; omega))
    · have c := of_decide_eq_false c
      have h3 := h3 (by omega) (by omega)
      rw [Int.toNat_natCast] at h3
      refine ⟨by decide, ?_⟩
      have e1 : IntKind.u64.wrap ((IntKind.u64.wrap ((s : Int) + (IntKind.u64.wrap ((IntKind.u64.wrap (E : Int)) * 2 ^ 52)))) + (IntKind.u64.wrap ((M : Int) - 4503599627370496))) = ((s + E * 4503599627370496 + M % 4503599627370496 : Nat) : Int) := by
        rw [wrap_nat (m := E) (by omega), show (E : Int) * 2 ^ 52 = ((E * 4503599627370496 : Nat) : Int) by simp, wrap_nat (by omega), wrap_u64, wrap_u64, wrap_u64]; omega
      rw [e1]
      exact res2 r ex hb h3

theorem F20_of {neg : Bool} {m : Nat} {e : Int} {h : Heap} {K : Int → Bool → Heap → Prop} (hm : m < 18446744073709551616) (hk : ∀ h', Ext h h' → K ((makeR neg m e).1 : Nat) (makeR neg m e).2 h') : F20 neg (m : Int) e h K := by
  unfold F20
  refine newP_intro fun a h3 ha hs3 e3 r3 => ?_
  subst ha
  intro j59
  have hj : ∀ s : Nat, s = 0 ∨ s = 9223372036854775808 → (∀ h', Ext h h' → K ((makeS s m e).1 : Nat) (makeS s m e).2 h') → j59 (s : Int) := by
    intro s hs hk
    simp only [j59]
    clear j59
    unfold makeS at hk
    by_cases h0 : m = 0
    · rw [if_pos h0] at hk
      refine iteB_pos (by simp [h0]) ?_
      exact res2 r3 e3 (Nat.le_refl _) hk
    · rw [if_neg h0] at hk
      refine iteB_neg (by simp [h0]) ?_
      have t64 : tz m < 64 := tz_lt h0 hm
      have ho : m / 2 ^ tz m ≠ 0 := by have := (tz_spec m h0).1; intro e; rw [e] at this; omega
      have hol : m / 2 ^ tz m < 18446744073709551616 := Nat.lt_of_le_of_lt (Nat.div_le_self _ _) hm
      have hn : len (m / 2 ^ tz m) ≤ 64 := len_le.2 hol
      have hn1 : 0 < len (m / 2 ^ tz m) := by unfold len; rw [if_neg ho]; omega
      have hno : (e < -2000 ∨ 2000 < e ∨ 53 < len (m / 2 ^ tz m) ∨ e + tz m < -1074 ∨ 1024 < e + tz m + len (m / 2 ^ tz m)) → ∀ h', Ext h h' → K 0 false h' := by
        intro hc; simp only [] at hk; rw [if_pos hc] at hk; exact hk
      refine iteB_intro (fun c => ?_) (fun c => ?_)
      · exact res2 r3 e3 (Nat.le_refl _) (hno (.inl (by have := of_decide_eq_true c; omega)))
      have c1 := of_decide_eq_false c
      refine iteB_intro (fun c => ?_) (fun c => ?_)
      · exact res2 r3 e3 (Nat.le_refl _) (hno (.inr (.inl (by have := of_decide_eq_true c; omega))))
      have c2 := of_decide_eq_false c
      refine ⟨tz m + 1, F20_l0 (tz m) m e h0 hm rfl (by omega) (by omega) ?_⟩
      simp only [] at hk
      generalize m / 2 ^ tz m = o at *
      generalize tz m = k at *
      have hlm := fun r => len_mul r ho
      have hl53 := @len_le o 53
      refine iteB_intro (fun c => ?_) (fun c => ?_)
      · refine res2 r3 e3 (Nat.le_refl _) (hno (.inr (.inr (.inl ?_))))
        have := of_decide_eq_true c; omega
      have c3 := of_decide_eq_false c
      have c3' : len o ≤ 53 := hl53.2 (by omega)
      refine iteB_intro (fun c => ?_) (fun c => ?_)
      · exact res2 r3 e3 (Nat.le_refl _) (hno (.inr (.inr (.inr (.inl (by have := of_decide_eq_true c; omega))))))
      have c4 := of_decide_eq_false c
      refine ⟨_, F20_l1 (min (53 - len o) (e + k + 1074).toNat) o (e + k) ho (by omega) (by omega) (by omega) rfl ?_⟩
      have hr : min (53 - len o) (e + k + 1074).toNat ≤ 53 - len o := Nat.min_le_left _ _
      have hr2 : ((min (53 - len o) (e + k + 1074).toNat : Nat) : Int) ≤ e + k + 1074 := by omega
      have hr3 : min (53 - len o) (e + k + 1074).toNat = 53 - len o ∨ ((min (53 - len o) (e + k + 1074).toNat : Nat) : Int) = e + k + 1074 := by omega
      generalize min (53 - len o) (e + k + 1074).toNat = r at *
      have hM : o * 2 ^ r < 2 ^ 53 := len_le.1 (by rw [hlm]; omega)
      have hMl : o * 2 ^ r < 4503599627370496 ↔ len o + r ≤ 52 := by rw [← hlm]; exact (len_le (k := 52)).symm
      refine F20_tail r3 e3 (Nat.le_refl _) hs hM (by omega) (by omega) (fun c => ?_) (fun c d => hno ?_) (fun c d => ?_)
      · have c7 := hMl.1 c
        rw [if_neg (by omega), if_pos c] at hk; exact hk
      · have c7 : ¬ (len o + r ≤ 52) := fun x => absurd (hMl.2 x) (Nat.not_lt.2 c)
        omega
      · have c7 : ¬ (len o + r ≤ 52) := fun x => absurd (hMl.2 x) (Nat.not_lt.2 c)
        rw [if_neg (by omega), if_neg (Nat.not_lt.2 c)] at hk; exact hk
  clear_value j59
  unfold makeR sgn at hk
  cases neg with
  | true => rw [iteB_true]; exact hj 9223372036854775808 (.inr rfl) hk
  | false => rw [iteB_false]; exact hj 0 (.inl rfl) hk
end Go.Proofs.YtnmeoeakepcieaaDoor
