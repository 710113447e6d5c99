/-
  What the functions of chapter 2 do: the document's parts, and the law 'FbitTells'.
-/
import Derived.Test.YtnmeoeakepcieaaDoorS1
namespace Go.Proofs.YtnmeoeakepcieaaDoor
set_option linter.unusedVariables false
set_option linter.unusedSimpArgs false
open Go.Hp Go.RowKit

theorem res3 {h0 h : Heap} {b : Nat} {v0 v1 v2 : Value} {x y : Int} {z : Bool} {K : Int → Int → Bool → Heap → Prop} (r : row h b [v0, v1, v2]) (e : Ext h0 h) (hb : h0.size ≤ b) (hk : ∀ h', Ext h0 h' → K x y z h') :
    stC h ⟨b, 0, none⟩ (.int .u64 x) fun h25 => stC h25 ((⟨b, 0, none⟩ : Addr).add 1) (.int .i64 y) fun h26 => stC h26 ((⟨b, 0, none⟩ : Addr).add 2) (.bool z) fun h27 =>
      (∃ (x28 : Int), cell h27 ⟨b, 0, none⟩ = some (.int .u64 x28) ∧ ∃ (x29 : Int), cell h27 ((⟨b, 0, none⟩ : Addr).add 1) = some (.int .i64 x29) ∧ ∃ (x30 : Bool), cell h27 ((⟨b, 0, none⟩ : Addr).add 2) = some (.bool x30) ∧ K x28 x29 x30 h27) := by
  simp only [add_mk, Nat.zero_add]
  refine stC_row r (by simp) ?_
  have r1 := r.set 0 (.int .u64 x)
  refine stC_row r1 (by simp) ?_
  have r2 := r1.set 1 (.int .i64 y)
  refine stC_row r2 (by simp) ?_
  have r3 := r2.set 2 (.bool z)
  exact ⟨x, by rw [r3.cell]; rfl, y, by rw [r3.cell]; rfl, z, by rw [r3.cell]; rfl, hk _ (((e.setC hb _).setC hb _).setC hb _)⟩

theorem tmod2 (m : Nat) : (((m : Int).tmod 2) == 0) = decide (m % 2 = 0) := by
  rw [Int.tmod_eq_emod_of_nonneg (by omega)]
  by_cases h : m % 2 = 0
  · simp only [h]; simp; omega
  · rw [decide_eq_false h]; simp only [beq_eq_false_iff_ne, ne_eq]; omega
theorem tdiv2 (m : Nat) : (m : Int).tdiv 2 = ((m / 2 : Nat) : Int) := by rw [Int.tdiv_eq_ediv_of_nonneg (by omega)]; omega
theorem wrap_nat {m : Nat} (h : m < 18446744073709551616) : IntKind.u64.wrap (m : Int) = (m : Int) := by rw [wrap_u64]; omega

theorem F17_l0 {K3 : Int → Int → Heap → Prop} {c2 : Addr} {h : Heap} : ∀ (k m : Nat) (e : Int), m ≠ 0 → m < 18446744073709551616 → tz m = k → -10000 ≤ e → e + (k : Nat) < 10000 → K3 (e + (k : Nat)) ((m / 2 ^ k : Nat) : Int) h → F17.l0 K3 (k + 1) c2 e (m : Int) h
  | 0, m, e, h0, hm, ht, g1, g2, hk => by
    have odd : m % 2 = 1 := by
      rcases Nat.mod_two_eq_zero_or_one m with e | e
      · rw [tz_even h0 e] at ht; omega
      · exact e
    unfold F17.l0 F17.b0
    rw [tmod2, iteB_decide, if_neg (by omega)]
    exact ⟨by decide, by simpa using hk⟩
  | k + 1, m, e, h0, hm, ht, g1, g2, hk => by
    have even : m % 2 = 0 := by
      rcases Nat.mod_two_eq_zero_or_one m with e | e
      · exact e
      · rw [tz_odd e] at ht; omega
    have ht' : tz (m / 2) = k := by rw [tz_even h0 even] at ht; omega
    unfold F17.l0 F17.b0
    rw [tmod2, iteB_decide, if_pos even, tdiv2, wrap_nat (by omega), wrap_id (by omega) (by omega)]
    refine ⟨by decide, by decide, F17_l0 k (m / 2) (e + 1) (by omega) (by omega) ht' (by omega) (by omega) ?_⟩
    rw [Nat.div_div_eq_div_mul, Nat.mul_comm, ← Nat.pow_succ, show e + 1 + (k : Nat) = e + ((k + 1 : Nat) : Int) by omega]; exact hk

theorem F17_of {b : Nat} {h : Heap} {K : Int → Int → Bool → Heap → Prop} (hb : b < 18446744073709551616) (hk : ∀ h', Ext h h' → K (partsR b).1 (partsR b).2.1 (partsR b).2.2 h') : F17 (b : Int) h K := by
  have hx : b / 4503599627370496 % 2048 = ex b := rfl
  have hfr : fr b < 4503599627370496 := by unfold fr; omega
  have hex : ex b < 2048 := by unfold ex; omega
  unfold F17
  rw [fdiv_nat, show (2 : Nat) ^ 52 = 4503599627370496 by decide, and_2047 _ (by omega), hx, and_low b hb]
  refine newP_intro fun a h3 ha hs e3 r3 => ?_
  subst ha
  refine ⟨by decide, ?_⟩
  have hj : ∀ (m : Nat) (e : Int), m ≠ 0 → m < 9007199254740992 → 0 ≤ e → e < 3000 → (∀ h', Ext h h' → K ((m / 2 ^ tz m : Nat) : Int) (e - 1075 + (tz m : Nat)) true h') →
      (∃ m24, F17.l0 (fun z21 z22 h23 => ((stC h23 ⟨h.size, 0, none⟩ (.int .u64 z22) fun h25 => stC h25 ((⟨h.size, 0, none⟩ : Addr).add 1) (.int .i64 z21) fun h26 => stC h26 ((⟨h.size, 0, none⟩ : Addr).add 2) (.bool true) fun h27 => (∃ (x28 : Int), cell h27 ⟨h.size, 0, none⟩ = some (.int .u64 x28) ∧ ∃ (x29 : Int), cell h27 ((⟨h.size, 0, none⟩ : Addr).add 1) = some (.int .i64 x29) ∧ ∃ (x30 : Bool), cell h27 ((⟨h.size, 0, none⟩ : Addr).add 2) = some (.bool x30) ∧ K x28 x29 x30 h27)))) m24 ⟨h.size, 0, none⟩ (IntKind.i64.wrap (e - 1075)) (m : Int) h3) := by
    intro m e h0 hm g1 g2 hk
    have t64 : tz m < 64 := tz_lt h0 (Nat.lt_trans hm (by decide))
    refine ⟨tz m + 1, ?_⟩
    rw [wrap_id (by omega) (by omega)]
    exact F17_l0 (tz m) m (e - 1075) h0 (by omega) rfl (by omega) (by omega) (res3 r3 e3 (Nat.le_refl _) hk)
  intro j31
  have hj31 : ∀ (m : Nat) (e : Int), m ≠ 0 → m < 9007199254740992 → 0 ≤ e → e < 3000 → (∀ h', Ext h h' → K ((m / 2 ^ tz m : Nat) : Int) (e - 1075 + (tz m : Nat)) true h') → j31 e (m : Int) := hj
  clear_value j31
  refine qcallP1.of (kindI b) (fun R hR => F14_of hb hR) ?_
  have e1 : IntKind.i64.wrap (ex b : Int) = (ex b : Int) := wrap_id (by omega) (by omega)
  have e2 : IntKind.u64.wrap ((fr b : Int) + 4503599627370496) = ((fr b + 4503599627370496 : Nat) : Int) := by rw [wrap_u64]; omega
  rw [e1, e2]
  unfold partsR at hk
  by_cases c1 : ex b = 2047
  · rw [if_pos c1] at hk
    rcases kind_01 c1 with e | e <;> rw [e] <;> exact res3 r3 e3 (Nat.le_refl _) hk
  · rw [if_neg c1] at hk
    by_cases c2 : magR b = 0
    · rw [if_pos c2] at hk; rw [kind_2 c1 c2]; exact res3 r3 e3 (Nat.le_refl _) hk
    · rw [if_neg c2] at hk
      rcases kind_34 c1 c2 with ⟨e, e0⟩ | ⟨e, e0⟩
      · rw [e]
        unfold magR expR at hk; rw [if_pos e0, if_pos e0] at hk
        unfold magR at c2; rw [if_pos e0] at c2
        exact hj31 _ _ c2 (by omega) (by decide) (by decide) hk
      · rw [e]
        unfold magR expR at hk; rw [if_neg e0, if_neg e0] at hk
        exact hj31 _ _ (by omega) (by omega) (by omega) (by omega) hk

theorem parts_15 : partsR 4609434218613702656 = (3, -1, true) := by
  have h1 : ex 4609434218613702656 = 1023 := by decide
  have h2 : magR 4609434218613702656 = 3 * 2 ^ 51 := by decide
  obtain ⟨t1, t2⟩ := tz_mul (o := 3) (k := 51) (by decide)
  unfold partsR expR
  rw [h1, h2, t1, t2]
  simp

theorem F18_of {h : Heap} {K : Bool → Heap → Prop} (ht : Tab h) (hk : K true h) : F18 h K := by
  unfold F18
  refine qcallP3.of 3 (-1) true (fun R hR => F10_of (by decide) ht (by rw [parts_15]; exact hR)) ?_
  refine iteB_pos (by decide) (iteB_pos (by decide) (iteB_pos rfl ?_))
  refine qcallP1.of 2 (fun R hR => F13_of (by decide) (by rw [show kindI 0 = 2 by decide]; exact hR)) ?_
  refine iteB_pos (by decide) ?_
  exact qcallP1.of 4607182418800017408 (fun R hR => F11_of (by rw [show bitsR 4607182418800017408 = 4607182418800017408 by decide]; exact hR)) hk

theorem F3_of {b : Nat} {h : Heap} {K : Bool → Heap → Prop} (hb : b < 18446744073709551616) (ht : Tab h) (hk : ∀ h', Ext h h' → K true h') : F3 (b : Int) h K := by
  unfold F3
  refine qcallP1.of b (fun R hR => F9_of hR) ?_
  refine qcallP3.of (partsR b).1 (partsR b).2.1 (partsR b).2.2 (fun R hR => F10_of hb ht hR) ?_
  refine qcallP1.of (bitsR b) (fun R hR => F11_of hR) (qcallP1.of (bitsR b) (fun R hR => F12_of hb hR) (iteB_pos (by simp) ?_))
  refine qcallP1.of (kindI b) (fun R hR => F13_of hb hR) (qcallP1.of (kindI b) (fun R hR => F14_of hb hR) (iteB_pos (by simp) ?_))
  refine qcallP1.of (negR b) (fun R hR => F15_of hb hR) (qcallP1.of (negR b) (fun R hR => F16_of hb hR) (iteB_pos (by simp) ?_))
  refine callP3.self (F17_of hb fun h' e => ?_)
  refine iteB_pos (by simp [eqAll]) ?_
  exact qcallP1.of true (fun R hR => F18_of (ht.ext e) hR) (hk h' e)
end Go.Proofs.YtnmeoeakepcieaaDoor
