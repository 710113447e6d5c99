/-
  The laws 'FbitMakes' and 'FbitBack'.
-/
import Derived.Test.YtnmeoeakepcieaaDoorS5
namespace Go.Proofs.YtnmeoeakepcieaaDoor
set_option linter.unusedVariables false
set_option linter.unusedSimpArgs false
open Go.Hp Go.RowKit
attribute [local irreducible] Go.Hp.iteB

/-- What is made, or why nothing is. -/
theorem makeS_cases (s m : Nat) (e : Int) (hm : m < 18446744073709551616) : (m = 0 ∧ makeS s m e = (s, true)) ∨ (m ≠ 0 ∧ makeS s m e = (0, false) ∧ (e < -2000 ∨ 2000 < e ∨ 53 < len (m / 2 ^ tz m) ∨ e + tz m < -1074 ∨ 1024 < e + tz m + len (m / 2 ^ tz m))) ∨
    (m ≠ 0 ∧ -2000 ≤ e ∧ e ≤ 2000 ∧ ∃ r M : Nat, M = m / 2 ^ tz m * 2 ^ r ∧ r = min (53 - len (m / 2 ^ tz m)) (e + tz m + 1074).toNat ∧
      ((M < 4503599627370496 ∧ e + tz m - r = -1074 ∧ makeS s m e = (s + M, true)) ∨
       (4503599627370496 ≤ M ∧ M < 9007199254740992 ∧ ∃ E : Nat, e + tz m - r + 1075 = E ∧ 1 ≤ E ∧ E ≤ 2046 ∧ makeS s m e = (s + E * 4503599627370496 + M % 4503599627370496, true)))) := by
  by_cases h0 : m = 0
  · exact .inl ⟨h0, by unfold makeS; rw [if_pos h0]⟩
  · right
    by_cases hc : e < -2000 ∨ 2000 < e ∨ 53 < len (m / 2 ^ tz m) ∨ e + tz m < -1074 ∨ 1024 < e + tz m + len (m / 2 ^ tz m)
    · exact .inl ⟨h0, by unfold makeS; rw [if_neg h0]; simp only []; rw [if_pos hc], hc⟩
    · right
      refine ⟨h0, by omega, by omega, _, _, rfl, rfl, ?_⟩
      have ho : m / 2 ^ tz m ≠ 0 := by have := (tz_spec m h0).1; intro e; rw [e] at this; omega
      have hlm := fun r => len_mul r ho
      have hn1 : 0 < len (m / 2 ^ tz m) := by unfold len; rw [if_neg ho]; omega
      have hmk : ∀ x, makeS s m e = x ↔ (let r := min (53 - len (m / 2 ^ tz m)) (e + tz m + 1074).toNat
          if m / 2 ^ tz m * 2 ^ r < 4503599627370496 then (s + m / 2 ^ tz m * 2 ^ r, true) else (s + (e + tz m - r + 1075).toNat * 4503599627370496 + m / 2 ^ tz m * 2 ^ r % 4503599627370496, true)) = x := by
        intro x; unfold makeS; rw [if_neg h0]; simp only []; rw [if_neg hc]
      simp only [hmk]
      clear hmk
      generalize m / 2 ^ tz m = o at *
      generalize tz m = k at *
      have hr : min (53 - len o) (e + k + 1074).toNat ≤ 53 - len o := Nat.min_le_left _ _
      have hr2 : ((min (53 - len o) (e + k + 1074).toNat : Nat) : Int) ≤ e + k + 1074 := by omega
      have hr3 : min (53 - len o) (e + k + 1074).toNat = 53 - len o ∨ ((min (53 - len o) (e + k + 1074).toNat : Nat) : Int) = e + k + 1074 := by omega
      generalize min (53 - len o) (e + k + 1074).toNat = r at *
      have hM : o * 2 ^ r < 2 ^ 53 := len_le.1 (by rw [hlm]; omega)
      have hMl : o * 2 ^ r < 4503599627370496 ↔ len o + r ≤ 52 := by rw [← hlm]; exact (len_le (k := 52)).symm
      by_cases c : o * 2 ^ r < 4503599627370496
      · left
        have c7 := hMl.1 c
        exact ⟨c, by omega, by rw [if_pos c]⟩
      · right
        have c7 : ¬ (len o + r ≤ 52) := fun x => c (hMl.2 x)
        refine ⟨by omega, by omega, (e + k - r + 1075).toNat, by omega, by omega, by omega, by rw [if_neg c]⟩

theorem kind_small {s M : Nat} (hs : s = 0 ∨ s = 9223372036854775808) (hM : M < 4503599627370496) : ex (s + M) = 0 ∧ fr (s + M) = M := by
  unfold ex fr; rcases hs with rfl | rfl <;> omega
theorem kind_norm {s E f : Nat} (hs : s = 0 ∨ s = 9223372036854775808) (hE : E ≤ 2046) (hf : f < 4503599627370496) : ex (s + E * 4503599627370496 + f) = E ∧ fr (s + E * 4503599627370496 + f) = f := by
  unfold ex fr; rcases hs with rfl | rfl <;> omega
theorem kind_ne {b : Nat} (h : ex b ≠ 2047) : kindI b ≠ 0 := by
  unfold kindI; rw [if_neg h]; split <;> (try split) <;> decide

theorem made_kind (s m : Nat) (e : Int) (hs : s = 0 ∨ s = 9223372036854775808) (hm : m < 18446744073709551616) : bitsR (makeS s m e).1 = (makeS s m e).1 ∧ (makeS s m e).1 < 18446744073709551616 := by
  have key : ∀ b, ex b ≠ 2047 → bitsR b = b := fun b h => by unfold bitsR; rw [if_neg (kind_ne h)]
  rcases makeS_cases s m e hm with ⟨_, h⟩ | ⟨_, h, _⟩ | ⟨_, _, _, r, M, _, _, ⟨hM, _, h⟩ | ⟨_, _, E, _, _, hE, h⟩⟩ <;> rw [h]
  · refine ⟨key _ ?_, by dsimp only; omega⟩
    have := (kind_small (M := 0) hs (by decide)).1
    rw [Nat.add_zero] at this; rw [this]; decide
  · exact ⟨key _ (by decide), by decide⟩
  · exact ⟨key _ (by rw [(kind_small hs hM).1]; decide), by dsimp only; omega⟩
  · exact ⟨key _ (by rw [(kind_norm hs hE (Nat.mod_lt _ (by decide))).1]; omega), by dsimp only; omega⟩

theorem sgn_or (neg : Bool) : sgn neg = 0 ∨ sgn neg = 9223372036854775808 := by cases neg <;> simp [sgn]

theorem F4_of {neg : Bool} {m : Nat} {e : Int} {h : Heap} {K : Bool → Heap → Prop} (hm : m < 18446744073709551616) (ht : Tab h) (hk : ∀ h', Ext h h' → K true h') : F4 neg (m : Int) e h K := by
  unfold F4
  refine qcallP2.of (makeR neg m e).1 (makeR neg m e).2 (fun R hR => F19_of hm ht hR) ?_
  refine callP2.self (F20_of hm fun h8 e8 => ?_)
  refine newP_intro fun a h9 ha hs9 e9 r9 => ?_
  simp only [add_mk, Nat.zero_add]
  refine stC_row r9 (by simp) ?_
  have r1 := r9.set 0 (.int .u64 ((makeR neg m e).1 : Nat))
  refine stC_row r1 (by simp) ?_
  have r2 := r1.set 1 (.bool (makeR neg m e).2)
  have hsz := e8.size
  have ex := (((e8.trans e9).setC (p := ⟨a, 0, none⟩) (by show h.size ≤ a; omega) (.int .u64 ((makeR neg m e).1 : Nat))).setC (p := ⟨a, 1, none⟩) (by show h.size ≤ a; omega) (.bool (makeR neg m e).2))
  refine ⟨_, by rw [r2.cell]; rfl, iteB_pos (by simp) ?_⟩
  refine qcallP1.of (bitsR (makeR neg m e).1) (fun R hR => F11_of hR) ⟨_, by rw [r2.cell]; rfl, iteB_pos ?_ ?_⟩
  · unfold makeR; rw [(made_kind _ m e (sgn_or neg) hm).1]; simp
  · exact qcallP1.of true (fun R hR => F18_of (ht.ext ex) hR) (hk _ ex)

/-- A float's parts are made to the float. -/
theorem make_parts (b : Nat) (hb : b < 18446744073709551616) (h : ex b ≠ 2047) : ∃ n : Nat, (partsR b).1 = n ∧ n < 18446744073709551616 ∧ (partsR b).2.2 = true ∧ makeR (negR b) n (partsR b).2.1 = (b, true) := by
  have hfr : fr b < 4503599627370496 := by unfold fr; omega
  have hex : ex b < 2047 := by have : ex b < 2048 := by unfold ex; omega
                               omega
  have hsb : b = sgn (negR b) + ex b * 4503599627370496 + fr b := by
    unfold negR sgn
    by_cases c : 9223372036854775808 ≤ b
    · rw [if_pos (decide_eq_true ⟨kind_ne h, c⟩)]; unfold ex fr; omega
    · rw [if_neg (by simp [c])]; unfold ex fr; omega
  have hs := sgn_or (negR b)
  unfold makeR
  unfold partsR; rw [if_neg h]
  by_cases c2 : magR b = 0
  · rw [if_pos c2]
    refine ⟨0, rfl, by decide, rfl, ?_⟩
    unfold makeS; rw [if_pos rfl]
    unfold magR at c2; split at c2
    · rename_i c; rw [c, c2] at hsb; rw [show sgn (negR b) = b by omega]
    · omega
  · rw [if_neg c2]
    have hm := mag_lt b
    obtain ⟨t1, t2⟩ := tz_spec (magR b) c2
    have hz0 : tz (magR b / 2 ^ tz (magR b)) = 0 := tz_odd t1
    have hml : magR b / 2 ^ tz (magR b) < 18446744073709551616 := Nat.lt_of_le_of_lt (Nat.div_le_self _ _) (Nat.lt_trans hm (by decide))
    refine ⟨_, rfl, hml, rfl, ?_⟩
    have hon : magR b / 2 ^ tz (magR b) ≠ 0 := fun e => by rw [e] at t1; omega
    have hlen := len_mul (tz (magR b)) hon
    rw [← t2] at hlen
    have hl53 : len (magR b) ≤ 53 := len_le.2 hm
    have hl52 : len (magR b) ≤ 52 ↔ magR b < 4503599627370496 := len_le (k := 52)
    have hn1 : 0 < len (magR b / 2 ^ tz (magR b)) := by unfold len; rw [if_neg hon]; omega
    have hexp : 1 ≤ expR b ∧ expR b ≤ 2046 := by unfold expR; split <;> omega
    have hme : (ex b = 0 ∧ expR b = 1 ∧ magR b = fr b) ∨ (ex b ≠ 0 ∧ expR b = ex b ∧ magR b = fr b + 4503599627370496) := by
      unfold expR magR; by_cases c : ex b = 0 <;> simp [c]
    rcases makeS_cases (sgn (negR b)) (magR b / 2 ^ tz (magR b)) (expR b - 1075 + (tz (magR b) : Nat)) hml with ⟨h0, _⟩ | ⟨_, _, hc⟩ | ⟨_, _, _, r, M, hM, hr, hh⟩
    · exact absurd h0 hon
    · exfalso
      rw [hz0, Nat.pow_zero, Nat.div_one] at hc
      omega
    · rw [hz0, Nat.pow_zero, Nat.div_one] at hM hr
      rw [hz0] at hh
      have hrt : ∀ (n T L : Nat) (x : Int), r = min (53 - n) (x - 1075 + (T : Nat) + ((0 : Nat) : Int) + 1074).toNat → L = n + T → L ≤ 53 → 1 ≤ x → (x = 1 ∨ 52 < L) → r = T := by intros; omega
      have hrt : r = tz (magR b) := hrt _ _ _ _ hr hlen hl53 hexp.1 (by rcases hme with ⟨a1, a2, a3⟩ | ⟨a1, a2, a3⟩ <;> omega)
      rw [hrt, ← t2] at hM
      rw [hM] at hh
      rcases hh with ⟨g1, g2, g3⟩ | ⟨g1, g2, E, g3, g4, g5, g6⟩
      · rw [g3]
        have : sgn (negR b) + magR b = b := by rcases hme with ⟨a1, a2, a3⟩ | ⟨a1, a2, a3⟩ <;> omega
        rw [this]
      · rw [g6]
        have : sgn (negR b) + E * 4503599627370496 + magR b % 4503599627370496 = b := by rcases hme with ⟨a1, a2, a3⟩ | ⟨a1, a2, a3⟩ <;> omega
        rw [this]

/-- What is made has the parts that it was made of. -/
theorem parts_make {m : Nat} {e : Int} (hm : m < 18446744073709551616) (h0 : m ≠ 0) (hok : (makeR false m e).2 = true) :
    partsR (makeR false m e).1 = (((m / 2 ^ tz m : Nat) : Int), e + (tz m : Nat), true) ∧ -2000 ≤ e ∧ e ≤ 2000 := by
  unfold makeR at *
  have hs : sgn false = 0 := rfl
  obtain ⟨t1, t2⟩ := tz_spec m h0
  have hon : m / 2 ^ tz m ≠ 0 := fun e => by rw [e] at t1; omega
  rcases makeS_cases (sgn false) m e hm with ⟨h, _⟩ | ⟨_, hn, _⟩ | ⟨_, g1, g2, r, M, hM, hr, hh⟩
  · exact absurd h h0
  · rw [hn] at hok; cases hok
  · refine ⟨?_, g1, g2⟩
    obtain ⟨u1, u2⟩ := tz_mul (o := m / 2 ^ tz m) (k := r) t1
    rw [← hM] at u1 u2
    have hM0 : M ≠ 0 := by rw [hM]; exact Nat.mul_ne_zero hon (Nat.pos_iff_ne_zero.1 (Nat.two_pow_pos r))
    rcases hh with ⟨k1, k2, k3⟩ | ⟨k1, k2, E, k3, k4, k5, k6⟩
    · rw [k3]; dsimp only
      obtain ⟨x1, x2⟩ := kind_small (s := sgn false) (.inl rfl) k1
      have hmag : magR (sgn false + M) = M := by unfold magR; rw [if_pos x1, x2]
      unfold partsR; rw [if_neg (by rw [x1]; decide), hmag, if_neg hM0, u1, u2]
      unfold expR; rw [if_pos x1, show (1 : Int) - 1075 + (r : Nat) = e + (tz m : Nat) by omega]
    · rw [k6]; dsimp only
      obtain ⟨x1, x2⟩ := kind_norm (s := sgn false) (E := E) (f := M % 4503599627370496) (.inl rfl) k5 (Nat.mod_lt _ (by decide))
      have hmag : magR (sgn false + E * 4503599627370496 + M % 4503599627370496) = M := by unfold magR; rw [if_neg (by omega), x2]; omega
      unfold partsR; rw [if_neg (by rw [x1]; omega), hmag, if_neg hM0, u1, u2]
      unfold expR; rw [if_neg (by omega), x1, show ((E : Nat) : Int) - 1075 + (r : Nat) = e + (tz m : Nat) by omega]

theorem wrap_i16_id {x : Int} (h1 : -32768 ≤ x) (h2 : x < 32768) : IntKind.i16.wrap x = x := by
  have h : IntKind.i16.wrap x = if x % 65536 ≥ 32768 then x % 65536 - 65536 else x % 65536 := by simp [IntKind.wrap, IntKind.bits, IntKind.signed]
  rw [h]; split <;> omega

theorem F5_l0 {K2 : Int → Int → Heap → Prop} {c15 c16 : Int} {c17 : Bool} {h : Heap} : ∀ (k m : Nat) (e i : Int), m ≠ 0 → m < 4294967296 → tz m = k → -10000 ≤ e → e + (k : Nat) < 10000 → 0 ≤ i → i + (k : Nat) < 32 → K2 ((m / 2 ^ k : Nat) : Int) (e + (k : Nat)) h → F5.l0 K2 (k + 1) (m : Int) e c15 c16 c17 i h
  | 0, m, e, i, h0, hm, ht, g1, g2, g3, g4, hk => by
    have odd : m % 2 = 1 := by
      rcases Nat.mod_two_eq_zero_or_one m with e | e
      · rw [tz_even h0 e] at ht; omega
      · exact e
    unfold F5.l0 F5.b0
    refine iteB_pos (decide_eq_true (by omega)) (iteB_pos (decide_eq_true (by omega)) ⟨by decide, ?_⟩)
    rw [tmod2]
    exact iteB_neg (decide_eq_false (by omega)) (by simpa using hk)
  | k + 1, m, e, i, h0, hm, ht, g1, g2, g3, g4, hk => by
    have even : m % 2 = 0 := by
      rcases Nat.mod_two_eq_zero_or_one m with e | e
      · exact e
      · rw [tz_odd e] at ht; omega
    have ht' : tz (m / 2) = k := by rw [tz_even h0 even] at ht; omega
    unfold F5.l0 F5.b0
    refine iteB_pos (decide_eq_true (by omega)) (iteB_pos (decide_eq_true (by omega)) ⟨by decide, ?_⟩)
    rw [tmod2]
    refine iteB_pos (decide_eq_true even) ⟨by decide, ?_⟩
    have w1 : IntKind.u32.wrap ((m : Int).tdiv 2) = ((m / 2 : Nat) : Int) := by rw [tdiv2, IntKind.wrap_u32']; omega
    have w2 : IntKind.i16.wrap (e + 1) = e + 1 := wrap_i16_id (by omega) (by omega)
    rw [w1, w2, wrap_id (by omega) (by omega)]
    refine F5_l0 k (m / 2) (e + 1) (i + 1) (by omega) (by omega) ht' (by omega) (by omega) (by omega) (by omega) ?_
    rw [Nat.div_div_eq_div_mul, Nat.mul_comm, ← Nat.pow_succ, show e + 1 + (k : Nat) = e + ((k + 1 : Nat) : Int) by omega]; exact hk

theorem F5_of {b m : Nat} {e : Int} {h : Heap} {K : Bool → Heap → Prop} (hb : b < 18446744073709551616) (hm : m < 4294967296) (he : -32768 ≤ e ∧ e < 32768) (ht : Tab h) (hk : K true h) : F5 (b : Int) (m : Int) e h K := by
  unfold F5
  refine qcallP1.of b (fun R hR => F9_of hR) (qcallP3.of (partsR b).1 (partsR b).2.1 (partsR b).2.2 (fun R hR => F10_of hb ht hR) ?_)
  refine qcallP1.of (negR b) (fun R hR => F15_of hb hR) ?_
  have w1 : IntKind.u64.wrap (m : Int) = (m : Int) := wrap_nat (by omega)
  have w2 : IntKind.i64.wrap e = e := wrap_id (by omega) (by omega)
  have haw : ∀ {R : Bool → Heap → Prop}, R true h → F18 h R := fun hR => F18_of ht hR
  have hj : qcallP2 h (F19 false (IntKind.u64.wrap (m : Int)) (IntKind.i64.wrap e) h) fun x13 x14 => (qcallP3 h (F10 x13 h) fun x15 x16 x17 => ((iteB (!x14) (qcallP1 h (F11 x13 h) fun x18 => iteB (x18 == (0 : Int)) (qcallP1 h (F18 h) fun x19 => K x19 h) (K false h)) (((∃ m24, F5.l0 (fun z21 z22 h23 => ((iteB x17 (iteB (x15 == (IntKind.u64.wrap z21)) (iteB (z21 == (0 : Int)) (iteB (x16 == (0 : Int)) (qcallP1 h23 (F18 h23) fun x25 => K x25 h23) (iteB (decide (z21 > (0 : Int))) (iteB (x16 == (IntKind.i64.wrap z22)) (qcallP1 h23 (F18 h23) fun x26 => K x26 h23) (K false h23)) (K false h23))) (iteB (decide (z21 > (0 : Int))) (iteB (x16 == (IntKind.i64.wrap z22)) (qcallP1 h23 (F18 h23) fun x27 => K x27 h23) (K false h23)) (K false h23))) (K false h23)) (K false h23)))) m24 (m : Int) e x15 x16 x17 0 h)))))) := by
    rw [w1, w2]
    refine qcallP2.of (makeR false m e).1 (makeR false m e).2 (fun R hR => F19_of (by omega) ht hR) ?_
    obtain ⟨mk1, mk2⟩ := made_kind (sgn false) m e (sgn_or false) (by omega)
    refine qcallP3.of _ _ _ (fun R hR => F10_of mk2 ht hR) ?_
    cases hok : (makeR false m e).2 with
    | false =>
      refine iteB_pos rfl (qcallP1.of (bitsR (makeR false m e).1) (fun R hR => F11_of hR) (iteB_pos ?_ (qcallP1.of true (fun R hR => haw hR) hk)))
      have : (makeR false m e).1 = 0 := by
        unfold makeR at *
        rcases makeS_cases (sgn false) m e (by omega) with ⟨_, h⟩ | ⟨_, h, _⟩ | ⟨_, _, _, r, M, _, _, ⟨hM, _, h⟩ | ⟨_, _, E, _, _, hE, h⟩⟩ <;> rw [h] at hok ⊢ <;> cases hok
      rw [this]; decide
    | true =>
      refine iteB_neg rfl ?_
      by_cases h0 : m = 0
      · subst h0
        have e1 : (makeR false 0 e).1 = 0 := rfl
        have e2 : partsR 0 = (0, 0, true) := by decide
        rw [e1, e2]
        refine ⟨1, ?_⟩
        unfold F5.l0 F5.b0
        refine iteB_pos (by decide) (iteB_neg (by decide) ?_)
        exact iteB_pos rfl (iteB_pos (by decide) (iteB_pos (by decide) (iteB_pos (by decide) (qcallP1.of true (fun R hR => haw hR) hk))))
      · obtain ⟨p1, p2, p3⟩ := parts_make (by omega) h0 hok
        rw [p1]
        have t32 : tz m < 32 := tz_lt h0 hm
        obtain ⟨t1, t2⟩ := tz_spec m h0
        have hle : m / 2 ^ tz m ≤ m := Nat.div_le_self _ _
        have hon : 0 < m / 2 ^ tz m := Nat.pos_of_ne_zero fun e => by rw [e] at t1; omega
        have ho : ((m / 2 ^ tz m : Nat) : Int) > 0 := Int.natCast_pos.2 hon
        refine ⟨tz m + 1, F5_l0 (tz m) m e 0 h0 hm rfl (by omega) (by omega) (by omega) (by omega) ?_⟩
        refine iteB_pos rfl (iteB_pos ?_ (iteB_neg ?_ (iteB_pos (decide_eq_true ho) (iteB_pos ?_ (qcallP1.of true (fun R hR => haw hR) hk)))))
        · rw [wrap_nat (by omega)]; simp
        · rw [beq_eq_false_iff_ne]; exact Int.ne_of_gt ho
        · rw [wrap_id (by omega) (by omega)]; simp
  by_cases hx : ex b = 2047
  · have hp : partsR b = (0, 0, false) := by unfold partsR; rw [if_pos hx]
    rw [hp]
    refine qcallP2.of (makeR (negR b) 0 0).1 (makeR (negR b) 0 0).2 (fun R hR => F19_of (m := 0) (by decide) ht hR) ?_
    exact iteB_neg rfl (iteB_pos rfl (iteB_neg (by decide) (iteB_neg (by decide) hj)))
  · obtain ⟨n, n1, n2, n3, n4⟩ := make_parts b hb hx
    rw [n1, n3]
    refine qcallP2.of (makeR (negR b) n (partsR b).2.1).1 (makeR (negR b) n (partsR b).2.1).2 (fun R hR => F19_of n2 ht hR) ?_
    rw [n4]
    refine iteB_pos rfl (iteB_neg rfl (qcallP1.of (bitsR b) (fun R hR => F11_of hR) (iteB_neg ?_ (iteB_neg rfl hj))))
    unfold bitsR; rw [if_neg (kind_ne hx)]; simp
end Go.Proofs.YtnmeoeakepcieaaDoor
