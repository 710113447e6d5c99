/-
  Plain laws on floats: the number that a float is, and back.
-/
import Derived.Test.YtnmeoeakepcieaaB4
namespace Go.Hp
set_option linter.unusedVariables false
set_option linter.unusedSimpArgs false
open Go.RowKit

def sv (s : Bool) (x : Nat) : Int := if s then -(x : Int) else (x : Int)

theorem cmp_lt (x y : Int) : (some (compare x y) == some Ordering.lt) = decide (x < y) := by
  simp only [compare, compareOfLessAndEq]
  by_cases h1 : x < y
  · rw [if_pos h1, decide_eq_true h1]; rfl
  · rw [if_neg h1, decide_eq_false h1]; split <;> rfl
theorem cmp_ge (x y : Int) : (some (compare x y) == some Ordering.gt || some (compare x y) == some Ordering.eq) = decide (y ≤ x) := by
  simp only [compare, compareOfLessAndEq]
  by_cases h1 : x < y
  · rw [if_pos h1, decide_eq_false (by omega)]; rfl
  · rw [if_neg h1, decide_eq_true (by omega)]; split <;> rfl
theorem ord_num (s t : Bool) (m n : Nat) (i j : Int) : (Ieee.Datum.number s m i).order (.number t n j) = some (compare (sv s (m * 2 ^ (i - min i j).toNat)) (sv t (n * 2 ^ (j - min i j).toNat))) := by
  simp only [Ieee.Datum.order, Ieee.signed, Nat.shiftLeft_eq, sv]

/-- A normal float that is no int64. -/
def badR (b : Nat) : Prop := 1086 ≤ ex b ∧ ¬ (9223372036854775808 ≤ b ∧ ex b = 1086 ∧ fr b = 0)
instance (b : Nat) : Decidable (badR b) := by unfold badR; exact inferInstance

theorem range_bad {b : Nat} (hb : b < 18446744073709551616) (h : ex b < 2047) (h0 : ex b ≠ 0) :
    (FloatKind.f64.format.order b 14114281232179134464 == some .lt || (FloatKind.f64.format.order b 4890909195324358656 == some .gt || FloatKind.f64.format.order b 4890909195324358656 == some .eq)) = decide (badR b) := by
  obtain ⟨hbs, hfr, hm, hx⟩ := float_split hb h0
  have hd := decode_fin hb (by omega)
  have hn : FloatKind.f64.decode 14114281232179134464 = .number true 4503599627370496 11 := by rw [decode_fin (by decide) (by decide)]; rfl
  have hp : FloatKind.f64.decode 4890909195324358656 = .number false 4503599627370496 11 := by rw [decode_fin (by decide) (by decide)]; rfl
  show ((FloatKind.f64.decode b).order (FloatKind.f64.decode 14114281232179134464) == some .lt || ((FloatKind.f64.decode b).order (FloatKind.f64.decode 4890909195324358656) == some .gt || (FloatKind.f64.decode b).order (FloatKind.f64.decode 4890909195324358656) == some .eq)) = _
  rw [hd, hn, hp, ord_num, ord_num, cmp_lt, cmp_ge, hx, hm]
  have hs : (decide (9223372036854775808 ≤ b) = true) = (9223372036854775808 ≤ b) := by simp
  unfold badR
  rw [← Bool.decide_or]
  apply decide_eq_decide.2
  simp only [sv, Bool.false_eq_true, if_false, if_true, hs]
  by_cases hi : 1086 ≤ ex b
  · obtain ⟨u, hu⟩ : ∃ u : Nat, ex b = 1086 + u := ⟨ex b - 1086, by omega⟩
    rw [show min ((ex b : Int) - 1075) 11 = 11 by omega, show ((ex b : Int) - 1075 - 11).toNat = u by omega, show ((11 : Int) - 11).toNat = 0 by omega, Nat.pow_zero, Nat.mul_one]
    have h1 : fr b + 4503599627370496 ≤ (fr b + 4503599627370496) * 2 ^ u := Nat.le_mul_of_pos_right _ (Nat.two_pow_pos u)
    have h2 : u = 0 ∨ 2 * (fr b + 4503599627370496) ≤ (fr b + 4503599627370496) * 2 ^ u := by
      rcases Nat.eq_zero_or_pos u with e | e
      · exact .inl e
      · right
        rw [Nat.mul_comm]
        exact Nat.mul_le_mul_left _ (by have := Nat.pow_le_pow_right (n := 2) (by decide) e; omega)
    have h3 : u = 0 → (fr b + 4503599627370496) * 2 ^ u = fr b + 4503599627370496 := by intro e; rw [e]; omega
    clear hd hm hx
    generalize (fr b + 4503599627370496) * 2 ^ u = q at *
    split <;> omega
  · obtain ⟨u, hu, hu0⟩ : ∃ u : Nat, ex b + u = 1086 ∧ 0 < u := ⟨1086 - ex b, by omega, by omega⟩
    rw [show min ((ex b : Int) - 1075) 11 = (ex b : Int) - 1075 by omega, show ((ex b : Int) - 1075 - ((ex b : Int) - 1075)).toNat = 0 by omega, show ((11 : Int) - ((ex b : Int) - 1075)).toNat = u by omega, Nat.pow_zero, Nat.mul_one]
    have h2 : 4503599627370496 * 2 ≤ 4503599627370496 * 2 ^ u := Nat.mul_le_mul_left _ (by have := Nat.pow_le_pow_right (n := 2) (by decide) hu0; omega)
    clear hd hm hx
    generalize 4503599627370496 * 2 ^ u = q at *
    split <;> omega

/-- A float without its sign, cut. -/
def natR (b : Nat) : Nat := magR b * 2 ^ (expR b - 1075).toNat / 2 ^ (-(expR b - 1075)).toNat
theorem toInt_fin {b : Nat} (hb : b < 18446744073709551616) (h : ex b ≠ 2047) : (FloatKind.f64.decode b).toInt .zero = some (sv (decide (9223372036854775808 ≤ b)) (natR b)) := by
  rw [decode_fin hb h]
  simp only [Ieee.Datum.toInt, Ieee.Datum.integral, cut_zero, Nat.shiftLeft_eq, Ieee.signed, Nat.pow_zero, Nat.mul_one, sv, natR]

/-- The number that a float is, or why it is none. -/
def intR (b : Nat) : Int × Int :=
  if kindI b = 0 then (0, 11) else if kindI b = 1 then (0, 12) else if kindI b = 2 then (0, 0) else if kindI b = 3 then (0, 13) else
  if ¬ wholeR b then (0, 13) else if badR b then (0, 10) else (sv (decide (9223372036854775808 ≤ b)) (natR b), 0)

theorem kind_4 {b : Nat} (h0 : kindI b ≠ 0) (h1 : kindI b ≠ 1) (h2 : kindI b ≠ 2) (h3 : kindI b ≠ 3) : ex b < 2047 ∧ ex b ≠ 0 ∧ kindI b = 4 := by
  have hx : ex b < 2048 := by unfold ex; omega
  unfold kindI at *
  by_cases c : ex b = 2047
  · rw [if_pos c] at h0 h1; by_cases d : fr b = 0
    · rw [if_pos d] at h1; exact absurd rfl h1
    · rw [if_neg d] at h0; exact absurd rfl h0
  · rw [if_neg c] at h2 h3 ⊢; by_cases d : ex b = 0
    · rw [if_pos d] at h2 h3; by_cases e : fr b = 0
      · rw [if_pos e] at h2; exact absurd rfl h2
      · rw [if_neg e] at h3; exact absurd rfl h3
    · exact ⟨by omega, d, by rw [if_neg d]⟩

/-- A whole normal float: an odd number times a power of two. -/
theorem nat_whole {b : Nat} (hb : b < 18446744073709551616) (h : ex b < 2047) (h0 : ex b ≠ 0) (hw : wholeR b) :
    ∃ o k : Nat, o % 2 = 1 ∧ natR b = o * 2 ^ k ∧ (k : Int) = (ex b : Int) - 1075 + (tz (magR b) : Nat) ∧ o = magR b / 2 ^ tz (magR b) := by
  obtain ⟨hbs, hfr, hm, hx⟩ := float_split hb h0
  obtain ⟨t1, t2⟩ := tz_spec (magR b) (by omega)
  unfold wholeR at hw
  refine ⟨magR b / 2 ^ tz (magR b), ((ex b : Int) - 1075 + (tz (magR b) : Nat)).toNat, t1, ?_, by omega, rfl⟩
  unfold natR; rw [hx]
  generalize tz (magR b) = t at *
  generalize magR b = m at *
  generalize hog : m / 2 ^ t = o at *
  by_cases hi : 1075 ≤ ex b
  · rw [show (-((ex b : Int) - 1075)).toNat = 0 by omega, Nat.pow_zero, Nat.div_one, t2, Nat.mul_assoc, ← Nat.pow_add, show t + ((ex b : Int) - 1075).toNat = ((ex b : Int) - 1075 + (t : Nat)).toNat by omega]
  · rw [show ((ex b : Int) - 1075).toNat = 0 by omega, Nat.pow_zero, Nat.mul_one, t2]
    obtain ⟨j, hj⟩ : ∃ j : Nat, (-((ex b : Int) - 1075)).toNat = j := ⟨_, rfl⟩
    rw [hj, show ((ex b : Int) - 1075 + (t : Nat)).toNat = t - j by omega, show t = t - j + j by omega, Nat.pow_add, ← Nat.mul_assoc, Nat.mul_div_cancel _ (Nat.two_pow_pos _), show t - j + j - j = t - j by omega]

theorem makeS_shift (s o k : Nat) (ho : o % 2 = 1) (hk : k ≤ 2000) : makeS s (o * 2 ^ k) 0 = makeS s o k := by
  obtain ⟨u1, u2⟩ := tz_mul (o := o) (k := k) ho
  have hz := tz_odd ho
  have h1 : o * 2 ^ k ≠ 0 := Nat.mul_ne_zero (by omega) (Nat.pos_iff_ne_zero.1 (Nat.two_pow_pos _))
  have e1 : (0 : Int) + (k : Nat) = (k : Int) := by omega
  have e2 : (k : Int) + ((0 : Nat) : Int) = (k : Int) := by omega
  have ho0 : o ≠ 0 := by omega
  have hc : ((0 : Int) < -2000 ∨ 2000 < (0 : Int) ∨ 53 < len o ∨ (k : Int) < -1074 ∨ 1024 < (k : Int) + (len o : Nat)) ↔ ((k : Int) < -2000 ∨ 2000 < (k : Int) ∨ 53 < len o ∨ (k : Int) < -1074 ∨ 1024 < (k : Int) + (len o : Nat)) := by
    generalize len o = L; omega
  unfold makeS
  rw [if_neg h1, if_neg ho0]
  simp only [u1, u2, hz, Nat.pow_zero, Nat.div_one, e1, e2, hc]

theorem sv_lt {s : Bool} {x : Nat} (h : x ≠ 0) : decide (sv s x < 0) = s ∧ (sv s x).natAbs = x ∧ sv s x ≠ 0 := by
  cases s
  · exact ⟨decide_eq_false (by simp [sv]), by simp [sv], by simp [sv, h]⟩
  · exact ⟨decide_eq_true (by simp [sv]; omega), by simp [sv], by simp [sv, h]⟩

def floatR (n : Int) : Nat × Bool := makeR (decide (n < 0)) n.natAbs 0

/-- A float that is a number is made of it. -/
theorem float_of_int {b : Nat} {v : Int} (hb : b < 18446744073709551616) (h : intR b = (v, 0)) : (v = 0 ∧ (b = 0 ∨ b = 9223372036854775808)) ∨ (v ≠ 0 ∧ floatR v = (b, true)) := by
  unfold intR at h
  by_cases c0 : kindI b = 0
  · rw [if_pos c0] at h; simp at h
  rw [if_neg c0] at h
  by_cases c1 : kindI b = 1
  · rw [if_pos c1] at h; simp at h
  rw [if_neg c1] at h
  by_cases c2 : kindI b = 2
  · rw [if_pos c2] at h
    have : ex b = 0 ∧ fr b = 0 := by
      unfold kindI at c2; by_cases d : ex b = 2047
      · rw [if_pos d] at c2; split at c2 <;> simp at c2
      · rw [if_neg d] at c2; by_cases e : ex b = 0
        · rw [if_pos e] at c2; by_cases f : fr b = 0
          · exact ⟨e, f⟩
          · rw [if_neg f] at c2; simp at c2
        · rw [if_neg e] at c2; simp at c2
    left; refine ⟨by simp at h; omega, ?_⟩
    unfold ex fr at this; omega
  rw [if_neg c2] at h
  by_cases c3 : kindI b = 3
  · rw [if_pos c3] at h; simp at h
  rw [if_neg c3] at h
  obtain ⟨hx, hx0, _⟩ := kind_4 c0 c1 c2 c3
  by_cases cw : wholeR b
  · rw [if_neg (by simpa using cw)] at h
    by_cases cb : badR b
    · rw [if_pos cb] at h; simp at h
    · rw [if_neg cb] at h
      obtain ⟨o, k, o1, o2, o3, o4⟩ := nat_whole hb hx hx0 cw
      have hne : natR b ≠ 0 := by rw [o2]; exact Nat.mul_ne_zero (by omega) (Nat.pos_iff_ne_zero.1 (Nat.two_pow_pos _))
      obtain ⟨s1, s2, s3⟩ := sv_lt (s := decide (9223372036854775808 ≤ b)) hne
      have hv := (Prod.mk.inj h).1
      right
      rw [hv] at s1 s2 s3
      refine ⟨s3, ?_⟩
      obtain ⟨hbs, hfr, hm, hxx⟩ := float_split hb hx0
      have hmlt := mag_lt b
      have ht : tz (magR b) < 53 := tz_lt (by omega) (by omega)
      have hk : k ≤ 2000 := by omega
      obtain ⟨n, n1, n2, n3, n4⟩ := make_parts b hb (by omega)
      have hp : partsR b = (((magR b / 2 ^ tz (magR b) : Nat) : Int), expR b - 1075 + (tz (magR b) : Nat), true) := by unfold partsR; rw [if_neg (by omega), if_neg (by omega)]
      rw [hp] at n1 n4
      simp only [] at n1 n4
      have hno : n = o := by omega
      have hneg : negR b = decide (9223372036854775808 ≤ b) := by unfold negR; exact decide_eq_decide.2 ⟨fun x => x.2, fun x => ⟨c0, x⟩⟩
      rw [hno, hxx, ← o3, hneg] at n4
      unfold floatR makeR at *
      rw [s1, s2, o2, makeS_shift _ _ _ o1 hk]; exact n4
  · rw [if_pos (by simpa using cw)] at h; simp at h

theorem nearest_lt (n : Int) : FloatKind.f64.nearest n < 18446744073709551616 := by
  show Ieee.double.nearest (decide (n < 0)) n.natAbs 0 < _
  unfold Ieee.Format.nearest
  have key : ∀ s r, r ≤ Ieee.double.infRung → Ieee.double.word s r < 18446744073709551616 := by
    intro s r hr
    rw [dbl_inf] at hr
    unfold Ieee.Format.word
    rw [dbl_sign]
    split <;> omega
  split
  · exact key _ _ (Nat.zero_le _)
  · exact key _ _ (Nat.min_le_right _ _)

theorem exps1 {L lo k r : Nat} (h1 : L + 1 = lo + k) (h2 : r = 53 - lo) (h3 : lo ≤ 53) (h4 : L ≤ 52) : k + (52 - L) = r := by omega
theorem exps2 {L lo k r : Nat} (h1 : L + 1 = lo + k) (h2 : r = 53 - lo) (h3 : lo ≤ 53) (h4 : ¬ L ≤ 52) : r + (L - 52) = k := by omega
/-- A number that has a float is that float's. -/
theorem int_core {s : Bool} {c : Nat} (hm0 : c ≠ 0) (hle63 : c ≤ 9223372036854775808) (hs63 : c = 9223372036854775808 → s = true) (hok : (makeS (sgn s) c 0).2 = true) :
    Ieee.double.nearest s c 0 = (makeS (sgn s) c 0).1 ∧ intR (makeS (sgn s) c 0).1 = (sv s c, 0) := by
  have hml : c < 18446744073709551616 := by omega
  have hs := sgn_or s
  rcases makeS_cases (sgn (s)) c 0 hml with ⟨e, _⟩ | ⟨_, e, _⟩ | ⟨_, g1, g2, r, M, hM, hr, hh⟩
  · exact absurd e hm0
  · rw [e] at hok; cases hok
  · have hrr : ∀ (r n k : Nat), r = min (53 - n) ((0 : Int) + (k : Nat) + 1074).toNat → r = 53 - n := by intros; omega
    have hrr := hrr _ _ _ hr
    clear hr
    obtain ⟨t1, t2⟩ := tz_spec c hm0
    have hon : c / 2 ^ tz c ≠ 0 := fun e => by rw [e] at t1; omega
    have hlen := len_mul (tz c) hon
    rw [← t2] at hlen
    have hl1 : len c = c.log2 + 1 := by unfold len; rw [if_neg hm0]
    have hn1 : 0 < len (c / 2 ^ tz c) := by unfold len; rw [if_neg hon]; omega
    have t64 : tz c < 64 := tz_lt hm0 hml
    obtain ⟨u1, u2⟩ := tz_mul (o := c / 2 ^ tz c) (k := r) t1
    rw [← hM] at u1 u2
    have hdvd := @tz_dvd c (c.log2 - 52) hm0
    have hss : s = decide (9223372036854775808 ≤ sgn s) := by cases s <;> rfl
    have h63 : c = 9223372036854775808 → sgn s = 9223372036854775808 := by intro e; rw [hs63 e]; rfl
    have hlog : 2 ^ c.log2 ≤ c := Nat.log2_self_le hm0
    have hex := fun hL hd => nearest_exact (s) hm0 hL hd
    have hM53 : 53 < len (c / 2 ^ tz c) → False := by
      intro hc
      have h53 : 53 - len (c / 2 ^ tz c) = 0 := by omega
      have hr0 : r = 0 := by rw [hrr]; exact h53
      have := @len_le M 53
      have hM' : M = c / 2 ^ tz c := by rw [hM, hr0, Nat.pow_zero, Nat.mul_one]
      rcases hh with ⟨k1, k2, k3⟩ | ⟨k1, k2, E, k3, k4, k5, k6⟩
      · omega
      · have := this.2 (by omega); rw [hM'] at this; omega
    generalize hog : c / 2 ^ tz c = o at *
    generalize tz c = k at *
    rcases hh with ⟨k1, k2, k3⟩ | ⟨k1, k2, E, k3, k4, k5, k6⟩
    · omega
    · have hlo : len o ≤ 53 := Nat.le_of_not_lt hM53
      have hlk : c.log2 + 1 = len o + k := by rw [← hl1]; exact hlen
      clear hlen hl1
      generalize len o = lo at *
      obtain ⟨kept, q1, q2, q3, q4⟩ := hex (by omega) (hdvd.2 (by omega))
      have hkept : kept = M := by
        rw [q1, hM]
        clear hex hdvd hlog
        generalize c.log2 = L at *
        by_cases hl : L ≤ 52
        · rw [show L - 52 = 0 by omega, Nat.pow_zero, Nat.div_one]
          have : c * 2 ^ (52 - L) = o * 2 ^ k * 2 ^ (52 - L) := by rw [← t2]
          rw [this, Nat.mul_assoc, ← Nat.pow_add, exps1 hlk hrr hlo hl]
        · rw [show 52 - L = 0 by omega, Nat.pow_zero, Nat.mul_one]
          have : c = o * 2 ^ r * 2 ^ (L - 52) := by rw [Nat.mul_assoc, ← Nat.pow_add, exps2 hlk hrr hlo hl]; exact t2
          rw [this]; exact Nat.mul_div_cancel _ (Nat.two_pow_pos _)
      rw [k6, q4]
      dsimp only
      obtain ⟨x1, x2⟩ := kind_norm (s := sgn (s)) (E := E) (f := M % 4503599627370496) hs k5 (Nat.mod_lt _ (by decide))
      refine ⟨by rw [hkept]; (clear t2 u2 hM q1 hdvd hex hlog; omega), ?_⟩
      have hbig : 9223372036854775808 ≤ sgn (s) + E * 4503599627370496 + M % 4503599627370496 ↔ 9223372036854775808 ≤ sgn (s) := by (clear t2 u2 hM q1 hdvd hex hlog; omega)
      have hXl : sgn (s) + E * 4503599627370496 + M % 4503599627370496 < 18446744073709551616 := by (clear t2 u2 hM q1 hdvd hex hlog; omega)
      obtain ⟨X, hX⟩ : ∃ X, sgn (s) + E * 4503599627370496 + M % 4503599627370496 = X := ⟨_, rfl⟩
      rw [hX] at hbig hXl x1 x2 ⊢
      clear hX
      have hmag : magR X = M := by unfold magR; rw [if_neg (by (clear t2 u2 hM q1 hdvd hex hlog; omega)), x2]; (clear t2 u2 hM q1 hdvd hex hlog; omega)
      have hexp : expR X = E := by unfold expR; rw [if_neg (by (clear t2 u2 hM q1 hdvd hex hlog; omega)), x1]
      have hk4 : kindI X = 4 := by unfold kindI; rw [if_neg (by (clear t2 u2 hM q1 hdvd hex hlog; omega)), if_neg (by (clear t2 u2 hM q1 hdvd hex hlog; omega))]
      have hwh : wholeR X := by unfold wholeR; rw [hmag, u1, x1]; (clear t2 u2 hM q1 hdvd hex hlog; omega)
      obtain ⟨o', k', a1, a2, a3, a4⟩ := nat_whole hXl (by (clear t2 u2 hM q1 hdvd hex hlog; omega)) (by (clear t2 u2 hM q1 hdvd hex hlog; omega)) hwh
      rw [hmag, u1, u2] at a4
      rw [hmag, u1, x1] at a3
      have hk' : k' = k := by (clear t2 u2 hM q1 hdvd hex hlog; omega)
      have hnat : natR X = c := by rw [a2, a4, hk']; exact t2.symm
      have hbad : ¬ badR X := by
        unfold badR
        rw [x1, x2, hbig]
        intro ⟨b1, b2⟩
        have hL63 : 63 ≤ c.log2 := by (clear t2 u2 hM q1 hdvd hex hlog; omega)
        have : 9223372036854775808 ≤ c := Nat.le_trans (by rw [show (9223372036854775808 : Nat) = 2 ^ 63 by decide]; exact Nat.pow_le_pow_right (by decide) hL63) hlog
        have hnn : c = 9223372036854775808 := by (clear t2 u2 hM q1 hdvd hex hlog; omega)
        have hlg : c.log2 = 63 := by rw [hnn]; decide
        have hs63' := h63 hnn
        have hM52 : M = 4503599627370496 := by
          rw [← hkept, q1, hlg, hnn]
        exact b2 ⟨by (clear t2 u2 hM q1 hdvd hex hlog; omega), by (clear t2 u2 hM q1 hdvd hex hlog; omega), by (clear t2 u2 hM q1 hdvd hex hlog; omega)⟩
      unfold intR
      rw [hk4]
      simp only [show (4 : Int) ≠ 0 by decide, show (4 : Int) ≠ 1 by decide, show (4 : Int) ≠ 2 by decide, show (4 : Int) ≠ 3 by decide, if_false, hwh, not_true_eq_false, hbad]
      rw [hnat, decide_eq_decide.2 hbig, ← hss]

theorem int_of_float {n : Int} (h1 : -9223372036854775808 ≤ n) (h2 : n < 9223372036854775808) (hok : (floatR n).2 = true) : FloatKind.f64.nearest n = (floatR n).1 ∧ intR (floatR n).1 = (n, 0) := by
  by_cases hn0 : n = 0
  · subst hn0; exact ⟨by rfl, by rfl⟩
  obtain ⟨c, hc⟩ : ∃ c, n.natAbs = c := ⟨_, rfl⟩
  have hab : n = sv (decide (n < 0)) c := by unfold sv; by_cases d : n < 0 <;> simp [d] <;> omega
  have hc0 : c ≠ 0 := by omega
  have hc63 : c ≤ 9223372036854775808 := by omega
  have hc64 : c = 9223372036854775808 → decide (n < 0) = true := fun e => decide_eq_true (by omega)
  unfold floatR makeR at *
  rw [hc] at hok ⊢
  obtain ⟨g1, g2⟩ := int_core hc0 hc63 hc64 hok
  rw [← hab] at g2
  refine ⟨?_, g2⟩
  show Ieee.double.nearest (decide (n < 0)) n.natAbs 0 = _
  rw [hc]; exact g1
end Go.Hp
