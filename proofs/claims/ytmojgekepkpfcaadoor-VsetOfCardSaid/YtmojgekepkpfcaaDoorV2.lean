/-
  Sets as words: plain laws on bits.
-/
import Derived.Test.YtmojgekepkpfcaaDoorV1
namespace Go.Proofs.YtmojgekepkpfcaaDoor
open Go.Hp
set_option linter.unusedVariables false
set_option linter.unusedSimpArgs false
set_option linter.unnecessarySimpa false

/-! ### How many bits -/
theorem and_split {q r m c : Nat} (hr : r < 256) (hc : c < 256) : (256 * q + r) &&& (256 * m + c) = 256 * (q &&& m) + (r &&& c) := by
  have h3 : r &&& c < 256 := Nat.lt_of_le_of_lt Nat.and_le_left hr
  apply Nat.eq_of_testBit_eq
  intro j
  have e : (256 : Nat) = 2 ^ 8 := rfl
  rw [e] at *
  rw [Nat.testBit_and, Nat.testBit_two_pow_mul_add _ hr, Nat.testBit_two_pow_mul_add _ hc, Nat.testBit_two_pow_mul_add _ h3]
  split <;> rw [Nat.testBit_and]
def rep (c : Nat) : Nat → Nat
  | 0 => 0
  | k + 1 => 256 * rep c k + c
theorem rep_succ (c k : Nat) : rep c (k + 1) = 256 * rep c k + c := rfl
def x1 (k w : Nat) : Nat := ((w / 2) &&& rep 85 k) + (w &&& rep 85 k)
def x2 (k w : Nat) : Nat := ((w / 4) &&& rep 51 k) + (w &&& rep 51 k)
def x3 (k w : Nat) : Nat := (w / 16 + w) &&& rep 15 k
def y1 (r : Nat) : Nat := ((r / 2) &&& 85) + (r &&& 85)
def y2 (r : Nat) : Nat := ((r / 4) &&& 51) + (r &&& 51)
def cnt (k w : Nat) : Nat := (List.range k).countP fun j => w.testBit j
set_option maxRecDepth 100000 in
theorem facts1 : ∀ r, r < 256 → y1 r < 256 ∧ y2 (y1 r) ≤ 68 ∧ y2 (y1 r) % 16 ≤ 4 ∧ cnt 8 r ≤ 8 ∧ (∀ t, t < 2 → (128 * t + r / 2) &&& 85 = (r / 2) &&& 85) ∧ (∀ t, t < 4 → (64 * t + r / 4) &&& 51 = (r / 4) &&& 51) ∧ (∀ t, t < 5 → (16 * t + y2 (y1 r) / 16 + y2 (y1 r)) &&& 15 = cnt 8 r) := by decide +kernel
theorem x1_succ (k q : Nat) {r : Nat} (hr : r < 256) : x1 (k + 1) (256 * q + r) = 256 * x1 k q + y1 r := by
  obtain ⟨_, _, _, _, f, _⟩ := facts1 r hr
  unfold x1 y1
  rw [rep_succ, and_split hr (by omega), show (256 * q + r) / 2 = 256 * (q / 2) + (128 * (q % 2) + r / 2) by omega, and_split (by omega) (by omega), f _ (by omega)]
  omega
theorem x2_succ (k q : Nat) {r : Nat} (hr : r < 256) : x2 (k + 1) (256 * q + r) = 256 * x2 k q + y2 r := by
  obtain ⟨_, _, _, _, _, f, _⟩ := facts1 r hr
  unfold x2 y2
  rw [rep_succ, and_split hr (by omega), show (256 * q + r) / 4 = 256 * (q / 4) + (64 * (q % 4) + r / 4) by omega, and_split (by omega) (by omega), f _ (by omega)]
  omega
def xF (k w : Nat) : Nat := x3 k (x2 k (x1 k w))
theorem x21_low (k w : Nat) : x2 k (x1 k w) % 16 ≤ 4 := by
  cases k with
  | zero => simp [x2, rep]
  | succ k =>
    obtain ⟨f1, f2, f3, _⟩ := facts1 (w % 256) (by omega)
    rw [show w = 256 * (w / 256) + w % 256 by omega, x1_succ k _ (by omega), x2_succ k _ f1]
    omega
theorem xF_succ (k w : Nat) : xF (k + 1) w = 256 * xF k (w / 256) + cnt 8 (w % 256) := by
  obtain ⟨f1, f2, f3, _, _, _, f7⟩ := facts1 (w % 256) (by omega)
  have hl := x21_low k (w / 256)
  unfold xF
  conv => lhs; rw [show w = 256 * (w / 256) + w % 256 by omega]
  rw [x1_succ k _ (by omega), x2_succ k _ f1]
  generalize x2 k (x1 k (w / 256)) = y at *
  generalize y2 (y1 (w % 256)) = z at *
  unfold x3
  rw [rep_succ, show (256 * y + z) / 16 + (256 * y + z) = 256 * (y / 16 + y) + (16 * (y % 16) + z / 16 + z) by omega, and_split (by omega) (by omega), f7 _ (by omega)]
theorem cnt_split (n w : Nat) : cnt (8 + n) w = cnt 8 (w % 256) + cnt n (w / 256) := by
  unfold cnt
  rw [List.range_add, List.countP_append, List.countP_map]
  congr 1
  · refine List.countP_congr fun j hj => ?_
    have : j < 8 := List.mem_range.1 hj
    rw [show (256 : Nat) = 2 ^ 8 from rfl, Nat.testBit_mod_two_pow]; simp [this]
  · refine List.countP_congr fun j hj => ?_
    rw [show (256 : Nat) = 2 ^ 8 from rfl, Function.comp, Nat.testBit_div_two_pow, Nat.add_comm]
theorem cnt_zero (w : Nat) : cnt 0 w = 0 := rfl
theorem dig {x y c : Nat} (h : x = 256 * y + c) (hc : c < 256) : x / 256 = y := by omega
theorem st2 {x x' y y' c d : Nat} (hx : x = 256 * y + c) (hy : x' = 256 * y' + d) : x + x' = 256 * (y + y') + (c + d) := by omega
theorem bnd {x y c n m : Nat} (hx : x = 256 * y + c) (hy : y ≤ n) (hc : c ≤ 8) (hm : 256 * n + 8 = m) : x ≤ m := by omega
theorem lt9 {c : Nat} (h : c ≤ 8) : c < 256 := by omega
theorem lt17 {c d : Nat} (h : c ≤ 8) (k : d ≤ 8) : c + d < 256 := by omega
theorem lt33 {c d e f : Nat} (h : c ≤ 8) (k : d ≤ 8) (l : e ≤ 8) (m : f ≤ 8) : c + d + (e + f) < 256 := by omega
theorem low64 {x y s : Nat} (h : x = 256 * y + s) (hs : s ≤ 64) : x % 128 = s := by omega
theorem sum8 {c0 c1 c2 c3 c4 c5 c6 c7 : Nat} (b0 : c0 ≤ 8) (b1 : c1 ≤ 8) (b2 : c2 ≤ 8) (b3 : c3 ≤ 8) (b4 : c4 ≤ 8) (b5 : c5 ≤ 8) (b6 : c6 ≤ 8) (b7 : c7 ≤ 8) : c0 + c1 + (c2 + c3) + (c4 + c5 + (c6 + c7)) ≤ 64 := by omega
theorem top4 {a0 a1 a2 a4 a5 a6 : Nat} (h0 : a0 ≤ 578721382704613384) (h1 : a1 ≤ 2260630401189896) (h2 : a2 ≤ 8830587504648) (h3 : a4 ≤ 134744072) (h4 : a5 ≤ 526344) (h5 : a6 ≤ 2056) {a3 a7 : Nat} (h6 : a3 ≤ 34494482440) (h7 : a7 ≤ 8) : a0 + a1 + (a2 + a3) < 9223372036854775808 ∧ a0 + a1 < 9223372036854775808 ∧ a0 + a1 + (a2 + a3) + (a4 + a5 + (a6 + a7)) < 9223372036854775808 := by omega
theorem ones_plain {y0 y1 y2 y3 y4 y5 y6 y7 c0 c1 c2 c3 c4 c5 c6 c7 : Nat} (b0 : c0 ≤ 8) (b1 : c1 ≤ 8) (b2 : c2 ≤ 8) (b3 : c3 ≤ 8) (b4 : c4 ≤ 8) (b5 : c5 ≤ 8) (b6 : c6 ≤ 8) (b7 : c7 ≤ 8)
    (e0 : y0 = 256 * y1 + c0) (e1 : y1 = 256 * y2 + c1) (e2 : y2 = 256 * y3 + c2) (e3 : y3 = 256 * y4 + c3) (e4 : y4 = 256 * y5 + c4) (e5 : y5 = 256 * y6 + c5) (e6 : y6 = 256 * y7 + c6) (e7 : y7 = 256 * 0 + c7) :
    y0 / 256 = y1 ∧ (y0 + y1) / 65536 = y2 + y3 ∧ (y0 + y1 + (y2 + y3)) / 4294967296 = y4 + y5 + (y6 + y7) ∧ (y0 + y1 + (y2 + y3) + (y4 + y5 + (y6 + y7))) % 128 = c0 + c1 + (c2 + c3) + (c4 + c5 + (c6 + c7)) ∧
      (y0 + y1 + (y2 + y3) < 9223372036854775808 ∧ y0 + y1 < 9223372036854775808 ∧ y0 + y1 + (y2 + y3) + (y4 + y5 + (y6 + y7)) < 9223372036854775808) := by
  have z0 := st2 e0 e1
  have z1 := st2 e1 e2
  have z2 := st2 e2 e3
  have z3 := st2 e3 e4
  have z4 := st2 e4 e5
  have z5 := st2 e5 e6
  have z6 := st2 e6 e7
  have u0 := st2 z0 z2
  have u1 := st2 z1 z3
  have u2 := st2 z2 z4
  have u3 := st2 z3 z5
  have u4 := st2 z4 z6
  have t0 := st2 u0 u4
  refine ⟨dig e0 (lt9 b0), ?_, ?_, low64 t0 (sum8 b0 b1 b2 b3 b4 b5 b6 b7), ?_⟩
  · rw [show (65536 : Nat) = 256 * 256 from rfl, ← Nat.div_div_eq_div_mul, dig z0 (lt17 b0 b1), dig z1 (lt17 b1 b2)]
  · rw [show (4294967296 : Nat) = 256 * 256 * 256 * 256 from rfl, ← Nat.div_div_eq_div_mul, ← Nat.div_div_eq_div_mul, ← Nat.div_div_eq_div_mul, dig u0 (lt33 b0 b1 b2 b3), dig u1 (lt33 b1 b2 b3 b4), dig u2 (lt33 b2 b3 b4 b5), dig u3 (lt33 b3 b4 b5 b6)]
  · have q7 := bnd e7 (Nat.le_refl 0) b7 rfl
    have q6 := bnd e6 q7 b6 rfl
    have q5 := bnd e5 q6 b5 rfl
    have q4 := bnd e4 q5 b4 rfl
    have q3 := bnd e3 q4 b3 rfl
    have q2 := bnd e2 q3 b2 rfl
    have q1 := bnd e1 q2 b1 rfl
    have q0 := bnd e0 q1 b0 rfl
    exact top4 q0 q1 q2 q4 q5 q6 q3 q7
theorem ones {w : Nat} {a b c : Nat} (ha : a = xF 8 w + xF 8 w / 256) (hb : b = a + a / 65536) (hc : c = b + b / 4294967296) : c % 128 = cnt 64 w ∧ c < 9223372036854775808 ∧ b < 9223372036854775808 ∧ a < 9223372036854775808 := by
  have B : ∀ r : Nat, cnt 8 (r % 256) ≤ 8 := fun r => (facts1 (r % 256) (Nat.mod_lt _ (by decide))).2.2.2.1
  have s0 : cnt 64 w = cnt 8 (w % 256) + cnt 56 (w / 256) := cnt_split 56 w
  have s1 : cnt 56 (w / 256) = cnt 8 (w / 256 % 256) + cnt 48 (w / 256 / 256) := cnt_split 48 (w / 256)
  have s2 : cnt 48 (w / 256 / 256) = cnt 8 (w / 256 / 256 % 256) + cnt 40 (w / 256 / 256 / 256) := cnt_split 40 (w / 256 / 256)
  have s3 : cnt 40 (w / 256 / 256 / 256) = cnt 8 (w / 256 / 256 / 256 % 256) + cnt 32 (w / 256 / 256 / 256 / 256) := cnt_split 32 (w / 256 / 256 / 256)
  have s4 : cnt 32 (w / 256 / 256 / 256 / 256) = cnt 8 (w / 256 / 256 / 256 / 256 % 256) + cnt 24 (w / 256 / 256 / 256 / 256 / 256) := cnt_split 24 (w / 256 / 256 / 256 / 256)
  have s5 : cnt 24 (w / 256 / 256 / 256 / 256 / 256) = cnt 8 (w / 256 / 256 / 256 / 256 / 256 % 256) + cnt 16 (w / 256 / 256 / 256 / 256 / 256 / 256) := cnt_split 16 (w / 256 / 256 / 256 / 256 / 256)
  have s6 : cnt 16 (w / 256 / 256 / 256 / 256 / 256 / 256) = cnt 8 (w / 256 / 256 / 256 / 256 / 256 / 256 % 256) + cnt 8 (w / 256 / 256 / 256 / 256 / 256 / 256 / 256) := cnt_split 8 (w / 256 / 256 / 256 / 256 / 256 / 256)
  have s7 : cnt 8 (w / 256 / 256 / 256 / 256 / 256 / 256 / 256) = cnt 8 (w / 256 / 256 / 256 / 256 / 256 / 256 / 256 % 256) + cnt 0 (w / 256 / 256 / 256 / 256 / 256 / 256 / 256 / 256) := cnt_split 0 (w / 256 / 256 / 256 / 256 / 256 / 256 / 256)
  obtain ⟨p1, p2, p3, p4, p5, p6, p7⟩ := ones_plain (B w) (B (w / 256)) (B (w / 256 / 256)) (B (w / 256 / 256 / 256)) (B (w / 256 / 256 / 256 / 256)) (B (w / 256 / 256 / 256 / 256 / 256)) (B (w / 256 / 256 / 256 / 256 / 256 / 256)) (B (w / 256 / 256 / 256 / 256 / 256 / 256 / 256)) (xF_succ 7 w) (xF_succ 6 (w / 256)) (xF_succ 5 (w / 256 / 256)) (xF_succ 4 (w / 256 / 256 / 256)) (xF_succ 3 (w / 256 / 256 / 256 / 256)) (xF_succ 2 (w / 256 / 256 / 256 / 256 / 256)) (xF_succ 1 (w / 256 / 256 / 256 / 256 / 256 / 256)) (show xF 1 (w / 256 / 256 / 256 / 256 / 256 / 256 / 256) = 256 * 0 + cnt 8 (w / 256 / 256 / 256 / 256 / 256 / 256 / 256 % 256) from by rw [xF_succ 0, show xF 0 (w / 256 / 256 / 256 / 256 / 256 / 256 / 256 / 256) = 0 by simp [xF, x3, rep]])
  rw [p1] at ha
  rw [ha, p2] at hb
  rw [hb, p3] at hc
  refine ⟨?_, by rw [hc]; exact p7, by rw [hb]; exact p5, by rw [ha]; exact p6⟩
  rw [hc, p4, s0, s1, s2, s3, s4, s5, s6, s7, cnt_zero]
  simp only [Nat.add_assoc, Nat.add_zero]

/-! ### Words and what is in them -/
def wd (g : Nat → Bool) : Nat → Nat
  | 0 => 0
  | k + 1 => 2 ^ k * (g k).toNat + wd g k
theorem wd_lt (g : Nat → Bool) : ∀ k, wd g k < 2 ^ k
  | 0 => by simp [wd]
  | k + 1 => by
    have := wd_lt g k
    unfold wd
    rw [Nat.pow_succ]
    cases g k <;> simp <;> omega
theorem wd_test (g : Nat → Bool) (j : Nat) : ∀ k, (wd g k).testBit j = (decide (j < k) && g j)
  | 0 => by simp [wd]
  | k + 1 => by
    unfold wd
    rw [Nat.testBit_two_pow_mul_add _ (wd_lt g k), wd_test g j k]
    rcases Nat.lt_trichotomy j k with h | h | h
    · simp [h, show j < k + 1 by omega]
    · subst h
      cases g j <;> simp
    · rw [if_neg (by omega)]
      have : ¬ j < k + 1 := by omega
      simp only [this, decide_false, Bool.false_and]
      cases g k with
      | false => simp
      | true =>
        rw [Bool.toNat_true]
        exact Nat.testBit_lt_two_pow (Nat.one_lt_two_pow (by omega))
theorem wd_eq {g : Nat → Bool} {w k : Nat} (hw : w < 2 ^ k) (h : ∀ j, j < k → w.testBit j = g j) : w = wd g k := by
  apply Nat.eq_of_testBit_eq
  intro j
  rw [wd_test]
  by_cases hj : j < k
  · simp [hj, h j hj]
  · simp only [hj, decide_false, Bool.false_and]
    exact Nat.testBit_lt_two_pow (Nat.lt_of_lt_of_le hw (Nat.pow_le_pow_right (by omega) (by omega)))
theorem wd_congr {f g : Nat → Bool} {k : Nat} (h : ∀ j, j < k → f j = g j) : wd f k = wd g k := wd_eq (wd_lt f k) fun j hj => by rw [wd_test]; simp [hj, h j hj]
def wd64 (f : Nat → Bool) (i : Nat) : Nat := wd (fun j => f (i * 64 + j)) 64
theorem wd64_lt (f : Nat → Bool) (i : Nat) : wd64 f i < 18446744073709551616 := wd_lt _ 64
theorem wd64_test {f : Nat → Bool} {i j : Nat} (h : j < 64) : (wd64 f i).testBit j = f (i * 64 + j) := by unfold wd64; rw [wd_test]; simp [h]
def put (f : Nat → Bool) (v : Nat) (b : Bool) : Nat → Bool := fun x => if x = v then b else f x
theorem wd64_or {f : Nat → Bool} {i j : Nat} (h : j < 64) : wd64 f i ||| 2 ^ j = wd64 (put f (i * 64 + j) true) i := by
  have h1 := wd64_lt f i
  have h2 : 2 ^ j < 2 ^ 64 := Nat.pow_lt_pow_right (by omega) h
  refine wd_eq (Nat.or_lt_two_pow h1 h2) fun k hk => ?_
  rw [Nat.testBit_or, wd64_test hk, Nat.testBit_two_pow]
  unfold put
  by_cases e : k = j
  · subst e; simp
  · simp [e, show ¬ j = k by omega, show ¬ i * 64 + k = i * 64 + j by omega]
theorem wd64_other {f : Nat → Bool} {i v : Nat} {b : Bool} (h : v / 64 ≠ i) : wd64 (put f v b) i = wd64 f i := by
  refine wd_congr fun j hj => ?_
  unfold put; rw [if_neg (by omega)]
theorem u64_or_nat (a b : Nat) (ha : a < 18446744073709551616) (hb : b < 18446744073709551616) : bits .or .u64 (a : Int) (b : Int) = ((a ||| b : Nat) : Int) := by
  unfold bits
  rw [wrap_u64]
  show ((((BitVec.ofInt 64 (a : Int) : BitVec 64) ||| (BitVec.ofInt 64 (b : Int) : BitVec 64)).toNat : Nat) : Int) % 18446744073709551616 = _
  have e1 : (BitVec.ofInt 64 (a : Int)).toNat = a := by rw [BitVec.toNat_ofInt]; omega
  have e2 : (BitVec.ofInt 64 (b : Int)).toNat = b := by rw [BitVec.toNat_ofInt]; omega
  have h3 : a ||| b < 2 ^ 64 := Nat.or_lt_two_pow ha hb
  rw [BitVec.toNat_or, e1, e2]; omega
theorem and_pow {w j : Nat} : w &&& 2 ^ j = 2 ^ j * (w.testBit j).toNat := by
  apply Nat.eq_of_testBit_eq
  intro k
  rw [Nat.testBit_and, Nat.testBit_two_pow]
  by_cases e : j = k
  · subst e
    cases h : w.testBit j <;> simp [h]
  · cases h : w.testBit j <;> simp [e]
theorem and_bit {w j : Nat} (hw : w < 18446744073709551616) (h : j < 64) : (bits .and .u64 (w : Int) ((2 ^ j : Nat) : Int) != (0 : Int)) = w.testBit j := by
  have h2 : 2 ^ j < 2 ^ 64 := Nat.pow_lt_pow_right (by omega) h
  rw [u64_and_nat _ _ hw h2, and_pow]
  have : 0 < 2 ^ j := Nat.two_pow_pos j
  cases w.testBit j
  · simp
  · simp only [Bool.toNat_true, Nat.mul_one]
    simp only [bne_iff_ne, ne_eq]
    intro h
    have h : 2 ^ j = 0 := Int.ofNat.inj h
    omega
theorem andNot_bit {f : Nat → Bool} {i j : Nat} (h : j < 64) : bits .andNot .u64 (wd64 f i : Int) ((2 ^ j : Nat) : Int) = (wd64 (put f (i * 64 + j) false) i : Int) := by
  have h1 := wd64_lt f i
  have h2 : 2 ^ j < 2 ^ 64 := Nat.pow_lt_pow_right (by omega) h
  unfold bits
  rw [wrap_u64]
  show ((((BitVec.ofInt 64 (wd64 f i : Int) : BitVec 64) &&& ~~~(BitVec.ofInt 64 ((2 ^ j : Nat) : Int) : BitVec 64)).toNat : Nat) : Int) % 18446744073709551616 = _
  have e1 : (BitVec.ofInt 64 (wd64 f i : Int)) = BitVec.ofNat 64 (wd64 f i) := BitVec.eq_of_toNat_eq (by rw [BitVec.toNat_ofInt, BitVec.toNat_ofNat]; omega)
  have e2 : (BitVec.ofInt 64 ((2 ^ j : Nat) : Int)) = BitVec.ofNat 64 (2 ^ j) := BitVec.eq_of_toNat_eq (by rw [BitVec.toNat_ofInt, BitVec.toNat_ofNat]; omega)
  rw [e1, e2]
  have e3 : (BitVec.ofNat 64 (wd64 f i) &&& ~~~ BitVec.ofNat 64 (2 ^ j)).toNat = wd64 (put f (i * 64 + j) false) i := by
    refine wd_eq (BitVec.isLt _) fun k hk => ?_
    rw [BitVec.testBit_toNat, BitVec.getLsbD_and, BitVec.getLsbD_not, BitVec.getLsbD_ofNat, BitVec.getLsbD_ofNat, wd64_test hk, Nat.testBit_two_pow]
    unfold put
    by_cases e : k = j
    · subst e; simp
    · simp [hk, e, show ¬ j = k by omega, show ¬ i * 64 + k = i * 64 + j by omega]
  rw [e3]
  have := wd64_lt (put f (i * 64 + j) false) i
  omega

/-! ### The list of a set -/
theorem tz_test {w : Nat} (h : w ≠ 0) : w.testBit (tz w) = true ∧ ∀ j, j < tz w → w.testBit j = false := by
  obtain ⟨h1, h2⟩ := tz_spec w h
  constructor
  · rw [Nat.testBit_eq_decide_div_mod_eq]; simpa using h1
  · intro j hj
    rw [h2, Nat.mul_comm, Nat.testBit_two_pow_mul]
    simp [show ¬ tz w ≤ j by omega]
theorem pred_and {w : Nat} (h : w ≠ 0) (j : Nat) : (w &&& (w - 1)).testBit j = (w.testBit j && decide (j ≠ tz w)) := by
  obtain ⟨h1, h2⟩ := tz_spec w h
  generalize hk : tz w = k at *
  generalize w / 2 ^ k = o at *
  obtain ⟨m, rfl⟩ : ∃ m, o = 2 * m + 1 := ⟨o / 2, by omega⟩
  have hp : 0 < 2 ^ k := Nat.two_pow_pos k
  have ew : w = 2 ^ k * (2 * m + 1) + 0 := by rw [h2, Nat.mul_comm]; omega
  have ep : w - 1 = 2 ^ k * (2 * m) + (2 ^ k - 1) := by rw [ew, Nat.mul_add]; omega
  rw [Nat.testBit_and, ep, Nat.testBit_two_pow_mul_add _ (by omega)]
  conv => lhs; rw [ew, Nat.testBit_two_pow_mul_add _ hp]
  conv => rhs; rw [ew, Nat.testBit_two_pow_mul_add _ hp]
  by_cases c : j < k
  · simp [c]
  · rw [if_neg c, if_neg c]
    by_cases e : j = k
    · subst e; simp
    · obtain ⟨t, ht⟩ : ∃ t, j - k = t + 1 := ⟨j - k - 1, by omega⟩
      rw [ht, Nat.testBit_succ, Nat.testBit_succ]
      simp only [show (2 * m + 1) / 2 = m by omega, show 2 * m / 2 = m by omega, Bool.and_self]
      simp [e]
theorem filter_first {p q : Nat → Bool} {t n : Nat} (ht : t < n) (h1 : p t = true) (h2 : ∀ j, j < t → p j = false) (h3 : ∀ j, q j = (p j && decide (j ≠ t))) : (List.range n).filter p = t :: (List.range n).filter q := by
  obtain ⟨m, rfl⟩ : ∃ m, n = t + (1 + m) := ⟨n - t - 1, by omega⟩
  rw [List.range_add, List.filter_append, List.filter_append]
  have e1 : (List.range t).filter p = [] := List.filter_eq_nil_iff.2 fun j hj => by rw [h2 j (List.mem_range.1 hj)]; simp
  have e2 : (List.range t).filter q = [] := List.filter_eq_nil_iff.2 fun j hj => by rw [h3, h2 j (List.mem_range.1 hj)]; simp
  rw [e1, e2, List.nil_append, List.nil_append, List.range_add, List.map_append, List.filter_append, List.filter_append]
  have e3 : ((List.range 1).map (t + ·)).filter p = [t] := by simp [h1]
  have e4 : ((List.range 1).map (t + ·)).filter q = [] := by simp [h3]
  rw [e3, e4]
  simp only [List.cons_append, List.nil_append]
  congr 1
  refine List.filter_congr fun j hj => ?_
  obtain ⟨a, ha, rfl⟩ := List.mem_map.1 hj
  obtain ⟨b, _, rfl⟩ := List.mem_map.1 ha
  rw [h3]; simp
theorem bitsL_eq (i : Nat) : ∀ (w : Nat), w < 18446744073709551616 → bitsL i w = ((List.range 64).filter fun j => w.testBit j).map fun j => ((i * 64 + j : Nat) : Int) := by
  intro w
  induction w using Nat.strongRecOn with
  | ind w ih =>
    intro hw
    by_cases h : w = 0
    · subst h; rw [bitsL_zero]; simp
    · have h1 : w &&& (w - 1) < w := Nat.lt_of_le_of_lt Nat.and_le_right (by omega)
      rw [bitsL_cons h, ih _ h1 (by omega)]
      rw [filter_first (q := fun j => (w &&& (w - 1)).testBit j) (tz_lt h hw) (tz_test h).1 (tz_test h).2 (fun j => pred_and h j)]
      rfl
def wsF (f : Nat → Bool) (m : Nat) : List Nat := (List.range m).map (wd64 f)
theorem wsF_len (f : Nat → Bool) (m : Nat) : (wsF f m).length = m := by simp [wsF]
theorem wsF_get {f : Nat → Bool} {m i : Nat} (h : i < m) : (wsF f m)[i]? = some (wd64 f i) := by simp [wsF, h]
theorem wsF_getD {f : Nat → Bool} {m i : Nat} (h : i < m) : (wsF f m).getD i 0 = wd64 f i := by rw [List.getD, wsF_get h]; rfl
def memN (f : Nat → Bool) (n : Nat) : List Nat := (List.range n).filter f
def memL (f : Nat → Bool) (n : Nat) : List Int := (memN f n).map fun v : Nat => (v : Int)
theorem setL_eq {f : Nat → Bool} {m : Nat} : ∀ k, k ≤ m → setL (wsF f m) k = memL f (k * 64)
  | 0, _ => rfl
  | k + 1, h => by
    rw [setL_succ, setL_eq k (by omega), wsF_getD (by omega), bitsL_eq _ _ (wd64_lt f k)]
    unfold memL memN
    rw [show (k + 1) * 64 = k * 64 + 64 by omega, List.range_add, List.filter_append, List.map_append]
    congr 1
    rw [List.filter_map, List.map_map]
    rw [List.filter_congr (q := fun j => f (k * 64 + j)) fun j hj => wd64_test (List.mem_range.1 hj)]
    rfl
theorem memN_more {f : Nat → Bool} {n m : Nat} (h : n ≤ m) (hf : ∀ v, n ≤ v → f v = false) : memN f m = memN f n := by
  obtain ⟨k, rfl⟩ : ∃ k, m = n + k := ⟨m - n, by omega⟩
  unfold memN
  rw [List.range_add, List.filter_append]
  have : ((List.range k).map (n + ·)).filter f = [] := List.filter_eq_nil_iff.2 fun x hx => by
    obtain ⟨a, _, rfl⟩ := List.mem_map.1 hx
    rw [hf _ (by omega)]; simp
  rw [this, List.append_nil]
theorem cnt_eq (f : Nat → Bool) (i : Nat) : cnt 64 (wd64 f i) = ((List.range 64).filter fun j => f (i * 64 + j)).length := by
  unfold cnt
  rw [List.countP_eq_length_filter]
  congr 1
  exact List.filter_congr fun j hj => wd64_test (List.mem_range.1 hj)
theorem memN_words (f : Nat → Bool) (i : Nat) : (memN f ((i + 1) * 64)).length = (memN f (i * 64)).length + cnt 64 (wd64 f i) := by
  rw [cnt_eq]
  unfold memN
  rw [show (i + 1) * 64 = i * 64 + 64 by omega, List.range_add, List.filter_append, List.length_append, List.filter_map, List.length_map]
  rfl
end Go.Proofs.YtmojgekepkpfcaaDoor
