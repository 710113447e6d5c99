/-
  Jumps in a tree: the plain law of the rows; a climb.
-/
import Derived.Test.YtfidcekobjmamaaDoorL6
namespace Go.Proofs.YtfidcekobjmamaaDoor
set_option linter.unusedVariables false
set_option linter.unusedSimpArgs false
set_option linter.unnecessarySimpa false
open Go.Hp Go.RowKit
attribute [local irreducible] Go.Hp.iteB Go.Hp.stC Go.Hp.newP

theorem and_splitP {i q r m c : Nat} (hr : r < 2 ^ i) (hc : c < 2 ^ i) : (2 ^ i * q + r) &&& (2 ^ i * m + c) = 2 ^ i * (q &&& m) + (r &&& c) := by
  have h3 : r &&& c < 2 ^ i := Nat.lt_of_le_of_lt Nat.and_le_left hr
  apply Nat.eq_of_testBit_eq
  intro j
  rw [Nat.testBit_and, Nat.testBit_two_pow_mul_add _ hr, Nat.testBit_two_pow_mul_add _ hc, Nat.testBit_two_pow_mul_add _ h3]
  split <;> rw [Nat.testBit_and]
theorem st_and {st : Nat} (h : st ≠ 0) : 2 ^ tz st ≤ st ∧ st &&& (st - 1) = st - 2 ^ tz st := by
  obtain ⟨h1, h2⟩ := tz_spec st h
  generalize tz st = k at *
  generalize st / 2 ^ k = o at *
  obtain ⟨m, rfl⟩ : ∃ m, o = 2 * m + 1 := ⟨o / 2, by omega⟩
  have hp : 0 < 2 ^ k := Nat.two_pow_pos k
  have ew : st = 2 ^ k * (2 * m + 1) + 0 := by rw [h2, Nat.mul_comm]; omega
  have ep : st - 1 = 2 ^ k * (2 * m) + (2 ^ k - 1) := by rw [ew, Nat.mul_add]; omega
  have e1 : (2 * m + 1) &&& (2 * m) = 2 * m := by
    have := and_splitP (i := 1) (q := m) (r := 1) (m := m) (c := 0) (by omega) (by omega)
    simpa using this
  refine ⟨by rw [ew, Nat.mul_add]; omega, ?_⟩
  rw [ep]
  conv => lhs; rw [ew]
  rw [and_splitP hp (by omega), e1, Nat.zero_and, ew, Nat.mul_add]; omega

theorem upN_add (U : Nat → Int) : ∀ (a b v : Nat), upN U (a + b) v = upN U b (upN U a v)
  | 0, b, v => by rw [Nat.zero_add]; rfl
  | a + 1, b, v => by
    rw [show a + 1 + b = (a + b) + 1 by omega]
    show upN U (a + b) (U v).toNat = upN U b (upN U a (U v).toNat)
    exact upN_add U a b _

/-! ### The least of some -/
theorem firstW_iff {w : List Int} {a b : Int} : firstW w a b = true ↔ (w.getD a.toNat 0 < w.getD b.toNat 0 ∨ (w.getD a.toNat 0 = w.getD b.toNat 0 ∧ a < b)) := by unfold firstW; simp
theorem betW_neg {w : List Int} {b : Int} : betW w (-1) b = b := if_pos (by omega)
theorem betW_none {w : List Int} {a : Int} (h : -1 ≤ a) : betW w a (-1) = a := by
  unfold betW
  by_cases c : a < 0
  · rw [if_pos c]; omega
  · rw [if_neg c, if_neg (fun h => by omega)]
theorem betW_in {w : List Int} {a b : Int} : betW w a b = a ∨ betW w a b = b := by unfold betW; split; exact .inr rfl; split; exact .inr rfl; exact .inl rfl
theorem betW_assoc {w : List Int} {a b c : Int} (ha : -1 ≤ a) (hb : -1 ≤ b) (hc : -1 ≤ c) : betW w (betW w a b) c = betW w a (betW w b c) := by
  rcases (by omega : a = -1 ∨ 0 ≤ a) with rfl | ha
  · rw [betW_neg, betW_neg]
  rcases (by omega : b = -1 ∨ 0 ≤ b) with rfl | hb
  · rw [betW_neg, betW_none (by omega)]
  rcases (by omega : c = -1 ∨ 0 ≤ c) with rfl | hc
  · rw [betW_none (w := w) (a := b) (by omega)]
    refine betW_none ?_
    rcases betW_in (w := w) (a := a) (b := b) with h | h <;> rw [h] <;> omega
  have e : ∀ x y : Int, 0 ≤ x → 0 ≤ y → betW w x y = if w.getD y.toNat 0 < w.getD x.toNat 0 ∨ (w.getD y.toNat 0 = w.getD x.toNat 0 ∧ y < x) then y else x := fun x y hx hy => by
    unfold betW
    rw [if_neg (by omega)]
    by_cases c : firstW w y x = true
    · rw [if_pos ⟨hy, c⟩, if_pos (firstW_iff.1 c)]
    · rw [if_neg (fun h => c h.2), if_neg (fun h => c (firstW_iff.2 h))]
  rw [e a b ha hb, e b c hb hc]
  split <;> split <;> (rw [e _ _ (by assumption) (by assumption)]) <;> (try rw [e _ _ (by assumption) (by assumption)]) <;> (repeat' split) <;> first | rfl | omega
theorem betW_comm {w : List Int} {a b : Int} (ha : -1 ≤ a) (hb : -1 ≤ b) : betW w a b = betW w b a := by
  rcases (by omega : a = -1 ∨ 0 ≤ a) with rfl | ha
  · rw [betW_neg, betW_none (by omega)]
  rcases (by omega : b = -1 ∨ 0 ≤ b) with rfl | hb
  · rw [betW_neg, betW_none (by omega)]
  have e : ∀ x y : Int, 0 ≤ x → 0 ≤ y → betW w x y = if w.getD y.toNat 0 < w.getD x.toNat 0 ∨ (w.getD y.toNat 0 = w.getD x.toNat 0 ∧ y < x) then y else x := fun x y hx hy => by
    unfold betW
    rw [if_neg (by omega)]
    by_cases c : firstW w y x = true
    · rw [if_pos ⟨hy, c⟩, if_pos (firstW_iff.1 c)]
    · rw [if_neg (fun h => c h.2), if_neg (fun h => c (firstW_iff.2 h))]
  rw [e a b ha hb, e b a hb ha]
  split <;> split <;> first | rfl | omega
theorem betW_ge {w : List Int} {a b : Int} (ha : -1 ≤ a) (hb : -1 ≤ b) : -1 ≤ betW w a b := by rcases betW_in (w := w) (a := a) (b := b) with e | e <;> rw [e] <;> assumption
theorem betW_4 {w : List Int} {a b c b' c' : Int} (ha : -1 ≤ a) (hb : -1 ≤ b) (hc : -1 ≤ c) (hb' : -1 ≤ b') (hc' : -1 ≤ c') :
    betW w (betW w (betW w a b) c) (betW w b' c') = betW w a (betW w (betW w b b') (betW w c c')) := by
  have e1 : betW w c (betW w b' c') = betW w b' (betW w c c') := by
    rw [← betW_assoc hc hb' hc', betW_comm hc hb', betW_assoc hb' hc hc']
  rw [betW_assoc (betW_ge ha hb) hc (betW_ge hb' hc'), e1, betW_assoc ha hb (betW_ge hb' (betW_ge hc hc')), betW_assoc hb hb' (betW_ge hc hc')]
/-- The least edge of some steps up. -/
def lstN (U : Nat → Int) (w : List Int) : Nat → Nat → Int
  | 0, _ => -1
  | m + 1, v => betW w (v : Int) (lstN U w m (U v).toNat)
theorem lstN_ge (U : Nat → Int) (w : List Int) : ∀ (m v : Nat), -1 ≤ lstN U w m v
  | 0, _ => Int.le_refl _
  | m + 1, v => by
    have := lstN_ge U w m (U v).toNat
    unfold lstN
    rcases betW_in (w := w) (a := (v : Int)) (b := lstN U w m (U v).toNat) with h | h <;> rw [h] <;> omega
theorem lstN_add (U : Nat → Int) (w : List Int) : ∀ (a b v : Nat), lstN U w (a + b) v = betW w (lstN U w a v) (lstN U w b (upN U a v))
  | 0, b, v => by rw [Nat.zero_add]; unfold lstN; rw [betW_neg]; rfl
  | a + 1, b, v => by
    rw [show a + 1 + b = (a + b) + 1 by omega]
    show betW w (v : Int) (lstN U w (a + b) (U v).toNat) = betW w (betW w (v : Int) (lstN U w a (U v).toNat)) (lstN U w b (upN U a (U v).toNat))
    rw [lstN_add U w a b, betW_assoc (by omega) (lstN_ge U w _ _) (lstN_ge U w _ _)]
/-- What stands in the rows. -/
theorem jK_law {up w : List Int} {n : Nat} : ∀ (k d v : Nat), hasD (UU up) n d v → jK up w k v = if 2 ^ k ≤ d then ((upN (UU up) (2 ^ k) v : Int), lstN (UU up) w (2 ^ k) v) else (-1, -1)
  | 0, 0, v, h => by
    have : UU up v = -1 := h.2
    show (UU up v, if UU up v < 0 then (-1 : Int) else (v : Int)) = _
    rw [this]; rfl
  | 0, d + 1, v, h => by
    obtain ⟨_, u, hu, _⟩ := h
    show (UU up v, if UU up v < 0 then (-1 : Int) else (v : Int)) = _
    rw [if_pos (show 2 ^ 0 ≤ d + 1 by simp), hu, if_neg (by omega)]
    show ((u : Int), (v : Int)) = (((UU up v).toNat : Int), betW w (v : Int) (-1))
    rw [hu, betW_none (by omega)]; rfl
  | k + 1, d, v, h => by
    have ih := jK_law (w := w) k d v h
    show dblJ w (jK up w k) v = _
    have e2 : 2 ^ (k + 1) = 2 ^ k + 2 ^ k := by rw [Nat.pow_succ]; omega
    unfold dblJ
    by_cases c : 2 ^ k ≤ d
    · rw [if_pos c] at ih
      have h2 := h.upN c
      have ih2 := jK_law (w := w) k (d - 2 ^ k) _ h2
      rw [ih, if_neg (by simp only; omega)]
      simp only [Int.toNat_natCast]
      rw [ih2]
      by_cases c2 : 2 ^ k ≤ d - 2 ^ k
      · rw [if_pos c2, if_pos (by simp only; omega), if_pos (by omega), e2, upN_add, lstN_add]
      · rw [if_neg c2, if_neg (by simp only; omega), if_neg (by omega)]
    · rw [if_neg c] at ih
      rw [ih, if_pos (by simp only; omega), if_neg (by omega)]

section
variable {h0 : Base} {Z : Rws} {z : LT} {n : Nat} {up w : List Int} {D : Nat → Int}
theorem lstN_lt {U : Nat → Int} : ∀ {m d v : Nat}, hasD U n d v → m ≤ d → lstN U w m v < n
  | 0, d, v, h, _ => by unfold lstN; omega
  | m + 1, 0, v, h, hm => absurd hm (by omega)
  | m + 1, d + 1, v, h, hm => by
    have hv := h.lt
    obtain ⟨_, u, hu, h⟩ := h
    unfold lstN
    rw [hu, Int.toNat_natCast]
    exact betW_lt (by omega) (lstN_lt h (by omega))
theorem climb_all {K : Int → Int → Heap → Prop} (ht : Tab h0.heap) (lt : LTk h0 Z z n w D (jK up w)) (hn : n ≤ 4096) (hrs : n ≤ 2 ^ z.rs.length)
    {least0 : Int} {tv : Int} {tl : Int} : ∀ (m st d v : Nat) (least : Int) (L : Int) (h : Heap), st < m → hasD (UU up) n d v → st ≤ d → -1 ≤ least → least < n → St h0 h ((z.t, z.row n L) :: Z) →
      (∀ h' L', St h0 h' ((z.t, z.row n L') :: Z) → K (upN (UU up) st v : Nat) (betW w least (lstN (UU up) w st v)) h') → lift_Table_climb.l0 K m (some ⟨z.t, 0, none⟩) (v : Int) (st : Int) least h
  | 0, st, d, v, least, L, h, hm, _, _, _, _, _, _ => absurd hm (by omega)
  | m + 1, 0, d, v, least, L, h, hm, hd, hst, hl, hl2, s, hk => by
    have := hk h L s
    rw [show lstN (UU up) w 0 v = -1 from rfl, betW_none hl] at this
    exact climb_end this
  | m + 1, st + 1, d, v, least, L, h, hm, hd, hst, hl, hl2, s, hk => by
    obtain ⟨p1, p2⟩ := st_and (st := st + 1) (by omega)
    have hdn := hd.lt_n
    have hp : 0 < 2 ^ tz (st + 1) := Nat.two_pow_pos _
    have hkr : tz (st + 1) < z.rs.length := by
      apply Classical.byContradiction
      intro c
      have := Nat.pow_le_pow_right (n := 2) (by omega) (show z.rs.length ≤ tz (st + 1) by omega)
      omega
    obtain ⟨r, hr⟩ := get_lt hkr
    have hj := jK_law (w := w) (tz (st + 1)) d v hd
    rw [if_pos (by omega)] at hj
    have b2 := lstN_lt (w := w) hd (show 2 ^ tz (st + 1) ≤ d by omega)
    refine climb_step ht lt hn hd.lt (by omega) (by omega) hr hl2 (by rw [hj]; exact b2) s fun h2 s2 => ?_
    rw [hj, p2]
    have h2' := hd.upN (show 2 ^ tz (st + 1) ≤ d by omega)
    refine climb_all (least0 := least0) (tv := tv) (tl := tl) ht lt hn hrs m _ _ _ _ _ h2 (by omega) h2' (by omega) ?_ (betW_lt hl2 b2) s2 fun h3 L3 s3 => ?_
    · have := lstN_ge (UU up) w (2 ^ tz (st + 1)) v
      rcases betW_in (w := w) (a := least) (b := lstN (UU up) w (2 ^ tz (st + 1)) v) with e | e <;> simp only [e] <;> omega
    · have := hk h3 L3 s3
      have e : st + 1 = 2 ^ tz (st + 1) + (st + 1 - 2 ^ tz (st + 1)) := by omega
      rw [betW_assoc hl (lstN_ge _ _ _ _) (lstN_ge _ _ _ _), ← lstN_add, ← upN_add, ← e]
      exact this
/-- A climb, and how many looks it takes. -/
theorem climb_lk {K : Int → Int → Heap → Prop} (ht : Tab h0.heap) (lt : LTk h0 Z z n w D (jK up w)) (hn : n ≤ 4096) (hrs : n ≤ 2 ^ z.rs.length) :
    ∀ (m st d v : Nat) (least : Int) (L : Int) (h : Heap) (j c : Nat), st < m → hasD (UU up) n d v → st ≤ d → -1 ≤ least → least < n → 2 ^ j ∣ st → st < 2 ^ (j + c) → 0 ≤ L → L + c ≤ 100000 → St h0 h ((z.t, z.row n L) :: Z) →
      (∀ h' L', L ≤ L' → L' ≤ L + c → St h0 h' ((z.t, z.row n L') :: Z) → K (upN (UU up) st v : Nat) (betW w least (lstN (UU up) w st v)) h') → lift_Table_climb.l0 K m (some ⟨z.t, 0, none⟩) (v : Int) (st : Int) least h
  | 0, st, d, v, least, L, h, j, c, hm, _, _, _, _, _, _, _, _, _, _ => absurd hm (by omega)
  | m + 1, 0, d, v, least, L, h, j, c, hm, hd, hst, hl, hl2, hj, hc, h0L, hLc, s, hk => by
    have := hk h L (by omega) (by omega) s
    rw [show lstN (UU up) w 0 v = -1 from rfl, betW_none hl] at this
    exact climb_end this
  | m + 1, st + 1, d, v, least, L, h, j, c, hm, hd, hst, hl, hl2, hj, hc, h0L, hLc, s, hk => by
    obtain ⟨p1, p2⟩ := st_and (st := st + 1) (by omega)
    obtain ⟨t1, t2⟩ := tz_spec (st + 1) (by omega)
    have hdn := hd.lt_n
    have hp : 0 < 2 ^ tz (st + 1) := Nat.two_pow_pos _
    have hkr : tz (st + 1) < z.rs.length := by
      apply Classical.byContradiction
      intro c
      have := Nat.pow_le_pow_right (n := 2) (by omega) (show z.rs.length ≤ tz (st + 1) by omega)
      omega
    obtain ⟨r, hr⟩ := get_lt hkr
    have hjt := jK_law (w := w) (tz (st + 1)) d v hd
    rw [if_pos (by omega)] at hjt
    have b2 := lstN_lt (w := w) hd (show 2 ^ tz (st + 1) ≤ d by omega)
    have jt : j ≤ tz (st + 1) := by
      apply Classical.byContradiction
      intro cc
      obtain ⟨e, he⟩ : ∃ e, j = tz (st + 1) + 1 + e := ⟨j - (tz (st + 1) + 1), by omega⟩
      obtain ⟨q, hq⟩ := hj
      have e3 : st + 1 = 2 ^ tz (st + 1) * (2 * (2 ^ e * q)) := hq.trans (by rw [he, Nat.pow_add, Nat.pow_succ]; simp only [Nat.mul_assoc])
      have e4 : (st + 1) / 2 ^ tz (st + 1) = 2 * (2 ^ e * q) := Nat.div_eq_of_eq_mul_right hp e3
      omega
    have tjc : tz (st + 1) < j + c := by
      apply Classical.byContradiction
      intro cc
      have := Nat.pow_le_pow_right (n := 2) (by omega) (show j + c ≤ tz (st + 1) by omega)
      omega
    refine climb_step ht lt hn hd.lt (by omega) (by omega) hr hl2 (by rw [hjt]; exact b2) s fun h2 s2 => ?_
    rw [wrap64 (by omega) (by omega)] at s2
    rw [hjt, p2]
    have h2' := hd.upN (show 2 ^ tz (st + 1) ≤ d by omega)
    have ege : -1 ≤ betW w least (lstN (UU up) w (2 ^ tz (st + 1)) v) := betW_ge hl (lstN_ge ..)
    have hdvd : 2 ^ (tz (st + 1) + 1) ∣ st + 1 - 2 ^ tz (st + 1) := by
      refine ⟨(st + 1) / 2 ^ tz (st + 1) / 2, ?_⟩
      have e2 : (st + 1) / 2 ^ tz (st + 1) = 2 * ((st + 1) / 2 ^ tz (st + 1) / 2) + 1 := by omega
      rw [Nat.pow_succ, Nat.mul_assoc]
      generalize (st + 1) / 2 ^ tz (st + 1) / 2 = q at *
      rw [e2] at t2
      rw [Nat.mul_comm (2 ^ tz (st + 1))]
      rw [Nat.add_mul, Nat.one_mul] at t2
      omega
    refine climb_lk ht lt hn hrs m _ _ _ _ (L + 1) h2 (tz (st + 1) + 1) (j + c - (tz (st + 1) + 1)) (by omega) h2' (by omega) ege (betW_lt hl2 b2) hdvd (by rw [show tz (st + 1) + 1 + (j + c - (tz (st + 1) + 1)) = j + c by omega]; omega) (by omega) (by omega) s2 fun h3 L3 hL1 hL2 s3 => ?_
    have := hk h3 L3 (by omega) (by omega) s3
    have e : st + 1 = 2 ^ tz (st + 1) + (st + 1 - 2 ^ tz (st + 1)) := by omega
    rw [betW_assoc hl (lstN_ge _ _ _ _) (lstN_ge _ _ _ _), ← lstN_add, ← upN_add, ← e]
    exact this
end
end Go.Proofs.YtfidcekobjmamaaDoor
