/-
  Floats in order: how many are unlike.
-/
import Derived.Test.YtcmbgiekffgcoaaO3
namespace Go.Proofs.Ytcmbgiekffgcoaa
set_option linter.unusedVariables false
set_option linter.unusedSimpArgs false
open Go.Hp Go.RowKit
attribute [local irreducible] Go.Hp.iteB Go.Hp.stC Go.Hp.newP

/-- Those that differ from the one ahead of them. -/
def runs (l : List Int) : Nat → List Int
  | 0 => []
  | n + 1 => if 0 < n ∧ l.getD n 0 = l.getD (n - 1) 0 then runs l n else runs l n ++ [l.getD n 0]
theorem plD {l : List Nat} {i x : Nat} (hx : l[i]? = some x) : (l.map pl).getD i 0 = pl x := by simp [List.getD, hx]
theorem runs_le (l : List Int) : ∀ n, (runs l n).length ≤ n
  | 0 => by simp [runs]
  | n + 1 => by have := runs_le l n; unfold runs; split <;> simp <;> omega

section
variable {h0 : Heap} {b c n : Nat} {l : List Nat} {R : Rws}

theorem compact_l1 {K4 : Int → Heap → Prop} {k0 m : Nat} (hn : l.length = n) (hn2 : n < 2 ^ 40) (hb : Bnd l) (hnm : n ≤ m) (hk0 : k0 < n) (hk : ∀ h' cs, cs.length = m → St h0 h' ((b, cs) :: R) → (runs (l.map pl) n).length < n → K4 ((runs (l.map pl) n).length : Nat) h') :
    ∀ (d k2 k : Nat) (cs : List Value) (h : Heap), 0 < k2 → k0 + k2 + d = n → k = (runs (l.map pl) (k0 + k2)).length → k + 1 ≤ k0 + k2 → cs.length = m → (∀ j, k ≤ j → j < n → cs[j]? = (flts l)[j]?) → St h0 h ((b, cs) :: R) →
      slices_CompactFunc_Lfloat64_float64_forder_Count_c1.l1 K4 (d + 1) (some ⟨b, 0, none⟩) n c (k : Int) (some ⟨b, k0, none⟩) (n - k0) (c - k0) (k2 : Int) h
  | 0, k2, k, cs, h, h2, hd, hkk, hle, hc, hcs, s => by
    unfold slices_CompactFunc_Lfloat64_float64_forder_Count_c1.l1 slices_CompactFunc_Lfloat64_float64_forder_Count_c1.b1
    have e : k0 + k2 = n := by omega
    rw [e] at hkk hle
    subst hkk
    exact iteB_neg (decide_eq_false (by omega)) (hk h cs hc s (by omega))
  | d + 1, k2, k, cs, h, h2, hd, hkk, hle, hc, hcs, s => by
    unfold slices_CompactFunc_Lfloat64_float64_forder_Count_c1.l1 slices_CompactFunc_Lfloat64_float64_forder_Count_c1.b1
    obtain ⟨x, hx⟩ := get_lt (l := l) (i := k0 + k2) (by omega)
    obtain ⟨y, hy⟩ := get_lt (l := l) (i := k0 + k2 - 1) (by omega)
    have hr : cs[k0 + k2]? = some (.float .f64 x) := by rw [hcs _ (by omega) (by omega)]; simp [hx]
    have hr2 : cs[k0 + (k2 - 1)]? = some (.float .f64 y) := by rw [hcs _ (by omega) (by omega), show k0 + (k2 - 1) = k0 + k2 - 1 by omega]; simp [hy]
    have ew : IntKind.i64.wrap ((k2 : Int) - 1) = ((k2 - 1 : Nat) : Int) := by rw [wrap_id (by omega) (by omega)]; omega
    refine iteB_pos (decide_eq_true (by omega)) ?_
    rw [ew]
    try simp -zeta (disch := omega) only [chkP_some, iteB_true, iteB_false, add_mk, Nat.zero_add, Nat.add_zero, Nat.mul_one, Nat.reduceAdd, Int.toNat_natCast, ex_int, ex_slice, ex_ptr, ex_bool, ex_str, ex_flt, ex_any, bnd_in, List.getElem?_cons_zero, List.getElem?_cons_succ, List.set_cons_zero, List.set_cons_succ, List.cons_append, List.nil_append, bne_self_eq_false, beq_self_eq_true, Bool.not_true, Bool.not_false, Option.isNone_some, Option.isNone_none, eq_self, true_and, and_true, and_self, s.rd0, hr, hr2]
    refine callP1.self (Eq_of (hb.at hx) (hb.at hy) ?_)
    have ru : runs (l.map pl) (k0 + k2 + 1) = if 0 < k0 + k2 ∧ pl x = pl y then runs (l.map pl) (k0 + k2) else runs (l.map pl) (k0 + k2) ++ [pl x] := by
      show (if _ then _ else _) = _
      rw [plD hx, plD hy]
    refine iteB_intro (fun e => ?_) (fun e => ?_)
    · have e : pl x ≠ pl y := by simpa using e
      try simp -zeta (disch := omega) only [chkP_some, iteB_true, iteB_false, add_mk, Nat.zero_add, Nat.add_zero, Nat.mul_one, Nat.reduceAdd, Int.toNat_natCast, ex_int, ex_slice, ex_ptr, ex_bool, ex_str, ex_flt, ex_any, bnd_in, List.getElem?_cons_zero, List.getElem?_cons_succ, List.set_cons_zero, List.set_cons_succ, List.cons_append, List.nil_append, bne_self_eq_false, beq_self_eq_true, Bool.not_true, Bool.not_false, Option.isNone_some, Option.isNone_none, eq_self, true_and, and_true, and_self, s.rd0, hr, hr2]
      rw [if_neg (fun h => e h.2)] at ru
      refine s.st0 (by omega) fun h3 s3 => ?_
      rw [wrap_id (by omega) (by omega), wrap_id (by omega) (by omega)]
      refine compact_l1 hn hn2 hb hnm hk0 hk d (k2 + 1) (k + 1) _ h3 (by omega) (by omega) ?_ (by omega) (by simpa using hc) ?_ s3
      · rw [← Nat.add_assoc, ru, hkk]; simp
      · intro j hj1 hj2
        rw [List.getElem?_set_ne (by omega)]; exact hcs j (by omega) hj2
    · have e : pl x = pl y := by simpa using e
      rw [if_pos ⟨by omega, e⟩] at ru
      rw [wrap_id (by omega) (by omega)]
      exact compact_l1 hn hn2 hb hnm hk0 hk d (k2 + 1) k _ h (by omega) (by omega) (by rw [← Nat.add_assoc, ru, hkk]) (by omega) hc hcs s

theorem compact_l0 {K0 : Option Addr → Nat → Nat → Heap → Prop} {K2 : Heap → Prop} {z : List Value} (hn : l.length = n) (hn2 : n < 2 ^ 40) (hb : Bnd l) (hc : c = n + z.length)
    (hk : ∀ q' c' h', St h0 h' R → K0 q' (runs (l.map pl) n).length c' h') (hk2 : ∀ h', (runs (l.map pl) n).length = n → St h0 h' R → K2 h') :
    ∀ (d i : Nat) (h : Heap), 0 < i → i + d = n → (runs (l.map pl) i).length = i → St h0 h ((b, flts l ++ z) :: R) →
      slices_CompactFunc_Lfloat64_float64_forder_Count_c1.l0 K0 K2 (d + 1) (some ⟨b, 0, none⟩) n c (i : Int) h
  | 0, i, h, h1, hd, hr, s => by
    unfold slices_CompactFunc_Lfloat64_float64_forder_Count_c1.l0 slices_CompactFunc_Lfloat64_float64_forder_Count_c1.b0
    have : i = n := by omega
    subst this
    exact iteB_neg (decide_eq_false (by omega)) (hk2 h hr s.tail)
  | d + 1, i, h, h1, hd, hr, s => by
    unfold slices_CompactFunc_Lfloat64_float64_forder_Count_c1.l0 slices_CompactFunc_Lfloat64_float64_forder_Count_c1.b0
    obtain ⟨x, hx⟩ := get_lt (l := l) (i := i) (by omega)
    obtain ⟨y, hy⟩ := get_lt (l := l) (i := i - 1) (by omega)
    have hr1 : (flts l ++ z)[i]? = some (.float .f64 x) := by rw [List.getElem?_append_left (by simp; omega)]; simp [hx]
    have hr2 : (flts l ++ z)[i - 1]? = some (.float .f64 y) := by rw [List.getElem?_append_left (by simp; omega)]; simp [hy]
    have ew : IntKind.i64.wrap ((i : Int) - 1) = ((i - 1 : Nat) : Int) := by rw [wrap_id (by omega) (by omega)]; omega
    refine iteB_pos (decide_eq_true (by omega)) ?_
    rw [ew]
    try simp -zeta (disch := omega) only [chkP_some, iteB_true, iteB_false, add_mk, Nat.zero_add, Nat.add_zero, Nat.mul_one, Nat.reduceAdd, Int.toNat_natCast, ex_int, ex_slice, ex_ptr, ex_bool, ex_str, ex_flt, ex_any, bnd_in, List.getElem?_cons_zero, List.getElem?_cons_succ, List.set_cons_zero, List.set_cons_succ, List.cons_append, List.nil_append, bne_self_eq_false, beq_self_eq_true, Bool.not_true, Bool.not_false, Option.isNone_some, Option.isNone_none, eq_self, true_and, and_true, and_self, s.rd0, hr1, hr2]
    refine callP1.self (Eq_of (hb.at hx) (hb.at hy) ?_)
    have ru : runs (l.map pl) (i + 1) = if 0 < i ∧ pl x = pl y then runs (l.map pl) i else runs (l.map pl) i ++ [pl x] := by
      show (if _ then _ else _) = _
      rw [plD hx, plD hy]
    refine iteB_intro (fun e => ?_) (fun e => ?_)
    · have e : pl x = pl y := by simpa using e
      rw [if_pos ⟨h1, e⟩] at ru
      refine ⟨by omega, n - (i + 1) + 1, ?_⟩
      rw [if_neg (show ¬ c = i by omega)]
      simp only [Option.map_some, add_mk, Int.toNat_natCast, Nat.mul_one, Nat.zero_add]
      refine compact_l1 (m := n + z.length) (k0 := i) hn hn2 hb (by omega) (by omega) (fun h' cs hcs s' hlt => ?_) (n - (i + 1)) 1 i (flts l ++ z) h (by omega) (by omega) (by rw [ru, hr]) (by omega) (by simp [hn]) (fun j hj1 hj2 => List.getElem?_append_left (show j < (flts l).length by simp; omega)) s
      refine ⟨by omega, ?_⟩
      rw [if_neg (show ¬ c = ((runs (l.map pl) n).length : Int).toNat by rw [Int.toNat_natCast]; omega)]
      simp only [Option.map_some, add_mk, Int.toNat_natCast, Nat.mul_one, Nat.zero_add]
      exact s'.clear rfl (by omega) fun h3 cs3 hc3 s3 => ⟨by omega, hk _ _ h3 s3.tail⟩
    · have e : pl x ≠ pl y := by simpa using e
      rw [if_neg (fun h => e h.2)] at ru
      rw [wrap_id (by omega) (by omega)]
      exact compact_l0 hn hn2 hb hc hk hk2 d (i + 1) h (by omega) (by omega) (by rw [ru]; simp [hr]) s
theorem Compact_of {q : Option Addr} {X : Rws} {h : Heap} {K : Option Addr → Nat → Nat → Heap → Prop} (hn : l.length = n) (hn2 : n < 2 ^ 40) (hb : Bnd l) (o : Own q c (flts l) X) (s : St h0 h (X ++ R))
    (hk : ∀ q' c' h', St h0 h' R → K q' (runs (l.map pl) n).length c' h') : slices_CompactFunc_Lfloat64_float64_forder_Count_c1 q n c h K := by
  unfold slices_CompactFunc_Lfloat64_float64_forder_Count_c1
  refine iteB_intro (fun e => ?_) (fun e => ?_)
  · have e : n < 2 := by have : (n : Int) < 2 := by simpa using e
                         omega
    have h1 : (runs (l.map pl) n).length = n := by
      rcases (by omega : n = 0 ∨ n = 1) with rfl | rfl <;> simp [runs]
    have := hk q c h s.drop
    rw [h1] at this; exact this
  · have e : 2 ≤ n := by have : (2 : Int) ≤ n := by simpa using e
                         omega
    rcases o with ⟨rfl, rfl, hl, rfl⟩ | ⟨b, z, rfl, hc2, rfl⟩
    · have hl : l = [] := by simpa using hl
      subst hl; simp at hn; omega
    · refine ⟨n - 1 + 1, compact_l0 (z := z) hn hn2 hb (by rw [hc2]; simp [hn]) hk (fun h' hr s' => ?_) (n - 1) 1 h (by omega) (by omega) (by simp [runs]) s⟩
      have := hk (some ⟨b, 0, none⟩) c h' s'
      rw [hr] at this; exact this
theorem Count_of {q : Option Addr} {h : Heap} {K : Int → Heap → Prop} (hn : l.length = n) (hn2 : n < 2 ^ 40) (hb : Bnd l) (v : Keeps h0 R q (flts l)) (s : St h0 h R)
    (hk : ∀ h', St h0 h' R → K ((runs ((sorted l).map pl) n).length : Nat) h') : forder_Count q n c h K := by
  unfold forder_Count
  refine callP3.self (Sort_of hb hn hn2 v s fun q' c' X' h' o' s' => ?_)
  exact callP3.self (Compact_of (by rw [sorted_len, hn]) hn2 (sorted_bnd hb) o' s' fun q2 c2 h2 s2 => hk h2 s2)
end
end Go.Proofs.Ytcmbgiekffgcoaa
