/-
  Matrices: the same, and those of cuts.
-/
import Derived.Test.YtfidcekobjmamaaJ3
namespace Go.Proofs.Ytfidcekobjmamaa
set_option linter.unusedVariables false
set_option linter.unusedSimpArgs false
set_option linter.unnecessarySimpa false
open Go.Hp Go.RowKit
attribute [local irreducible] Go.Hp.iteB Go.Hp.stC Go.Hp.newP

section
variable {h : Heap} {c1 c2 n : Nat} {K0 : Bool → Heap → Prop} {K2 : Heap → Prop} {K : Bool → Heap → Prop} {f : Nat → Int} {M : Nat → Nat → Int}
theorem equal_l0 {p1 p2 : Option Addr} (v1 : valsAt h p1 (ints n f)) (v2 : valsAt h p2 (ints n f)) (hn : n ≤ 4096) (hk : K2 h) : ∀ (d i : Nat), i + d = n → slices_Equal_Lint64_int64.l0 K0 K2 (d + 1) p1 n c1 p2 n c2 (n : Int) (i : Int) h
  | 0, i, hi => by
    unfold slices_Equal_Lint64_int64.l0 slices_Equal_Lint64_int64.b0
    exact iteB_neg (decide_eq_false (by omega)) hk
  | d + 1, i, hi => by
    unfold slices_Equal_Lint64_int64.l0 slices_Equal_Lint64_int64.b0
    obtain ⟨a1, rfl, g1⟩ := ints_at v1 (j := i) (by omega)
    obtain ⟨a2, rfl, g2⟩ := ints_at v2 (j := i) (by omega)
    refine iteB_pos (decide_eq_true (by omega)) ?_
    simp -zeta only [chkP_some, Int.toNat_natCast, Nat.mul_one]
    refine ⟨by omega, _, g1, by omega, _, g2, iteB_neg (by simp) ?_⟩
    rw [wrap64 (by omega) (by omega)]
    exact equal_l0 v1 v2 hn hk d (i + 1) (by omega)
theorem Equal_of {p1 p2 : Option Addr} (v1 : valsAt h p1 (ints n f)) (v2 : valsAt h p2 (ints n f)) (hn : n ≤ 4096) (hk : K true h) : slices_Equal_Lint64_int64 p1 n c1 p2 n c2 h K := by
  unfold slices_Equal_Lint64_int64
  exact iteB_neg (by simp) ⟨n + 1, equal_l0 v1 v2 hn hk n 0 (by omega)⟩
theorem equalF_l0 {p1 p2 : Option Addr} (k1 : MxV h p1 n M) (k2 : MxV h p2 n M) (hn : n ≤ 4096) (hk : K2 h) : ∀ (d i : Nat), i + d = n → slices_EqualFunc_LLint64_LLint64_Lint64_Lint64_matrix_same_int64.l0 K0 K2 (d + 1) p2 n c2 p1 n c1 (n : Int) (i : Int) h
  | 0, i, hi => by
    unfold slices_EqualFunc_LLint64_LLint64_Lint64_Lint64_matrix_same_int64.l0 slices_EqualFunc_LLint64_LLint64_Lint64_Lint64_matrix_same_int64.b0
    exact iteB_neg (decide_eq_false (by omega)) hk
  | d + 1, i, hi => by
    unfold slices_EqualFunc_LLint64_LLint64_Lint64_Lint64_matrix_same_int64.l0 slices_EqualFunc_LLint64_LLint64_Lint64_Lint64_matrix_same_int64.b0
    obtain ⟨a1, q1, d1, rfl, g1, _, w1⟩ := k1.row (i := i) (by omega)
    obtain ⟨a2, q2, d2, rfl, g2, _, w2⟩ := k2.row (i := i) (by omega)
    refine iteB_pos (decide_eq_true (by omega)) ?_
    simp -zeta only [chkP_some, Int.toNat_natCast, Nat.mul_one]
    refine ⟨by omega, _, _, _, g1, by omega, _, _, _, g2, callP1.self ?_⟩
    unfold matrix_same_int64
    refine qcallP1.of true (fun Q hQ => Equal_of w1 w2 hn hQ) (iteB_neg rfl ?_)
    rw [wrap64 (by omega) (by omega)]
    exact equalF_l0 k1 k2 hn hk d (i + 1) (by omega)
theorem Same_of {p1 p2 : Option Addr} (k1 : MxV h p1 n M) (k2 : MxV h p2 n M) (hn : n ≤ 4096) (hk : K true h) : matrix_Same p1 n c1 p2 n c2 h K := by
  unfold matrix_Same
  refine callP1.self ?_
  unfold slices_EqualFunc_LLint64_LLint64_Lint64_Lint64_matrix_same_int64
  exact iteB_neg (by simp) ⟨n + 1, equalF_l0 k1 k2 hn hk n 0 (by omega)⟩
theorem same4_l0 {p1 p2 : Option Addr} (v1 : valsAt h p1 (ints n f)) (v2 : valsAt h p2 (ints n f)) (hn : n ≤ 4096) (hk : K2 h) : ∀ (d i : Nat), i + d = n → straitref04_Same.l0 K0 K2 (d + 1) p1 n c1 p2 n c2 (i : Int) h
  | 0, i, hi => by
    unfold straitref04_Same.l0 straitref04_Same.b0
    exact iteB_neg (decide_eq_false (by omega)) hk
  | d + 1, i, hi => by
    unfold straitref04_Same.l0 straitref04_Same.b0
    obtain ⟨a1, rfl, g1⟩ := ints_at v1 (j := i) (by omega)
    obtain ⟨a2, rfl, g2⟩ := ints_at v2 (j := i) (by omega)
    refine iteB_pos (decide_eq_true (by omega)) ?_
    simp -zeta only [chkP_some, Int.toNat_natCast, Nat.mul_one]
    refine ⟨by omega, _, g1, by omega, _, g2, iteB_neg (by simp) ?_⟩
    rw [wrap64 (by omega) (by omega)]
    exact same4_l0 v1 v2 hn hk d (i + 1) (by omega)
theorem Same4_of {p1 p2 : Option Addr} (v1 : valsAt h p1 (ints n f)) (v2 : valsAt h p2 (ints n f)) (hn : n ≤ 4096) (hk : K true h) : straitref04_Same p1 n c1 p2 n c2 h K := by
  unfold straitref04_Same
  exact iteB_neg (by simp) ⟨n + 1, same4_l0 v1 v2 hn hk n 0 (by omega)⟩
theorem same35_l0 {p1 p2 : Option Addr} (k1 : MxV h p1 n M) (k2 : MxV h p2 n M) (hn : n ≤ 4096) (hk : K2 h) : ∀ (d i : Nat), i + d = n → straitref35_Same.l0 K0 K2 (d + 1) p1 n c1 p2 n c2 (i : Int) h
  | 0, i, hi => by
    unfold straitref35_Same.l0 straitref35_Same.b0
    exact iteB_neg (decide_eq_false (by omega)) hk
  | d + 1, i, hi => by
    unfold straitref35_Same.l0 straitref35_Same.b0
    obtain ⟨a1, q1, d1, rfl, g1, _, w1⟩ := k1.row (i := i) (by omega)
    obtain ⟨a2, q2, d2, rfl, g2, _, w2⟩ := k2.row (i := i) (by omega)
    refine iteB_pos (decide_eq_true (by omega)) ?_
    simp -zeta only [chkP_some, Int.toNat_natCast, Nat.mul_one]
    refine ⟨by omega, _, _, _, g1, by omega, _, _, _, g2, qcallP1.of true (fun Q hQ => Same4_of w1 w2 hn hQ) (iteB_neg rfl ?_)⟩
    rw [wrap64 (by omega) (by omega)]
    exact same35_l0 k1 k2 hn hk d (i + 1) (by omega)
theorem RSame35_of {p1 p2 : Option Addr} (k1 : MxV h p1 n M) (k2 : MxV h p2 n M) (hn : n ≤ 4096) (hk : K true h) : straitref35_Same p1 n c1 p2 n c2 h K := by
  unfold straitref35_Same
  exact iteB_neg (by simp) ⟨n + 1, same35_l0 k1 k2 hn hk n 0 (by omega)⟩
/-! ### Those of cuts -/
structure UltraM (n : Nat) (M : Nat → Nat → Int) : Prop where
  pos : ∀ u v, u < n → v < n → 0 ≤ M u v
  sym : ∀ u v, u < n → v < n → M u v = M v u
  diag : ∀ u, u < n → M u u = 0
  ult : ∀ u v w, u < n → v < n → w < n → u ≠ v → ¬ (M u v < M u w ∧ M u v < M w v)
theorem plain_l1 {p1 : Option Addr} {K4 : Heap → Prop} {u : Nat} {qr q6 : Option Addr} {cr l6 c6 : Nat} {c7 c8 : Int} (U : UltraM n M) (k1 : MxV h p1 n M) (vr : valsAt h qr (ints n (M u))) (hu : u < n) (hn : n ≤ 4096) (hk : K4 h) :
    ∀ (d i : Nat), i + d = u → matrix_plain.l1 K0 K4 (d + 1) p1 n c1 (u : Int) qr n cr q6 l6 c6 c7 c8 (u : Int) (i : Int) h
  | 0, i, hi => by
    unfold matrix_plain.l1 matrix_plain.b1
    exact iteB_neg (decide_eq_false (by omega)) hk
  | d + 1, i, hi => by
    unfold matrix_plain.l1 matrix_plain.b1
    obtain ⟨ar, rfl, g1⟩ := ints_at vr (j := i) (by omega)
    obtain ⟨a1, q1, d1, rfl, g2, _, w1⟩ := k1.row (i := i) (by omega)
    obtain ⟨a3, rfl, g3⟩ := ints_at w1 (j := u) hu
    have hp := U.pos u i hu (by omega)
    have hs := U.sym u i hu (by omega)
    refine iteB_pos (decide_eq_true (by omega)) ?_
    simp -zeta only [chkP_some, Int.toNat_natCast, Nat.mul_one]
    refine ⟨by omega, _, g1, iteB_neg (decide_eq_false (by omega)) ⟨by omega, _, g1, by omega, _, _, _, g2, ?_⟩⟩
    simp -zeta only [chkP_some, Int.toNat_natCast, Nat.mul_one]
    refine ⟨by omega, _, g3, iteB_neg (by simpa using hs) ?_⟩
    rw [wrap64 (by omega) (by omega)]
    exact plain_l1 U k1 vr hu hn hk d (i + 1) (by omega)
theorem plain_l0 {p1 : Option Addr} (U : UltraM n M) (k1 : MxV h p1 n M) (hn : n ≤ 4096) (hk : K2 h) : ∀ (d i : Nat), i + d = n → matrix_plain.l0 K0 K2 (d + 1) p1 n c1 p1 n c1 (n : Int) (i : Int) h
  | 0, i, hi => by
    unfold matrix_plain.l0 matrix_plain.b0
    exact iteB_neg (decide_eq_false (by omega)) hk
  | d + 1, i, hi => by
    unfold matrix_plain.l0 matrix_plain.b0
    obtain ⟨a1, q1, d1, he, g2, hc, w1⟩ := k1.row (i := i) (by omega)
    obtain ⟨a3, hq, g3⟩ := ints_at w1 (j := i) (by omega)
    refine iteB_pos (decide_eq_true (by omega)) ?_
    rw [he]
    simp -zeta only [chkP_some, Int.toNat_natCast, Nat.mul_one]
    refine ⟨by omega, _, _, _, g2, iteB_neg (by simp) (bindV_intro fun m hm => ?_)⟩
    have hm : m = (i : Int) := by rw [hm]; split <;> omega
    subst hm
    refine ⟨⟨by omega, by omega⟩, i + 1, ?_⟩
    rw [Int.toNat_natCast, ← he]
    refine plain_l1 U k1 w1 (by omega) hn ?_ i 0 (by omega)
    rw [hq]
    simp -zeta only [chkP_some, Int.toNat_natCast, Nat.mul_one]
    refine ⟨by omega, _, g3, iteB_neg (by simpa using U.diag i (by omega)) ?_⟩
    rw [wrap64 (by omega) (by omega)]
    exact plain_l0 U k1 hn hk d (i + 1) (by omega)
theorem ultra_l2 {p1 : Option Addr} {K6 : Heap → Prop} {u v : Nat} {qr q16 q23 : Option Addr} {cr l16 c16 l23 c23 : Nat} {c17 c18 c24 c25 : Int} (U : UltraM n M) (k1 : MxV h p1 n M) (vr : valsAt h qr (ints n (M u))) (hu : u < n) (hv : v < n) (hn : n ≤ 4096) (hk : K6 h) :
    ∀ (d i : Nat), i + d = n → matrix_Ultra.l2 K0 K6 (d + 1) p1 n c1 (u : Int) qr n cr (v : Int) (M u v) q16 l16 c16 c17 c18 q23 l23 c23 c24 c25 (n : Int) (i : Int) h
  | 0, i, hi => by
    unfold matrix_Ultra.l2 matrix_Ultra.b2
    exact iteB_neg (decide_eq_false (by omega)) hk
  | d + 1, i, hi => by
    unfold matrix_Ultra.l2 matrix_Ultra.b2
    refine iteB_pos (decide_eq_true (by omega)) ?_
    intro j
    have J : j := by
      simp -zeta only [j]
      rw [wrap64 (by omega) (by omega)]
      exact ultra_l2 U k1 vr hu hv hn hk d (i + 1) (by omega)
    clear_value j
    refine iteB_intro (fun e1 => iteB_intro (fun e2 => iteB_intro (fun e3 => ?_) fun _ => J) fun _ => J) fun _ => J
    have e1 : u ≠ v := by have e1 : ¬ (u : Int) = (v : Int) := by simpa using e1
                          omega
    obtain ⟨ar, rfl, g1⟩ := ints_at vr (j := i) (by omega)
    obtain ⟨a1, q1, d1, rfl, g2, _, w1⟩ := k1.row (i := i) (by omega)
    obtain ⟨a3, rfl, g3⟩ := ints_at w1 (j := v) hv
    simp -zeta only [chkP_some, Int.toNat_natCast, Nat.mul_one]
    refine ⟨by omega, _, g1, iteB_intro (fun c => ⟨by omega, _, _, _, g2, ?_⟩) fun _ => J⟩
    simp -zeta only [chkP_some, Int.toNat_natCast, Nat.mul_one]
    refine ⟨by omega, _, g3, iteB_neg (decide_eq_false fun c2 => U.ult u v i hu hv (by omega) e1 ⟨of_decide_eq_true c, c2⟩) J⟩
theorem ultra_l1 {p1 : Option Addr} {K4 : Heap → Prop} {u : Nat} {qr q16 : Option Addr} {cr l16 c16 : Nat} {c17 c18 : Int} (U : UltraM n M) (k1 : MxV h p1 n M) (vr : valsAt h qr (ints n (M u))) (hu : u < n) (hn : n ≤ 4096) (hk : K4 h) :
    ∀ (d i : Nat), i + d = n → matrix_Ultra.l1 K0 K4 (d + 1) p1 n c1 (u : Int) qr n cr q16 l16 c16 c17 c18 qr n cr (n : Int) (i : Int) h
  | 0, i, hi => by
    unfold matrix_Ultra.l1 matrix_Ultra.b1
    exact iteB_neg (decide_eq_false (by omega)) hk
  | d + 1, i, hi => by
    unfold matrix_Ultra.l1 matrix_Ultra.b1
    obtain ⟨ar, hr, g1⟩ := ints_at vr (j := i) (by omega)
    refine iteB_pos (decide_eq_true (by omega)) ?_
    rw [hr]
    simp -zeta only [chkP_some, Int.toNat_natCast, Nat.mul_one]
    rw [← hr]
    refine ⟨by omega, _, g1, n + 1, ultra_l2 U k1 vr hu (by omega) hn ?_ n 0 (by omega)⟩
    rw [wrap64 (by omega) (by omega)]
    exact ultra_l1 U k1 vr hu hn hk d (i + 1) (by omega)
theorem ultra_l0 {p1 : Option Addr} (U : UltraM n M) (k1 : MxV h p1 n M) (hn : n ≤ 4096) (hk : K2 h) : ∀ (d i : Nat), i + d = n → matrix_Ultra.l0 K0 K2 (d + 1) p1 n c1 p1 n c1 (n : Int) (i : Int) h
  | 0, i, hi => by
    unfold matrix_Ultra.l0 matrix_Ultra.b0
    exact iteB_neg (decide_eq_false (by omega)) hk
  | d + 1, i, hi => by
    unfold matrix_Ultra.l0 matrix_Ultra.b0
    obtain ⟨a1, q1, d1, he, g2, hc, w1⟩ := k1.row (i := i) (by omega)
    refine iteB_pos (decide_eq_true (by omega)) ?_
    rw [he]
    simp -zeta only [chkP_some, Int.toNat_natCast, Nat.mul_one]
    rw [← he]
    refine ⟨by omega, _, _, _, g2, n + 1, ultra_l1 U k1 w1 (by omega) hn ?_ n 0 (by omega)⟩
    rw [wrap64 (by omega) (by omega)]
    exact ultra_l0 U k1 hn hk d (i + 1) (by omega)
theorem Ultra_of {p1 : Option Addr} (U : UltraM n M) (k1 : MxV h p1 n M) (hn : n ≤ 256) (hk : K true h) : matrix_Ultra p1 n c1 h K := by
  unfold matrix_Ultra
  refine iteB_neg (decide_eq_false (by omega)) (qcallP1.of true (fun Q hQ => ?_) (iteB_neg rfl ⟨n + 1, ultra_l0 U k1 (by omega) hk n 0 (by omega)⟩))
  unfold matrix_plain
  exact ⟨n + 1, plain_l0 U k1 (by omega) hQ n 0 (by omega)⟩
/-- One that is none: something lies on the way from one to itself. -/
theorem Ultra_no {p1 : Option Addr} (k1 : MxV h p1 1 M) (h1 : M 0 0 ≠ 0) (hk : K false h) : matrix_Ultra p1 1 c1 h K := by
  unfold matrix_Ultra
  refine iteB_neg (decide_eq_false (by omega)) (qcallP1.of false (fun Q hQ => ?_) (iteB_pos rfl hk))
  unfold matrix_plain
  refine ⟨1, ?_⟩
  unfold matrix_plain.l0 matrix_plain.b0
  obtain ⟨a1, q1, d1, he, g2, hc, w1⟩ := k1.row (i := 0) (by omega)
  obtain ⟨a3, hq, g3⟩ := ints_at w1 (j := 0) (by omega)
  refine iteB_pos rfl ?_
  rw [he, chkP_some]
  refine ⟨by decide, _, _, _, g2, iteB_neg rfl (bindV_intro fun m hm => ?_)⟩
  have hm : m = 0 := by rw [hm]; rfl
  subst hm
  refine ⟨⟨by omega, by omega⟩, 1, ?_⟩
  unfold matrix_plain.l1 matrix_plain.b1
  refine iteB_neg rfl ?_
  show chkP q1 _
  rw [hq, chkP_some]
  exact ⟨by decide, _, g3, iteB_pos (by simpa using h1) hQ⟩
theorem Ultra_big {p1 : Option Addr} (hn : n > 256) (hk : K false h) : matrix_Ultra p1 n c1 h K := by
  unfold matrix_Ultra
  exact iteB_pos (decide_eq_true (by omega)) hk
end
theorem mW_ultraM {up w : List Int} (r : RightT up w) : UltraM up.length (mW up w) where
  pos u v _ _ := mW_nonneg r u v
  sym u v _ _ := mW_sym u v
  diag u _ := mW_diag u
  ult u v z hu hv _ hne h := by
    rcases mW_ultra r (z := z) hu hv hne with h2 | h2 <;> omega
end Go.Proofs.Ytfidcekobjmamaa
