/-
  Matrices of any rows: whether one is one of cuts, the program's answer and the document's, whole.
-/
import Derived.Test.YtfidcekobjmamaaJD
namespace Go.Proofs.Ytfidcekobjmamaa
set_option linter.unusedVariables false
set_option linter.unusedSimpArgs false
set_option linter.unnecessarySimpa false
open Go.Hp Go.RowKit
attribute [local irreducible] Go.Hp.iteB Go.Hp.stC Go.Hp.newP
/-- Nothing on a way is heavier than what holds both ends. -/
def ult3 (M : Nat → Nat → Int) (u v w : Nat) : Prop := u ≠ v → u ≠ w → v ≠ w → ¬ (M u v < M u w ∧ M u v < M w v)
theorem ultraM_of {n : Nat} {M : Nat → Nat → Int} (pos : ∀ u v, u < n → v < n → 0 ≤ M u v) (sym : ∀ u v, u < n → v < n → M u v = M v u) (diag : ∀ u, u < n → M u u = 0) (h3 : ∀ u v w, u < n → v < n → w < n → ult3 M u v w) : UltraM n M := by
  refine ⟨pos, sym, diag, fun u v w hu hv hw hne => ?_⟩
  have hp := pos u v hu hv
  by_cases c1 : u = w
  · subst c1; have := diag u hu; omega
  · by_cases c2 : v = w
    · subst c2; have := diag v hv; omega
    · exact h3 u v w hu hv hw hne c1 c2
theorem UltraM.three {n : Nat} {M : Nat → Nat → Int} (U : UltraM n M) {u v w : Nat} (hu : u < n) (hv : v < n) (hw : w < n) : ult3 M u v w := fun h1 _ _ => U.ult u v w hu hv hw h1
section
variable {h : Heap} {n : Nat} {M : Nat → Nat → Int} {q : Option Addr} {c : Nat} {K : Bool → Heap → Prop} {K0 : Bool → Heap → Prop}
/-! ### The program's -/
theorem gultra_l2 {K6 : Heap → Prop} {u v : Nat} {qr q16 q23 : Option Addr} {cr l16 c16 l23 c23 : Nat} {c17 c18 c24 c25 : Int} (k1 : MxV h q n M) (vr : valsAt h qr (ints n (M u))) (hu : u < n) (hv : v < n) (hn : n ≤ 4096) (h0 : ¬ UltraM n M → K0 false h)
    (hk : (∀ w, w < n → ult3 M u v w) → K6 h) :
    ∀ (d i : Nat), i + d = n → (∀ w, w < i → ult3 M u v w) → matrix_Ultra.l2 K0 K6 (d + 1) q n c (u : Int) qr n cr (v : Int) (M u v) q16 l16 c16 c17 c18 q23 l23 c23 c24 c25 (n : Int) (i : Int) h
  | 0, i, hi, hb => by
    unfold matrix_Ultra.l2 matrix_Ultra.b2
    exact iteB_neg (decide_eq_false (by omega)) (hk fun w hw => hb w (by omega))
  | d + 1, i, hi, hb => by
    unfold matrix_Ultra.l2 matrix_Ultra.b2
    refine iteB_pos (decide_eq_true (by omega)) ?_
    intro j
    have J : ult3 M u v i → j := fun h3 => by
      simp -zeta only [j]
      rw [wrap64 (by omega) (by omega)]
      refine gultra_l2 k1 vr hu hv hn h0 hk d (i + 1) (by omega) fun w hw => ?_
      by_cases e : w = i
      · rw [e]; exact h3
      · exact hb w (by omega)
    clear_value j
    refine iteB_intro (fun e1 => iteB_intro (fun e2 => iteB_intro (fun e3 => ?_) fun e3 => J fun _ _ h3 => ?_) fun e2 => J fun _ h2 _ => ?_) fun e1 => J fun h1 _ _ => ?_
    · have e1 : u ≠ v := by have e1 : ¬ (u : Int) = (v : Int) := by simpa using e1
                            omega
      obtain ⟨ar, hr, g1⟩ := ints_at vr (j := i) (by omega)
      obtain ⟨a1, q1, d1, he, g2, _, w1⟩ := k1.row (i := i) (by omega)
      obtain ⟨a3, h3, g3⟩ := ints_at w1 (j := v) hv
      rw [hr]
      simp -zeta only [chkP_some, Int.toNat_natCast, Nat.mul_one]
      refine ⟨by omega, _, g1, iteB_intro (fun cc => ?_) fun cc => J fun _ _ _ hh => (of_decide_eq_false cc) hh.1⟩
      rw [he]
      simp -zeta only [chkP_some, Int.toNat_natCast, Nat.mul_one]
      refine ⟨by omega, _, _, _, g2, ?_⟩
      rw [h3]
      simp -zeta only [chkP_some, Int.toNat_natCast, Nat.mul_one]
      refine ⟨by omega, _, g3, iteB_intro (fun c2 => h0 fun U => U.ult u v i hu hv (by omega) e1 ⟨of_decide_eq_true cc, of_decide_eq_true c2⟩) fun c2 => J fun _ _ _ hh => (of_decide_eq_false c2) hh.2⟩
    · have : (v : Int) = (i : Int) := by simpa using e3
      omega
    · have : (u : Int) = (i : Int) := by simpa using e2
      omega
    · have : (u : Int) = (v : Int) := by simpa using e1
      omega
theorem gultra_l1 {K4 : Heap → Prop} {u : Nat} {qr q16 : Option Addr} {cr l16 c16 : Nat} {c17 c18 : Int} (k1 : MxV h q n M) (vr : valsAt h qr (ints n (M u))) (hu : u < n) (hn : n ≤ 4096) (h0 : ¬ UltraM n M → K0 false h)
    (hk : (∀ v w, v < n → w < n → ult3 M u v w) → K4 h) :
    ∀ (d i : Nat), i + d = n → (∀ v w, v < i → w < n → ult3 M u v w) → matrix_Ultra.l1 K0 K4 (d + 1) q n c (u : Int) qr n cr q16 l16 c16 c17 c18 qr n cr (n : Int) (i : Int) h
  | 0, i, hi, hb => by
    unfold matrix_Ultra.l1 matrix_Ultra.b1
    exact iteB_neg (decide_eq_false (by omega)) (hk fun v w hv hw => hb v w (by omega) hw)
  | d + 1, i, hi, hb => by
    unfold matrix_Ultra.l1 matrix_Ultra.b1
    obtain ⟨ar, hr, g1⟩ := ints_at vr (j := i) (by omega)
    refine iteB_pos (decide_eq_true (by omega)) ?_
    rw [hr]
    simp -zeta only [chkP_some, Int.toNat_natCast, Nat.mul_one]
    rw [← hr]
    refine ⟨by omega, _, g1, n + 1, gultra_l2 k1 vr hu (by omega) hn h0 (fun hrow => ?_) n 0 (by omega) fun w hw => by omega⟩
    rw [wrap64 (by omega) (by omega)]
    refine gultra_l1 k1 vr hu hn h0 hk d (i + 1) (by omega) fun v w hv hw => ?_
    by_cases e : v = i
    · rw [e]; exact hrow w hw
    · exact hb v w (by omega) hw
theorem gultra_l0 {K2 : Heap → Prop} (k1 : MxV h q n M) (hn : n ≤ 4096) (h0 : ¬ UltraM n M → K0 false h) (hk : (∀ u v w, u < n → v < n → w < n → ult3 M u v w) → K2 h) :
    ∀ (d i : Nat), i + d = n → (∀ u v w, u < i → v < n → w < n → ult3 M u v w) → matrix_Ultra.l0 K0 K2 (d + 1) q n c q n c (n : Int) (i : Int) h
  | 0, i, hi, hb => by
    unfold matrix_Ultra.l0 matrix_Ultra.b0
    exact iteB_neg (decide_eq_false (by omega)) (hk fun u v w hu hv hw => hb u v w (by omega) hv hw)
  | d + 1, i, hi, hb => by
    unfold matrix_Ultra.l0 matrix_Ultra.b0
    obtain ⟨a1, q1, d1, he, g2, hc, w1⟩ := k1.row (i := i) (by omega)
    refine iteB_pos (decide_eq_true (by omega)) ?_
    rw [he]
    simp -zeta only [chkP_some, Int.toNat_natCast, Nat.mul_one]
    rw [← he]
    refine ⟨by omega, _, _, _, g2, n + 1, gultra_l1 k1 w1 (by omega) hn h0 (fun hrow => ?_) n 0 (by omega) fun v w hv hw => by omega⟩
    rw [wrap64 (by omega) (by omega)]
    refine gultra_l0 k1 hn h0 hk d (i + 1) (by omega) fun u v w hu hv hw => ?_
    by_cases e : u = i
    · rw [e]; exact hrow v w hv hw
    · exact hb u v w (by omega) hv hw
/-! ### The document's -/
theorem rultra_l3 {K8 : Heap → Prop} {u v : Nat} (k1 : MxV h q n M) (hu : u < n) (hv : v < n) (hn : n ≤ 4096) (h0 : ¬ UltraM n M → K0 false h) (hk : (∀ w, w < n → ult3 M u v w) → K8 h) :
    ∀ (d i : Nat), i + d = n → (∀ w, w < i → ult3 M u v w) → straitref35_Ultra.l3 K0 K8 (d + 1) q n c (n : Int) (u : Int) (v : Int) (i : Int) h
  | 0, i, hi, hb => by
    unfold straitref35_Ultra.l3 straitref35_Ultra.b3
    exact iteB_neg (decide_eq_false (by omega)) (hk fun w hw => hb w (by omega))
  | d + 1, i, hi, hb => by
    unfold straitref35_Ultra.l3 straitref35_Ultra.b3
    refine iteB_pos (decide_eq_true (by omega)) ?_
    intro j
    have J : ult3 M u v i → j := fun h3 => by
      simp -zeta only [j]
      rw [wrap64 (by omega) (by omega)]
      refine rultra_l3 k1 hu hv hn h0 hk d (i + 1) (by omega) fun w hw => ?_
      by_cases e : w = i
      · rw [e]; exact h3
      · exact hb w (by omega)
    clear_value j
    refine iteB_intro (fun e1 => iteB_intro (fun e2 => iteB_intro (fun e3 => ?_) fun e3 => J fun _ _ h3 => ?_) fun e2 => J fun _ h2 _ => ?_) fun e1 => J fun h1 _ _ => ?_
    · have e1 : u ≠ v := by have e1 : ¬ (u : Int) = (v : Int) := by simpa using e1
                            omega
      obtain ⟨a1, q1, d1, he, g2, _, w1⟩ := k1.row (i := u) (by omega)
      obtain ⟨b1, hb1, g3⟩ := ints_at w1 (j := v) hv
      obtain ⟨b2, hb2, g4⟩ := ints_at w1 (j := i) (by omega)
      obtain ⟨a3, q3, d3, he3, g5, _, w3⟩ := k1.row (i := i) (by omega)
      obtain ⟨b4, hb4, g6⟩ := ints_at w3 (j := v) hv
      rw [hb1] at hb2
      obtain rfl := Option.some.inj hb2
      rw [he] at he3
      obtain rfl := Option.some.inj he3
      rw [he]
      simp -zeta only [chkP_some, Int.toNat_natCast, Nat.mul_one]
      refine ⟨by omega, _, _, _, g2, ?_⟩
      rw [hb1]
      simp -zeta only [chkP_some, Int.toNat_natCast, Nat.mul_one]
      refine ⟨by omega, _, g3, by omega, _, _, _, g2, ?_⟩
      rw [hb1]
      simp -zeta only [chkP_some, Int.toNat_natCast, Nat.mul_one]
      refine ⟨by omega, _, g4, by omega, _, _, _, g5, ?_⟩
      rw [hb4]
      simp -zeta only [chkP_some, Int.toNat_natCast, Nat.mul_one]
      refine ⟨by omega, _, g6, iteB_intro (fun cc => h0 fun U => ?_) fun cc => J fun _ _ _ hh => ?_⟩
      · have cc := of_decide_eq_true cc
        exact U.ult u v i hu hv (by omega) e1 (by split at cc <;> omega)
      · have cc := of_decide_eq_false cc
        split at cc <;> omega
    · have : (v : Int) = (i : Int) := by simpa using e3
      omega
    · have : (u : Int) = (i : Int) := by simpa using e2
      omega
    · have : (u : Int) = (v : Int) := by simpa using e1
      omega
/-- What holds of one place. -/
def plc (n : Nat) (M : Nat → Nat → Int) (u v : Nat) : Prop := 0 ≤ M u v ∧ M u v = M v u ∧ (u = v → M u v = 0) ∧ ∀ w, w < n → ult3 M u v w
theorem rultra_l2 {K6 : Heap → Prop} {u : Nat} (k1 : MxV h q n M) (hu : u < n) (hn : n ≤ 4096) (h0 : ¬ UltraM n M → K0 false h) (hk : (∀ v, v < n → plc n M u v) → K6 h) :
    ∀ (d i : Nat), i + d = n → (∀ v, v < i → plc n M u v) → straitref35_Ultra.l2 K0 K6 (d + 1) q n c (n : Int) (u : Int) (i : Int) h
  | 0, i, hi, hb => by
    unfold straitref35_Ultra.l2 straitref35_Ultra.b2
    exact iteB_neg (decide_eq_false (by omega)) (hk fun v hv => hb v (by omega))
  | d + 1, i, hi, hb => by
    unfold straitref35_Ultra.l2 straitref35_Ultra.b2
    have hin : i < n := by omega
    obtain ⟨a1, q1, d1, he, g2, _, w1⟩ := k1.row (i := u) hu
    obtain ⟨b1, hb1, g3⟩ := ints_at w1 (j := i) hin
    obtain ⟨a3, q3, d3, he3, g5, _, w3⟩ := k1.row (i := i) hin
    obtain ⟨b4, hb4, g6⟩ := ints_at w3 (j := u) hu
    rw [he] at he3
    obtain rfl := Option.some.inj he3
    refine iteB_pos (decide_eq_true (by omega)) ?_
    intro j
    have J : 0 ≤ M u i → M u i = M i u → (u = i → M u i = 0) → j := fun p1 p2 p3 => by
      simp -zeta only [j]
      refine ⟨n + 1, rultra_l3 k1 hu hin hn h0 (fun hrow => ?_) n 0 (by omega) fun w hw => by omega⟩
      rw [wrap64 (by omega) (by omega)]
      refine rultra_l2 k1 hu hn h0 hk d (i + 1) (by omega) fun v hv => ?_
      by_cases e : v = i
      · rw [e]; exact ⟨p1, p2, p3, hrow⟩
      · exact hb v (by omega)
    clear_value j
    rw [he]
    simp -zeta only [chkP_some, Int.toNat_natCast, Nat.mul_one]
    refine ⟨by omega, _, _, _, g2, ?_⟩
    rw [hb1]
    simp -zeta only [chkP_some, Int.toNat_natCast, Nat.mul_one]
    refine ⟨by omega, _, g3, iteB_intro (fun e => h0 fun U => ?_) fun e => ⟨by omega, _, _, _, g2, ?_⟩⟩
    · have e := of_decide_eq_true e
      have := U.pos u i hu hin; omega
    have e := of_decide_eq_false e
    rw [hb1]
    simp -zeta only [chkP_some, Int.toNat_natCast, Nat.mul_one]
    refine ⟨by omega, _, g3, by omega, _, _, _, g5, ?_⟩
    rw [hb4]
    simp -zeta only [chkP_some, Int.toNat_natCast, Nat.mul_one]
    refine ⟨by omega, _, g6, iteB_intro (fun e2 => h0 fun U => ?_) fun e2 => iteB_intro (fun e3 => ⟨by omega, _, _, _, g2, ?_⟩) fun e3 => J (by omega) (by simpa using e2) fun ee => ?_⟩
    · have e2 : ¬ M u i = M i u := by simpa using e2
      exact e2 (U.sym u i hu hin)
    · rw [hb1]
      simp -zeta only [chkP_some, Int.toNat_natCast, Nat.mul_one]
      have e3 : u = i := by have : (u : Int) = (i : Int) := by simpa using e3
                            omega
      refine ⟨by omega, _, g3, iteB_intro (fun e4 => h0 fun U => ?_) fun e4 => J (by omega) (by simpa using e2) fun _ => by simpa using e4⟩
      have e4 : ¬ M u i = 0 := by simpa using e4
      have := U.diag i hin
      rw [e3] at e4
      exact e4 this
    · have : ¬ (u : Int) = (i : Int) := by simpa using e3
      omega
theorem rultra_l1 {K4 : Heap → Prop} (k1 : MxV h q n M) (hn : n ≤ 4096) (h0 : ¬ UltraM n M → K0 false h) (hk : (∀ u v, u < n → v < n → plc n M u v) → K4 h) :
    ∀ (d i : Nat), i + d = n → (∀ u v, u < i → v < n → plc n M u v) → straitref35_Ultra.l1 K0 K4 (d + 1) q n c (n : Int) (i : Int) h
  | 0, i, hi, hb => by
    unfold straitref35_Ultra.l1 straitref35_Ultra.b1
    exact iteB_neg (decide_eq_false (by omega)) (hk fun u v hu hv => hb u v (by omega) hv)
  | d + 1, i, hi, hb => by
    unfold straitref35_Ultra.l1 straitref35_Ultra.b1
    refine iteB_pos (decide_eq_true (by omega)) ⟨n + 1, rultra_l2 k1 (by omega) hn h0 (fun hrow => ?_) n 0 (by omega) fun v hv => by omega⟩
    rw [wrap64 (by omega) (by omega)]
    refine rultra_l1 k1 hn h0 hk d (i + 1) (by omega) fun u v hu hv => ?_
    by_cases e : u = i
    · rw [e]; exact hrow v hv
    · exact hb u v (by omega) hv
end
section
variable {h : Heap} {L : List (List Int)} {q : Option Addr} {c : Nat} {K : Bool → Heap → Prop} {K0 : Bool → Heap → Prop}
theorem rultra_l0 {K2 : Heap → Prop} (j : JagV h q L) (hn : L.length ≤ 256) (h0 : ¬ UltraJ L → K0 false h) (hk : (∀ l ∈ L, l.length = L.length) → K2 h) :
    ∀ (d i : Nat), i + d = L.length → (∀ k l, k < i → L[k]? = some l → l.length = L.length) → straitref35_Ultra.l0 K0 K2 (d + 1) q L.length c (L.length : Int) (i : Int) h
  | 0, i, hi, b1 => by
    unfold straitref35_Ultra.l0 straitref35_Ultra.b0
    refine iteB_neg (decide_eq_false (by omega)) (hk fun l hl => ?_)
    obtain ⟨k, hk⟩ := List.mem_iff_getElem?.1 hl
    exact b1 k l (by have := lt_get hk; omega) hk
  | d + 1, i, hi, b1 => by
    unfold straitref35_Ultra.l0 straitref35_Ultra.b0
    obtain ⟨l, hl⟩ := get_lt (l := L) (i := i) (by omega)
    obtain ⟨a1, p, d1, he, g2, hc, vr⟩ := j.row hl
    refine iteB_pos (decide_eq_true (by omega)) ?_
    rw [he]
    simp -zeta only [chkP_some, Int.toNat_natCast, Nat.mul_one]
    rw [← he]
    refine ⟨by omega, _, _, _, g2, iteB_intro (fun e => h0 fun U => ?_) fun e => ?_⟩
    · have e : ¬ (l.length : Int) = (L.length : Int) := by simpa using e
      have := U.lens l (List.mem_of_getElem? hl); omega
    have e : l.length = L.length := by have e : (l.length : Int) = (L.length : Int) := by simpa using e
                                       omega
    rw [wrap64 (by omega) (by omega)]
    refine rultra_l0 j hn h0 hk d (i + 1) (by omega) fun k l' hk' hl' => ?_
    by_cases ek : k = i
    · subst ek; rw [hl] at hl'; obtain rfl := Option.some.inj hl'; exact e
    · exact b1 k l' (by omega) hl'
theorem RUltra_of (j : JagV h q L) (hn : L.length ≤ 256) (h0 : ¬ UltraJ L → K false h) (h1 : UltraJ L → K true h) : straitref35_Ultra q L.length c h K := by
  unfold straitref35_Ultra
  refine iteB_neg (decide_eq_false (by omega)) ⟨L.length + 1, rultra_l0 j hn h0 (fun hl => ?_) L.length 0 (by omega) fun k l hk => by omega⟩
  refine ⟨L.length + 1, rultra_l1 (j.mx hl) (by omega) (fun hno => h0 fun U => hno U.u) (fun hp => h1 ⟨hl, ?_⟩) L.length 0 (by omega) fun u v hu => by omega⟩
  exact ultraM_of (fun u v hu hv => (hp u v hu hv).1) (fun u v hu hv => (hp u v hu hv).2.1) (fun u hu => (hp u u hu hu).2.2.1 rfl) fun u v w hu hv hw => (hp u v hu hv).2.2.2 w hw
theorem GUltra_of (j : JagV h q L) (hn : L.length ≤ 256) (h0 : ¬ UltraJ L → K false h) (h1 : UltraJ L → K true h) : matrix_Ultra q L.length c h K := by
  unfold matrix_Ultra
  refine iteB_neg (decide_eq_false (by omega)) ?_
  by_cases P : PlainJ L
  · refine qcallP1.of true (fun Q hQ => ?_) (iteB_neg rfl ?_)
    · unfold matrix_plain
      exact ⟨L.length + 1, gplain_l0 j hn (fun no => absurd P no) (fun _ => hQ) L.length 0 (by omega) (fun k l hk => by omega) (fun u v hu => by omega) fun u hu => by omega⟩
    · refine ⟨L.length + 1, gultra_l0 (j.mx P.lens) (by omega) (fun hno => h0 fun U => hno U.u) (fun h3 => h1 ⟨P.lens, ultraM_of (fun u v hu hv => ?_) (fun u v hu hv => ?_) P.diag h3⟩) L.length 0 (by omega) fun u v w hu => by omega⟩
      · rcases Nat.lt_trichotomy u v with hlt | heq | hgt
        · have := P.low v u hv hlt; omega
        · rw [heq, P.diag v hv]; omega
        · exact (P.low u v hu hgt).1
      · rcases Nat.lt_trichotomy u v with hlt | heq | hgt
        · have := P.low v u hv hlt; omega
        · rw [heq]
        · exact (P.low u v hu hgt).2
  · refine qcallP1.of false (fun Q hQ => ?_) (iteB_pos rfl (h0 fun U => P ⟨U.lens, fun u v hu hv => ⟨U.u.pos u v hu (by omega), U.u.sym u v hu (by omega)⟩, U.u.diag⟩))
    unfold matrix_plain
    exact ⟨L.length + 1, gplain_l0 j hn (fun _ => hQ) (fun p => absurd p P) L.length 0 (by omega) (fun k l hk => by omega) (fun u v hu => by omega) fun u hu => by omega⟩
end
end Go.Proofs.Ytfidcekobjmamaa
