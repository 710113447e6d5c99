/-
  What the document's functions on whole floats do; the law 'FintTells'.
-/
import Derived.Test.YtnmeoeakepcieaaI2
namespace Go.Proofs.Ytnmeoeakepcieaa
set_option linter.unusedVariables false
set_option linter.unusedSimpArgs false
open Go.Hp Go.RowKit
attribute [local irreducible] Go.Hp.iteB

abbrev put22 (h : Heap) (a : Addr) (x z : Int) (K : Int → Int → Heap → Prop) : Prop :=
  stC h a (.int .i64 x) fun h25 => stC h25 (a.add 1) (.int .i64 z) fun h27 =>
    (∃ (x28 : Int), cell h27 a = some (.int .i64 x28) ∧ ∃ (x30 : Int), cell h27 (a.add 1) = some (.int .i64 x30) ∧ K x28 x30 h27)
/-- A result of two numbers, set down and read. -/
theorem res22 {h0 h : Heap} {b : Nat} {v0 v1 : Value} {x z : Int} {K : Int → Int → Heap → Prop} (r : row h b [v0, v1]) (e : Ext h0 h) (hb : h0.size ≤ b) (hk : ∀ h', Ext h0 h' → K x z h') :
    stC h ⟨b, 0, none⟩ (.int .i64 x) fun h25 => stC h25 ((⟨b, 0, none⟩ : Addr).add 1) (.int .i64 z) fun h27 =>
      (∃ (x28 : Int), cell h27 ⟨b, 0, none⟩ = some (.int .i64 x28) ∧ ∃ (x30 : Int), cell h27 ((⟨b, 0, none⟩ : Addr).add 1) = some (.int .i64 x30) ∧ K x28 x30 h27) := by
  simp only [add_mk, Nat.zero_add]
  refine stC_row r (by simp) ?_
  have r1 := r.set 0 (.int .i64 x)
  refine stC_row r1 (by simp) ?_
  have r2 := r1.set 1 (.int .i64 z)
  exact ⟨x, by rw [r2.cell]; rfl, z, by rw [r2.cell]; rfl, hk _ ((e.setC hb _).setC hb _)⟩

theorem F16_l0 {K0 : Heap → Prop} {K3 : Int → Heap → Prop} {c0 : Int} {b2 b3 : Nat} {h : Heap} {E M : Nat} {z : Value} (hE : (E : Int) < 9223372036854775808) (r3 : row h b3 [.int .u64 (M : Int), .int .i64 (E : Int), z]) (hM : 0 < M) :
    ∀ (d i v : Nat), i + d = E → 0 < v → v < 18446744073709551616 → (v * 2 ^ d < 18446744073709551616 → K3 ((v * 2 ^ d : Nat) : Int) h) →
      (18446744073709551616 ≤ v * 2 ^ d → stC h ⟨b2, 0, none⟩ (.int .i64 0) fun h1 => stC h1 ((⟨b2, 0, none⟩ : Addr).add 1) (.int .i64 10) fun h2 => K0 h2) → F16.l0 K0 K3 (d + 1) c0 ⟨b2, 0, none⟩ ⟨b3, 0, none⟩ (v : Int) (i : Int) h
  | 0, i, v, hi, hv0, hv, hk, hk' => by
    unfold F16.l0 F16.b0
    refine ⟨(E : Int), by rw [add_mk, r3.cell]; rfl, iteB_neg (decide_eq_false (by omega)) ?_⟩
    simpa using hk (by omega)
  | d + 1, i, v, hi, hv0, hv, hk, hk' => by
    have hp : v * 2 ^ (d + 1) = v * 2 * 2 ^ d := by rw [Nat.pow_succ, Nat.mul_comm (2 ^ d), Nat.mul_assoc]
    have h1 : v * 2 ≤ v * 2 * 2 ^ d := Nat.le_mul_of_pos_right _ (Nat.two_pow_pos d)
    unfold F16.l0 F16.b0
    refine ⟨(E : Int), by rw [add_mk, r3.cell]; rfl, iteB_pos (decide_eq_true (by omega)) ⟨(M : Int), by rw [r3.cell]; rfl, iteB_pos (decide_eq_true (by omega)) ?_⟩⟩
    refine iteB_intro (fun c => ?_) (fun c => ?_)
    · have c := of_decide_eq_true c
      exact hk' (by rw [hp]; omega)
    · have c := of_decide_eq_false c
      rw [show (v : Int) * 2 = ((v * 2 : Nat) : Int) by omega, wrap_nat (by omega), wrap_id (by omega) (by omega), show (i : Int) + 1 = ((i + 1 : Nat) : Int) by omega]
      rw [hp] at hk hk'
      exact F16_l0 hE r3 hM d (i + 1) (v * 2) (by omega) (by omega) (by omega) hk hk'

theorem F16_of {b : Nat} {h : Heap} {K : Int → Int → Heap → Prop} (hb : b < 18446744073709551616) (hk : ∀ h', Ext h h' → K (intR b).1 (intR b).2 h') : F16 (b : Int) h K := by
  unfold F16
  refine newP_intro fun a h3 ha hs3 e3 r3 => ?_
  subst ha
  refine qcallP1.of (kindI b) (fun R hR => F23_of hb hR) ?_
  unfold intR at hk
  by_cases c0 : kindI b = 0
  · rw [if_pos c0] at hk
    exact iteB_pos (by rw [c0]; rfl) (res22 r3 e3 (Nat.le_refl _) hk)
  rw [if_neg c0] at hk; refine iteB_neg (beq_eq_false_iff_ne.2 c0) ?_
  by_cases c1 : kindI b = 1
  · rw [if_pos c1] at hk
    exact iteB_pos (by rw [c1]; rfl) (res22 r3 e3 (Nat.le_refl _) hk)
  rw [if_neg c1] at hk; refine iteB_neg (beq_eq_false_iff_ne.2 c1) ?_
  have hx2047 : ex b ≠ 2047 := by intro e; rcases kind_01 e with x | x <;> contradiction
  refine callP3.self (F24_of hb fun h16 e16 => ?_)
  refine newP_intro fun a17 h18 ha17 hs18 e18 r18 => ?_
  subst ha17
  have e318 := e16.trans e18
  have hsz := e16.size
  have hszz : h.size < h16.size := by omega
  rw [show ((⟨h16.size, 0, none⟩ : Addr).add 1) = ⟨h16.size, 1, none⟩ by rfl, show ((⟨h16.size, 0, none⟩ : Addr).add 2) = ⟨h16.size, 2, none⟩ by rfl]
  refine stC_row r18 (by simp) ?_
  have r19 := r18.set 0 (.int .u64 (partsR b).1)
  refine stC_row r19 (by simp) ?_
  have r20 := r19.set 1 (.int .i64 (partsR b).2.1)
  refine stC_row r20 (by simp) ?_
  have r21 := r20.set 2 (.bool (partsR b).2.2)
  have q21 : row _ h.size [.int .i64 0, .int .i64 0] := (((r3.ext e318).other (p := ⟨h16.size, 0, none⟩) (by show h16.size ≠ h.size; omega) (.int .u64 (partsR b).1)).other (p := ⟨h16.size, 1, none⟩) (by show h16.size ≠ h.size; omega) (.int .i64 (partsR b).2.1)).other (p := ⟨h16.size, 2, none⟩) (by show h16.size ≠ h.size; omega) (.bool (partsR b).2.2)
  have e21 := (((e3.trans e318).setC (p := ⟨h16.size, 0, none⟩) (by show h.size ≤ h16.size; omega) (.int .u64 (partsR b).1)).setC (p := ⟨h16.size, 1, none⟩) (by show h.size ≤ h16.size; omega) (.int .i64 (partsR b).2.1)).setC (p := ⟨h16.size, 2, none⟩) (by show h.size ≤ h16.size; omega) (.bool (partsR b).2.2)
  generalize setC (setC (setC h18 ⟨h16.size, 0, none⟩ (.int .u64 (partsR b).1)) ⟨h16.size, 1, none⟩ (.int .i64 (partsR b).2.1)) ⟨h16.size, 2, none⟩ (.bool (partsR b).2.2) = h21 at *
  simp only [List.set] at r21
  refine ⟨(partsR b).2.1, by rw [r21.cell]; rfl, ?_⟩
  -- what stands behind the loop
  have hend : ∀ (N : Nat), N < 18446744073709551616 → (∀ h', Ext h h' → K (if 9223372036854775808 ≤ N ∧ ¬ (9223372036854775808 ≤ b ∧ N = 9223372036854775808) then 0 else sv (decide (9223372036854775808 ≤ b)) N) (if 9223372036854775808 ≤ N ∧ ¬ (9223372036854775808 ≤ b ∧ N = 9223372036854775808) then 10 else 0) h') →
      qcallP1 h21 (F25 (b : Int) h21) fun x34 =>
        iteB x34 (iteB (decide ((N : Int) > (9223372036854775808 : Int))) (put22 h21 ⟨h.size, 0, none⟩ 0 10 K) (put22 h21 ⟨h.size, 0, none⟩ (IntKind.i64.wrap (0 - (IntKind.i64.wrap (N : Int)))) 0 K))
          (iteB (decide ((N : Int) ≥ (9223372036854775808 : Int))) (put22 h21 ⟨h.size, 0, none⟩ 0 10 K) (put22 h21 ⟨h.size, 0, none⟩ (IntKind.i64.wrap (N : Int)) 0 K)) := by
    intro N hN hk
    refine qcallP1.of (negR b) (fun R hR => F25_of hb hR) ?_
    by_cases cs : 9223372036854775808 ≤ b
    · have hn : negR b = true := decide_eq_true ⟨c0, cs⟩
      rw [decide_eq_true cs] at hk
      refine iteB_pos hn (iteB_intro (fun c => ?_) (fun c => ?_))
      · have c := of_decide_eq_true c
        rw [if_pos ⟨by omega, by omega⟩, if_pos ⟨by omega, by omega⟩] at hk
        exact res22 q21 e21 (Nat.le_refl _) hk
      · have c := of_decide_eq_false c
        rw [if_neg (by omega), if_neg (by omega)] at hk
        have : IntKind.i64.wrap (0 - (IntKind.i64.wrap (N : Int))) = sv true N := by rw [wrap_i64_eq, wrap_i64_eq]; simp only [sv, if_true]; omega
        rw [this]
        exact res22 q21 e21 (Nat.le_refl _) hk
    · have hn : negR b = false := decide_eq_false (fun x => cs x.2)
      rw [decide_eq_false cs] at hk
      refine iteB_neg hn (iteB_intro (fun c => ?_) (fun c => ?_))
      · have c := of_decide_eq_true c
        rw [if_pos ⟨by omega, by omega⟩, if_pos ⟨by omega, by omega⟩] at hk
        exact res22 q21 e21 (Nat.le_refl _) hk
      · have c := of_decide_eq_false c
        rw [if_neg (by omega), if_neg (by omega)] at hk
        have : IntKind.i64.wrap (N : Int) = sv false N := by rw [wrap_i64_eq]; simp only [sv, Bool.false_eq_true, if_false]; omega
        rw [this]
        exact res22 q21 e21 (Nat.le_refl _) hk
  by_cases c2 : kindI b = 2
  · rw [if_pos c2] at hk
    obtain ⟨z1, z2⟩ := kind2_zero c2
    have hp : partsR b = (0, 0, true) := by unfold partsR magR; rw [if_neg (by omega), if_pos z1, if_pos z2]
    rw [hp] at r21 ⊢
    refine iteB_neg rfl ⟨0, by rw [r21.cell]; rfl, 1, ?_⟩
    unfold F16.l0 F16.b0
    refine ⟨0, by rw [add_mk, r21.cell]; rfl, iteB_neg rfl ?_⟩
    refine hend 0 (by decide) ?_
    rw [if_neg (by omega), if_neg (by omega)]
    have : sv (decide (9223372036854775808 ≤ b)) 0 = 0 := by cases decide (9223372036854775808 ≤ b) <;> rfl
    rw [this]; exact hk
  rw [if_neg c2] at hk
  by_cases c3 : kindI b = 3
  · rw [if_pos c3] at hk
    have hz : ex b = 0 ∧ fr b ≠ 0 := by
      unfold kindI at c3; rw [if_neg hx2047] at c3
      by_cases e : ex b = 0
      · rw [if_pos e] at c3; by_cases f : fr b = 0
        · rw [if_pos f] at c3; simp at c3
        · exact ⟨e, f⟩
      · rw [if_neg e] at c3; simp at c3
    have hm : magR b = fr b := by unfold magR; rw [if_pos hz.1]
    have ht : tz (magR b) < 53 := tz_lt (by omega) (by have := mag_lt b; omega)
    have hp : (partsR b).2.1 = 1 - 1075 + (tz (magR b) : Nat) := by unfold partsR expR; rw [if_neg hx2047, if_neg (by omega), if_pos hz.1]
    refine iteB_pos (decide_eq_true (by omega)) (res22 q21 e21 (Nat.le_refl _) hk)
  rw [if_neg c3] at hk
  obtain ⟨hx, hx0, c4⟩ := kind_4 c0 c1 c2 c3
  obtain ⟨hbs, hfr, hm, hxx⟩ := float_split hb hx0
  have hmlt := mag_lt b
  have ht : tz (magR b) < 53 := tz_lt (by omega) (by omega)
  have hp : partsR b = (((magR b / 2 ^ tz (magR b) : Nat) : Int), (ex b : Int) - 1075 + (tz (magR b) : Nat), true) := by unfold partsR; rw [if_neg hx2047, if_neg (by omega), hxx]
  by_cases cw : wholeR b
  · rw [if_neg (by simpa using cw)] at hk
    obtain ⟨o, k, o1, o2, o3, o4⟩ := nat_whole hb hx hx0 cw
    have hbad := nat_bad hb hx hx0 cw
    rw [hp, ← o4, ← o3] at r21 ⊢
    have hol : o ≤ magR b := by rw [o4]; exact Nat.div_le_self _ _
    have hO : 0 < o := by omega
    refine iteB_neg (decide_eq_false (by show ¬ ((k : Int) < 0); omega)) ⟨(o : Int), by rw [r21.cell]; rfl, k + 1, ?_⟩
    refine F16_l0 (E := k) (M := o) (by omega) r21 hO k 0 o (by omega) hO (by omega) (fun hlt => ?_) (fun hge => ?_)
    · refine hend _ hlt ?_
      rw [← o2]
      by_cases cb : badR b
      · rw [if_pos cb] at hk
        rw [if_pos (hbad.1 cb), if_pos (hbad.1 cb)]; exact hk
      · rw [if_neg cb] at hk
        rw [if_neg (mt hbad.2 cb), if_neg (mt hbad.2 cb)]; exact hk
    · have cb : badR b := hbad.2 (by rw [o2]; omega)
      rw [if_pos cb] at hk
      exact res22 q21 e21 (Nat.le_refl _) hk
  · rw [if_pos (by simpa using cw)] at hk
    refine iteB_pos (decide_eq_true ?_) (res22 q21 e21 (Nat.le_refl _) hk)
    unfold wholeR at cw; rw [hp]; simp only []; omega
end Go.Proofs.Ytnmeoeakepcieaa
