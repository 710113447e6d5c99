/-
  The law 'FintTells'.
-/
import Derived.Test.YtnmeoeakepcieaaI3
namespace Go.Proofs.Ytnmeoeakepcieaa
set_option linter.unusedVariables false
set_option linter.unusedSimpArgs false
open Go.Hp Go.RowKit
attribute [local irreducible] Go.Hp.iteB

theorem F18_of {b : Nat} {h : Heap} {K : Int → Int → Heap → Prop} (hb : b < 18446744073709551616) (hk : ∀ h', Ext h h' → K (weightR b).1 (weightR b).2 h') : F18 (b : Int) h K := by
  unfold F18
  refine newP_intro fun a h3 ha hs3 e3 r3 => ?_
  subst ha
  refine callP2.self (F16_of hb fun h6 e6 => ?_)
  refine newP_intro fun a7 h8 ha7 hs8 e8 r8 => ?_
  subst ha7
  have hsz := e6.size
  have hlt : h.size < h6.size := by omega
  rw [show ((⟨h6.size, 0, none⟩ : Addr).add 1) = ⟨h6.size, 1, none⟩ by rfl]
  refine stC_row r8 (by simp) ?_
  have r9 := r8.set 0 (.int .i64 (intR b).1)
  refine stC_row r9 (by simp) ?_
  have r10 := r9.set 1 (.int .i64 (intR b).2)
  have q10 : row _ h.size [.int .i64 0, .int .i64 0] := ((r3.ext (e6.trans e8)).other (p := ⟨h6.size, 0, none⟩) (by show h6.size ≠ h.size; omega) (.int .i64 (intR b).1)).other (p := ⟨h6.size, 1, none⟩) (by show h6.size ≠ h.size; omega) (.int .i64 (intR b).2)
  have e10 := ((e3.trans (e6.trans e8)).setC (p := ⟨h6.size, 0, none⟩) (by show h.size ≤ h6.size; omega) (.int .i64 (intR b).1)).setC (p := ⟨h6.size, 1, none⟩) (by show h.size ≤ h6.size; omega) (.int .i64 (intR b).2)
  generalize setC (setC h8 ⟨h6.size, 0, none⟩ (.int .i64 (intR b).1)) ⟨h6.size, 1, none⟩ (.int .i64 (intR b).2) = h10 at *
  simp only [List.set] at r10
  intro j19
  have hj1 : (∀ h', Ext h h' → K 0 5 h') → j19 true := fun hk => by
    simp only [j19]; exact iteB_pos rfl (res22 q10 e10 (Nat.le_refl _) hk)
  have hj2 : (∀ h', Ext h h' → K (intR b).1 (intR b).2 h') → j19 false := fun hk => by
    simp only [j19]
    exact iteB_neg rfl ⟨_, by rw [r10.cell]; rfl, _, by rw [r10.cell]; rfl, res22 q10 e10 (Nat.le_refl _) hk⟩
  clear_value j19
  refine ⟨_, by rw [r10.cell]; rfl, ?_⟩
  unfold weightR at hk
  by_cases c : (intR b).2 = 0
  · rw [if_neg (by simpa using c)] at hk
    refine iteB_pos (by rw [c]; rfl) ⟨_, by rw [r10.cell]; rfl, ?_⟩
    by_cases c1 : (intR b).1 < 0
    · rw [if_pos (.inl c1)] at hk
      exact iteB_pos (decide_eq_true c1) (hj1 hk)
    · refine iteB_neg (decide_eq_false c1) ⟨_, by rw [r10.cell]; rfl, ?_⟩
      by_cases c2 : (intR b).1 > 2147483648
      · rw [if_pos (.inr c2)] at hk
        rw [decide_eq_true c2]; exact hj1 hk
      · rw [if_neg (by omega)] at hk
        rw [decide_eq_false c2]; exact hj2 (by rw [c]; exact hk)
  · rw [if_pos c] at hk
    exact iteB_neg (beq_eq_false_iff_ne.2 c) (hj2 (by rw [intR_err c]; exact hk))

theorem F17_of {n : Int} {h : Heap} {K : Int → Bool → Heap → Prop} (h1 : -9223372036854775808 ≤ n) (h2 : n < 9223372036854775808) (hk : ∀ h', Ext h h' → K ((floatR n).1 : Nat) (floatR n).2 h') : F17 n h K := by
  unfold F17
  refine newP_intro fun a h3 ha hs3 e3 r3 => ?_
  subst ha
  unfold floatR at hk
  by_cases c : n < 0
  · rw [decide_eq_true c] at hk
    refine iteB_pos (decide_eq_true c) ?_
    have e1 : IntKind.u64.wrap ((IntKind.u64.wrap (IntKind.i64.wrap (0 - (IntKind.i64.wrap (n + 1))))) + 1) = ((n.natAbs : Nat) : Int) := by
      rw [wrap_i64_eq, wrap_i64_eq, wrap_u64, wrap_u64]; omega
    rw [e1]
    exact callP2.self (F26_of (by omega) fun h6 e6 => res2 (r3.ext e6) (e3.trans e6) (Nat.le_refl _) hk)
  · rw [decide_eq_false c] at hk
    refine iteB_neg (decide_eq_false c) ?_
    have e1 : IntKind.u64.wrap n = ((n.natAbs : Nat) : Int) := by rw [wrap_u64]; omega
    rw [e1]
    exact callP2.self (F26_of (by omega) fun h6 e6 => res2 (r3.ext e6) (e3.trans e6) (Nat.le_refl _) hk)

/-- FintTells. -/
theorem F5_of {b : Nat} {n : Int} {h : Heap} {K : Bool → Heap → Prop} (hb : b < 18446744073709551616) (h1 : -9223372036854775808 ≤ n) (h2 : n < 9223372036854775808) (hk : ∀ h', Ext h h' → K true h') : F5 (b : Int) n h K := by
  unfold F5
  refine qcallP1.of b (fun R hR => F7_of hR) ?_
  refine qcallP2.of (intR b).1 (intR b).2 (fun R hR => F11_of hb hR) ?_
  refine qcallP2.of (weightR b).1 (weightR b).2 (fun R hR => F15_of hb hR) ?_
  refine qcallP2.of (floatR n).1 (floatR n).2 (fun R hR => F12_of h1 h2 hR) ?_
  refine callP2.self (F16_of hb fun h12 e12 => ?_)
  refine newP_intro fun a13 h14 ha13 hs14 e14 r14 => ?_
  rw [show ((⟨a13, 0, none⟩ : Addr).add 1) = ⟨a13, 1, none⟩ by rfl]
  refine stC_row r14 (by simp) ?_
  have r15 := r14.set 0 (.int .i64 (intR b).1)
  refine stC_row r15 (by simp) ?_
  have r16 := r15.set 1 (.int .i64 (intR b).2)
  have hsz := e12.size
  have e16 := ((e12.trans e14).setC (p := ⟨a13, 0, none⟩) (by show h.size ≤ a13; omega) (.int .i64 (intR b).1)).setC (p := ⟨a13, 1, none⟩) (by show h.size ≤ a13; omega) (.int .i64 (intR b).2)
  generalize setC (setC h14 ⟨a13, 0, none⟩ (.int .i64 (intR b).1)) ⟨a13, 1, none⟩ (.int .i64 (intR b).2) = h16 at *
  simp only [List.set] at r16
  refine callP2.self (F17_of h1 h2 fun h19 e19 => ?_)
  refine newP_intro fun a20 h21 ha20 hs21 e21 r21 => ?_
  rw [show ((⟨a20, 0, none⟩ : Addr).add 1) = ⟨a20, 1, none⟩ by rfl]
  refine stC_row r21 (by simp) ?_
  have r22 := r21.set 0 (.int .u64 ((floatR n).1 : Nat))
  refine stC_row r22 (by simp) ?_
  have r23 := r22.set 1 (.bool (floatR n).2)
  have h13lt := r16.lt
  have hsz19 := e19.size
  have hsz16 := e16.size
  have q23 : row _ a13 [.int .i64 (intR b).1, .int .i64 (intR b).2] := ((r16.ext (e19.trans e21)).other (p := ⟨a20, 0, none⟩) (by show a20 ≠ a13; omega) (.int .u64 ((floatR n).1 : Nat))).other (p := ⟨a20, 1, none⟩) (by show a20 ≠ a13; omega) (.bool (floatR n).2)
  have e23 := ((e16.trans (e19.trans e21)).setC (p := ⟨a20, 0, none⟩) (by show h.size ≤ a20; omega) (.int .u64 ((floatR n).1 : Nat))).setC (p := ⟨a20, 1, none⟩) (by show h.size ≤ a20; omega) (.bool (floatR n).2)
  generalize setC (setC h21 ⟨a20, 0, none⟩ (.int .u64 ((floatR n).1 : Nat))) ⟨a20, 1, none⟩ (.bool (floatR n).2) = h23 at *
  simp only [List.set] at r23
  intro j39
  have hj : j39 (decide ((intR b).2 = 0 ∨ (intR b).2 = 10)) := by
    simp only [j39]
    refine ⟨_, by rw [q23.cell]; rfl, _, by rw [q23.cell]; rfl, iteB_pos (by simp [eqAll]) ?_⟩
    refine callP2.self (F18_of hb fun h31 e31 => ?_)
    refine iteB_pos (by simp [eqAll]) ?_
    refine qcallP1.of _ (fun R hR => F19_of hb hR) (iteB_pos (by simp) ⟨_, by rw [(r23.ext e31).cell]; rfl, iteB_pos (by simp) ?_⟩)
    refine qcallP1.of _ (fun R hR => F13_of hR) ⟨_, by rw [(r23.ext e31).cell]; rfl, iteB_pos ?_ (qcallP1.of true (fun R hR => F6_of hR) (hk _ (e23.trans e31)))⟩
    unfold floatR makeR
    rw [(made_kind _ n.natAbs 0 (sgn_or _) (by omega)).1]; simp
  clear_value j39
  refine ⟨_, by rw [q23.cell]; rfl, ?_⟩
  by_cases c : (intR b).2 = 0
  · rw [decide_eq_true (.inl c)] at hj
    exact iteB_pos (by rw [c]; rfl) hj
  · refine iteB_neg (beq_eq_false_iff_ne.2 c) ⟨_, by rw [q23.cell]; rfl, ?_⟩
    have : ((intR b).2 == 10) = decide ((intR b).2 = 0 ∨ (intR b).2 = 10) := by
      by_cases d : (intR b).2 = 10 <;> simp [c, d]
    rw [this]; exact hj
end Go.Proofs.Ytnmeoeakepcieaa
