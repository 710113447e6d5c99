/-
  Edges that may be, merged: in range, and what they weigh.
-/
import Derived.Test.YtbhndlpjfncliaaGreatY6
namespace Go.Proofs.YtbhndlpjfncliaaGreat
set_option linter.unusedVariables false
set_option linter.unusedSimpArgs false
set_option linter.unnecessarySimpa false
open Go.Hp Go.RowKit

theorem tsum_ne {f : Ed → Int} : ∀ {l : List Ed}, tsum f l ≠ 0 → ∃ y ∈ l, f y ≠ 0
  | [], h => absurd rfl h
  | x :: l, h => by
    by_cases c : f x = 0
    · rw [tsum_cons, c, Int.zero_add] at h
      obtain ⟨y, h1, h2⟩ := tsum_ne h
      exact ⟨y, by simp [h1], h2⟩
    · exact ⟨x, by simp, c⟩
theorem tsum_nonneg {f : Ed → Int} : ∀ {l : List Ed}, (∀ x ∈ l, 0 ≤ f x) → 0 ≤ tsum f l
  | [], _ => Int.le_refl _
  | x :: l, h => by
    have h1 := tsum_nonneg (l := l) fun y hy => h y (by simp [hy])
    have h2 := h x (by simp)
    rw [tsum_cons]; omega
theorem tsum_mem_le {f : Ed → Int} : ∀ {l : List Ed}, (∀ x ∈ l, 0 ≤ f x) → ∀ x ∈ l, f x ≤ tsum f l
  | y :: l, h, x, hx => by
    have h0 := h y (by simp)
    have h1 : ∀ z ∈ l, 0 ≤ f z := fun z hz => h z (by simp [hz])
    have h2 := tsum_nonneg h1
    rw [tsum_cons]
    rcases List.mem_cons.1 hx with rfl | hx
    · omega
    · have := tsum_mem_le h1 x hx; omega
/-- Edges that may be. -/
def Chk (n : Int) (l : List Ed) : Prop := ∀ e ∈ l, 0 ≤ e.1 ∧ e.1 < n ∧ 0 ≤ e.2.1 ∧ e.2.1 < n ∧ 0 ≤ e.2.2 ∧ e.2.2 ≤ 2147483648
theorem chks_ok {n : Int} : ∀ {l : List Ed} {i : Nat}, (chksE n i l).1 = 0 → Chk n l
  | [], _, _ => fun e he => by cases he
  | x :: l, i, h => by
    unfold chksE at h
    by_cases c : chkE n x = 0
    · rw [if_neg (by simpa using c)] at h
      have ih := chks_ok h
      intro e he
      rcases List.mem_cons.1 he with rfl | he
      · unfold chkE at c
        split at c
        · omega
        · split at c
          · omega
          · omega
      · exact ih e he
    · rw [if_pos c] at h; exact absurd h c
theorem wsum_le {n : Int} : ∀ {l : List Ed}, Chk n l → wsum l ≤ 2147483648 * (l.length : Int)
  | [], _ => by simp [wsum, tsum]
  | x :: l, h => by
    have h1 := wsum_le (l := l) fun y hy => h y (by simp [hy])
    have h2 := h x (by simp)
    show wf_ x + wsum l ≤ _
    unfold wf_
    simp only [List.length_cons]; omega
theorem fold_len : ∀ (l P Q : List Ed), fitsL P → fitsL l → l.foldl stepP (some P) = some Q → Q.length ≤ P.length + l.length
  | [], P, Q, _, _, h => by
    have : P = Q := Option.some.inj h
    subst this; simp
  | x :: l, P, Q, hP, hl, h => by
    have hl' : fitsL l := fun y hy => hl y (by simp [hy])
    have hx := hl x (by simp)
    simp only [List.foldl_cons, stepP] at h
    by_cases c : (normE x).1 = (normE x).2.1
    · rw [if_pos c] at h
      have := fold_len l P Q hP hl' h
      simp only [List.length_cons]; omega
    · rw [if_neg c] at h
      cases e : addP P (normE x) with
      | none => rw [e, step_none] at h; cases h
      | some P' =>
        rw [e] at h
        obtain ⟨f1, f2⟩ := addP_fits (e := normE x) (by rw [normE_w]; exact hx) hP e
        have := fold_len l P' Q f1 hl' h
        simp only [List.length_cons]; omega
theorem normE_key (e : Ed) : ((normE e).1 = e.1 ∧ (normE e).2.1 = e.2.1) ∨ ((normE e).1 = e.2.1 ∧ (normE e).2.1 = e.1) := by
  unfold normE; split
  · exact .inr ⟨rfl, rfl⟩
  · exact .inl ⟨rfl, rfl⟩
/-- The edges of a graph. -/
structure Gr (n : Nat) (L : List Ed) : Prop where
  canon : Canon L
  range : ∀ e ∈ L, 0 ≤ e.1 ∧ e.1 < e.2.1 ∧ e.2.1 < n ∧ 0 < e.2.2
  sum : wsum L ≤ 2147483648 * 1048576
  len : L.length ≤ 1048576
theorem Chk.fit {n : Int} {l : List Ed} (c : Chk n l) : fitsL l := fun e he => by have := c e he; unfold fits; omega
theorem gr {n : Nat} {l : List Ed} (c : Chk n l) (hl : l.length ≤ 1048576) : ∃ P S, mergeP l = some P ∧ mergeD l = some S ∧ sortEd (P.filter nz) = S.filter nz ∧ (P.filter nz).length = (S.filter nz).length ∧ Gr n (S.filter nz) := by
  have hg : good l := fun x hx => (c x hx).2.2.2.2.1
  have hs := wsum_le c
  obtain ⟨P, h1, m⟩ := merged hg (by omega)
  rcases merge_both l with ⟨g, _⟩ | ⟨P', S, g, gS, p, up⟩
  · rw [h1] at g; cases g
  rw [h1] at g
  obtain rfl := Option.some.inj g
  rw [sort_filter p up] at m
  have hlen := fold_len l [] P (fun x hx => by cases hx) c.fit h1
  have pl : (P.filter nz).length = (S.filter nz).length := (p.filter nz).length_eq
  refine ⟨P, S, h1, gS, sort_filter p up, pl, m.canon, fun e he => ?_, Int.le_trans m.sum (by omega), ?_⟩
  · have hc := m.canon.2 e he
    have hge := m.good e he
    have hpos : 0 < kw e.1 e.2.1 (S.filter nz) := by
      have h2 : kf e.1 e.2.1 e = e.2.2 := if_pos ⟨rfl, rfl⟩
      have := tsum_mem_le (f := kf e.1 e.2.1) (l := S.filter nz) (fun x hx => by unfold kf; split; exact m.good x hx; omega) e he
      rw [h2] at this
      have : e.2.2 ≤ kw e.1 e.2.1 (S.filter nz) := this
      omega
    rw [m.kw _ _ hc.1] at hpos
    obtain ⟨y, hy, hf⟩ := tsum_ne (f := kf e.1 e.2.1) (l := l.map normE) (by have h9 : kw e.1 e.2.1 (l.map normE) ≠ 0 := by omega
                                                                             exact h9)
    obtain ⟨x, hx, rfl⟩ := List.mem_map.1 hy
    have hk : (normE x).1 = e.1 ∧ (normE x).2.1 = e.2.1 := by
      apply Classical.byContradiction
      intro no
      exact hf (if_neg no)
    have hr := c x hx
    rcases normE_key x with ⟨a, b⟩ | ⟨a, b⟩ <;> exact ⟨by omega, hc.1, by omega, by omega⟩
  · have := List.length_filter_le nz P
    rw [← pl]; simp at hlen; omega
end Go.Proofs.YtbhndlpjfncliaaGreat
