/-
  Edges that are merged: what they weigh together (turned from the edges' own texts).
-/
import Derived.Test.YtbhndlpjfncliaaGreatY5
namespace Go.Proofs.YtbhndlpjfncliaaGreat
set_option linter.unusedVariables false
set_option linter.unusedSimpArgs false
set_option linter.unnecessarySimpa false
open Go.Hp Go.RowKit

def tsum (f : Ed → Int) : List Ed → Int
  | [] => 0
  | x :: l => f x + tsum f l
theorem tsum_cons (f : Ed → Int) (x : Ed) (l : List Ed) : tsum f (x :: l) = f x + tsum f l := rfl
theorem tsum_app (f : Ed → Int) : ∀ l m : List Ed, tsum f (l ++ m) = tsum f l + tsum f m
  | [], m => by simp [tsum]
  | x :: l, m => by rw [List.cons_append, tsum_cons, tsum_cons, tsum_app f l m]; omega
theorem tsum_perm (f : Ed → Int) {l m : List Ed} (p : l.Perm m) : tsum f l = tsum f m := by
  induction p with
  | nil => rfl
  | cons x _ ih => rw [tsum_cons, tsum_cons, ih]
  | swap x y l => simp only [tsum_cons]; omega
  | trans _ _ i1 i2 => rw [i1, i2]
theorem tsum_filter (f : Ed → Int) (hf : ∀ x : Ed, x.2.2 = 0 → f x = 0) : ∀ l : List Ed, tsum f (l.filter nz) = tsum f l
  | [] => rfl
  | x :: l => by
    have ih := tsum_filter f hf l
    by_cases c : x.2.2 = 0
    · rw [List.filter_cons_of_neg (by simp [nz, c]), tsum_cons, hf x c, ih]; omega
    · rw [List.filter_cons_of_pos (by simp [nz, c]), tsum_cons, tsum_cons, ih]
theorem tsum_rep (f : Ed → Int) (x : Ed) : ∀ k : Nat, tsum f (List.replicate k x) = (k : Int) * f x
  | 0 => by simp [tsum]
  | k + 1 => by
    rw [List.replicate_succ, tsum_cons, tsum_rep f x k, Int.natCast_add, Int.add_mul]; simp only [Int.natCast_one, Int.one_mul]; omega
def wf_ (x : Ed) : Int := x.2.2
def kf (u v : Int) (x : Ed) : Int := if x.1 = u ∧ x.2.1 = v then x.2.2 else 0
abbrev kw (u v : Int) (l : List Ed) : Int := tsum (kf u v) l
abbrev wsum (l : List Ed) : Int := tsum wf_ l
def good (l : List Ed) : Prop := ∀ x ∈ l, 0 ≤ x.2.2
theorem good_sum : ∀ {l : List Ed}, good l → 0 ≤ wsum l
  | [], _ => Int.le_refl _
  | x :: l, h => by
    have h1 := good_sum (l := l) fun y hy => h y (by simp [hy])
    have h2 := h x (by simp)
    show 0 ≤ wf_ x + wsum l
    unfold wf_; omega
theorem good_le : ∀ {l : List Ed}, good l → ∀ x ∈ l, x.2.2 ≤ wsum l
  | y :: l, h, x, hx => by
    have h0 := h y (by simp)
    have h1 : good l := fun z hz => h z (by simp [hz])
    have h2 := good_sum h1
    show x.2.2 ≤ wf_ y + wsum l
    unfold wf_
    rcases List.mem_cons.1 hx with rfl | hx
    · omega
    · have := good_le h1 x hx; omega
theorem addP_all {e : Ed} (he : 0 ≤ e.2.2) : ∀ {P : List Ed}, good P → wsum P + e.2.2 ≤ 9223372036854775807 →
    ∃ Q, addP P e = some Q ∧ good Q ∧ wsum Q = wsum P + e.2.2 ∧ (∀ u v, kw u v Q = kw u v P + kf u v e) ∧ ((∀ x ∈ P, x.1 < x.2.1) → e.1 < e.2.1 → ∀ x ∈ Q, x.1 < x.2.1)
  | [], _, _ => ⟨[e], rfl, fun x hx => by simp only [List.mem_singleton] at hx; subst hx; exact he, by simp [wsum, tsum, wf_], fun u v => by simp [kw, tsum], fun _ h x hx => by simp only [List.mem_singleton] at hx; subst hx; exact h⟩
  | x :: P, hg, hs => by
    have hx := hg x (by simp)
    have hg' : good P := fun z hz => hg z (by simp [hz])
    have h0 := good_sum hg'
    have hs' : wf_ x + wsum P + e.2.2 ≤ 9223372036854775807 := hs
    rw [addP_cons]
    by_cases c : sameK x e
    · have hf : fits (x.2.2 + e.2.2) := by unfold fits; unfold wf_ at hs'; omega
      rw [if_pos c, if_pos hf]
      refine ⟨_, rfl, fun y hy => ?_, ?_, fun u v => ?_, fun hP _ y hy => ?_⟩
      · rcases List.mem_cons.1 hy with rfl | hy
        · simp only; omega
        · exact hg' y hy
      · simp only [wsum, tsum_cons, wf_]; omega
      · obtain ⟨c1, c2⟩ := c
        simp only [kw, tsum_cons, kf, c1, c2]
        split <;> omega
      · rcases List.mem_cons.1 hy with rfl | hy
        · exact hP x (by simp)
        · exact hP y (by simp [hy])
    · rw [if_neg c]
      obtain ⟨Q, h1, h2, h3, h4, h5⟩ := addP_all he hg' (by unfold wf_ at hs'; omega)
      rw [h1]
      refine ⟨x :: Q, rfl, fun y hy => ?_, ?_, fun u v => ?_, fun hP hlt y hy => ?_⟩
      · rcases List.mem_cons.1 hy with rfl | hy
        · exact hx
        · exact h2 y hy
      · simp only [wsum, tsum_cons] at h3 ⊢; omega
      · have := h4 u v
        simp only [kw, tsum_cons] at this ⊢; omega
      · rcases List.mem_cons.1 hy with rfl | hy
        · exact hP _ (by simp)
        · exact h5 (fun z hz => hP z (by simp [hz])) hlt y hy
theorem fold_all : ∀ (l P : List Ed), good P → good l → (∀ x ∈ P, x.1 < x.2.1) → wsum P + wsum l ≤ 9223372036854775807 →
    ∃ Q, l.foldl stepP (some P) = some Q ∧ good Q ∧ (∀ x ∈ Q, x.1 < x.2.1) ∧ wsum Q ≤ wsum P + wsum l ∧ ∀ u v, u < v → kw u v Q = kw u v P + kw u v (l.map normE)
  | [], P, hP, _, hu, _ => ⟨P, rfl, hP, hu, by simp [wsum, tsum], fun u v _ => by simp [kw, tsum]⟩
  | x :: l, P, hP, hl, hu, hs => by
    have hx := hl x (by simp)
    have hl' : good l := fun z hz => hl z (by simp [hz])
    have h0 := good_sum hl'
    have hs' : wsum P + (wf_ x + wsum l) ≤ 9223372036854775807 := hs
    unfold wf_ at hs'
    simp only [List.foldl_cons, stepP]
    by_cases c : (normE x).1 = (normE x).2.1
    · rw [if_pos c]
      obtain ⟨Q, h1, h2, h3, h4, h5⟩ := fold_all l P hP hl' hu (by omega)
      refine ⟨Q, h1, h2, h3, ?_, fun u v huv => ?_⟩
      · simp only [wsum, tsum_cons, wf_] at h4 ⊢; omega
      · rw [h5 u v huv, List.map_cons]
        simp only [kw, tsum_cons]
        rw [show kf u v (normE x) = 0 from if_neg (by omega)]; omega
    · rw [if_neg c]
      have hw := normE_w x
      obtain ⟨P', g1, g2, g3, g4, g5⟩ := addP_all (e := normE x) (by omega) hP (by omega)
      rw [g1]
      obtain ⟨Q, h1, h2, h3, h4, h5⟩ := fold_all l P' g2 hl' (g5 hu (by have := normE_le x; omega)) (by omega)
      refine ⟨Q, h1, h2, h3, ?_, fun u v huv => ?_⟩
      · simp only [wsum, tsum_cons, wf_] at h4 g3 ⊢; omega
      · rw [h5 u v huv, g4 u v, List.map_cons]
        simp only [kw, tsum_cons]
        omega

/-- In order, in normal form, and each weighs something. -/
def Canon (M : List Ed) : Prop := Up M ∧ ∀ x ∈ M, x.1 < x.2.1 ∧ x.2.2 ≠ 0
theorem kw_up {x : Ed} : ∀ {M : List Ed}, (∀ y ∈ M, ltK x y) → kw x.1 x.2.1 M = 0
  | [], _ => rfl
  | y :: M, h => by
    have hy := h y (by simp)
    show kf _ _ y + kw _ _ M = 0
    rw [kw_up fun z hz => h z (by simp [hz]), show kf x.1 x.2.1 y = 0 from if_neg (by unfold ltK at hy; omega)]; rfl
theorem kw_head {x : Ed} {M : List Ed} (h : ∀ y ∈ M, ltK x y) : kw x.1 x.2.1 (x :: M) = x.2.2 := by
  show kf _ _ x + kw _ _ M = _
  rw [kw_up h, show kf x.1 x.2.1 x = x.2.2 from if_pos ⟨rfl, rfl⟩]; omega
theorem canon_one : ∀ {M N : List Ed}, Canon M → Canon N → (∀ u v, u < v → kw u v M = kw u v N) → M = N
  | [], [], _, _, _ => rfl
  | [], y :: N, _, hN, h => by
    obtain ⟨h1, h2⟩ := hN.2 y (by simp)
    have := h _ _ h1
    rw [kw_head fun z hz => List.rel_of_pairwise_cons hN.1 hz] at this
    exact absurd this.symm h2
  | x :: M, [], hM, _, h => by
    obtain ⟨h1, h2⟩ := hM.2 x (by simp)
    have := h _ _ h1
    rw [kw_head fun z hz => List.rel_of_pairwise_cons hM.1 hz] at this
    exact absurd this h2
  | x :: M, y :: N, hM, hN, h => by
    have hx : ∀ z ∈ M, ltK x z := fun z hz => List.rel_of_pairwise_cons hM.1 hz
    have hy : ∀ z ∈ N, ltK y z := fun z hz => List.rel_of_pairwise_cons hN.1 hz
    obtain ⟨x1, x2⟩ := hM.2 x (by simp)
    obtain ⟨y1, y2⟩ := hN.2 y (by simp)
    have c1 : ¬ ltK x y := fun c => by
      have := h _ _ x1
      rw [kw_head hx, kw_up fun z hz => by
        rcases List.mem_cons.1 hz with rfl | hz
        · exact c
        · have := hy z hz; unfold ltK at *; omega] at this
      exact x2 this
    have c2 : ¬ ltK y x := fun c => by
      have := h _ _ y1
      rw [kw_head hy, kw_up fun z hz => by
        rcases List.mem_cons.1 hz with rfl | hz
        · exact c
        · have := hx z hz; unfold ltK at *; omega] at this
      exact y2 this.symm
    have e1 : x.1 = y.1 := by unfold ltK at c1 c2; omega
    have e2 : x.2.1 = y.2.1 := by unfold ltK at c1 c2; omega
    have e3 := h _ _ x1
    rw [kw_head hx, e1, e2, kw_head hy] at e3
    have e : x = y := Prod.ext e1 (Prod.ext e2 e3)
    subst e
    rw [canon_one (M := M) (N := N) ⟨hM.1.of_cons, fun z hz => hM.2 z (by simp [hz])⟩ ⟨hN.1.of_cons, fun z hz => hN.2 z (by simp [hz])⟩ fun u v huv => ?_]
    have := h u v huv
    simp only [kw, tsum_cons] at this ⊢; omega

/-- What edges come to. -/
structure Merged (l M : List Ed) : Prop where
  canon : Canon M
  good : good M
  sum : wsum M ≤ wsum l
  kw : ∀ u v, u < v → kw u v M = kw u v (l.map normE)
theorem merged {l : List Ed} (hg : good l) (hs : wsum l ≤ 9223372036854775807) : ∃ P, mergeP l = some P ∧ Merged l (sortEd (P.filter nz)) := by
  obtain ⟨P, h1, h2, h3, h4, h5⟩ := fold_all l [] (fun x hx => by cases hx) hg (fun x hx => by cases hx) (by simpa [wsum, tsum] using hs)
  refine ⟨P, h1, ?_⟩
  rcases merge_both l with ⟨g, _⟩ | ⟨P', S, g, gS, p, up⟩
  · rw [show mergeP l = some P from h1] at g; cases g
  rw [show mergeP l = some P from h1] at g
  obtain rfl := Option.some.inj g
  rw [sort_filter p up]
  have mem : ∀ x ∈ S.filter nz, x ∈ P ∧ x.2.2 ≠ 0 := fun x hx => by
    obtain ⟨a, b⟩ := List.mem_filter.1 hx
    exact ⟨p.mem_iff.2 a, by simpa [nz] using b⟩
  refine ⟨⟨up.filter nz, fun x hx => ⟨h3 x (mem x hx).1, (mem x hx).2⟩⟩, fun x hx => h2 x (mem x hx).1, ?_, fun u v huv => ?_⟩
  · rw [show wsum (S.filter nz) = wsum P from (tsum_filter wf_ (fun x hx => hx) S).trans (tsum_perm _ p).symm]
    simpa [wsum, tsum] using h4
  · rw [show kw u v (S.filter nz) = kw u v P from (tsum_filter (kf u v) (fun x hx => by unfold kf; split <;> simp [hx]) S).trans (tsum_perm _ p).symm, h5 u v huv]
    simp [kw, tsum]
end Go.Proofs.YtbhndlpjfncliaaGreat
