/-
  Trees: the least edge of a way, the program's and the document's: the plain law.
-/
import Derived.Test.YtfidcekobjmamaaT15
namespace Go.Proofs.Ytfidcekobjmamaa
set_option linter.unusedVariables false
set_option linter.unusedSimpArgs false
set_option linter.unnecessarySimpa false
open Go.Hp Go.RowKit

/-- The least of some by weight, then by number. -/
def IsMin (S : Nat → Prop) (W : Nat → Int) (o : Nat × Bool) : Prop :=
  (o.2 = false → o.1 = 0 ∧ ∀ x, ¬ S x) ∧ (o.2 = true → S o.1 ∧ ∀ x, S x → W o.1 < W x ∨ (W o.1 = W x ∧ o.1 ≤ x))
theorem IsMin.uniq {S : Nat → Prop} {W : Nat → Int} {o o' : Nat × Bool} (h : IsMin S W o) (h' : IsMin S W o') : o = o' := by
  obtain ⟨a, b⟩ := o
  obtain ⟨a', b'⟩ := o'
  obtain ⟨h1, h2⟩ := h
  obtain ⟨g1, g2⟩ := h'
  cases b <;> cases b'
  · rw [show a = 0 from (h1 rfl).1, show a' = 0 from (g1 rfl).1]
  · exact absurd (g2 rfl).1 ((h1 rfl).2 _)
  · exact absurd (h2 rfl).1 ((g1 rfl).2 _)
  · have q1 := (h2 rfl).2 _ (g2 rfl).1
    have q2 := (g2 rfl).2 _ (h2 rfl).1
    have : a = a' := by simp only at q1 q2; omega
    rw [this]
theorem IsMin.congr {S S' : Nat → Prop} {W : Nat → Int} {o : Nat × Bool} (h : IsMin S W o) (e : ∀ x, S x ↔ S' x) : IsMin S' W o := by
  have : S = S' := funext fun x => propext (e x)
  rw [← this]; exact h
/-- One more. -/
theorem IsMin.more {S : Nat → Prop} {W : Nat → Int} {o : Nat × Bool} {z : Nat} (h : IsMin S W o) :
    IsMin (fun x => S x ∨ x = z) W (if !o.2 || decide (W z < W o.1) || (W z == W o.1 && decide (z < o.1)) then (z, true) else o) := by
  obtain ⟨a, b⟩ := o
  obtain ⟨h1, h2⟩ := h
  cases b with
  | false =>
    simp only [Bool.not_false, Bool.true_or, if_true]
    refine ⟨fun h => by simp at h, fun _ => ⟨.inr rfl, fun x hx => ?_⟩⟩
    rcases hx with hx | rfl
    · exact absurd hx ((h1 rfl).2 x)
    · exact .inr ⟨rfl, Nat.le_refl _⟩
  | true =>
    obtain ⟨h3, h4⟩ := h2 rfl
    simp only at h3 h4
    by_cases c : W z < W a ∨ (W z = W a ∧ z < a)
    · rw [if_pos (by simp; exact c)]
      refine ⟨fun h => by simp at h, fun _ => ⟨.inr rfl, fun x hx => ?_⟩⟩
      rcases hx with hx | rfl
      · have := h4 x hx
        simp only
        omega
      · exact .inr ⟨rfl, Nat.le_refl _⟩
    · rw [if_neg (by simp; omega)]
      refine ⟨fun h => by simp at h, fun _ => ⟨.inl h3, fun x hx => ?_⟩⟩
      rcases hx with hx | rfl
      · exact h4 x hx
      · simp only; omega

section
variable {n : Nat} {up w : List Int}
theorem leastF_min (U W : Nat → Int) (p : List Nat) : IsMin (fun z => ∃ i, i < p.length ∧ topAt U p i = false ∧ p.getD i 0 = z) W (leastF U W p) := by
  have key : ∀ k, k ≤ p.length → IsMin (fun z => ∃ i, i < k ∧ topAt U p i = false ∧ p.getD i 0 = z) W ((List.range k).foldl (stepL U W p) (0, false)) := by
    intro k
    induction k with
    | zero => exact fun _ => ⟨fun _ => ⟨rfl, fun x => by rintro ⟨i, h, _⟩; omega⟩, fun h => by simp at h⟩
    | succ k ih =>
      intro hk
      have ih := ih (by omega)
      rw [List.range_succ, List.foldl_append, List.foldl_cons, List.foldl_nil]
      generalize (List.range k).foldl (stepL U W p) (0, false) = o at ih
      unfold stepL
      cases ht : topAt U p k with
      | true =>
        rw [if_pos rfl]
        refine ih.congr fun x => ⟨fun ⟨i, h1, h2⟩ => ⟨i, by omega, h2⟩, fun ⟨i, h1, h2, h3⟩ => ⟨i, ?_, h2, h3⟩⟩
        have : i ≠ k := by rintro rfl; rw [ht] at h2; exact absurd h2 (by decide)
        omega
      | false =>
        rw [if_neg (by decide)]
        refine ih.more.congr fun x => ⟨fun h => ?_, fun ⟨i, h1, h2, h3⟩ => ?_⟩
        · rcases h with ⟨i, h1, h2⟩ | rfl
          · exact ⟨i, by omega, h2⟩
          · exact ⟨k, by omega, ht, rfl⟩
        · rcases Nat.lt_or_ge i k with h | h
          · exact .inl ⟨i, h, h2, h3⟩
          · have : i = k := by omega
            subst this; exact .inr h3.symm
  exact key p.length (Nat.le_refl _)
theorem leastD_min (W : Nat → Int) (x y : Nat) : IsMin (fun z => z < n ∧ isB up z x ≠ isB up z y) W (leastD up W n x y) := by
  unfold leastD
  induction n with
  | zero => exact ⟨fun _ => ⟨rfl, fun x => by rintro ⟨h, _⟩; omega⟩, fun h => by simp at h⟩
  | succ k ih =>
    rw [List.range_succ, List.foldl_append, List.foldl_cons, List.foldl_nil]
    generalize (List.range k).foldl (stepD up W x y) (0, false) = o at ih
    unfold stepD
    by_cases c : isB up k x = isB up k y
    · rw [if_pos (by simp [c])]
      refine ih.congr fun z => ⟨fun ⟨h1, h2⟩ => ⟨by omega, h2⟩, fun ⟨h1, h2⟩ => ⟨?_, h2⟩⟩
      have : z ≠ k := by rintro rfl; exact h2 c
      omega
    · rw [if_neg (by simp [c])]
      have e : (if !o.2 || decide (W k < W o.1) then ((k, true) : Nat × Bool) else o) = if !o.2 || decide (W k < W o.1) || (W k == W o.1 && decide (k < o.1)) then (k, true) else o := by
        by_cases co : o.2 = true
        · have := (ih.2 co).1.1
          rw [decide_eq_false (show ¬ k < o.1 by omega), Bool.and_false, Bool.or_false]
        · have : o.2 = false := by simpa using co
          simp [this]
      rw [e]
      refine ih.more.congr fun z => ⟨fun h => ?_, fun ⟨h1, h2⟩ => ?_⟩
      · rcases h with ⟨h1, h2⟩ | rfl
        · exact ⟨by omega, h2⟩
        · exact ⟨by omega, c⟩
      · rcases Nat.lt_or_ge z k with h | h
        · exact .inl ⟨h, h2⟩
        · exact .inr (by omega)

theorem ways_head {U : Nat → Int} {d v : Nat} (h : hasD U n d v) : (ways U n v)[0]? = some v := by
  cases d with
  | zero => rw [ways_root h]; rfl
  | succ d => obtain ⟨_, f, hf, _⟩ := id h; rw [ways_cons h hf]; rfl
theorem ways_chain {U : Nat → Int} : ∀ {d v i a b : Nat}, hasD U n d v → (ways U n v)[i]? = some a → (ways U n v)[i + 1]? = some b → U a = (b : Int)
  | 0, v, i, a, b, h, _, h2 => by rw [ways_root h] at h2; simp at h2
  | d + 1, v, i, a, b, h, h1, h2 => by
    obtain ⟨_, f, hf, hd⟩ := id h
    rw [ways_cons h hf] at h1 h2
    cases i with
    | zero =>
      have h2 : (ways U n f)[0]? = some b := by simpa using h2
      rw [ways_head hd] at h2
      have e1 : v = a := by simpa using h1
      have e2 : f = b := by simpa using h2
      subst e1 e2; exact hf
    | succ i => exact ways_chain hd (by simpa using h1) (by simpa using h2)
theorem no_two (r : RightT up w) {a b : Nat} (ha : a < up.length) (h1 : UU up a = (b : Int)) (h2 : UU up b = (a : Int)) : False := by
  obtain ⟨d, hd⟩ := rt_deep r ha
  obtain ⟨e, he, hb⟩ := hd.up h1
  obtain ⟨f, hf, ha'⟩ := hb.up h2
  have := hd.uniq ha'
  omega

theorem Meets.tops (r : RightT up w) {x y : Nat} (hx : x < up.length) (hy : y < up.length) {a1 b1 : List Nat} {top : Nat} (M : Meets (ways (UU up) up.length x) (ways (UU up) up.length y) a1 top b1) {i z : Nat} (hi : (a1 ++ [top] ++ b1.reverse)[i]? = some z) :
    topAt (UU up) (a1 ++ [top] ++ b1.reverse) i = decide (i = a1.length) := by
  obtain ⟨⟨rr, e1, e2⟩, na, nb⟩ := M
  obtain ⟨dx, hdx⟩ := rt_deep r hx
  obtain ⟨dy, hdy⟩ := rt_deep r hy
  obtain ⟨p, hp⟩ : ∃ p, p = a1 ++ [top] ++ b1.reverse := ⟨_, rfl⟩
  have hl : p.length = a1.length + 1 + b1.length := by rw [hp]; simp; omega
  rw [← hp] at hi ⊢
  have A : ∀ i, i ≤ a1.length → p[i]? = (ways (UU up) up.length x)[i]? := by
    intro i hi
    rw [hp, e1, List.append_assoc]
    rcases Nat.lt_or_ge i a1.length with h | h
    · rw [List.getElem?_append_left h, List.getElem?_append_left h]
    · have : i = a1.length := by omega
      subst this
      rw [List.getElem?_append_right (Nat.le_refl _), List.getElem?_append_right (Nat.le_refl _), Nat.sub_self]; rfl
  have hr : p.reverse = b1 ++ top :: a1.reverse := by rw [hp]; simp
  have B : ∀ i, a1.length ≤ i → i < p.length → p[i]? = (ways (UU up) up.length y)[p.length - 1 - i]? := by
    intro i h1 h2
    have e : p[i]? = p.reverse[p.length - 1 - i]? := by
      rw [List.getElem?_reverse (by omega)]
      congr 1; omega
    rw [e, hr, e2]
    rcases Nat.lt_or_ge (p.length - 1 - i) b1.length with h | h
    · rw [List.getElem?_append_left h, List.getElem?_append_left h]
    · have : p.length - 1 - i = b1.length := by omega
      rw [this, List.getElem?_append_right (Nat.le_refl _), List.getElem?_append_right (Nat.le_refl _), Nat.sub_self]; rfl
  have up1 : ∀ i z z', i < a1.length → p[i]? = some z → p[i + 1]? = some z' → UU up z = (z' : Int) := fun i z z' h h1 h2 => ways_chain hdx (by rw [← A i (by omega)]; exact h1) (by rw [← A (i + 1) (by omega)]; exact h2)
  have dn1 : ∀ i z z', a1.length ≤ i → p[i]? = some z → p[i + 1]? = some z' → UU up z' = (z : Int) := fun i z z' h h1 h2 => by
    have hlt := (List.getElem?_eq_some_iff.1 h2).1
    rw [B (i + 1) (by omega) hlt] at h2
    rw [B i h (by omega), show p.length - 1 - i = p.length - 1 - (i + 1) + 1 by omega] at h1
    exact ways_chain hdy h2 h1
  have inn : ∀ i z, p[i]? = some z → z < up.length := fun i z h => by
    have hlt := (List.getElem?_eq_some_iff.1 h).1
    rcases Nat.lt_or_ge i a1.length with h2 | h2
    · rw [A i (by omega)] at h; exact ways_lt (List.mem_of_getElem? h)
    · rw [B i h2 hlt] at h; exact ways_lt (List.mem_of_getElem? h)
  have gd : ∀ {i z : Nat}, p[i]? = some z → p.getD i 0 = z := fun h => by rw [List.getD_eq_getElem?_getD, h]; rfl
  have hil := (List.getElem?_eq_some_iff.1 hi).1
  unfold topAt
  rw [gd hi]
  rcases Nat.lt_trichotomy i a1.length with h | h | h
  · obtain ⟨z', hz'⟩ := get_lt (l := p) (i := i + 1) (by omega)
    rw [decide_eq_false (by omega), gd hz']
    have c1 : (i + 1 == p.length) = false := by simp; omega
    have c2 : (UU up z' == (z : Int)) = false := by
      simp only [beq_eq_false_iff_ne, ne_eq]
      exact fun e => no_two r (inn i z hi) (up1 i z z' h hi hz') e
    rw [c1, c2]; simp
  · rw [decide_eq_true h]
    have c1 : (i == 0 || UU up (p.getD (i - 1) 0) == (z : Int)) = true := by
      cases i with
      | zero => rfl
      | succ i =>
        obtain ⟨z', hz'⟩ := get_lt (l := p) (i := i) (by omega)
        rw [Nat.add_sub_cancel, gd hz', up1 i z' z (by omega) hz' hi]; simp
    have c2 : (i + 1 == p.length || UU up (p.getD (i + 1) 0) == (z : Int)) = true := by
      by_cases c : i + 1 = p.length
      · simp [c]
      · obtain ⟨z', hz'⟩ := get_lt (l := p) (i := i + 1) (by omega)
        rw [gd hz', dn1 i z z' (by omega) hi hz']; simp
    rw [c1, c2]; rfl
  · rw [decide_eq_false (by omega)]
    cases i with
    | zero => omega
    | succ i =>
      obtain ⟨z', hz'⟩ := get_lt (l := p) (i := i) (by omega)
      rw [Nat.add_sub_cancel, gd hz']
      have c2 : (UU up z' == (z : Int)) = false := by
        simp only [beq_eq_false_iff_ne, ne_eq]
        exact fun e => no_two r (inn _ z hi) (dn1 i z' z (by omega) hz' hi) e
      rw [c2]; simp

theorem Meets.differ {x y : Nat} {a1 b1 : List Nat} {top : Nat} (M : Meets (ways (UU up) up.length x) (ways (UU up) up.length y) a1 top b1) (z : Nat) : isB up z x ≠ isB up z y ↔ z ∈ a1 ∨ z ∈ b1 := by
  obtain ⟨⟨rr, e1, e2⟩, na, nb⟩ := M
  unfold isB
  have m1 : z ∈ ways (UU up) up.length x ↔ z ∈ a1 ∨ z ∈ top :: rr := by rw [e1]; simp
  have m2 : z ∈ ways (UU up) up.length y ↔ z ∈ b1 ∨ z ∈ top :: rr := by rw [e2]; simp
  have n1 := na z
  have n2 := nb z
  rw [ne_eq, decide_eq_decide]
  constructor
  · intro h
    by_cases c1 : z ∈ a1
    · exact .inl c1
    · by_cases c2 : z ∈ b1
      · exact .inr c2
      · exact absurd (m1.trans ((or_congr (iff_of_false c1 c2) Iff.rfl).trans m2.symm)) h
  · rintro (h | h) hh
    · exact n1 h (hh.1 (m1.2 (.inl h)))
    · exact n2 h (hh.2 (m2.2 (.inl h)))

theorem least_same (r : RightT up w) {W : Nat → Int} {x y : Nat} (hx : x < up.length) (hy : y < up.length) {a1 b1 : List Nat} {top : Nat} (M : Meets (ways (UU up) up.length x) (ways (UU up) up.length y) a1 top b1) :
    leastF (UU up) W (a1 ++ [top] ++ b1.reverse) = leastD up W up.length x y := by
  refine (leastF_min (UU up) W (a1 ++ [top] ++ b1.reverse)).uniq ((leastD_min (n := up.length) (up := up) W x y).congr fun z => ?_)
  rw [M.differ z]
  have T := fun {i z} => M.tops r hx hy (i := i) (z := z)
  have na := M.na
  constructor
  · rintro ⟨hz, h | h⟩
    · obtain ⟨i, hi, e⟩ := List.getElem_of_mem h
      have g : (a1 ++ [top] ++ b1.reverse)[i]? = some z := by
        rw [List.append_assoc, List.getElem?_append_left hi, List.getElem?_eq_getElem hi, e]
      refine ⟨i, by simp; omega, ?_, by rw [List.getD_eq_getElem?_getD, g]; rfl⟩
      rw [T g]; exact decide_eq_false (by omega)
    · obtain ⟨i, hi, e⟩ := List.getElem_of_mem (List.mem_reverse.2 h)
      have g : (a1 ++ [top] ++ b1.reverse)[a1.length + 1 + i]? = some z := by
        rw [List.getElem?_append_right (by simp)]
        rw [show a1.length + 1 + i - (a1 ++ [top]).length = i by simp, List.getElem?_eq_getElem hi, e]
      refine ⟨a1.length + 1 + i, by simp at hi ⊢; omega, ?_, by rw [List.getD_eq_getElem?_getD, g]; rfl⟩
      rw [T g]; exact decide_eq_false (by omega)
  · rintro ⟨i, hi, ht, hz⟩
    obtain ⟨z', g⟩ := get_lt hi
    have : z' = z := by rw [← hz, List.getD_eq_getElem?_getD, g]; rfl
    subst this
    rw [T g] at ht
    have hne : i ≠ a1.length := by simpa using ht
    have hm : z' ∈ a1 ∨ z' ∈ b1 := by
      rcases Nat.lt_or_ge i a1.length with h | h
      · rw [List.append_assoc, List.getElem?_append_left h] at g
        exact .inl (List.mem_of_getElem? g)
      · rw [List.getElem?_append_right (by simp; omega)] at g
        exact .inr (List.mem_reverse.1 (List.mem_of_getElem? g))
    refine ⟨?_, hm⟩
    obtain ⟨⟨rr, e1, e2⟩, _, _⟩ := M
    rcases hm with h | h
    · exact ways_lt (by rw [e1]; simp [h])
    · exact ways_lt (by rw [e2]; simp [h])
end
end Go.Proofs.Ytfidcekobjmamaa
