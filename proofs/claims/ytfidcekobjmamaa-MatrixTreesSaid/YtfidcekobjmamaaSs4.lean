/-
  Stable sorting: symMerge merges.
-/
import Derived.Test.YtfidcekobjmamaaSs3
namespace Go.Proofs.Ytfidcekobjmamaa
set_option linter.unusedVariables false
set_option linter.unusedSimpArgs false
set_option linter.unnecessarySimpa false
open Go.Hp Go.RowKit
attribute [local irreducible] Go.Hp.iteB Go.Hp.stC Go.Hp.newP

section plain
variable {key : Nat → Int} {P A B T : List Nat}
abbrev all4 (P A B T : List Nat) : List Nat := P ++ (A ++ (B ++ T))
theorem get_A {t : Nat} (h : t < A.length) : (all4 P A B T).getD (P.length + t) 0 = A.getD t 0 := by
  simp only [List.getD, all4]
  rw [List.getElem?_append_right (by omega), List.getElem?_append_left (by omega)]
  congr 2; omega
theorem get_B {t : Nat} (h : t < B.length) : (all4 P A B T).getD (P.length + A.length + t) 0 = B.getD t 0 := by
  simp only [List.getD, all4]
  rw [List.getElem?_append_right (by omega), List.getElem?_append_right (by omega), List.getElem?_append_left (by omega)]
  congr 2; omega
theorem up_get {l : List Nat} (h : l.Pairwise (leK key)) {t u : Nat} (h1 : t ≤ u) (h2 : u < l.length) : key (l.getD t 0) ≤ key (l.getD u 0) := by
  rcases Nat.lt_or_ge t u with c | c
  · have := List.pairwise_iff_getElem.1 h t u (by omega) h2 c
    rw [leK_iff] at this
    simp only [List.getD, List.getElem?_eq_getElem (show t < l.length by omega), List.getElem?_eq_getElem h2, Option.getD_some]
    omega
  · have : t = u := by omega
    subst this; exact Int.le_refl _
theorem gA (h : A.Pairwise (leK key)) {t u : Nat} (h0 : P.length ≤ t) (h1 : t ≤ u) (h2 : u < P.length + A.length) : key ((all4 P A B T).getD t 0) ≤ key ((all4 P A B T).getD u 0) := by
  obtain ⟨t, rfl⟩ := Nat.exists_eq_add_of_le h0
  obtain ⟨u, rfl⟩ := Nat.exists_eq_add_of_le (Nat.le_trans h0 h1)
  rw [get_A (by omega), get_A (by omega)]
  exact up_get h (by omega) (by omega)
theorem gB (h : B.Pairwise (leK key)) {t u : Nat} (h0 : P.length + A.length ≤ t) (h1 : t ≤ u) (h2 : u < P.length + A.length + B.length) : key ((all4 P A B T).getD t 0) ≤ key ((all4 P A B T).getD u 0) := by
  obtain ⟨t, rfl⟩ := Nat.exists_eq_add_of_le h0
  obtain ⟨u, rfl⟩ := Nat.exists_eq_add_of_le (Nat.le_trans h0 h1)
  rw [get_B (by omega), get_B (by omega)]
  exact up_get h (by omega) (by omega)
theorem mem_takeA {k x : Nat} (h : x ∈ A.take k) : ∃ t, P.length ≤ t ∧ t < P.length + k ∧ t < P.length + A.length ∧ (all4 P A B T).getD t 0 = x := by
  obtain ⟨i, hi, rfl⟩ := List.getElem_of_mem h
  simp only [List.length_take] at hi
  refine ⟨P.length + i, by omega, by omega, by omega, ?_⟩
  rw [get_A (by omega), List.getElem_take]
  simp [List.getD, show i < A.length by omega]
theorem mem_dropA {k x : Nat} (h : x ∈ A.drop k) : ∃ t, P.length + k ≤ t ∧ t < P.length + A.length ∧ (all4 P A B T).getD t 0 = x := by
  obtain ⟨i, hi, rfl⟩ := List.getElem_of_mem h
  simp only [List.length_drop] at hi
  refine ⟨P.length + (k + i), by omega, by omega, ?_⟩
  rw [get_A (by omega), List.getElem_drop]
  simp [List.getD, show k + i < A.length by omega]
theorem mem_takeB {k x : Nat} (h : x ∈ B.take k) : ∃ t, P.length + A.length ≤ t ∧ t < P.length + A.length + k ∧ t < P.length + A.length + B.length ∧ (all4 P A B T).getD t 0 = x := by
  obtain ⟨i, hi, rfl⟩ := List.getElem_of_mem h
  simp only [List.length_take] at hi
  refine ⟨P.length + A.length + i, by omega, by omega, by omega, ?_⟩
  rw [get_B (by omega), List.getElem_take]
  simp [List.getD, show i < B.length by omega]
theorem mem_dropB {k x : Nat} (h : x ∈ B.drop k) : ∃ t, P.length + A.length + k ≤ t ∧ t < P.length + A.length + B.length ∧ (all4 P A B T).getD t 0 = x := by
  obtain ⟨i, hi, rfl⟩ := List.getElem_of_mem h
  simp only [List.length_drop] at hi
  refine ⟨P.length + A.length + (k + i), by omega, by omega, ?_⟩
  rw [get_B (by omega), List.getElem_drop]
  simp [List.getD, show k + i < B.length by omega]

/-- One put among others. -/
theorem one_left {x : Nat} {B1 B2 : List Nat} (hB : (B1 ++ B2).Pairwise (leK key)) (h1 : ∀ y ∈ B1, leK key y x) (h2 : ∀ y ∈ B2, leK key x y) : srt key ([x] ++ (B1 ++ B2)) = B1 ++ x :: B2 := by
  have hB' := List.pairwise_append.1 hB
  refine srt_one ?_ (List.pairwise_append.2 ⟨hB'.1, List.pairwise_cons.2 ⟨h2, hB'.2.1⟩, ?_⟩)
  · simpa using List.perm_middle.symm
  · intro u hu v hv
    rcases List.mem_cons.1 hv with rfl | hv
    · exact h1 u hu
    · exact hB'.2.2 u hu v hv
theorem split_le {A1 A2 B1 B2 : List Nat} (hA : (A1 ++ A2).Pairwise (leK key)) (hB : (B1 ++ B2).Pairwise (leK key)) (h1 : ∀ x ∈ A1, ∀ y ∈ B2, leK key x y) (h2 : ∀ y ∈ B1, ∀ x ∈ A2, leK key y x) : srt key (A1 ++ B1) ++ srt key (A2 ++ B2) = srt key (A1 ++ A2 ++ (B1 ++ B2)) := by
  refine srt_app ?_ ?_
  · simp only [List.append_assoc]
    exact List.Perm.append_left _ perm_flip
  · intro x hx y hy
    rcases List.mem_append.1 hx with hx | hx <;> rcases List.mem_append.1 hy with hy | hy
    · exact (List.pairwise_append.1 hA).2.2 x hx y hy
    · exact h1 x hx y hy
    · exact h2 x hx y hy
    · exact (List.pairwise_append.1 hB).2.2 x hx y hy
theorem srt_noop {A1 B1 : List Nat} (hA : A1.Pairwise (leK key)) (hB : B1.Pairwise (leK key)) (h : A1 = [] ∨ B1 = []) : srt key (A1 ++ B1) = A1 ++ B1 := by
  rcases h with rfl | rfl
  · simpa using srt_id hB
  · simpa using srt_id hA
end plain

section
variable {key : Nat → Int} {ok : Nat → Prop} {h0 : Base} {b c n : Nat} {R : Rws} {z : List Value} {cp : Addr}

theorem maybe_rot {h : Heap} {Kt : Heap → Prop} {P U V S : List Nat} {a2 m2 b2 : Int} (hn2 : n < 2 ^ 40) (hl : (P ++ (U ++ (V ++ S))).length = n) (ha : a2 = (P.length : Int)) (hm : m2 = ((P.length + U.length : Nat) : Int)) (hb : b2 = ((P.length + U.length + V.length : Nat) : Int))
    (s : St h0 h ((b, natV (P ++ (U ++ (V ++ S))) ++ z) :: R)) (hk : ∀ h', St h0 h' ((b, natV (P ++ (V ++ (U ++ S))) ++ z) :: R) → Kt h') :
    iteB (decide (a2 < m2)) (iteB (decide (m2 < b2)) (callP0 (slices_rotateCmpFunc_int_tree_Order_c1 (some ⟨b, 0, none⟩) n c a2 m2 b2 cp h) fun h27 => Kt h27) (Kt h)) (Kt h) := by
  refine iteB_intro (fun e => iteB_intro (fun e2 => ?_) (fun e2 => hk h ?_)) (fun e => hk h ?_)
  · have e : a2 < m2 := by simpa using e
    have e2 : m2 < b2 := by simpa using e2
    exact callP0.self (rotate_of hn2 hl (by omega) (by omega) ha hm hb s hk)
  · have e2 : b2 ≤ m2 := by simpa using e2
    obtain rfl := List.length_eq_zero_iff.1 (show V.length = 0 by omega)
    simpa using s
  · have e : m2 ≤ a2 := by simpa using e
    obtain rfl := List.length_eq_zero_iff.1 (show U.length = 0 by omega)
    simpa using s

def SymAt (key : Nat → Int) (ok : Nat → Prop) (h0 : Base) (b c n : Nat) (R : Rws) (z : List Value) (cp : Addr) (P A B T : List Nat) : Prop :=
  ∀ (h : Heap) (K : Heap → Prop), 0 < A.length → 0 < B.length → A.Pairwise (leK key) → B.Pairwise (leK key) → (∀ x ∈ A, ∀ y ∈ B, x < y) → (∀ x ∈ all4 P A B T, ok x) → (all4 P A B T).length = n →
    (∀ h', St h0 h' ((b, natV (P ++ (srt key (A ++ B) ++ T)) ++ z) :: R) → K h') → St h0 h ((b, natV (all4 P A B T) ++ z) :: R) →
    slices_symMergeCmpFunc_int_tree_Order_c1 (some ⟨b, 0, none⟩) n c (P.length : Int) ((P.length + A.length : Nat) : Int) ((P.length + A.length + B.length : Nat) : Int) cp h K

theorem maybe_rec {h : Heap} {Kt : Heap → Prop} {P A B T : List Nat} {a2 m2 b2 : Int} (ih : SymAt key ok h0 b c n R z cp P A B T) (hA : A.Pairwise (leK key)) (hB : B.Pairwise (leK key)) (hid : ∀ x ∈ A, ∀ y ∈ B, x < y) (hok : ∀ x ∈ all4 P A B T, ok x) (hl : (all4 P A B T).length = n)
    (ha : a2 = (P.length : Int)) (hm : m2 = ((P.length + A.length : Nat) : Int)) (hb : b2 = ((P.length + A.length + B.length : Nat) : Int))
    (s : St h0 h ((b, natV (all4 P A B T) ++ z) :: R)) (hk : ∀ h', St h0 h' ((b, natV (P ++ (srt key (A ++ B) ++ T)) ++ z) :: R) → Kt h') :
    iteB (decide (a2 < m2)) (iteB (decide (m2 < b2)) (callP0 (slices_symMergeCmpFunc_int_tree_Order_c1_rec (some ⟨b, 0, none⟩) n c a2 m2 b2 cp h) fun h36 => Kt h36) (Kt h)) (Kt h) := by
  refine iteB_intro (fun e => iteB_intro (fun e2 => ?_) (fun e2 => hk h ?_)) (fun e => hk h ?_)
  · have e : a2 < m2 := by simpa using e
    have e2 : m2 < b2 := by simpa using e2
    subst ha hm hb
    refine callP0.self fun w hw => ?_
    exact slices_symMergeCmpFunc_int_tree_Order_c1.calls (ih h Kt (by omega) (by omega) hA hB hid hok hl hk s) w hw
  · have e2 : b2 ≤ m2 := by simpa using e2
    obtain rfl := List.length_eq_zero_iff.1 (show B.length = 0 by omega)
    rw [srt_noop hA hB (.inr rfl)]; simpa [all4] using s
  · have e : m2 ≤ a2 := by simpa using e
    obtain rfl := List.length_eq_zero_iff.1 (show A.length = 0 by omega)
    rw [srt_noop hA hB (.inl rfl)]; simpa [all4] using s
end
end Go.Proofs.Ytfidcekobjmamaa
