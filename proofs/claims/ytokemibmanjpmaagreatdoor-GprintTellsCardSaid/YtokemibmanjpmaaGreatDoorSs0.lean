/-
  Stable sorting, the plain part: lists in one order.
-/
import Derived.Test.YtokemibmanjpmaaGreatDoorWk
namespace Go.Hp
set_option linter.unusedVariables false
set_option linter.unusedSimpArgs false
set_option linter.unnecessarySimpa false

section
variable (key : Nat → Int)
/-- By keys; of one key the lower one first. -/
def ltK (x y : Nat) : Prop := key x < key y ∨ (key x = key y ∧ x < y)
instance (x y : Nat) : Decidable (ltK key x y) := inferInstanceAs (Decidable (_ ∨ _))
def leK (x y : Nat) : Prop := ¬ ltK key y x
def srt (l : List Nat) : List Nat := l.mergeSort fun x y => !decide (ltK key y x)
variable {key}
theorem leK_iff {x y : Nat} : leK key x y ↔ key x < key y ∨ (key x = key y ∧ x ≤ y) := by unfold leK ltK; omega
theorem leK_trans {x y z : Nat} (h : leK key x y) (k : leK key y z) : leK key x z := by rw [leK_iff] at *; omega
theorem leK_of_lt {x y : Nat} (h : ltK key x y) : leK key x y := by unfold ltK at h; rw [leK_iff]; omega
theorem leK_antisymm {x y : Nat} (h : leK key x y) (k : leK key y x) : x = y := by rw [leK_iff] at *; omega
theorem leK_total (x y : Nat) : leK key x y ∨ leK key y x := by rw [leK_iff, leK_iff]; omega
theorem srt_perm (l : List Nat) : (srt key l).Perm l := List.mergeSort_perm ..
theorem srt_len (l : List Nat) : (srt key l).length = l.length := List.length_mergeSort ..
theorem srt_up (l : List Nat) : (srt key l).Pairwise (leK key) := by
  have := List.pairwise_mergeSort (le := fun x y => !decide (ltK key y x)) (fun a b c h1 h2 => by
    have h1 : leK key a b := by unfold leK; simpa using h1
    have h2 : leK key b c := by unfold leK; simpa using h2
    have h3 := leK_trans h1 h2
    unfold leK at h3; simpa using h3) (fun a b => by
    rcases leK_total (key := key) a b with h | h
    · have : decide (ltK key b a) = false := decide_eq_false h
      simp [this]
    · have : decide (ltK key a b) = false := decide_eq_false h
      simp [this]) l
  exact this.imp fun h => by unfold leK; simpa using h
theorem srt_one {l m : List Nat} (p : l.Perm m) (hm : m.Pairwise (leK key)) : srt key l = m :=
  List.Perm.eq_of_pairwise (le := leK key) (fun a b _ _ h1 h2 => leK_antisymm h1 h2) (srt_up l) hm ((srt_perm l).trans p)
theorem srt_id {l : List Nat} (h : l.Pairwise (leK key)) : srt key l = l := srt_one (List.Perm.refl _) h
theorem srt_congr {l m : List Nat} (p : l.Perm m) : srt key l = srt key m := srt_one (p.trans (srt_perm m).symm) (srt_up m)
theorem mem_srt {l : List Nat} {x : Nat} : x ∈ srt key l ↔ x ∈ l := (srt_perm l).mem_iff
/-- Two groups of which one comes ahead. -/
theorem srt_app {G1 G2 l : List Nat} (p : (G1 ++ G2).Perm l) (h : ∀ x ∈ G1, ∀ y ∈ G2, leK key x y) : srt key G1 ++ srt key G2 = srt key l := by
  refine (srt_one (((srt_perm G1).append (srt_perm G2)).trans p).symm ?_).symm
  exact List.pairwise_append.2 ⟨srt_up _, srt_up _, fun x hx y hy => h x (mem_srt.1 hx) y (mem_srt.1 hy)⟩
end

/-- Numbers in a row. -/
def natV (l : List Nat) : List Value := l.map fun v : Nat => Value.int .i64 (v : Int)
theorem natV_len (l : List Nat) : (natV l).length = l.length := by simp [natV]
theorem nv_get {l : List Nat} {z : List Value} {i x : Nat} (h : l[i]? = some x) : (natV l ++ z)[i]? = some (.int .i64 (x : Int)) := by
  have := (List.getElem?_eq_some_iff.1 h).1
  rw [List.getElem?_append_left (by rw [natV_len]; exact this)]; simp [natV, h]
theorem nv_set {l : List Nat} {z : List Value} {i x : Nat} (h : i < l.length) : (natV l ++ z).set i (.int .i64 (x : Int)) = natV (l.set i x) ++ z := by
  rw [List.set_append_left _ _ (by rw [natV_len]; exact h)]; simp [natV, List.map_set]
theorem lget_at {α : Type} {A B : List α} {x : α} {i : Nat} (h : A.length = i) : (A ++ x :: B)[i]? = some x := by subst h; simp
theorem lset_at {α : Type} {A B : List α} {x y : α} {i : Nat} (h : A.length = i) : (A ++ x :: B).set i y = A ++ y :: B := by subst h; simp
end Go.Hp
