/-
  Floats in order: the plain laws: a list has one order; how many are unlike.
-/
import Derived.Test.YtcmbgiekffgcoaaO5
namespace Go.Proofs.Ytcmbgiekffgcoaa
set_option linter.unusedVariables false
set_option linter.unusedSimpArgs false
open Go.Hp Go.RowKit

abbrev upF (a b : Nat) : Prop := pl a ≤ pl b
theorem sortF_up (l : List Nat) : (sortF l).Pairwise upF := by
  have := List.pairwise_mergeSort (le := fun x y => !decide (pl y < pl x)) (fun a b c h1 h2 => by simp at *; omega) (fun a b => by simp; omega) l
  exact this.imp fun h => by simpa using h
theorem sortF_perm (l : List Nat) : (sortF l).Perm l := List.mergeSort_perm ..
theorem sorted_perm (l : List Nat) : (sorted l).Perm (l.map canon) := sortF_perm _
theorem sorted_up (l : List Nat) : (sorted l).Pairwise upF := sortF_up _
/-- Two lists in order that have the same are the same. -/
theorem one_order {f : Nat → Nat} {l m : List Nat} (hb : Bnd l) (hf : ∀ x ∈ l, f x = x) (hi : ∀ x y, x < 18446744073709551616 → y < 18446744073709551616 → pl x = pl y → f x = f y) (hl : l.Pairwise upF) (hm : m.Pairwise upF) (p : l.Perm m) : l = m :=
  List.Perm.eq_of_pairwise (le := upF) (fun a b ha hb' h1 h2 => by
    have hb' := p.mem_iff.2 hb'
    rw [← hf a ha, ← hf b hb']; exact hi a b (hb a ha) (hb b hb') (by omega)) hl hm p

theorem insL_perm (x : Nat) (o : List Nat) : (insL x o).Perm (bitsR x :: o) := by
  unfold insL
  rw [List.append_assoc, List.singleton_append]
  refine List.perm_middle.trans ?_
  rw [List.take_append_drop]
theorem insL_up {x : Nat} {o : List Nat} (h : o.Pairwise upF) : (insL x o).Pairwise upF := by
  unfold insL
  have ht : ∀ a ∈ o.take (insK x o), pl a ≤ pl x := fun a ha => by
    obtain ⟨i, hi, rfl⟩ := List.getElem_of_mem ha
    have hi2 : i < insK x o := by simp at hi; omega
    have := List.not_of_lt_findIdx (p := fun y => decide (pl x < pl y)) (xs := o) hi2
    rw [List.getElem_take]
    simpa using this
  have hd : ∀ a ∈ o.drop (insK x o), pl x ≤ pl a := fun a ha => by
    have hk : insK x o < o.length := by
      rcases Nat.lt_or_ge (insK x o) o.length with h | h
      · exact h
      · rw [List.drop_of_length_le h] at ha; simp at ha
    have h1 : pl x < pl o[insK x o] := by
      have := List.findIdx_getElem (p := fun y => decide (pl x < pl y)) (xs := o) (w := hk)
      exact of_decide_eq_true this
    obtain ⟨j, hj, rfl⟩ := List.getElem_of_mem ha
    rw [List.getElem_drop]
    have hj2 : insK x o + j < o.length := by simp at hj; omega
    rcases Nat.eq_zero_or_pos j with rfl | hj0
    · simp only [Nat.add_zero]; omega
    · have := List.pairwise_iff_getElem.1 h (insK x o) (insK x o + j) hk (by simp at hj; omega) (by omega)
      have : pl o[insK x o] ≤ pl o[insK x o + j] := this
      omega
  rw [List.append_assoc]
  refine List.pairwise_append.2 ⟨h.sublist (List.take_sublist _ _), ?_, ?_⟩
  · refine List.pairwise_append.2 ⟨List.pairwise_singleton _ _, h.sublist (List.drop_sublist _ _), ?_⟩
    intro a ha b hb
    simp only [List.mem_singleton] at ha
    subst ha
    show pl _ ≤ pl b
    rw [pl_bits]; exact hd b hb
  · intro a ha b hb
    rcases List.mem_append.1 hb with hb | hb
    · simp only [List.mem_singleton] at hb
      subst hb
      show pl a ≤ pl _
      rw [pl_bits]; exact ht a ha
    · have := ht a ha; have := hd b hb
      show pl a ≤ pl b; omega
theorem rsort_up (l : List Nat) : ∀ i, (rsort l i).Pairwise upF
  | 0 => List.Pairwise.nil
  | i + 1 => insL_up (rsort_up l i)
theorem rsort_perm {l : List Nat} : ∀ i, i ≤ l.length → (rsort l i).Perm ((l.take i).map bitsR)
  | 0, _ => List.Perm.refl _
  | i + 1, hi => by
    have ih := rsort_perm (l := l) i (by omega)
    obtain ⟨y, hy⟩ := get_lt (l := l) (i := i) (by omega)
    rw [rsort, getD_of hy, take_snoc hy, List.map_append]
    exact (insL_perm y _).trans ((ih.cons _).trans (List.perm_append_singleton _ _).symm)
theorem bits_bits (b : Nat) : bitsR (bitsR b) = bitsR b := by
  unfold bitsR; split
  · rw [if_pos kind_bits0]
  · rfl
/-- The program's order is the document's. -/
theorem same_order {l : List Nat} (hb : Bnd l) : (sorted l).map bitsR = rsort l l.length := by
  have hr := rsort_perm (l := l) l.length (Nat.le_refl _)
  rw [List.take_of_length_le (Nat.le_refl _)] at hr
  refine (one_order (f := bitsR) (rsort_bnd hb l.length (Nat.le_refl _)) ?_ (fun x y hx hy h => bits_inj hx hy h) (rsort_up l _) ?_ ?_).symm
  · intro x hx
    obtain ⟨y, _, rfl⟩ := List.mem_map.1 (hr.mem_iff.1 hx)
    exact bits_bits y
  · refine List.pairwise_map.2 ((sorted_up l).imp fun {a b} h => ?_)
    show pl _ ≤ pl _
    rw [pl_bits, pl_bits]; exact h
  · have h2 := (sorted_perm l).map bitsR
    rw [List.map_map, show bitsR ∘ canon = bitsR from funext bits_canon] at h2
    exact hr.trans h2.symm
/-- What is in order stays. -/
theorem sorted_sorted {l : List Nat} (hb : Bnd l) : sorted (sorted l) = sorted l := by
  have hc : (sorted l).map canon = sorted l := by
    conv => rhs; rw [← List.map_id (sorted l)]
    refine List.map_congr_left fun x hx => ?_
    obtain ⟨y, _, rfl⟩ := List.mem_map.1 ((sorted_perm l).mem_iff.1 hx)
    exact canon_canon y
  show sortF ((sorted l).map canon) = sorted l
  rw [hc]
  exact List.mergeSort_of_pairwise ((sorted_up l).imp fun h => by simpa using h)

/-! ### How many are unlike -/
theorem heads_mem {l : List Int} {x : Int} : ∀ {n : Nat}, n ≤ l.length → (x ∈ heads l n ↔ x ∈ l.take n)
  | 0, _ => by simp [heads]
  | n + 1, h => by
    have ih := heads_mem (l := l) (x := x) (n := n) (by omega)
    obtain ⟨y, hy⟩ := get_lt (l := l) (i := n) (by omega)
    have ey : l.getD n 0 = y := by simp [List.getD, hy]
    unfold heads
    rw [take_snoc hy, ey]
    split
    · rename_i hm
      rw [ih]; simp only [List.mem_append, List.mem_singleton]
      exact ⟨.inl, fun h => h.elim id fun e => e ▸ hm⟩
    · simp only [List.mem_append, List.mem_singleton, ih]
theorem heads_nodup {l : List Int} : ∀ {n : Nat}, n ≤ l.length → (heads l n).Nodup
  | 0, _ => List.nodup_nil
  | n + 1, h => by
    have ih := heads_nodup (l := l) (n := n) (by omega)
    unfold heads
    split
    · exact ih
    · rename_i hm
      refine List.nodup_append.2 ⟨ih, by simp, ?_⟩
      intro a ha b hb e
      simp only [List.mem_singleton] at hb
      subst hb; subst e
      exact hm ((heads_mem (by omega)).1 ha)
theorem runs_mem {l : List Int} {x : Int} : ∀ {n : Nat}, n ≤ l.length → (x ∈ runs l n ↔ x ∈ l.take n)
  | 0, _ => by simp [runs]
  | n + 1, h => by
    have ih := runs_mem (l := l) (x := x) (n := n) (by omega)
    obtain ⟨y, hy⟩ := get_lt (l := l) (i := n) (by omega)
    have ey : l.getD n 0 = y := by simp [List.getD, hy]
    unfold runs
    rw [take_snoc hy, ey]
    split
    · rename_i hm
      obtain ⟨z, hz⟩ := get_lt (l := l) (i := n - 1) (by omega)
      have ez : l.getD (n - 1) 0 = z := by simp [List.getD, hz]
      have hyz : y = z := by rw [hm.2, ez]
      have hmem : y ∈ l.take n := by
        rw [hyz]; refine List.mem_of_getElem? (i := n - 1) ?_
        rw [List.getElem?_take, if_pos (by omega)]; exact hz
      rw [ih]; simp only [List.mem_append, List.mem_singleton]
      exact ⟨.inl, fun h => h.elim id fun e => e ▸ hmem⟩
    · simp only [List.mem_append, List.mem_singleton, ih]
theorem runs_nodup {l : List Int} (hl : l.Pairwise (· ≤ ·)) : ∀ {n : Nat}, n ≤ l.length → (runs l n).Nodup
  | 0, _ => List.nodup_nil
  | n + 1, h => by
    have ih := runs_nodup hl (n := n) (by omega)
    obtain ⟨y, hy⟩ := get_lt (l := l) (i := n) (by omega)
    have ey : l.getD n 0 = y := by simp [List.getD, hy]
    unfold runs
    rw [ey]
    split
    · exact ih
    · rename_i hm
      refine List.nodup_append.2 ⟨ih, by simp, ?_⟩
      intro a ha b hb e
      simp only [List.mem_singleton] at hb
      subst hb; subst e
      have hmem := (runs_mem (by omega)).1 ha
      obtain ⟨i, hi, he⟩ := List.getElem_of_mem hmem
      have hi2 : i < n := by simp at hi; omega
      rw [List.getElem_take] at he
      obtain ⟨z, hz⟩ := get_lt (l := l) (i := n - 1) (by omega)
      have ez : l.getD (n - 1) 0 = z := by simp [List.getD, hz]
      rw [ez] at hm
      have hz' : l[n - 1]'(by omega) = z := (List.getElem?_eq_some_iff.1 hz).2
      have hy' : l[n]'(by omega) = a := (List.getElem?_eq_some_iff.1 hy).2
      have h1 : l[n - 1]'(by omega) ≤ l[n]'(by omega) := List.pairwise_iff_getElem.1 hl (n - 1) n (by omega) (by omega) (by omega)
      have h2 : l[i]'(by omega) ≤ l[n - 1]'(by omega) := by
        rcases Nat.lt_or_ge i (n - 1) with h | h
        · exact List.pairwise_iff_getElem.1 hl i (n - 1) (by omega) (by omega) h
        · have : i = n - 1 := by omega
          subst this; exact Int.le_refl _
      rw [hy', hz'] at h1
      rw [he, hz'] at h2
      exact hm ⟨by omega, by omega⟩
theorem same_count {l : List Nat} : (runs ((sorted l).map pl) l.length).length = (heads (l.map pl) l.length).length := by
  have hl : ((sorted l).map pl).length = l.length := by simp [sorted_len]
  refine ((List.perm_ext_iff_of_nodup (runs_nodup ?_ (by omega)) (heads_nodup (by simp))).2 fun x => ?_).length_eq
  · exact List.pairwise_map.2 (sorted_up l)
  · rw [runs_mem (by omega), heads_mem (by simp), List.take_of_length_le (by omega), List.take_of_length_le (by simp)]
    have h2 := (sorted_perm l).map pl
    rw [List.map_map, show pl ∘ canon = pl from funext pl_canon] at h2
    exact h2.mem_iff
end Go.Proofs.Ytcmbgiekffgcoaa
