/-
  Texts: put together and cut apart.
-/
import Derived.Test.YtnepdopakngpfaaDoorW9
namespace Go.Proofs.YtnepdopakngpfaaDoor
set_option linter.unusedVariables false
set_option linter.unusedSimpArgs false
set_option linter.unnecessarySimpa false
open Go.Proofs Go.Shelf Go.RowKit Go.Hp
theorem tailJ_app : ∀ (r : List (List UInt8)) (a b : List UInt8), tailJ (a ++ b) r = a ++ tailJ b r
  | [], a, b => rfl
  | x :: r, a, b => by
    show tailJ (a ++ b ++ [32] ++ x) r = a ++ tailJ (b ++ [32] ++ x) r
    rw [← tailJ_app r]; simp
theorem joinB_two (x y : List UInt8) (r : List (List UInt8)) : joinB (x :: y :: r) = x ++ 32 :: joinB (y :: r) := by
  show tailJ (x ++ [32] ++ y) r = x ++ 32 :: tailJ y r
  rw [tailJ_app]; simp
theorem segA_word {c : UInt8} : ∀ {x a l : List UInt8}, c ∉ x → segA c a (x ++ c :: l) = (a ++ x) :: segA c [] l
  | [], a, l, h => by simp [segA_cons]
  | b :: x, a, l, h => by
    simp at h
    rw [List.cons_append, segA_cons, if_neg (fun e => h.1 e.symm), segA_word h.2]; simp
theorem segA_last {c : UInt8} : ∀ {x a : List UInt8}, c ∉ x → segA c a x = [a ++ x]
  | [], a, h => by simp [segA]
  | b :: x, a, h => by
    simp at h
    rw [segA_cons, if_neg (fun e => h.1 e.symm), segA_last h.2]; simp
theorem segA_some (c : UInt8) : ∀ (l a : List UInt8), ∃ y r, segA c a l = y :: r
  | [], a => ⟨a, [], rfl⟩
  | b :: l, a => by
    rw [segA_cons]
    split
    · exact ⟨_, _, rfl⟩
    · exact segA_some c l _
theorem segs_join : ∀ {ls : List (List UInt8)}, ls ≠ [] → (∀ x ∈ ls, (32 : UInt8) ∉ x) → segA 32 [] (joinB ls) = ls
  | [], h, _ => absurd rfl h
  | [x], _, h => by
    show segA 32 [] (tailJ x []) = [x]
    exact segA_last (h x (by simp))
  | x :: y :: r, _, h => by
    rw [joinB_two, segA_word (h x (by simp)), segs_join (by simp) (fun z hz => h z (by simp at hz ⊢; exact .inr hz))]; rfl
theorem join_segs : ∀ (l a : List UInt8), joinB (segA 32 a l) = a ++ l
  | [], a => by simp [segA, joinB, tailJ]
  | b :: l, a => by
    rw [segA_cons]
    split
    · rename_i e
      subst e
      obtain ⟨y, r, hy⟩ := segA_some 32 l []
      rw [hy, joinB_two, ← hy, join_segs l []]; rfl
    · rw [join_segs l]; simp
theorem join_mem {b : UInt8} : ∀ {ls : List (List UInt8)}, b ∈ joinB ls → b = 32 ∨ ∃ x ∈ ls, b ∈ x
  | [], h => by cases h
  | [x], h => .inr ⟨x, by simp, h⟩
  | x :: y :: r, h => by
    rw [joinB_two] at h
    rcases List.mem_append.1 h with h | h
    · exact .inr ⟨x, by simp, h⟩
    · rcases List.mem_cons.1 h with h | h
      · exact .inl h
      · rcases join_mem h with h | ⟨z, hz, h⟩
        · exact .inl h
        · exact .inr ⟨z, by simp at hz ⊢; exact .inr hz, h⟩
theorem wd_no {x : List UInt8} (h : wdB x = true) : x ≠ [] ∧ (32 : UInt8) ∉ x ∧ (10 : UInt8) ∉ x := by
  unfold wdB at h
  simp only [Bool.and_eq_true, Bool.not_eq_true', decide_eq_false_iff_not] at h
  have h2 := List.any_eq_false.1 h.2
  exact ⟨h.1, fun hm => h2 32 hm rfl, fun hm => h2 10 hm rfl⟩
/-- Words of a line that was put together. -/
theorem words_line {ls : List (List UInt8)} (h : ls.all wdB = true) : wsB (joinB ls) = true ∧ wsL (joinB ls) = ls := by
  have hw := List.all_eq_true.1 h
  cases ls with
  | nil => exact ⟨rfl, rfl⟩
  | cons x r =>
    have hs := segs_join (ls := x :: r) (by simp) fun y hy => (wd_no (hw y hy)).2.1
    have hne : joinB (x :: r) ≠ [] := fun e => by
      rw [e] at hs
      have hx := (wd_no (hw x (by simp))).1
      have : [[]] = x :: r := hs
      injection this with h1 h2
      exact hx h1.symm
    have := ws_yes hne (by rw [hs]; exact h)
    rw [hs] at this
    exact this
theorem lines_line {ls : List (List UInt8)} (h : ls.all wdB = true) : lnB (joinB ls ++ [10] ++ joinB ls ++ [10]) = true ∧ lnL (joinB ls ++ [10] ++ joinB ls ++ [10]) = [joinB ls, joinB ls] := by
  have hw := List.all_eq_true.1 h
  have hn : (10 : UInt8) ∉ joinB ls := fun hm => by
    rcases join_mem hm with e | ⟨x, hx, hb⟩
    · exact absurd e (by decide)
    · exact (wd_no (hw x hx)).2.2 hb
  refine ln_yes ?_
  have e : joinB ls ++ [10] ++ joinB ls ++ [10] = joinB ls ++ 10 :: (joinB ls ++ 10 :: []) := by simp
  rw [e, segA_word hn, segA_word hn]; rfl
/-- Cut apart and put together again. -/
theorem line_words {L : List UInt8} (h : wsB L = true) : lineL (wsL L) = L ∧ (wsL L).all wdB = true := by
  unfold wsB at h
  by_cases c : L = []
  · subst c; exact ⟨rfl, rfl⟩
  · have h2 : (segA 32 [] L).all wdB = true := by simpa [c] using h
    obtain ⟨_, e⟩ := ws_yes c h2
    rw [e]
    refine ⟨?_, h2⟩
    unfold lineL
    rw [if_pos h2, join_segs]; rfl
theorem ws_bad {L : List UInt8} (h : wsB L = false) : wsL L = [] := by
  unfold wsB at h
  unfold wsL
  simp at h
  rw [if_neg h.1, if_neg (by
    intro hh
    obtain ⟨x, hx, hb⟩ := h.2
    have := List.all_eq_true.1 hh x hx
    rw [hb] at this; cases this)]
theorem sumL_join : ∀ (ls : List (List UInt8)), (joinB ls).length ≤ sumL ls + ls.length
  | [] => by simp [joinB]
  | [x] => by rw [sumL_cons]; show x.length ≤ _; omega
  | x :: y :: r => by
    have := sumL_join (y :: r)
    rw [joinB_two, sumL_cons]
    simp at this ⊢
    omega
theorem str_app (a b : List UInt8) : str a ++ str b = str (a ++ b) := by
  apply ByteArray.ext
  show (str a ++ str b).data = _
  rw [ByteArray.data_append]
  simp [str]
end Go.Proofs.YtnepdopakngpfaaDoor
