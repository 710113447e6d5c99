/-
  Words, plainly.
-/
import Derived.Test.YtmejnpadgbdhaaaGreatDoorE3
import Derived.Test.YtmejnpadgbdhaaaGreatDoorZ4
namespace Go.Proofs.YtmejnpadgbdhaaaGreatDoor
set_option linter.unusedVariables false
set_option linter.unusedSimpArgs false
set_option linter.unnecessarySimpa false
open Go.Proofs Go.Shelf Go.RowKit Go.Hp
/-- Is it a word? -/
def wdB (l : List UInt8) : Bool := !(decide (l = [])) && !(l.any spB)
def lineL (ls : List (List UInt8)) : List UInt8 := if ls.all wdB = true then joinB ls else []
theorem segA_lens (c : UInt8) (n : Nat) : ∀ (l acc : List UInt8), acc.length + l.length ≤ n → (∀ x ∈ segA c acc l, x.length ≤ n) ∧ (segA c acc l).length ≤ l.length + 1
  | [], acc, h => by simp [segA] at *; omega
  | b :: l, acc, h => by
    rw [segA_cons]
    simp at h
    by_cases e : b = c
    · rw [if_pos e]
      obtain ⟨h1, h2⟩ := segA_lens c n l [] (by simp; omega)
      refine ⟨fun x hx => ?_, by simp; omega⟩
      rcases List.mem_cons.1 hx with rfl | hx
      · omega
      · exact h1 x hx
    · rw [if_neg e]
      obtain ⟨h1, h2⟩ := segA_lens c n l (acc ++ [b]) (by simp; omega)
      exact ⟨h1, by simp; omega⟩
def wsB (L : List UInt8) : Bool := decide (L = []) || (segA 32 [] L).all wdB
def wsL (L : List UInt8) : List (List UInt8) := if L = [] then [] else if (segA 32 [] L).all wdB = true then segA 32 [] L else []
theorem ws_nil : wsB [] = true ∧ wsL [] = [] := ⟨rfl, rfl⟩
theorem ws_no {L : List UInt8} (h1 : L ≠ []) (h2 : (segA 32 [] L).all wdB = false) : wsB L = false ∧ wsL L = [] := by
  unfold wsB wsL; rw [h2, if_neg h1]; simp [h1]
theorem ws_yes {L : List UInt8} (h1 : L ≠ []) (h2 : (segA 32 [] L).all wdB = true) : wsB L = true ∧ wsL L = segA 32 [] L := by
  unfold wsB wsL; rw [h2, if_neg h1]; simp
theorem wsL_len (L : List UInt8) : (wsL L).length ≤ L.length + 1 := by
  have := (segA_lens 32 L.length L [] (by simp)).2
  unfold wsL
  split
  · simp
  · split
    · exact this
    · simp
theorem wd_no {x : List UInt8} (h : wdB x = true) : x ≠ [] ∧ (32 : UInt8) ∉ x ∧ (10 : UInt8) ∉ x := by
  unfold wdB at h
  simp only [Bool.and_eq_true, Bool.not_eq_true', decide_eq_false_iff_not] at h
  have h2 := List.any_eq_false.1 h.2
  exact ⟨h.1, fun hm => h2 32 hm rfl, fun hm => h2 10 hm rfl⟩
/-- Words of a line that was put together. -/
theorem words_line {ls : List (List UInt8)} (h : ls.all wdB = true) : wsB (joinB ls) = true ∧ wsL (joinB ls) = ls := by
  have hw := List.all_eq_true.1 h
  cases ls with
  | nil => exact ⟨rfl, rfl⟩
  | cons x r =>
    have hs := segs_join (ls := x :: r) (by simp) fun y hy => (wd_no (hw y hy)).2.1
    have hne : joinB (x :: r) ≠ [] := fun e => by
      rw [e] at hs
      have hx := (wd_no (hw x (by simp))).1
      have : [[]] = x :: r := hs
      injection this with h1 h2
      exact hx h1.symm
    have := ws_yes hne (by rw [hs]; exact h)
    rw [hs] at this
    exact this
/-- Cut apart and put together again. -/
theorem line_words {L : List UInt8} (h : wsB L = true) : lineL (wsL L) = L ∧ (wsL L).all wdB = true := by
  unfold wsB at h
  by_cases c : L = []
  · subst c; exact ⟨rfl, rfl⟩
  · have h2 : (segA 32 [] L).all wdB = true := by simpa [c] using h
    obtain ⟨_, e⟩ := ws_yes c h2
    rw [e]
    refine ⟨?_, h2⟩
    unfold lineL
    rw [if_pos h2, join_segs]; rfl
theorem ws_bad {L : List UInt8} (h : wsB L = false) : wsL L = [] := by
  unfold wsB at h
  unfold wsL
  simp at h
  rw [if_neg h.1, if_neg (by
    intro hh
    obtain ⟨x, hx, hb⟩ := h.2
    have := List.all_eq_true.1 hh x hx
    rw [hb] at this; cases this)]
theorem sum_join : ∀ (ls : List (List UInt8)), sumL ls ≤ (joinB ls).length
  | [] => by simp [sumL]
  | [x] => by simp [sumL, joinB, tailJ]
  | x :: y :: r => by
    have := sum_join (y :: r)
    rw [joinB_two, sumL_cons]
    simp; omega
theorem sum_ws (L : List UInt8) : sumL (wsL L) ≤ L.length := by
  unfold wsL
  split
  · simp [sumL]
  · split
    · have := sum_join (segA 32 [] L)
      rw [join_segs] at this
      simpa using this
    · simp [sumL]
end Go.Proofs.YtmejnpadgbdhaaaGreatDoor
