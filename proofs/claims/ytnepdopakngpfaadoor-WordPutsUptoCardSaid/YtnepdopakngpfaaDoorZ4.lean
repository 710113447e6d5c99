/-
  Texts: strings.IndexAny of a blank and a newline, over any string.
-/
import Derived.Test.YtnepdopakngpfaaDoorZ3
import Derived.Shelf.Strings.IndexAnyAll
namespace Go.Proofs.YtnepdopakngpfaaDoor
set_option linter.unusedVariables false
set_option linter.unusedSimpArgs false
open Go.Proofs Go.Shelf Go.RowKit Go.Lib
theorem indexAny_sign (chars : List UInt8) (pb : UInt8 → Bool) (hp : ∀ b, chars.contains b = pb b) : ∀ l : List UInt8, decide (0 ≤ Lib.indexAny l chars) = l.any pb
  | [] => rfl
  | b :: l => by
    have ih := indexAny_sign chars pb hp l
    have hg := Lib.indexAny_ge chars l
    unfold Lib.indexAny
    rw [List.any_cons, ← ih, hp b]
    cases c : pb b
    · simp only [Bool.false_eq_true, if_false, Bool.false_or]
      by_cases e : Lib.indexAny l chars = -1
      · simp [e]
      · have e2 : (Lib.indexAny l chars == -1) = false := by simpa using e
        rw [e2, if_neg (by decide)]
        rw [decide_eq_true (by omega), decide_eq_true (by omega)]
    · simp
theorem iany_all (s : ByteArray) (hs : s.size < 4294967281) (w : World) :
    Calls Tryd.prog 71 #[.string s, .string ⟨#[32, 10]⟩] w fun e w' => ∃ n : Int, e = .returned (.int .i64 n) ∧ decide (0 ≤ n) = s.data.toList.any spB ∧ Below w.heap.size w w' := by
  by_cases h8 : s.size ≤ 8
  · refine (iany_short s h8 w).mono ?_
    rintro e w' ⟨rfl, hb⟩
    exact ⟨_, rfl, idx_sp s, hb⟩
  · refine (Tryd.strings_IndexAny_long (zero_of_info (n := 256) (by kernel_rfl)).1 s ⟨#[32, 10]⟩ w (by decide) (by omega) hs (by decide) ?_).mono ?_
    · intro j b hj
      have : b = 32 ∨ b = 10 := by
        have : b ∈ ([32, 10] : List UInt8) := List.mem_of_getElem? hj
        simpa using this
      rcases this with rfl | rfl <;> decide
    · rintro e w' ⟨rfl, rfl⟩
      refine ⟨_, rfl, indexAny_sign [32, 10] spB (fun b => by unfold spB; cases h1 : (b == 32) <;> cases h2 : (b == 10) <;> simp_all) s.data.toList, ((Below.refl _ w).alloc (Nat.le_refl _) _).alloc ?_ _⟩
      show w.heap.size ≤ (w.heap.push _).size
      rw [Array.size_push]; omega
end Go.Proofs.YtnepdopakngpfaaDoor
