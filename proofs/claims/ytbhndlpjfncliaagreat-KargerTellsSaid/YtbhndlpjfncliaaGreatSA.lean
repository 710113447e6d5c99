/-
  Sides: the edges that cross, in plain words.
-/
import Derived.Test.YtbhndlpjfncliaaGreatEE
import Derived.Test.YtbhndlpjfncliaaGreatS3
namespace Go.Proofs.YtbhndlpjfncliaaGreat
open Go.Hp Go.RowKit
set_option linter.unusedVariables false
set_option linter.unusedSimpArgs false

/-- An edge and its number. -/
abbrev IE := Nat × Ed
def IE.enc (x : IE) : Array Value := #[.int .i64 (x.1 : Int), .agg #[.int .i64 x.2.1, .int .i64 x.2.2.1, .int .i64 x.2.2.2]]
/-- The edges that cross, with their numbers. -/
def crs (p : Int → Bool) : Nat → List Ed → List IE
  | _, [] => []
  | i, e :: r => if (p e.1 != p e.2.1) = true then (i, e) :: crs p (i + 1) r else crs p (i + 1) r
theorem crs_snoc (p : Int → Bool) (e : Ed) : ∀ (l : List Ed) (i : Nat), crs p i (l ++ [e]) = crs p i l ++ (if (p e.1 != p e.2.1) = true then [(i + l.length, e)] else [])
  | [], i => by simp [crs]
  | x :: l, i => by
    rw [List.cons_append]
    unfold crs
    rw [crs_snoc p e l (i + 1), show i + 1 + l.length = i + (x :: l).length by simp; omega]
    split <;> simp
theorem crs_len (p : Int → Bool) : ∀ (l : List Ed) (i : Nat), (crs p i l).length ≤ l.length
  | [], i => by simp [crs]
  | x :: l, i => by
    unfold crs
    have := crs_len p l (i + 1)
    split <;> simp <;> omega
theorem crs_take (p : Int → Bool) {l : List Ed} {i : Nat} {e : Ed} (h : l[i]? = some e) : crs p 0 (l.take (i + 1)) = crs p 0 (l.take i) ++ (if (p e.1 != p e.2.1) = true then [(i, e)] else []) := by
  rw [take_snoc h, crs_snoc]
  have : i < l.length := (List.getElem?_eq_some_iff.1 h).1
  rw [List.length_take, Nat.min_eq_left (by omega), Nat.zero_add]

theorem crs_mem (p : Int → Bool) : ∀ {l : List Ed} {i : Nat} {x : IE}, x ∈ crs p i l → i ≤ x.1 ∧ l[x.1 - i]? = some x.2 ∧ p x.2.1 ≠ p x.2.2.1
  | e :: r, i, x, hx => by
    unfold crs at hx
    split at hx
    · rename_i c
      rcases List.mem_cons.1 hx with rfl | hx
      · exact ⟨Nat.le_refl _, by simp, by simpa using c⟩
      · obtain ⟨a, b, c⟩ := crs_mem p hx
        refine ⟨by omega, ?_, c⟩
        rw [show x.1 - i = (x.1 - (i + 1)) + 1 by omega, List.getElem?_cons_succ]; exact b
    · obtain ⟨a, b, c⟩ := crs_mem p hx
      refine ⟨by omega, ?_, c⟩
      rw [show x.1 - i = (x.1 - (i + 1)) + 1 by omega, List.getElem?_cons_succ]; exact b
theorem crs_congr {p p' : Int → Bool} : ∀ {l : List Ed} {i : Nat}, (∀ e ∈ l, p e.1 = p' e.1 ∧ p e.2.1 = p' e.2.1) → crs p i l = crs p' i l
  | [], _, _ => rfl
  | e :: r, i, h => by
    have h1 := h e (by simp)
    unfold crs
    rw [h1.1, h1.2, crs_congr (l := r) fun x hx => h x (by simp [hx])]
/-- What they weigh, as it is reckoned. -/
def sumX (l : List IE) : Int := l.foldl (fun s x => IntKind.i64.wrap (s + x.2.2.2)) 0
theorem sumX_snoc (l : List IE) (x : IE) : sumX (l ++ [x]) = IntKind.i64.wrap (sumX l + x.2.2.2) := by unfold sumX; rw [List.foldl_append]; rfl
end Go.Proofs.YtbhndlpjfncliaaGreat
