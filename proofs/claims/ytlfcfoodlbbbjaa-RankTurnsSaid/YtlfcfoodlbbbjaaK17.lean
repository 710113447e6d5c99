/-
  Ranks: the inverse of the inverse, in plain words.
-/
import Derived.Test.YtlfcfoodlbbbjaaK15
namespace Go.Proofs.Ytlfcfoodlbbbjaa
set_option linter.unusedVariables false
set_option linter.unusedSimpArgs false
set_option linter.unnecessarySimpa false
open Go.Hp Go.RowKit

def invL (p : List Int) : List Int := (List.range p.length).map (invF p p.length)
theorem invL_len (p : List Int) : (invL p).length = p.length := by simp [invL]
theorem invL_row {p : List Int} {n : Nat} (h : p.length = n) : ints n (invF p n) = (invL p).map (Value.int .i64) := by subst h; exact ints_vals _ _
theorem idx_get {p : List Int} (hd : p.Nodup) {i : Nat} {x : Int} (h : p[i]? = some x) : p.idxOf x = i := by
  obtain ⟨hi, rfl⟩ := List.getElem?_eq_some_iff.1 h
  exact hd.idxOf_getElem i hi
theorem IsOrd.at {p : List Int} (ho : IsOrd p) {x : Nat} (hx : x < p.length) : ∃ i, i < p.length ∧ p[i]? = some (x : Int) ∧ (invL p)[x]? = some (i : Int) := by
  obtain ⟨i, hi⟩ := List.mem_iff_getElem?.1 (ho.all hx)
  refine ⟨i, lt_get hi, hi, ?_⟩
  unfold invL invF
  rw [List.getElem?_map, List.getElem?_range hx, List.take_of_length_le (Nat.le_refl _), Option.map_some, if_pos (ho.all hx), idx_get ho.2 hi]
theorem IsOrd.at2 {p : List Int} (ho : IsOrd p) {i : Nat} (hi : i < p.length) : ∃ x : Nat, x < p.length ∧ p[i]? = some (x : Int) ∧ (invL p)[x]? = some (i : Int) := by
  obtain ⟨v, hv⟩ := get_lt hi
  obtain ⟨h1, h2⟩ := ho.1 v (List.mem_of_getElem? hv)
  obtain ⟨x, rfl⟩ := Int.eq_ofNat_of_zero_le h1
  obtain ⟨j, hj, e1, e2⟩ := ho.at (x := x) (by omega)
  have : j = i := by rw [← idx_get ho.2 e1, idx_get ho.2 hv]
  subst this
  exact ⟨x, by omega, hv, e2⟩
theorem invL_ord {p : List Int} (ho : IsOrd p) : IsOrd (invL p) := by
  refine ⟨fun v hv => ?_, ?_⟩
  · obtain ⟨x, hx⟩ := List.mem_iff_getElem?.1 hv
    have hxl := lt_get hx
    rw [invL_len] at hxl
    obtain ⟨i, hi, e1, e2⟩ := ho.at hxl
    rw [e2] at hx; cases hx
    rw [invL_len]; omega
  · refine List.pairwise_iff_getElem.2 fun a b ha hb hab e => ?_
    rw [invL_len] at ha hb
    obtain ⟨i, hi, e1, e2⟩ := ho.at ha
    obtain ⟨j, hj, e3, e4⟩ := ho.at hb
    have g1 : (invL p)[a] = (i : Int) := by rw [List.getElem?_eq_getElem (by rw [invL_len]; omega)] at e2; exact Option.some.inj e2
    have g2 : (invL p)[b] = (j : Int) := by rw [List.getElem?_eq_getElem (by rw [invL_len]; omega)] at e4; exact Option.some.inj e4
    rw [g1, g2] at e
    have : i = j := by omega
    subst this
    rw [e1] at e3
    have := Option.some.inj e3
    omega
theorem invL_inv {p : List Int} (ho : IsOrd p) : invL (invL p) = p := by
  apply List.ext_getElem?
  intro i
  by_cases hi : i < p.length
  · obtain ⟨x, hx, e1, e2⟩ := ho.at2 hi
    obtain ⟨j, hj, e3, e4⟩ := (invL_ord ho).at (x := i) (by rw [invL_len]; exact hi)
    rw [e4, e1]
    have : j = x := by rw [← idx_get (invL_ord ho).2 e3, idx_get (invL_ord ho).2 e2]
    rw [this]
  · rw [List.getElem?_eq_none (by rw [invL_len, invL_len]; omega), List.getElem?_eq_none (by omega)]
theorem app_inv {p : List Int} (ho : IsOrd p) : appL (invL p) (appL p p) = p := by
  apply List.ext_getElem?
  intro x
  by_cases hx : x < p.length
  · obtain ⟨i, hi, e1, e2⟩ := ho.at hx
    unfold appL
    rw [List.getElem?_map, e2, Option.map_some]
    simp [List.getD, List.getElem?_map, e1, hx]
  · rw [List.getElem?_eq_none (by rw [appL_len, invL_len]; omega), List.getElem?_eq_none (by omega)]
end Go.Proofs.Ytlfcfoodlbbbjaa
