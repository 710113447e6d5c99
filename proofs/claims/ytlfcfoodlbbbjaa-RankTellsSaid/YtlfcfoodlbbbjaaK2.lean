/-
  Ranks: the order of keys, the document's: the plain part: who is next.
-/
import Derived.Test.YtlfcfoodlbbbjaaK1
namespace Go.Proofs.Ytlfcfoodlbbbjaa
set_option linter.unusedVariables false
set_option linter.unusedSimpArgs false
set_option linter.unnecessarySimpa false
open Go.Hp Go.RowKit

theorem byL_perm (l : List Int) : (byL l).Perm (List.range l.length) := srt_perm _
theorem byL_nodup (l : List Int) : (byL l).Nodup := (byL_perm l).nodup_iff.2 List.nodup_range
theorem byL_mem (l : List Int) (x : Nat) : x ∈ byL l ↔ x < l.length := by rw [(byL_perm l).mem_iff, List.mem_range]
theorem byL_up (l : List Int) : (byL l).Pairwise (leK (keyI l)) := srt_up _
/-- The least one that has not come is the next. -/
theorem byL_next {l : List Int} {m x : Nat} (hm : m < l.length) (hx : x < l.length) (hn : x ∉ (byL l).take m) (hle : ∀ y, y < l.length → y ∉ (byL l).take m → leK (keyI l) x y) : (byL l)[m]? = some x := by
  obtain ⟨z, hz⟩ := get_lt (l := byL l) (i := m) (by rw [byL_len]; exact hm)
  rw [hz]
  have hzm : m < (byL l).length := lt_get hz
  have hzv : (byL l)[m] = z := (List.getElem?_eq_some_iff.1 hz).2
  have zn : z ∉ (byL l).take m := fun h => by
    obtain ⟨j, hj, e⟩ := List.getElem_of_mem h
    rw [List.length_take] at hj
    rw [List.getElem_take] at e
    have := (List.getElem_inj (h₀ := by omega) (h₁ := hzm) (byL_nodup l)).1 (e.trans hzv.symm)
    omega
  have h1 := hle z ((byL_mem l z).1 (List.mem_of_getElem? hz)) zn
  obtain ⟨j, hj, e⟩ := List.getElem_of_mem ((byL_mem l x).2 hx)
  have hmj : m ≤ j := by
    rcases Nat.lt_or_ge j m with h | h
    · exact absurd (List.mem_of_getElem? (i := j) (by rw [List.getElem?_take, if_pos h, List.getElem?_eq_getElem hj, e])) hn
    · exact h
  rcases Nat.lt_or_ge m j with h | h
  · have h2 := List.pairwise_iff_getElem.1 (byL_up l) m j hzm hj h
    rw [hzv, e] at h2
    rw [leK_antisymm h1 h2]
  · have : j = m := by omega
    subst this
    rw [← e, ← hzv]
end Go.Proofs.Ytlfcfoodlbbbjaa
