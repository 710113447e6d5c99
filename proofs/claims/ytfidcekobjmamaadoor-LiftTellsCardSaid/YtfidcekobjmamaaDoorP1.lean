/-
  Jumps in a tree and the document's ways: the plain law.
-/
import Derived.Test.YtfidcekobjmamaaDoorN3
namespace Go.Proofs.YtfidcekobjmamaaDoor
set_option linter.unusedVariables false
set_option linter.unusedSimpArgs false
set_option linter.unnecessarySimpa false
open Go.Hp Go.RowKit

section
variable {U : Nat → Int} {n : Nat}
theorem ways_len {d v : Nat} (h : hasD U n d v) : (ways U n v).length = d + 1 := upL_deep h (by have := h.lt_n; omega)
theorem ways_at : ∀ {k d v : Nat}, hasD U n d v → k ≤ d → (ways U n v)[k]? = some (upN U k v)
  | 0, d, v, h, _ => ways_head h
  | k + 1, 0, v, h, hk => absurd hk (by omega)
  | k + 1, d + 1, v, h, hk => by
    obtain ⟨_, f, hf, hd⟩ := id h
    rw [ways_cons h hf, List.getElem?_cons_succ, ways_at hd (by omega)]
    show some (upN U k f) = some (upN U k (U v).toNat)
    rw [hf]; rfl
theorem ways_split : ∀ {k d v : Nat}, hasD U n d v → k ≤ d → ways U n v = (ways U n v).take k ++ ways U n (upN U k v)
  | 0, d, v, h, _ => rfl
  | k + 1, 0, v, h, hk => absurd hk (by omega)
  | k + 1, d + 1, v, h, hk => by
    obtain ⟨_, f, hf, hd⟩ := id h
    rw [ways_cons h hf, List.take_succ_cons, List.cons_append]
    have e : upN U (k + 1) v = upN U k f := by
      show upN U k (U v).toNat = _
      rw [hf]; rfl
    rw [e, ← ways_split hd (by omega)]
theorem ways_top {d v : Nat} (h : hasD U n d v) : ∃ r, ways U n v = v :: r := by
  cases d with
  | zero => exact ⟨[], ways_root h⟩
  | succ d => obtain ⟨_, f, hf, _⟩ := id h; exact ⟨_, ways_cons h hf⟩
theorem ways_mem {d v x : Nat} (h : hasD U n d v) (hx : x ∈ ways U n v) : ∃ i, i ≤ d ∧ x = upN U i v := by
  obtain ⟨i, hi, e⟩ := List.getElem_of_mem hx
  have hl := ways_len h
  have := ways_at h (show i ≤ d by omega)
  rw [List.getElem?_eq_getElem hi, e] at this
  exact ⟨i, by omega, Option.some.inj this⟩
end

section
variable {up w : List Int} {n : Nat}
theorem IsTop.swap {u v du dv top p q : Nat} (h : IsTop up u v du dv top p q) : IsTop up v u dv du top q p := by
  obtain ⟨e1, e2, e3, e4, e5, e6⟩ := h
  exact ⟨e2, e1, e4, e3, e5.symm, by rcases e6 with h | h | h; exact .inr (.inl h); exact .inl h; exact .inr (.inr fun e => h e.symm)⟩
theorem IsTop.na {u v du dv top p q : Nat} (hu : hasD (UU up) n du u) (hv : hasD (UU up) n dv v) (h : IsTop up u v du dv top p q) : ∀ x ∈ (ways (UU up) n u).take p, x ∉ ways (UU up) n v := by
  obtain ⟨e1, e2, e3, e4, e5, e6⟩ := h
  intro x hx hx2
  obtain ⟨i, hi, ei⟩ := List.getElem_of_mem hx
  rw [List.length_take, ways_len hu] at hi
  have gi := ways_at hu (show i ≤ du by omega)
  rw [List.getElem_take] at ei
  rw [List.getElem?_eq_getElem (by rw [ways_len hu]; omega), ei] at gi
  have gi := Option.some.inj gi
  obtain ⟨j, hj, ej⟩ := ways_mem hv hx2
  have d1 := hu.upN (show i ≤ du by omega)
  have d2 := hv.upN (show j ≤ dv by omega)
  rw [← gi] at d1
  rw [← ej] at d2
  have ed := d1.uniq d2
  rcases e6 with e | e | e
  · omega
  · omega
  · refine e ?_
    rw [show p - 1 = i + (p - 1 - i) by omega, show q - 1 = j + (p - 1 - i) by omega, upN_add, upN_add, ← gi, ← ej]
theorem IsTop.meets {u v du dv top p q : Nat} (hu : hasD (UU up) n du u) (hv : hasD (UU up) n dv v) (h : IsTop up u v du dv top p q) : Meets (ways (UU up) n u) (ways (UU up) n v) ((ways (UU up) n u).take p) top ((ways (UU up) n v).take q) := by
  have h2 := h
  obtain ⟨e1, e2, e3, e4, e5, e6⟩ := h2
  have ht := hu.upN e3
  rw [e1] at ht
  obtain ⟨r, hr⟩ := ways_top ht
  refine ⟨⟨r, ?_, ?_⟩, h.na hu hv, h.swap.na hv hu⟩
  · have := ways_split hu e3
    rw [e1, hr] at this; exact this
  · have := ways_split hv e4
    rw [e2, hr] at this; exact this

/-! ### The least of some edges -/
def IsLM (w : List Int) (S : Nat → Prop) (le : Int) : Prop := (le = -1 ∧ ∀ x, ¬ S x) ∨ ∃ z : Nat, le = (z : Int) ∧ S z ∧ ∀ x, S x → UU w z < UU w x ∨ (UU w z = UU w x ∧ z ≤ x)
theorem IsLM.congr {S S' : Nat → Prop} {le : Int} (h : IsLM w S le) (e : ∀ x, S x ↔ S' x) : IsLM w S' le := by
  have : S = S' := funext fun x => propext (e x)
  rw [← this]; exact h
theorem IsLM.both {S1 S2 : Nat → Prop} {a b : Int} (h1 : IsLM w S1 a) (h2 : IsLM w S2 b) : IsLM w (fun x => S1 x ∨ S2 x) (betW w a b) := by
  rcases h1 with ⟨rfl, n1⟩ | ⟨y, rfl, m1, l1⟩
  · rw [betW_neg]
    exact h2.congr fun x => ⟨.inr, fun h => h.resolve_left (n1 x)⟩
  · rcases h2 with ⟨rfl, n2⟩ | ⟨z, rfl, m2, l2⟩
    · rw [betW_none (by omega)]
      exact .inr ⟨y, rfl, .inl m1, fun x hx => l1 x (hx.resolve_right (n2 x))⟩
    · have e : betW w (y : Int) (z : Int) = if UU w z < UU w y ∨ (UU w z = UU w y ∧ z < y) then (z : Int) else (y : Int) := by
        unfold betW
        rw [if_neg (by omega)]
        by_cases c : firstW w (z : Int) (y : Int) = true
        · have := firstW_iff.1 c
          rw [Int.toNat_natCast, Int.toNat_natCast] at this
          rw [if_pos ⟨by omega, c⟩, if_pos (by unfold UU; omega)]
        · rw [if_neg (fun h => c h.2), if_neg (fun h => c (firstW_iff.2 (by rw [Int.toNat_natCast, Int.toNat_natCast]; unfold UU at h; omega)))]
      rw [e]
      split
      · rename_i c
        refine .inr ⟨z, rfl, .inr m2, fun x hx => ?_⟩
        rcases hx with hx | hx
        · have := l1 x hx; omega
        · exact l2 x hx
      · rename_i c
        refine .inr ⟨y, rfl, .inl m1, fun x hx => ?_⟩
        rcases hx with hx | hx
        · exact l1 x hx
        · have := l2 x hx; omega
theorem lstN_lm : ∀ {m d v : Nat}, hasD (UU up) n d v → m ≤ d → IsLM w (fun z => z ∈ (ways (UU up) n v).take m) (lstN (UU up) w m v)
  | 0, d, v, h, _ => .inl ⟨rfl, fun x hx => by simp at hx⟩
  | m + 1, 0, v, h, hm => absurd hm (by omega)
  | m + 1, d + 1, v, h, hm => by
    obtain ⟨_, f, hf, hd⟩ := id h
    have ih := lstN_lm hd (show m ≤ d by omega)
    have e : lstN (UU up) w (m + 1) v = betW w (v : Int) (lstN (UU up) w m f) := by
      show betW w (v : Int) (lstN (UU up) w m (UU up v).toNat) = _
      rw [hf]; rfl
    rw [e, ways_cons h hf, List.take_succ_cons]
    have h1 : IsLM w (fun x => x = v) (v : Int) := .inr ⟨v, rfl, rfl, fun x hx => by subst hx; exact .inr ⟨rfl, Nat.le_refl _⟩⟩
    exact (h1.both ih).congr fun x => by rw [List.mem_cons]
/-- The least edge of both ways is the document's. -/
theorem least_is {u v du dv top p q : Nat} {le : Int} (hu : hasD (UU up) up.length du u) (hv : hasD (UU up) up.length dv v) (h : IsTop up u v du dv top p q) (hle : le = betW w (lstN (UU up) w p u) (lstN (UU up) w q v)) :
    (le < 0 ∧ leastD up (UU w) up.length u v = (0, false)) ∨ (0 ≤ le ∧ leastD up (UU w) up.length u v = (le.toNat, true)) := by
  have M := h.meets hu hv
  have h1 := (lstN_lm (w := w) hu h.2.2.1).both (lstN_lm (w := w) hv h.2.2.2.1)
  rw [← hle] at h1
  have h2 := leastD_min (n := up.length) (up := up) (UU w) u v
  have hS : ∀ z, (z < up.length ∧ isB up z u ≠ isB up z v) ↔ (z ∈ (ways (UU up) up.length u).take p ∨ z ∈ (ways (UU up) up.length v).take q) := fun z => by
    rw [M.differ z]
    refine ⟨fun h => h.2, fun h => ⟨?_, h⟩⟩
    rcases h with h | h
    · exact ways_lt (List.mem_of_mem_take h)
    · exact ways_lt (List.mem_of_mem_take h)
  have h2 := h2.congr hS
  rcases h1 with ⟨rfl, hn⟩ | ⟨z, rfl, hz, hm⟩
  · refine .inl ⟨by omega, h2.uniq ⟨fun _ => ⟨rfl, hn⟩, fun h => by simp at h⟩⟩
  · refine .inr ⟨by omega, h2.uniq ⟨fun h => by simp at h, fun _ => ?_⟩⟩
    rw [Int.toNat_natCast]
    exact ⟨hz, hm⟩
end
end Go.Proofs.YtfidcekobjmamaaDoor
