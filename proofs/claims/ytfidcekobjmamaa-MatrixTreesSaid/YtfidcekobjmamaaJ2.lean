/-
  Matrices of trees: the plain law: the least weight between two.
-/
import Derived.Test.YtfidcekobjmamaaH4
import Derived.Test.YtfidcekobjmamaaJ1
namespace Go.Proofs.Ytfidcekobjmamaa
set_option linter.unusedVariables false
set_option linter.unusedSimpArgs false
set_option linter.unnecessarySimpa false
open Go.Hp Go.RowKit

/-- What stands between two: below it is one of both. -/
def sepP (up : List Int) (x y z : Nat) : Prop := z < up.length ∧ isB up z x ≠ isB up z y
/-- The least weight between two; nothing between one and itself. -/
def mW (up w : List Int) (x y : Nat) : Int := if (leastD up (UU w) up.length x y).2 = true then UU w (leastD up (UU w) up.length x y).1 else 0
section
variable {up w : List Int}
theorem mW_min (x y : Nat) : IsMin (sepP up x y) (UU w) (leastD up (UU w) up.length x y) := leastD_min (n := up.length) (UU w) x y
theorem mW_le {x y z : Nat} (h : sepP up x y z) : mW up w x y ≤ UU w z := by
  obtain ⟨h1, h2⟩ := mW_min (up := up) (w := w) x y
  unfold mW
  cases c : (leastD up (UU w) up.length x y).2
  · exact absurd h ((h1 c).2 z)
  · rw [if_pos rfl]
    rcases (h2 c).2 z h with h | h <;> omega
theorem mW_ex {x y : Nat} (h : ∃ z, sepP up x y z) : ∃ z, sepP up x y z ∧ mW up w x y = UU w z := by
  obtain ⟨h1, h2⟩ := mW_min (up := up) (w := w) x y
  unfold mW
  cases c : (leastD up (UU w) up.length x y).2
  · obtain ⟨z, hz⟩ := h
    exact absurd hz ((h1 c).2 z)
  · exact ⟨_, (h2 c).1, if_pos rfl⟩
theorem mW_no {x y : Nat} (h : ∀ z, ¬ sepP up x y z) : mW up w x y = 0 := by
  obtain ⟨h1, h2⟩ := mW_min (up := up) (w := w) x y
  unfold mW
  cases c : (leastD up (UU w) up.length x y).2
  · rfl
  · exact absurd (h2 c).1 (h _)
theorem mW_uniq {x y : Nat} {m : Int} (h1 : ∃ z, sepP up x y z ∧ UU w z = m) (h2 : ∀ z, sepP up x y z → m ≤ UU w z) : mW up w x y = m := by
  obtain ⟨z, hz, rfl⟩ := h1
  obtain ⟨z', hz', e⟩ := mW_ex (w := w) ⟨z, hz⟩
  have a := mW_le (w := w) hz
  have b := h2 z' hz'
  omega
theorem sep_sym {x y z : Nat} (h : sepP up x y z) : sepP up y x z := ⟨h.1, fun e => h.2 e.symm⟩
theorem mW_sym (x y : Nat) : mW up w x y = mW up w y x := by
  by_cases h : ∃ z, sepP up x y z
  · obtain ⟨z, hz, e⟩ := mW_ex (w := w) h
    rw [e]
    exact (mW_uniq ⟨z, sep_sym hz, rfl⟩ fun z' hz' => by rw [← e]; exact mW_le (sep_sym hz')).symm
  · rw [mW_no fun z hz => h ⟨z, hz⟩, mW_no fun z hz => h ⟨z, sep_sym hz⟩]
theorem mW_diag (x : Nat) : mW up w x x = 0 := mW_no fun z hz => hz.2 rfl
theorem mW_nonneg (r : RightT up w) (x y : Nat) : 0 ≤ mW up w x y := by
  by_cases h : ∃ z, sepP up x y z
  · obtain ⟨z, hz, e⟩ := mW_ex (w := w) h
    rw [e]; exact (r.each z hz.1).2.2.1
  · rw [mW_no fun z hz => h ⟨z, hz⟩]; omega
theorem isB_self (r : RightT up w) {x : Nat} (hx : x < up.length) : isB up x x = true := by rw [ways_iff r hx, if_pos rfl]
theorem isB_deep {x y d : Nat} (hd : hasD (UU up) up.length d y) (h : isB up x y = true) : ∃ e, hasD (UU up) up.length e x ∧ (x = y ∨ e < d) := ways_deep hd x (of_decide_eq_true h)
theorem sep_ne (r : RightT up w) {x y : Nat} (hx : x < up.length) (hy : y < up.length) (hne : x ≠ y) : ∃ z, sepP up x y z := by
  by_cases c : isB up x y = true
  · refine ⟨y, hy, ?_⟩
    rw [isB_self r hy]
    intro c2
    obtain ⟨d, hd⟩ := rt_deep r hx
    obtain ⟨e, he⟩ := rt_deep r hy
    obtain ⟨d', h1, h2⟩ := isB_deep he c
    obtain ⟨e', h3, h4⟩ := isB_deep hd c2
    have := h1.uniq hd
    have := h3.uniq he
    omega
  · refine ⟨x, hx, ?_⟩
    rw [isB_self r hx]
    intro c2; exact c c2.symm
theorem mW_ultra (r : RightT up w) {x y z : Nat} (hx : x < up.length) (hy : y < up.length) (hne : x ≠ y) : mW up w x z ≤ mW up w x y ∨ mW up w z y ≤ mW up w x y := by
  obtain ⟨e, he, h⟩ := mW_ex (w := w) (sep_ne r hx hy hne)
  rw [h]
  by_cases c : isB up e x = isB up e z
  · exact .inr (mW_le ⟨he.1, fun c2 => he.2 (c.trans c2)⟩)
  · exact .inl (mW_le ⟨he.1, c⟩)
/-- One step down. -/
theorem isB_up (r : RightT up w) {v p z : Nat} (hv : v < up.length) (hp : UU up v = (p : Int)) (hz : z ≠ v) : isB up z v = isB up z p := by
  rw [ways_iff r hv, if_neg (fun e => hz e.symm), hp, if_pos (Int.natCast_nonneg p), Int.toNat_natCast]
theorem isB_par (r : RightT up w) {v p : Nat} (hv : v < up.length) (hp : UU up v = (p : Int)) : p < up.length ∧ isB up v p = false := by
  obtain ⟨d, hd⟩ := rt_deep r hv
  obtain ⟨e, he, hpe⟩ := hd.up hp
  refine ⟨hpe.lt, ?_⟩
  cases c : isB up v p
  · rfl
  · obtain ⟨d', h1, h2⟩ := isB_deep hpe c
    have := h1.uniq hd
    rcases h2 with h2 | h2
    · subst h2
      have := hpe.uniq hd; omega
    · omega
theorem mW_step (r : RightT up w) {u v p : Nat} (hv : v < up.length) (hu : u < up.length) (hp : UU up v = (p : Int)) (hb : isB up v u = false) :
    mW up w u v = if u = p then UU w v else min (UU w v) (mW up w p u) := by
  obtain ⟨hpn, hbp⟩ := isB_par r hv hp
  have hsv : sepP up u v v := ⟨hv, by rw [hb, isB_self r hv]; decide⟩
  by_cases c : u = p
  · rw [if_pos c]
    subst c
    refine mW_uniq ⟨v, hsv, rfl⟩ fun z hz => ?_
    by_cases e : z = v
    · rw [e]; exact Int.le_refl _
    · exact absurd (isB_up r hv hp e).symm hz.2
  · rw [if_neg c]
    have key : ∀ z, z ≠ v → (sepP up u v z ↔ sepP up p u z) := fun z hz => by
      unfold sepP
      rw [isB_up r hv hp hz]
      exact ⟨fun h => ⟨h.1, fun e => h.2 e.symm⟩, fun h => ⟨h.1, fun e => h.2 e.symm⟩⟩
    obtain ⟨z, hz, e⟩ := mW_ex (w := w) (sep_ne r hpn hu (fun e => c e.symm))
    have hzv : z ≠ v := by rintro rfl; exact hz.2 (by rw [hbp, hb])
    refine mW_uniq ?_ fun z' hz' => ?_
    · rcases Int.le_total (UU w v) (mW up w p u) with h | h
      · exact ⟨v, hsv, by omega⟩
      · exact ⟨z, (key z hzv).2 hz, by rw [← e]; omega⟩
    · by_cases e2 : z' = v
      · rw [e2]; omega
      · have := mW_le (w := w) ((key z' e2).1 hz'); omega
/-! ### How many weights there are -/
theorem sub_len : ∀ {k l : List Int}, k.Nodup → (∀ x ∈ k, x ∈ l) → k.length ≤ l.length
  | [], l, _, _ => Nat.zero_le _
  | x :: k, l, hn, hs => by
    obtain ⟨h1, h2⟩ := List.nodup_cons.1 hn
    have hx := hs x (by simp)
    have := sub_len (k := k) (l := l.erase x) h2 fun y hy => (List.mem_erase_of_ne (fun e => h1 (by rw [← e]; exact hy))).2 (hs y (by simp [hy]))
    rw [List.length_erase_of_mem hx] at this
    have := List.length_pos_of_mem hx
    rw [List.length_cons]; omega
theorem roots_one (l : List Int) : ((List.range l.length).filter fun z => UU l z == -1).length = (l.filter (· == -1)).length := by
    have h : (List.range l.length).map (UU l) = l := by
      refine List.ext_getElem? fun i => ?_
      rw [List.getElem?_map]
      by_cases c : i < l.length
      · rw [List.getElem?_range c, List.getElem?_eq_getElem c]
        simp [UU, c]
      · rw [List.getElem?_eq_none (by simp; omega), List.getElem?_eq_none (by omega)]; rfl
    conv => rhs; rw [← h]
    rw [List.filter_map, List.length_map]; rfl
theorem filter_two (p : Nat → Bool) : ∀ l : List Nat, (l.filter p).length + (l.filter fun z => !p z).length = l.length
  | [] => rfl
  | x :: l => by
    have ih := filter_two p l
    cases h : p x
    · rw [List.filter_cons_of_neg (by simp [h]), List.filter_cons_of_pos (by simp [h])]; simp only [List.length_cons]; omega
    · rw [List.filter_cons_of_pos h, List.filter_cons_of_neg (by simp [h])]; simp only [List.length_cons]; omega
/-- Fewer weights than vertices. -/
theorem weights_few (r : RightT up w) {k : List Int} (hn : k.Nodup) (hk : ∀ m ∈ k, ∃ x y, x < up.length ∧ y < up.length ∧ x ≠ y ∧ m = mW up w x y) : k.length < max 1 up.length := by
  have hs : ∀ m ∈ k, m ∈ ((List.range up.length).filter fun z => !(UU up z == -1)).map (UU w) := fun m hm => by
    obtain ⟨x, y, hx, hy, hne, rfl⟩ := hk m hm
    obtain ⟨z, hz, e⟩ := mW_ex (w := w) (sep_ne r hx hy hne)
    rw [e]
    refine List.mem_map.2 ⟨z, List.mem_filter.2 ⟨List.mem_range.2 hz.1, ?_⟩, rfl⟩
    cases c : (UU up z == -1)
    · rfl
    · exfalso
      have c : UU up z = -1 := by simpa using c
      have all : ∀ v, v < up.length → isB up z v = true := fun v hv => by
        obtain ⟨d, hd⟩ := rt_deep r hv
        induction d generalizing v with
        | zero =>
          have h1 : UU up v = -1 := hd.2
          have : v = z := by
            apply Classical.byContradiction
            intro hne2
            have h2 := roots_one up
            rw [r.roots] at h2
            have h3 : ((List.range up.length).filter fun z => UU up z == -1).length ≤ 1 := by omega
            have m1 : v ∈ (List.range up.length).filter fun z => UU up z == -1 := List.mem_filter.2 ⟨List.mem_range.2 hv, by simp [h1]⟩
            have m2 : z ∈ (List.range up.length).filter fun z => UU up z == -1 := List.mem_filter.2 ⟨List.mem_range.2 hz.1, by simp [c]⟩
            generalize (List.range up.length).filter (fun z => UU up z == -1) = q at *
            match q, h3, m1, m2 with
            | [a], _, m1, m2 =>
              obtain rfl := List.mem_singleton.1 m1
              exact hne2 (List.mem_singleton.1 m2).symm
          rw [this]; exact isB_self r hz.1
        | succ d ih =>
          obtain ⟨_, f, hf, hfd⟩ := id hd
          by_cases e : z = v
          · rw [e]; exact isB_self r hv
          · rw [isB_up r hv hf e]; exact ih f hfd.lt hfd
      exact hz.2 (by rw [all x hx, all y hy])
  have h1 := sub_len hn hs
  rw [List.length_map] at h1
  have h2 := filter_two (fun z => UU up z == -1) (List.range up.length)
  have h3 := roots_one up
  rw [r.roots] at h3
  rw [List.length_range] at h2
  omega
end
end Go.Proofs.Ytfidcekobjmamaa
