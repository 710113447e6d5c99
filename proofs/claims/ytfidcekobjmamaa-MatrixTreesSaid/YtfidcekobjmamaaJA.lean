/-
  Matrices, plainly: the tree that is grown is right, and its matrix is the matrix.
-/
import Derived.Test.YtfidcekobjmamaaJ8
namespace Go.Proofs.Ytfidcekobjmamaa
set_option linter.unusedVariables false
set_option linter.unusedSimpArgs false
set_option linter.unnecessarySimpa false
open Go.Hp Go.RowKit

/-- What is in, one behind the other: each hangs on one ahead of it, by the most. -/
def Grown (M : Nat → Nat → Int) (U W : Nat → Int) (A : List Nat) : Prop :=
  ∀ k v, A[k]? = some v → (k = 0 → v = 0 ∧ U v = -1 ∧ W v = 0) ∧ (0 < k → ∃ p, p ∈ A.take k ∧ U v = (p : Int) ∧ W v = M p v ∧ ∀ u ∈ A.take k, M u v ≤ W v)
/-- What is not in yet: the best of those that are. -/
structure Waits (M : Nat → Nat → Int) (n : Nat) (U W : Nat → Int) (A : List Nat) (x : Nat) : Prop where
  none : A = [] → U x = -1 ∧ W x = 0
  some : A ≠ [] → ∃ p, p ∈ A ∧ U x = (p : Int) ∧ W x = M p x ∧ (∀ u ∈ A, M u x ≤ W x) ∧ ∀ u ∈ A, M u x = W x → p ≤ u
/-- The one that comes next. -/
def Nxt (n : Nat) (W : Nat → Int) (A : List Nat) (b : Int) : Prop :=
  (A = [] → b = 0) ∧ (A ≠ [] → (b = -1 ∧ ∀ x, x < n → x ∈ A) ∨ ∃ v : Nat, b = (v : Int) ∧ v < n ∧ v ∉ A ∧ ∀ x, x < n → x ∉ A → W x ≤ W v ∧ (W x = W v → v ≤ x))
theorem bst_all {I : Nat → Bool} {W : Nat → Int} : ∀ {i : Nat}, (bst I W i = -1 ∧ ∀ x, x < i → I x = true) ∨ ∃ v : Nat, bst I W i = (v : Int) ∧ v < i ∧ I v = false ∧ ∀ x, x < i → I x = false → W x ≤ W v ∧ (W x = W v → v ≤ x)
  | 0 => .inl ⟨rfl, fun x h => by omega⟩
  | i + 1 => by
    rw [bst_succ]
    by_cases c : I i = true
    · rw [if_pos c]
      rcases bst_all (I := I) (W := W) (i := i) with ⟨h1, h2⟩ | ⟨v, h1, h2, h3, h4⟩
      · exact .inl ⟨h1, fun x hx => by
          by_cases e : x = i
          · rw [e]; exact c
          · exact h2 x (by omega)⟩
      · exact .inr ⟨v, h1, by omega, h3, fun x hx hI => by
          by_cases e : x = i
          · rw [e, c] at hI; cases hI
          · exact h4 x (by omega) hI⟩
    · rw [if_neg c]
      have c : I i = false := by simpa using c
      rcases bst_all (I := I) (W := W) (i := i) with ⟨h1, h2⟩ | ⟨v, h1, h2, h3, h4⟩
      · rw [h1, if_pos (by omega)]
        refine .inr ⟨i, rfl, by omega, c, fun x hx hI => ?_⟩
        by_cases e : x = i
        · subst e; exact ⟨Int.le_refl _, fun _ => Nat.le_refl _⟩
        · rw [h2 x (by omega)] at hI; cases hI
      · rw [h1, if_neg (by omega), Int.toNat_natCast]
        by_cases g : W i > W v
        · rw [if_pos g]
          refine .inr ⟨i, rfl, by omega, c, fun x hx hI => ?_⟩
          by_cases e : x = i
          · subst e; exact ⟨Int.le_refl _, fun _ => Nat.le_refl _⟩
          · have := (h4 x (by omega) hI).1
            exact ⟨by omega, fun h => by omega⟩
        · rw [if_neg g]
          refine .inr ⟨v, rfl, by omega, h3, fun x hx hI => ?_⟩
          by_cases e : x = i
          · subst e; exact ⟨by omega, fun h => by omega⟩
          · exact h4 x (by omega) hI
/-- All that is known of the tree as it is grown. -/
structure PrimI (M : Nat → Nat → Int) (n : Nat) (A : List Nat) (U W : Nat → Int) (b : Int) : Prop where
  nd : A.Nodup
  lt : ∀ x ∈ A, x < n
  grown : Grown M U W A
  waits : ∀ x, x < n → x ∉ A → Waits M n U W A x
  next : Nxt n W A b
theorem PrimR.inv {M : Nat → Nat → Int} {n : Nat} {A : List Nat} {U W : Nat → Int} {b : Int} (p : PrimR M n A U W b) : PrimI M n A U W b := by
  induction p with
  | start => exact ⟨List.nodup_nil, (by intro x h; cases h), (by intro k v h; simp at h), fun x _ _ => ⟨fun _ => ⟨rfl, rfl⟩, fun h => absurd rfl h⟩, fun _ => rfl, fun h => absurd rfl h⟩
  | @step A U W v p hv ih =>
    have pn := (PrimR.step p hv).next
    have hvA : v ∉ A := (p.next.2.2 v rfl (by omega)).2
    have keepU : ∀ x ∈ A ++ [v], stU M v (inA (A ++ [v])) U W n x = U x := fun x hx => if_neg fun h => by
      have := h.2.1; unfold inA at this; exact of_decide_eq_false this hx
    have keepW : ∀ x ∈ A ++ [v], stW M v (inA (A ++ [v])) U W n x = W x := fun x hx => if_neg fun h => by
      have := h.2.1; unfold inA at this; exact of_decide_eq_false this hx
    refine ⟨pn.1, pn.2.1, ?_, ?_, ?_⟩
    · intro k x hx
      have hm := List.mem_of_getElem? hx
      rw [keepU x hm, keepW x hm]
      rcases Nat.lt_or_ge k A.length with hk | hk
      · rw [List.getElem?_append_left hk] at hx
        rw [List.take_append_of_le_length (by omega)]
        exact ih.grown k x hx
      · have hk2 := lt_get hx
        simp at hk2
        have e : k = A.length := by omega
        subst e
        rw [List.getElem?_append_right (Nat.le_refl _)] at hx
        simp at hx
        subst hx
        rw [List.take_left' rfl]
        have w := ih.waits v hv hvA
        refine ⟨fun h0 => ?_, fun h0 => ?_⟩
        · have e0 : A = [] := List.length_eq_zero_iff.1 h0
          obtain ⟨h1, h2⟩ := w.none e0
          exact ⟨by have := ih.next.1 e0; omega, h1, h2⟩
        · obtain ⟨q, h1, h2, h3, h4, _⟩ := w.some (by rintro rfl; simp at h0)
          exact ⟨q, h1, h2, h3, h4⟩
    · intro x hx hxA
      have hxI : inA (A ++ [v]) x = false := decide_eq_false hxA
      have hx1 : x ∉ A := fun h => hxA (List.mem_append.2 (.inl h))
      have w := ih.waits x hx hx1
      refine ⟨fun h => absurd h (by simp), fun _ => ?_⟩
      by_cases c : better M v U W x = true
      · have eU : stU M v (inA (A ++ [v])) U W n x = v := if_pos ⟨hx, hxI, c⟩
        have eW : stW M v (inA (A ++ [v])) U W n x = M v x := if_pos ⟨hx, hxI, c⟩
        rw [eU, eW]
        refine ⟨v, by simp, rfl, rfl, ?_⟩
        by_cases e0 : A = []
        · subst e0
          exact ⟨fun u hu => by simp at hu; subst hu; exact Int.le_refl _, fun u hu _ => by simp at hu; omega⟩
        · obtain ⟨q, h1, h2, h3, h4, h5⟩ := w.some e0
          unfold better at c
          rw [h2] at c
          have c : M v x > W x ∨ (M v x = W x ∧ v < q) := by
            simp at c
            rcases c with c | c | c
            · omega
            · exact .inl c
            · exact .inr ⟨c.1, by omega⟩
          refine ⟨fun u hu => ?_, fun u hu he => ?_⟩
          · rcases List.mem_append.1 hu with hu | hu
            · have := h4 u hu; omega
            · simp at hu; subst hu; exact Int.le_refl _
          · rcases List.mem_append.1 hu with hu | hu
            · have g1 := h4 u hu
              rcases c with c | c
              · omega
              · have := h5 u hu (by omega); omega
            · simp at hu; omega
      · have eU : stU M v (inA (A ++ [v])) U W n x = U x := if_neg fun h => c h.2.2
        have eW : stW M v (inA (A ++ [v])) U W n x = W x := if_neg fun h => c h.2.2
        rw [eU, eW]
        by_cases e0 : A = []
        · obtain ⟨h1, _⟩ := w.none e0
          exact absurd (by unfold better; rw [h1]; rfl) c
        · obtain ⟨q, h1, h2, h3, h4, h5⟩ := w.some e0
          have c : M v x ≤ W x ∧ (M v x = W x → q ≤ v) := by
            unfold better at c
            rw [h2] at c
            simp at c
            exact c
          refine ⟨q, by simp [h1], h2, h3, fun u hu => ?_, fun u hu he => ?_⟩
          · rcases List.mem_append.1 hu with hu | hu
            · exact h4 u hu
            · simp at hu; subst hu; exact c.1
          · rcases List.mem_append.1 hu with hu | hu
            · exact h5 u hu he
            · simp at hu; subst hu; exact c.2 he
    · refine ⟨fun h => absurd h (by simp), fun _ => ?_⟩
      have inT : ∀ x, inA (A ++ [v]) x = true ↔ x ∈ A ++ [v] := fun x => decide_eq_true_iff
      have inF : ∀ x, inA (A ++ [v]) x = false ↔ x ∉ A ++ [v] := fun x => decide_eq_false_iff_not
      rcases bst_all (I := inA (A ++ [v])) (W := stW M v (inA (A ++ [v])) U W n) (i := n) with ⟨h1, h2⟩ | ⟨y, h1, h2, h3, h4⟩
      · exact .inl ⟨h1, fun x hx => (inT x).1 (h2 x hx)⟩
      · exact .inr ⟨y, h1, h2, (inF y).1 h3, fun x hx hxA => h4 x hx ((inF x).2 hxA)⟩
/-- In the end all are in. -/
theorem PrimR.full {M : Nat → Nat → Int} {n : Nat} {A : List Nat} {U W : Nat → Int} {b : Int} (p : PrimR M n A U W b) (hb : b < 0 ∨ n = 0) : ∀ x, x < n → x ∈ A := by
  intro x hx
  have i := p.inv
  have hb : b < 0 := hb.resolve_right (by omega)
  by_cases e : A = []
  · have := i.next.1 e; omega
  · rcases i.next.2 e with ⟨_, h⟩ | ⟨v, h, _⟩
    · exact h x hx
    · omega
def upT (n : Nat) (U : Nat → Int) : List Int := (List.range n).map U
theorem upT_len (n : Nat) (U : Nat → Int) : (upT n U).length = n := by simp [upT]
theorem upT_get {n v : Nat} {U : Nat → Int} (h : v < n) : (upT n U).getD v 0 = U v := by simp [upT, h]
theorem upT_UU {n v : Nat} {U : Nat → Int} (h : v < n) : UU (upT n U) v = U v := upT_get h
theorem upT_vals (n : Nat) (U : Nat → Int) : ints n U = (upT n U).map (Value.int .i64) := by rw [ints_vals]; rfl
section
variable {M : Nat → Nat → Int} {n : Nat} {A : List Nat} {U W : Nat → Int}
theorem mem_take_ix {k : Nat} {p : Nat} (h : p ∈ A.take k) : ∃ i, i < k ∧ A[i]? = some p := by
  obtain ⟨i, hi⟩ := List.mem_iff_getElem?.1 h
  rw [List.getElem?_take] at hi
  split at hi
  · exact ⟨i, by assumption, hi⟩
  · cases hi
theorem grown_deep (g : Grown M U W A) (hl : ∀ x ∈ A, x < n) : ∀ (k v : Nat), A[k]? = some v → ∃ d, hasD (fun v => (upT n U).getD v 0) n d v := by
  intro k
  induction k using Nat.strongRecOn with
  | ind k ih =>
    intro v hv
    have hvn := hl v (List.mem_of_getElem? hv)
    rcases Nat.eq_zero_or_pos k with h0 | h0
    · obtain ⟨_, h1, _⟩ := (g k v hv).1 h0
      exact ⟨0, hvn, by show (upT n U).getD v 0 = -1; rw [upT_get hvn]; exact h1⟩
    · obtain ⟨p, hp, h1, _⟩ := (g k v hv).2 h0
      obtain ⟨i, hi, hip⟩ := mem_take_ix hp
      obtain ⟨d, hd⟩ := ih i hi p hip
      exact ⟨d + 1, hvn, p, by show (upT n U).getD v 0 = (p : Int); rw [upT_get hvn]; exact h1, hd⟩
theorem grown_right (hn : n ≤ 4096) (u : UltraM n M) (nd : A.Nodup) (g : Grown M U W A) (hl : ∀ x ∈ A, x < n) (hf : ∀ x, x < n → x ∈ A) : RightT (upT n U) (upT n W) := by
  have hA : ∀ v, v < n → ∃ k : Nat, A[k]? = some v := fun v hv => List.mem_iff_getElem?.1 (hf v hv)
  have root : ∀ v, v < n → (U v = -1 ↔ v = 0) := fun v hv => by
    obtain ⟨k, hk⟩ := hA v hv
    rcases Nat.eq_zero_or_pos k with h0 | h0
    · obtain ⟨h1, h2, _⟩ := (g k v hk).1 h0
      exact ⟨fun _ => h1, fun _ => h2⟩
    · obtain ⟨p, hp, h1, _⟩ := (g k v hk).2 h0
      refine ⟨fun h => by omega, fun h => ?_⟩
      subst h
      have hlt := lt_get hk
      obtain ⟨a, ha⟩ := get_lt (l := A) (i := 0) (by omega)
      obtain ⟨h2, _⟩ := (g 0 a ha).1 rfl
      subst h2
      have := (List.getElem?_inj (by omega) nd).1 (ha.trans hk.symm)
      omega
  refine ⟨by rw [upT_len, upT_len], by rw [upT_len]; exact hn, fun v hv => ?_, ?_, fun v hv => ?_⟩
  · rw [upT_len] at hv ⊢
    rw [upT_get hv, upT_get hv]
    obtain ⟨k, hk⟩ := hA v hv
    rcases Nat.eq_zero_or_pos k with h0 | h0
    · obtain ⟨h1, h2, h3⟩ := (g k v hk).1 h0
      rw [h2, h3]
      exact ⟨by omega, by omega, by omega, fun _ => rfl⟩
    · obtain ⟨p, hp, h1, h2, h3⟩ := (g k v hk).2 h0
      have hpn := hl p (List.mem_of_mem_take hp)
      have := u.pos p v hpn hv
      rw [h1, h2]
      exact ⟨by omega, by omega, by omega, fun _ => by omega⟩
  · rw [upT_len]
    cases n with
    | zero => rfl
    | succ m =>
      unfold upT
      rw [List.range_succ_eq_map, List.map_cons, List.filter_cons_of_pos (by rw [(root 0 (by omega)).2 rfl]; rfl), List.map_map]
      rw [List.filter_eq_nil_iff.2 (fun x hx => by
        obtain ⟨k, hk, rfl⟩ := List.mem_map.1 hx
        have hk := List.mem_range.1 hk
        have := (root (k + 1) (by omega)).1
        show ¬ (U (k + 1) == -1) = true
        intro h
        have := this (by simpa using h)
        omega)]
      simp
  · rw [upT_len] at hv ⊢
    obtain ⟨k, hk⟩ := hA v hv
    exact grown_deep g hl k v hk
end
end Go.Proofs.Ytfidcekobjmamaa
