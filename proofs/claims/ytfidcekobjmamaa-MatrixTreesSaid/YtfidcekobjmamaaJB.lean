/-
  Matrices, plainly: the matrix of the tree that is grown.
-/
import Derived.Test.YtfidcekobjmamaaJA
namespace Go.Proofs.Ytfidcekobjmamaa
set_option linter.unusedVariables false
set_option linter.unusedSimpArgs false
set_option linter.unnecessarySimpa false
open Go.Hp Go.RowKit
section
variable {M : Nat → Nat → Int} {n : Nat} {A : List Nat} {U W : Nat → Int}
/-- What is above one came ahead of it. -/
theorem grown_above (r : RightT (upT n U) (upT n W)) (g : Grown M U W A) (hl : ∀ x ∈ A, x < n) : ∀ (k v z : Nat), A[k]? = some v → isB (upT n U) z v = true → z ∈ A.take (k + 1) := by
  intro k
  induction k using Nat.strongRecOn with
  | ind k ih =>
    intro v z hv hz
    have hvn := hl v (List.mem_of_getElem? hv)
    have hme : v ∈ A.take (k + 1) := by rw [take_snoc hv]; simp
    by_cases e : z = v
    · rw [e]; exact hme
    · rcases Nat.eq_zero_or_pos k with h0 | h0
      · obtain ⟨_, h1, _⟩ := (g k v hv).1 h0
        have hd : hasD (UU (upT n U)) (upT n U).length 0 v := ⟨by rw [upT_len]; exact hvn, by rw [upT_UU hvn]; exact h1⟩
        obtain ⟨d, _, h2 | h2⟩ := isB_deep hd hz
        · exact absurd h2 e
        · omega
      · obtain ⟨p, hp, h1, _⟩ := (g k v hv).2 h0
        rw [isB_up r (by rw [upT_len]; exact hvn) (by rw [upT_UU hvn]; exact h1) e] at hz
        obtain ⟨i, hi, hip⟩ := mem_take_ix hp
        have := ih i hi p z hip hz
        obtain ⟨j, hj, hjz⟩ := mem_take_ix this
        exact List.mem_iff_getElem?.2 ⟨j, by rw [List.getElem?_take, if_pos (by omega)]; exact hjz⟩
theorem grown_mW (u : UltraM n M) (nd : A.Nodup) (r : RightT (upT n U) (upT n W)) (g : Grown M U W A) (hl : ∀ x ∈ A, x < n) :
    ∀ k : Nat, ∀ x ∈ A.take k, ∀ y ∈ A.take k, mW (upT n U) (upT n W) x y = M x y := by
  intro k
  induction k with
  | zero => intro x hx; simp at hx
  | succ k ih =>
    rcases Nat.lt_or_ge k A.length with hk | hk
    · obtain ⟨v, hv⟩ := get_lt hk
      rw [take_snoc hv]
      have hvn := hl v (List.mem_of_getElem? hv)
      have main : ∀ x ∈ A.take k, mW (upT n U) (upT n W) x v = M x v := fun x hx => by
        have hxn := hl x (List.mem_of_mem_take hx)
        have h0 : 0 < k := by
          rcases Nat.eq_zero_or_pos k with h | h
          · subst h; simp at hx
          · exact h
        obtain ⟨p, hp, h1, h2, h3⟩ := (g k v hv).2 h0
        have hpn := hl p (List.mem_of_mem_take hp)
        obtain ⟨i, hi, hix⟩ := mem_take_ix hx
        have hne : x ≠ v := fun e => by
          subst e
          have := (List.getElem?_inj (lt_get hix) nd).1 (hix.trans hv.symm)
          omega
        have hb : isB (upT n U) v x = false := by
          cases c : isB (upT n U) v x
          · rfl
          · obtain ⟨j, hj, hjv⟩ := mem_take_ix (grown_above r g hl i x v hix c)
            have := (List.getElem?_inj (lt_get hjv) nd).1 (hjv.trans hv.symm)
            omega
        rw [mW_step r (by rw [upT_len]; exact hvn) (by rw [upT_len]; exact hxn) (by rw [upT_UU hvn]; exact h1) hb, upT_UU hvn, h2]
        by_cases c : x = p
        · rw [if_pos c, c]
        · rw [if_neg c, ih p hp x hx]
          have h4 := h3 x hx
          have s1 := u.sym x p hxn hpn
          have s2 := u.sym p v hpn hvn
          have s3 := u.sym x v hxn hvn
          have h5 := u.ult x v p hxn hvn hpn hne
          have h6 := u.ult p x v hpn hxn hvn (fun e => c e.symm)
          omega
      intro x hx y hy
      rcases List.mem_append.1 hx with hx1 | hx1 <;> rcases List.mem_append.1 hy with hy1 | hy1
      · exact ih x hx1 y hy1
      · have e : y = v := by simpa using hy1
        rw [e]; exact main x hx1
      · have e : x = v := by simpa using hx1
        rw [e, mW_sym, main y hy1]
        exact u.sym y v (hl y (List.mem_of_mem_take hy1)) hvn
      · have e1 : x = v := by simpa using hx1
        have e2 : y = v := by simpa using hy1
        rw [e1, e2, mW_diag, u.diag _ hvn]
    · rw [List.take_of_length_le (by omega)]
      rw [List.take_of_length_le hk] at ih
      exact ih
/-- The matrix again. -/
theorem prim_back {b : Int} (hn : n ≤ 4096) (u : UltraM n M) (p : PrimR M n A U W b) (hb : b < 0 ∨ n = 0) :
    RightT (upT n U) (upT n W) ∧ ∀ x y, x < n → y < n → mW (upT n U) (upT n W) x y = M x y := by
  have i := p.inv
  have hf := p.full hb
  have r := grown_right hn u i.nd i.grown i.lt hf
  refine ⟨r, fun x y hx hy => ?_⟩
  have := grown_mW u i.nd r i.grown i.lt A.length x (by rw [List.take_length]; exact hf x hx) y (by rw [List.take_length]; exact hf y hy)
  exact this
end
end Go.Proofs.Ytfidcekobjmamaa
