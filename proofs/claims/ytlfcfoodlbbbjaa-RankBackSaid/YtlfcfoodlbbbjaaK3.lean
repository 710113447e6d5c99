/-
  Ranks: the order of keys, the document's: the inner loop.
-/
import Derived.Test.YtlfcfoodlbbbjaaK2
namespace Go.Proofs.Ytlfcfoodlbbbjaa
set_option linter.unusedVariables false
set_option linter.unusedSimpArgs false
set_option linter.unnecessarySimpa false
open Go.Hp Go.RowKit
attribute [local irreducible] Go.Hp.iteB Go.Hp.stC Go.Hp.newP

def boolV (n : Nat) (f : Nat → Bool) : List Value := (List.range n).map fun i => Value.bool (f i)
theorem boolV_len (n : Nat) (f : Nat → Bool) : (boolV n f).length = n := by simp [boolV]
theorem boolV_get {n i : Nat} {f : Nat → Bool} (h : i < n) : (boolV n f)[i]? = some (.bool (f i)) := by simp [boolV, h]

/-- The least one of the first i that has not come, or -1. -/
def Best (l : List Int) (f : Nat → Bool) (i : Nat) (at_ : Int) : Prop :=
  (at_ = -1 ∧ ∀ j, j < i → f j = true) ∨ ∃ x : Nat, at_ = x ∧ x < i ∧ f x = false ∧ ∀ j, j < i → f j = false → leK (keyI l) x j
theorem Best.skip {l : List Int} {f : Nat → Bool} {i : Nat} {a : Int} (h : Best l f i a) (hf : f i = true) : Best l f (i + 1) a := by
  rcases h with ⟨h1, h2⟩ | ⟨x, h1, h2, h3, h4⟩
  · refine .inl ⟨h1, fun j hj => ?_⟩
    rcases Nat.lt_or_ge j i with c | c
    · exact h2 j c
    · have : j = i := by omega
      subst this; exact hf
  · refine .inr ⟨x, h1, by omega, h3, fun j hj hfj => ?_⟩
    rcases Nat.lt_or_ge j i with c | c
    · exact h4 j c hfj
    · have : j = i := by omega
      subst this; rw [hf] at hfj; exact absurd hfj (by decide)
theorem Best.take {l : List Int} {f : Nat → Bool} {i : Nat} {a : Int} (h : Best l f i a) (hf : f i = false) (hlt : ∀ x : Nat, a = x → keyI l i < keyI l x) : Best l f (i + 1) (i : Int) := by
  refine .inr ⟨i, rfl, by omega, hf, fun j hj hfj => ?_⟩
  rw [leK_iff]
  rcases h with ⟨h1, h2⟩ | ⟨x, h1, h2, h3, h4⟩
  · rcases Nat.lt_or_ge j i with c | c
    · have := h2 j c; rw [hfj] at this; exact absurd this (by decide)
    · have : j = i := by omega
      subst this; exact .inr ⟨rfl, Nat.le_refl _⟩
  · rcases Nat.lt_or_ge j i with c | c
    · have h5 := h4 j c hfj
      rw [leK_iff] at h5
      have := hlt x h1
      omega
    · have : j = i := by omega
      subst this; exact .inr ⟨rfl, Nat.le_refl _⟩
theorem Best.keep {l : List Int} {f : Nat → Bool} {i x : Nat} (h : Best l f i (x : Int)) (hge : keyI l x ≤ keyI l i) : Best l f (i + 1) (x : Int) := by
  rcases h with ⟨h1, h2⟩ | ⟨y, h1, h2, h3, h4⟩
  · omega
  · have : x = y := by omega
    subst this
    refine .inr ⟨x, rfl, by omega, h3, fun j hj hfj => ?_⟩
    rcases Nat.lt_or_ge j i with c | c
    · exact h4 j c hfj
    · have : j = i := by omega
      subst this; rw [leK_iff]; omega

section
variable {h0 : Heap} {RR : Rws}
theorem rby_l1 {K4 : Int → Heap → Prop} {q qo : Option Addr} {n c lo co bc cc : Nat} {m : Int} {l : List Int} {f : Nat → Bool} {h : Heap} (hl : l.length = n) (hn : n ≤ 2 ^ 20) (vq : valsAt h q (l.map (Value.int .i64))) (s : St h0 h RR) (mc : (bc, boolV n f) ∈ RR)
    (hk : ∀ a, Best l f n a → K4 a h) :
    ∀ (d i : Nat) (a : Int), i + d = n → Best l f i a → straitref14_By.l1 K4 (d + 1) q n c qo lo co ⟨bc, 0, none⟩ n cc m a (i : Int) h
  | 0, i, a, hi, hb => by
    unfold straitref14_By.l1 straitref14_By.b1
    have hin : i = n := by omega
    subst hin
    exact iteB_neg (decide_eq_false (by omega)) (hk a hb)
  | d + 1, i, a, hi, hb => by
    unfold straitref14_By.l1 straitref14_By.b1
    have rc := s.rd mc
    have gc := boolV_get (f := f) (show i < n by omega)
    have gk : ∀ {z : Nat}, z < n → (l.map (Value.int .i64))[z]? = some (.int .i64 (keyI l z)) := fun {z} hz => by simp [keyI, List.getD, show z < l.length by omega]
    refine iteB_pos (decide_eq_true (by omega)) ?_
    intro j
    have J : ∀ a', Best l f (i + 1) a' → j a' := by
      intro a' hb'
      simp -zeta only [j]
      rw [wrap64 (by omega) (by omega)]
      exact rby_l1 hl hn vq s mc hk d (i + 1) a' (by omega) hb'
    clear_value j
    simp -zeta (disch := omega) only [chkP_some, iteB_true, iteB_false, add_mk, Nat.zero_add, Nat.add_zero, Nat.mul_one, Nat.reduceAdd, Int.toNat_natCast, ex_int, ex_slice, ex_ptr, ex_bool, ex_str, ex_flt, ex_any, bnd_in, List.getElem?_cons_zero, List.getElem?_cons_succ, List.set_cons_zero, List.set_cons_succ, List.cons_append, List.nil_append, bne_self_eq_false, beq_self_eq_true, Bool.not_true, Bool.not_false, Option.isNone_some, Option.isNone_none, eq_self, true_and, and_true, and_self, rc, gc]
    refine iteB_intro (fun e => ?_) (fun e => J a (hb.skip (by simpa using e)))
    have e : f i = false := by simpa using e
    refine iteB_intro (fun e2 => J _ (hb.take e fun x hx => ?_)) (fun e2 => ?_)
    · have := of_decide_eq_true e2; omega
    · have e2 := of_decide_eq_false e2
      obtain ⟨x, rfl⟩ := Int.eq_ofNat_of_zero_le (show 0 ≤ a by omega)
      have hxi : x < i := by
        rcases hb with ⟨h1, _⟩ | ⟨y, h1, h2, _⟩ <;> omega
      simp -zeta (disch := omega) only [chkP_some, iteB_true, iteB_false, add_mk, Nat.zero_add, Nat.add_zero, Nat.mul_one, Nat.reduceAdd, Int.toNat_natCast, ex_int, ex_slice, ex_ptr, ex_bool, ex_str, ex_flt, ex_any, bnd_in, List.getElem?_cons_zero, List.getElem?_cons_succ, List.set_cons_zero, List.set_cons_succ, List.cons_append, List.nil_append, bne_self_eq_false, beq_self_eq_true, Bool.not_true, Bool.not_false, Option.isNone_some, Option.isNone_none, eq_self, true_and, and_true, and_self, vals_int vq (gk (z := i) (by omega)), vals_int vq (gk (z := x) (by omega))]
      refine iteB_intro (fun e3 => J _ (hb.take e fun y hy => ?_)) (fun e3 => J _ (hb.keep ?_))
      · have : x = y := by omega
        subst this; exact of_decide_eq_true e3
      · have := of_decide_eq_false e3; omega
end
end Go.Proofs.Ytlfcfoodlbbbjaa
