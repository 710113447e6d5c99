/-
  Matrices: the document's tree of a matrix of cuts, which is the program's.
-/
import Derived.Test.YtfidcekobjmamaaJG
namespace Go.Proofs.Ytfidcekobjmamaa
set_option linter.unusedVariables false
set_option linter.unusedSimpArgs false
set_option linter.unnecessarySimpa false
open Go.Hp Go.RowKit
attribute [local irreducible] Go.Hp.iteB Go.Hp.stC Go.Hp.newP
/-! ### The way is one -/
theorem PrimR.one {M : Nat → Nat → Int} {n : Nat} {A : List Nat} {U W : Nat → Int} {b : Int} (p : PrimR M n A U W b) :
    ∀ {A' : List Nat} {U' W' : Nat → Int} {b' : Int}, PrimR M n A' U' W' b' → A.length = A'.length → A = A' ∧ U = U' ∧ W = W' ∧ b = b' := by
  induction p with
  | start =>
    intro A' U' W' b' p' hl
    cases p' with
    | start => exact ⟨rfl, rfl, rfl, rfl⟩
    | step p h => simp at hl
  | @step A U W v p hv ih =>
    intro A' U' W' b' p' hl
    cases p' with
    | start => simp at hl
    | @step A2 U2 W2 v2 p2 hv2 =>
      obtain ⟨rfl, rfl, rfl, e⟩ := ih p2 (by simpa using hl)
      have : v = v2 := by omega
      subst this
      exact ⟨rfl, rfl, rfl, rfl⟩
theorem PrimR.len {M : Nat → Nat → Int} {n : Nat} {A : List Nat} {U W : Nat → Int} {b : Int} (p : PrimR M n A U W b) (hf : ∀ x, x < n → x ∈ A) : A.length = n := by
  have i := p.inv
  have h1 := nodup_le i.nd i.lt
  have h2 := List.Nodup.length_le_of_subset (List.nodup_range (n := n)) (l₂ := A) (fun x hx => hf x (List.mem_range.1 hx))
  simp at h2
  omega
/-! ### Who holds one best -/
def AtB (M : Nat → Nat → Int) (v : Nat) (l : List Nat) (a : Int) : Prop :=
  (l = [] ∧ a = -1) ∨ ∃ p : Nat, p ∈ l ∧ a = (p : Int) ∧ ∀ u ∈ l, M u v ≤ M p v ∧ (M u v = M p v → p ≤ u)
theorem AtB.one {M : Nat → Nat → Int} {v : Nat} {l : List Nat} {a : Int} {p : Nat} (h : AtB M v l a) (hp : p ∈ l) (h1 : ∀ u ∈ l, M u v ≤ M p v) (h2 : ∀ u ∈ l, M u v = M p v → p ≤ u) : a = (p : Int) := by
  rcases h with ⟨rfl, _⟩ | ⟨q, hq, rfl, h⟩
  · simp at hp
  · have a1 := h p hp
    have a2 := h1 q hq
    have a3 := a1.2 (by omega)
    have a4 := h2 q hq (by omega)
    omega
section
variable {h : Heap} {n : Nat} {M : Nat → Nat → Int} {q : Option Addr} {c : Nat}
theorem MxV.at1 (k : MxV h q n M) {x v : Nat} (hx : x < n) (hv : v < n) : ∃ (a p : Addr) (d : Nat), q = some a ∧ cell h (a.add x) = some (.slice (some p) n d) ∧ cell h (p.add v) = some (.int .i64 (M x v)) := by
  obtain ⟨a, p, d, h1, h2, _, h3⟩ := k.row hx
  obtain ⟨b, rfl, h4⟩ := ints_at h3 hv
  exact ⟨a, b, d, h1, h2, h4⟩
theorem rtree_l2 {K6 : Bool → Int → Heap → Prop} {a2 y : Addr} {qc : Option Addr} {cc v : Nat} {best above : Int} {A : List Nat} (hn : n ≤ 4096) (k1 : MxV h q n M) (vA : valsAt h qc (natV A)) (hA : ∀ x ∈ A, x < n) (hAl : A.length ≤ 4096) (hv : v < n)
    (hk : ∀ a, AtB M v A a → K6 (decide (v ∈ A)) a h) :
    ∀ (d i : Nat) (t : Bool) (a : Int), i + d = A.length → t = decide (v ∈ A.take i) → AtB M v (A.take i) a → straitref35_Tree.l2 K6 (d + 1) q n c a2 (n : Int) y qc A.length cc best above (v : Int) t a (i : Int) h
  | 0, i, t, a, hi, ht, ha => by
    unfold straitref35_Tree.l2 straitref35_Tree.b2
    rw [List.take_of_length_le (by omega)] at ht ha
    subst ht
    exact iteB_neg (decide_eq_false (by omega)) (hk a ha)
  | d + 1, i, t, a, hi, ht, ha => by
    unfold straitref35_Tree.l2 straitref35_Tree.b2
    obtain ⟨x, hx⟩ := get_lt (l := A) (i := i) (by omega)
    have hxn := hA x (List.mem_of_getElem? hx)
    have etk := take_snoc hx
    obtain ⟨ac, hqc, gc⟩ := vA i (.int .i64 (x : Int)) (by unfold natV; rw [List.getElem?_map, hx]; rfl)
    obtain ⟨am, px, dx, hm, g1, g2⟩ := k1.at1 hxn hv
    refine iteB_pos (decide_eq_true (by omega)) ?_
    intro j
    have J : ∀ b : Bool, b = decide (v ∈ A.take (i + 1)) → j b := fun b hb => by
      simp -zeta only [j]
      subst hb
      intro j2
      have J2 : ∀ b2 : Bool, AtB M v (A.take (i + 1)) (if b2 = true then (x : Int) else a) → j2 b2 := fun b2 hb2 => by
        simp -zeta only [j2]
        rw [wrap64 (by omega) (by omega)]
        refine iteB_intro (fun e => ?_) fun e => ?_
        · rw [if_pos e] at hb2
          rw [hqc]
          simp -zeta only [chkP_some, Int.toNat_natCast, Nat.mul_one]
          rw [← hqc]
          exact ⟨by omega, _, gc, rtree_l2 hn k1 vA hA hAl hv hk d (i + 1) _ _ (by omega) rfl hb2⟩
        · rw [if_neg (by simp [e])] at hb2
          exact rtree_l2 hn k1 vA hA hAl hv hk d (i + 1) _ _ (by omega) rfl hb2
      clear_value j2
      rcases ha with ⟨e0, rfl⟩ | ⟨p, hp, rfl, hb⟩
      · refine iteB_pos (by decide) (J2 true ?_)
        rw [etk, e0, if_pos rfl]
        exact .inr ⟨x, by simp, rfl, fun u hu => by simp at hu; subst hu; exact ⟨Int.le_refl _, fun _ => Nat.le_refl _⟩⟩
      · have hpn := hA p (List.mem_of_mem_take hp)
        obtain ⟨am2, pp, dp, hm2, g3, g4⟩ := k1.at1 hpn hv
        rw [hm] at hm2
        obtain rfl := Option.some.inj hm2
        refine iteB_neg (decide_eq_false (by omega)) ?_
        rw [hqc, hm]
        simp -zeta only [chkP_some, Int.toNat_natCast, Nat.mul_one]
        refine ⟨by omega, _, gc, ?_⟩
        simp -zeta only [Int.toNat_natCast]
        refine ⟨by omega, _, _, _, g1, ?_⟩
        simp -zeta only [chkP_some]
        refine ⟨by omega, _, g2, by omega, _, _, _, g3, ?_⟩
        simp -zeta only [chkP_some]
        refine ⟨by omega, _, g4, iteB_intro (fun e => J2 true ?_) fun e => ?_⟩
        · have e := of_decide_eq_true e
          rw [etk, if_pos rfl]
          refine .inr ⟨x, by simp, rfl, fun u hu => ?_⟩
          rcases List.mem_append.1 hu with hu | hu
          · have := hb u hu; exact ⟨by omega, fun h => by omega⟩
          · simp at hu; subst hu; exact ⟨Int.le_refl _, fun _ => Nat.le_refl _⟩
        have e := of_decide_eq_false e
        refine ⟨by omega, _, gc, ?_⟩
        simp -zeta only [Int.toNat_natCast]
        refine ⟨by omega, _, _, _, g1, ?_⟩
        simp -zeta only [chkP_some]
        refine ⟨by omega, _, g2, by omega, _, _, _, g3, ?_⟩
        simp -zeta only [chkP_some]
        refine ⟨by omega, _, g4, iteB_intro (fun e2 => ⟨by omega, _, gc, J2 _ ?_⟩) fun e2 => J2 false ?_⟩
        · have e2 : M x v = M p v := by simpa using e2
          rw [etk]
          by_cases cx : x < p
          · rw [decide_eq_true (by omega), if_pos rfl]
            refine .inr ⟨x, by simp, rfl, fun u hu => ?_⟩
            rcases List.mem_append.1 hu with hu | hu
            · have := hb u hu; exact ⟨by omega, fun h => by have := this.2 (by omega); omega⟩
            · simp at hu; subst hu; exact ⟨Int.le_refl _, fun _ => Nat.le_refl _⟩
          · rw [decide_eq_false (by omega), if_neg (by decide)]
            refine .inr ⟨p, by simp [hp], rfl, fun u hu => ?_⟩
            rcases List.mem_append.1 hu with hu | hu
            · exact hb u hu
            · simp at hu; subst hu; exact ⟨by omega, fun _ => by omega⟩
        · have e2 : ¬ M x v = M p v := by simpa using e2
          rw [etk, if_neg (by decide)]
          refine .inr ⟨p, by simp [hp], rfl, fun u hu => ?_⟩
          rcases List.mem_append.1 hu with hu | hu
          · exact hb u hu
          · simp at hu; subst hu; exact ⟨by omega, fun h => absurd h e2⟩
    clear_value j
    refine iteB_intro (fun e => J true ?_) fun e => ?_
    · rw [ht] at e
      rw [etk]
      have := of_decide_eq_true e
      exact (decide_eq_true (List.mem_append.2 (.inl this))).symm
    · rw [hqc]
      simp -zeta only [chkP_some, Int.toNat_natCast, Nat.mul_one]
      refine ⟨by omega, _, gc, J _ ?_⟩
      rw [ht] at e
      have e := of_decide_eq_false e
      rw [etk]
      by_cases c : x = v
      · subst c
        rw [decide_eq_true (by simp)]; simp
      · rw [decide_eq_false (fun hm => by
          rcases List.mem_append.1 hm with hm | hm
          · exact e hm
          · simp at hm; exact c hm.symm)]
        simp; omega
/-- The best one so far, and what holds it. -/
def BtB (A : List Nat) (U W : Nat → Int) (i : Nat) (b a : Int) : Prop :=
  (b = -1 ∧ a = -1 ∧ ∀ x, x < i → x ∈ A) ∨ ∃ y : Nat, b = (y : Int) ∧ a = U y ∧ y < i ∧ y ∉ A ∧ ∀ x, x < i → x ∉ A → W x ≤ W y ∧ (W x = W y → y ≤ x)
theorem rtree_l1 {K4 : Int → Int → Heap → Prop} {a2 y : Addr} {qc : Option Addr} {cc : Nat} {A : List Nat} {U W : Nat → Int} {b0 : Int} (hn : n ≤ 4096) (k1 : MxV h q n M) (vA : valsAt h qc (natV A)) (I : PrimI M n A U W b0) (h0 : A ≠ []) (hAl : A.length ≤ 4096)
    (hk : ∀ b a, BtB A U W n b a → K4 b a h) :
    ∀ (d i : Nat) (b a : Int), i + d = n → BtB A U W i b a → straitref35_Tree.l1 K4 (d + 1) q n c a2 (n : Int) y qc A.length cc b a (i : Int) h
  | 0, i, b, a, hi, hb => by
    unfold straitref35_Tree.l1 straitref35_Tree.b1
    have : i = n := by omega
    subst this
    exact iteB_neg (decide_eq_false (by omega)) (hk b a hb)
  | d + 1, i, b, a, hi, hb => by
    unfold straitref35_Tree.l1 straitref35_Tree.b1
    have hin : i < n := by omega
    refine iteB_pos (decide_eq_true (by omega)) ?_
    intro j
    have J : ∀ b a, BtB A U W (i + 1) b a → j b a h := fun b a hb => by
      simp -zeta only [j]
      rw [wrap64 (by omega) (by omega)]
      exact rtree_l1 hn k1 vA I h0 hAl hk d (i + 1) b a (by omega) hb
    clear_value j
    have stay : i ∈ A → BtB A U W (i + 1) b a := fun hm => by
      rcases hb with ⟨h1, h2, h3⟩ | ⟨z, h1, h2, h3, h4, h5⟩
      · exact .inl ⟨h1, h2, fun x hx => by
          by_cases e : x = i
          · rw [e]; exact hm
          · exact h3 x (by omega)⟩
      · exact .inr ⟨z, h1, h2, by omega, h4, fun x hx hxA => by
          by_cases e : x = i
          · rw [e] at hxA; exact absurd hm hxA
          · exact h5 x (by omega) hxA⟩
    refine ⟨A.length + 1, rtree_l2 hn k1 vA I.lt hAl hin (fun t ht => ?_) A.length 0 false (-1) (by omega) (by simp) (.inl ⟨by simp, rfl⟩)⟩
    by_cases hm : i ∈ A
    · rw [decide_eq_true hm]
      exact iteB_neg rfl (J b a (stay hm))
    · rw [decide_eq_false hm]
      obtain ⟨p, hp, e1, e2, h4, h5⟩ := (I.waits i hin hm).some h0
      have et : t = (p : Int) := ht.one hp (fun u hu => by rw [← e2]; exact h4 u hu) (fun u hu he => h5 u hu (by rw [e2]; exact he))
      have et2 : t = U i := by rw [et, e1]
      refine iteB_pos rfl ?_
      rcases hb with ⟨rfl, rfl, h3⟩ | ⟨z, rfl, rfl, h3, h3', h6⟩
      · refine iteB_pos (by decide) (J _ _ (.inr ⟨i, rfl, et2, by omega, hm, fun x hx hxA => ?_⟩))
        by_cases e : x = i
        · subst e; exact ⟨Int.le_refl _, fun _ => Nat.le_refl _⟩
        · exact absurd (h3 x (by omega)) hxA
      · obtain ⟨pz, hpz, f1, f2, _, _⟩ := (I.waits z (by omega) h3').some h0
        obtain ⟨am, r1, d1, hm1, g1, g2⟩ := k1.at1 (I.lt p hp) hin
        obtain ⟨am2, r2, d2, hm2, g3, g4⟩ := k1.at1 (I.lt pz hpz) (show z < n by omega)
        rw [hm1] at hm2
        obtain rfl := Option.some.inj hm2
        have hpn := I.lt p hp
        have hpzn := I.lt pz hpz
        refine iteB_neg (decide_eq_false (by omega)) ?_
        rw [hm1, et, f1]
        simp -zeta only [chkP_some, Int.toNat_natCast, Nat.mul_one]
        refine ⟨by omega, _, _, _, g1, ?_⟩
        simp -zeta only [chkP_some]
        refine ⟨by omega, _, g2, by omega, _, _, _, g3, ?_⟩
        simp -zeta only [chkP_some]
        refine ⟨by omega, _, g4, ?_⟩
        rw [← e2, ← f2, ← f1, ← et, et2]
        refine iteB_intro (fun e => J _ _ (.inr ⟨i, rfl, rfl, by omega, hm, fun x hx hxA => ?_⟩)) fun e => J _ _ (.inr ⟨z, rfl, rfl, by omega, h3', fun x hx hxA => ?_⟩)
        · have e := of_decide_eq_true e
          by_cases ex : x = i
          · subst ex; exact ⟨Int.le_refl _, fun _ => Nat.le_refl _⟩
          · have := h6 x (by omega) hxA; exact ⟨by omega, fun h => by omega⟩
        · have e := of_decide_eq_false e
          by_cases ex : x = i
          · subst ex; exact ⟨by omega, fun _ => by omega⟩
          · exact h6 x (by omega) hxA
end
end Go.Proofs.Ytfidcekobjmamaa
