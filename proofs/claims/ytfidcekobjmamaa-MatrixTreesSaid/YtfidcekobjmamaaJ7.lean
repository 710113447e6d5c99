/-
  Matrices: the program's tree of a matrix, as it is grown.
-/
import Derived.Test.YtfidcekobjmamaaJ6
import Derived.Test.YtfidcekobjmamaaJ0
namespace Go.Proofs.Ytfidcekobjmamaa
set_option linter.unusedVariables false
set_option linter.unusedSimpArgs false
set_option linter.unnecessarySimpa false
open Go.Hp Go.RowKit
attribute [local irreducible] Go.Hp.iteB Go.Hp.stC Go.Hp.newP

def bools (n : Nat) (f : Nat → Bool) : List Value := tab 1 n fun i _ => .bool (f i)
theorem bools_length (n : Nat) (f : Nat → Bool) : (bools n f).length = n := by rw [bools, tab_length]; omega
theorem bools_get {n i : Nat} {f : Nat → Bool} (h : i < n) : (bools n f)[i]? = some (.bool (f i)) := by
  have := tab_get (w := 1) (f := fun i _ => Value.bool (f i)) h (show 0 < 1 by omega); rw [Nat.mul_one, Nat.add_zero] at this; exact this
theorem bools_set {n i : Nat} {f : Nat → Bool} {x : Bool} : (bools n f).set i (.bool x) = bools n (upd f i x) := by
  have := tab_set (w := 1) (n := n) (f := fun i _ => Value.bool (f i)) (i := i) (v := .bool x) (show 0 < 1 by omega); rw [Nat.mul_one, Nat.add_zero] at this
  unfold bools; rw [this]; apply tab_congr
  intro a o ha ho
  have : o = 0 := by omega
  subst this; unfold upd; by_cases e : a = i <;> simp [e]
theorem bools_zero (n : Nat) : zeroRow [.bool false] n = bools n fun _ => false := by
  rw [zeroRow_tab]; apply tab_congr; intro i o _ ho
  have : o = 0 := by simp at ho; omega
  subst this; rfl
/-- Is v better above u than what is there? -/
def better (M : Nat → Nat → Int) (v : Nat) (U W : Nat → Int) (u : Nat) : Bool := decide (U u < 0) || (decide (M v u > W u) || (M v u == W u) && decide ((v : Int) < U u))
def stU (M : Nat → Nat → Int) (v : Nat) (I : Nat → Bool) (U W : Nat → Int) (i : Nat) : Nat → Int := fun x => if x < i ∧ I x = false ∧ better M v U W x = true then (v : Int) else U x
def stW (M : Nat → Nat → Int) (v : Nat) (I : Nat → Bool) (U W : Nat → Int) (i : Nat) : Nat → Int := fun x => if x < i ∧ I x = false ∧ better M v U W x = true then M v x else W x
/-- The first one of the greatest, of those that are not in. -/
def bst (I : Nat → Bool) (W : Nat → Int) : Nat → Int
  | 0 => -1
  | i + 1 => if I i = true then bst I W i else if bst I W i < 0 then (i : Int) else if W i > W (bst I W i).toNat then (i : Int) else bst I W i
theorem bst_succ {I : Nat → Bool} {W : Nat → Int} {i : Nat} : bst I W (i + 1) = if I i = true then bst I W i else if bst I W i < 0 then (i : Int) else if W i > W (bst I W i).toNat then (i : Int) else bst I W i := rfl
theorem bst_range {I : Nat → Bool} {W : Nat → Int} : ∀ {i : Nat}, bst I W i = -1 ∨ ∃ b : Nat, bst I W i = (b : Int) ∧ b < i ∧ I b = false
  | 0 => .inl rfl
  | i + 1 => by
    have ih := bst_range (I := I) (W := W) (i := i)
    have up : (bst I W i = -1 ∨ ∃ b : Nat, bst I W i = (b : Int) ∧ b < i ∧ I b = false) → (bst I W i = -1 ∨ ∃ b : Nat, bst I W i = (b : Int) ∧ b < i + 1 ∧ I b = false) := by
      rintro (h | ⟨b, h1, h2, h3⟩)
      · exact .inl h
      · exact .inr ⟨b, h1, by omega, h3⟩
    unfold bst
    by_cases c : I i = true
    · rw [if_pos c]; exact up ih
    · rw [if_neg c]
      have c : I i = false := by simpa using c
      split
      · exact .inr ⟨i, rfl, by omega, c⟩
      · split
        · exact .inr ⟨i, rfl, by omega, c⟩
        · exact up ih
section
variable {M : Nat → Nat → Int} {v : Nat} {I : Nat → Bool} {U W : Nat → Int}
theorem stU_zero : stU M v I U W 0 = U := by funext x; exact if_neg (by omega)
theorem stW_zero : stW M v I U W 0 = W := by funext x; exact if_neg (by omega)
theorem stU_at {i : Nat} : stU M v I U W i i = U i := if_neg (by omega)
theorem stW_at {i : Nat} : stW M v I U W i i = W i := if_neg (by omega)
theorem stU_up {i : Nat} (h1 : I i = false) (h2 : better M v U W i = true) : upd (stU M v I U W i) i (v : Int) = stU M v I U W (i + 1) := by
  funext x
  unfold upd stU
  by_cases e : x = i
  · subst e; rw [if_pos rfl, if_pos ⟨by omega, h1, h2⟩]
  · rw [if_neg e]
    by_cases c : x < i ∧ I x = false ∧ better M v U W x = true
    · rw [if_pos c, if_pos ⟨by omega, c.2⟩]
    · rw [if_neg c, if_neg (fun h => c ⟨by omega, h.2⟩)]
theorem stW_up {i : Nat} (h1 : I i = false) (h2 : better M v U W i = true) : upd (stW M v I U W i) i (M v i) = stW M v I U W (i + 1) := by
  funext x
  unfold upd stW
  by_cases e : x = i
  · subst e; rw [if_pos rfl, if_pos ⟨by omega, h1, h2⟩]
  · rw [if_neg e]
    by_cases c : x < i ∧ I x = false ∧ better M v U W x = true
    · rw [if_pos c, if_pos ⟨by omega, c.2⟩]
    · rw [if_neg c, if_neg (fun h => c ⟨by omega, h.2⟩)]
theorem stU_no {i : Nat} (h : ¬ (I i = false ∧ better M v U W i = true)) : stU M v I U W i = stU M v I U W (i + 1) := by
  funext x
  unfold stU
  by_cases c : x < i ∧ I x = false ∧ better M v U W x = true
  · rw [if_pos c, if_pos ⟨by omega, c.2⟩]
  · rw [if_neg c, if_neg]
    rintro ⟨h1, h2⟩
    by_cases e : x = i
    · subst e; exact h h2
    · exact c ⟨by omega, h2⟩
theorem stW_no {i : Nat} (h : ¬ (I i = false ∧ better M v U W i = true)) : stW M v I U W i = stW M v I U W (i + 1) := by
  funext x
  unfold stW
  by_cases c : x < i ∧ I x = false ∧ better M v U W x = true
  · rw [if_pos c, if_pos ⟨by omega, c.2⟩]
  · rw [if_neg c, if_neg]
    rintro ⟨h1, h2⟩
    by_cases e : x = i
    · subst e; exact h h2
    · exact c ⟨by omega, h2⟩
theorem stW_early {i n x : Nat} (hx : x < i) (hi : i ≤ n) : stW M v I U W i x = stW M v I U W n x := by
  unfold stW
  by_cases c : I x = false ∧ better M v U W x = true
  · rw [if_pos ⟨hx, c⟩, if_pos ⟨by omega, c⟩]
  · rw [if_neg (fun h => c h.2), if_neg (fun h => c h.2)]
end
abbrev trw (ba bb bn y n : Nat) (U W : Nat → Int) (I : Nat → Bool) (R : Rws) : Rws :=
  (ba, ints n U) :: (bb, ints n W) :: (bn, bools n I) :: (y, [Value.slice (some ⟨ba, 0, none⟩) n n, .slice (some ⟨bb, 0, none⟩) n n]) :: R
section
variable {h0 : Base} {R : Rws} {n : Nat} {M : Nat → Nat → Int}
theorem tree_l2 {K7 : Int → Heap → Prop} {q : Option Addr} {c v ba bb bn y : Nat} {a2 : Addr} {I : Nat → Bool} {U W : Nat → Int} (hn : n ≤ 4096) (hv : v < n) (km : MxK h0 R q n M)
    (hk : ∀ h', St h0 h' (trw ba bb bn y n (stU M v I U W n) (stW M v I U W n) I R) → K7 (bst I (stW M v I U W n) n) h') :
    ∀ (d i : Nat) (h : Heap), i + d = n → St h0 h (trw ba bb bn y n (stU M v I U W i) (stW M v I U W i) I R) →
      matrix_Tree.l2 K7 (d + 1) q n c a2 (n : Int) ⟨y, 0, none⟩ ⟨bn, 0, none⟩ n n (v : Int) (bst I (stW M v I U W n) i) (n : Int) (i : Int) h
  | 0, i, h, hi, s => by
    unfold matrix_Tree.l2 matrix_Tree.b2
    have : i = n := by omega
    subst this
    exact iteB_neg (decide_eq_false (by omega)) (hk h s)
  | d + 1, i, h, hi, s => by
    unfold matrix_Tree.l2 matrix_Tree.b2
    have hin : i < n := by omega
    obtain ⟨a1, q1, d1, he, g2, hc, kr⟩ := km.row s (fun x hx => by simp [hx]) hv
    obtain ⟨ar, hr, g1⟩ := ints_at (kr h _ s fun x hx => by simp [hx]) (j := i) hin
    have rU : cell h ⟨ba, i, none⟩ = some (.int .i64 (U i)) := by rw [s.rd0, ints_get hin, stU_at]
    have rW : cell h ⟨bb, i, none⟩ = some (.int .i64 (W i)) := by rw [s.rd1, ints_get hin, stW_at]
    refine iteB_pos (decide_eq_true (by omega)) ?_
    intro jn
    have Jn : ∀ (b : Int) h', b = bst I (stW M v I U W n) (i + 1) → St h0 h' (trw ba bb bn y n (stU M v I U W (i + 1)) (stW M v I U W (i + 1)) I R) → jn b h' := fun b h' hb s' => by
      simp -zeta only [jn]
      rw [hb, wrap64 (by omega) (by omega)]
      exact tree_l2 hn hv km hk d (i + 1) h' (by omega) s'
    clear_value jn
    simp -zeta only [Int.toNat_natCast, Nat.mul_one, add_mk, Nat.zero_add]
    refine ⟨by omega, I i, by rw [s.rd2]; exact bools_get hin, ?_⟩
    refine iteB_intro (fun e => Jn _ h (by rw [bst_succ, if_pos e]) ?_) (fun e => ?_)
    · rw [← stU_no (i := i) (fun hh => by rw [e] at hh; exact absurd hh.1 (by simp)), ← stW_no (i := i) (fun hh => by rw [e] at hh; exact absurd hh.1 (by simp))]; exact s
    have e : I i = false := e
    intro jb
    have Jb : ∀ h', St h0 h' (trw ba bb bn y n (stU M v I U W (i + 1)) (stW M v I U W (i + 1)) I R) → jb h' := fun h' s' => by
      simp -zeta only [jb]
      refine iteB_intro (fun e2 => Jn _ h' (by rw [bst_succ, if_neg (by simp [e]), if_pos (of_decide_eq_true e2)]) s') fun e2 => ?_
      have e2 := of_decide_eq_false e2
      obtain ⟨b, hb, hbi, hIb⟩ := (bst_range (I := I) (W := stW M v I U W n) (i := i)).resolve_left (by omega)
      rw [hb]
      refine ⟨_, _, _, s'.rd3 1, ?_⟩
      simp -zeta only [chkP_some, Int.toNat_natCast, Nat.mul_one, add_mk, Nat.zero_add]
      refine ⟨by omega, stW M v I U W n i, by rw [s'.rd1, ints_get hin, stW_early (n := n) (by omega) (by omega)], _, _, _, s'.rd3 1, ?_⟩
      simp -zeta only [chkP_some, Int.toNat_natCast, Nat.mul_one, add_mk, Nat.zero_add]
      refine ⟨by omega, stW M v I U W n b, by rw [s'.rd1, ints_get (i := b) (by omega), stW_early (n := n) (by omega) (by omega)], ?_⟩
      refine iteB_intro (fun e3 => Jn _ h' ?_ s') (fun e3 => Jn _ h' ?_ s')
      · rw [bst_succ, if_neg (by simp [e]), if_neg e2, hb, Int.toNat_natCast, if_pos (of_decide_eq_true e3)]
      · rw [bst_succ, if_neg (by simp [e]), if_neg e2, hb, Int.toNat_natCast, if_neg (of_decide_eq_false e3)]
    clear_value jb
    refine ⟨_, _, _, s.rd3 0, ?_⟩
    simp -zeta only [chkP_some, Int.toNat_natCast, Nat.mul_one, add_mk, Nat.zero_add]
    refine ⟨by omega, _, rU, ?_⟩
    intro jt
    have Jt : ∀ b : Bool, b = better M v U W i → jt b := fun b hb => by
      simp -zeta only [jt]
      subst hb
      refine iteB_intro (fun e2 => ?_) (fun e2 => Jb h ?_)
      · refine ⟨_, _, _, s.rd3 0, ?_⟩
        rw [he]
        simp -zeta only [chkP_some, Int.toNat_natCast, Nat.mul_one, add_mk, Nat.zero_add]
        refine ⟨by omega, _, _, _, g2, ?_⟩
        rw [hr]
        simp -zeta only [chkP_some, Int.toNat_natCast, Nat.mul_one, add_mk, Nat.zero_add]
        refine ⟨by omega, _, g1, by omega, _, _, _, s.rd3 1, s.st0 (by rw [ints_length]; exact hin) fun h2 s2 => ⟨⟨_, _, _, s2.rd3 1, rfl⟩, ?_⟩⟩
        simp -zeta only [chkP_some, Int.toNat_natCast, Nat.mul_one, add_mk, Nat.zero_add]
        refine ⟨by omega, s2.st1 (by rw [ints_length]; exact hin) fun h3 s3 => Jb h3 ?_⟩
        simp only [ints_set, stU_up e e2, stW_up e e2] at s3
        first | exact s3 | exact s3.pull1
      · rw [← stU_no (i := i) (fun hh => by rw [e2] at hh; exact absurd hh.2 (by simp)), ← stW_no (i := i) (fun hh => by rw [e2] at hh; exact absurd hh.2 (by simp))]; exact s
    clear_value jt
    refine iteB_intro (fun e2 => Jt _ (by unfold better; rw [e2]; rfl)) (fun e2 => ?_)
    rw [he]
    simp -zeta only [chkP_some, Int.toNat_natCast, Nat.mul_one, add_mk, Nat.zero_add]
    have g2' := g2
    refine ⟨by omega, _, _, _, g2, ?_⟩
    rw [hr]
    simp -zeta only [chkP_some, Int.toNat_natCast, Nat.mul_one, add_mk, Nat.zero_add]
    refine ⟨by omega, _, g1, _, _, _, s.rd3 1, ?_⟩
    simp -zeta only [chkP_some, Int.toNat_natCast, Nat.mul_one, add_mk, Nat.zero_add]
    refine ⟨by omega, _, rW, ?_⟩
    refine iteB_intro (fun e3 => Jt _ (by unfold better; rw [e2, e3]; rfl)) (fun e3 => ?_)
    refine ⟨by omega, _, _, _, g2, ?_⟩
    rw [hr]
    simp -zeta only [chkP_some, Int.toNat_natCast, Nat.mul_one, add_mk, Nat.zero_add]
    refine ⟨by omega, _, g1, _, _, _, s.rd3 1, ?_⟩
    simp -zeta only [chkP_some, Int.toNat_natCast, Nat.mul_one, add_mk, Nat.zero_add]
    refine ⟨by omega, _, rW, ?_⟩
    refine iteB_intro (fun e4 => Jt _ (by unfold better; rw [e2, e3, e4]; rfl)) (fun e4 => Jt _ (by unfold better; rw [e2, e3, e4]; rfl))
end
end Go.Proofs.Ytfidcekobjmamaa
