/-
  Matrices: the program's tree of a matrix, whole.
-/
import Derived.Test.YtfidcekobjmamaaJ7
namespace Go.Proofs.Ytfidcekobjmamaa
set_option linter.unusedVariables false
set_option linter.unusedSimpArgs false
set_option linter.unnecessarySimpa false
open Go.Hp Go.RowKit
attribute [local irreducible] Go.Hp.iteB Go.Hp.stC Go.Hp.newP

def inA (A : List Nat) : Nat → Bool := fun x => decide (x ∈ A)
theorem inA_snoc {A : List Nat} {v : Nat} : upd (inA A) v true = inA (A ++ [v]) := by
  funext x
  unfold upd inA
  by_cases e : x = v
  · rw [if_pos e]; simp [e]
  · rw [if_neg e]; simp [e]
/-- How the tree is grown: what is in, what is above each, by how much, and what comes next. -/
inductive PrimR (M : Nat → Nat → Int) (n : Nat) : List Nat → (Nat → Int) → (Nat → Int) → Int → Prop
  | start : PrimR M n [] (fun _ => -1) (fun _ => 0) 0
  | step {A : List Nat} {U W : Nat → Int} {v : Nat} : PrimR M n A U W (v : Int) → v < n →
      PrimR M n (A ++ [v]) (stU M v (inA (A ++ [v])) U W n) (stW M v (inA (A ++ [v])) U W n) (bst (inA (A ++ [v])) (stW M v (inA (A ++ [v])) U W n) n)
theorem PrimR.next {M : Nat → Nat → Int} {n : Nat} {A : List Nat} {U W : Nat → Int} {b : Int} (p : PrimR M n A U W b) :
    A.Nodup ∧ (∀ x ∈ A, x < n) ∧ ∀ v : Nat, b = (v : Int) → 0 < n → v < n ∧ v ∉ A := by
  induction p with
  | start => exact ⟨List.nodup_nil, (by intro x hx; cases hx), fun v e h => ⟨by omega, by simp⟩⟩
  | @step A U W v p hv ih =>
    obtain ⟨i1, i2, i3⟩ := ih
    obtain ⟨_, hvA⟩ := i3 v rfl (by omega)
    refine ⟨List.nodup_append.2 ⟨i1, by simp, ?_⟩, ?_, ?_⟩
    · intro x hx y hy e; simp at hy; subst hy; subst e; exact hvA hx
    · intro x hx
      rcases List.mem_append.1 hx with hx | hx
      · exact i2 x hx
      · simp at hx; omega
    · intro w e _
      rcases bst_range (I := inA (A ++ [v])) (W := stW M v (inA (A ++ [v])) U W n) (i := n) with h | ⟨b, h1, h2, h3⟩
      · omega
      · have : b = w := by omega
        subst this
        exact ⟨h2, of_decide_eq_false h3⟩
/-! ### Two rows and their box, in any order -/
section
variable {h0 : Base} {R : Rws} {n : Nat} {j : Addr → Heap → Prop}
theorem six_end {h : Heap} {y ba bb : Nat} (s : St h0 h ((y, [Value.slice none 0 0, .slice none 0 0]) :: (ba, zeroRow [.int .i64 0] n) :: (bb, zeroRow [.int .i64 0] n) :: R))
    (J : ∀ y ba bb h', St h0 h' ((ba, ints n fun _ => 0) :: (bb, ints n fun _ => 0) :: (y, [Value.slice (some ⟨ba, 0, none⟩) n n, .slice (some ⟨bb, 0, none⟩) n n]) :: R) → j ⟨y, 0, none⟩ h') :
    stC h ⟨y, 0, none⟩ (.slice (some ⟨ba, 0, none⟩) n n) fun h1 => stC h1 ((⟨y, 0, none⟩ : Addr).add 1) (.slice (some ⟨bb, 0, none⟩) n n) fun h2 => j ⟨y, 0, none⟩ h2 := by
  rw [ints_zero] at s
  refine s.st0 (by simp) fun h1 s1 => ?_
  rw [add_mk, Nat.zero_add]
  refine s1.st0 (by simp) fun h2 s2 => J y ba bb h2 ?_
  exact s2.pull2.pull2
theorem six_of {h : Heap} (hn : n ≤ 4096) (s : St h0 h R)
    (J : ∀ y ba bb h', St h0 h' ((ba, ints n fun _ => 0) :: (bb, ints n fun _ => 0) :: (y, [Value.slice (some ⟨ba, 0, none⟩) n n, .slice (some ⟨bb, 0, none⟩) n n]) :: R) → j ⟨y, 0, none⟩ h') :
    ((0 ≤ (n : Int) ∧ (n : Int) ≤ (n : Int) ∧ (n : Int) * (8 : Nat) ≤ 2 ^ 47 ∧ (n : Int) ≤ 2 ^ 47) ∧ newP h (.cells (zeroRow [(.int .i64 0)] n).toArray 3) fun a h1 =>
        ((0 ≤ (n : Int) ∧ (n : Int) ≤ (n : Int) ∧ (n : Int) * (8 : Nat) ≤ 2 ^ 47 ∧ (n : Int) ≤ 2 ^ 47) ∧ newP h1 (.cells (zeroRow [(.int .i64 0)] n).toArray 2) fun b h2 => newP h2 (.cells #[(.slice none 0 0), (.slice none 0 0)] 25) fun y h3 => stC h3 y (.slice (some a) n n) fun h4 => stC h4 (y.add 1) (.slice (some b) n n) fun h5 => j y h5) ∧
        (newP h1 (.cells #[(.slice none 0 0), (.slice none 0 0)] 25) fun y h2 => (0 ≤ (n : Int) ∧ (n : Int) ≤ (n : Int) ∧ (n : Int) * (8 : Nat) ≤ 2 ^ 47 ∧ (n : Int) ≤ 2 ^ 47) ∧ newP h2 (.cells (zeroRow [(.int .i64 0)] n).toArray 2) fun b h3 => stC h3 y (.slice (some a) n n) fun h4 => stC h4 (y.add 1) (.slice (some b) n n) fun h5 => j y h5)) ∧
      ((0 ≤ (n : Int) ∧ (n : Int) ≤ (n : Int) ∧ (n : Int) * (8 : Nat) ≤ 2 ^ 47 ∧ (n : Int) ≤ 2 ^ 47) ∧ newP h (.cells (zeroRow [(.int .i64 0)] n).toArray 2) fun b h1 =>
        ((0 ≤ (n : Int) ∧ (n : Int) ≤ (n : Int) ∧ (n : Int) * (8 : Nat) ≤ 2 ^ 47 ∧ (n : Int) ≤ 2 ^ 47) ∧ newP h1 (.cells (zeroRow [(.int .i64 0)] n).toArray 3) fun a h2 => newP h2 (.cells #[(.slice none 0 0), (.slice none 0 0)] 25) fun y h3 => stC h3 y (.slice (some a) n n) fun h4 => stC h4 (y.add 1) (.slice (some b) n n) fun h5 => j y h5) ∧
        (newP h1 (.cells #[(.slice none 0 0), (.slice none 0 0)] 25) fun y h2 => (0 ≤ (n : Int) ∧ (n : Int) ≤ (n : Int) ∧ (n : Int) * (8 : Nat) ≤ 2 ^ 47 ∧ (n : Int) ≤ 2 ^ 47) ∧ newP h2 (.cells (zeroRow [(.int .i64 0)] n).toArray 3) fun a h3 => stC h3 y (.slice (some a) n n) fun h4 => stC h4 (y.add 1) (.slice (some b) n n) fun h5 => j y h5)) ∧
      (newP h (.cells #[(.slice none 0 0), (.slice none 0 0)] 25) fun y h1 =>
        ((0 ≤ (n : Int) ∧ (n : Int) ≤ (n : Int) ∧ (n : Int) * (8 : Nat) ≤ 2 ^ 47 ∧ (n : Int) ≤ 2 ^ 47) ∧ newP h1 (.cells (zeroRow [(.int .i64 0)] n).toArray 3) fun a h2 => (0 ≤ (n : Int) ∧ (n : Int) ≤ (n : Int) ∧ (n : Int) * (8 : Nat) ≤ 2 ^ 47 ∧ (n : Int) ≤ 2 ^ 47) ∧ newP h2 (.cells (zeroRow [(.int .i64 0)] n).toArray 2) fun b h3 => stC h3 y (.slice (some a) n n) fun h4 => stC h4 (y.add 1) (.slice (some b) n n) fun h5 => j y h5) ∧
        ((0 ≤ (n : Int) ∧ (n : Int) ≤ (n : Int) ∧ (n : Int) * (8 : Nat) ≤ 2 ^ 47 ∧ (n : Int) ≤ 2 ^ 47) ∧ newP h1 (.cells (zeroRow [(.int .i64 0)] n).toArray 2) fun b h2 => (0 ≤ (n : Int) ∧ (n : Int) ≤ (n : Int) ∧ (n : Int) * (8 : Nat) ≤ 2 ^ 47 ∧ (n : Int) ≤ 2 ^ 47) ∧ newP h2 (.cells (zeroRow [(.int .i64 0)] n).toArray 3) fun a h3 => stC h3 y (.slice (some a) n n) fun h4 => stC h4 (y.add 1) (.slice (some b) n n) fun h5 => j y h5)) := by
  have hB : 0 ≤ (n : Int) ∧ (n : Int) ≤ (n : Int) ∧ (n : Int) * (8 : Nat) ≤ 2 ^ 47 ∧ (n : Int) ≤ 2 ^ 47 := ⟨by omega, by omega, by omega, by omega⟩
  refine ⟨⟨hB, s.new_ fun a h1 s1 => ⟨⟨hB, s1.new_ fun b h2 s2 => s2.new_ fun y h3 s3 => ?_⟩, s1.new_ fun y h2 s2 => ⟨hB, s2.new_ fun b h3 s3 => ?_⟩⟩⟩,
    ⟨hB, s.new_ fun b h1 s1 => ⟨⟨hB, s1.new_ fun a h2 s2 => s2.new_ fun y h3 s3 => ?_⟩, s1.new_ fun y h2 s2 => ⟨hB, s2.new_ fun a h3 s3 => ?_⟩⟩⟩,
    s.new_ fun y h1 s1 => ⟨⟨hB, s1.new_ fun a h2 s2 => ⟨hB, s2.new_ fun b h3 s3 => ?_⟩⟩, ⟨hB, s1.new_ fun b h2 s2 => ⟨hB, s2.new_ fun a h3 s3 => ?_⟩⟩⟩⟩
  · exact six_end (ba := a) (bb := b) s3.pull1.pull2.pull2 J
  · exact six_end (ba := a) (bb := b) s3.pull2.pull2 J
  · exact six_end (ba := a) (bb := b) s3 J
  · exact six_end (ba := a) (bb := b) s3.pull2.pull1.pull2 J
  · exact six_end (ba := a) (bb := b) s3.pull1.pull2 J
  · exact six_end (ba := a) (bb := b) s3.pull1.pull1.pull2 J
end
section
variable {h0 : Base} {R : Rws} {n : Nat} {M : Nat → Nat → Int}
theorem tree_l1 {K5 : Heap → Prop} {q : Option Addr} {c ba bb bn y : Nat} {a2 : Addr} (hn : n ≤ 4096) (km : MxK h0 R q n M)
    (hk : ∀ h' A U W b, PrimR M n A U W b → b < 0 ∨ n = 0 → St h0 h' (trw ba bb bn y n U W (inA A) R) → K5 h') :
    ∀ (d : Nat) (h : Heap) (A : List Nat) (U W : Nat → Int) (b : Int), A.length + d = n → PrimR M n A U W b → St h0 h (trw ba bb bn y n U W (inA A) R) →
      matrix_Tree.l1 K5 (d + 1) q n c a2 (n : Int) ⟨y, 0, none⟩ ⟨bn, 0, none⟩ n n b h := by
  intro d
  induction d with
  | zero =>
    intro h A U W b hi p s
    unfold matrix_Tree.l1 matrix_Tree.b1
    intro j
    refine iteB_intro (fun e => iteB_intro (fun e2 => ?_) fun e2 => ?_) fun e => ?_
    · have e := of_decide_eq_true e
      have e2 := of_decide_eq_true e2
      obtain ⟨p1, p2, p3⟩ := p.next
      obtain ⟨h1, h2⟩ := p3 b.toNat (by omega) (by omega)
      have := nodup_le (n := n) (l := b.toNat :: A) (List.nodup_cons.2 ⟨h2, p1⟩) (fun x hx => by
        rcases List.mem_cons.1 hx with rfl | hx
        · exact h1
        · exact p2 x hx)
      simp at this
      omega
    · have e2 := of_decide_eq_false e2
      exact hk h A U W b p (.inr (by omega)) s
    · have e := of_decide_eq_false e
      exact hk h A U W b p (.inl (by omega)) s
  | succ d ih =>
    intro h A U W b hi p s
    unfold matrix_Tree.l1 matrix_Tree.b1
    intro j
    refine iteB_intro (fun e => iteB_intro (fun e2 => ?_) fun e2 => ?_) fun e => ?_
    · have e := of_decide_eq_true e
      have e2 := of_decide_eq_true e2
      obtain ⟨v, rfl⟩ : ∃ v : Nat, b = (v : Int) := ⟨b.toNat, by omega⟩
      obtain ⟨p1, p2, p3⟩ := p.next
      obtain ⟨h1, h2⟩ := p3 v rfl (by omega)
      simp -zeta only [j, Int.toNat_natCast, Nat.mul_one, add_mk, Nat.zero_add]
      refine ⟨by omega, s.st2 (by rw [bools_length]; exact h1) fun h2 s2 => ⟨n + 1, ?_⟩⟩
      have s2 : St h0 h2 (trw ba bb bn y n U W (inA (A ++ [v])) R) := by
        rw [bools_set, inA_snoc] at s2
        exact s2
      have s3 : St h0 h2 (trw ba bb bn y n (stU M v (inA (A ++ [v])) U W 0) (stW M v (inA (A ++ [v])) U W 0) (inA (A ++ [v])) R) := by
        rw [stU_zero, stW_zero]; exact s2
      exact tree_l2 hn h1 km (fun h4 s4 => ih h4 (A ++ [v]) _ _ _ (by simp; omega) (.step p h1) s4) n 0 h2 (by omega) s3
    · have e2 := of_decide_eq_false e2
      exact hk h A U W b p (.inr (by omega)) s
    · have e := of_decide_eq_false e
      exact hk h A U W b p (.inl (by omega)) s
theorem tree_l0 {K3 : Heap → Prop} {q : Option Addr} {c ba bb bn y : Nat} {a2 : Addr} (hn : n ≤ 4096)
    (hk : ∀ h', St h0 h' (trw ba bb bn y n (fun _ => -1) (fun _ => 0) (fun _ => false) R) → K3 h') :
    ∀ (d i : Nat) (h : Heap), i + d = n → St h0 h (trw ba bb bn y n (fun x => if x < i then -1 else 0) (fun _ => 0) (fun _ => false) R) →
      matrix_Tree.l0 K3 (d + 1) q n c a2 (n : Int) ⟨y, 0, none⟩ ⟨bn, 0, none⟩ n n (n : Int) (i : Int) h
  | 0, i, h, hi, s => by
    unfold matrix_Tree.l0 matrix_Tree.b0
    have : i = n := by omega
    subst this
    have e : ints i (fun x => if x < i then -1 else 0) = ints i fun _ => -1 := ints_congr fun x hx => if_pos hx
    unfold trw at s
    rw [e] at s
    exact iteB_neg (decide_eq_false (by omega)) (hk h s)
  | d + 1, i, h, hi, s => by
    unfold matrix_Tree.l0 matrix_Tree.b0
    refine iteB_pos (decide_eq_true (by omega)) ⟨_, _, _, s.rd3 0, ?_⟩
    simp -zeta only [chkP_some, Int.toNat_natCast, Nat.mul_one, add_mk, Nat.zero_add]
    refine ⟨by omega, s.st0 (by rw [ints_length]; omega) fun h2 s2 => ?_⟩
    rw [wrap64 (by omega) (by omega)]
    refine tree_l0 hn hk d (i + 1) h2 (by omega) ?_
    rw [ints_set] at s2
    have e : ints n (upd (fun x => if x < i then -1 else 0) i (-1)) = ints n fun x => if x < i + 1 then -1 else 0 := ints_congr fun x hx => by
      show (if x = i then (-1 : Int) else if x < i then -1 else 0) = if x < i + 1 then -1 else 0
      by_cases c : x = i
      · rw [if_pos c, if_pos (by omega)]
      · rw [if_neg c]
        by_cases c2 : x < i
        · rw [if_pos c2, if_pos (by omega)]
        · rw [if_neg c2, if_neg (by omega)]
    rw [e] at s2
    exact s2
theorem Tree_of {h : Heap} {q : Option Addr} {c : Nat} {K : Option Addr → Nat → Nat → Option Addr → Nat → Nat → Int → Heap → Prop} (hn : n ≤ 256) (u : UltraM n M) (km : MxK h0 R q n M) (s : St h0 h R)
    (hk : ∀ h' A U W b ba bb Y, PrimR M n A U W b → b < 0 ∨ n = 0 → St h0 h' ((ba, ints n U) :: (bb, ints n W) :: (Y ++ R)) → K (some ⟨ba, 0, none⟩) n n (some ⟨bb, 0, none⟩) n n 0 h') : matrix_Tree q n c h K := by
  unfold matrix_Tree
  refine s.new_ fun t h1 s1 => iteB_neg (decide_eq_false (by omega)) (qcallP1.of true (fun Q hQ => Ultra_of u (km.at_ s1 fun x hx => by simp [hx]) hn hQ) (iteB_neg rfl ?_))
  intro j
  have J : ∀ y ba bb h', St h0 h' ((ba, ints n fun _ => 0) :: (bb, ints n fun _ => 0) :: (y, [Value.slice (some ⟨ba, 0, none⟩) n n, .slice (some ⟨bb, 0, none⟩) n n]) :: (t, [.slice none 0 0, .slice none 0 0]) :: R) → j ⟨y, 0, none⟩ h' := fun y ba bb h2 s2 => by
    simp -zeta only [j]
    refine ⟨⟨by omega, by omega, by omega, by omega⟩, s2.new_ fun bn h3 s3 => ?_⟩
    rw [Int.toNat_natCast, bools_zero] at s3
    rw [Int.toNat_natCast]
    have s4 : St h0 h3 (trw ba bb bn y n (fun x => if x < 0 then -1 else 0) (fun _ => 0) (fun _ => false) ((t, [.slice none 0 0, .slice none 0 0]) :: R)) := by
      have e : ints n (fun x => if x < 0 then -1 else 0) = ints n fun _ => 0 := ints_congr fun x hx => if_neg (by omega)
      unfold trw
      rw [e]
      exact s3.pull2.pull2
    refine ⟨n + 1, tree_l0 (by omega) (fun h5 s5 => ⟨n + 1, tree_l1 (by omega) (km.sub fun x hx => List.mem_cons_of_mem _ hx) (fun h6 A U W b p hb s6 => ?_) n h5 [] _ _ 0 (by simp) .start s5⟩) n 0 h3 (by omega) s4⟩
    refine ⟨_, _, _, s6.rd3 0, _, _, _, s6.rd3 1, s6.st4 (by simp) fun h7 s7 => ?_⟩
    refine s7.st4 (by simp) fun h8 s8 => ⟨_, _, _, s8.rd4 0, _, _, _, s8.rd4 1, ?_⟩
    exact hk h8 A U W b ba bb ([(bn, bools n (inA A)), (y, [Value.slice (some ⟨ba, 0, none⟩) n n, .slice (some ⟨bb, 0, none⟩) n n]), (t, [Value.slice (some ⟨ba, 0, none⟩) n n, .slice (some ⟨bb, 0, none⟩) n n])]) p hb s8
  clear_value j
  simp -zeta only [Int.toNat_natCast]
  exact six_of (j := j) (by omega) s1 J
end
end Go.Proofs.Ytfidcekobjmamaa
