/-
  Matrices: the document's tree of a matrix of cuts, whole.
-/
import Derived.Test.YtfidcekobjmamaaJH
namespace Go.Proofs.Ytfidcekobjmamaa
set_option linter.unusedVariables false
set_option linter.unusedSimpArgs false
set_option linter.unnecessarySimpa false
open Go.Hp Go.RowKit
attribute [local irreducible] Go.Hp.iteB Go.Hp.stC Go.Hp.newP
def msk (A : List Nat) (U : Nat → Int) : Nat → Int := fun x => if x ∈ A then U x else 0
theorem full_len {n : Nat} {A : List Nat} (nd : A.Nodup) (hl : ∀ x ∈ A, x < n) (he : A.length = n) : ∀ x, x < n → x ∈ A := fun x hx => by
  apply Classical.byContradiction
  intro h
  have := nodup_le (n := n) (l := x :: A) (List.nodup_cons.2 ⟨h, nd⟩) (fun y hy => by
    rcases List.mem_cons.1 hy with rfl | hy
    · exact hx
    · exact hl y hy)
  simp at this
  omega
theorem natV_snoc' (A : List Nat) (v : Nat) : natV A ++ [Value.int .i64 (v : Int)] = natV (A ++ [v]) := by simp [natV]
section
variable {h0 : Base} {R : Rws} {n : Nat} {M : Nat → Nat → Int}
theorem rtree_l0 {K2 : Heap → Prop} {q : Option Addr} {c ba bb y : Nat} {a2 : Addr} (hn : n ≤ 256) (km : MxK h0 R q n M) (hy : (y, [Value.slice (some ⟨ba, 0, none⟩) n n, .slice (some ⟨bb, 0, none⟩) n n]) ∈ R)
    (hk : ∀ h' A U W b Y, PrimR M n A U W b → A.length = n → St h0 h' ((ba, ints n U) :: (bb, ints n W) :: (Y ++ R)) → K2 h') :
    ∀ (d : Nat) (h : Heap) (A : List Nat) (U W : Nat → Int) (b : Int) (qc : Option Addr) (cc : Nat) (X : Rws), A.length + d = n → A ≠ [] → PrimR M n A U W b → Own qc cc (natV A) X → St h0 h (X ++ ((ba, ints n (msk A U)) :: (bb, ints n (msk A W)) :: R)) →
      straitref35_Tree.l0 K2 (d + 1) q n c a2 (n : Int) ⟨y, 0, none⟩ qc A.length cc h := by
  intro d
  induction d with
  | zero =>
    intro h A U W b qc cc X hi hA p o s
    unfold straitref35_Tree.l0 straitref35_Tree.b0
    have hf := full_len p.inv.nd p.inv.lt (by omega)
    have e1 : ints n (msk A U) = ints n U := ints_congr fun x hx => if_pos (hf x hx)
    have e2 : ints n (msk A W) = ints n W := ints_congr fun x hx => if_pos (hf x hx)
    rw [e1, e2] at s
    exact iteB_neg (decide_eq_false (by omega)) (hk h A U W b X p (by omega) (St.re s (by intro a; simp only [cntR_append, cntR_cons, cntR_nil, List.cons_append, List.nil_append, List.set_cons_zero, List.set_cons_succ]; omega)))
  | succ d ih =>
    intro h A U W b qc cc X hi hA p o s
    unfold straitref35_Tree.l0 straitref35_Tree.b0
    have I := p.inv
    have hAn := nodup_le I.nd I.lt
    have vA : valsAt h qc (natV A) := o.vals s
    have k1 := km.at_ s fun x hx => by simp [hx]
    refine iteB_pos (decide_eq_true (by omega)) ⟨n + 1, rtree_l1 (U := U) (W := W) (by omega) k1 vA I hA (by omega) (fun z a hz => ?_) n 0 (-1) (-1) (by omega) (.inl ⟨rfl, rfl, fun x hx => by omega⟩)⟩
    rcases hz with ⟨_, _, hall⟩ | ⟨v, rfl, rfl, hvn, hvA, hmax⟩
    · have := p.len hall; omega
    -- it is the next one of the program's
    have hb : b = (v : Int) := by
      rcases I.next.2 hA with ⟨_, hall⟩ | ⟨v2, rfl, h2, h3, h4⟩
      · exact absurd (hall v hvn) hvA
      · have a1 := hmax v2 h2 h3
        have a2 := h4 v hvn hvA
        have a3 := a1.2 (by omega)
        have a4 := a2.2 (by omega)
        omega
    subst hb
    obtain ⟨pp, hpp, e1, e2, _, _⟩ := (I.waits v hvn hvA).some hA
    have hppn := I.lt pp hpp
    have p' := PrimR.step p hvn
    refine Own.push1 o s (by simp [natV]) rfl (by simp [natV]; omega) fun q2 c3 X2 h2 o2 s2 => ?_
    rw [natV_snoc'] at o2
    have ry : ∀ j, cell h2 ⟨y, j, none⟩ = [Value.slice (some ⟨ba, 0, none⟩) n n, .slice (some ⟨bb, 0, none⟩) n n][j]? := s2.rd (by simp [hy])
    refine ⟨_, _, _, ry 0, ?_⟩
    simp -zeta only [chkP_some, Int.toNat_natCast, Nat.mul_one, add_mk, Nat.zero_add]
    have s3 : St h0 h2 ((ba, ints n (msk A U)) :: (bb, ints n (msk A W)) :: (X2 ++ R)) := (St.re s2 (by intro a; simp only [cntR_append, cntR_cons, cntR_nil, List.cons_append, List.nil_append, List.set_cons_zero, List.set_cons_succ]; omega))
    refine ⟨by omega, s3.st0 (by rw [ints_length]; exact hvn) fun h4 s4 => ?_⟩
    have ry4 : ∀ j, cell h4 ⟨y, j, none⟩ = [Value.slice (some ⟨ba, 0, none⟩) n n, .slice (some ⟨bb, 0, none⟩) n n][j]? := s4.rd (by simp [hy])
    obtain ⟨am, r1, d1, hm1, g1, g2⟩ := (km.at_ s4 fun x hx => by simp [hx]).at1 hppn hvn
    refine ⟨_, _, _, ry4 1, ?_⟩
    rw [hm1, e1]
    simp -zeta only [chkP_some, Int.toNat_natCast, Nat.mul_one, add_mk, Nat.zero_add]
    refine ⟨by omega, _, _, _, g1, ?_⟩
    simp -zeta only [chkP_some]
    refine ⟨by omega, _, g2, by omega, s4.st1 (by rw [ints_length]; exact hvn) fun h5 s5 => ?_⟩
    rw [← hm1]
    have el : (natV A).length + 1 = (A ++ [v]).length := by simp [natV]
    rw [el]
    have keepU : ∀ x ∈ A ++ [v], stU M v (inA (A ++ [v])) U W n x = U x := fun x hx => if_neg fun h => by
      have := h.2.1; unfold inA at this; exact of_decide_eq_false this hx
    have keepW : ∀ x ∈ A ++ [v], stW M v (inA (A ++ [v])) U W n x = W x := fun x hx => if_neg fun h => by
      have := h.2.1; unfold inA at this; exact of_decide_eq_false this hx
    refine ih h5 (A ++ [v]) _ _ _ q2 c3 X2 (by simp; omega) (by simp) p' o2 ?_
    rw [ints_set, ints_set] at s5
    have f1 : ints n (upd (msk A U) v (U v)) = ints n (msk (A ++ [v]) (stU M v (inA (A ++ [v])) U W n)) := ints_congr fun x hx => by
      unfold upd msk
      by_cases e : x = v
      · subst e; rw [if_pos rfl, if_pos (by simp), keepU x (by simp)]
      · rw [if_neg e]
        by_cases hm : x ∈ A
        · rw [if_pos hm, if_pos (by simp [hm]), keepU x (by simp [hm])]
        · rw [if_neg hm, if_neg (by simp [hm, e])]
    have f2 : ints n (upd (msk A W) v (W v)) = ints n (msk (A ++ [v]) (stW M v (inA (A ++ [v])) U W n)) := ints_congr fun x hx => by
      unfold upd msk
      by_cases e : x = v
      · subst e; rw [if_pos rfl, if_pos (by simp), keepW x (by simp)]
      · rw [if_neg e]
        by_cases hm : x ∈ A
        · rw [if_pos hm, if_pos (by simp [hm]), keepW x (by simp [hm])]
        · rw [if_neg hm, if_neg (by simp [hm, e])]
    rw [← e2, f1, f2] at s5
    exact (St.re s5 (by intro a; simp only [cntR_append, cntR_cons, cntR_nil, List.cons_append, List.nil_append, List.set_cons_zero, List.set_cons_succ]; omega))
theorem RTree_of {h : Heap} {q : Option Addr} {c : Nat} {A : List Nat} {U W : Nat → Int} {b : Int} {K : Option Addr → Nat → Nat → Option Addr → Nat → Nat → Heap → Prop} (hn : n ≤ 256) (p : PrimR M n A U W b) (hf : ∀ x, x < n → x ∈ A) (km : MxK h0 R q n M) (s : St h0 h R)
    (hk : ∀ h' ba bb Y, St h0 h' ((ba, ints n U) :: (bb, ints n W) :: (Y ++ R)) → K (some ⟨ba, 0, none⟩) n n (some ⟨bb, 0, none⟩) n n h') : straitref35_Tree q n c h K := by
  unfold straitref35_Tree
  refine s.new_ fun t h1 s1 => ?_
  intro j
  have J : ∀ y ba bb h', St h0 h' ((ba, ints n fun _ => 0) :: (bb, ints n fun _ => 0) :: (y, [Value.slice (some ⟨ba, 0, none⟩) n n, .slice (some ⟨bb, 0, none⟩) n n]) :: (t, [.slice none 0 0, .slice none 0 0]) :: R) → j ⟨y, 0, none⟩ h' := fun y ba bb h2 s2 => by
    simp -zeta only [j]
    clear j
    refine iteB_intro (fun e => ?_) fun e => ?_
    · have e : n = 0 := by have : (n : Int) = 0 := by simpa using e
                           omega
      subst e
      refine ⟨_, _, _, s2.rd2 0, _, _, _, s2.rd2 1, s2.st3 (by simp) fun h3 s3 => ?_⟩
      rw [add_mk, Nat.zero_add]
      refine s3.st3 (by simp) fun h4 s4 => ⟨_, _, _, s4.rd3 0, _, _, _, s4.rd3 1, ?_⟩
      rw [ints_congr (n := 0) (f := fun _ => 0) (g := U) fun i hi => by omega] at s4
      refine hk h4 ba bb [(y, [Value.slice (some ⟨ba, 0, none⟩) 0 0, .slice (some ⟨bb, 0, none⟩) 0 0]), (t, [Value.slice (some ⟨ba, 0, none⟩) 0 0, .slice (some ⟨bb, 0, none⟩) 0 0])] ?_
      have e2 : ints 0 W = ints 0 U := ints_congr fun i hi => by omega
      rw [e2]
      exact s4
    · have e : 0 < n := by have : ¬ (n : Int) = 0 := by simpa using e
                           omega
      refine s2.new_ fun bi h3 s3 => ⟨_, _, _, s3.rd3 0, ?_⟩
      simp -zeta only [chkP_some, add_mk, Nat.zero_add]
      refine ⟨by omega, s3.st1 (by rw [ints_length]; exact e) fun h4 s4 => ⟨n - 1 + 1, ?_⟩⟩
      have p1 : PrimR M n [0] _ _ _ := PrimR.step (v := 0) PrimR.start e
      have km' : MxK h0 ((y, [Value.slice (some ⟨ba, 0, none⟩) n n, .slice (some ⟨bb, 0, none⟩) n n]) :: (t, [.slice none 0 0, .slice none 0 0]) :: R) q n M := km.sub fun x hx => by simp [hx]
      refine rtree_l0 (ba := ba) (bb := bb) (R := (y, [Value.slice (some ⟨ba, 0, none⟩) n n, .slice (some ⟨bb, 0, none⟩) n n]) :: (t, [.slice none 0 0, .slice none 0 0]) :: R) hn km' (by simp) (fun h5 A5 U5 W5 b5 Y5 p5 l5 s5 => ?_) (n - 1) h4 [0] _ _ _ (some ⟨bi, 0, none⟩) 1 [(bi, natV [0])] (by simp; omega) (by simp) p1 (Own.made bi (natV [0])) ?_
      · obtain ⟨_, rfl, rfl, _⟩ := p5.one p (by rw [l5, p.len hf])
        have ry : ∀ j, cell h5 ⟨y, j, none⟩ = [Value.slice (some ⟨ba, 0, none⟩) n n, .slice (some ⟨bb, 0, none⟩) n n][j]? := s5.rd (by simp)
        have s6 : St h0 h5 ((t, [.slice none 0 0, .slice none 0 0]) :: (ba, ints n U5) :: (bb, ints n W5) :: ((Y5 ++ [(y, [Value.slice (some ⟨ba, 0, none⟩) n n, .slice (some ⟨bb, 0, none⟩) n n])]) ++ R)) := (St.re s5 (by intro a; simp only [cntR_append, cntR_cons, cntR_nil, List.cons_append, List.nil_append, List.set_cons_zero, List.set_cons_succ]; omega))
        refine ⟨_, _, _, ry 0, _, _, _, ry 1, s6.st0 (by simp) fun h7 s7 => ?_⟩
        refine s7.st0 (by simp) fun h8 s8 => ⟨_, _, _, s8.rd0 0, _, _, _, s8.rd0 1, ?_⟩
        exact hk h8 ba bb ((t, [Value.slice (some ⟨ba, 0, none⟩) n n, .slice (some ⟨bb, 0, none⟩) n n]) :: (Y5 ++ [(y, [Value.slice (some ⟨ba, 0, none⟩) n n, .slice (some ⟨bb, 0, none⟩) n n])])) (St.re s8 (by intro a; simp only [cntR_append, cntR_cons, cntR_nil, List.cons_append, List.nil_append, List.set_cons_zero, List.set_cons_succ]; omega))
      · have f1 : ints n (upd (fun _ => 0) 0 (-1)) = ints n (msk [0] (stU M 0 (inA ([] ++ [0])) (fun _ => -1) (fun _ => 0) n)) := ints_congr fun x hx => by
          unfold upd msk
          by_cases e : x = 0
          · subst e; rw [if_pos rfl, if_pos (by simp)]; exact (if_neg fun h => by have := h.2.1; simp [inA] at this).symm
          · rw [if_neg e, if_neg (by simp [e])]
        have f2 : ints n (fun _ => 0) = ints n (msk [0] (stW M 0 (inA ([] ++ [0])) (fun _ => -1) (fun _ => 0) n)) := ints_congr fun x hx => by
          unfold msk
          by_cases e : x = 0
          · subst e; rw [if_pos (by simp)]; exact (if_neg fun h => by have := h.2.1; simp [inA] at this).symm
          · rw [if_neg (by simp [e])]
        have s5 := s4
        rw [show (0 : Int).toNat * 1 = 0 from rfl, ints_set, f1] at s5
        have f2' := f2
        simp only [List.cons_append, List.nil_append] at *
        rw [f2] at s5
        exact s5
  clear_value j
  simp -zeta only [Int.toNat_natCast]
  exact six_of (j := j) (by omega) s1 J
end
end Go.Proofs.Ytfidcekobjmamaa
