/-
  Answers: the program reads and prints at all; the law of what is printed and what is the same.
-/
import Derived.Test.YtmejnpadgbdhaaaDoorA6
namespace Go.Proofs.YtmejnpadgbdhaaaDoor
set_option linter.unusedVariables false
set_option linter.unusedSimpArgs false
set_option linter.unnecessarySimpa false
open Go.Proofs Go.Shelf Go.RowKit Go.Hp
attribute [local irreducible] Go.Hp.iteB Go.Hp.stC Go.Hp.newP
theorem vals_none {h : Heap} {q : Option Addr} : valsAt h q [] := fun i v hi => by simp at hi
theorem awake_of {h : Heap} {K : Bool → Heap → Prop} (f : Facts h) (hk : ∀ h', Ext h h' → K true h') : straitlaw49_awake h K := by
  unfold straitlaw49_awake
  have i1 : Lib.itoa 1 = [49] := itoa_val (l := [49]) (by decide)
  have i2 : Lib.itoa 2 = [50] := itoa_val (l := [50]) (by decide)
  have i3 : Lib.itoa 3 = [51] := itoa_val (l := [51]) (by decide)
  have i4 : Lib.itoa 4 = [52] := itoa_val (l := [52]) (by decide)
  have hT : ansT ⟨0, [2], [1, 3], []⟩ = [111, 107, 32, 50, 32, 115, 105, 100, 101, 32, 49, 32, 51] := by
    show joinB [okW, Lib.itoa 2, sideW, Lib.itoa 1, Lib.itoa 3] = _
    rw [i1, i2, i3]; rfl
  have hT2 : ansT ⟨4, [2], [], []⟩ = [101, 114, 114, 111, 114, 32, 52, 32, 50] := by
    show joinB [errW, Lib.itoa 4, Lib.itoa 2] = _
    rw [i4, i2]; rfl
  obtain ⟨b1, b2⟩ := ans_back (a := ⟨0, [2], [1, 3], []⟩) ⟨by decide, by decide, by decide⟩
  rw [hT] at b1 b2
  refine ⟨_, AParse_of (h0 := (h : Base)) (R := []) (L := [111, 107, 32, 50, 32, 115, 105, 100, 101, 32, 49, 32, 51]) f (by decide) (St.refl h) (fun h2 q1 c1 q2 c2 q3 c3 X k1 k2 k3 s2 => ?_), fun _ _ _ _ _ _ _ _ _ _ _ _ hh => hh⟩
  rw [b2] at k1 k2 k3
  rw [b1, b2]
  refine s2.new_ (cs := recA Ans.none none none none 0 0 0) fun t h3 s3 => ?_
  simp -zeta only [add_mk, Nat.zero_add]
  refine s3.st0 (by simp [recA]) fun h4 s4 => s4.st0 (by simp [recA]) fun h5 s5 => s5.st0 (by simp [recA]) fun h6 s6 => s6.st0 (by simp [recA]) fun h7 s7 => ?_
  have s7 : St (h : Base) h7 ((t, recA ⟨0, [2], [1, 3], []⟩ q1 q2 q3 c1 c2 c3) :: (X ++ [])) := s7
  refine iteB_pos rfl ⟨_, _, _, s7.rd0 1, iteB_pos rfl ⟨_, _, _, s7.rd0 2, iteB_pos rfl (s7.new_ (cs := numV [2]) fun g h8 s8 => ?_)⟩⟩
  refine ⟨_, AFail_of (l := [2]) (Keeps.row (by simp)) (by decide) s8 (fun h9 q c X2 k9 s9 => ?_), fun _ _ _ _ _ _ _ _ _ _ _ hh => hh⟩
  refine callP1.self (APrint_of (a := ⟨4, [2], [], []⟩) (f.ext s9.ext) ⟨by decide, by decide, by decide⟩ (k9.at0 s9) vals_none vals_none (by decide) (by decide) (by decide) fun h10 e10 => ?_)
  rw [hT2]
  have : ((str [101, 114, 114, 111, 114, 32, 52, 32, 50]).toList == (⟨#[101, 114, 114, 111, 114, 32, 52, 32, 50]⟩ : ByteArray).toList) = true := by
    have e : (⟨#[101, 114, 114, 111, 114, 32, 52, 32, 50]⟩ : ByteArray).toList = [101, 114, 114, 111, 114, 32, 52, 32, 50] := toList_str _
    rw [toList_str, e]; rfl
  rw [this]
  exact hk h10 (s9.ext.trans e10)
theorem AnswerPuts_of {h : Heap} {a b : Ans} {q1 q2 q3 p1 p2 p3 : Option Addr} {c1 c2 c3 d1 d2 d3 : Nat} {K : Bool → Heap → Prop} (f : Facts h) (va : a.Valid) (vb : b.Valid)
    (v1 : valsAt h q1 (numV a.n)) (v2 : valsAt h q2 (numV a.sd)) (v3 : valsAt h q3 (byV a.b)) (w1 : valsAt h p1 (numV b.n)) (w2 : valsAt h p2 (numV b.sd)) (w3 : valsAt h p3 (byV b.b)) (hk : ∀ h', Ext h h' → K true h') :
    straitlaw49_AnswerPuts a.e q1 a.n.length c1 q2 a.sd.length c2 q3 a.b.length c3 b.e p1 b.n.length d1 p2 b.sd.length d2 p3 b.b.length d3 h K := by
  unfold straitlaw49_AnswerPuts
  have aw : ∀ h1, Ext h h1 → callP1 (straitlaw49_awake h1) fun x8 h9 => K x8 h9 := fun h1 e => callP1.self (awake_of (f.ext e) fun h4 e4 => hk h4 (e.trans e4))
  refine (St.refl h).new_ (cs := recA a q1 q2 q3 c1 c2 c3) fun ta h1 s1 => s1.new_ (cs := recA b p1 p2 p3 d1 d2 d3) fun tb h2 s2 => ?_
  intro j
  have JT : j true := by
    simp -zeta only [j]
    exact iteB_pos rfl (aw h2 s2.ext)
  have JF : a.n.length ≤ 100 → a.sd.length ≤ 100 → a.b.length ≤ 300 → b.n.length ≤ 100 → b.sd.length ≤ 100 → b.b.length ≤ 300 → j false := fun l1 l2 l3 l4 l5 l6 => by
    simp -zeta only [j]
    clear j JT
    refine iteB_neg rfl ?_
    intro j9
    have J9 : ∀ (u w : Nat) (h3 : Heap) (L : Rws), St (h : Base) h3 L → (u, recA a q1 q2 q3 c1 c2 c3) ∈ L → (w, recA b p1 p2 p3 d1 d2 d3) ∈ L → (ta, recA a q1 q2 q3 c1 c2 c3) ∈ L → (tb, recA b p1 p2 p3 d1 d2 d3) ∈ L → j9 ⟨u, 0, none⟩ ⟨w, 0, none⟩ h3 := fun u w h3 L s mu mw ma mb => by
      simp -zeta only [j9]
      clear j9
      simp -zeta only [add_mk, Nat.zero_add]
      have ra := s.rd ma
      refine ⟨_, ra 0, _, _, _, ra 1, _, _, _, ra 2, _, _, _, ra 3, _, ra 0, _, _, _, ra 1, _, _, _, ra 2, _, _, _, ra 3, ?_⟩
      refine callP1.self (APrint_of (a := a) (f.ext s.ext) va (v1.ext s.ext) (v2.ext s.ext) (v3.ext s.ext) (by omega) (by omega) (by omega) fun h4 e4 => ?_)
      have s4 := s.ofExt e4
      have ra4 := s4.rd ma
      refine ⟨⟨_, _, _, ra4 3, rfl⟩, ⟨_, _, _, ra4 2, rfl⟩, ⟨_, _, _, ra4 1, rfl⟩, ⟨_, ra4 0, rfl⟩, ?_⟩
      refine callP1.self (RAPrint_of (a := a) va (v1.ext s4.ext) (v2.ext s4.ext) (v3.ext s4.ext) (by omega) (by omega) (by omega) fun h5 e5 => iteB_pos (by simp) ?_)
      have s5 := s4.ofExt e5
      have ra5 := s5.rd ma
      have rb5 := s5.rd mb
      have ru5 := s5.rd mu
      have rw5 := s5.rd mw
      refine ⟨_, ra5 0, _, _, _, ra5 1, _, _, _, ra5 2, _, _, _, ra5 3, _, rb5 0, _, _, _, rb5 1, _, _, _, rb5 2, _, _, _, rb5 3, _, ru5 0, _, _, _, ru5 1, _, _, _, ru5 2, _, _, _, ru5 3, _, rw5 0, _, _, _, rw5 1, _, _, _, rw5 2, _, _, _, rw5 3, ?_⟩
      refine callP1.self (ASame_of (a := a) (b := b) (v1.ext s5.ext) (v2.ext s5.ext) (v3.ext s5.ext) (w1.ext s5.ext) (w2.ext s5.ext) (w3.ext s5.ext) (by omega) (by omega) (by omega) fun h6 e6 => ?_)
      have s6 := s5.ofExt e6
      have ru6 := s6.rd mu
      have rw6 := s6.rd mw
      refine ⟨⟨_, rw6 0, _, _, _, rw6 1, _, _, _, rw6 2, _, _, _, rw6 3, rfl⟩, ⟨_, ru6 0, _, _, _, ru6 1, _, _, _, ru6 2, _, _, _, ru6 3, rfl⟩, ?_⟩
      refine callP1.self (RSame_of (a := a) (b := b) (v1.ext s6.ext) (v2.ext s6.ext) (v3.ext s6.ext) (w1.ext s6.ext) (w2.ext s6.ext) (w3.ext s6.ext) (by omega) (by omega) (by omega) fun h7 e7 => iteB_pos (by simp) ?_)
      have s7 := s6.ofExt e7
      have ra7 := s7.rd ma
      refine ⟨_, ra7 0, _, _, _, ra7 1, _, ra7 0, _, _, _, ra7 1, ?_⟩
      refine ⟨_, AFail_of (l := a.n) (Keeps.old v1) (by omega) s7 (fun h8 q c X k8 s8 => ?_), fun _ _ _ _ _ _ _ _ _ _ _ hh => hh⟩
      have ra8 := s8.rd (List.mem_append_right X ma)
      refine ⟨⟨_, _, _, ra8 1, rfl⟩, ⟨_, ra8 0, rfl⟩, ?_⟩
      refine callP1.self (ASame_of (a := ⟨a.e, a.n, [], []⟩) (b := ⟨a.e, a.n, [], []⟩) (k8.at0 s8) vals_none vals_none (v1.ext s8.ext) vals_none vals_none (by simp only; omega) (by simp) (by simp) fun h9 e9 => ?_)
      rw [ASame_eq]
      exact iteB_pos rfl (aw h9 (s8.ext.trans e9))
    clear_value j9
    simp -zeta only [add_mk, Nat.zero_add]
    refine ⟨_, s2.rd1 0, _, _, _, s2.rd1 1, _, _, _, s2.rd1 2, _, _, _, s2.rd1 3, _, s2.rd0 0, _, _, _, s2.rd0 1, _, _, _, s2.rd0 2, _, _, _, s2.rd0 3, ?_, ?_⟩
    · refine s2.new_ (cs := recA Ans.none none none none 0 0 0) fun u h3 s3 => ⟨⟨_, s3.rd1 0, _, _, _, s3.rd1 1, _, _, _, s3.rd1 2, _, _, _, s3.rd1 3, rfl⟩, ⟨_, s3.rd2 0, _, _, _, s3.rd2 1, _, _, _, s3.rd2 2, _, _, _, s3.rd2 3, rfl⟩, ?_⟩
      refine s3.new_ (cs := recA Ans.none none none none 0 0 0) fun w h4 s4 => ⟨⟨_, s4.rd2 0, _, _, _, s4.rd2 1, _, _, _, s4.rd2 2, _, _, _, s4.rd2 3, rfl⟩, ⟨_, s4.rd3 0, _, _, _, s4.rd3 1, _, _, _, s4.rd3 2, _, _, _, s4.rd3 3, rfl⟩, ?_⟩
      refine s4.st1 (by simp [recA]) fun h5 s5 => s5.st1 (by simp [recA]) fun h6 s6 => s6.st1 (by simp [recA]) fun h7 s7 => s7.st1 (by simp [recA]) fun h8 s8 => ?_
      have s8 : St (h : Base) h8 ((w, recA Ans.none none none none 0 0 0) :: (u, recA a q1 q2 q3 c1 c2 c3) :: (tb, recA b p1 p2 p3 d1 d2 d3) :: (ta, recA a q1 q2 q3 c1 c2 c3) :: []) := s8
      refine ⟨⟨_, s8.rd2 0, _, _, _, s8.rd2 1, _, _, _, s8.rd2 2, _, _, _, s8.rd2 3, rfl⟩, ?_⟩
      refine s8.st0 (by simp [recA]) fun h5 s5 => s5.st0 (by simp [recA]) fun h6 s6 => s6.st0 (by simp [recA]) fun h7 s7 => s7.st0 (by simp [recA]) fun h9 s9 => ?_
      have s9 : St (h : Base) h9 ((w, recA b p1 p2 p3 d1 d2 d3) :: (u, recA a q1 q2 q3 c1 c2 c3) :: (tb, recA b p1 p2 p3 d1 d2 d3) :: (ta, recA a q1 q2 q3 c1 c2 c3) :: []) := s9
      exact J9 u w h9 _ s9 (by simp) (by simp) (by simp) (by simp)
    · refine s2.new_ (cs := recA Ans.none none none none 0 0 0) fun w h3 s3 => ⟨⟨_, s3.rd1 0, _, _, _, s3.rd1 1, _, _, _, s3.rd1 2, _, _, _, s3.rd1 3, rfl⟩, ⟨_, s3.rd2 0, _, _, _, s3.rd2 1, _, _, _, s3.rd2 2, _, _, _, s3.rd2 3, rfl⟩, ?_⟩
      refine s3.new_ (cs := recA Ans.none none none none 0 0 0) fun u h4 s4 => ⟨⟨_, s4.rd2 0, _, _, _, s4.rd2 1, _, _, _, s4.rd2 2, _, _, _, s4.rd2 3, rfl⟩, ⟨_, s4.rd3 0, _, _, _, s4.rd3 1, _, _, _, s4.rd3 2, _, _, _, s4.rd3 3, rfl⟩, ?_⟩
      refine s4.st0 (by simp [recA]) fun h5 s5 => s5.st0 (by simp [recA]) fun h6 s6 => s6.st0 (by simp [recA]) fun h7 s7 => s7.st0 (by simp [recA]) fun h8 s8 => ?_
      have s8 : St (h : Base) h8 ((u, recA a q1 q2 q3 c1 c2 c3) :: (w, recA Ans.none none none none 0 0 0) :: (tb, recA b p1 p2 p3 d1 d2 d3) :: (ta, recA a q1 q2 q3 c1 c2 c3) :: []) := s8
      refine ⟨⟨_, s8.rd2 0, _, _, _, s8.rd2 1, _, _, _, s8.rd2 2, _, _, _, s8.rd2 3, rfl⟩, ?_⟩
      refine s8.st1 (by simp [recA]) fun h5 s5 => s5.st1 (by simp [recA]) fun h6 s6 => s6.st1 (by simp [recA]) fun h7 s7 => s7.st1 (by simp [recA]) fun h9 s9 => ?_
      have s9 : St (h : Base) h9 ((u, recA a q1 q2 q3 c1 c2 c3) :: (w, recA b p1 p2 p3 d1 d2 d3) :: (tb, recA b p1 p2 p3 d1 d2 d3) :: (ta, recA a q1 q2 q3 c1 c2 c3) :: []) := s9
      exact J9 u w h9 _ s9 (by simp) (by simp) (by simp) (by simp)
  clear_value j
  simp -zeta only [add_mk, Nat.zero_add]
  refine ⟨_, _, _, s2.rd1 1, iteB_intro (fun _ => JT) fun g1 => ⟨_, _, _, s2.rd1 2, iteB_intro (fun _ => JT) fun g2 => ⟨_, _, _, s2.rd1 3, iteB_intro (fun _ => JT) fun g3 => ⟨_, _, _, s2.rd0 1, iteB_intro (fun _ => JT) fun g4 => ⟨_, _, _, s2.rd0 2, iteB_intro (fun _ => JT) fun g5 => ⟨_, _, _, s2.rd0 3, ?_⟩⟩⟩⟩⟩⟩
  have g1 := of_decide_eq_false g1
  have g2 := of_decide_eq_false g2
  have g3 := of_decide_eq_false g3
  have g4 := of_decide_eq_false g4
  have g5 := of_decide_eq_false g5
  cases g6 : decide ((b.b.length : Int) > 300) with
  | true => exact JT
  | false =>
    have g6 := of_decide_eq_false g6
    exact JF (by omega) (by omega) (by omega) (by omega) (by omega) (by omega)
end Go.Proofs.YtmejnpadgbdhaaaDoor
