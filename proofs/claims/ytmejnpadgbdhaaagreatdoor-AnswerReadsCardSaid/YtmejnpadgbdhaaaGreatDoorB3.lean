/-
  Answers: the law of what is read.
-/
import Derived.Test.YtmejnpadgbdhaaaGreatDoorB2
namespace Go.Proofs.YtmejnpadgbdhaaaGreatDoor
set_option linter.unusedVariables false
set_option linter.unusedSimpArgs false
set_option linter.unnecessarySimpa false
open Go.Proofs Go.Shelf Go.RowKit Go.Hp
attribute [local irreducible] Go.Hp.iteB Go.Hp.stC Go.Hp.newP
theorem ansR_len {L : List UInt8} (hL : L.length ≤ 2 ^ 14) : (ansR L).n.length ≤ 2 ^ 15 ∧ (ansR L).sd.length ≤ 2 ^ 15 ∧ (ansR L).b.length ≤ 2 ^ 15 := by
  cases h : ansOk L with
  | false =>
    have e : ansR L = Ans.none := by unfold ansR; rw [h]; rfl
    rw [e]
    exact ⟨Nat.zero_le _, Nat.zero_le _, Nat.zero_le _⟩
  | true =>
    have hT := ok_text h
    generalize ansR L = a at *
    have hw := (ans_ws a).2
    rw [hT] at hw
    have h1 := wsL_len L
    have h2 := sum_ws L
    rw [hw] at h1 h2
    have h3 : a.n.length + a.sd.length ≤ (ansW a).length := by
      unfold ansW
      have : a.sd.length ≤ (sideL a.sd).length := by rw [side_eq]; simp
      rw [List.length_append, List.length_append, List.length_append, List.length_map]; omega
    have h4 : a.b.length ≤ sumL (ansW a) := by
      unfold ansW
      have : a.b.length ≤ sumL (byteL a.b) := by
        unfold byteL
        split
        · rename_i hb; rw [hb]; simp
        · rename_i hb
          have e : hexL a.b = hexF a.b := by unfold hexL; rw [if_neg hb]
          rw [sumL_cons, sumL_cons, e, hexF_len]; omega
      rw [sumL_app, sumL_app, sumL_app]; omega
    exact ⟨by omega, by omega, by omega⟩
theorem AnswerReads_of {h : Heap} {L : List UInt8} {a : Ans} {q1 q2 q3 : Option Addr} {c1 c2 c3 : Nat} {K : Bool → Heap → Prop} (f : Facts h) (va : a.Valid)
    (v1 : valsAt h q1 (numV a.n)) (v2 : valsAt h q2 (numV a.sd)) (v3 : valsAt h q3 (byV a.b)) (hk : ∀ h', Ext h h' → K true h') :
    straitlaw49_AnswerReads (str L) a.e q1 a.n.length c1 q2 a.sd.length c2 q3 a.b.length c3 h K := by
  unfold straitlaw49_AnswerReads
  have aw : ∀ h1, Ext h h1 → callP1 (straitlaw49_awake h1) fun x8 h9 => K x8 h9 := fun h1 e => callP1.self (awake_of (f.ext e) fun h4 e4 => hk h4 (e.trans e4))
  refine (St.refl h).new_ (cs := recA a q1 q2 q3 c1 c2 c3) fun ta h1 s1 => ?_
  have ra0 : cell h1 ⟨ta, 0, none⟩ = some (.int .i64 a.e) := s1.rd0 0
  have ra1 : cell h1 ⟨ta, 1, none⟩ = some (.slice q1 a.n.length c1) := s1.rd0 1
  have ra2 : cell h1 ⟨ta, 2, none⟩ = some (.slice q2 a.sd.length c2) := s1.rd0 2
  have ra3 : cell h1 ⟨ta, 3, none⟩ = some (.slice q3 a.b.length c3) := s1.rd0 3
  have x1 : Ext h h1 := s1.ext
  intro j
  have JF : L.length ≤ 1000 → a.n.length ≤ 100 → a.sd.length ≤ 100 → a.b.length ≤ 300 → j := fun l0 l1 l2 l3 => by
    simp -zeta only [j]
    clear j
    have hR := ansR_valid L
    obtain ⟨n1, n2, n3⟩ := ansR_len (L := L) (by omega)
    have hok : ansOk L = true → ansT (ansR L) = L := ok_text
    refine ⟨_, AParse_of (h0 := (h1 : Base)) (R := []) (L := L) (f.ext x1) (by omega) (St.refl h1) (fun h2 p1 d1 p2 d2 p3 d3 X k1 k2 k3 s2 => ?_), fun _ _ _ _ _ _ _ _ _ _ _ _ hh => hh⟩
    have b1 := k1.at0 s2
    have b2 := k2.at0 s2
    have b3 := k3.at0 s2
    have x2 : Ext h1 h2 := s2.ext
    clear k1 k2 k3 s2
    simp -zeta only [add_mk, Nat.zero_add]
    refine (St.refl h2).new_ (cs := recA Ans.none none none none 0 0 0) fun t h3 s3 => s3.st0 (by simp [recA]) fun h4 s4 => s4.st0 (by simp [recA]) fun h5 s5 => s5.st0 (by simp [recA]) fun h6 s6 => s6.st0 (by simp [recA]) fun h7 s7 => ?_
    have s7 : St (h2 : Base) h7 ((t, recA (ansR L) p1 p2 p3 d1 d2 d3) :: []) := s7
    have rt0 : cell h7 ⟨t, 0, none⟩ = some (.int .i64 (ansR L).e) := s7.rd0 0
    have rt1 : cell h7 ⟨t, 1, none⟩ = some (.slice p1 (ansR L).n.length d1) := s7.rd0 1
    have rt2 : cell h7 ⟨t, 2, none⟩ = some (.slice p2 (ansR L).sd.length d2) := s7.rd0 2
    have rt3 : cell h7 ⟨t, 3, none⟩ = some (.slice p3 (ansR L).b.length d3) := s7.rd0 3
    have x7 : Ext h2 h7 := s7.ext
    clear s3 s4 s5 s6 s7
    refine ⟨_, RAParse_of (h0 := (h7 : Base)) (R := []) (L := L) (by omega) (St.refl h7) (fun h8 g1 i1 g2 i2 g3 i3 X k1 k2 k3 s8 => ?_), fun _ _ _ _ _ _ _ _ _ _ _ _ hh => hh⟩
    have w1 := k1.at0 s8
    have w2 := k2.at0 s8
    have w3 := k3.at0 s8
    have x8 : Ext h7 h8 := s8.ext
    clear k1 k2 k3 s8
    refine (St.refl h8).new_ (cs := recN) fun u h9 s9 => s9.st0 (by simp [recD]) fun h10 s10 => s10.st0 (by simp [recD]) fun h11 s11 => s11.st0 (by simp [recD]) fun h12 s12 => s12.st0 (by simp [recD]) fun h13 s13 => s13.st0 (by simp [recD]) fun h14 s14 => ?_
    have s14 : St (h8 : Base) h14 ((u, recD (ansR L) g1 g2 g3 i1 i2 i3 (ansOk L)) :: []) := s14
    have ru0 : cell h14 ⟨u, 0, none⟩ = some (.int .i64 (ansR L).e) := s14.rd0 0
    have ru1 : cell h14 ⟨u, 1, none⟩ = some (.slice g1 (ansR L).n.length i1) := s14.rd0 1
    have ru2 : cell h14 ⟨u, 2, none⟩ = some (.slice g2 (ansR L).sd.length i2) := s14.rd0 2
    have ru3 : cell h14 ⟨u, 3, none⟩ = some (.slice g3 (ansR L).b.length i3) := s14.rd0 3
    have ru4 : cell h14 ⟨u, 4, none⟩ = some (.bool (ansOk L)) := s14.rd0 4
    have x14 : Ext h8 h14 := s14.ext
    clear s9 s10 s11 s12 s13 s14
    have y1 : Ext h1 h14 := x2.trans (x7.trans (x8.trans x14))
    have y0 : Ext h h14 := x1.trans y1
    refine ⟨_, y1.cell' ra0, _, _, _, y1.cell' ra1, _, _, _, y1.cell' ra2, _, _, _, y1.cell' ra3, callP1.self (APrint_of (a := a) (f.ext y0) va (v1.ext y0) (v2.ext y0) (v3.ext y0) (by omega) (by omega) (by omega) fun h15 x15 => ?_)⟩
    have hTl : (ansT a).length ≤ 2 ^ 14 := by
      have z1 := sumL_join (ansW a)
      have z2 := ansW_sum va
      have z3 := ansW_len a
      unfold ansT; omega
    obtain ⟨t1, t2⟩ := ans_back va
    have y15 : Ext h h15 := y0.trans x15
    refine ⟨_, AParse_of (h0 := (h15 : Base)) (R := []) (L := ansT a) (f.ext y15) hTl (St.refl h15) (fun h16 o1 m1 o2 m2 o3 m3 X k1 k2 k3 s16 => ?_), fun _ _ _ _ _ _ _ _ _ _ _ _ hh => hh⟩
    rw [t2] at k1 k2 k3
    rw [t1, t2]
    have u1 := k1.at0 s16
    have u2 := k2.at0 s16
    have u3 := k3.at0 s16
    have x16 : Ext h15 h16 := s16.ext
    clear k1 k2 k3 s16
    refine (St.refl h16).new_ (cs := recA Ans.none none none none 0 0 0) fun z h17 s17 => s17.st0 (by simp [recA]) fun h18 s18 => s18.st0 (by simp [recA]) fun h19 s19 => s19.st0 (by simp [recA]) fun h20 s20 => s20.st0 (by simp [recA]) fun h21 s21 => ?_
    have s21 : St (h16 : Base) h21 ((z, recA a o1 o2 o3 m1 m2 m3) :: []) := s21
    have rz0 : cell h21 ⟨z, 0, none⟩ = some (.int .i64 a.e) := s21.rd0 0
    have rz1 : cell h21 ⟨z, 1, none⟩ = some (.slice o1 a.n.length m1) := s21.rd0 1
    have rz2 : cell h21 ⟨z, 2, none⟩ = some (.slice o2 a.sd.length m2) := s21.rd0 2
    have rz3 : cell h21 ⟨z, 3, none⟩ = some (.slice o3 a.b.length m3) := s21.rd0 3
    have x21 : Ext h16 h21 := s21.ext
    clear s17 s18 s19 s20 s21
    have e14 : Ext h14 h21 := x15.trans (x16.trans x21)
    have e7 : Ext h7 h21 := x8.trans (x14.trans e14)
    have e8 : Ext h8 h21 := x14.trans e14
    have e2 : Ext h2 h21 := x7.trans e7
    have e1 : Ext h1 h21 := x2.trans e2
    have e0 : Ext h h21 := x1.trans e1
    refine ⟨_, e14.cell' ru4, iteB_pos (by simp) ⟨_, e7.cell' rt0, _, _, _, e7.cell' rt1, _, _, _, e7.cell' rt2, _, _, _, e7.cell' rt3, _, e14.cell' ru0, _, _, _, e14.cell' ru1, _, _, _, e14.cell' ru2, _, _, _, e14.cell' ru3, ?_⟩⟩
    refine callP1.self (RSame_of (a := ansR L) (b := ansR L) (b1.ext e2) (b2.ext e2) (b3.ext e2) (w1.ext e8) (w2.ext e8) (w3.ext e8) (by omega) (by omega) (by omega) fun h22 x22 => ?_)
    rw [ASame_eq]
    refine iteB_pos rfl ?_
    have last : ∀ h23, Ext h22 h23 → (∃ (x76 : Int), cell h23 ⟨ta, 0, none⟩ = some (.int .i64 x76) ∧ ∃ (x77 : Option Addr) (x77l : Nat) (x77c : Nat), cell h23 ⟨ta, 1, none⟩ = some (.slice x77 x77l x77c) ∧ ∃ (x78 : Option Addr) (x78l : Nat) (x78c : Nat), cell h23 ⟨ta, 2, none⟩ = some (.slice x78 x78l x78c) ∧ ∃ (x79 : Option Addr) (x79l : Nat) (x79c : Nat), cell h23 ⟨ta, 3, none⟩ = some (.slice x79 x79l x79c) ∧ ∃ (x80 : Int), cell h23 ⟨z, 0, none⟩ = some (.int .i64 x80) ∧ ∃ (x81 : Option Addr) (x81l : Nat) (x81c : Nat), cell h23 ⟨z, 1, none⟩ = some (.slice x81 x81l x81c) ∧ ∃ (x82 : Option Addr) (x82l : Nat) (x82c : Nat), cell h23 ⟨z, 2, none⟩ = some (.slice x82 x82l x82c) ∧ ∃ (x83 : Option Addr) (x83l : Nat) (x83c : Nat), cell h23 ⟨z, 3, none⟩ = some (.slice x83 x83l x83c) ∧ callP1 (answer_Same x76 x77 x77l x77c x78 x78l x78c x79 x79l x79c x80 x81 x81l x81c x82 x82l x82c x83 x83l x83c h23) fun x84 h85 => iteB x84 (callP1 (straitlaw49_awake h85) fun x86 h87 => K x86 h87) (K false h85)) := fun h23 x23 => by
      have f21 : Ext h21 h23 := x22.trans x23
      have f1 : Ext h1 h23 := e1.trans f21
      have f0 : Ext h h23 := e0.trans f21
      have f16 : Ext h16 h23 := x21.trans f21
      refine ⟨_, f1.cell' ra0, _, _, _, f1.cell' ra1, _, _, _, f1.cell' ra2, _, _, _, f1.cell' ra3, _, f21.cell' rz0, _, _, _, f21.cell' rz1, _, _, _, f21.cell' rz2, _, _, _, f21.cell' rz3, ?_⟩
      refine callP1.self (ASame_of (a := a) (b := a) (v1.ext f0) (v2.ext f0) (v3.ext f0) (u1.ext f16) (u2.ext f16) (u3.ext f16) (by omega) (by omega) (by omega) fun h24 x24 => ?_)
      rw [ASame_eq]
      exact iteB_pos rfl (aw h24 (f0.trans x24))
    cases ho : ansOk L with
    | false => exact iteB_pos rfl (iteB_pos rfl (last h22 (Ext.refl h22)))
    | true =>
      have f7 : Ext h7 h22 := e7.trans x22
      have f2 : Ext h2 h22 := e2.trans x22
      have f0 : Ext h h22 := e0.trans x22
      refine iteB_neg rfl ⟨_, f7.cell' rt0, _, _, _, f7.cell' rt1, _, _, _, f7.cell' rt2, _, _, _, f7.cell' rt3, ?_⟩
      refine callP1.self (APrint_of (a := ansR L) (f.ext f0) hR (b1.ext f2) (b2.ext f2) (b3.ext f2) n1 n2 n3 fun h23 x23 => ?_)
      rw [hok ho]
      exact iteB_pos (by simp) (iteB_pos rfl (last h23 x23))
  clear_value j
  simp -zeta only [add_mk, Nat.zero_add]
  rw [str_size]
  refine iteB_intro (fun _ => aw h1 x1) fun g0 => ⟨_, _, _, ra1, iteB_intro (fun _ => aw h1 x1) fun g1 => ⟨_, _, _, ra2, iteB_intro (fun _ => aw h1 x1) fun g2 => ⟨_, _, _, ra3, iteB_intro (fun _ => aw h1 x1) fun g3 => ?_⟩⟩⟩
  have g0 := of_decide_eq_false g0
  have g1 := of_decide_eq_false g1
  have g2 := of_decide_eq_false g2
  have g3 := of_decide_eq_false g3
  exact JF (by omega) (by omega) (by omega) (by omega)
end Go.Proofs.YtmejnpadgbdhaaaGreatDoor
