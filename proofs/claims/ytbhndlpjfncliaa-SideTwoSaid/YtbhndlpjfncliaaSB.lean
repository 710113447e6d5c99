/-
  Sides: two of them: the law.
-/
import Derived.Test.YtbhndlpjfncliaaS9
namespace Go.Proofs.Ytbhndlpjfncliaa
set_option linter.unusedVariables false
set_option linter.unusedSimpArgs false
set_option linter.unnecessarySimpa false
open Go Go.Hp Go.RowKit
attribute [local irreducible] Go.Hp.iteB Go.Hp.stC Go.Hp.newP

def bitE (m : Int) (v : Nat) : Bool := bits .and .u16 (m.fdiv (2 ^ (min v 16))) 1 == (1 : Int)
abbrev blV (P : Nat → Bool) (n : Nat) : List Value := (bl P n).map (Value.int .i64)
section
variable {h0 : Base}
theorem pushB {R : Rws} {h : Heap} {q : Option Addr} {c i : Nat} {P : Nat → Bool} {X : Rws} {K : Option Addr → Nat → Nat → Heap → Prop} (hi : i ≤ 4096) (hp : P i = true) (o : Hp.Own q c (blV P i) X) (s : St h0 h (X ++ R))
    (hk : ∀ q' c' X' h', Hp.Own q' c' (blV P (i + 1)) X' → St h0 h' (X' ++ R) → K q' (bl P (i + 1)).length c' h') :
    newP h (.cells #[(.int .i64 (i : Int))] 3) fun a h2 => ∃ n, cellsAt h2 (some a) (1 * 1) n ∧ appP 3 1 8 [(.int .i64 0)] q (bl P i).length c 1 n h2 fun q1 l1 c1 h1 => K q1 l1 c1 h1 := by
  have hle := bl_len P i
  have et := bl_succ P i
  rw [if_pos hp] at et
  refine Hp.Own.push1 o s (by simp) rfl (by simp; omega) fun q2 c2 X2 h2 o2 s2 => ?_
  rw [List.length_map]
  have := hk q2 c2 X2 h2 (by unfold blV; rw [et]; simpa using o2) s2
  rw [et, List.length_append] at this; exact this
theorem noB {P : Nat → Bool} {i : Nat} (hp : P i = false) : bl P (i + 1) = bl P i := by rw [bl_succ, if_neg (by rw [hp]; decide), List.append_nil]
theorem two_l0 {K2 : Option Addr → Nat → Nat → Option Addr → Nat → Nat → Option Addr → Nat → Nat → Option Addr → Nat → Nat → Heap → Prop} {m0 m1 c0 : Int} {b n : Nat} {p7 : Option Addr} (hn : n ≤ 16) (wn : IntKind.i64.wrap c0 = (n : Int))
    (r0 : ∀ h', Ext h0.heap h' → cell h' ⟨b, 0, none⟩ = some (.int .u16 m0)) (r1 : ∀ h', Ext h0.heap h' → cell h' ⟨b, 1, none⟩ = some (.int .u16 m1))
    (hk : ∀ qa ca Xa qb cb Xb qc cc Xc qd cd Xd h', Hp.Own qa ca (blV (bitE m0) n) Xa → Hp.Own qb cb (blV (bitE m1) n) Xb → Hp.Own qc cc (blV (fun v => bitE m0 v && bitE m1 v) n) Xc → Hp.Own qd cd (blV (fun v => bitE m0 v || bitE m1 v) n) Xd →
      St h0 h' (Xa ++ (Xb ++ (Xc ++ (Xd ++ [])))) → K2 qa (bl (bitE m0) n).length ca qb (bl (bitE m1) n).length cb qc (bl (fun v => bitE m0 v && bitE m1 v) n).length cc qd (bl (fun v => bitE m0 v || bitE m1 v) n).length cd h') :
    ∀ (d i : Nat) (h : Heap) (qa : Option Addr) (ca : Nat) (Xa : Rws) (qb : Option Addr) (cb : Nat) (Xb : Rws) (qc : Option Addr) (cc : Nat) (Xc : Rws) (qd : Option Addr) (cd : Nat) (Xd : Rws), i + d = n →
      Hp.Own qa ca (blV (bitE m0) i) Xa → Hp.Own qb cb (blV (bitE m1) i) Xb → Hp.Own qc cc (blV (fun v => bitE m0 v && bitE m1 v) i) Xc → Hp.Own qd cd (blV (fun v => bitE m0 v || bitE m1 v) i) Xd →
      St h0 h (Xa ++ (Xb ++ (Xc ++ (Xd ++ [])))) →
      straitlaw21_SideTwo.l0 K2 (d + 1) c0 ⟨b, 0, none⟩ p7 qa (bl (bitE m0) i).length ca qb (bl (bitE m1) i).length cb qc (bl (fun v => bitE m0 v && bitE m1 v) i).length cc qd (bl (fun v => bitE m0 v || bitE m1 v) i).length cd (i : Int) h := by
  intro d
  induction d with
  | zero =>
    intro i h qa ca Xa qb cb Xb qc cc Xc qd cd Xd hi oa ob oc od s
    unfold straitlaw21_SideTwo.l0 straitlaw21_SideTwo.b0
    have : i = n := by omega
    subst this
    rw [wn]
    exact iteB_neg (decide_eq_false (by omega)) (hk qa ca Xa qb cb Xb qc cc Xc qd cd Xd h oa ob oc od s)
  | succ d ih =>
    intro i h qa ca Xa qb cb Xb qc cc Xc qd cd Xd hi oa ob oc od s
    unfold straitlaw21_SideTwo.l0 straitlaw21_SideTwo.b0
    rw [wn]
    refine iteB_pos (decide_eq_true (by omega)) ?_
    intro j1079
    have J79 : ∀ (qa : Option Addr) (ca : Nat) (Xa : Rws) (qb : Option Addr) (cb : Nat) (Xb : Rws) (qc : Option Addr) (cc : Nat) (Xc : Rws) (qd : Option Addr) (cd : Nat) (Xd : Rws) (h' : Heap),
        Hp.Own qa ca (blV (bitE m0) (i + 1)) Xa → Hp.Own qb cb (blV (bitE m1) (i + 1)) Xb → Hp.Own qc cc (blV (fun v => bitE m0 v && bitE m1 v) (i + 1)) Xc → Hp.Own qd cd (blV (fun v => bitE m0 v || bitE m1 v) (i + 1)) Xd →
        St h0 h' (Xa ++ (Xb ++ (Xc ++ (Xd ++ [])))) →
        j1079 qa (bl (bitE m0) (i + 1)).length ca qb (bl (bitE m1) (i + 1)).length cb qc (bl (fun v => bitE m0 v && bitE m1 v) (i + 1)).length cc qd (bl (fun v => bitE m0 v || bitE m1 v) (i + 1)).length cd h' := fun qa ca Xa qb cb Xb qc cc Xc qd cd Xd h' oa ob oc od s => by
      simp -zeta only [j1079]
      rw [wrap64 (x := (i : Int) + 1) (by omega) (by omega)]
      exact ih (i + 1) h' qa ca Xa qb cb Xb qc cc Xc qd cd Xd (by omega) oa ob oc od s
    clear_value j1079
    refine ⟨by decide, m0, r0 h s.ext, by omega, bindV_intro fun n1 e1 => ⟨by decide, m1, r1 h s.ext, by omega, bindV_intro fun n2 e2 => ?_⟩⟩
    have hP : (n1 == (1 : Int)) = bitE m0 i := by rw [e1, Int.toNat_natCast]; rfl
    have hQ : (n2 == (1 : Int)) = bitE m1 i := by rw [e2, Int.toNat_natCast]; rfl
    rw [hP, hQ]
    clear hP hQ e1 e2
    intro j1073
    have J73 : ∀ (qa : Option Addr) (ca : Nat) (Xa : Rws) (h' : Heap), Hp.Own qa ca (blV (bitE m0) (i + 1)) Xa → St h0 h' (Xa ++ (Xb ++ (Xc ++ (Xd ++ [])))) → j1073 qa (bl (bitE m0) (i + 1)).length ca h' := fun qa ca Xa h' oa s => by
      simp -zeta only [j1073]
      intro j1072
      have J72 : ∀ (qb : Option Addr) (cb : Nat) (Xb : Rws) (h' : Heap), Hp.Own qb cb (blV (bitE m1) (i + 1)) Xb → St h0 h' (Xb ++ (Xa ++ (Xc ++ (Xd ++ [])))) → j1072 qb (bl (bitE m1) (i + 1)).length cb h' := fun qb cb Xb h' ob s => by
        simp -zeta only [j1072]
        intro j1071
        have J71 : ∀ (qc : Option Addr) (cc : Nat) (Xc : Rws) (h' : Heap), Hp.Own qc cc (blV (fun v => bitE m0 v && bitE m1 v) (i + 1)) Xc → St h0 h' (Xc ++ (Xa ++ (Xb ++ (Xd ++ [])))) → j1071 qc (bl (fun v => bitE m0 v && bitE m1 v) (i + 1)).length cc h' := fun qc cc Xc h' oc s => by
          simp -zeta only [j1071]
          have s' : St h0 h' (Xd ++ (Xa ++ (Xb ++ Xc))) := (St.re s (by intro a; simp only [cntR_append, cntR_cons, cntR_nil, List.cons_append, List.nil_append, List.set_cons_zero, List.set_cons_succ]; omega))
          by_cases p : (bitE m0 i || bitE m1 i) = true
          · have go : newP h' (.cells #[(.int .i64 (i : Int))] 3) fun a1057 h1058 => ∃ n1063, cellsAt h1058 (some a1057) (1 * 1) n1063 ∧ appP 3 1 8 [(.int .i64 0)] qd (bl (fun v => bitE m0 v || bitE m1 v) i).length cd 1 n1063 h1058 fun q1059 l1060 c1061 h1062 => j1079 qa (bl (bitE m0) (i + 1)).length ca qb (bl (bitE m1) (i + 1)).length cb qc (bl (fun v => bitE m0 v && bitE m1 v) (i + 1)).length cc q1059 l1060 c1061 h1062 :=
              pushB (P := fun v => bitE m0 v || bitE m1 v) (K := fun q1059 l1060 c1061 h1062 => j1079 qa (bl (bitE m0) (i + 1)).length ca qb (bl (bitE m1) (i + 1)).length cb qc (bl (fun v => bitE m0 v && bitE m1 v) (i + 1)).length cc q1059 l1060 c1061 h1062) (by omega) p od s' fun q' c' X' h2 o2 s2 => J79 qa ca Xa qb cb Xb qc cc Xc q' c' X' h2 oa ob oc o2 ((St.re s2 (by intro a; simp only [cntR_append, cntR_cons, cntR_nil, List.cons_append, List.nil_append, List.set_cons_zero, List.set_cons_succ]; omega)))
            by_cases p1 : bitE m0 i = true
            · exact iteB_pos p1 go
            · have p2 : bitE m1 i = true := by rw [Bool.or_eq_true] at p; exact p.resolve_left p1
              exact iteB_neg (by simpa using p1) (iteB_pos p2 go)
          · have p : (bitE m0 i || bitE m1 i) = false := by simpa using p
            obtain ⟨p1, p2⟩ := Bool.or_eq_false_iff.1 p
            have eD := noB (P := fun v => bitE m0 v || bitE m1 v) p
            refine iteB_neg p1 (iteB_neg p2 ?_)
            have H := J79 qa ca Xa qb cb Xb qc cc Xc qd cd Xd h' oa ob oc (by unfold blV; rw [eD]; exact od) ((St.re s (by intro a; simp only [cntR_append, cntR_cons, cntR_nil, List.cons_append, List.nil_append, List.set_cons_zero, List.set_cons_succ]; omega)))
            rw [eD] at H; exact H
        clear_value j1071
        have s' : St h0 h' (Xc ++ (Xa ++ (Xb ++ Xd))) := (St.re s (by intro a; simp only [cntR_append, cntR_cons, cntR_nil, List.cons_append, List.nil_append, List.set_cons_zero, List.set_cons_succ]; omega))
        have stay : (bitE m0 i && bitE m1 i) = false → j1071 qc (bl (fun v => bitE m0 v && bitE m1 v) i).length cc h' := fun p => by
          have eC := noB (P := fun v => bitE m0 v && bitE m1 v) p
          have H := J71 qc cc Xc h' (by unfold blV; rw [eC]; exact oc) ((St.re s (by intro a; simp only [cntR_append, cntR_cons, cntR_nil, List.cons_append, List.nil_append, List.set_cons_zero, List.set_cons_succ]; omega)))
          rw [eC] at H; exact H
        refine iteB_intro (fun p1 => iteB_intro (fun p2 => ?_) (fun p2 => stay (by rw [p2, Bool.and_false]))) (fun p1 => stay (by rw [p1, Bool.false_and]))
        exact pushB (P := fun v => bitE m0 v && bitE m1 v) (K := fun q l c h => j1071 q l c h) (by omega) (by simp only [p1, p2, Bool.and_self]) oc s' fun q' c' X' h2 o2 s2 => J71 q' c' X' h2 o2 ((St.re s2 (by intro a; simp only [cntR_append, cntR_cons, cntR_nil, List.cons_append, List.nil_append, List.set_cons_zero, List.set_cons_succ]; omega)))
      clear_value j1072
      have s' : St h0 h' (Xb ++ (Xa ++ (Xc ++ Xd))) := (St.re s (by intro a; simp only [cntR_append, cntR_cons, cntR_nil, List.cons_append, List.nil_append, List.set_cons_zero, List.set_cons_succ]; omega))
      refine iteB_intro (fun p2 => ?_) (fun p2 => ?_)
      · exact pushB (P := bitE m1) (K := fun q l c h => j1072 q l c h) (by omega) p2 ob s' fun q' c' X' h2 o2 s2 => J72 q' c' X' h2 o2 ((St.re s2 (by intro a; simp only [cntR_append, cntR_cons, cntR_nil, List.cons_append, List.nil_append, List.set_cons_zero, List.set_cons_succ]; omega)))
      · have eB := noB (P := bitE m1) p2
        have H := J72 qb cb Xb h' (by unfold blV; rw [eB]; exact ob) ((St.re s (by intro a; simp only [cntR_append, cntR_cons, cntR_nil, List.cons_append, List.nil_append, List.set_cons_zero, List.set_cons_succ]; omega)))
        rw [eB] at H; exact H
    clear_value j1073
    refine iteB_intro (fun p1 => ?_) (fun p1 => ?_)
    · exact pushB (P := bitE m0) (K := fun q l c h => j1073 q l c h) (by omega) p1 oa s fun q' c' X' h2 o2 s2 => J73 q' c' X' h2 o2 s2
    · have eA := noB (P := bitE m0) p1
      have H := J73 qa ca Xa h (by unfold blV; rw [eA]; exact oa) s
      rw [eA] at H; exact H
end
theorem Two_of {h : Heap} {a1 a3 a4 : Int} {q1 : Option Addr} {k1 c1 : Nat} {lE : List Ed} {K : Bool → Heap → Prop} (ha : 0 ≤ a1 ∧ a1 ≤ 255) (hl1 : lE.length = k1) (v1 : valsAt h q1 (eV lE))
    (hk : ∀ h', Ext h h' → K true h') : straitlaw21_SideTwo a1 q1 k1 c1 a3 a4 h K := by
  unfold straitlaw21_SideTwo
  refine (St.refl h).new_ fun b h1 s1 => ?_
  have e1 : Ext h h1 := s1.ext
  have aw : ∀ h', Ext h1 h' → callP1 (straitlaw21_awake h') fun x h'' => K x h'' := fun h' e => callP1.self (awake_of fun h'' e' => hk h'' ((e1.trans e).trans e'))
  have r0 : ∀ h', Ext h1 h' → cell h' ⟨b, 0, none⟩ = some (.int .u16 a3) := fun h' e => e.cell' (by rw [s1.rd0]; rfl)
  have r1 : ∀ h', Ext h1 h' → cell h' ⟨b, 1, none⟩ = some (.int .u16 a4) := fun h' e => e.cell' (by rw [s1.rd0]; rfl)
  have rr : Ext h1 h1 := (St.refl h1).ext
  intro j
  refine iteB_intro (fun _ => aw h1 rr) fun b1 => iteB_intro (fun _ => aw h1 rr) fun b2 => ?_
  have b1 := of_decide_eq_false b1
  have b2 := of_decide_eq_false b2
  simp -zeta only [j]
  clear j
  obtain ⟨n, rfl⟩ : ∃ n : Nat, a1 = n := ⟨a1.toNat, by omega⟩
  have wn : IntKind.i64.wrap (n : Int) = n := wrap64 (by omega) (by omega)
  refine callP3.self (New_of (h0 := (h1 : Base)) (R := []) hl1 (by omega) (Keeps.old (v1.ext e1)) (St.refl h1) (fun bad h2 s2 => iteB_pos (by simpa using bad) (aw h2 s2.ext)) (fun ok m g X h2 em nk s2 => ?_))
  rw [wn] at em
  obtain rfl : m = n := by omega
  refine iteB_neg rfl ?_
  have nh : NetH h2 g m (netL lE) := nk.at s2 (fun x hx => by simp [hx])
  have e2 : Ext h1 h2 := s2.ext
  clear nk s2
  have G := nh.gr
  refine ⟨m + 1, two_l0 (h0 := (h2 : Base)) (m0 := a3) (m1 := a4) (n := m) (by omega) wn (fun h' e => r0 h' (e2.trans e)) (fun h' e => r1 h' (e2.trans e)) (fun qa ca Xa qb cb Xb qc cc Xc qd cd Xd h3 oa ob oc od s3 => ?_) m 0 h2 none 0 [] none 0 [] none 0 [] none 0 [] (by omega) Hp.Own.nil Hp.Own.nil Hp.Own.nil Hp.Own.nil (St.refl h2)⟩
  have la := bl_len (bitE a3) m
  have lb := bl_len (bitE a4) m
  have lc := bl_len (fun v => bitE a3 v && bitE a4 v) m
  have ld := bl_len (fun v => bitE a3 v || bitE a4 v) m
  have va : ∀ h', St (h2 : Base) h' (Xa ++ (Xb ++ (Xc ++ (Xd ++ [])))) → valsAt h' qa (blV (bitE a3) m) := fun h' s => oa.keeps (h0 := (h2 : Base)) (R := Xa) (fun x hx => hx) h' _ s (fun x hx => by simp [hx])
  have vb : ∀ h', St (h2 : Base) h' (Xa ++ (Xb ++ (Xc ++ (Xd ++ [])))) → valsAt h' qb (blV (bitE a4) m) := fun h' s => ob.keeps (h0 := (h2 : Base)) (R := Xb) (fun x hx => hx) h' _ s (fun x hx => by simp [hx])
  have vc : ∀ h', St (h2 : Base) h' (Xa ++ (Xb ++ (Xc ++ (Xd ++ [])))) → valsAt h' qc (blV (fun v => bitE a3 v && bitE a4 v) m) := fun h' s => oc.keeps (h0 := (h2 : Base)) (R := Xc) (fun x hx => hx) h' _ s (fun x hx => by simp [hx])
  have vd : ∀ h', St (h2 : Base) h' (Xa ++ (Xb ++ (Xc ++ (Xd ++ [])))) → valsAt h' qd (blV (fun v => bitE a3 v || bitE a4 v) m) := fun h' s => od.keeps (h0 := (h2 : Base)) (R := Xd) (fun x hx => hx) h' _ s (fun x hx => by simp [hx])
  refine callP2.self (SWeight_of (nh.ext s3.ext) rfl (by omega) (va h3 s3) fun h4 e4 => ?_)
  have s4 := s3.ofExt e4
  refine callP2.self (SWeight_of (nh.ext s4.ext) rfl (by omega) (vb h4 s4) fun h5 e5 => ?_)
  have s5 := s4.ofExt e5
  refine callP2.self (SWeight_of (nh.ext s5.ext) rfl (by omega) (vc h5 s5) fun h6 e6 => ?_)
  have s6 := s5.ofExt e6
  refine callP2.self (SWeight_of (nh.ext s6.ext) rfl (by omega) (vd h6 s6) fun h7 e7 => ?_)
  have s7 := s6.ofExt e7
  rw [wn]
  refine callP3.self (ROther_of (h0 := (h2 : Base)) rfl (by omega) nh.hn (oa.keeps fun x hx => by simp [hx]) s7 fun q8 c8 X8 h8 o8 s8 => ?_)
  have lo := othT_len m (bl (bitE a3) m)
  refine callP2.self (SWeight_of (nh.ext s8.ext) rfl (by omega) (o8.vals s8) fun h9 e9 => ?_)
  have s9 := s8.ofExt e9
  have fin : Ext h1 h9 := e2.trans s9.ext
  rw [two_other (bitE a3) G]
  intro j52
  refine iteB_neg (by simp) (iteB_neg (by simp) ?_)
  simp -zeta only [j52]
  clear j52
  refine iteB_intro (fun _ => aw h9 fin) fun _ => iteB_intro (fun _ => aw h9 fin) fun _ => iteB_pos (decide_eq_true ?_) (aw h9 fin)
  have k1 := two_le (bitE a3) (bitE a4) G
  have g1 := cut_le (p := memS (bl (bitE a3) m)) G
  have g2 := cut_le (p := memS (bl (bitE a4) m)) G
  have g3 := cut_le (p := memS (bl (fun v => bitE a3 v && bitE a4 v) m)) G
  have g4 := cut_le (p := memS (bl (fun v => bitE a3 v || bitE a4 v) m)) G
  rw [← wgt_cut _ G] at g1 g2 g3 g4
  rw [wrap64 (by omega) (by omega), wrap64 (by omega) (by omega)]
  exact k1
end Go.Proofs.Ytbhndlpjfncliaa
