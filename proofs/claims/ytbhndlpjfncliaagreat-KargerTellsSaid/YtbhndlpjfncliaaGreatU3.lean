/-
  A cut by chance: the program's Groups, Run and Spread.
-/
import Derived.Test.YtbhndlpjfncliaaGreatU2
import Derived.Test.YtbhndlpjfncliaaGreatUS
namespace Go.Proofs.YtbhndlpjfncliaaGreat
set_option linter.unusedVariables false
set_option linter.unusedSimpArgs false
set_option linter.unnecessarySimpa false
open Go Go.Hp Go.RowKit
attribute [local irreducible] Go.Hp.iteB Go.Hp.stC Go.Hp.newP

theorem groupsD_stop {n : Nat} {k : Int} {p : List Int} {s : Drw} (h : ¬ ((headF s.C n).length : Int) > k) : ∀ m, groupsD n k p m s = s
  | 0 => rfl
  | m + 1 => by unfold groupsD; rw [if_neg h]
theorem groupsD_ok {n : Nat} {k : Int} {p : List Int} (hn : n ≤ 4096) (hk : 1 ≤ k) (hp : ∀ t, 0 ≤ pickF p t) : ∀ (m : Nat) (s : Drw), DrwOk n s → ((headF s.C n).length : Int) ≤ k + m → k ≤ ((headF s.C n).length : Int) →
    DrwOk n (groupsD n k p m s) ∧ ((headF (groupsD n k p m s).C n).length : Int) = k ∧ ((groupsD n k p m s).t : Int) ≤ s.t + ((headF s.C n).length - k)
  | 0, s, o, h1, h2 => ⟨o, by show ((headF s.C n).length : Int) = k; omega, by show (s.t : Int) ≤ _; omega⟩
  | m + 1, s, o, h1, h2 => by
    unfold groupsD
    by_cases c : ((headF s.C n).length : Int) > k
    · rw [if_pos c]
      obtain ⟨o2, e2, t2⟩ := o.step (p := p) hn hp (by omega)
      obtain ⟨o3, e3, t3⟩ := groupsD_ok hn hk hp m (stepK n p s) o2 (by omega) (by omega)
      exact ⟨o3, e3, by omega⟩
    · rw [if_neg c]
      exact ⟨o, by omega, by omega⟩
section
variable {h0 : Base} {R : Rws} {n g : Nat} {L : List Ed} {N : List (List Nat)}
theorem groups_l0 {K2 : Heap → Prop} {a : DA} {bd cap pc : Nat} {k : Int} {q p : Option Addr} {ps : List Int} (hn : n ≤ 4096) (hk1 : 1 ≤ k) (hps : ps.length < 2 ^ 40) (hpp : ∀ t, 0 ≤ pickF ps t) (kp : ∀ T, (∀ x ∈ R, x ∈ T) → Keeps h0 T p (u64V ps)) {sF : Drw}
    (hk : ∀ h' z' X' Y', z'.n = n → DInv z' sF.C → Own3 q cap sF.L X' → St h0 h' ((bd, drH (some ⟨a.b, 0, none⟩) q p sF.L.length cap ps.length pc (sF.t : Int)) :: (X' ++ (z'.rows a ++ (Y' ++ R)))) → K2 h') :
    ∀ (m : Nat) (h : Heap) (sd : Drw) (z : DS) (X Y : Rws), groupsD n k ps m sd = sF → ((headF sd.C n).length : Int) ≤ k + m → DrwOk n sd → sd.t + m < 2 ^ 40 → z.n = n → DInv z sd.C → Own3 q cap sd.L X →
      St h0 h ((bd, drH (some ⟨a.b, 0, none⟩) q p sd.L.length cap ps.length pc (sd.t : Int)) :: (X ++ (z.rows a ++ (Y ++ R)))) → karger_Groups.l0 K2 (m + 1) k ⟨bd, 0, none⟩ h := by
  intro m
  induction m with
  | zero =>
    intro h sd z X Y hF hl od ht zn iv o s
    have hF : sd = sF := hF
    subst hF
    unfold karger_Groups.l0 karger_Groups.b0
    have s1 : St h0 h (z.rows a ++ ((bd, drH (some ⟨a.b, 0, none⟩) q p sd.L.length cap ps.length pc (sd.t : Int)) :: (X ++ (Y ++ R)))) := (St.re s (by intro a; simp only [cntR_append, cntR_cons, cntR_nil, List.cons_append, List.nil_append, List.set_cons_zero, List.set_cons_succ]; omega))
    refine ⟨_, s.rd0 0, qcallP1.of (z.cnt : Int) (fun Q hQ => DCount_of s1 hQ) (iteB_neg (decide_eq_false ?_) (hk h z X Y zn iv o s))⟩
    rw [iv.cnt, zn]; omega
  | succ m ih =>
    intro h sd z X Y hF hl od ht zn iv o s
    unfold karger_Groups.l0 karger_Groups.b0
    have s1 : St h0 h (z.rows a ++ ((bd, drH (some ⟨a.b, 0, none⟩) q p sd.L.length cap ps.length pc (sd.t : Int)) :: (X ++ (Y ++ R)))) := (St.re s (by intro a; simp only [cntR_append, cntR_cons, cntR_nil, List.cons_append, List.nil_append, List.set_cons_zero, List.set_cons_succ]; omega))
    refine ⟨_, s.rd0 0, qcallP1.of (z.cnt : Int) (fun Q hQ => DCount_of s1 hQ) ?_⟩
    rw [iv.cnt, zn]
    unfold groupsD at hF
    by_cases c : ((headF sd.C n).length : Int) > k
    · rw [if_pos c] at hF
      have hl2 : 2 ≤ (headF sd.C n).length := by omega
      obtain ⟨o2, e2, t2⟩ := od.step (p := ps) hn hpp hl2
      refine iteB_pos (decide_eq_true c) (callP0.self (Step_of hn od hl2 hps hpp (by omega) zn iv o kp s fun h2 z2 X2 Y2 zn2 iv2 o3 s2 => ?_))
      exact ih h2 (stepK n ps sd) z2 X2 Y2 hF (by omega) o2 (by omega) zn2 iv2 o3 s2
    · rw [if_neg c] at hF
      subst hF
      exact iteB_neg (decide_eq_false c) (hk h z X Y zn iv o s)
theorem gr_drw (G : Gr n L) : DrwOk n ⟨fun v => v, L, 0⟩ := by
  refine ⟨Names.id n, fun e he => ?_, ?_, G.len⟩
  · have := G.range e he; omega
  · have h := G.sum
    have : wall L = wsum L := rfl
    show wall L ≤ _
    omega
theorem headF_id (n : Nat) : (headF (fun v => v) n).length = n := by
  unfold headF
  rw [List.filter_eq_self.2 (fun x _ => by simp), List.length_range]
abbrev drawnF (n : Nat) (k : Int) (ps : List Int) (L : List Ed) : Drw := groupsD n k ps n ⟨fun v => v, L, 0⟩
theorem Groups_of {h : Heap} {k : Int} {p : Option Addr} {pc : Nat} {ps : List Int} {K : Option Addr → Nat → Nat → Int → Int → Heap → Prop} (nh : NetG h0.heap g n L N) (hps : ps.length < 2 ^ 40) (hpp : ∀ t, 0 ≤ pickF ps t) (kp : Keeps h0 R p (u64V ps)) (s : St h0 h R)
    (hk0 : k < 1 ∨ k > n → K none 0 0 0 1 h)
    (hk : 1 ≤ k → k ≤ n → ∀ h' q c qs Y, Keeps h0 Y q (slV qs) → Sls h0 Y qs (clsL (drawnF n k ps L).C n) → St h0 h' (Y ++ R) → K q (clsL (drawnF n k ps L).C n).length c ((drawnF n k ps L).t : Int) 0 h') : karger_Groups (some ⟨g, 0, none⟩) k p ps.length pc h K := by
  unfold karger_Groups
  have hn := nh.hn
  intro j
  have J : 1 ≤ k → k ≤ n → j := fun k1 k2 => by
    simp -zeta only [j]
    have hk := hk k1 k2
    refine qcallP1.of (n : Int) (fun Q hQ => GN_of nh s hQ) (callP1.self (DNew_of s fun a h1 s1 => callP3.self (GEdges_of nh s1 fun q c X h2 o s2 => s2.new_ fun bd h3 s3 => ⟨n + 1, ?_⟩)))
    rw [show roomN (n : Int) = n by unfold roomN; split <;> (try split) <;> omega] at s3
    have s4 : St h0 h3 ((bd, drH (some ⟨a.b, 0, none⟩) q p L.length c ps.length pc ((0 : Nat) : Int)) :: (X ++ ((DS.new n).rows a ++ ([] ++ R)))) := s3
    refine groups_l0 (sF := drawnF n k ps L) hn k1 hps hpp (fun T hs => kp.sub hs) (fun h5 z5 X5 Y5 zn5 iv5 o5 s5 => ?_) n h3 ⟨fun v => v, L, 0⟩ (DS.new n) X [] rfl (by rw [headF_id]; omega) (gr_drw nh.gr) (by show 0 + n < _; omega) rfl (DInv.new hn) o s4
    have s6 : St h0 h5 (z5.rows a ++ ((bd, drH (some ⟨a.b, 0, none⟩) q p (drawnF n k ps L).L.length c ps.length pc ((drawnF n k ps L).t : Int)) :: (X5 ++ (Y5 ++ R)))) := (St.re s5 (by intro a; simp only [cntR_append, cntR_cons, cntR_nil, List.cons_append, List.nil_append, List.set_cons_zero, List.set_cons_succ]; omega))
    refine ⟨_, s5.rd0 0, _, s5.rd0 3, callP3.self (DList_of iv5 s6 fun h7 U ql cl qs Z iv7 k7 l7 s7 => ?_)⟩
    rw [zn5] at l7 ⊢
    refine ⟨⟨_, (s7.rd (b := bd) (cs := drH (some ⟨a.b, 0, none⟩) q p (drawnF n k ps L).L.length c ps.length pc ((drawnF n k ps L).t : Int)) (by simp)) 3, rfl⟩, ?_⟩
    exact hk h7 ql cl qs (Z ++ (({ z5 with up := U } : DS).rows a ++ ((bd, drH (some ⟨a.b, 0, none⟩) q p (drawnF n k ps L).L.length c ps.length pc ((drawnF n k ps L).t : Int)) :: (X5 ++ Y5)))) (k7.sub fun x hx => by simp [hx]) (l7.sub fun x hx => by simp [hx]) (by simpa [List.append_assoc] using s7)
  clear_value j
  by_cases c1 : k < 1
  · exact iteB_pos (decide_eq_true c1) (hk0 (.inl c1))
  · refine iteB_neg (decide_eq_false c1) (qcallP1.of (n : Int) (fun Q hQ => GN_of nh s hQ) ?_)
    by_cases c2 : k > n
    · exact iteB_pos (decide_eq_true c2) (hk0 (.inr c2))
    · exact iteB_neg (decide_eq_false c2) (J (by omega) (by omega))
/-- The second of two classes. -/
theorem second {C : Nat → Nat} (hn : n ≤ 4096) (na : Names n C) (hl : (headF C n).length = 2) : ∃ c, 0 < c ∧ c < n ∧ C c = c ∧ (clsL C n)[1]? = some (clsF C n c) ∧ (clsF C n c).map (fun v : Nat => (v : Int)) = bl (fun v => C v == c) n ∧ chkS n (bl (fun v => C v == c) n) = 0 ∧ memS (bl (fun v => C v == c) n) 0 = false := by
  have e0 : (headF C n)[0]? = some (headF C n)[0] := List.getElem?_eq_getElem (by omega)
  have e1 : (headF C n)[1]? = some (headF C n)[1] := List.getElem?_eq_getElem (by omega)
  have p : (headF C n).Pairwise (· < ·) := List.Pairwise.filter _ List.pairwise_lt_range
  have lt : (headF C n)[0] < (headF C n)[1] := List.pairwise_iff_getElem.1 p 0 1 (by omega) (by omega) (by omega)
  have m1 : (headF C n)[1] ∈ (List.range n).filter fun v => C v == v := List.mem_of_getElem? e1
  rw [List.mem_filter, List.mem_range] at m1
  generalize hc : (headF C n)[1] = c at *
  obtain ⟨c1, c2⟩ := m1
  have c2 : C c = c := by simpa using c2
  have C0 : C 0 = 0 := by have := na.le 0 (by omega); omega
  have n0 : (C 0 == c) = false := by rw [C0]; simp; omega
  have mc : memS (bl (fun v => C v == c) n) (c : Int) = true := by rw [mem_bl c1]; simp [c2]
  refine ⟨c, by omega, c1, c2, ?_, rfl, ?_, ?_⟩
  · have : clsL C n = (headF C n).map fun c => clsF C n c := rfl
    rw [this, List.getElem?_map, e1]; rfl
  · rw [chk_bl, if_neg]
    rintro (h | h)
    · have : bl (fun v => C v == c) n = [] := List.length_eq_zero_iff.1 (by omega)
      rw [this] at mc; simp [memS] at mc
    · have := all_bl (P := fun v => C v == c) (n := n) (by omega) 0 (by omega)
      rw [n0] at this; cases this
  · have := mem_bl (P := fun v => C v == c) (n := n) (k := 0) (by omega)
    rw [n0] at this; exact this
theorem NetG.toH {h : Heap} (k : NetG h g n L N) : NetH h g n L := by
  obtain ⟨a, b, nr, cm, qm, E, c1, c2, v, _⟩ := k
  exact ⟨a, b, _, cm, qm, c1, c2, v⟩
theorem Run_small {h : Heap} {gp p : Option Addr} {m : Int} {l pc : Nat} {K : Int → Option Addr → Nat → Nat → Int → Int → Heap → Prop} (hN : ∀ {h' : Heap} {R' : Rws} {Q : Int → Prop}, St h0 h' R' → Q m → qcallP1 h' (net_Net_N gp h') Q) (hm : m < 2) (s : St h0 h R)
    (hk : ∀ h' Y, St h0 h' (Y ++ R) → K 0 none 0 0 0 9 h') : karger_Run gp p l pc h K := by
  unfold karger_Run
  refine s.new_ fun b h1 s1 => hN s1 (iteB_pos (decide_eq_true hm) (s1.st0 (by simp) fun h2 s2 => ?_))
  rw [add_mk]
  refine s2.st0 (by simp) fun h3 s3 => ?_
  simp only [List.set_cons_zero, List.set_cons_succ, Nat.zero_add] at s3
  exact ⟨_, s3.rd0 0, _, _, _, s3.rd0 1, hk h3 [_] s3⟩
/-- What a run gives: what its side weighs, the side, how many picks were taken. -/
theorem Run_of {h : Heap} {p : Option Addr} {pc : Nat} {ps : List Int} {K : Int → Option Addr → Nat → Nat → Int → Int → Heap → Prop} (nh : NetG h0.heap g n L N) (hn2 : 2 ≤ n) (hps : ps.length < 2 ^ 40) (hpp : ∀ t, 0 ≤ pickF ps t) (kp : Keeps h0 R p (u64V ps)) (s : St h0 h R)
    (hk : ∀ c, 0 < c → c < n → (drawnF n 2 ps L).C c = c → (clsL (drawnF n 2 ps L).C n)[1]? = some (clsF (drawnF n 2 ps L).C n c) → chkS n (bl (fun v => (drawnF n 2 ps L).C v == c) n) = 0 → memS (bl (fun v => (drawnF n 2 ps L).C v == c) n) 0 = false → (drawnF n 2 ps L).t + 2 ≤ n →
      ∀ h' q cc X Y, Hp.Own q cc ((bl (fun v => (drawnF n 2 ps L).C v == c) n).map (Value.int .i64)) X → St h0 h' (X ++ (Y ++ R)) →
      K (wgt n (bl (fun v => (drawnF n 2 ps L).C v == c) n) L).1 q (bl (fun v => (drawnF n 2 ps L).C v == c) n).length cc ((drawnF n 2 ps L).t : Int) 0 h') : karger_Run (some ⟨g, 0, none⟩) p ps.length pc h K := by
  unfold karger_Run
  have hn := nh.hn
  obtain ⟨dok, dl, dt⟩ := groupsD_ok (k := 2) hn (by omega) hpp n ⟨fun v => v, L, 0⟩ (gr_drw nh.gr) (by show ((headF (fun v => v) n).length : Int) ≤ _; rw [headF_id]; omega) (by show (2 : Int) ≤ ((headF (fun v => v) n).length : Int); rw [headF_id]; omega)
  have dt : ((drawnF n 2 ps L).t : Int) ≤ ((0 : Nat) : Int) + (((headF (fun v => v) n).length : Int) - 2) := dt
  rw [headF_id] at dt
  have dl2 : (headF (drawnF n 2 ps L).C n).length = 2 := by have : ((headF (drawnF n 2 ps L).C n).length : Int) = 2 := dl; omega
  obtain ⟨c, c0, cn, cc, e1, em, ch, m0⟩ := second hn dok.na dl2
  have hk := hk c c0 cn cc e1 ch m0 (by show (drawnF n 2 ps L).t + 2 ≤ n; omega)
  refine s.new_ fun b h1 s1 => qcallP1.of (n : Int) (fun Q hQ => GN_of nh s1 hQ) (iteB_neg (decide_eq_false (by omega)) ?_)
  refine callP5.self (Groups_of nh hps hpp kp.cons s1 (fun no => by omega) fun _ _ h2 q2 c2 qs2 Y2 k2 l2 s2 => ?_)
  obtain ⟨a2, p2, cp2, rfl, g2, kl⟩ := sls_row k2 l2 s2 (fun x hx => by simp [hx]) e1
  have hlen : (clsL (drawnF n 2 ps L).C n).length = 2 := by rw [clsL_len]; exact dl2
  rw [chkP_some]
  refine ⟨by omega, _, _, _, g2, ?_⟩
  rw [nums_map, em] at kl
  have hle : (clsF (drawnF n 2 ps L).C n c).length = (bl (fun v => (drawnF n 2 ps L).C v == c) n).length := by rw [← em, List.length_map]
  have hbl := bl_len (fun v => (drawnF n 2 ps L).C v == c) n
  rw [hle]
  refine callP5.self (SCut_of (n := n) (L := L) (fun h' s' => (nh.ext s'.ext).toH) rfl (by omega) (kl.sub fun x hx => by simp [hx]) s2 (fun no => absurd ch no) fun _ q3 c3 X3 h3 o3 s3 => ?_)
  refine s3.new_ fun b4 h4 s4 => s4.st0 (by simp) fun h5 s5 => ?_
  rw [add_mk]
  refine s5.st0 (by simp) fun h6 s6 => ?_
  simp only [List.set_cons_zero, List.set_cons_succ, Nat.zero_add] at s6
  refine ⟨_, s6.rd0 0, _, _, _, s6.rd0 1, ?_⟩
  have s7 : St h0 h6 ((b, [Value.int .i64 0, .slice none 0 0]) :: (X3 ++ (((b4, [.int .i64 (wgt n (bl (fun v => (drawnF n 2 ps L).C v == c) n) L).1, .slice q3 (bl (fun v => (drawnF n 2 ps L).C v == c) n).length c3]) :: Y2) ++ R))) := (St.re s6 (by intro a; simp only [cntR_append, cntR_cons, cntR_nil, List.cons_append, List.nil_append, List.set_cons_zero, List.set_cons_succ]; omega))
  refine s7.st0 (by simp) fun h8 s8 => ?_
  rw [add_mk]
  refine s8.st0 (by simp) fun h9 s9 => ?_
  simp only [List.set_cons_zero, List.set_cons_succ, Nat.zero_add] at s9
  refine ⟨_, s9.rd0 0, _, _, _, s9.rd0 1, ?_⟩
  have sA : St h0 h9 (X3 ++ (((b, [.int .i64 (wgt n (bl (fun v => (drawnF n 2 ps L).C v == c) n) L).1, .slice q3 (bl (fun v => (drawnF n 2 ps L).C v == c) n).length c3]) :: (b4, [.int .i64 (wgt n (bl (fun v => (drawnF n 2 ps L).C v == c) n) L).1, .slice q3 (bl (fun v => (drawnF n 2 ps L).C v == c) n).length c3]) :: Y2) ++ R)) := (St.re s9 (by intro a; simp only [cntR_append, cntR_cons, cntR_nil, List.cons_append, List.nil_append, List.set_cons_zero, List.set_cons_succ]; omega))
  exact hk h9 q3 c3 X3 _ o3 sA
end
end Go.Proofs.YtbhndlpjfncliaaGreat
