/-
  Sides: the law of any numbers as a side of any graph.
-/
import Derived.Test.YtbhndlpjfncliaaS7
namespace Go.Proofs.Ytbhndlpjfncliaa
set_option linter.unusedVariables false
set_option linter.unusedSimpArgs false
set_option linter.unnecessarySimpa false
open Go Go.Hp Go.RowKit
attribute [local irreducible] Go.Hp.iteB Go.Hp.stC Go.Hp.newP

theorem wf_u8 {n : Int} (h : (Lit.int .u8 n).wf = true) : 0 ≤ n ∧ n ≤ 255 := by
  simp only [Lit.wf, IntKind.min, IntKind.max, IntKind.signed, IntKind.bits, Bool.and_eq_true, decide_eq_true_eq, Bool.false_eq_true, if_false] at h; omega
theorem eV_rows {h : Heap} {q : Option Addr} {l : List Ed} (hr : rowsAt h q 3 (l.map Ed.vs)) : valsAt h q (eV l) := fun t v hv => by
  have ht := lt_get hv
  rw [eV_len] at ht
  obtain ⟨e, he⟩ := get_lt (l := l) (i := t / 3) (by omega)
  have e1 := eV_get (o := t % 3) he (by omega)
  rw [show t / 3 * 3 + t % 3 = t by omega, hv] at e1
  obtain ⟨a, ha, hc⟩ := hr (t / 3) (Ed.vs e) (by simp [he])
  have := hc (t % 3) v e1.symm
  rw [show t / 3 * 3 + t % 3 = t by omega] at this
  exact ⟨a, ha, this⟩

theorem crs_side {n : Nat} {l : List Int} {L : List Ed} (G : Gr n L) : crs (inS n l) 0 L = crs (memS l) 0 L := crs_congr fun e he => by
  have r := G.range e he
  rw [inS_eq, inS_eq, decide_eq_true (show inV e.1 n from ⟨r.1, by omega⟩), decide_eq_true (show inV e.2.1 n from ⟨by omega, r.2.2.1⟩), Bool.true_and, Bool.true_and]
  exact ⟨rfl, rfl⟩
theorem crsI_side {n : Nat} {l : List Int} {L : List Ed} (G : Gr n L) : crsI (inS n l) L = crsI (memS l) L := by unfold crsI; rw [crs_side G]
theorem wrap_ne (x : Int) : IntKind.i64.wrap (x + 1) ≠ x := by
  rw [IntKind.wrap_i64]; omega
section
variable {h0 : Base} {R : Rws} {n : Nat} {q : Option Addr} {k c : Nat} {l : List Int}
theorem RNormal1_of {h : Heap} {K : Option Addr → Nat → Nat → Heap → Prop} (hn : n ≤ 4096) (hl : l.length = k) (hb : k < 2 ^ 40) (kl : Keeps h0 R q (l.map (Value.int .i64))) (s : St h0 h R)
    (hk : ∀ q' c' X h', Keeps h0 (X ++ R) q' ((nrmL n l).map (Value.int .i64)) → St h0 h' (X ++ R) → K q' (nrmL n l).length c' h') : straitref21_Normal (n : Int) q k c h K := by
  unfold straitref21_Normal
  refine qcallP1.of _ (fun Q hQ => InI_of hl hb (kl.at0 s) hQ) ?_
  by_cases e : (0 : Int) ∈ l
  · rw [decide_eq_true e]
    have e3 : nrmL n l = othT n l := if_pos e
    rw [e3] at hk
    exact iteB_pos rfl (callP3.self (ROther_of hl hb hn kl s fun q' c' X h' o s' => hk q' c' X h' (o.keeps fun x hx => by simp [hx]) s'))
  · rw [decide_eq_false e]
    have e3 : nrmL n l = l := if_neg e
    rw [e3, hl] at hk
    exact iteB_neg rfl (hk q c [] h kl s)
theorem RSame_of {h : Heap} {w1 w2 : Int} {q2 : Option Addr} {k2 c2 : Nat} {l2 : List Int} {K : Bool → Heap → Prop} (hl : l.length = k) (hl2 : l2.length = k2) (hb : k < 2 ^ 40) (v1 : valsAt h q (l.map (Value.int .i64))) (v2 : valsAt h q2 (l2.map (Value.int .i64)))
    (hk : ∀ h', Ext h h' → K (decide (w1 = w2) && decide (l = l2)) h') : straitref21_Same w1 q k c w2 q2 k2 c2 h K := by
  unfold straitref21_Same
  refine (St.refl h).new_ fun b1 h1 s1 => s1.new_ fun b2 h2 s2 => ?_
  have H := hk h2 s2.ext
  refine ⟨w1, s2.rd1 0, w2, s2.rd0 0, ?_⟩
  refine iteB_intro (fun e => ?_) fun e => ?_
  · rw [decide_eq_true (by simpa using e), Bool.true_and] at H
    refine ⟨q, k, c, s2.rd1 1, q2, k2, c2, s2.rd0 1, qcallP1.of _ (fun Q hQ => Ints_of (v1.ext s2.ext) (v2.ext s2.ext) hl.symm hl2.symm (by omega) hQ) H⟩
  · rw [decide_eq_false (by simpa using e), Bool.false_and] at H; exact H
end
theorem Tells_of {h : Heap} {a1 : Int} {q1 q : Option Addr} {k1 c1 k c : Nat} {lE : List Ed} {l : List Int} {K : Bool → Heap → Prop} (ha : 0 ≤ a1 ∧ a1 ≤ 255) (hl1 : lE.length = k1) (v1 : valsAt h q1 (eV lE)) (hl : l.length = k) (hc : k ≤ c) (vl : valsAt h q (l.map (Value.int .i64)))
    (hk : ∀ h', Ext h h' → K true h') : straitlaw21_SideTells a1 q1 k1 c1 q k c h K := by
  unfold straitlaw21_SideTells
  have aw : ∀ h', Ext h h' → callP1 (straitlaw21_awake h') fun x h'' => K x h'' := fun h' e => callP1.self (awake_of fun h'' e' => hk h'' (e.trans e'))
  have r0 : Ext h h := (St.refl h).ext
  intro j
  refine iteB_intro (fun _ => aw h r0) fun b1 => iteB_intro (fun _ => aw h r0) fun b2 => ?_
  have b1 := of_decide_eq_false b1
  have b2 := of_decide_eq_false b2
  simp -zeta only [j]
  clear j
  obtain ⟨n, rfl⟩ : ∃ n : Nat, a1 = n := ⟨a1.toNat, by omega⟩
  have wn : IntKind.i64.wrap (n : Int) = n := wrap64 (by omega) (by omega)
  rw [wn]
  refine callP3.self (New_of (h0 := (h : Base)) (R := []) hl1 (by omega) (Keeps.old v1) (St.refl h) (fun bad h2 s2 => ?_) (fun ok m g X h2 em nk s2 => ?_))
  · refine iteB_pos (by simpa using bad) ?_
    have vl2 := vl.ext s2.ext
    refine callP2.self (SWeight_nil hl (by omega) vl2 fun h3 e3 => qcallP1.of _ (fun Q hQ => RSCheck_of (n := 0) hl (by omega) (vl2.ext e3) hQ) (iteB_pos (by simp) ?_))
    exact callP1.self (SRight_nil hl (by omega) (vl2.ext e3) fun h4 e4 => iteB_pos rfl (aw h4 ((s2.ext.trans e3).trans e4)))
  · obtain rfl : m = n := by omega
    refine iteB_neg rfl ?_
    have nh : NetH h2 g m (netL lE) := nk.at s2 (fun x hx => by simp [hx])
    have e2 : Ext h h2 := s2.ext
    clear nk s2
    have G := nh.gr
    have hLl := G.len
    have kl : ∀ R, Keeps (h2 : Base) R q (l.map (Value.int .i64)) := fun R => Keeps.old (vl.ext e2)
    refine callP6.self (RNew_of (h0 := (h2 : Base)) (R := []) hl1 (Keeps.old (v1.ext e2)) (St.refl h2) ok fun q3 c3 X3 h3 o3 s3 => ?_)
    refine s3.new_ fun bA h4 s4 => s4.st0 (by simp) fun h5 s5 => ?_
    rw [add_mk]
    refine s5.st0 (by simp) fun h6 s6 => ?_
    simp only [List.set_cons_zero, List.set_cons_succ, Nat.zero_add] at s6
    refine qcallP1.of _ (fun Q hQ => RSCheck_of hl (by omega) ((kl _).at0 s6) hQ) ?_
    refine callP2.self (SWeight_of (nh.ext s6.ext) hl (by omega) ((kl _).at0 s6) fun h7 e7 => ?_)
    have s7 := s6.ofExt e7
    by_cases e : chkS m l = 0
    · have wg : wgt m l (netL lE) = (sumX (crs (memS l) 0 (netL lE)), 0) := by unfold wgt; rw [if_pos e, crs_side G]
      refine callP4.self (SCrossing_of (nh.ext s7.ext) hl (by omega) ((kl _).at0 s7) s7 (fun no => absurd e no) fun _ q8 c8 X8 h8 o8 s8 => ?_)
      refine callP4.self (SNormal_of (by omega) hl (by omega) hc (kl _) s8 (fun no => absurd e no) fun _ q9 c9 X9 h9 o9 s9 => ?_)
      refine callP5.self (SCut_of (fun h' s' => nh.ext s'.ext) hl (by omega) (kl _) s9 (fun no => absurd e no) fun _ qA cA XA hA oA sA => ?_)
      refine sA.new_ fun bB hB sB => sB.st0 (by simp) fun hC sC => ?_
      rw [add_mk]
      refine sC.st0 (by simp) fun hD sD => ?_
      simp only [List.set_cons_zero, List.set_cons_succ, Nat.zero_add] at sD
      intro j88
      refine qcallP1.of _ (fun Q hQ => SCheck_of hl (by omega) ((kl _).at0 sD) hQ) ?_
      rw [wg, e]
      refine iteB_neg rfl (iteB_neg rfl (iteB_neg rfl (iteB_neg rfl (iteB_neg rfl ?_))))
      simp -zeta only [j88]
      clear j88
      rw [wg, e]
      refine iteB_neg rfl ?_
      rw [wg, hl.symm] at sD
      have k8 : ∀ R', (∀ x ∈ X8, x ∈ R') → Keeps (h2 : Base) R' q8 (natV (crsI (inS m l) (netL lE))) := fun R' hs => o8.keeps hs
      have k9 : ∀ R', (∀ x ∈ X9, x ∈ R') → Keeps (h2 : Base) R' q9 ((nrmL m l).map (Value.int .i64)) := fun R' hs => o9.keeps hs
      have kA : ∀ R', (∀ x ∈ XA, x ∈ R') → Keeps (h2 : Base) R' qA (l.map (Value.int .i64)) := fun R' hs => oA.keeps hs
      have k3 : ∀ R', (∀ x ∈ X3, x ∈ R') → Keeps (h2 : Base) R' q3 (eV (netL lE)) := fun R' hs => o3.keeps hs
      have rA : ∀ j, cell hD ⟨bA, j, none⟩ = [Value.int .i64 (m : Int), .slice q3 (netL lE).length c3][j]? := sD.rd (by simp)
      refine ⟨_, rA 0, _, _, _, rA 1, callP1.self (RWeight_of hl (by omega) hLl (kl _) (k3 _ (fun x hx => by simp [hx])) sD fun hE sE => ?_)⟩
      refine iteB_pos (by simp) ?_
      have rA : ∀ j, cell hE ⟨bA, j, none⟩ = [Value.int .i64 (m : Int), .slice q3 (netL lE).length c3][j]? := sE.rd (by simp)
      refine ⟨_, rA 0, _, _, _, rA 1, callP3.self (RCrossing_of hl (by omega) hLl (kl _) (k3 _ (fun x hx => by simp [hx])) sE fun qF cF XF hF oF sF => ?_)⟩
      have c8l := crs_len (inS m l) (netL lE) 0
      refine qcallP1.of true (fun Q hQ => Ints_of (l1 := (crsI (inS m l) (netL lE)).map fun v : Nat => (v : Int)) (l2 := (crsI (memS l) (netL lE)).map fun v : Nat => (v : Int)) (by rw [← natV_ints]; exact k8 X8 (fun x hx => hx) hF _ sF (fun x hx => by simp [hx])) (by rw [← natV_ints]; exact oF.vals sF) (by simp) (by simp) (by simp; omega) (by rw [crsI_side G, decide_eq_true rfl]; exact hQ)) ?_
      refine iteB_pos rfl ?_
      refine callP3.self (RNormal1_of (by omega) hl (by omega) (kl _) sF fun qG cG XG hG kG sG => ?_)
      refine qcallP1.of true (fun Q hQ => Ints_of (k9 X9 (fun x hx => hx) hG _ sG (fun x hx => by simp [hx])) (kG hG _ sG (fun x hx => hx)) rfl rfl (by have := othT_len m l; unfold nrmL; split <;> omega) (by rw [decide_eq_true rfl]; exact hQ)) ?_
      refine iteB_pos rfl ?_
      have rB : ∀ j, cell hG ⟨bB, j, none⟩ = [Value.int .i64 (sumX (crs (memS l) 0 (netL lE))), .slice qA l.length cA][j]? := sG.rd (by simp)
      refine ⟨_, rB 0, _, _, _, rB 1, callP1.self (RSame_of rfl hl (by omega) (kA XA (fun x hx => hx) hG _ sG (fun x hx => by simp [hx])) ((kl _).at0 sG) fun hH eH => ?_)⟩
      refine iteB_pos (by simp) ?_
      have sH := sG.ofExt eH
      have rB : ∀ j, cell hH ⟨bB, j, none⟩ = [Value.int .i64 (sumX (crs (memS l) 0 (netL lE))), .slice qA l.length cA][j]? := sH.rd (by simp)
      refine ⟨_, rB 0, _, _, _, rB 1, callP1.self (SRight_of (nh.ext sH.ext) rfl (by omega) (kA XA (fun x hx => hx) hH _ sH (fun x hx => by simp [hx])) fun hI eI => ?_)⟩
      rw [wg]
      refine iteB_pos (by simp) ?_
      have sI := sH.ofExt eI
      refine callP1.self (SRight_of (nh.ext sI.ext) hl (by omega) ((kl _).at0 sI) fun hJ eJ => ?_)
      rw [wg]
      refine iteB_pos (by have := wrap_ne (sumX (crs (memS l) 0 (netL lE))); simp; exact fun h => this h.symm) ?_
      exact aw hJ ((e2.trans sI.ext).trans eJ)
    · have wg : wgt m l (netL lE) = (0, chkS m l) := by unfold wgt; rw [if_neg e]
      refine callP4.self (SCrossing_of (nh.ext s7.ext) hl (by omega) ((kl _).at0 s7) s7 (fun _ h8 s8 => ?_) fun yes => absurd yes e)
      refine callP4.self (SNormal_of (by omega) hl (by omega) hc (kl _) s8 (fun _ => ?_) fun yes => absurd yes e)
      refine callP5.self (SCut_of (fun h' s' => nh.ext s'.ext) hl (by omega) (kl _) s8 (fun _ hA sA => ?_) fun yes => absurd yes e)
      refine sA.new_ fun bB hB sB => sB.st0 (by simp) fun hC sC => ?_
      rw [add_mk]
      refine sC.st0 (by simp) fun hD sD => ?_
      simp only [List.set_cons_zero, List.set_cons_succ, Nat.zero_add] at sD
      intro j88
      refine qcallP1.of _ (fun Q hQ => SCheck_of hl (by omega) ((kl _).at0 sD) hQ) ?_
      rw [wg]
      refine iteB_neg (by simp) (iteB_neg (by simp) (iteB_neg (by simp) (iteB_neg (by simp) (iteB_neg (by simp) ?_))))
      simp -zeta only [j88]
      clear j88
      rw [wg]
      refine iteB_pos (by simpa using e) (iteB_pos rfl (iteB_pos rfl (iteB_pos rfl ?_)))
      refine ⟨_, sD.rd0 0, iteB_pos rfl ⟨_, _, _, sD.rd0 1, iteB_pos rfl ?_⟩⟩
      refine callP1.self (SRight_of (nh.ext sD.ext) hl (by omega) ((kl _).at0 sD) fun hE eE => ?_)
      rw [wg]
      refine iteB_pos (by simp [e]) ?_
      exact aw hE ((e2.trans sD.ext).trans eE)
end Go.Proofs.Ytbhndlpjfncliaa
