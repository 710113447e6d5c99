/-
  A cut by chance: the law of the groups, the cut, and the numbers.
-/
import Derived.Test.YtbhndlpjfncliaaGreatU7
namespace Go.Proofs.YtbhndlpjfncliaaGreat
set_option linter.unusedVariables false
set_option linter.unusedSimpArgs false
set_option linter.unnecessarySimpa false
open Go Go.Hp Go.RowKit
attribute [local irreducible] Go.Hp.iteB Go.Hp.stC Go.Hp.newP

def grpL (n : Nat) (k : Int) (ps : List Int) (L : List Ed) : List (List Nat) := if 1 ≤ k ∧ k ≤ n then clsL (drawnF n k ps L).C n else []
def grpT (n : Nat) (k : Int) (ps : List Int) (L : List Ed) : Int := if 1 ≤ k ∧ k ≤ n then ((drawnF n k ps L).t : Int) else 0
def grpE (n : Nat) (k : Int) : Int := if 1 ≤ k ∧ k ≤ n then 0 else 1
def runL (n : Nat) (ps : List Int) (L : List Ed) : List Int := if 2 ≤ n then sideD n ps L else []
def runW (n : Nat) (ps : List Int) (L : List Ed) : Int := if 2 ≤ n then drwW n ps L else 0
def runT (n : Nat) (ps : List Int) (L : List Ed) : Int := if 2 ≤ n then ((drawnF n 2 ps L).t : Int) else 0
def runE (n : Nat) : Int := if 2 ≤ n then 0 else 9
theorem grp_small {n : Nat} {k : Int} {ps : List Int} {L : List Ed} (hn : n ≤ 4096) : (grpL n k ps L).length < 2 ^ 40 ∧ ∀ l ∈ grpL n k ps L, l.length < 2 ^ 40 := by
  unfold grpL
  split
  · exact clsL_small hn
  · simp
theorem run_small {n : Nat} {ps : List Int} {L : List Ed} (hn : n ≤ 4096) (G : Gr n L) (hpp : ∀ t, 0 ≤ pickF ps t) : (runL n ps L).length < 2 ^ 40 := by
  unfold runL
  split
  · have := sideD_len hn (by omega) G hpp; omega
  · simp
section
variable {h0 : Base} {R : Rws} {n g : Nat} {L : List Ed} {N : List (List Nat)}
theorem Groups_u {h : Heap} {k : Int} {p : Option Addr} {pc : Nat} {ps : List Int} {K : Option Addr → Nat → Nat → Int → Int → Heap → Prop} (nh : NetG h0.heap g n L N) (hps : ps.length < 2 ^ 40) (hpp : ∀ t, 0 ≤ pickF ps t) (kp : Keeps h0 R p (u64V ps)) (s : St h0 h R)
    (hk : ∀ h' q c qs Y, Keeps h0 Y q (slV qs) → Sls h0 Y qs (grpL n k ps L) → St h0 h' (Y ++ R) → K q (grpL n k ps L).length c (grpT n k ps L) (grpE n k) h') : karger_Groups (some ⟨g, 0, none⟩) k p ps.length pc h K := by
  unfold grpL grpT grpE at hk
  by_cases c : 1 ≤ k ∧ k ≤ n
  · simp only [c, and_self, if_true] at hk
    exact Groups_of nh hps hpp kp s (fun no => by omega) fun _ _ h' q c qs Y k1 k2 s' => hk h' q c qs Y k1 k2 s'
  · simp only [c, if_false] at hk
    exact Groups_of nh hps hpp kp s (fun _ => hk h none 0 [] [] Keeps.nil Sls.nil s) fun a b => absurd ⟨a, b⟩ c
theorem RGroups_u {h : Heap} {k : Int} {cL pc : Nat} {qL p : Option Addr} {ps : List Int} {K : Option Addr → Nat → Nat → Int → Int → Heap → Prop} (hn : n ≤ 4096) (G : Gr n L) (hps : ps.length < 2 ^ 40) (hpp : ∀ t, 0 ≤ pickF ps t) (kL : Keeps h0 R qL (eV L)) (kp : Keeps h0 R p (u64V ps)) (s : St h0 h R)
    (hk : ∀ h' q c qs Y, Keeps h0 Y q (slV qs) → Sls h0 Y qs (grpL n k ps L) → St h0 h' (Y ++ R) → K q (grpL n k ps L).length c (grpT n k ps L) (grpE n k) h') : straitref41_Groups (n : Int) qL L.length cL k p ps.length pc h K := by
  unfold grpL grpT grpE at hk
  by_cases c : 1 ≤ k ∧ k ≤ n
  · simp only [c, and_self, if_true] at hk
    exact RGroups_of hn G hps hpp kL kp s (fun no => by omega) fun _ _ h' q c qs Y k1 k2 s' => hk h' q c qs Y k1 k2 s'
  · simp only [c, if_false] at hk
    exact RGroups_of hn G hps hpp kL kp s (fun _ h' Y s' => hk h' none 0 [] Y Keeps.nil Sls.nil s') fun a b => absurd ⟨a, b⟩ c
theorem Run_u {h : Heap} {p : Option Addr} {pc : Nat} {ps : List Int} {K : Int → Option Addr → Nat → Nat → Int → Int → Heap → Prop} (nh : NetG h0.heap g n L N) (hps : ps.length < 2 ^ 40) (hpp : ∀ t, 0 ≤ pickF ps t) (kp : Keeps h0 R p (u64V ps)) (s : St h0 h R)
    (hk : ∀ h' q c Y, Keeps h0 Y q ((runL n ps L).map (Value.int .i64)) → St h0 h' (Y ++ R) → K (runW n ps L) q (runL n ps L).length c (runT n ps L) (runE n) h') : karger_Run (some ⟨g, 0, none⟩) p ps.length pc h K := by
  unfold runL runW runT runE at hk
  by_cases c : 2 ≤ n
  · simp only [c, if_true] at hk
    exact Run2_of nh c hps hpp kp s hk
  · simp only [c, if_false] at hk
    exact Run_small (R := R) (m := (n : Int)) (fun {h' R' Q} s' hQ => qcallP1.of (n : Int) (fun Q hQ => GN_of nh s' hQ) hQ) (by omega) s fun h' Y s' => hk h' none 0 Y Keeps.nil s'
theorem RRun_u {h : Heap} {qL p : Option Addr} {cL pc : Nat} {ps : List Int} {K : Int → Option Addr → Nat → Nat → Int → Int → Heap → Prop} (hn : n ≤ 4096) (G : Gr n L) (hps : ps.length < 2 ^ 40) (hpp : ∀ t, 0 ≤ pickF ps t) (kL : Keeps h0 R qL (eV L)) (kp : Keeps h0 R p (u64V ps)) (s : St h0 h R)
    (hk : ∀ h' q c Y, Keeps h0 Y q ((runL n ps L).map (Value.int .i64)) → St h0 h' (Y ++ R) → K (runW n ps L) q (runL n ps L).length c (runT n ps L) (runE n) h') : straitref41_Run (n : Int) qL L.length cL p ps.length pc h K := by
  unfold runL runW runT runE at hk
  by_cases c : 2 ≤ n
  · simp only [c, if_true] at hk
    exact RRun2_of hn c G hps hpp kL kp s hk
  · simp only [c, if_false] at hk
    exact RRun_small (by omega) s fun h' Y s' => hk h' none 0 Y Keeps.nil s'
end
theorem wf_u64 {n : Int} (h : (Lit.int .u64 n).wf = true) : 0 ≤ n := by
  simp only [Lit.wf, IntKind.min, IntKind.max, IntKind.signed, IntKind.bits, Bool.and_eq_true, decide_eq_true_eq, Bool.false_eq_true, if_false] at h; omega
theorem Tells_law {h : Heap} {a1 k sd M : Int} {q1 qp : Option Addr} {k1 c1 pl pc : Nat} {lE : List Ed} {ps : List Int} {K : Bool → Heap → Prop} (ha : 0 ≤ a1 ∧ a1 ≤ 255) (hl1 : lE.length = k1) (v1 : valsAt h q1 (eV lE)) (hpl : ps.length = pl) (vp : valsAt h qp (u64V ps)) (hpos : ∀ x ∈ ps, 0 ≤ x)
    (hk : ∀ h', Ext h h' → K true h') : straitlaw41_KargerTells a1 q1 k1 c1 k qp pl pc sd M h K := by
  unfold straitlaw41_KargerTells
  subst hpl
  have hpp : ∀ t, 0 ≤ pickF ps t := pick_nonneg hpos
  refine (St.refl h).new_ fun b7 h1 s1 => ?_
  have e1 : Ext h h1 := s1.ext
  have aw : ∀ h', Ext h1 h' → callP1 (straitlaw41_awake h') fun x h'' => K x h'' := fun h' e => callP1.self (awake_of fun h'' e' => hk h'' ((e1.trans e).trans e'))
  have g0 : ∀ h', Ext h1 h' → cell h' ⟨b7, 0, none⟩ = some (.int .i64 k) := fun h' e => e.cell' (by rw [s1.rd0]; rfl)
  have g1 : ∀ h', Ext h1 h' → cell h' ⟨b7, 1, none⟩ = some (.slice qp ps.length pc) := fun h' e => e.cell' (by rw [s1.rd0]; rfl)
  have g2 : ∀ h', Ext h1 h' → cell h' ⟨b7, 2, none⟩ = some (.int .u64 sd) := fun h' e => e.cell' (by rw [s1.rd0]; rfl)
  have g3 : ∀ h', Ext h1 h' → cell h' ⟨b7, 3, none⟩ = some (.int .i64 M) := fun h' e => e.cell' (by rw [s1.rd0]; rfl)
  have vp1 := vp.ext e1
  have v11 := v1.ext e1
  clear s1
  have r0 : Ext h1 h1 := (St.refl h1).ext
  rw [add_mk, add_mk, add_mk]
  simp -zeta only [Nat.zero_add]
  intro j421
  refine iteB_intro (fun _ => aw h1 r0) fun b1 => iteB_intro (fun _ => aw h1 r0) fun b2 => ⟨_, _, _, g1 h1 r0, iteB_intro (fun _ => aw h1 r0) fun b3 => ⟨_, g3 h1 r0, iteB_intro (fun _ => aw h1 r0) fun b4 => ?_⟩⟩
  have b1 := of_decide_eq_false b1
  have b2 := of_decide_eq_false b2
  have b3 := of_decide_eq_false b3
  have b4 := of_decide_eq_false b4
  simp -zeta only [j421]
  clear j421
  obtain ⟨n, rfl⟩ : ∃ n : Nat, a1 = n := ⟨a1.toNat, by omega⟩
  have wn : IntKind.i64.wrap (n : Int) = n := wrap64 (by omega) (by omega)
  rw [wn]
  have hps : ps.length < 2 ^ 40 := by omega
  refine callP3.self (New_of (h0 := (h1 : Base)) (R := []) hl1 (by omega) (Keeps.old v11) (St.refl h1) (fun bad h2 s2 => ?_) (fun ok m g X h2 em nk s2 => ?_))
  · refine iteB_pos (by simpa using bad) ⟨_, _, _, g1 h2 s2.ext, ?_⟩
    refine callP6.self (Run_small (h0 := (h1 : Base)) (R := []) (m := 0) (fun {h' R' Q} s' hQ => qcallP1.of (0 : Int) (fun Q hQ => GN_nil hQ) hQ) (by omega) s2 fun h3 Y3 s3 => ?_)
    refine s3.new_ fun b32 h4 s4 => s4.st0 (by simp) fun h5 s5 => ?_
    rw [add_mk]
    refine s5.st0 (by simp) fun h6 s6 => iteB_pos rfl (aw h6 s6.ext)
  · obtain rfl : m = n := by omega
    refine iteB_neg rfl ?_
    have nh : NetG h2 g m (netL lE) (nearL m (netL lE)) := nk.atG s2 (fun x hx => by simp [hx])
    have e2 : Ext h1 h2 := s2.ext
    clear nk s2
    have G := nh.gr
    have hn := nh.hn
    have hL := G.len
    have kp : ∀ R, Keeps (h2 : Base) R qp (u64V ps) := fun R => Keeps.old (vp1.ext e2)
    refine callP6.self (RNew_of (h0 := (h2 : Base)) (R := []) hl1 (Keeps.old (v11.ext e2)) (St.refl h2) ok fun q3 c3 X3 h3 o3 s3 => ?_)
    refine s3.new_ fun bA h4 s4 => s4.st0 (by simp) fun h5 s5 => ?_
    rw [add_mk]
    refine s5.st0 (by simp) fun h6 s6 => ?_
    simp only [List.set_cons_zero, List.set_cons_succ, Nat.zero_add] at s6
    have kL : ∀ R' : Rws, (∀ x ∈ X3, x ∈ R') → Keeps (h2 : Base) R' q3 (eV (netL lE)) := fun R' hs => o3.keeps hs
    have rA : ∀ {h' : Heap} {T : Rws}, St (h2 : Base) h' T → (bA, [Value.int .i64 (m : Int), .slice q3 (netL lE).length c3]) ∈ T → ∀ j, cell h' ⟨bA, j, none⟩ = [Value.int .i64 (m : Int), .slice q3 (netL lE).length c3][j]? := fun s hm => s.rd hm
    refine ⟨_, g0 _ (e2.trans s6.ext), _, _, _, g1 _ (e2.trans s6.ext), ?_⟩
    refine callP5.self (Groups_u (k := k) nh hps hpp (kp _) s6 fun h7 q7 c7 qs7 Y7 k7 l7 s7 => ⟨_, _, _, g1 _ (e2.trans s7.ext), ?_⟩)
    refine callP6.self (Run_u nh hps hpp (kp _) s7 fun h8 q8 c8 Y8 k8 s8 => ?_)
    refine s8.new_ fun b61 h9 s9 => s9.st0 (by simp) fun h10 s10 => ?_
    rw [add_mk]
    refine s10.st0 (by simp) fun h s => ?_
    simp only [List.set_cons_zero, List.set_cons_succ, Nat.zero_add] at s
    generalize hGL : grpL m k ps (netL lE) = gl at *
    generalize hGT : grpT m k ps (netL lE) = gt at *
    generalize hGE : grpE m k = ge at *
    intro j420
    have J : ∀ (bD bG : Nat) (h' : Heap) (qd qg : Option Addr) (cd cg : Nat) (qsd : List SlT) (Yd Yg Z : Rws), Keeps (h2 : Base) Yd qd (slV qsd) → Sls (h2 : Base) Yd qsd gl → Keeps (h2 : Base) Yg qg ((runL m ps (netL lE)).map (Value.int .i64)) → (∀ x ∈ Yd, x ∈ Z) → (∀ x ∈ Yg, x ∈ Z) → (∀ x ∈ (b61, [Value.int .i64 (runW m ps (netL lE)), .slice q8 (runL m ps (netL lE)).length c8]) :: (Y8 ++ (Y7 ++ (bA, [Value.int .i64 (m : Int), .slice q3 (netL lE).length c3]) :: (X3 ++ []))), x ∈ Z) →
        St (h2 : Base) h' ((bD, [.slice qd gl.length cd, .int .i64 gt, .int .i64 ge]) :: (bG, [.int .i64 (runW m ps (netL lE)), .slice qg (runL m ps (netL lE)).length cg, .int .i64 (runT m ps (netL lE)), .int .i64 (runE m)]) :: Z) → j420 ⟨bD, 0, none⟩ ⟨bG, 0, none⟩ h' := fun bD bG h' qd qg cd cg qsd Yd Yg Z kd ld kg hd hg hz sJ => by
      simp -zeta only [j420]
      clear j420
      intro j419
      have kZ7 : ∀ x ∈ Y7, x ∈ Z := fun x hx => hz x (by simp [hx])
      have kZ8 : ∀ x ∈ Y8, x ∈ Z := fun x hx => hz x (by simp [hx])
      have kZ3 : ∀ x ∈ X3, x ∈ Z := fun x hx => hz x (by simp [hx])
      have mA : (bA, [Value.int .i64 (m : Int), .slice q3 (netL lE).length c3]) ∈ Z := hz _ (by simp)
      have m61 : (b61, [Value.int .i64 (runW m ps (netL lE)), .slice q8 (runL m ps (netL lE)).length c8]) ∈ Z := hz _ (by simp)
      have r61 : ∀ j, cell h' ⟨b61, j, none⟩ = [Value.int .i64 (runW m ps (netL lE)), .slice q8 (runL m ps (netL lE)).length c8][j]? := sJ.rd (by simp [m61])
      have sm := run_small (ps := ps) hn G hpp
      obtain ⟨gs1, gs2⟩ := grp_small (k := k) (ps := ps) (L := netL lE) hn
      rw [hGL] at gs1 gs2
      rw [add_mk, add_mk, add_mk, add_mk, add_mk]
      simp -zeta only [Nat.zero_add]
      refine ⟨_, sJ.rd0 2, iteB_neg (by simp) ⟨_, sJ.rd0 1, iteB_neg (by simp) ⟨_, _, _, sJ.rd0 0, ?_⟩⟩⟩
      refine qcallP1.of true (fun Q hQ => Lists_of sJ k7 kd l7 ld (fun x hx => by simp [kZ7 x hx]) (fun x hx => by simp [hd x hx]) gs1 gs2 hQ) (iteB_neg rfl ?_)
      refine ⟨_, sJ.rd1 3, iteB_neg (by simp) ⟨_, sJ.rd1 2, iteB_neg (by simp) ⟨_, r61 0, _, _, _, r61 1, _, sJ.rd1 0, _, _, _, sJ.rd1 1, ?_⟩⟩⟩
      refine callP1.self (RSame_cut sm (k8 h' _ sJ (fun x hx => by simp [kZ8 x hx])) (kg h' _ sJ (fun x hx => by simp [hg x hx])) fun hB eB => iteB_neg rfl ?_)
      have sB := sJ.ofExt eB
      refine ⟨_, g2 _ (e2.trans sB.ext), _, g3 _ (e2.trans sB.ext), _, g2 _ (e2.trans sB.ext), _, g3 _ (e2.trans sB.ext), ?_⟩
      refine callP3.self (SpreadI_of (by omega) sB fun bs hC sC => ⟨⟨_, g3 _ (e2.trans sC.ext), rfl⟩, ⟨_, g2 _ (e2.trans sC.ext), rfl⟩, ?_⟩)
      refine callP3.self (RSpread_of (by omega) sC fun hD qD cD XD oD sD => ?_)
      refine qcallP1.of true (fun Q hQ => Words_of (l := spreadF sd M.toNat) ((Keeps.row (b := bs) (R := [(bs, u64V (spreadF sd M.toNat))]) (by simp)) hD _ sD (fun x hx => by simp at hx; simp [hx])) (oD.vals sD) (spreadF_len _ _) (by omega) hQ) (iteB_neg rfl ?_)
      have sE : St (h2 : Base) hD ((bG, [.int .i64 (runW m ps (netL lE)), .slice qg (runL m ps (netL lE)).length cg, .int .i64 (runT m ps (netL lE)), .int .i64 (runE m)]) :: Z) := (St.re sD (by intro a; simp only [cntR_append, cntR_cons, cntR_nil, List.cons_append, List.nil_append, List.set_cons_zero, List.set_cons_succ]; omega))
      simp -zeta only [j419]
      clear j419
      refine ⟨_, rA sE (by simp [mA]) 0, _, _, _, rA sE (by simp [mA]) 1, ?_⟩
      refine callP6.self (RRun_u (ps := []) hn G (by decide) pick_nil (kL _ (fun x hx => by simp [kZ3 x hx])) Keeps.nil sE fun hF qF cF YF kF sF => ?_)
      refine sF.new_ fun b364 hG2 sG => sG.st0 (by simp) fun hH sH => ?_
      rw [add_mk, add_mk, add_mk]
      refine sH.st0 (by simp) fun hI sI => sI.st0 (by simp) fun hJ sJ2 => sJ2.st0 (by simp) fun hK sK => ?_
      simp only [List.set_cons_zero, List.set_cons_succ, Nat.zero_add] at sK
      refine ⟨_, _, _, g1 _ (e2.trans sK.ext), sK.new_ fun b371 hM sM => ?_⟩
      have sm0 := run_small (ps := []) hn G pick_nil
      by_cases c2 : m < 2
      · refine callP6.self (Best_small nh c2 sM fun hN YN sN => ?_)
        refine sN.new_ fun b378 hO sO => sO.st0 (by simp) fun hP sP => ?_
        rw [add_mk]
        refine sP.st0 (by simp) fun hQ sQ => ?_
        simp only [List.set_cons_zero, List.set_cons_succ, Nat.zero_add] at sQ ⊢
        refine callP6.self (Best_small nh c2 sQ fun hR YR sR => ?_)
        refine sR.new_ fun b387 hS sS => sS.st0 (by simp) fun hT sT => ?_
        rw [add_mk]
        refine sT.st0 (by simp) fun hU sU => ?_
        simp only [List.set_cons_zero, List.set_cons_succ, Nat.zero_add] at sU
        have r378 : ∀ j, cell hU ⟨b378, j, none⟩ = [Value.int .i64 0, .slice none 0 0][j]? := sU.rd (by simp)
        exact iteB_pos (decide_eq_true (by omega)) (iteB_pos rfl (iteB_pos rfl (iteB_pos rfl ⟨_, r378 0, iteB_pos rfl ⟨_, _, _, r378 1, iteB_pos rfl (aw hU (e2.trans sU.ext))⟩⟩)))
      · have c2 : 2 ≤ m := by omega
        have w1 : runW m ps (netL lE) = drwW m ps (netL lE) := if_pos c2
        have w0 : runW m [] (netL lE) = drwW m [] (netL lE) := if_pos c2
        have L1 : runL m ps (netL lE) = sideD m ps (netL lE) := if_pos c2
        have L0 : runL m [] (netL lE) = sideD m [] (netL lE) := if_pos c2
        refine callP6.self (Best_of (pc := pc) nh c2 hps hpp (kp _) (by simp) sM fun hN qN cN YN kN sN => ?_)
        refine sN.new_ fun b378 hO sO => sO.st0 (by simp) fun hP sP => ?_
        rw [add_mk]
        refine sP.st0 (by simp) fun hQ sQ => ?_
        simp only [List.set_cons_zero, List.set_cons_succ, Nat.zero_add] at sQ ⊢
        refine callP6.self (Best_nil nh c2 sQ fun hR YR sR => ?_)
        refine sR.new_ fun b387 hS sS => sS.st0 (by simp) fun hT sT => ?_
        rw [add_mk]
        refine sT.st0 (by simp) fun hU sU => ?_
        simp only [List.set_cons_zero, List.set_cons_succ, Nat.zero_add] at sU
        have r378 : ∀ j, cell hU ⟨b378, j, none⟩ = [Value.int .i64 (drwW m (bestP m ps (netL lE)) (netL lE)), .slice qN (sideD m (bestP m ps (netL lE)) (netL lE)).length cN][j]? := sU.rd (by simp)
        have r364 : ∀ j, cell hU ⟨b364, j, none⟩ = [Value.int .i64 (runW m [] (netL lE)), .slice qF (runL m [] (netL lE)).length cF, .int .i64 (runT m [] (netL lE)), .int .i64 (runE m)][j]? := sU.rd (by simp)
        have rG : ∀ j, cell hU ⟨bG, j, none⟩ = [.int .i64 (runW m ps (netL lE)), .slice qg (runL m ps (netL lE)).length cg, .int .i64 (runT m ps (netL lE)), .int .i64 (runE m)][j]? := sU.rd (by simp)
        refine iteB_neg (decide_eq_false (by omega)) ⟨_, rG 0, _, r364 0, ?_⟩
        have kg' := kg hU _ sU (fun x hx => by simp [hg x hx])
        have kF' := kF hU _ sU (fun x hx => by simp [hx])
        have kN' := kN hU _ sU (fun x hx => by simp [hx])
        unfold bestP at r378 kN'
        rw [L1] at kg' rG sm
        rw [L0] at kF' r364 sm0
        rw [w1] at rG ⊢
        rw [w0] at r364 ⊢
        by_cases c : drwW m ps (netL lE) < drwW m [] (netL lE)
        · rw [if_pos c] at r378 kN'
          rw [decide_eq_true c, if_pos c]
          refine iteB_pos rfl (iteB_pos rfl (iteB_pos rfl (iteB_pos rfl ⟨_, r378 0, _, _, _, r378 1, _, rG 0, _, _, _, rG 1, ?_⟩)))
          exact callP1.self (RSame_cut sm kN' kg' fun hV eV' => iteB_pos rfl (aw hV (e2.trans (sU.ext.trans eV'))))
        · rw [if_neg c] at r378 kN'
          rw [decide_eq_false c, if_neg c]
          refine iteB_neg rfl (iteB_pos rfl (iteB_pos rfl (iteB_pos rfl ⟨_, r378 0, _, _, _, r378 1, _, r364 0, _, _, _, r364 1, ?_⟩)))
          exact callP1.self (RSame_cut sm0 kN' kF' fun hV eV' => iteB_pos rfl (aw hV (e2.trans (sU.ext.trans eV'))))
    clear_value j420
    refine ⟨_, rA s (by simp) 0, _, _, _, rA s (by simp) 1, _, g0 _ (e2.trans s.ext), _, _, _, g1 _ (e2.trans s.ext), _, rA s (by simp) 0, _, _, _, rA s (by simp) 1, _, _, _, g1 _ (e2.trans s.ext), ?_⟩
    have mA : (bA, [Value.int .i64 (m : Int), .slice q3 (netL lE).length c3]) ∈ (b61, [Value.int .i64 (runW m ps (netL lE)), .slice q8 (runL m ps (netL lE)).length c8]) :: (Y8 ++ (Y7 ++ (bA, [Value.int .i64 (m : Int), .slice q3 (netL lE).length c3]) :: (X3 ++ []))) := by simp
    have mX : ∀ x ∈ X3, x ∈ (b61, [Value.int .i64 (runW m ps (netL lE)), .slice q8 (runL m ps (netL lE)).length c8]) :: (Y8 ++ (Y7 ++ (bA, [Value.int .i64 (m : Int), .slice q3 (netL lE).length c3]) :: (X3 ++ []))) := fun x hx => by simp [hx]
    have s : St (h2 : Base) h ((b61, [Value.int .i64 (runW m ps (netL lE)), .slice q8 (runL m ps (netL lE)).length c8]) :: (Y8 ++ (Y7 ++ (bA, [Value.int .i64 (m : Int), .slice q3 (netL lE).length c3]) :: (X3 ++ [])))) := s
    generalize (b61, [Value.int .i64 (runW m ps (netL lE)), Value.slice q8 (runL m ps (netL lE)).length c8]) :: (Y8 ++ (Y7 ++ (bA, [Value.int .i64 (m : Int), Value.slice q3 (netL lE).length c3]) :: (X3 ++ []))) = T at J s mA mX
    repeat' (first
      | (refine ⟨⟨_, _, _, g1 _ (e2.trans s.ext), rfl⟩, ?_⟩)
      | (refine ⟨⟨_, g0 _ (e2.trans s.ext), rfl⟩, ?_⟩)
      | (refine ⟨⟨_, rA s (by simp [mA]) 0, _, _, _, rA s (by simp [mA]) 1, rfl⟩, ?_⟩)
      | (refine callP5.self (RGroups_u (k := k) hn G hps hpp (kL _ (fun x hx => by simp [mX x hx])) (kp _) s fun h qd cd qsd Yd kd ld s => ?_)
         first | have s := St.flip (A := Yd) (B := [(bG, [Value.int .i64 0, .slice none 0 0, .int .i64 0, .int .i64 0]), (bD, [Value.slice none 0 0, .int .i64 0, .int .i64 0])]) s | have s := St.flip (A := Yd) (B := [(bD, [Value.slice none 0 0, .int .i64 0, .int .i64 0]), (bG, [Value.int .i64 0, .slice none 0 0, .int .i64 0, .int .i64 0])]) s | have s := St.flip (A := Yd) (B := [(bG, [Value.int .i64 0, .slice none 0 0, .int .i64 0, .int .i64 0])]) s | have s := St.flip (A := Yd) (B := [(bD, [Value.slice none 0 0, .int .i64 0, .int .i64 0])]) s | skip
         rw [hGL] at ld
         simp -zeta only [hGL, hGT, hGE])
      | (refine callP6.self (RRun_u hn G hps hpp (kL _ (fun x hx => by simp [mX x hx])) (kp _) s fun h qg cg Yg kg s => ?_)
         first | have s := St.flip (A := Yg) (B := [(bG, [Value.int .i64 0, .slice none 0 0, .int .i64 0, .int .i64 0]), (bD, [Value.slice none 0 0, .int .i64 0, .int .i64 0])]) s | have s := St.flip (A := Yg) (B := [(bD, [Value.slice none 0 0, .int .i64 0, .int .i64 0]), (bG, [Value.int .i64 0, .slice none 0 0, .int .i64 0, .int .i64 0])]) s | have s := St.flip (A := Yg) (B := [(bG, [Value.int .i64 0, .slice none 0 0, .int .i64 0, .int .i64 0])]) s | have s := St.flip (A := Yg) (B := [(bD, [Value.slice none 0 0, .int .i64 0, .int .i64 0])]) s | skip)
      | (refine St.new_ (cs := [Value.slice none 0 0, .int .i64 0, .int .i64 0]) s fun bD h s => ?_)
      | (refine St.new_ (cs := [Value.int .i64 0, .slice none 0 0, .int .i64 0, .int .i64 0]) s fun bG h s => ?_)
      | (refine s.st0 (by simp) fun h s => ?_; try simp -zeta only [add_mk, Nat.zero_add])
      | (refine s.st1 (by simp) fun h s => ?_; try simp -zeta only [add_mk, Nat.zero_add])
      | (with_reducible apply And.intro))
    all_goals
      simp only [List.set_cons_zero, List.set_cons_succ, Nat.zero_add, List.cons_append, List.nil_append] at s
      first
        | exact J bD bG _ qd qg cd cg qsd Yd Yg _ kd ld kg (fun x hx => by simp [hx]) (fun x hx => by simp [hx]) (fun x hx => by simp [hx]) s
        | exact J bD bG _ qd qg cd cg qsd Yd Yg _ kd ld kg (fun x hx => by simp [hx]) (fun x hx => by simp [hx]) (fun x hx => by simp [hx]) s.pull1
end Go.Proofs.YtbhndlpjfncliaaGreat
