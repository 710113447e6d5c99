/-
  A cut by chance: the document's cut and its numbers; the best of some.
-/
import Derived.Test.YtbhndlpjfncliaaGreatU6
import Derived.Test.YtbhndlpjfncliaaGreatU5
namespace Go.Proofs.YtbhndlpjfncliaaGreat
set_option linter.unusedVariables false
set_option linter.unusedSimpArgs false
set_option linter.unnecessarySimpa false
open Go Go.Hp Go.RowKit
attribute [local irreducible] Go.Hp.iteB Go.Hp.stC Go.Hp.newP

/-- The side that is drawn, and what it weighs. -/
def sideD (n : Nat) (ps : List Int) (L : List Ed) : List Int := (((clsL (drawnF n 2 ps L).C n)[1]?).getD []).map fun v : Nat => (v : Int)
def drwW (n : Nat) (ps : List Int) (L : List Ed) : Int := sumX (crs (memS (sideD n ps L)) 0 L)
section
variable {n : Nat} {L : List Ed} {ps : List Int}
theorem side_facts (hn : n ≤ 4096) (hn2 : 2 ≤ n) (G : Gr n L) (hpp : ∀ t, 0 ≤ pickF ps t) :
    (drawnF n 2 ps L).t + 2 ≤ n ∧ (clsL (drawnF n 2 ps L).C n).length = 2 ∧ ∃ l : List Nat, (clsL (drawnF n 2 ps L).C n)[1]? = some l ∧ sideD n ps L = l.map (fun v : Nat => (v : Int)) ∧ chkS n (sideD n ps L) = 0 ∧ l.length ≤ n := by
  obtain ⟨dok, dl, dt⟩ := groupsD_ok (k := 2) hn (by omega) hpp n ⟨fun v => v, L, 0⟩ (gr_drw G) (by show ((headF (fun v => v) n).length : Int) ≤ _; rw [headF_id]; omega) (by show (2 : Int) ≤ ((headF (fun v => v) n).length : Int); rw [headF_id]; omega)
  have dt : ((drawnF n 2 ps L).t : Int) ≤ ((0 : Nat) : Int) + (((headF (fun v => v) n).length : Int) - 2) := dt
  rw [headF_id] at dt
  have dl2 : (headF (drawnF n 2 ps L).C n).length = 2 := by have : ((headF (drawnF n 2 ps L).C n).length : Int) = 2 := dl; omega
  obtain ⟨c, c0, cn, cc, e1, em, ch, m0⟩ := second hn dok.na dl2
  have es : sideD n ps L = (clsF (drawnF n 2 ps L).C n c).map (fun v : Nat => (v : Int)) := by unfold sideD; rw [e1]; rfl
  exact ⟨by omega, by rw [clsL_len]; exact dl2, _, e1, es, by rw [es, em]; exact ch, clsF_le _ _ _⟩
theorem sideD_len (hn : n ≤ 4096) (hn2 : 2 ≤ n) (G : Gr n L) (hpp : ∀ t, 0 ≤ pickF ps t) : (sideD n ps L).length ≤ n := by
  obtain ⟨_, _, l, _, es, _, hl⟩ := side_facts hn hn2 G hpp
  rw [es, List.length_map]; exact hl
end
theorem pick_nil (t : Nat) : 0 ≤ pickF [] t := by
  unfold pickF; split
  · omega
  · simp
section
variable {h0 : Base} {R : Rws} {n g : Nat} {L : List Ed} {N : List (List Nat)}
theorem Run2_of {h : Heap} {p : Option Addr} {pc : Nat} {ps : List Int} {K : Int → Option Addr → Nat → Nat → Int → Int → Heap → Prop} (nh : NetG h0.heap g n L N) (hn2 : 2 ≤ n) (hps : ps.length < 2 ^ 40) (hpp : ∀ t, 0 ≤ pickF ps t) (kp : Keeps h0 R p (u64V ps)) (s : St h0 h R)
    (hk : ∀ h' q c Y, Keeps h0 Y q ((sideD n ps L).map (Value.int .i64)) → St h0 h' (Y ++ R) → K (drwW n ps L) q (sideD n ps L).length c ((drawnF n 2 ps L).t : Int) 0 h') : karger_Run (some ⟨g, 0, none⟩) p ps.length pc h K := by
  refine Run_of nh hn2 hps hpp kp s fun c c0 cn cc e1 ch m0 ht h' q c' X Y o s' => ?_
  have es : sideD n ps L = bl (fun v => (drawnF n 2 ps L).C v == c) n := by unfold sideD; rw [e1]; rfl
  have ew : (wgt n (bl (fun v => (drawnF n 2 ps L).C v == c) n) L).1 = drwW n ps L := by
    unfold wgt drwW; rw [if_pos ch, crs_side nh.gr, es]
  have := hk h' q c' (X ++ Y) (by rw [es]; exact o.keeps fun x hx => by simp [hx]) (by simpa [List.append_assoc] using s')
  rw [ew, ← es]; exact this
theorem RRun_small {h : Heap} {qL p : Option Addr} {lL cL l pc : Nat} {K : Int → Option Addr → Nat → Nat → Int → Int → Heap → Prop} (hn2 : n < 2) (s : St h0 h R)
    (hk : ∀ h' Y, St h0 h' (Y ++ R) → K 0 none 0 0 0 9 h') : straitref41_Run (n : Int) qL lL cL p l pc h K := by
  unfold straitref41_Run
  refine s.new_ fun b4 h1 s1 => s1.new_ fun b6 h2 s2 => ?_
  refine ⟨_, (s2.rd (b := b4) (cs := [.int .i64 (n : Int), .slice qL lL cL]) (by simp)) 0, iteB_pos (decide_eq_true (by omega)) (s2.st0 (by simp) fun h3 s3 => ?_)⟩
  rw [add_mk, add_mk, add_mk]
  refine s3.st0 (by simp) fun h4 s4 => s4.st0 (by simp) fun h5 s5 => s5.st0 (by simp) fun h6 s6 => ?_
  simp only [List.set_cons_zero, List.set_cons_succ, Nat.zero_add] at s6 ⊢
  exact ⟨_, s6.rd0 0, _, _, _, s6.rd0 1, _, s6.rd0 2, _, s6.rd0 3, hk h6 [(b6, [.int .i64 0, .slice none 0 0, .int .i64 0, .int .i64 9]), (b4, [.int .i64 (n : Int), .slice qL lL cL])] s6⟩
theorem RRun2_of {h : Heap} {qL p : Option Addr} {cL pc : Nat} {ps : List Int} {K : Int → Option Addr → Nat → Nat → Int → Int → Heap → Prop} (hn : n ≤ 4096) (hn2 : 2 ≤ n) (G : Gr n L) (hps : ps.length < 2 ^ 40) (hpp : ∀ t, 0 ≤ pickF ps t) (kL : Keeps h0 R qL (eV L)) (kp : Keeps h0 R p (u64V ps)) (s : St h0 h R)
    (hk : ∀ h' q c Y, Keeps h0 Y q ((sideD n ps L).map (Value.int .i64)) → St h0 h' (Y ++ R) → K (drwW n ps L) q (sideD n ps L).length c ((drawnF n 2 ps L).t : Int) 0 h') : straitref41_Run (n : Int) qL L.length cL p ps.length pc h K := by
  unfold straitref41_Run
  obtain ⟨ht, hl2, l, hl1, es, ch, hll⟩ := side_facts hn hn2 G hpp
  have hL := G.len
  refine s.new_ fun b4 h1 s1 => s1.new_ fun b6 h2 s2 => ?_
  have r4 : ∀ {h' : Heap} {T : Rws}, St h0 h' T → (b4, [Value.int .i64 (n : Int), .slice qL L.length cL]) ∈ T → ∀ j, cell h' ⟨b4, j, none⟩ = [Value.int .i64 (n : Int), .slice qL L.length cL][j]? := fun s hm => s.rd hm
  refine ⟨_, r4 s2 (by simp) 0, iteB_neg (decide_eq_false (by omega)) ⟨_, r4 s2 (by simp) 0, _, _, _, r4 s2 (by simp) 1, ?_⟩⟩
  refine callP5.self (RGroups_of hn G hps hpp (kL.sub fun x hx => by simp [hx]) (kp.sub fun x hx => by simp [hx]) s2 (fun no => by omega) fun _ _ h3 q c qs Y k3 l3 s3 => ?_)
  refine s3.new_ fun b23 h4 s4 => s4.st0 (by simp) fun h5 s5 => ?_
  rw [add_mk, add_mk]
  refine s5.st0 (by simp) fun h6 s6 => s6.st0 (by simp) fun h7 s7 => ?_
  simp only [List.set_cons_zero, List.set_cons_succ, Nat.zero_add] at s7 ⊢
  obtain ⟨x, hx⟩ : ∃ x, qs[1]? = some x := ⟨_, List.getElem?_eq_getElem (by rw [l3.1, hl2]; omega)⟩
  obtain ⟨p1, pl1, cp1⟩ := x
  obtain ⟨e1, kx⟩ := l3.2 1 _ _ hx hl1
  simp only at e1 kx
  subst e1
  obtain ⟨al, rfl, hc⟩ := k3 h7 _ s7 (fun x hx => by simp [hx]) 1 _ (slV_get hx)
  rw [nums_map, ← es] at kx
  have el : l.length = (sideD n ps L).length := by rw [es, List.length_map]
  simp only at hc
  rw [el] at hc
  refine ⟨_, r4 s7 (by simp) 0, _, _, _, r4 s7 (by simp) 1, _, _, _, s7.rd0 0, ?_⟩
  rw [chkP_some]
  refine ⟨⟨by omega, by omega⟩, _, _, _, hc, _, _, _, s7.rd0 0, ?_⟩
  rw [chkP_some]
  refine ⟨⟨by omega, by omega⟩, _, _, _, hc, _, s7.rd0 1, ?_⟩
  refine callP1.self (RWeight_of rfl (by omega) hL (kx.sub fun x hx => by simp [hx]) (kL.sub fun x hx => by simp [hx]) s7 fun h8 s8 => ?_)
  obtain ⟨al', ha', hc8⟩ := k3 h8 _ s8 (fun x hx => by simp [hx]) 1 _ (slV_get hx)
  cases ha'
  simp only at hc8
  rw [el] at hc8
  refine ⟨⟨_, s8.rd0 1, rfl⟩, ⟨_, _, _, hc8, rfl⟩, ⟨_, _, _, s8.rd0 0, rfl⟩, ?_⟩
  have s9 : St h0 h8 ((b6, [.int .i64 0, .slice none 0 0, .int .i64 0, .int .i64 0]) :: ((b23, [.slice (some al) (clsL (drawnF n 2 ps L).C n).length c, .int .i64 ((drawnF n 2 ps L).t : Int), .int .i64 0]) :: (Y ++ ((b4, [.int .i64 (n : Int), .slice qL L.length cL]) :: R)))) := (St.re s8 (by intro a; simp only [cntR_append, cntR_cons, cntR_nil, List.cons_append, List.nil_append, List.set_cons_zero, List.set_cons_succ]; omega))
  refine s9.st0 (by simp) fun hA sA => ?_
  rw [add_mk, add_mk, add_mk]
  refine sA.st0 (by simp) fun hB sB => sB.st0 (by simp) fun hC sC => sC.st0 (by simp) fun hD sD => ?_
  simp only [List.set_cons_zero, List.set_cons_succ, Nat.zero_add] at sD ⊢
  refine ⟨_, sD.rd0 0, _, _, _, sD.rd0 1, _, sD.rd0 2, _, sD.rd0 3, ?_⟩
  have sE : St h0 hD ((b6, [.int .i64 (drwW n ps L), .slice p1 (sideD n ps L).length cp1, .int .i64 ((drawnF n 2 ps L).t : Int), .int .i64 0]) :: ((b23, [.slice (some al) (clsL (drawnF n 2 ps L).C n).length c, .int .i64 ((drawnF n 2 ps L).t : Int), .int .i64 0]) :: (Y ++ ((b4, [.int .i64 (n : Int), .slice qL L.length cL]) :: R)))) := sD
  exact hk hD p1 cp1 ((b6, [.int .i64 (drwW n ps L), .slice p1 (sideD n ps L).length cp1, .int .i64 ((drawnF n 2 ps L).t : Int), .int .i64 0]) :: ((b23, [.slice (some al) (clsL (drawnF n 2 ps L).C n).length c, .int .i64 ((drawnF n 2 ps L).t : Int), .int .i64 0]) :: (Y ++ [(b4, [.int .i64 (n : Int), .slice qL L.length cL])]))) (kx.sub fun x hx => by simp [hx]) ((St.re sE (by intro a; simp only [cntR_append, cntR_cons, cntR_nil, List.cons_append, List.nil_append, List.set_cons_zero, List.set_cons_succ]; omega)))
/-! ### Numbers that look like chance -/
theorem or_flip (a b : Int) : bits .or .u64 a b = bits .or .u64 b a := by
  unfold bits; simp only [BitVec.or_comm]
theorem rspread_l0 {K2 : Option Addr → Nat → Nat → Heap → Prop} {M : Int} {m : Nat} {s0 : Int} (hM : M ≤ 1048576) (hm : M.toNat = m)
    (hk : ∀ h' q c X, Hp.Own q c (u64V (spreadF s0 m)) X → St h0 h' (X ++ R) → K2 q m c h') :
    ∀ (d i : Nat) (h : Heap) (q : Option Addr) (c : Nat) (X : Rws) (x : Int) (A : List Int), i + d = m → A.length = i → A ++ spreadF x d = spreadF s0 m → Hp.Own q c (u64V A) X → St h0 h (X ++ R) → straitref41_Spread.l0 K2 (d + 1) M q i c x (i : Int) h
  | 0, i, h, q, c, X, x, A, hi, hA, he, o, s => by
    unfold straitref41_Spread.l0 straitref41_Spread.b0
    have : i = m := by omega
    subst this
    rw [spreadF, List.append_nil] at he
    rw [he] at o
    refine bindV_intro fun n1 e1 => iteB_neg (decide_eq_false ?_) (hk h q c X o s)
    rw [e1]; split <;> omega
  | d + 1, i, h, q, c, X, x, A, hi, hA, he, o, s => by
    unfold straitref41_Spread.l0 straitref41_Spread.b0
    refine bindV_intro fun n1 e1 => iteB_pos (decide_eq_true (by rw [e1]; split <;> omega)) (bindV_intro fun n2 e2 => bindV_intro fun n3 e3 => ?_)
    have e3 : n3 = seedN x := by rw [e3, e2]; rfl
    subst e3
    refine ⟨by omega, by omega, bindV_intro fun n4 e4 => ?_⟩
    have e4 : n4 = rotN (seedN x) := by rw [e4, or_flip]; rfl
    subst e4
    have hul : (u64V A).length = i := by simp [hA]
    refine Hp.Own.push1 o s hul.symm rfl (by rw [hul]; omega) fun q2 c2 X2 h2 o2 s2 => ?_
    rw [hul, wrap64 (by omega) (by omega)]
    exact rspread_l0 hM hm hk d (i + 1) h2 q2 c2 X2 (seedN x) (A ++ [rotN (seedN x)]) (by omega) (by simp [hA]) (by rw [List.append_assoc]; exact he) (by simpa using o2) s2
theorem RSpread_of {h : Heap} {x M : Int} {K : Option Addr → Nat → Nat → Heap → Prop} (hM : M ≤ 1048576) (s : St h0 h R)
    (hk : ∀ h' q c X, Hp.Own q c (u64V (spreadF x M.toNat)) X → St h0 h' (X ++ R) → K q M.toNat c h') : straitref41_Spread x M h K := by
  unfold straitref41_Spread
  exact ⟨M.toNat + 1, rspread_l0 hM rfl (fun h' q c X o s' => hk h' q c X o s') M.toNat 0 h none 0 [] x [] (by omega) rfl rfl (by simpa using Hp.Own.nil) s⟩
theorem SpreadI_of {h : Heap} {x M : Int} {K : Option Addr → Nat → Nat → Heap → Prop} (hM : M ≤ 1048576) (s : St h0 h R)
    (hk : ∀ b h', St h0 h' ((b, u64V (spreadF x M.toNat)) :: R) → K (some ⟨b, 0, none⟩) M.toNat M.toNat h') : karger_Spread x M h K := by
  unfold karger_Spread
  refine bindV_intro fun n3 e3 => ?_
  have e3 : n3 = (M.toNat : Int) := by rw [e3]; (repeat' split) <;> omega
  subst e3
  refine ⟨by omega, s.new_ fun b h1 s1 => ?_⟩
  rw [Int.toNat_natCast] at s1 ⊢
  rw [zeroU] at s1
  exact ⟨M.toNat + 1, spread_l0 (by omega) (fun h' s' => hk b h' s') M.toNat 0 h1 x [] (by omega) rfl rfl (by simpa using s1)⟩
theorem words_l0 {h : Heap} {K0 : Bool → Heap → Prop} {K2 : Heap → Prop} {p1 p2 : Option Addr} {c1 c2 m : Nat} {l : List Int} (v1 : valsAt h p1 (u64V l)) (v2 : valsAt h p2 (u64V l)) (hl : l.length = m) (hm : m < 2 ^ 40) (hk : K2 h) :
    ∀ (d i : Nat), i + d = m → straitlaw41_words.l0 K0 K2 (d + 1) p1 m c1 p2 m c2 (i : Int) h
  | 0, i, hi => by
    unfold straitlaw41_words.l0 straitlaw41_words.b0
    exact iteB_neg (decide_eq_false (by omega)) hk
  | d + 1, i, hi => by
    unfold straitlaw41_words.l0 straitlaw41_words.b0
    obtain ⟨x, hx⟩ := get_lt (l := l) (i := i) (by omega)
    have gx : (u64V l)[i]? = some (.int .u64 x) := by rw [List.getElem?_map, hx]; rfl
    obtain ⟨a1, rfl, h1⟩ := v1 i _ gx
    obtain ⟨a2, rfl, h2⟩ := v2 i _ gx
    refine iteB_pos (decide_eq_true (by omega)) ?_
    rw [chkP_some, Int.toNat_natCast, Nat.mul_one]
    refine ⟨by omega, x, h1, ?_⟩
    rw [chkP_some]
    refine ⟨by omega, x, h2, iteB_neg (by simp) ?_⟩
    rw [wrap64 (by omega) (by omega)]
    exact words_l0 v1 v2 hl hm hk d (i + 1) (by omega)
theorem Words_of {h : Heap} {K : Bool → Heap → Prop} {p1 p2 : Option Addr} {c1 c2 m : Nat} {l : List Int} (v1 : valsAt h p1 (u64V l)) (v2 : valsAt h p2 (u64V l)) (hl : l.length = m) (hm : m < 2 ^ 40) (hk : K true h) : straitlaw41_words p1 m c1 p2 m c2 h K := by
  unfold straitlaw41_words
  exact iteB_neg (by simp) ⟨m + 1, words_l0 v1 v2 hl hm hk m 0 (by omega)⟩
theorem RSame_cut {h : Heap} {w : Int} {q q2 : Option Addr} {c c2 : Nat} {l : List Int} {K : Bool → Heap → Prop} (hb : l.length < 2 ^ 40) (v1 : valsAt h q (l.map (Value.int .i64))) (v2 : valsAt h q2 (l.map (Value.int .i64)))
    (hk : ∀ h', Ext h h' → K true h') : straitref21_Same w q l.length c w q2 l.length c2 h K := by
  unfold straitref21_Same
  refine (St.refl h).new_ fun b1 h1 s1 => s1.new_ fun b2 h2 s2 => ?_
  have H := hk h2 s2.ext
  refine ⟨w, s2.rd1 0, w, s2.rd0 0, iteB_pos (by simp) ⟨q, l.length, c, s2.rd1 1, q2, l.length, c2, s2.rd0 1, qcallP1.of true (fun Q hQ => Ints_of (v1.ext s2.ext) (v2.ext s2.ext) rfl rfl (by omega) (by rw [decide_eq_true rfl]; exact hQ)) H⟩⟩
/-! ### The best of two -/
def bestP (n : Nat) (ps : List Int) (L : List Ed) : List Int := if drwW n ps L < drwW n [] L then ps else []
theorem Best_small {h : Heap} {q : Option Addr} {l c : Nat} {K : Int → Option Addr → Nat → Nat → Int → Int → Heap → Prop} (nh : NetG h0.heap g n L N) (hn2 : n < 2) (s : St h0 h R)
    (hk : ∀ h' Y, St h0 h' (Y ++ R) → K 0 none 0 0 0 9 h') : karger_Best (some ⟨g, 0, none⟩) q l c h K := by
  unfold karger_Best
  refine s.new_ fun b3 h1 s1 => qcallP1.of (n : Int) (fun Q hQ => GN_of nh s1 hQ) (iteB_pos (decide_eq_true (by omega)) (s1.st0 (by simp) fun h2 s2 => ?_))
  rw [add_mk]
  refine s2.st0 (by simp) fun h3 s3 => ?_
  simp only [List.set_cons_zero, List.set_cons_succ, Nat.zero_add] at s3
  exact ⟨_, s3.rd0 0, _, _, _, s3.rd0 1, hk h3 [_] s3⟩
theorem Best_nil {h : Heap} {q : Option Addr} {c : Nat} {K : Int → Option Addr → Nat → Nat → Int → Int → Heap → Prop} (nh : NetG h0.heap g n L N) (hn2 : 2 ≤ n) (s : St h0 h R)
    (hk : ∀ h' Y, St h0 h' (Y ++ R) → K 0 none 0 0 0 7 h') : karger_Best (some ⟨g, 0, none⟩) q 0 c h K := by
  unfold karger_Best
  refine s.new_ fun b3 h1 s1 => qcallP1.of (n : Int) (fun Q hQ => GN_of nh s1 hQ) (iteB_neg (decide_eq_false (by omega)) (iteB_pos rfl (s1.st0 (by simp) fun h2 s2 => ?_)))
  rw [add_mk]
  refine s2.st0 (by simp) fun h3 s3 => ?_
  simp only [List.set_cons_zero, List.set_cons_succ, Nat.zero_add] at s3
  exact ⟨_, s3.rd0 0, _, _, _, s3.rd0 1, hk h3 [_] s3⟩
theorem Best_of {h : Heap} {p : Option Addr} {pc b : Nat} {ps : List Int} {K : Int → Option Addr → Nat → Nat → Int → Int → Heap → Prop} (nh : NetG h0.heap g n L N) (hn2 : 2 ≤ n) (hps : ps.length < 2 ^ 40) (hpp : ∀ t, 0 ≤ pickF ps t) (kp : Keeps h0 R p (u64V ps)) (hb : (b, [Value.slice none 0 0, .slice p ps.length pc]) ∈ R) (s : St h0 h R)
    (hk : ∀ h' q c Y, Keeps h0 Y q ((sideD n (bestP n ps L) L).map (Value.int .i64)) → St h0 h' (Y ++ R) → K (drwW n (bestP n ps L) L) q (sideD n (bestP n ps L) L).length c (if drwW n ps L < drwW n [] L then 1 else 0) 0 h') : karger_Best (some ⟨g, 0, none⟩) (some ⟨b, 0, none⟩) 2 2 h K := by
  unfold karger_Best
  refine s.new_ fun b3 h1 s1 => qcallP1.of (n : Int) (fun Q hQ => GN_of nh s1 hQ) (iteB_neg (decide_eq_false (by omega)) (iteB_neg rfl (s1.new_ fun b14 h2 s2 => ⟨3, ?_⟩)))
  have rb : ∀ {h' : Heap} {T : Rws}, St h0 h' T → (∀ x ∈ R, x ∈ T) → ∀ j, cell h' ⟨b, j, none⟩ = [Value.slice none 0 0, .slice p ps.length pc][j]? := fun s hs => s.rd (hs _ hb)
  have fin : ∀ {h' : Heap} {Y : Rws} {W at_ : Int} {q : Option Addr} {l c : Nat}, St h0 h' ((b14, [.int .i64 W, .slice q l c]) :: ((b3, [.int .i64 0, .slice none 0 0]) :: (Y ++ R))) → (∀ h'' Y', (∀ x ∈ Y, x ∈ Y') → St h0 h'' (Y' ++ R) → K W q l c at_ 0 h'') →
      karger_Best.l0 (fun z16 h17 => ∃ (x19 : Int), cell h17 ⟨b14, 0, none⟩ = some (.int .i64 x19) ∧ ∃ (x20 : Option Addr) (x20l : Nat) (x20c : Nat), cell h17 ((⟨b14, 0, none⟩ : Addr).add 1) = some (.slice x20 x20l x20c) ∧ stC h17 ⟨b3, 0, none⟩ (.int .i64 x19) fun h21 => stC h21 ((⟨b3, 0, none⟩ : Addr).add 1) (.slice x20 x20l x20c) fun h22 => (∃ (x23 : Int), cell h22 ⟨b3, 0, none⟩ = some (.int .i64 x23) ∧ ∃ (x24 : Option Addr) (x24l : Nat) (x24c : Nat), cell h22 ((⟨b3, 0, none⟩ : Addr).add 1) = some (.slice x24 x24l x24c) ∧ K x23 x24 x24l x24c z16 0 h22)) 1 (some ⟨g, 0, none⟩) ⟨b3, 0, none⟩ ⟨b14, 0, none⟩ at_ (some ⟨b, 0, none⟩) 2 2 ((2 : Nat) : Int) 2 h' := fun {h'} {Y W at_ q l c} s' hk' => by
    unfold karger_Best.l0 karger_Best.b0
    refine iteB_neg (by decide) ⟨_, s'.rd0 0, _, _, _, s'.rd0 1, ?_⟩
    have s3 : St h0 h' ((b3, [.int .i64 0, .slice none 0 0]) :: ((b14, [.int .i64 W, .slice q l c]) :: (Y ++ R))) := (St.re s' (by intro a; simp only [cntR_append, cntR_cons, cntR_nil, List.cons_append, List.nil_append, List.set_cons_zero, List.set_cons_succ]; omega))
    refine s3.st0 (by simp) fun h4 s4 => ?_
    rw [add_mk]
    refine s4.st0 (by simp) fun h5 s5 => ?_
    simp only [List.set_cons_zero, List.set_cons_succ, Nat.zero_add] at s5
    exact ⟨_, s5.rd0 0, _, _, _, s5.rd0 1, hk' h5 ((b3, [.int .i64 W, .slice q l c]) :: ((b14, [.int .i64 W, .slice q l c]) :: Y)) (fun x hx => by simp [hx]) s5⟩
  unfold karger_Best.l0 karger_Best.b0
  refine iteB_pos (by decide) ?_
  rw [chkP_some]
  refine ⟨⟨by decide, by decide⟩, none, 0, 0, rb s2 (fun x hx => by simp [hx]) 0, ?_⟩
  refine callP6.self (Run2_of (ps := []) nh hn2 (by decide) pick_nil Keeps.nil s2 fun h4 q4 c4 Y4 k4 s4 => ?_)
  refine s4.new_ fun b5 h5 s5 => s5.st0 (by simp) fun h6 s6 => ?_
  rw [add_mk]
  refine s6.st0 (by simp) fun h7 s7 => ?_
  simp only [List.set_cons_zero, List.set_cons_succ, Nat.zero_add] at s7
  refine iteB_pos (by decide) (iteB_pos rfl ⟨_, s7.rd0 0, _, _, _, s7.rd0 1, ?_⟩)
  have s8 : St h0 h7 ((b14, [.int .i64 0, .slice none 0 0]) :: ((b3, [.int .i64 0, .slice none 0 0]) :: (((b5, [.int .i64 (drwW n [] L), .slice q4 (sideD n [] L).length c4]) :: Y4) ++ R))) := (St.re s7 (by intro a; simp only [cntR_append, cntR_cons, cntR_nil, List.cons_append, List.nil_append, List.set_cons_zero, List.set_cons_succ]; omega))
  refine s8.st0 (by simp) fun h9 s9 => ?_
  rw [add_mk]
  refine s9.st0 (by simp) fun hA sA => ?_
  simp only [List.set_cons_zero, List.set_cons_succ, Nat.zero_add] at sA
  have ew : IntKind.i64.wrap ((0 : Int) + 1) = 1 := by decide
  rw [ew]
  unfold karger_Best.l0 karger_Best.b0
  refine iteB_pos (by decide) ?_
  rw [chkP_some]
  refine ⟨⟨by decide, by decide⟩, p, ps.length, pc, rb sA (fun x hx => by simp [hx]) 1, ?_⟩
  refine callP6.self (Run2_of nh hn2 hps hpp (kp.sub fun x hx => by simp [hx]) sA fun hB qB cB YB kB sB => ?_)
  refine sB.new_ fun bC hC sC => sC.st0 (by simp) fun hD sD => ?_
  rw [add_mk]
  refine sD.st0 (by simp) fun hE sE => ?_
  simp only [List.set_cons_zero, List.set_cons_succ, Nat.zero_add] at sE
  have ew2 : IntKind.i64.wrap ((1 : Int) + 1) = 2 := by decide
  rw [ew2]
  have r14 : ∀ j, cell hE ⟨b14, j, none⟩ = [Value.int .i64 (drwW n [] L), .slice q4 (sideD n [] L).length c4][j]? := sE.rd (by simp)
  refine iteB_neg (by decide) ⟨_, sE.rd0 0, _, r14 0, ?_⟩
  unfold bestP at hk
  by_cases c : drwW n ps L < drwW n [] L
  · rw [if_pos c, if_pos c] at hk
    rw [decide_eq_true c]
    refine iteB_pos rfl ⟨_, sE.rd0 0, _, _, _, sE.rd0 1, ?_⟩
    have sF : St h0 hE ((b14, [.int .i64 (drwW n [] L), .slice q4 (sideD n [] L).length c4]) :: ((b3, [.int .i64 0, .slice none 0 0]) :: (((bC, [.int .i64 (drwW n ps L), .slice qB (sideD n ps L).length cB]) :: (YB ++ ((b5, [.int .i64 (drwW n [] L), .slice q4 (sideD n [] L).length c4]) :: Y4))) ++ R))) := (St.re sE (by intro a; simp only [cntR_append, cntR_cons, cntR_nil, List.cons_append, List.nil_append, List.set_cons_zero, List.set_cons_succ]; omega))
    refine sF.st0 (by simp) fun hG sG => ?_
    rw [add_mk]
    refine sG.st0 (by simp) fun hH sH => ?_
    simp only [List.set_cons_zero, List.set_cons_succ, Nat.zero_add] at sH
    exact fin sH fun h'' Y' hs s' => hk h'' qB cB Y' (kB.sub fun x hx => hs x (by simp [hx])) s'
  · rw [if_neg c, if_neg c] at hk
    rw [decide_eq_false c]
    refine iteB_neg rfl ?_
    have sF : St h0 hE ((b14, [.int .i64 (drwW n [] L), .slice q4 (sideD n [] L).length c4]) :: ((b3, [.int .i64 0, .slice none 0 0]) :: (((bC, [.int .i64 (drwW n ps L), .slice qB (sideD n ps L).length cB]) :: (YB ++ ((b5, [.int .i64 (drwW n [] L), .slice q4 (sideD n [] L).length c4]) :: Y4))) ++ R))) := (St.re sE (by intro a; simp only [cntR_append, cntR_cons, cntR_nil, List.cons_append, List.nil_append, List.set_cons_zero, List.set_cons_succ]; omega))
    exact fin sF fun h'' Y' hs s' => hk h'' q4 c4 Y' (k4.sub fun x hx => hs x (by simp [hx])) s'
end
end Go.Proofs.YtbhndlpjfncliaaGreat
