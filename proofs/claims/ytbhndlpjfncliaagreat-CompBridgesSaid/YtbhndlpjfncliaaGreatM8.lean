/-
  Classes of a graph: awake, and the law.
-/
import Derived.Test.YtbhndlpjfncliaaGreatM7
import Derived.Test.YtbhndlpjfncliaaGreatRd
namespace Go.Proofs.YtbhndlpjfncliaaGreat
set_option linter.unusedVariables false
set_option linter.unusedSimpArgs false
set_option linter.unnecessarySimpa false
open Go Go.Hp Go.RowKit
attribute [local irreducible] Go.Hp.iteB Go.Hp.stC Go.Hp.newP

def lA : List Ed := [(0, 1, 5), (1, 2, 1)]
theorem newE_A : newE 4 lA = (0, 0) := by decide +kernel
theorem netL_A : netL lA = lA := by decide +kernel
theorem sortN_sorted {l : List Nat} (h : l.Pairwise fun x y => decide (x ≤ y) = true) : sortN l = l := List.mergeSort_of_pairwise h
theorem nearL_A : nearL 4 lA = [[1], [0, 2], [1], []] := by
  have e : lA.foldl lnkE (List.replicate 4 []) = [[1], [0, 2], [1], []] := by decide +kernel
  unfold nearL
  rw [e]
  simp only [List.map_cons, List.map_nil]
  rw [sortN_sorted (l := [1]) (by decide), sortN_sorted (l := [0, 2]) (by decide), sortN_sorted (l := []) (by decide)]
theorem out_A : (outB (nearL 4 lA) 20 (List.range 4) ⟨fun _ => 0, fun _ => 0, 0, [], []⟩).map (·.found) = some [(1, 2), (0, 1)] := by
  rw [nearL_A]; decide +kernel
theorem out_A2 : ∃ st', outB (nearL 4 lA) 20 (List.range 4) ⟨fun _ => 0, fun _ => 0, 0, [], []⟩ = some st' ∧ st'.found = [(1, 2), (0, 1)] := by
  have := out_A
  rw [Option.map_eq_some_iff] at this
  exact this
theorem near_all {n : Nat} {L : List Ed} (G : Gr n L) : ∀ v, v < n → ∃ l, (nearL n L)[v]? = some l ∧ l.length < 2 ^ 40 ∧ ∀ u ∈ l, u < n := fun v hv => by
  obtain ⟨l, h1, h2, h3⟩ := near_row G hv
  refine ⟨l, h1, h2, fun u hu => ?_⟩
  obtain ⟨e, he, h⟩ := (h3 u).1 hu
  have r := G.range e he
  rcases h with ⟨h4, h5⟩ | ⟨h4, h5⟩ <;> omega
theorem cls_A0 : (clsL (joinsL 4 0 (fun v => v) lA) 4).length = 2 := by decide +kernel
theorem cls_A2 : (clsL (joinsL 4 2 (fun v => v) lA) 4).length = 3 := by decide +kernel
theorem reach_A : reachF 4 lA 2 = [0, 1, 2] := by decide +kernel
theorem awake_of {h : Heap} {K : Bool → Heap → Prop} (hk : ∀ h', Ext h h' → K true h') : straitlaw20_awake h K := by
  unfold straitlaw20_awake
  refine St.new_ (cs := eV lA) (St.refl h) fun b1 h1 s1 => ?_
  refine callP3.self (New_of (nI := 4) (l := lA) rfl (by omega) (Keeps.row (b := b1) (by simp)) s1 (fun no => absurd (by rw [newE_A]) no) fun _ n g X h2 en nk s2 => ?_)
  have en : n = 4 := by omega
  subst en
  rw [netL_A] at nk
  have nh : NetG h2 g 4 lA (nearL 4 lA) := nk.atG s2 (fun x hx => by simp [hx])
  have e2 : Ext h h2 := s2.ext
  clear nk s2
  refine iteB_pos rfl (callP1.self (Count_of (h0 := (h2 : Base)) nh (St.refl h2) fun h3 Y3 s3 => ?_))
  rw [cls_A0]
  refine iteB_pos rfl (callP3.self (Heavy_of (h0 := (h2 : Base)) nh s3 fun h4 q4 c4 qs4 Y4 _ _ s4 => ?_))
  rw [cls_A2]
  refine iteB_pos rfl (callP3.self (Reach_of (h0 := (h2 : Base)) nh s4 fun h5 q5 c5 Y5 k5 s5 => ?_))
  rw [reach_A] at k5 ⊢
  refine St.new_ (cs := nums [0, 1, 2]) s5 fun b6 h6 s6 => ?_
  refine qcallP1.of true (fun Q hQ => IntsN_of (l := [0, 1, 2]) (k5.atC s6) ((Keeps.row (b := b6) (by simp)).at0 s6) rfl rfl (by decide) hQ) (iteB_pos rfl ?_)
  obtain ⟨st', ho, hf⟩ := out_A2
  refine callP3.self (Bridges_of (h0 := (h2 : Base)) (m := 20) nh (near_all nh.gr) (by omega) ho s6 fun h7 q7 c7 X7 Y7 o7 s7 => ?_)
  rw [hf, show (brgT [(1, 2), (0, 1)] lA lA.length).length = 2 by decide +kernel]
  exact hk h7 (e2.trans s7.ext)
theorem wf_u8 {n : Int} (h : (Lit.int .u8 n).wf = true) : 0 ≤ n ∧ n ≤ 255 := by
  simp only [Lit.wf, IntKind.min, IntKind.max, IntKind.signed, IntKind.bits, Bool.and_eq_true, decide_eq_true_eq, Bool.false_eq_true, if_false] at h; omega
theorem eV_rows {h : Heap} {q : Option Addr} {l : List Ed} (hr : rowsAt h q 3 (l.map Ed.vs)) : valsAt h q (eV l) := fun t v hv => by
  have ht := lt_get hv
  rw [eV_len] at ht
  obtain ⟨e, he⟩ := get_lt (l := l) (i := t / 3) (by omega)
  have e1 := eV_get (o := t % 3) he (by omega)
  rw [show t / 3 * 3 + t % 3 = t by omega, hv] at e1
  obtain ⟨a, ha, hc⟩ := hr (t / 3) (Ed.vs e) (by simp [he])
  have := hc (t % 3) v e1.symm
  rw [show t / 3 * 3 + t % 3 = t by omega] at this
  exact ⟨a, ha, this⟩
theorem Tells_of {h : Heap} {a1 x0 x1 : Int} {q1 : Option Addr} {k1 c1 : Nat} {lE : List Ed} {K : Bool → Heap → Prop} (ha : 0 ≤ a1 ∧ a1 ≤ 255) (hl1 : lE.length = k1) (v1 : valsAt h q1 (eV lE))
    (hk : ∀ h', Ext h h' → K true h') : straitlaw20_CompTells a1 q1 k1 c1 x0 x1 h K := by
  unfold straitlaw20_CompTells
  refine (St.refl h).new_ fun b h1 s1 => ?_
  have e1 : Ext h h1 := s1.ext
  have aw : ∀ h', Ext h1 h' → callP1 (straitlaw20_awake h') fun x h'' => K x h'' := fun h' e => callP1.self (awake_of fun h'' e' => hk h'' ((e1.trans e).trans e'))
  have r0 : ∀ h', Ext h1 h' → cell h' ⟨b, 0, none⟩ = some (.int .i64 x0) := fun h' e => e.cell' (by rw [s1.rd0]; rfl)
  have r1 : ∀ h', Ext h1 h' → cell h' ⟨b, 1, none⟩ = some (.int .i64 x1) := fun h' e => e.cell' (by rw [s1.rd0]; rfl)
  refine iteB_intro (fun _ => aw h1 (St.refl h1).ext) fun b1 => ?_
  have b1 := of_decide_eq_false b1
  obtain ⟨n, rfl⟩ : ∃ n : Nat, a1 = n := ⟨a1.toNat, by omega⟩
  have wn : IntKind.i64.wrap (n : Int) = n := wrap64 (by omega) (by omega)
  rw [wn]
  refine callP3.self (New_of (h0 := (h1 : Base)) (R := []) hl1 (by omega) (Keeps.old (v1.ext e1)) (St.refl h1) (fun bad h2 s2 => ?_) (fun ok m g X h2 em nk s2 => ?_))
  · refine iteB_pos (by simpa using bad) ?_
    refine callP3.self (Of_nil s2 fun h3 q3 c3 Y3 s3 => iteB_pos rfl (callP3.self (Heavy_nil s3 fun h4 q4 c4 Y4 s4 => iteB_pos rfl (callP3.self (Reach_nil (iteB_pos rfl (callP1.self (Count_nil s4 fun h5 Y5 s5 => iteB_pos rfl (callP3.self (Bridges_nil s5 fun h6 Y6 s6 => iteB_pos rfl (callP3.self (Name_nil s6 fun h7 q7 c7 Y7 s7 => iteB_pos rfl (aw h7 s7.ext)))))))))))))
  · obtain rfl : m = n := by omega
    refine iteB_neg rfl ?_
    have nh : NetG h2 g m (netL lE) (nearL m (netL lE)) := nk.atG s2 (fun x hx => by simp [hx])
    have e2 : Ext h1 h2 := s2.ext
    clear nk s2
    have G := nh.gr
    have hn := nh.hn
    have hL := G.len
    have na : ∀ least, Names m (joinsL m least (fun v => v) (netL lE)) := fun least => joinsL_names (Names.id m)
    refine callP6.self (RNew_of (h0 := (h2 : Base)) (R := []) hl1 (Keeps.old (v1.ext (e1.trans e2))) (St.refl h2) ok fun q3 c3 X3 h3 o3 s3 => ?_)
    refine s3.new_ fun bA h4 s4 => s4.st0 (by simp) fun h5 s5 => ?_
    rw [add_mk]
    refine s5.st0 (by simp) fun h6 s6 => ?_
    simp only [List.set_cons_zero, List.set_cons_succ, Nat.zero_add] at s6
    have kL : ∀ R' : Rws, (∀ x ∈ X3, x ∈ R') → Keeps (h2 : Base) R' q3 (eV (netL lE)) := fun R' hs => o3.keeps hs
    have rA : ∀ {h' : Heap} {T : Rws}, St (h2 : Base) h' T → (bA, [Value.int .i64 (m : Int), .slice q3 (netL lE).length c3]) ∈ T → ∀ j, cell h' ⟨bA, j, none⟩ = [Value.int .i64 (m : Int), .slice q3 (netL lE).length c3][j]? := fun s hm => s.rd hm
    refine ⟨_, rA s6 (by simp) 0, _, _, _, rA s6 (by simp) 1, callP3.self (Of_of nh s6 fun h7 q7 c7 qs7 Y7 k7 l7 s7 => ⟨⟨_, rA s7 (by simp) 0, _, _, _, rA s7 (by simp) 1, rfl⟩, callP3.self (ROf20_of hn hL (kL _ (fun x hx => by simp [hx])) s7 fun h8 q8 c8 qs8 Y8 k8 l8 s8 => ?_)⟩)⟩
    obtain ⟨sm1, sm2⟩ := clsL_small (C := joinsL m 0 (fun v => v) (netL lE)) (n := m) hn
    refine qcallP1.of true (fun Q hQ => Lists_of s8 k7 k8 l7 l8 (fun x hx => List.mem_append.2 (.inr hx)) (fun x hx => by simp [hx]) sm1 sm2 hQ) (iteB_pos rfl ?_)
    refine ⟨by omega, _, r0 h8 (e2.trans s8.ext), by omega, _, rA s8 (by simp) 0, _, _, _, rA s8 (by simp) 1, _, r0 h8 (e2.trans s8.ext), ?_⟩
    refine callP3.self (Heavy_of nh s8 fun h9 q9 c9 qs9 Y9 k9 l9 s9 => ⟨⟨_, r0 h9 (e2.trans s9.ext), rfl⟩, ⟨_, rA s9 (by simp) 0, _, _, _, rA s9 (by simp) 1, rfl⟩, callP3.self (RHeavy_of hn hL (kL _ (fun x hx => by simp [hx])) s9 fun hB qB cB qsB YB kB lB sB => ?_)⟩)
    obtain ⟨sm1, sm2⟩ := clsL_small (C := joinsL m x0 (fun v => v) (netL lE)) (n := m) hn
    refine qcallP1.of true (fun Q hQ => Lists_of sB k9 kB l9 lB (fun x hx => List.mem_append.2 (.inr hx)) (fun x hx => by simp [hx]) sm1 sm2 hQ) (iteB_pos rfl ?_)
    refine ⟨_, rA sB (by simp) 0, _, _, _, rA sB (by simp) 1, callP1.self (Count_of nh sB fun hC YC sC => ⟨⟨_, rA sC (by simp) 0, _, _, _, rA sC (by simp) 1, rfl⟩, callP3.self (ROf20_of hn hL (kL _ (fun x hx => by simp [hx])) sC fun hD qD cD qsD YD kD lD sD => iteB_pos (by simp) ?_)⟩)⟩
    refine ⟨by omega, _, r1 hD (e2.trans sD.ext), by omega, _, rA sD (by simp) 0, _, _, _, rA sD (by simp) 1, _, r1 hD (e2.trans sD.ext), ?_⟩
    refine callP3.self (Reach_of nh sD fun hE qE cE YE kE sE => ⟨⟨_, r1 hE (e2.trans sE.ext), rfl⟩, ⟨_, rA sE (by simp) 0, _, _, _, rA sE (by simp) 1, rfl⟩, callP3.self (RReach_of hn hL (kL _ (fun x hx => by simp [hx])) sE fun hF qF cF YF kF sF => ?_)⟩)
    have hrl : (reachF m (netL lE) x1).length < 2 ^ 40 := by
      unfold reachF
      split
      · have := clsF_le (joinsL m 0 (fun v => v) (netL lE)) m (joinsL m 0 (fun v => v) (netL lE) x1.toNat); omega
      · simp
    refine qcallP1.of true (fun Q hQ => IntsN_of (l := reachF m (netL lE) x1) (kE hF _ sF (fun x hx => List.mem_append.2 (.inr hx))) (kF.at0 sF) rfl rfl hrl hQ) (iteB_pos rfl ?_)
    refine ⟨_, rA sF (by simp) 0, _, _, _, rA sF (by simp) 1, callP3.self (Name_of nh sF fun hG qG cG YG kG sG => ⟨⟨_, rA sG (by simp) 0, _, _, _, rA sG (by simp) 1, rfl⟩, callP3.self (RName_of hn hL (kL _ (fun x hx => by simp [hx])) sG fun hH qH cH YH kH sH => ?_)⟩)⟩
    rw [intN_nums] at kG kH
    refine qcallP1.of true (fun Q hQ => IntsN_of (l := (List.range m).map (joinsL m 0 (fun v => v) (netL lE))) (kG hH _ sH (fun x hx => List.mem_append.2 (.inr hx))) (kH.at0 sH) (by simp) (by simp) (by simp; omega) hQ) (iteB_pos rfl (aw hH (e2.trans sH.ext)))
end Go.Proofs.YtbhndlpjfncliaaGreat
