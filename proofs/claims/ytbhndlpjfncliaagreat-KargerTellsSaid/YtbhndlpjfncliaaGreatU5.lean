/-
  A cut by chance: awake, and the law of the least one.
-/
import Derived.Test.YtbhndlpjfncliaaGreatU4
import Derived.Test.YtbhndlpjfncliaaGreatYA
import Derived.Test.YtbhndlpjfncliaaGreatRd
namespace Go.Proofs.YtbhndlpjfncliaaGreat
set_option linter.unusedVariables false
set_option linter.unusedSimpArgs false
set_option linter.unnecessarySimpa false
open Go Go.Hp Go.RowKit
attribute [local irreducible] Go.Hp.iteB Go.Hp.stC Go.Hp.newP

def lK : List Ed := [(0, 1, 1), (1, 2, 1), (0, 2, 1)]
def lK2 : List Ed := [(0, 1, 1), (0, 2, 1), (1, 2, 1)]
theorem newE_K : newE 3 lK = (0, 0) := by decide +kernel
theorem netL_K : netL lK = lK2 := by decide +kernel
theorem drawn_K : (clsL (drawnF 3 2 [1] lK2).C 3)[1]? = some [1] ∧ (drawnF 3 2 [1] lK2).t = 1 := by decide +kernel
theorem wgt_K : (wgt 3 [1] lK2).1 = 2 := by decide +kernel
theorem awake_of {h : Heap} {K : Bool → Heap → Prop} (hk : ∀ h', Ext h h' → K true h') : straitlaw41_awake h K := by
  unfold straitlaw41_awake
  refine St.new_ (cs := eV lK) (St.refl h) fun b1 h1 s1 => ?_
  refine callP3.self (New_of (nI := 3) (l := lK) rfl (by omega) (Keeps.row (b := b1) (by simp)) s1 (fun no => absurd (by rw [newE_K]) no) fun _ n g X h2 en nk s2 => ?_)
  have en : n = 3 := by omega
  subst en
  rw [netL_K] at nk
  have nh : NetG h2 g 3 lK2 (nearL 3 lK2) := nk.atG s2 (fun x hx => by simp [hx])
  have e2 : Ext h h2 := s2.ext
  clear nk s2
  refine St.new_ (cs := u64V [1]) (St.refl h2) fun b3 h3 s3 => ?_
  obtain ⟨d1, d2⟩ := drawn_K
  refine callP6.self (Run_of (h0 := (h2 : Base)) (ps := [1]) nh (by omega) (by decide) (pick_nonneg (by decide)) (Keeps.row (b := b3) (by simp)) s3 fun c c0 cn cc e1 ch m0 ht h4 q4 c4 X4 Y4 o4 s4 => ?_)
  rw [d1] at e1
  have eb : bl (fun v => (drawnF 3 2 [1] lK2).C v == c) 3 = [1] := by
    have : (clsF (drawnF 3 2 [1] lK2).C 3 c).map (fun v : Nat => (v : Int)) = bl (fun v => (drawnF 3 2 [1] lK2).C v == c) 3 := rfl
    rw [← this, ← Option.some.inj e1]; rfl
  rw [eb, d2, wgt_K]
  rw [eb] at o4
  refine s4.new_ fun b5 h5 s5 => s5.st0 (by simp) fun h6 s6 => ?_
  rw [add_mk]
  refine s6.st0 (by simp) fun h7 s7 => ?_
  simp only [List.set_cons_zero, List.set_cons_succ, Nat.zero_add] at s7
  have v4 : valsAt h7 q4 (([1] : List Int).map (Value.int .i64)) := o4.keeps (h0 := (h2 : Base)) (R := X4) (fun x hx => hx) h7 _ s7 (fun x hx => by simp [hx])
  refine iteB_pos rfl (iteB_pos rfl (iteB_pos rfl ⟨_, s7.rd0 0, iteB_pos rfl ⟨_, _, _, s7.rd0 1, iteB_pos rfl ⟨_, _, _, s7.rd0 1, ?_⟩⟩⟩))
  obtain ⟨a, ha, hc⟩ := v4 0 _ rfl
  subst ha
  rw [chkP_some]
  exact ⟨by decide, _, hc, hk h7 (e2.trans s7.ext)⟩
theorem wf_u8 {n : Int} (h : (Lit.int .u8 n).wf = true) : 0 ≤ n ∧ n ≤ 255 := by
  simp only [Lit.wf, IntKind.min, IntKind.max, IntKind.signed, IntKind.bits, Bool.and_eq_true, decide_eq_true_eq, Bool.false_eq_true, if_false] at h; omega
theorem eV_rows {h : Heap} {q : Option Addr} {l : List Ed} (hr : rowsAt h q 3 (l.map Ed.vs)) : valsAt h q (eV l) := fun t v hv => by
  have ht := lt_get hv
  rw [eV_len] at ht
  obtain ⟨e, he⟩ := get_lt (l := l) (i := t / 3) (by omega)
  have e1 := eV_get (o := t % 3) he (by omega)
  rw [show t / 3 * 3 + t % 3 = t by omega, hv] at e1
  obtain ⟨a, ha, hc⟩ := hr (t / 3) (Ed.vs e) (by simp [he])
  have := hc (t % 3) v e1.symm
  rw [show t / 3 * 3 + t % 3 = t by omega] at this
  exact ⟨a, ha, this⟩
theorem Least_law {h : Heap} {a1 x : Int} {q1 : Option Addr} {k1 c1 : Nat} {lE : List Ed} {K : Bool → Heap → Prop} (ha : 0 ≤ a1 ∧ a1 ≤ 255) (hl1 : lE.length = k1) (v1 : valsAt h q1 (eV lE))
    (hk : ∀ h', Ext h h' → K true h') : straitlaw41_KargerLeast a1 q1 k1 c1 x h K := by
  unfold straitlaw41_KargerLeast
  have aw : ∀ h', Ext h h' → callP1 (straitlaw41_awake h') fun x h'' => K x h'' := fun h' e => callP1.self (awake_of fun h'' e' => hk h'' (e.trans e'))
  have r0 : Ext h h := (St.refl h).ext
  intro j57
  refine iteB_intro (fun _ => aw h r0) fun b1 => iteB_intro (fun _ => aw h r0) fun b2 => ?_
  have b1 := of_decide_eq_false b1
  have b2 := of_decide_eq_false b2
  simp -zeta only [j57]
  clear j57
  obtain ⟨n, rfl⟩ : ∃ n : Nat, a1 = n := ⟨a1.toNat, by omega⟩
  have wn : IntKind.i64.wrap (n : Int) = n := wrap64 (by omega) (by omega)
  rw [wn]
  refine callP3.self (New_of (h0 := (h : Base)) (R := []) hl1 (by omega) (Keeps.old v1) (St.refl h) (fun bad h2 s2 => ?_) (fun ok m g X h2 em nk s2 => ?_))
  · intro j56
    clear_value j56
    exact iteB_pos (by simpa using bad) (aw h2 s2.ext)
  · obtain rfl : m = n := by omega
    intro j56
    have nh : NetG h2 g m (netL lE) (nearL m (netL lE)) := nk.atG s2 (fun x hx => by simp [hx])
    have e2 : Ext h h2 := s2.ext
    clear nk s2
    have G := nh.gr
    have hL := G.len
    refine iteB_neg rfl (iteB_intro (fun _ => aw h2 e2) fun b3 => ?_)
    have b3 := of_decide_eq_false b3
    simp -zeta only [j56]
    clear j56
    refine callP3.self (Spread_of (h0 := (h2 : Base)) (R := []) (by omega) (St.refl h2) fun bs h3 s3 => ?_)
    have hlen := spreadF_len m x
    have run := @Run_of (h2 : Base) [(bs, u64V (spreadF x m))] m g (netL lE) (nearL m (netL lE)) h3 (some ⟨bs, 0, none⟩) m (spreadF x m)
    rw [hlen] at run
    refine callP6.self (run nh (by omega) (by omega) (pick_nonneg (spreadF_nonneg m x)) (Keeps.row (b := bs) (by simp)) s3 fun c c0 cn cc ec ch m0 ht h4 q4 c4 X4 Y4 o4 s4 => ?_)
    clear run
    generalize hP : (fun v => (drawnF m 2 (spreadF x m) (netL lE)).C v == c) = P at *
    have hPc : P c = true := by rw [← hP]; simp [cc]
    have hP0 : P 0 = false := by
      have := mem_bl (P := P) (n := m) (k := 0) (by omega)
      rw [← this]; exact m0
    have hbl := bl_len P m
    refine s4.new_ fun b5 h5 s5 => s5.st0 (by simp) fun h6 s6 => ?_
    rw [add_mk]
    refine s6.st0 (by simp) fun h7 s7 => ?_
    simp only [List.set_cons_zero, List.set_cons_succ, Nat.zero_add] at s7
    have vS : ∀ {h' : Heap} {T : Rws}, St (h2 : Base) h' T → (∀ x ∈ X4, x ∈ T) → valsAt h' q4 ((bl P m).map (Value.int .i64)) := fun s hs => o4.keeps (h0 := (h2 : Base)) (R := X4) (fun x hx => hx) _ _ s hs
    refine iteB_pos rfl ⟨_, s7.rd0 0, _, _, _, s7.rd0 1, callP1.self (SRight_of (nh.ext s7.ext).toH rfl (by omega) (vS s7 (fun x hx => by simp [hx])) fun h8 e8 => ?_)⟩
    have s8 := s7.ofExt e8
    have wg : wgt m (bl P m) (netL lE) = (sumX (crs (memS (bl P m)) 0 (netL lE)), 0) := by unfold wgt; rw [if_pos ch, crs_side G]
    refine iteB_pos (by rw [wg]; simp) ⟨_, _, _, s8.rd0 1, qcallP1.of _ (fun Q hQ => InI_of rfl (by omega) (vS s8 (fun x hx => by simp [hx])) hQ) ?_⟩
    have m0' : decide ((0 : Int) ∈ bl P m) = false := m0
    rw [m0']
    refine iteB_pos rfl ⟨_, s8.rd0 0, ?_⟩
    refine callP6.self (RNew_of (h0 := (h2 : Base)) hl1 (Keeps.old (v1.ext e2)) s8 ok fun q9 c9 X9 h9 o9 s9 => ?_)
    have r9 : ∀ {h' : Heap} {T : Rws}, St (h2 : Base) h' T → (b5, [Value.int .i64 (wgt m (bl P m) (netL lE)).1, .slice q4 (bl P m).length c4]) ∈ T → ∀ j, cell h' ⟨b5, j, none⟩ = [Value.int .i64 (wgt m (bl P m) (netL lE)).1, .slice q4 (bl P m).length c4][j]? := fun s hm => s.rd hm
    refine ⟨⟨_, r9 s9 (by simp) 0, rfl⟩, callP5.self (Least_of (h0 := (h2 : Base)) (by omega) (by omega) G (o9.keeps fun x hx => by simp [hx]) s9 fun hA W qW lW cW YA hmin sA => ⟨⟨_, r9 sA (by simp) 0, rfl⟩, ?_⟩)⟩
    obtain ⟨mk, k1', k2', ek⟩ := side_mask (n := m) hP0 hPc cn
    have hW := hmin mk k1' k2'
    rw [ek] at hW
    refine iteB_pos (decide_eq_true (by rw [wg]; exact hW)) (bindV_intro fun n51 e51 => iteB_pos (decide_eq_true ?_) (aw hA (e2.trans sA.ext)))
    rw [e51, wrap64 (by omega) (by omega)]
    omega
end Go.Proofs.YtbhndlpjfncliaaGreat
