/-
  Jumps in a tree: the law of what is above, where two meet, how far it is, and the least edge between them.
-/
import Derived.Test.YtfidcekobjmamaaDoorP2
namespace Go.Proofs.YtfidcekobjmamaaDoor
set_option linter.unusedVariables false
set_option linter.unusedSimpArgs false
set_option linter.unnecessarySimpa false
open Go.Hp Go.RowKit
attribute [local irreducible] Go.Hp.iteB Go.Hp.stC Go.Hp.newP

open Classical in
theorem LTells_of {h : Heap} {up w : List Int} {n m cU cW : Nat} {qU qW : Option Addr} {x0 x1 x2 : Int} {K : Bool → Heap → Prop} (ht : Tab h) (hup : up.length = n) (hw : w.length = m) (vU : valsAt h qU (up.map (Value.int .i64))) (vW : valsAt h qW (w.map (Value.int .i64)))
    (hk : ∀ h', Ext h h' → K true h') : straitlaw32_LiftTells qU n cU qW m cW x0 x1 x2 h K := by
  unfold straitlaw32_LiftTells
  refine (St.refl h).new_ fun a6 h1 s1 => s1.new_ fun a8 h2 s2 => ?_
  have e2 : Ext h h2 := s2.ext
  have aw : ∀ h', Ext h2 h' → callP1 (straitlaw32_awake h') fun x h'' => K x h'' := fun h' e => callP1.self (awake_of (ht.ext (e2.trans e)) fun h'' e' => hk h'' ((e2.trans e).trans e'))
  have q8 : ∀ h', Ext h2 h' → (cell h' ⟨a8, 0, none⟩ = some (.int .i64 x0) ∧ cell h' ⟨a8, 1, none⟩ = some (.int .i64 x1) ∧ cell h' ⟨a8, 2, none⟩ = some (.int .i64 x2)) := fun h' e =>
    ⟨e.cell' (by rw [s2.rd0]; rfl), e.cell' (by rw [s2.rd0]; rfl), e.cell' (by rw [s2.rd0]; rfl)⟩
  have q0 : ∀ h', Ext h2 h' → cell h' ⟨a6, 0, none⟩ = some (.slice qU n cU) := fun h' e => e.cell' (by rw [s2.rd1]; rfl)
  have q1 : ∀ h', Ext h2 h' → cell h' ⟨a6, 1, none⟩ = some (.slice qW m cW) := fun h' e => e.cell' (by rw [s2.rd1]; rfl)
  have r2 : Ext h2 h2 := (St.refl h2).ext
  have kU : ∀ R, Keeps (h2 : Base) R qU (up.map (Value.int .i64)) := fun R => Keeps.old (vU.ext e2)
  have kW : ∀ R, Keeps (h2 : Base) R qW (w.map (Value.int .i64)) := fun R => Keeps.old (vW.ext e2)
  intro j
  refine ⟨_, _, _, q0 h2 r2, iteB_intro (fun _ => aw h2 r2) fun c1 => ⟨_, _, _, q1 h2 r2, iteB_intro (fun _ => aw h2 r2) fun c2 => ?_⟩⟩
  have c1 := of_decide_eq_false c1
  simp -zeta only [j]
  clear j
  refine ⟨_, _, _, q0 h2 r2, _, _, _, q1 h2 r2, callP2.self (New_of (h0 := (h2 : Base)) (R := []) hup hw (kU _) (kW _) (St.refl h2) (fun no h3 s3 => ?_) (fun right rs q c t qw cw bd Z D h3 lt hD l1 l2 l3 s3 => ?_))⟩
  · refine ⟨_, _, _, q0 h3 s3.ext, _, _, _, q1 h3 s3.ext, callP1.self (Right_of (h0 := (h2 : Base)) (R := []) hup hw (kU _) (kW _) s3 fun h4 s4 => ?_)⟩
    rw [decide_eq_false no]
    exact iteB_pos rfl (iteB_pos rfl (iteB_pos rfl (aw h4 s4.ext)))
  · have T : TK (h2 : Base) Z ⟨t, qw, cw, bd, q, c, rs⟩ n up w D := TK.of (ht.ext e2) right hup lt hD l1 l2 l3.1
    have hn := T.hn
    refine ⟨_, _, _, q0 h3 s3.ext, _, _, _, q1 h3 s3.ext, callP1.self (Right_of (h0 := (h2 : Base)) hup hw (kU _) (kW _) s3 fun h4 s4 => ?_)⟩
    rw [decide_eq_true right]
    refine iteB_neg rfl ?_
    intro j84
    refine iteB_neg rfl (iteB_neg rfl ?_)
    simp -zeta only [j84]
    clear j84
    obtain ⟨d0, d1, d2⟩ := q8 h4 s4.ext
    refine ⟨by decide, _, d0, by decide, _, d1, by decide, _, d2, ?_⟩
    refine qcallP1.of _ (fun Q hQ => LLooks_of (z := ⟨t, qw, cw, bd, q, c, rs⟩) s4 hQ) ?_
    refine callP2.self (LLeast_is T hup l3.2 s4 fun o L5 h5 ho g1 g2 g3 s5 => ?_)
    refine qcallP1.of _ (fun Q hQ => LLooks_of (z := ⟨t, qw, cw, bd, q, c, rs⟩) s5 hQ) (iteB_pos rfl ?_)
    refine ⟨_, _, _, q0 h5 s5.ext, _, _, _, q1 h5 s5.ext, callP2.self (RLeast_is hup hw hn right (kU _) (kW _) s5 ho fun h6 s6 => ?_)⟩
    refine iteB_pos (by simp [eqAll2]) ?_
    refine ⟨_, _, _, q0 h6 s6.ext, qcallP1.of _ (fun Q hQ => RMost_of ⟨by omega, by omega⟩ hQ) (iteB_pos (decide_eq_true g3) (qcallP1.of _ (fun Q hQ => LN_of (z := ⟨t, qw, cw, bd, q, c, rs⟩) s6 hQ) ?_))⟩
    refine ⟨_, _, _, q0 h6 s6.ext, iteB_pos (by simp) (qcallP1.of _ (fun Q hQ => Depth_of lt s6 hQ) ?_)⟩
    refine ⟨_, _, _, q0 h6 s6.ext, _, _, _, q1 h6 s6.ext, callP1.self (RDepth_of hup hn hD (kU _) s6 fun h7 s7 => iteB_pos (by simp) ?_)⟩
    refine ⟨_, _, _, q0 h7 s7.ext, _, _, _, q1 h7 s7.ext, callP1.self (Up_of T.ht lt T.hn T.hrs hD s7 fun h8 s8 => ⟨⟨_, _, _, q0 h8 s8.ext, _, _, _, q1 h8 s8.ext, rfl⟩, callP1.self (RUp_of hup hn hD (kU _) s8 fun h9 s9 => iteB_pos (by simp) ?_)⟩)⟩
    refine ⟨_, _, _, q0 h9 s9.ext, _, _, _, q1 h9 s9.ext, callP1.self (LMeet_is T ⟨g1, g2⟩ s9 fun r hA mi sA => ⟨⟨_, _, _, q0 hA sA.ext, _, _, _, q1 hA sA.ext, rfl⟩, callP1.self (RMeet_of hup hn (kU _) sA mi fun hB sB => iteB_pos (by simp) ?_)⟩)⟩
    refine ⟨_, _, _, q0 hB sB.ext, _, _, _, q1 hB sB.ext, callP1.self (LFar_is T ⟨g1, g2⟩ sB fun r' hC fi sC => ⟨⟨_, _, _, q0 hC sC.ext, _, _, _, q1 hC sC.ext, rfl⟩, callP1.self (RFar_of hup hw hn right (kU _) (kW _) sC fi fun hD' sD => iteB_pos (by simp) ?_)⟩)⟩
    exact qcallP1.of _ (fun Q hQ => LLooks_of (z := ⟨t, qw, cw, bd, q, c, rs⟩) sD hQ) (iteB_pos (by simp) (aw hD' sD.ext))
end Go.Proofs.YtfidcekobjmamaaDoor
