/-
  Jumps in a tree: what is above: the law.
-/
import Derived.Test.YtfidcekobjmamaaDoorP2
namespace Go.Proofs.YtfidcekobjmamaaDoor
set_option linter.unusedVariables false
set_option linter.unusedSimpArgs false
set_option linter.unnecessarySimpa false
open Go.Hp Go.RowKit
attribute [local irreducible] Go.Hp.iteB Go.Hp.stC Go.Hp.newP

theorem Above_of {h : Heap} {up w : List Int} {n m cU cW : Nat} {qU qW : Option Addr} {x0 x1 x2 x3 : Int} {K : Bool → Heap → Prop} (ht : Tab h) (hup : up.length = n) (hw : w.length = m) (vU : valsAt h qU (up.map (Value.int .i64))) (vW : valsAt h qW (w.map (Value.int .i64)))
    (hk : ∀ h', Ext h h' → K true h') : straitlaw32_LiftAbove qU n cU qW m cW x0 x1 x2 x3 h K := by
  unfold straitlaw32_LiftAbove
  refine (St.refl h).new_ fun a7 h1 s1 => s1.new_ fun a9 h2 s2 => ?_
  have e2 : Ext h h2 := s2.ext
  have aw : ∀ h', Ext h2 h' → callP1 (straitlaw32_awake h') fun x h'' => K x h'' := fun h' e => callP1.self (awake_of (ht.ext (e2.trans e)) fun h'' e' => hk h'' ((e2.trans e).trans e'))
  have q9 : ∀ h', Ext h2 h' → (cell h' ⟨a9, 0, none⟩ = some (.int .i64 x0) ∧ cell h' ⟨a9, 1, none⟩ = some (.int .i64 x1) ∧ cell h' ⟨a9, 2, none⟩ = some (.int .i64 x2) ∧ cell h' ⟨a9, 3, none⟩ = some (.int .i64 x3)) := fun h' e =>
    ⟨e.cell' (by rw [s2.rd0]; rfl), e.cell' (by rw [s2.rd0]; rfl), e.cell' (by rw [s2.rd0]; rfl), e.cell' (by rw [s2.rd0]; rfl)⟩
  have b0 : cell h2 ⟨a7, 0, none⟩ = some (.slice qU n cU) := by rw [s2.rd1]; rfl
  have b1 : cell h2 ⟨a7, 1, none⟩ = some (.slice qW m cW) := by rw [s2.rd1]; rfl
  have r2 : Ext h2 h2 := (St.refl h2).ext
  intro j
  refine ⟨_, _, _, b0, iteB_intro (fun _ => aw h2 r2) fun _ => ⟨_, _, _, b1, iteB_intro (fun _ => aw h2 r2) fun _ => ?_⟩⟩
  simp -zeta only [j]
  clear j
  refine ⟨_, _, _, b0, _, _, _, b1, callP2.self (New_of (h0 := (h2 : Base)) (R := []) hup hw (Keeps.old (vU.ext e2)) (Keeps.old (vW.ext e2)) (St.refl h2) (fun no h3 s3 => ?_) (fun right rs q c t qw cw bd Z D h3 lt hD l1 l2 l3 s3 => ?_))⟩
  · obtain ⟨c0, c1, c2, c3⟩ := q9 h3 s3.ext
    refine ⟨by decide, _, c0, by decide, _, c1, by decide, _, c2, by decide, _, c3, ?_⟩
    intro j34
    refine iteB_pos rfl ?_
    exact iteB_pos rfl (aw h3 s3.ext)
  · have T : TK (h2 : Base) Z ⟨t, qw, cw, bd, q, c, rs⟩ n up w D := TK.of (ht.ext e2) right hup lt hD l1 l2 l3.1
    obtain ⟨c0, c1, c2, c3⟩ := q9 h3 s3.ext
    refine ⟨by decide, _, c0, by decide, _, c1, by decide, _, c2, by decide, _, c3, ?_⟩
    intro j34
    have yes : j34 true := iteB_pos rfl (aw h3 s3.ext)
    have go : (∃ a b da db : Nat, x0 = a ∧ x1 = b ∧ hasD (UU up) n da a ∧ hasD (UU up) n db b) → 0 ≤ x2 → 0 ≤ x3 → x2 ≤ 50 → x3 ≤ 50 → j34 false := by
      rintro ⟨u, v, du, dv, rfl, rfl, hu, hv⟩ y2 y3 y4 y5
      simp -zeta only [j34]
      refine iteB_neg rfl ?_
      clear yes j34
      have bu := hu.lt_n
      have bv := hv.lt_n
      have hn := T.hn
      refine callP1.self (LMeet_of T hu hv ⟨by omega, by omega⟩ s3 fun top p q2 h4 it s4 => ?_)
      obtain ⟨i1, i2, i3, i4, i5, i6⟩ := id it
      have htop := hu.upN i3
      rw [i1] at htop
      refine qcallP1.of _ (fun Q hQ => Depth_at lt hD hu s4 hQ) (qcallP1.of _ (fun Q hQ => Depth_at lt hD htop s4 hQ) (qcallP1.of _ (fun Q hQ => Depth_at lt hD hv s4 hQ) (qcallP1.of _ (fun Q hQ => Depth_at lt hD htop s4 hQ) ?_)))
      have w1 : IntKind.i64.wrap ((du : Int) - ((du - p : Nat) : Int)) = (p : Int) := by rw [wrap64 (by omega) (by omega)]; omega
      have w2 : IntKind.i64.wrap ((dv : Int) - ((du - p : Nat) : Int)) = (q2 : Int) := by rw [wrap64 (by omega) (by omega)]; omega
      have w3 : IntKind.i64.wrap (x2 + x3) = x2 + x3 := wrap64 (by omega) (by omega)
      have w4 : IntKind.i64.wrap ((p : Int) + (q2 : Int)) = ((p + q2 : Nat) : Int) := by rw [wrap64 (by omega) (by omega)]; omega
      rw [w1, w2, w3, w4]
      intro j73
      have J : ∀ h', St (h2 : Base) h' ((t, LT.row ⟨t, qw, cw, bd, q, c, rs⟩ n 0) :: Z) → j73 (p : Int) (q2 : Int) h' := fun h' s' => by
        simp -zeta only [j73]
        refine iteB_intro (fun _ => aw h' s'.ext) fun d1 => iteB_intro (fun _ => aw h' s'.ext) fun d2 => ?_
        have d1 : (p : Int) ≠ 0 := by simpa using d1
        have d2 : (q2 : Int) ≠ 0 := by simpa using d2
        rw [show IntKind.i64.wrap ((p : Int) - 1) = ((p - 1 : Nat) : Int) by rw [wrap64 (by omega) (by omega)]; omega, show IntKind.i64.wrap ((q2 : Int) - 1) = ((q2 - 1 : Nat) : Int) by rw [wrap64 (by omega) (by omega)]; omega]
        refine callP1.self (Up_of T.ht lt T.hn T.hrs hD s' fun h5 s5 => callP1.self (Up_of T.ht lt T.hn T.hrs hD s5 fun h6 s6 => ?_))
        rw [upI_at hD hu (by omega), upI_at hD hv (by omega)]
        have ne : upN (UU up) (p - 1) u ≠ upN (UU up) (q2 - 1) v := by
          rcases i6 with e | e | e
          · omega
          · omega
          · exact e
        exact iteB_pos (by simp only [bne_iff_ne, ne_eq]; omega) (aw h6 s6.ext)
      clear_value j73
      refine callP1.self (Up_of T.ht lt T.hn T.hrs hD s4 fun h5 s5 => callP1.self (Up_of T.ht lt T.hn T.hrs hD s5 fun h6 s6 => callP1.self (Up_of T.ht lt T.hn T.hrs hD s6 fun h7 s7 => ?_)))
      refine iteB_neg (by rw [upI_add hD hu.lt y2 y3]; simp) ?_
      refine callP1.self (Up_of T.ht lt T.hn T.hrs hD s7 fun h8 s8 => ?_)
      refine iteB_neg (by rw [upI_at hD hu i3, i1]; simp) ?_
      refine callP1.self (Up_of T.ht lt T.hn T.hrs hD s8 fun h9 s9 => ?_)
      refine iteB_neg (by rw [upI_at hD hv i4, i2]; simp) ?_
      refine callP1.self (LFar_of T hu hv ⟨by omega, by omega⟩ s9 fun top' p' q' hA it' sA => ?_)
      obtain ⟨f1, f2, f3⟩ := it.uniq it'
      subst f1 f2 f3
      refine bindV_intro fun x hx => ?_
      subst hx
      exact iteB_neg (by simp) (J hA sA)
    clear_value j34
    refine iteB_neg rfl (iteB_intro (fun _ => yes) fun c4 => iteB_intro (fun _ => yes) fun c5 => iteB_intro (fun _ => yes) fun c6 => iteB_intro (fun _ => yes) fun c7 => ?_)
    have c4 := of_decide_eq_false c4
    have c5 := of_decide_eq_false c5
    have c6 := of_decide_eq_false c6
    have c7 := of_decide_eq_false c7
    refine qcallP1.of _ (fun Q hQ => Depth_of lt s3 hQ) (iteB_intro (fun _ => yes) fun c8 => qcallP1.of _ (fun Q hQ => Depth_of lt s3 hQ) ?_)
    have c8 := of_decide_eq_false c8
    have k8 : inL x0 n := by
      apply Classical.byContradiction
      intro no
      rw [if_neg no] at c8; omega
    by_cases c9 : inL x1 n
    · obtain ⟨u, rfl⟩ : ∃ x : Nat, x0 = x := ⟨x0.toNat, by omega⟩
      obtain ⟨v, rfl⟩ : ∃ x : Nat, x1 = x := ⟨x1.toNat, by omega⟩
      obtain ⟨du, eu, hu⟩ := hD u (by omega)
      obtain ⟨dv, ev, hv⟩ := hD v (by omega)
      rw [if_pos c9, Int.toNat_natCast, ev, decide_eq_false (by omega)]
      exact go ⟨u, v, du, dv, rfl, rfl, hu, hv⟩ (by omega) (by omega) (by omega) (by omega)
    · rw [if_neg c9]; exact yes
end Go.Proofs.YtfidcekobjmamaaDoor
