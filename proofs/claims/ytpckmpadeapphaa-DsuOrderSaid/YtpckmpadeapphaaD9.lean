/-
  Classes that are joined: any pairs.
-/
import Derived.Test.YtpckmpadeapphaaD8
import Derived.Test.YtpckmpadeapphaaRd
namespace Go.Proofs.Ytpckmpadeapphaa
set_option linter.unusedVariables false
set_option linter.unusedSimpArgs false
set_option linter.unnecessarySimpa false
open Go.Hp Go.RowKit
attribute [local irreducible] Go.Hp.iteB Go.Hp.stC Go.Hp.newP

def prV (ps : List (Int × Int)) : List (List Value) := ps.map fun o => [.int .i64 o.1, .int .i64 o.2]

section
variable {a : DA} {n : Nat} {len cap bx : Nat}
theorem plays_l0 {p : Option Addr} {ps : List (Int × Int)} {h0 : Base} {K0 : Bool → Heap → Prop} {K2 : Heap → Prop} (hl : ps.length = len) (hlen : len ≤ 60) (hv : rowsAt h0.heap p 2 (prV ps))
    (hk : ∀ h' z C q c Y, z.n = n → DInv z C → Keeps h0 Y q (intN n C) → St h0 h' (z.rows a ++ (bx, [.slice q n c]) :: Y) → K2 h') :
    ∀ (d i : Nat) (h : Heap) (z : DS) (C : Nat → Nat) (q : Option Addr) (c : Nat) (Y : Rws), i + d = len → z.n = n → DInv z C → Keeps h0 Y q (intN n C) → St h0 h (z.rows a ++ (bx, [.slice q n c]) :: Y) →
      straitlaw10_DsuPlays.l0 K0 K2 (d + 1) p len cap (some ⟨a.b, 0, none⟩) ⟨bx, 0, none⟩ (i : Int) h
  | 0, i, h, z, C, q, c, Y, hi, hn, iv, kq, s => by
    unfold straitlaw10_DsuPlays.l0 straitlaw10_DsuPlays.b0
    exact iteB_neg (decide_eq_false (by omega)) (hk h z C q c Y hn iv kq s)
  | d + 1, i, h, z, C, q, c, Y, hi, hn, iv, kq, s => by
    unfold straitlaw10_DsuPlays.l0 straitlaw10_DsuPlays.b0
    obtain ⟨⟨u, v⟩, ho⟩ := get_lt (l := ps) (i := i) (by omega)
    obtain ⟨pa, rfl, hp⟩ := hv i [.int .i64 u, .int .i64 v] (by simp [prV, ho])
    have hp0 : cell h (pa.add (i * 2)) = some (.int .i64 u) := by have := s.ext.cell' (hp 0 _ rfl); simpa using this
    have hp1 := s.ext.cell' (hp 1 (.int .i64 v) rfl)
    have hb := iv.n
    have z0 : ((0 : Int) ≤ 0 ∧ (0 : Int) < 2) = True := by simp
    have z1 : ((0 : Int) ≤ 1 ∧ (1 : Int) < 2) = True := by simp
    have e0 : (0 : Int).toNat * 1 = 0 := rfl
    have e1 : (1 : Int).toNat * 1 = 1 := rfl
    refine iteB_pos (decide_eq_true (by omega)) ?_
    have r1 : ∀ j, cell h ⟨bx, j, none⟩ = [Value.slice q n c][j]? := s.rd (by simp)
    simp -zeta (disch := omega) only [chkP_some, iteB_true, iteB_false, add_mk, Nat.zero_add, Nat.add_zero, Nat.mul_one, Nat.reduceAdd, Int.toNat_natCast, ex_int, ex_slice, ex_ptr, ex_bool, ex_str, ex_flt, ex_any, bnd_in, List.getElem?_cons_zero, List.getElem?_cons_succ, List.set_cons_zero, List.set_cons_succ, List.cons_append, List.nil_append, bne_self_eq_false, beq_self_eq_true, Bool.not_true, Bool.not_false, Option.isNone_some, Option.isNone_none, eq_self, true_and, and_true, and_self, z0, z1, e0, e1, Go.Deep.add_add, hp0, hp1, r1]
    refine callP1.self (DSame_of iv s fun h2 U2 iv2 s2 => ?_)
    have r2 : ∀ j, cell h2 ⟨bx, j, none⟩ = [Value.slice q n c][j]? := s2.rd (by simp)
    simp -zeta (disch := omega) only [chkP_some, iteB_true, iteB_false, add_mk, Nat.zero_add, Nat.add_zero, Nat.mul_one, Nat.reduceAdd, Int.toNat_natCast, ex_int, ex_slice, ex_ptr, ex_bool, ex_str, ex_flt, ex_any, bnd_in, List.getElem?_cons_zero, List.getElem?_cons_succ, List.set_cons_zero, List.set_cons_succ, List.cons_append, List.nil_append, bne_self_eq_false, beq_self_eq_true, Bool.not_true, Bool.not_false, Option.isNone_some, Option.isNone_none, eq_self, true_and, and_true, and_self, r2]
    refine callP1.self (RSame_of (n := n) (C := C) (kq.sub fun x hx => by simp [hx]) s2 fun h3 s3 => ?_)
    refine iteB_neg (by rw [hn]; simp) ?_
    have r3 : ∀ j, cell h3 ⟨bx, j, none⟩ = [Value.slice q n c][j]? := s3.rd (by simp)
    intro j
    have J : ∀ h', St h0 h' (({ z with up := U2 } : DS).rows a ++ (bx, [.slice q n c]) :: Y) → j (twoF C n u v) h' := by
      intro h4 s4
      simp -zeta only [j]
      refine callP1.self (DJoin_of (u := u) (v := v) iv2 s4 fun h5 z5 n5 iv5 s5 => ?_)
      have n5 : z5.n = n := n5.trans hn
      have iv5 : DInv z5 (joinC C n u v) := by have := iv5; rwa [show ({ z with up := U2 } : DS).n = n from hn] at this
      have r5 : ∀ j, cell h5 ⟨bx, j, none⟩ = [Value.slice q n c][j]? := s5.rd (by simp)
      simp -zeta (disch := omega) only [chkP_some, iteB_true, iteB_false, add_mk, Nat.zero_add, Nat.add_zero, Nat.mul_one, Nat.reduceAdd, Int.toNat_natCast, ex_int, ex_slice, ex_ptr, ex_bool, ex_str, ex_flt, ex_any, bnd_in, List.getElem?_cons_zero, List.getElem?_cons_succ, List.set_cons_zero, List.set_cons_succ, List.cons_append, List.nil_append, bne_self_eq_false, beq_self_eq_true, Bool.not_true, Bool.not_false, Option.isNone_some, Option.isNone_none, eq_self, true_and, and_true, and_self, r5]
      refine callP3.self (RJoin_of (C := C) (c := c) (u := u) (v := v) (by omega) kq (fun x hx => by simp [hx]) s5 fun q6 c6 X6 h6 k6 s6 => ?_)
      have s6 : St h0 h6 ((bx, [.slice q n c]) :: (z5.rows a ++ (X6 ++ Y))) := (St.re s6 (by intro a; simp only [cntR_append, cntR_cons, cntR_nil, List.cons_append, List.nil_append, List.set_cons_zero, List.set_cons_succ]; omega))
      refine s6.st0 (by simp) fun h7 s7 => ?_
      have s7 : St h0 h7 (z5.rows a ++ (bx, [.slice q6 n c6]) :: (X6 ++ Y)) := (St.re s7 (by intro a; simp only [cntR_append, cntR_cons, cntR_nil, List.cons_append, List.nil_append, List.set_cons_zero, List.set_cons_succ]; omega))
      refine iteB_neg (by rw [show ({ z with up := U2 } : DS).n = n from hn]; simp) ?_
      have r7 : ∀ j, cell h7 ⟨bx, j, none⟩ = [Value.slice q6 n c6][j]? := s7.rd (by simp)
      simp -zeta (disch := omega) only [chkP_some, iteB_true, iteB_false, add_mk, Nat.zero_add, Nat.add_zero, Nat.mul_one, Nat.reduceAdd, Int.toNat_natCast, ex_int, ex_slice, ex_ptr, ex_bool, ex_str, ex_flt, ex_any, bnd_in, List.getElem?_cons_zero, List.getElem?_cons_succ, List.set_cons_zero, List.set_cons_succ, List.cons_append, List.nil_append, bne_self_eq_false, beq_self_eq_true, Bool.not_true, Bool.not_false, Option.isNone_some, Option.isNone_none, eq_self, true_and, and_true, and_self, r7]
      refine callP1.self (Same_of iv5 n5 k6 (fun x hx => by simp only [List.mem_cons]; exact .inr hx) s7 fun h8 U8 iv8 s8 => iteB_neg rfl ?_)
      have r8 : ∀ j, cell h8 ⟨bx, j, none⟩ = [Value.slice q6 n c6][j]? := s8.rd (by simp)
      simp -zeta (disch := omega) only [chkP_some, iteB_true, iteB_false, add_mk, Nat.zero_add, Nat.add_zero, Nat.mul_one, Nat.reduceAdd, Int.toNat_natCast, ex_int, ex_slice, ex_ptr, ex_bool, ex_str, ex_flt, ex_any, bnd_in, List.getElem?_cons_zero, List.getElem?_cons_succ, List.set_cons_zero, List.set_cons_succ, List.cons_append, List.nil_append, bne_self_eq_false, beq_self_eq_true, Bool.not_true, Bool.not_false, Option.isNone_some, Option.isNone_none, eq_self, true_and, and_true, and_self, r8]
      refine callP1.self (Same_of iv8 n5 k6 (fun x hx => by simp only [List.mem_cons]; exact .inr hx) s8 fun h9 U9 iv9 s9 => iteB_neg rfl ?_)
      rw [wrap64 (by omega) (by omega)]
      exact plays_l0 hl hlen hv hk d (i + 1) h9 { z5 with up := U9 } _ q6 c6 (X6 ++ Y) (by omega) n5 iv9 k6 s9
    clear_value j
    simp -zeta (disch := omega) only [chkP_some, iteB_true, iteB_false, add_mk, Nat.zero_add, Nat.add_zero, Nat.mul_one, Nat.reduceAdd, Int.toNat_natCast, ex_int, ex_slice, ex_ptr, ex_bool, ex_str, ex_flt, ex_any, bnd_in, List.getElem?_cons_zero, List.getElem?_cons_succ, List.set_cons_zero, List.set_cons_succ, List.cons_append, List.nil_append, bne_self_eq_false, beq_self_eq_true, Bool.not_true, Bool.not_false, Option.isNone_some, Option.isNone_none, eq_self, true_and, and_true, and_self, r3]
    refine callP1.self (ROf_of (n := n) (C := C) (kq.sub fun x hx => by simp [hx]) s3 fun h4 s4 => ?_)
    have two0 : ¬ (0 ≤ u ∧ u < (n : Int)) → twoF C n u v = false := fun e => by unfold twoF; rw [decide_eq_false e]; simp
    have two1 : ¬ (0 ≤ v ∧ v < (n : Int)) → twoF C n u v = false := fun e => by unfold twoF; rw [decide_eq_false e]; simp
    have of0 : ∀ w : Int, decide (ofF C n w ≥ 0) = decide (0 ≤ w ∧ w < (n : Int)) := fun w => decide_eq_decide.2 (by unfold ofF; split <;> rename_i h <;> omega)
    refine iteB_intro (fun e => ?_) (fun e => ?_)
    · rw [of0] at e
      have r4 : ∀ j, cell h4 ⟨bx, j, none⟩ = [Value.slice q n c][j]? := s4.rd (by simp)
      simp -zeta (disch := omega) only [chkP_some, iteB_true, iteB_false, add_mk, Nat.zero_add, Nat.add_zero, Nat.mul_one, Nat.reduceAdd, Int.toNat_natCast, ex_int, ex_slice, ex_ptr, ex_bool, ex_str, ex_flt, ex_any, bnd_in, List.getElem?_cons_zero, List.getElem?_cons_succ, List.set_cons_zero, List.set_cons_succ, List.cons_append, List.nil_append, bne_self_eq_false, beq_self_eq_true, Bool.not_true, Bool.not_false, Option.isNone_some, Option.isNone_none, eq_self, true_and, and_true, and_self, r4]
      refine callP1.self (ROf_of (n := n) (C := C) (kq.sub fun x hx => by simp [hx]) s4 fun h5 s5 => ?_)
      refine iteB_intro (fun e2 => ?_) (fun e2 => ?_)
      · rw [of0] at e2
        have r5 : ∀ j, cell h5 ⟨bx, j, none⟩ = [Value.slice q n c][j]? := s5.rd (by simp)
        simp -zeta (disch := omega) only [chkP_some, iteB_true, iteB_false, add_mk, Nat.zero_add, Nat.add_zero, Nat.mul_one, Nat.reduceAdd, Int.toNat_natCast, ex_int, ex_slice, ex_ptr, ex_bool, ex_str, ex_flt, ex_any, bnd_in, List.getElem?_cons_zero, List.getElem?_cons_succ, List.set_cons_zero, List.set_cons_succ, List.cons_append, List.nil_append, bne_self_eq_false, beq_self_eq_true, Bool.not_true, Bool.not_false, Option.isNone_some, Option.isNone_none, eq_self, true_and, and_true, and_self, r5]
        refine callP1.self (RSame_of (n := n) (C := C) (kq.sub fun x hx => by simp [hx]) s5 fun h6 s6 => ?_)
        have : twoF C n u v = !sameF C n u v := by unfold twoF sameF; rw [e, e2]; simp
        rw [← this]; exact J h6 s6
      · rw [of0] at e2
        rw [← two1 (of_decide_eq_false e2)]; exact J h5 s5
    · rw [of0] at e
      rw [← two0 (of_decide_eq_false e)]; exact J h4 s4

theorem plays_l1 {h0 : Base} {K0 : Bool → Heap → Prop} {K4 : Heap → Prop} {C : Nat → Nat} {z : DS} {q : Option Addr} {c : Nat} {Y : Rws} (hn : z.n = n) (kq : Keeps h0 Y q (intN n C))
    (hk : ∀ h' U, DInv { z with up := U } C → St h0 h' (({ z with up := U } : DS).rows a ++ (bx, [.slice q n c]) :: Y) → K4 h') :
    ∀ (d : Nat) (i : Int) (h : Heap) (U : Nat → Nat), i + d = n + 1 → -1 ≤ i → DInv { z with up := U } C → St h0 h (({ z with up := U } : DS).rows a ++ (bx, [.slice q n c]) :: Y) →
      straitlaw10_DsuPlays.l1 K0 K4 (d + 1) (some ⟨a.b, 0, none⟩) ⟨bx, 0, none⟩ i h
  | d, i, h, U, hi, hi1, iv, s => by
    unfold straitlaw10_DsuPlays.l1 straitlaw10_DsuPlays.b1
    have hb : n ≤ 4096 := by have := iv.n; rw [← hn]; exact this
    have r1 : ∀ j, cell h ⟨bx, j, none⟩ = [Value.slice q n c][j]? := s.rd (by simp)
    simp -zeta (disch := omega) only [chkP_some, iteB_true, iteB_false, add_mk, Nat.zero_add, Nat.add_zero, Nat.mul_one, Nat.reduceAdd, Int.toNat_natCast, ex_int, ex_slice, ex_ptr, ex_bool, ex_str, ex_flt, ex_any, bnd_in, List.getElem?_cons_zero, List.getElem?_cons_succ, List.set_cons_zero, List.set_cons_succ, List.cons_append, List.nil_append, bne_self_eq_false, beq_self_eq_true, Bool.not_true, Bool.not_false, Option.isNone_some, Option.isNone_none, eq_self, true_and, and_true, and_self, r1]
    refine iteB_intro (fun e => ?_) (fun e => ?_)
    · have e := of_decide_eq_true e
      cases d with
      | zero => omega
      | succ d =>
      try simp -zeta (disch := omega) only [chkP_some, iteB_true, iteB_false, add_mk, Nat.zero_add, Nat.add_zero, Nat.mul_one, Nat.reduceAdd, Int.toNat_natCast, ex_int, ex_slice, ex_ptr, ex_bool, ex_str, ex_flt, ex_any, bnd_in, List.getElem?_cons_zero, List.getElem?_cons_succ, List.set_cons_zero, List.set_cons_succ, List.cons_append, List.nil_append, bne_self_eq_false, beq_self_eq_true, Bool.not_true, Bool.not_false, Option.isNone_some, Option.isNone_none, eq_self, true_and, and_true, and_self, r1]
      refine callP1.self (Same_of iv hn kq (fun x hx => by simp only [List.mem_cons]; exact .inr hx) s fun h2 U2 iv2 s2 => iteB_neg rfl ?_)
      rw [wrap64 (by omega) (by omega)]
      exact plays_l1 hn kq hk d (i + 1) h2 U2 (by omega) (by omega) iv2 s2
    · exact hk h U iv s

theorem Plays_of {p : Option Addr} {ps : List (Int × Int)} {h : Heap} {m : Int} {K : Bool → Heap → Prop} (hl : ps.length = len) (hv : rowsAt h p 2 (prV ps)) (hk : ∀ h', Ext h h' → K true h') : straitlaw10_DsuPlays m p len cap h K := by
  unfold straitlaw10_DsuPlays
  intro j
  have J : len ≤ 60 → j := by
    intro hlen
    simp -zeta only [j]
    refine callP1.self (DNew_of (n := m) (St.refl h) fun a h1 s1 => ?_)
    refine callP3.self (RNew_of s1 fun q c X h2 o s2 => ?_)
    refine s2.new_ fun bx h3 s3 => s3.st0 (by simp) fun h4 s4 => ?_
    have k : Keeps (h : Base) X q (intN (roomN m) fun v => v) := o.keeps fun x hx => hx
    have s4 : St h h4 ((DS.new (roomN m)).rows a ++ (bx, [.slice q (roomN m) c]) :: X) := (St.re s4 (by intro a; simp only [cntR_append, cntR_cons, cntR_nil, List.cons_append, List.nil_append, List.set_cons_zero, List.set_cons_succ]; omega))
    refine ⟨len + 1, plays_l0 (n := roomN m) (h0 := h) hl hlen hv (fun h5 z C q c Y hn iv kq s5 => ?_) len 0 h4 (DS.new (roomN m)) _ q c X (by omega) rfl (DInv.new (roomN_le m)) k s4⟩
    refine ⟨roomN m + 2 + 1, plays_l1 hn kq (fun h6 U6 iv6 s6 => ?_) (roomN m + 2) (-1) h5 z.up (by omega) (by omega) iv s5⟩
    have r6 : ∀ j, cell h6 ⟨bx, j, none⟩ = [Value.slice q (roomN m) c][j]? := s6.rd (by simp)
    simp -zeta (disch := omega) only [chkP_some, iteB_true, iteB_false, add_mk, Nat.zero_add, Nat.add_zero, Nat.mul_one, Nat.reduceAdd, Int.toNat_natCast, ex_int, ex_slice, ex_ptr, ex_bool, ex_str, ex_flt, ex_any, bnd_in, List.getElem?_cons_zero, List.getElem?_cons_succ, List.set_cons_zero, List.set_cons_succ, List.cons_append, List.nil_append, bne_self_eq_false, beq_self_eq_true, Bool.not_true, Bool.not_false, Option.isNone_some, Option.isNone_none, eq_self, true_and, and_true, and_self, r6]
    refine callP3.self (DList_of iv6 s6 fun h7 U7 q7 c7 qs7 Y7 iv7 k7 l7 s7 => ?_)
    have r7 : ∀ j, cell h7 ⟨bx, j, none⟩ = [Value.slice q (roomN m) c][j]? := s7.rd (by simp)
    simp -zeta (disch := omega) only [chkP_some, iteB_true, iteB_false, add_mk, Nat.zero_add, Nat.add_zero, Nat.mul_one, Nat.reduceAdd, Int.toNat_natCast, ex_int, ex_slice, ex_ptr, ex_bool, ex_str, ex_flt, ex_any, bnd_in, List.getElem?_cons_zero, List.getElem?_cons_succ, List.set_cons_zero, List.set_cons_succ, List.cons_append, List.nil_append, bne_self_eq_false, beq_self_eq_true, Bool.not_true, Bool.not_false, Option.isNone_some, Option.isNone_none, eq_self, true_and, and_true, and_self, r7]
    refine callP3.self (RList_of (n := roomN m) (C := C) (roomN_le m) (kq.sub fun x hx => by simp [hx]) s7 fun h8 q8 c8 qs8 Y8 k8 l8 s8 => ?_)
    have e : ({ z with up := U6 } : DS).n = roomN m := hn
    rw [e] at l7
    rw [e]
    obtain ⟨b1, b2⟩ := clsL_small (C := C) (roomN_le m)
    refine qcallP1.of true (fun Q hQ => Lists_of s8 k7 k8 l7 l8 (fun x hx => by simp [hx]) (fun x hx => by simp [hx]) b1 b2 hQ) (iteB_pos rfl ?_)
    exact callP1.self (awake_of s8 fun h9 s9 => hk h9 s9.ext)
  clear_value j
  refine iteB_intro (fun e => callP1.self (awake_of (St.refl h) fun h' s => hk h' s.ext)) (fun e => ?_)
  refine iteB_intro (fun _ => callP1.self (awake_of (St.refl h) fun h' s => hk h' s.ext)) (fun _ => ?_)
  have e := of_decide_eq_false e
  exact J (by omega)

end
end Go.Proofs.Ytpckmpadeapphaa
