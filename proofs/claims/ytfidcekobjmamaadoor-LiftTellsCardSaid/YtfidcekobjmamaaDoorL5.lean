/-
  Jumps in a tree: New.
-/
import Derived.Test.YtfidcekobjmamaaDoorL4
namespace Go.Proofs.YtfidcekobjmamaaDoor
set_option linter.unusedVariables false
set_option linter.unusedSimpArgs false
set_option linter.unnecessarySimpa false
open Go.Hp Go.RowKit
attribute [local irreducible] Go.Hp.iteB Go.Hp.stC Go.Hp.newP

section
variable {h0 : Base} {R : Rws} {n : Nat}
theorem New_of {h : Heap} {up w : List Int} {m cU cW : Nat} {qU qW : Option Addr} {K : Option Addr → Int → Heap → Prop} (hup : up.length = n) (hw : w.length = m) (kU : Keeps h0 R qU (up.map (Value.int .i64))) (kW : Keeps h0 R qW (w.map (Value.int .i64))) (s : St h0 h R)
    (hk0 : ¬ RightT up w → ∀ h', St h0 h' R → K none 15 h')
    (hk : RightT up w → ∀ rs q c t qw cw bd Z D h', LTk h0 Z ⟨t, qw, cw, bd, q, c, rs⟩ n w D (jK up w) → (∀ v, v < n → ∃ d : Nat, D v = (d : Int) ∧ hasD (UU up) n d v) → 0 < rs.length → n ≤ 2 ^ rs.length → (rs.length ≤ 13 ∧ (rs.length = 1 ∨ 2 ^ (rs.length - 1) < n)) → St h0 h' ((t, LT.row ⟨t, qw, cw, bd, q, c, rs⟩ n 0) :: Z) → K (some ⟨t, 0, none⟩) 0 h') :
    lift_New qU n cU qW m cW h K := by
  unfold lift_New
  refine s.new_ fun a3 h1 s1 => ?_
  try simp -zeta (disch := omega) only [chkP_some, iteB_true, iteB_false, add_mk, Nat.zero_add, Nat.add_zero, Nat.mul_one, Nat.reduceAdd, Int.toNat_natCast, ex_int, ex_slice, ex_ptr, ex_bool, ex_str, ex_flt, ex_any, bnd_in, List.getElem?_cons_zero, List.getElem?_cons_succ, List.set_cons_zero, List.set_cons_succ, List.cons_append, List.nil_append, bne_self_eq_false, beq_self_eq_true, Bool.not_true, Bool.not_false, Option.isNone_some, Option.isNone_none, eq_self, true_and, and_true, and_self, s1.rd0]
  refine callP1.self (Check_of (up := up) (w := w) hup hw kU.cons kW.cons s1 fun h2 s2 => ?_)
  by_cases right : RightT up w
  rotate_left
  · rw [if_neg right]
    exact iteB_pos rfl (hk0 right h2 s2.tail)
  · rw [if_pos right]
    refine iteB_neg rfl ?_
    have hmn : m = n := by have := right.len; omega
    subst hmn
    have hn : m ≤ 4096 := by have := right.max; omega
    have each : ∀ v, v < m → UU up v < m := fun v hv => by have := (right.each v (by omega)).2.1; unfold UU; omega
    try simp -zeta (disch := omega) only [chkP_some, iteB_true, iteB_false, add_mk, Nat.zero_add, Nat.add_zero, Nat.mul_one, Nat.reduceAdd, Int.toNat_natCast, ex_int, ex_slice, ex_ptr, ex_bool, ex_str, ex_flt, ex_any, bnd_in, List.getElem?_cons_zero, List.getElem?_cons_succ, List.set_cons_zero, List.set_cons_succ, List.cons_append, List.nil_append, bne_self_eq_false, beq_self_eq_true, Bool.not_true, Bool.not_false, Option.isNone_some, Option.isNone_none, eq_self, true_and, and_true, and_self, s2.rd0]
    refine St.new_ (cs := []) s2 fun b13 h3 s3 => ?_
    have r3 : ∀ j, cell h3 ⟨a3, j, none⟩ = [Value.slice qU m cU, .slice qW m cW][j]? := s3.rd1
    refine ⟨⟨_, _, _, r3 0, _, _, _, r3 1, rfl⟩, ⟨_, _, _, r3 1, rfl⟩, ?_⟩
    have vw := kW.cons.cons.at0 s3
    refine Hp.Own.pushAll (l := []) (X := [(b13, [])]) (.inr ⟨b13, [], rfl, rfl, rfl⟩) s3 rfl vw (by simp [hw]) (by omega) (fun x hx => by obtain ⟨i, _, rfl⟩ := List.mem_map.1 hx; rfl) (by simp; omega) fun qw cw Xw h4 ow s4 => ?_
    have r4 : ∀ j, cell h4 ⟨a3, j, none⟩ = [Value.slice qU m cU, .slice qW m cW][j]? := s4.rd (by simp)
    refine ⟨⟨_, _, _, r4 0, _, _, _, r4 1, rfl⟩, ?_⟩
    refine callP3.self ?_
    unfold tree_Depths
    refine s4.new_ fun a5 h5 s5 => ?_
    try simp -zeta (disch := omega) only [chkP_some, iteB_true, iteB_false, add_mk, Nat.zero_add, Nat.add_zero, Nat.mul_one, Nat.reduceAdd, Int.toNat_natCast, ex_int, ex_slice, ex_ptr, ex_bool, ex_str, ex_flt, ex_any, bnd_in, List.getElem?_cons_zero, List.getElem?_cons_succ, List.set_cons_zero, List.set_cons_succ, List.cons_append, List.nil_append, bne_self_eq_false, beq_self_eq_true, Bool.not_true, Bool.not_false, Option.isNone_some, Option.isNone_none, eq_self, true_and, and_true, and_self, s5.rd0]
    have kU5 : Keeps h0 ((a5, [.slice qU m cU, .slice qW m cW]) :: (Xw ++ (a3, [.slice qU m cU, .slice qW m cW]) :: R)) qU (up.map (Value.int .i64)) := kU.cons.app.cons
    have kW5 : Keeps h0 ((a5, [.slice qU m cU, .slice qW m cW]) :: (Xw ++ (a3, [.slice qU m cU, .slice qW m cW]) :: R)) qW (w.map (Value.int .i64)) := kW.cons.app.cons
    refine callP4.self (depths_of (up := up) (w := w) hup hw kU5 kW5 s5 (fun no => absurd right no) (fun _ h6 bd D hD s6 => ?_))
    refine s6.new_ fun t h7 s7 => ⟨⟨by omega, by omega, by omega, by omega⟩, ?_⟩
    rw [prT_zero]
    refine s7.new_ fun r0 h8 s8 => ⟨m + 1, ?_⟩
    rw [← part_none (J := J0 up)] at s8
    refine new_l0 (up := up) (qU := qU) (cU := cU) (qW := qW) (cW := cW) (a3 := a3) hup hn (kU.sub fun x hx => by simp [hx]) (by simp) (fun h9 s9 => ?_) m 0 h8 (by omega) s8
    have r9 : ∀ j, cell h9 ⟨t, j, none⟩ = [Value.slice qw _ cw, .slice (some ⟨bd, 0, none⟩) m m, .slice none 0 0, .int .i64 0][j]? := s9.rd1
    simp -zeta (disch := omega) only [chkP_some, iteB_true, iteB_false, add_mk, Nat.zero_add, Nat.add_zero, Nat.mul_one, Nat.reduceAdd, Int.toNat_natCast, ex_int, ex_slice, ex_ptr, ex_bool, ex_str, ex_flt, ex_any, bnd_in, List.getElem?_cons_zero, List.getElem?_cons_succ, List.set_cons_zero, List.set_cons_succ, List.cons_append, List.nil_append, bne_self_eq_false, beq_self_eq_true, Bool.not_true, Bool.not_false, Option.isNone_some, Option.isNone_none, eq_self, true_and, and_true, and_self, r9]
    refine Hp.Own.push1 Hp.Own.nil s9 rfl rfl (by simp) fun q c X hA oA sA => ?_
    have sA : St h0 hA ((t, [.slice qw ([] ++ w.map (Value.int .i64)).length cw, .slice (some ⟨bd, 0, none⟩) m m, .slice none 0 0, .int .i64 0]) :: (X ++ ((r0, prT m (J0 up)) :: (bd, ints m D) :: Xw))) := by
      have e : ([] : List Value).length + m = ([] ++ w.map (Value.int .i64)).length := by simp [hw]
      rw [← e]; exact (St.re sA (by intro a; simp only [cntR_append, cntR_cons, cntR_nil, List.cons_append, List.nil_append, List.set_cons_zero, List.set_cons_succ]; omega))
    refine sA.st0 (by simp) fun hB sB => ?_
    simp only [List.set_cons_zero, List.set_cons_succ, Nat.zero_add] at sB
    have e2 : ([] ++ w.map (Value.int .i64)).length = m := by simp [hw]
    rw [e2] at sB
    refine ⟨13, new_l1 (up := up) (w := w) (D := D) hw hn each (fun rs q' c' Z h' lt p1 p2 p3 s' => hk right rs q' c' t qw cw bd Z D h' lt hD p1 p2 p3 s') 12 [r0] q c X ((r0, prT m (J0 up)) :: (bd, ints m D) :: Xw) hB rfl (by simp) (.inl rfl) (by simpa [slR] using oA) ?_ (Keeps.row (by simp)) (fun k r hkr => ?_) (by simpa using sB)⟩
    · exact ((by simpa using ow : Hp.Own qw cw (w.map (Value.int .i64)) Xw).keeps (R := Xw) fun x hx => hx).cons.cons
    · have hlt := lt_get hkr
      have : k = 0 := by simp at hlt; omega
      subst this
      simp at hkr
      subst hkr
      exact List.mem_cons_self ..
end
end Go.Proofs.YtfidcekobjmamaaDoor
