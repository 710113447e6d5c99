/-
  Trees: the law TreeTells.
-/
import Derived.Test.YtfidcekobjmamaaT9
namespace Go.Proofs.Ytfidcekobjmamaa
set_option linter.unusedVariables false
set_option linter.unusedSimpArgs false
set_option linter.unnecessarySimpa false
open Go.Hp Go.RowKit
attribute [local irreducible] Go.Hp.iteB Go.Hp.stC Go.Hp.newP

set_option maxHeartbeats 1000000 in
theorem Tells_of {h : Heap} {n m cU cW : Nat} {up w : List Int} {qU qW : Option Addr} {K : Bool → Heap → Prop} (hup : up.length = n) (hw : w.length = m) (vU : valsAt h qU (up.map (Value.int .i64))) (vW : valsAt h qW (w.map (Value.int .i64)))
    (hk : ∀ h', Ext h h' → K true h') : straitlaw29_TreeTells qU n cU qW m cW h K := by
  unfold straitlaw29_TreeTells
  refine (St.refl h).new_ fun t h1 s1 => ?_
  intro j
  try simp -zeta (disch := omega) only [chkP_some, iteB_true, iteB_false, add_mk, Nat.zero_add, Nat.add_zero, Nat.mul_one, Nat.reduceAdd, Int.toNat_natCast, ex_int, ex_slice, ex_ptr, ex_bool, ex_str, ex_flt, ex_any, bnd_in, List.getElem?_cons_zero, List.getElem?_cons_succ, List.set_cons_zero, List.set_cons_succ, List.cons_append, List.nil_append, bne_self_eq_false, beq_self_eq_true, Bool.not_true, Bool.not_false, Option.isNone_some, Option.isNone_none, eq_self, true_and, and_true, and_self, s1.rd0]
  refine iteB_intro (fun e => callP1.self (awake_of s1 fun h2 s2 => hk h2 s2.ext)) (fun e => ?_)
  have hn : n ≤ 40 := by have e : (n : Int) ≤ 40 := by simpa using e
                         omega
  refine iteB_intro (fun e => callP1.self (awake_of s1 fun h2 s2 => hk h2 s2.ext)) (fun e => ?_)
  have hm : m ≤ 5000 := by have e : (m : Int) ≤ 5000 := by simpa using e
                           omega
  simp -zeta only [j]
  clear j
  try simp -zeta (disch := omega) only [chkP_some, iteB_true, iteB_false, add_mk, Nat.zero_add, Nat.add_zero, Nat.mul_one, Nat.reduceAdd, Int.toNat_natCast, ex_int, ex_slice, ex_ptr, ex_bool, ex_str, ex_flt, ex_any, bnd_in, List.getElem?_cons_zero, List.getElem?_cons_succ, List.set_cons_zero, List.set_cons_succ, List.cons_append, List.nil_append, bne_self_eq_false, beq_self_eq_true, Bool.not_true, Bool.not_false, Option.isNone_some, Option.isNone_none, eq_self, true_and, and_true, and_self, s1.rd0]
  refine callP1.self (Check_of hup hw (.old vU) (.old vW) s1 fun h2 s2 => ?_)
  by_cases r : RightT up w
  · rw [if_pos r]
    refine iteB_pos (by decide) ?_
    try simp -zeta (disch := omega) only [chkP_some, iteB_true, iteB_false, add_mk, Nat.zero_add, Nat.add_zero, Nat.mul_one, Nat.reduceAdd, Int.toNat_natCast, ex_int, ex_slice, ex_ptr, ex_bool, ex_str, ex_flt, ex_any, bnd_in, List.getElem?_cons_zero, List.getElem?_cons_succ, List.set_cons_zero, List.set_cons_succ, List.cons_append, List.nil_append, bne_self_eq_false, beq_self_eq_true, Bool.not_true, Bool.not_false, Option.isNone_some, Option.isNone_none, eq_self, true_and, and_true, and_self, s2.rd0]
    refine callP1.self (Right_of hup hw (.old vU) (.old vW) s2 fun h2' s => ?_)
    refine iteB_pos (by simp [r]) ?_
    try simp -zeta (disch := omega) only [chkP_some, iteB_true, iteB_false, add_mk, Nat.zero_add, Nat.add_zero, Nat.mul_one, Nat.reduceAdd, Int.toNat_natCast, ex_int, ex_slice, ex_ptr, ex_bool, ex_str, ex_flt, ex_any, bnd_in, List.getElem?_cons_zero, List.getElem?_cons_succ, List.set_cons_zero, List.set_cons_succ, List.cons_append, List.nil_append, bne_self_eq_false, beq_self_eq_true, Bool.not_true, Bool.not_false, Option.isNone_some, Option.isNone_none, eq_self, true_and, and_true, and_self, s.rd0]
    refine callP1.self (PRoot_of (up := up) (w := w) hup hw (by omega) (.old vU) (.old vW) s fun r1 h3 hr1 s3 => ?_)
    try simp -zeta (disch := omega) only [chkP_some, iteB_true, iteB_false, add_mk, Nat.zero_add, Nat.add_zero, Nat.mul_one, Nat.reduceAdd, Int.toNat_natCast, ex_int, ex_slice, ex_ptr, ex_bool, ex_str, ex_flt, ex_any, bnd_in, List.getElem?_cons_zero, List.getElem?_cons_succ, List.set_cons_zero, List.set_cons_succ, List.cons_append, List.nil_append, bne_self_eq_false, beq_self_eq_true, Bool.not_true, Bool.not_false, Option.isNone_some, Option.isNone_none, eq_self, true_and, and_true, and_self, s3.rd0]
    refine callP1.self (RRoot_of (up := up) (w := w) hup hw (by omega) (.old vU) (.old vW) s3 fun r2 h4 hr2 s4 => ?_)
    refine iteB_pos (by rw [hr1.uniq hr2]; simp) ?_
    try simp -zeta (disch := omega) only [chkP_some, iteB_true, iteB_false, add_mk, Nat.zero_add, Nat.add_zero, Nat.mul_one, Nat.reduceAdd, Int.toNat_natCast, ex_int, ex_slice, ex_ptr, ex_bool, ex_str, ex_flt, ex_any, bnd_in, List.getElem?_cons_zero, List.getElem?_cons_succ, List.set_cons_zero, List.set_cons_succ, List.cons_append, List.nil_append, bne_self_eq_false, beq_self_eq_true, Bool.not_true, Bool.not_false, Option.isNone_some, Option.isNone_none, eq_self, true_and, and_true, and_self, s4.rd0]
    refine callP3.self (PDepths_of (up := up) (w := w) hup hw (.old vU) (.old vW) s4 fun q5 c5 X5 h5 o5 s5 => ?_)
    have rt5 : ∀ j, cell h5 ⟨t, j, none⟩ = [.slice qU n cU, .slice qW m cW][j]? := s5.rd (by simp)
    simp -zeta (disch := omega) only [chkP_some, iteB_true, iteB_false, add_mk, Nat.zero_add, Nat.add_zero, Nat.mul_one, Nat.reduceAdd, Int.toNat_natCast, ex_int, ex_slice, ex_ptr, ex_bool, ex_str, ex_flt, ex_any, bnd_in, List.getElem?_cons_zero, List.getElem?_cons_succ, List.set_cons_zero, List.set_cons_succ, List.cons_append, List.nil_append, bne_self_eq_false, beq_self_eq_true, Bool.not_true, Bool.not_false, Option.isNone_some, Option.isNone_none, eq_self, true_and, and_true, and_self, rt5]
    refine callP3.self (RDepths_of (up := up) (w := w) hup hw (by omega) (.old vU) (.old vW) s5 fun q6 c6 X6 h6 o6 s6 => ?_)
    refine qcallP1.of true (fun Q hQ => Ints_of (by rw [← natV_ints]; exact o5.vals s6.flip) (by rw [← natV_ints]; exact o6.vals s6) (by simp) (by simp) (by have := depL_le up w; omega) (by rw [decide_eq_true rfl]; exact hQ)) ?_
    refine iteB_pos rfl ?_
    have rt6 : ∀ j, cell h6 ⟨t, j, none⟩ = [.slice qU n cU, .slice qW m cW][j]? := s6.rd (by simp)
    simp -zeta (disch := omega) only [chkP_some, iteB_true, iteB_false, add_mk, Nat.zero_add, Nat.add_zero, Nat.mul_one, Nat.reduceAdd, Int.toNat_natCast, ex_int, ex_slice, ex_ptr, ex_bool, ex_str, ex_flt, ex_any, bnd_in, List.getElem?_cons_zero, List.getElem?_cons_succ, List.set_cons_zero, List.set_cons_succ, List.cons_append, List.nil_append, bne_self_eq_false, beq_self_eq_true, Bool.not_true, Bool.not_false, Option.isNone_some, Option.isNone_none, eq_self, true_and, and_true, and_self, rt6]
    refine callP3.self (POrder_of (up := up) (w := w) hup hw (by omega) (.old vU) (.old vW) s6 fun b7 h7 s7 => ?_)
    have rt7 : ∀ j, cell h7 ⟨t, j, none⟩ = [.slice qU n cU, .slice qW m cW][j]? := s7.rd (by simp)
    simp -zeta (disch := omega) only [chkP_some, iteB_true, iteB_false, add_mk, Nat.zero_add, Nat.add_zero, Nat.mul_one, Nat.reduceAdd, Int.toNat_natCast, ex_int, ex_slice, ex_ptr, ex_bool, ex_str, ex_flt, ex_any, bnd_in, List.getElem?_cons_zero, List.getElem?_cons_succ, List.set_cons_zero, List.set_cons_succ, List.cons_append, List.nil_append, bne_self_eq_false, beq_self_eq_true, Bool.not_true, Bool.not_false, Option.isNone_some, Option.isNone_none, eq_self, true_and, and_true, and_self, rt7]
    refine callP3.self (ROrder_of (up := up) (w := w) hup hw (by omega) (.old vU) (.old vW) s7 fun q8 c8 X8 h8 o8 s8 => ?_)
    have vP : valsAt h8 (some ⟨b7, 0, none⟩) (natV (ordP (depL up w))) := valsAt.row (s8.rows (b7, natV (ordP (depL up w))) (by simp)) (fun i v hi => by rw [Nat.zero_add]; exact hi)
    refine qcallP1.of true (fun Q hQ => Ints_of (by rw [← natV_ints]; exact vP) (by rw [← natV_ints]; exact o8.vals s8) (by simp [ordP, srt_len]) (by simp) (by have := depL_le up w; omega) (by rw [decide_eq_true rfl]; exact hQ)) ?_
    refine iteB_pos rfl ?_
    have rt8 : ∀ j, cell h8 ⟨t, j, none⟩ = [.slice qU n cU, .slice qW m cW][j]? := s8.rd (by simp)
    simp -zeta (disch := omega) only [chkP_some, iteB_true, iteB_false, add_mk, Nat.zero_add, Nat.add_zero, Nat.mul_one, Nat.reduceAdd, Int.toNat_natCast, ex_int, ex_slice, ex_ptr, ex_bool, ex_str, ex_flt, ex_any, bnd_in, List.getElem?_cons_zero, List.getElem?_cons_succ, List.set_cons_zero, List.set_cons_succ, List.cons_append, List.nil_append, bne_self_eq_false, beq_self_eq_true, Bool.not_true, Bool.not_false, Option.isNone_some, Option.isNone_none, eq_self, true_and, and_true, and_self, rt8]
    refine callP1.self (PSame_of (.old vU) (.old vW) (.old vU) (.old vW) hup.symm hw.symm hup.symm hw.symm (by unfold maxLen; omega) (by unfold maxLen; omega) s8 fun h9 s9 => ?_)
    refine iteB_pos (by simp) ?_
    exact callP1.self (awake_of s9 fun h10 s10 => hk h10 s10.ext)
  · rw [if_neg r]
    refine iteB_neg (by decide) ?_
    try simp -zeta (disch := omega) only [chkP_some, iteB_true, iteB_false, add_mk, Nat.zero_add, Nat.add_zero, Nat.mul_one, Nat.reduceAdd, Int.toNat_natCast, ex_int, ex_slice, ex_ptr, ex_bool, ex_str, ex_flt, ex_any, bnd_in, List.getElem?_cons_zero, List.getElem?_cons_succ, List.set_cons_zero, List.set_cons_succ, List.cons_append, List.nil_append, bne_self_eq_false, beq_self_eq_true, Bool.not_true, Bool.not_false, Option.isNone_some, Option.isNone_none, eq_self, true_and, and_true, and_self, s2.rd0]
    refine callP1.self (Check_of hup hw (.old vU) (.old vW) s2 fun h2'' s2' => ?_)
    rw [if_neg r]
    refine iteB_pos (by decide) ?_
    try simp -zeta (disch := omega) only [chkP_some, iteB_true, iteB_false, add_mk, Nat.zero_add, Nat.add_zero, Nat.mul_one, Nat.reduceAdd, Int.toNat_natCast, ex_int, ex_slice, ex_ptr, ex_bool, ex_str, ex_flt, ex_any, bnd_in, List.getElem?_cons_zero, List.getElem?_cons_succ, List.set_cons_zero, List.set_cons_succ, List.cons_append, List.nil_append, bne_self_eq_false, beq_self_eq_true, Bool.not_true, Bool.not_false, Option.isNone_some, Option.isNone_none, eq_self, true_and, and_true, and_self, s2'.rd0]
    refine callP1.self (Right_of hup hw (.old vU) (.old vW) s2' fun h2' s => ?_)
    refine iteB_pos (by simp [r]) ?_
    try simp -zeta (disch := omega) only [chkP_some, iteB_true, iteB_false, add_mk, Nat.zero_add, Nat.add_zero, Nat.mul_one, Nat.reduceAdd, Int.toNat_natCast, ex_int, ex_slice, ex_ptr, ex_bool, ex_str, ex_flt, ex_any, bnd_in, List.getElem?_cons_zero, List.getElem?_cons_succ, List.set_cons_zero, List.set_cons_succ, List.cons_append, List.nil_append, bne_self_eq_false, beq_self_eq_true, Bool.not_true, Bool.not_false, Option.isNone_some, Option.isNone_none, eq_self, true_and, and_true, and_self, s.rd0]
    refine callP1.self (PRoot_of (up := up) (w := w) hup hw (by omega) (.old vU) (.old vW) s fun r1 h3 hr1 s3 => ?_)
    try simp -zeta (disch := omega) only [chkP_some, iteB_true, iteB_false, add_mk, Nat.zero_add, Nat.add_zero, Nat.mul_one, Nat.reduceAdd, Int.toNat_natCast, ex_int, ex_slice, ex_ptr, ex_bool, ex_str, ex_flt, ex_any, bnd_in, List.getElem?_cons_zero, List.getElem?_cons_succ, List.set_cons_zero, List.set_cons_succ, List.cons_append, List.nil_append, bne_self_eq_false, beq_self_eq_true, Bool.not_true, Bool.not_false, Option.isNone_some, Option.isNone_none, eq_self, true_and, and_true, and_self, s3.rd0]
    refine callP1.self (RRoot_of (up := up) (w := w) hup hw (by omega) (.old vU) (.old vW) s3 fun r2 h4 hr2 s4 => ?_)
    refine iteB_pos (by rw [hr1.uniq hr2]; simp) ?_
    try simp -zeta (disch := omega) only [chkP_some, iteB_true, iteB_false, add_mk, Nat.zero_add, Nat.add_zero, Nat.mul_one, Nat.reduceAdd, Int.toNat_natCast, ex_int, ex_slice, ex_ptr, ex_bool, ex_str, ex_flt, ex_any, bnd_in, List.getElem?_cons_zero, List.getElem?_cons_succ, List.set_cons_zero, List.set_cons_succ, List.cons_append, List.nil_append, bne_self_eq_false, beq_self_eq_true, Bool.not_true, Bool.not_false, Option.isNone_some, Option.isNone_none, eq_self, true_and, and_true, and_self, s4.rd0]
    refine callP3.self (PDepths_of (up := up) (w := w) hup hw (.old vU) (.old vW) s4 fun q5 c5 X5 h5 o5 s5 => ?_)
    have rt5 : ∀ j, cell h5 ⟨t, j, none⟩ = [.slice qU n cU, .slice qW m cW][j]? := s5.rd (by simp)
    simp -zeta (disch := omega) only [chkP_some, iteB_true, iteB_false, add_mk, Nat.zero_add, Nat.add_zero, Nat.mul_one, Nat.reduceAdd, Int.toNat_natCast, ex_int, ex_slice, ex_ptr, ex_bool, ex_str, ex_flt, ex_any, bnd_in, List.getElem?_cons_zero, List.getElem?_cons_succ, List.set_cons_zero, List.set_cons_succ, List.cons_append, List.nil_append, bne_self_eq_false, beq_self_eq_true, Bool.not_true, Bool.not_false, Option.isNone_some, Option.isNone_none, eq_self, true_and, and_true, and_self, rt5]
    refine callP3.self (RDepths_of (up := up) (w := w) hup hw (by omega) (.old vU) (.old vW) s5 fun q6 c6 X6 h6 o6 s6 => ?_)
    refine qcallP1.of true (fun Q hQ => Ints_of (by rw [← natV_ints]; exact o5.vals s6.flip) (by rw [← natV_ints]; exact o6.vals s6) (by simp) (by simp) (by have := depL_le up w; omega) (by rw [decide_eq_true rfl]; exact hQ)) ?_
    refine iteB_pos rfl ?_
    have rt6 : ∀ j, cell h6 ⟨t, j, none⟩ = [.slice qU n cU, .slice qW m cW][j]? := s6.rd (by simp)
    simp -zeta (disch := omega) only [chkP_some, iteB_true, iteB_false, add_mk, Nat.zero_add, Nat.add_zero, Nat.mul_one, Nat.reduceAdd, Int.toNat_natCast, ex_int, ex_slice, ex_ptr, ex_bool, ex_str, ex_flt, ex_any, bnd_in, List.getElem?_cons_zero, List.getElem?_cons_succ, List.set_cons_zero, List.set_cons_succ, List.cons_append, List.nil_append, bne_self_eq_false, beq_self_eq_true, Bool.not_true, Bool.not_false, Option.isNone_some, Option.isNone_none, eq_self, true_and, and_true, and_self, rt6]
    refine callP3.self (POrder_of (up := up) (w := w) hup hw (by omega) (.old vU) (.old vW) s6 fun b7 h7 s7 => ?_)
    have rt7 : ∀ j, cell h7 ⟨t, j, none⟩ = [.slice qU n cU, .slice qW m cW][j]? := s7.rd (by simp)
    simp -zeta (disch := omega) only [chkP_some, iteB_true, iteB_false, add_mk, Nat.zero_add, Nat.add_zero, Nat.mul_one, Nat.reduceAdd, Int.toNat_natCast, ex_int, ex_slice, ex_ptr, ex_bool, ex_str, ex_flt, ex_any, bnd_in, List.getElem?_cons_zero, List.getElem?_cons_succ, List.set_cons_zero, List.set_cons_succ, List.cons_append, List.nil_append, bne_self_eq_false, beq_self_eq_true, Bool.not_true, Bool.not_false, Option.isNone_some, Option.isNone_none, eq_self, true_and, and_true, and_self, rt7]
    refine callP3.self (ROrder_of (up := up) (w := w) hup hw (by omega) (.old vU) (.old vW) s7 fun q8 c8 X8 h8 o8 s8 => ?_)
    have vP : valsAt h8 (some ⟨b7, 0, none⟩) (natV (ordP (depL up w))) := valsAt.row (s8.rows (b7, natV (ordP (depL up w))) (by simp)) (fun i v hi => by rw [Nat.zero_add]; exact hi)
    refine qcallP1.of true (fun Q hQ => Ints_of (by rw [← natV_ints]; exact vP) (by rw [← natV_ints]; exact o8.vals s8) (by simp [ordP, srt_len]) (by simp) (by have := depL_le up w; omega) (by rw [decide_eq_true rfl]; exact hQ)) ?_
    refine iteB_pos rfl ?_
    have rt8 : ∀ j, cell h8 ⟨t, j, none⟩ = [.slice qU n cU, .slice qW m cW][j]? := s8.rd (by simp)
    simp -zeta (disch := omega) only [chkP_some, iteB_true, iteB_false, add_mk, Nat.zero_add, Nat.add_zero, Nat.mul_one, Nat.reduceAdd, Int.toNat_natCast, ex_int, ex_slice, ex_ptr, ex_bool, ex_str, ex_flt, ex_any, bnd_in, List.getElem?_cons_zero, List.getElem?_cons_succ, List.set_cons_zero, List.set_cons_succ, List.cons_append, List.nil_append, bne_self_eq_false, beq_self_eq_true, Bool.not_true, Bool.not_false, Option.isNone_some, Option.isNone_none, eq_self, true_and, and_true, and_self, rt8]
    refine callP1.self (PSame_of (.old vU) (.old vW) (.old vU) (.old vW) hup.symm hw.symm hup.symm hw.symm (by unfold maxLen; omega) (by unfold maxLen; omega) s8 fun h9 s9 => ?_)
    refine iteB_pos (by simp) ?_
    exact callP1.self (awake_of s9 fun h10 s10 => hk h10 s10.ext)
end Go.Proofs.Ytfidcekobjmamaa
