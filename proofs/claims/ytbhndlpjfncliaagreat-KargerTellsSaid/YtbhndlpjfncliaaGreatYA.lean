/-
  Nets: the document's.
-/
import Derived.Test.YtbhndlpjfncliaaGreatY9
namespace Go.Proofs.YtbhndlpjfncliaaGreat
set_option linter.unusedVariables false
set_option linter.unusedSimpArgs false
set_option linter.unnecessarySimpa false
open Go.Hp Go.RowKit
attribute [local irreducible] Go.Hp.iteB Go.Hp.stC Go.Hp.newP

theorem chksE_two {n : Int} : ∀ {l : List Ed} {i : Nat}, (chksE n i l).1 = 0 → chksE n i l = (0, 0)
  | [], _, _ => rfl
  | x :: l, i, h => by
    unfold chksE at h ⊢
    by_cases c : chkE n x = 0
    · rw [if_neg (by simpa using c)] at h ⊢
      exact chksE_two h
    · rw [if_pos c] at h; exact absurd h c
section
variable {h0 : Base} {R : Rws}
theorem RNew_of {h : Heap} {nI : Int} {cl k : Nat} {q : Option Addr} {l : List Ed} {K : Int → Option Addr → Nat → Nat → Int → Int → Heap → Prop} (hl : l.length = k) (kl : Keeps h0 R q (eV l)) (s : St h0 h R)
    (ok : (newE nI l).1 = 0) (hk : ∀ q c X h', Own3 q c (netL l) X → St h0 h' (X ++ R) → K nI q (netL l).length c 0 0 h') : straitref16_New nI q k cl h K := by
  unfold straitref16_New
  obtain ⟨b1, b2, b3, ck⟩ := newE_ok ok
  have eN : newE nI l = chksE nI 0 l := by unfold newE; rw [if_neg (by omega), if_neg (by omega)]
  have e0 : chksE nI 0 l = (0, 0) := chksE_two (by rw [← eN]; exact ok)
  refine s.new_ fun a3 h1 s1 => iteB_neg (decide_eq_false (by omega)) ?_
  intro j
  refine iteB_neg (decide_eq_false (by omega)) ?_
  rw [decide_eq_false (show ¬ (k : Int) > 1048576 by omega)]
  simp -zeta only [j]
  clear j
  refine iteB_neg rfl (callP2.self (RChecks_of hl (by omega) kl.cons s1 fun h2 s2 => ?_))
  rw [e0]
  refine s2.new_ fun b h3 s3 => s3.st0 (by simp) fun h4 s4 => ?_
  rw [add_mk]
  refine s4.st0 (by simp) fun h5 s5 => ?_
  simp only [List.set_cons_zero, List.set_cons_succ, Nat.zero_add] at s5
  try simp -zeta (disch := omega) only [chkP_some, iteB_true, iteB_false, add_mk, Nat.zero_add, Nat.add_zero, Nat.mul_one, Nat.reduceAdd, Int.toNat_natCast, ex_int, ex_slice, ex_ptr, ex_bool, ex_str, ex_flt, ex_any, bnd_in, List.getElem?_cons_zero, List.getElem?_cons_succ, List.set_cons_zero, List.set_cons_succ, List.cons_append, List.nil_append, bne_self_eq_false, beq_self_eq_true, Bool.not_true, Bool.not_false, Option.isNone_some, Option.isNone_none, eq_self, true_and, and_true, and_self, s5.rd0]
  obtain ⟨n, rfl⟩ : ∃ n : Nat, nI = n := ⟨nI.toNat, by omega⟩
  obtain ⟨P, S, m1, m2, m3, m4, G⟩ := gr (n := n) ck (by omega)
  have eL : netL l = S.filter nz := by unfold netL; rw [m2]; rfl
  refine callP4.self (RMerge_of hl (by omega) ck.fit kl.cons.cons s5 (fun no => by rw [m2] at no; cases no) fun S' hS h6 q6 c6 X6 o6 s6 => ?_)
  rw [m2] at hS
  obtain rfl := Option.some.inj hS
  rw [eL] at hk
  have s7 : St h0 h6 ((a3, [.int .i64 0, .slice none 0 0, .int .i64 0, .int .i64 0]) :: (X6 ++ R)) := (St.re s6 (by intro a; simp only [cntR_append, cntR_cons, cntR_nil, List.cons_append, List.nil_append, List.set_cons_zero, List.set_cons_succ]; omega))
  refine s7.st0 (by simp) fun h7 s7 => ?_
  try simp -zeta only [add_mk, Nat.zero_add]
  refine s7.st0 (by simp) fun h8 s8 => s8.st0 (by simp) fun h9 s9 => s9.st0 (by simp) fun hA sA => ?_
  simp only [List.set_cons_zero, List.set_cons_succ, Nat.zero_add] at sA
  try simp -zeta (disch := omega) only [chkP_some, iteB_true, iteB_false, add_mk, Nat.zero_add, Nat.add_zero, Nat.mul_one, Nat.reduceAdd, Int.toNat_natCast, ex_int, ex_slice, ex_ptr, ex_bool, ex_str, ex_flt, ex_any, bnd_in, List.getElem?_cons_zero, List.getElem?_cons_succ, List.set_cons_zero, List.set_cons_succ, List.cons_append, List.nil_append, bne_self_eq_false, beq_self_eq_true, Bool.not_true, Bool.not_false, Option.isNone_some, Option.isNone_none, eq_self, true_and, and_true, and_self, sA.rd0]
  exact hk q6 c6 X6 hA o6 sA.tail
end
end Go.Proofs.YtbhndlpjfncliaaGreat
