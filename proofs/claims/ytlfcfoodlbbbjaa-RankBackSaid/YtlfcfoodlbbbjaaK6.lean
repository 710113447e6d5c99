/-
  Ranks: the inverse of a list.
-/
import Derived.Test.YtlfcfoodlbbbjaaK5
namespace Go.Proofs.Ytlfcfoodlbbbjaa
set_option linter.unusedVariables false
set_option linter.unusedSimpArgs false
set_option linter.unnecessarySimpa false
open Go.Hp Go.RowKit
attribute [local irreducible] Go.Hp.iteB Go.Hp.stC Go.Hp.newP

section
variable {h0 : Heap} {R : Rws}
theorem inv_l0 {K2 : Heap → Prop} {q : Option Addr} {n c b cc : Nat} (hn : n ≤ 2 ^ 20) (hk : ∀ h', St h0 h' ((b, ints n fun _ => -1) :: R) → K2 h') :
    ∀ (d i : Nat) (h : Heap), i + d = n → St h0 h ((b, ints n fun x => if x < i then -1 else 0) :: R) → rank_Inverse.l0 K2 (d + 1) q n c ⟨b, 0, none⟩ n cc (n : Int) (i : Int) h
  | 0, i, h, hi, s => by
    unfold rank_Inverse.l0 rank_Inverse.b0
    have hin : i = n := by omega
    subst hin
    rw [ints_congr (g := fun _ => -1) fun x hx => if_pos hx] at s
    exact iteB_neg (decide_eq_false (by omega)) (hk h s)
  | d + 1, i, h, hi, s => by
    unfold rank_Inverse.l0 rank_Inverse.b0
    refine iteB_pos (decide_eq_true (by omega)) ?_
    try simp -zeta (disch := omega) only [chkP_some, iteB_true, iteB_false, add_mk, Nat.zero_add, Nat.add_zero, Nat.mul_one, Nat.reduceAdd, Int.toNat_natCast, ex_int, ex_slice, ex_ptr, ex_bool, ex_str, ex_flt, ex_any, bnd_in, List.getElem?_cons_zero, List.getElem?_cons_succ, List.set_cons_zero, List.set_cons_succ, List.cons_append, List.nil_append, bne_self_eq_false, beq_self_eq_true, Bool.not_true, Bool.not_false, Option.isNone_some, Option.isNone_none, eq_self, true_and, and_true, and_self, s.rd0]
    refine s.st0 (by rw [ints_length]; omega) fun h2 s2 => ?_
    rw [ints_set, ints_congr (g := fun x => if x < i + 1 then -1 else 0) fun x hx => ?_] at s2
    · rw [wrap64 (by omega) (by omega)]
      exact inv_l0 hn hk d (i + 1) h2 (by omega) s2
    · unfold Hp.upd
      by_cases c : x = i
      · subst c; simp
      · rw [if_neg c]
        by_cases c2 : x < i
        · simp [c2, show x < i + 1 by omega]
        · simp [c2, show ¬ x < i + 1 by omega]

theorem Inverse_of {h : Heap} {n c : Nat} {q : Option Addr} {p : List Int} {K : Option Addr → Nat → Nat → Bool → Heap → Prop} (hl : p.length = n) (hn : n ≤ 2 ^ 20) (kq : Keeps h0 R q (p.map (Value.int .i64))) (s : St h0 h R)
    (hk0 : ¬ IsOrd p → ∀ h', St h0 h' R → K none 0 0 false h') (hk : IsOrd p → ∀ b h', St h0 h' ((b, ints n (invF p n)) :: R) → K (some ⟨b, 0, none⟩) n n true h') : rank_Inverse q n c h K := by
  unfold rank_Inverse
  refine ⟨⟨by omega, by omega, by omega, by omega⟩, ?_⟩
  rw [Int.toNat_natCast]
  refine s.new_ fun b h1 s1 => ?_
  rw [ints_zero] at s1
  refine ⟨n + 1, inv_l0 hn (fun h2 s2 => ?_) n 0 h1 (by omega) (by simpa using s1)⟩
  refine ⟨n + 1, inv_l1 hl hn kq hk0 (fun ho h3 s3 => hk ho b h3 s3) n 0 h2 (by omega) (by simp) (by simp) ?_⟩
  rw [ints_congr (g := invF p 0) fun x hx => by simp [invF]] at s2
  exact s2
end
end Go.Proofs.Ytlfcfoodlbbbjaa
