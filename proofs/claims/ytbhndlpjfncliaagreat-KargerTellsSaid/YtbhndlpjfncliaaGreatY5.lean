/-
  Edges, for a graph: checks, merging, the program's and the document's (turned from the edges' own texts).
-/
import Derived.Test.YtbhndlpjfncliaaGreatEE
namespace Go.Proofs.YtbhndlpjfncliaaGreat
set_option linter.unusedVariables false
set_option linter.unusedSimpArgs false
set_option linter.unnecessarySimpa false
open Go.Hp Go.RowKit
attribute [local irreducible] Go.Hp.iteB Go.Hp.stC Go.Hp.newP

def chkE (n : Int) (e : Ed) : Int := if e.1 < 0 ∨ e.1 ≥ n ∨ e.2.1 < 0 ∨ e.2.1 ≥ n then 4 else if e.2.2 < 0 ∨ e.2.2 > 2147483648 then 5 else 0
theorem chkE_4 {n : Int} {e : Ed} (c : e.1 < 0 ∨ e.1 ≥ n ∨ e.2.1 < 0 ∨ e.2.1 ≥ n) : chkE n e = 4 := if_pos c
theorem chkE_5 {n : Int} {e : Ed} (c : ¬ (e.1 < 0 ∨ e.1 ≥ n ∨ e.2.1 < 0 ∨ e.2.1 ≥ n)) (d : e.2.2 < 0 ∨ e.2.2 > 2147483648) : chkE n e = 5 := by unfold chkE; rw [if_neg c, if_pos d]
theorem chkE_0 {n : Int} {e : Ed} (c : ¬ (e.1 < 0 ∨ e.1 ≥ n ∨ e.2.1 < 0 ∨ e.2.1 ≥ n)) (d : ¬ (e.2.2 < 0 ∨ e.2.2 > 2147483648)) : chkE n e = 0 := by unfold chkE; rw [if_neg c, if_neg d]
/-- The first one that can't be. -/
def chksE (n : Int) : Nat → List Ed → Int × Int
  | _, [] => (0, 0)
  | i, e :: l => if chkE n e ≠ 0 then (chkE n e, (i : Int)) else chksE n (i + 1) l

section
variable {h0 : Base} {R : Rws}
theorem Check_of {h : Heap} {e : Ed} {n : Int} {K : Int → Heap → Prop} (s : St h0 h R) (hk : ∀ h', St h0 h' R → K (chkE n e) h') : edge_Check n e.1 e.2.1 e.2.2 h K := by
  obtain ⟨u, v, w⟩ := e
  unfold edge_Check
  refine s.new_ fun b1 h1 s1 => ?_
  try simp -zeta (disch := omega) only [chkP_some, iteB_true, iteB_false, add_mk, Nat.zero_add, Nat.add_zero, Nat.mul_one, Nat.reduceAdd, Int.toNat_natCast, ex_int, ex_slice, ex_ptr, ex_bool, ex_str, ex_flt, ex_any, bnd_in, List.getElem?_cons_zero, List.getElem?_cons_succ, List.set_cons_zero, List.set_cons_succ, List.cons_append, List.nil_append, bne_self_eq_false, beq_self_eq_true, Bool.not_true, Bool.not_false, Option.isNone_some, Option.isNone_none, eq_self, true_and, and_true, and_self, s1.rd0]
  refine ⟨3, ?_⟩
  have hk := hk h1 s1.tail
  have bad : ∀ (c : u < 0 ∨ u ≥ n ∨ v < 0 ∨ v ≥ n), K 4 h1 := fun c => by rw [chkE_4 c] at hk; exact hk
  unfold edge_Check.l0 edge_Check.b0
  refine iteB_pos rfl ⟨⟨by omega, by omega⟩, u, rfl, ?_⟩
  refine iteB_intro (fun c => bad (.inl (of_decide_eq_true c))) fun c1 => iteB_intro (fun c => bad (.inr (.inl (of_decide_eq_true c)))) fun c2 => ?_
  rw [wrap64 (by omega) (by omega)]
  unfold edge_Check.l0 edge_Check.b0
  refine iteB_pos rfl ⟨⟨by omega, by omega⟩, v, rfl, ?_⟩
  refine iteB_intro (fun c => bad (.inr (.inr (.inl (of_decide_eq_true c))))) fun c3 => iteB_intro (fun c => bad (.inr (.inr (.inr (of_decide_eq_true c))))) fun c4 => ?_
  rw [wrap64 (by omega) (by omega)]
  unfold edge_Check.l0 edge_Check.b0
  refine iteB_neg rfl ?_
  try simp -zeta (disch := omega) only [chkP_some, iteB_true, iteB_false, add_mk, Nat.zero_add, Nat.add_zero, Nat.mul_one, Nat.reduceAdd, Int.toNat_natCast, ex_int, ex_slice, ex_ptr, ex_bool, ex_str, ex_flt, ex_any, bnd_in, List.getElem?_cons_zero, List.getElem?_cons_succ, List.set_cons_zero, List.set_cons_succ, List.cons_append, List.nil_append, bne_self_eq_false, beq_self_eq_true, Bool.not_true, Bool.not_false, Option.isNone_some, Option.isNone_none, eq_self, true_and, and_true, and_self, s1.rd0]
  have c1 := of_decide_eq_false c1
  have c2 := of_decide_eq_false c2
  have c3 := of_decide_eq_false c3
  have c4 := of_decide_eq_false c4
  have c : ¬ (u < 0 ∨ u ≥ n ∨ v < 0 ∨ v ≥ n) := by omega
  refine iteB_intro (fun d => ?_) fun d1 => iteB_intro (fun d => ?_) fun d2 => ?_
  · rw [chkE_5 c (.inl (of_decide_eq_true d))] at hk; exact hk
  · rw [chkE_5 c (.inr (of_decide_eq_true d))] at hk; exact hk
  · have d1 := of_decide_eq_false d1
    have d2 := of_decide_eq_false d2
    rw [chkE_0 c (by simp only; omega)] at hk; exact hk
theorem RCheck_of {h : Heap} {e : Ed} {n : Int} {K : Int → Heap → Prop} (s : St h0 h R) (hk : ∀ h', St h0 h' R → K (chkE n e) h') : straitref15_Check n e.1 e.2.1 e.2.2 h K := by
  obtain ⟨u, v, w⟩ := e
  unfold straitref15_Check
  refine s.new_ fun b1 h1 s1 => ?_
  try simp -zeta (disch := omega) only [chkP_some, iteB_true, iteB_false, add_mk, Nat.zero_add, Nat.add_zero, Nat.mul_one, Nat.reduceAdd, Int.toNat_natCast, ex_int, ex_slice, ex_ptr, ex_bool, ex_str, ex_flt, ex_any, bnd_in, List.getElem?_cons_zero, List.getElem?_cons_succ, List.set_cons_zero, List.set_cons_succ, List.cons_append, List.nil_append, bne_self_eq_false, beq_self_eq_true, Bool.not_true, Bool.not_false, Option.isNone_some, Option.isNone_none, eq_self, true_and, and_true, and_self, s1.rd0]
  have hk := hk h1 s1.tail
  have bad : ∀ (c : u < 0 ∨ u ≥ n ∨ v < 0 ∨ v ≥ n), K 4 h1 := fun c => by rw [chkE_4 c] at hk; exact hk
  refine iteB_intro (fun c => bad (.inl (of_decide_eq_true c))) fun c1 => iteB_intro (fun c => bad (.inr (.inl (of_decide_eq_true c)))) fun c2 => ?_
  refine iteB_intro (fun c => bad (.inr (.inr (.inl (of_decide_eq_true c))))) fun c3 => iteB_intro (fun c => bad (.inr (.inr (.inr (of_decide_eq_true c))))) fun c4 => ?_
  have c1 := of_decide_eq_false c1
  have c2 := of_decide_eq_false c2
  have c3 := of_decide_eq_false c3
  have c4 := of_decide_eq_false c4
  have c : ¬ (u < 0 ∨ u ≥ n ∨ v < 0 ∨ v ≥ n) := by omega
  refine iteB_intro (fun d => ?_) fun d1 => iteB_intro (fun d => ?_) fun d2 => ?_
  · rw [chkE_5 c (.inl (of_decide_eq_true d))] at hk; exact hk
  · rw [chkE_5 c (.inr (of_decide_eq_true d))] at hk; exact hk
  · have d1 := of_decide_eq_false d1
    have d2 := of_decide_eq_false d2
    rw [chkE_0 c (by simp only; omega)] at hk; exact hk

theorem checks_l0 {K0 : Int → Int → Heap → Prop} {K2 : Heap → Prop} {n : Int} {k cl : Nat} {q : Option Addr} {l : List Ed} (hl : l.length = k) (hb : k < 2 ^ 40) (kl : Keeps h0 R q (eV l))
    (hk0 : ∀ h', (chksE n 0 l).1 ≠ 0 → St h0 h' R → K0 (chksE n 0 l).1 (chksE n 0 l).2 h') (hk2 : ∀ h', chksE n 0 l = (0, 0) → St h0 h' R → K2 h') :
    ∀ (d i : Nat) (h : Heap), i + d = k → chksE n i (l.drop i) = chksE n 0 l → St h0 h R → edge_Checks.l0 K0 K2 (d + 1) n q k cl (k : Int) (i : Int) h
  | 0, i, h, hi, he, s => by
    unfold edge_Checks.l0 edge_Checks.b0
    rw [List.drop_of_length_le (by omega)] at he
    exact iteB_neg (decide_eq_false (by omega)) (hk2 h he.symm s)
  | d + 1, i, h, hi, he, s => by
    unfold edge_Checks.l0 edge_Checks.b0
    obtain ⟨⟨u, v, w⟩, hx⟩ := get_lt (l := l) (i := i) (by omega)
    have vl := kl.at0 s
    refine iteB_pos (decide_eq_true (by omega)) ?_
    simp -zeta (disch := omega) only [chkP_some, iteB_true, iteB_false, add_mk, Nat.zero_add, Nat.add_zero, Nat.mul_one, Nat.reduceAdd, Int.toNat_natCast, ex_int, ex_slice, ex_ptr, ex_bool, ex_str, ex_flt, ex_any, bnd_in, List.getElem?_cons_zero, List.getElem?_cons_succ, List.set_cons_zero, List.set_cons_succ, List.cons_append, List.nil_append, bne_self_eq_false, beq_self_eq_true, Bool.not_true, Bool.not_false, Option.isNone_some, Option.isNone_none, eq_self, true_and, and_true, and_self, vals_edge vl hx]
    refine s.new_ fun b1 h1 s1 => s1.st0 (by simp) fun h2 s2 => s2.st0 (by simp) fun h3 s3 => s3.st0 (by simp) fun h4 s4 => ?_
    try simp -zeta (disch := omega) only [chkP_some, iteB_true, iteB_false, add_mk, Nat.zero_add, Nat.add_zero, Nat.mul_one, Nat.reduceAdd, Int.toNat_natCast, ex_int, ex_slice, ex_ptr, ex_bool, ex_str, ex_flt, ex_any, bnd_in, List.getElem?_cons_zero, List.getElem?_cons_succ, List.set_cons_zero, List.set_cons_succ, List.cons_append, List.nil_append, bne_self_eq_false, beq_self_eq_true, Bool.not_true, Bool.not_false, Option.isNone_some, Option.isNone_none, eq_self, true_and, and_true, and_self, s4.rd0]
    refine callP1.self (Check_of (e := (u, v, w)) s4 fun h5 s5 => ?_)
    rw [drop_cons hx] at he
    by_cases c : chkE n (u, v, w) = 0
    · rw [c]
      rw [show chksE n i ((u, v, w) :: l.drop (i + 1)) = chksE n (i + 1) (l.drop (i + 1)) by simp [chksE, c]] at he
      refine iteB_neg rfl ?_
      rw [wrap64 (by omega) (by omega)]
      exact checks_l0 hl hb kl hk0 hk2 d (i + 1) h5 (by omega) he s5.tail
    · rw [show chksE n i ((u, v, w) :: l.drop (i + 1)) = (chkE n (u, v, w), (i : Int)) by simp [chksE, c]] at he
      refine iteB_pos (by simpa using c) ?_
      have := hk0 h5 (by rw [← he]; exact c) s5.tail
      rw [← he] at this; exact this
theorem Checks_of {h : Heap} {n : Int} {k cl : Nat} {q : Option Addr} {l : List Ed} {K : Int → Int → Heap → Prop} (hl : l.length = k) (hb : k < 2 ^ 40) (kl : Keeps h0 R q (eV l)) (s : St h0 h R)
    (hk : ∀ h', St h0 h' R → K (chksE n 0 l).1 (chksE n 0 l).2 h') : edge_Checks n q k cl h K := by
  unfold edge_Checks
  exact ⟨k + 1, checks_l0 hl hb kl (fun h' _ s => hk h' s) (fun h' e s => by have := hk h' s; rw [e] at this; exact this) k 0 h (by omega) rfl s⟩

theorem rchecks_l0 {K0 : Heap → Prop} {K2 : Heap → Prop} {n : Int} {b k cl : Nat} {q : Option Addr} {l : List Ed} (hl : l.length = k) (hb : k < 2 ^ 40) (kl : Keeps h0 R q (eV l))
    (hk0 : ∀ h', (chksE n 0 l).1 ≠ 0 → St h0 h' ((b, [.int .i64 (chksE n 0 l).1, .int .i64 (chksE n 0 l).2]) :: R) → K0 h') (hk2 : ∀ h', chksE n 0 l = (0, 0) → St h0 h' ((b, [.int .i64 0, .int .i64 0]) :: R) → K2 h') :
    ∀ (d i : Nat) (h : Heap), i + d = k → chksE n i (l.drop i) = chksE n 0 l → St h0 h ((b, [.int .i64 0, .int .i64 0]) :: R) → straitref15_Checks.l0 K0 K2 (d + 1) n q k cl ⟨b, 0, none⟩ (i : Int) h
  | 0, i, h, hi, he, s => by
    unfold straitref15_Checks.l0 straitref15_Checks.b0
    rw [List.drop_of_length_le (by omega)] at he
    exact iteB_neg (decide_eq_false (by omega)) (hk2 h he.symm s)
  | d + 1, i, h, hi, he, s => by
    unfold straitref15_Checks.l0 straitref15_Checks.b0
    obtain ⟨⟨u, v, w⟩, hx⟩ := get_lt (l := l) (i := i) (by omega)
    have vl := kl.atC s
    refine iteB_pos (decide_eq_true (by omega)) ?_
    simp -zeta (disch := omega) only [chkP_some, iteB_true, iteB_false, add_mk, Nat.zero_add, Nat.add_zero, Nat.mul_one, Nat.reduceAdd, Int.toNat_natCast, ex_int, ex_slice, ex_ptr, ex_bool, ex_str, ex_flt, ex_any, bnd_in, List.getElem?_cons_zero, List.getElem?_cons_succ, List.set_cons_zero, List.set_cons_succ, List.cons_append, List.nil_append, bne_self_eq_false, beq_self_eq_true, Bool.not_true, Bool.not_false, Option.isNone_some, Option.isNone_none, eq_self, true_and, and_true, and_self, vals_edge vl hx]
    refine callP1.self (RCheck_of (e := (u, v, w)) s fun h5 s5 => ?_)
    rw [drop_cons hx] at he
    by_cases c : chkE n (u, v, w) = 0
    · rw [c]
      rw [show chksE n i ((u, v, w) :: l.drop (i + 1)) = chksE n (i + 1) (l.drop (i + 1)) by simp [chksE, c]] at he
      refine iteB_neg rfl ?_
      rw [wrap64 (by omega) (by omega)]
      exact rchecks_l0 hl hb kl hk0 hk2 d (i + 1) h5 (by omega) he s5
    · rw [show chksE n i ((u, v, w) :: l.drop (i + 1)) = (chkE n (u, v, w), (i : Int)) by simp [chksE, c]] at he
      refine iteB_pos (by simpa using c) (s5.st0 (by simp) fun h6 s6 => ?_)
      try simp -zeta (disch := omega) only [chkP_some, iteB_true, iteB_false, add_mk, Nat.zero_add, Nat.add_zero, Nat.mul_one, Nat.reduceAdd, Int.toNat_natCast, ex_int, ex_slice, ex_ptr, ex_bool, ex_str, ex_flt, ex_any, bnd_in, List.getElem?_cons_zero, List.getElem?_cons_succ, List.set_cons_zero, List.set_cons_succ, List.cons_append, List.nil_append, bne_self_eq_false, beq_self_eq_true, Bool.not_true, Bool.not_false, Option.isNone_some, Option.isNone_none, eq_self, true_and, and_true, and_self, s6.rd0]
      refine s6.st0 (by simp) fun h7 s7 => ?_
      refine hk0 h7 (by rw [← he]; exact c) ?_
      rw [← he]; exact s7
theorem RChecks_of {h : Heap} {n : Int} {k cl : Nat} {q : Option Addr} {l : List Ed} {K : Int → Int → Heap → Prop} (hl : l.length = k) (hb : k < 2 ^ 40) (kl : Keeps h0 R q (eV l)) (s : St h0 h R)
    (hk : ∀ h', St h0 h' R → K (chksE n 0 l).1 (chksE n 0 l).2 h') : straitref15_Checks n q k cl h K := by
  unfold straitref15_Checks
  refine s.new_ fun b h1 s1 => ⟨k + 1, rchecks_l0 hl hb kl (fun h' _ s => ?_) (fun h' e s => ?_) k 0 h1 (by omega) rfl s1⟩
  · try simp -zeta (disch := omega) only [chkP_some, iteB_true, iteB_false, add_mk, Nat.zero_add, Nat.add_zero, Nat.mul_one, Nat.reduceAdd, Int.toNat_natCast, ex_int, ex_slice, ex_ptr, ex_bool, ex_str, ex_flt, ex_any, bnd_in, List.getElem?_cons_zero, List.getElem?_cons_succ, List.set_cons_zero, List.set_cons_succ, List.cons_append, List.nil_append, bne_self_eq_false, beq_self_eq_true, Bool.not_true, Bool.not_false, Option.isNone_some, Option.isNone_none, eq_self, true_and, and_true, and_self, s.rd0]
    exact hk h' s.tail
  · refine s.st0 (by simp) fun h6 s6 => ?_
    try simp -zeta (disch := omega) only [chkP_some, iteB_true, iteB_false, add_mk, Nat.zero_add, Nat.add_zero, Nat.mul_one, Nat.reduceAdd, Int.toNat_natCast, ex_int, ex_slice, ex_ptr, ex_bool, ex_str, ex_flt, ex_any, bnd_in, List.getElem?_cons_zero, List.getElem?_cons_succ, List.set_cons_zero, List.set_cons_succ, List.cons_append, List.nil_append, bne_self_eq_false, beq_self_eq_true, Bool.not_true, Bool.not_false, Option.isNone_some, Option.isNone_none, eq_self, true_and, and_true, and_self, s6.rd0]
    refine s6.st0 (by simp) fun h7 s7 => ?_
    try simp -zeta (disch := omega) only [chkP_some, iteB_true, iteB_false, add_mk, Nat.zero_add, Nat.add_zero, Nat.mul_one, Nat.reduceAdd, Int.toNat_natCast, ex_int, ex_slice, ex_ptr, ex_bool, ex_str, ex_flt, ex_any, bnd_in, List.getElem?_cons_zero, List.getElem?_cons_succ, List.set_cons_zero, List.set_cons_succ, List.cons_append, List.nil_append, bne_self_eq_false, beq_self_eq_true, Bool.not_true, Bool.not_false, Option.isNone_some, Option.isNone_none, eq_self, true_and, and_true, and_self, s7.rd0]
    have := hk h7 s7.tail; rw [e] at this; exact this

theorem RNormal_of {h : Heap} {e : Ed} {K : Int → Int → Int → Heap → Prop} (s : St h0 h R) (hk : ∀ h', St h0 h' R → K (normE e).1 (normE e).2.1 (normE e).2.2 h') : straitref15_Normal e.1 e.2.1 e.2.2 h K := by
  obtain ⟨u, v, w⟩ := e
  unfold straitref15_Normal
  refine s.new_ fun b1 h1 s1 => s1.new_ fun b2 h2 s2 => ?_
  try simp -zeta (disch := omega) only [chkP_some, iteB_true, iteB_false, add_mk, Nat.zero_add, Nat.add_zero, Nat.mul_one, Nat.reduceAdd, Int.toNat_natCast, ex_int, ex_slice, ex_ptr, ex_bool, ex_str, ex_flt, ex_any, bnd_in, List.getElem?_cons_zero, List.getElem?_cons_succ, List.set_cons_zero, List.set_cons_succ, List.cons_append, List.nil_append, bne_self_eq_false, beq_self_eq_true, Bool.not_true, Bool.not_false, Option.isNone_some, Option.isNone_none, eq_self, true_and, and_true, and_self, s2.rd0, s2.rd1]
  refine iteB_intro (fun e => ?_) (fun e => ?_)
  · have e := of_decide_eq_true e
    try simp -zeta (disch := omega) only [chkP_some, iteB_true, iteB_false, add_mk, Nat.zero_add, Nat.add_zero, Nat.mul_one, Nat.reduceAdd, Int.toNat_natCast, ex_int, ex_slice, ex_ptr, ex_bool, ex_str, ex_flt, ex_any, bnd_in, List.getElem?_cons_zero, List.getElem?_cons_succ, List.set_cons_zero, List.set_cons_succ, List.cons_append, List.nil_append, bne_self_eq_false, beq_self_eq_true, Bool.not_true, Bool.not_false, Option.isNone_some, Option.isNone_none, eq_self, true_and, and_true, and_self, s2.rd0, s2.rd1]
    refine s2.st0 (by simp) fun h3 s3 => ?_
    try simp -zeta (disch := omega) only [chkP_some, iteB_true, iteB_false, add_mk, Nat.zero_add, Nat.add_zero, Nat.mul_one, Nat.reduceAdd, Int.toNat_natCast, ex_int, ex_slice, ex_ptr, ex_bool, ex_str, ex_flt, ex_any, bnd_in, List.getElem?_cons_zero, List.getElem?_cons_succ, List.set_cons_zero, List.set_cons_succ, List.cons_append, List.nil_append, bne_self_eq_false, beq_self_eq_true, Bool.not_true, Bool.not_false, Option.isNone_some, Option.isNone_none, eq_self, true_and, and_true, and_self, s3.rd0, s3.rd1]
    refine s3.st0 (by simp) fun h4 s4 => ?_
    try simp -zeta (disch := omega) only [chkP_some, iteB_true, iteB_false, add_mk, Nat.zero_add, Nat.add_zero, Nat.mul_one, Nat.reduceAdd, Int.toNat_natCast, ex_int, ex_slice, ex_ptr, ex_bool, ex_str, ex_flt, ex_any, bnd_in, List.getElem?_cons_zero, List.getElem?_cons_succ, List.set_cons_zero, List.set_cons_succ, List.cons_append, List.nil_append, bne_self_eq_false, beq_self_eq_true, Bool.not_true, Bool.not_false, Option.isNone_some, Option.isNone_none, eq_self, true_and, and_true, and_self, s4.rd0, s4.rd1]
    refine s4.st0 (by simp) fun h5 s5 => ?_
    try simp -zeta (disch := omega) only [chkP_some, iteB_true, iteB_false, add_mk, Nat.zero_add, Nat.add_zero, Nat.mul_one, Nat.reduceAdd, Int.toNat_natCast, ex_int, ex_slice, ex_ptr, ex_bool, ex_str, ex_flt, ex_any, bnd_in, List.getElem?_cons_zero, List.getElem?_cons_succ, List.set_cons_zero, List.set_cons_succ, List.cons_append, List.nil_append, bne_self_eq_false, beq_self_eq_true, Bool.not_true, Bool.not_false, Option.isNone_some, Option.isNone_none, eq_self, true_and, and_true, and_self, s5.rd0, s5.rd1]
    have := hk h5 s5.tail.tail
    rw [normE_pos e] at this; exact this
  · have e := of_decide_eq_false e
    try simp -zeta (disch := omega) only [chkP_some, iteB_true, iteB_false, add_mk, Nat.zero_add, Nat.add_zero, Nat.mul_one, Nat.reduceAdd, Int.toNat_natCast, ex_int, ex_slice, ex_ptr, ex_bool, ex_str, ex_flt, ex_any, bnd_in, List.getElem?_cons_zero, List.getElem?_cons_succ, List.set_cons_zero, List.set_cons_succ, List.cons_append, List.nil_append, bne_self_eq_false, beq_self_eq_true, Bool.not_true, Bool.not_false, Option.isNone_some, Option.isNone_none, eq_self, true_and, and_true, and_self, s2.rd0, s2.rd1]
    refine s2.st0 (by simp) fun h3 s3 => ?_
    try simp -zeta (disch := omega) only [chkP_some, iteB_true, iteB_false, add_mk, Nat.zero_add, Nat.add_zero, Nat.mul_one, Nat.reduceAdd, Int.toNat_natCast, ex_int, ex_slice, ex_ptr, ex_bool, ex_str, ex_flt, ex_any, bnd_in, List.getElem?_cons_zero, List.getElem?_cons_succ, List.set_cons_zero, List.set_cons_succ, List.cons_append, List.nil_append, bne_self_eq_false, beq_self_eq_true, Bool.not_true, Bool.not_false, Option.isNone_some, Option.isNone_none, eq_self, true_and, and_true, and_self, s3.rd0, s3.rd1]
    refine s3.st0 (by simp) fun h4 s4 => ?_
    try simp -zeta (disch := omega) only [chkP_some, iteB_true, iteB_false, add_mk, Nat.zero_add, Nat.add_zero, Nat.mul_one, Nat.reduceAdd, Int.toNat_natCast, ex_int, ex_slice, ex_ptr, ex_bool, ex_str, ex_flt, ex_any, bnd_in, List.getElem?_cons_zero, List.getElem?_cons_succ, List.set_cons_zero, List.set_cons_succ, List.cons_append, List.nil_append, bne_self_eq_false, beq_self_eq_true, Bool.not_true, Bool.not_false, Option.isNone_some, Option.isNone_none, eq_self, true_and, and_true, and_self, s4.rd0, s4.rd1]
    refine s4.st0 (by simp) fun h5 s5 => ?_
    try simp -zeta (disch := omega) only [chkP_some, iteB_true, iteB_false, add_mk, Nat.zero_add, Nat.add_zero, Nat.mul_one, Nat.reduceAdd, Int.toNat_natCast, ex_int, ex_slice, ex_ptr, ex_bool, ex_str, ex_flt, ex_any, bnd_in, List.getElem?_cons_zero, List.getElem?_cons_succ, List.set_cons_zero, List.set_cons_succ, List.cons_append, List.nil_append, bne_self_eq_false, beq_self_eq_true, Bool.not_true, Bool.not_false, Option.isNone_some, Option.isNone_none, eq_self, true_and, and_true, and_self, s5.rd0, s5.rd1]
    have := hk h5 s5.tail.tail
    rw [normE_neg e] at this; exact this

theorem cfI_lt {x y : Int} (h : x < y) : cfI x y = -1 := if_pos h
theorem cfI_gt {x y : Int} (h : x > y) : cfI x y = 1 := by unfold cfI; rw [if_neg (by omega), if_pos h]
end
section
variable {h0 : Base} {R : Rws}
theorem ref_Add_of {a b : Int} {h : Heap} {K : Int → Bool → Heap → Prop} (ha : fits a) (hb : fits b) (s : St h0 h R) (hk : ∀ h', St h0 h' R → K (addR a b).1 (addR a b).2 h') : straitref01_Add a b h K := by
  unfold straitref01_Add
  refine s.new_ fun c h1 s1 => ?_
  intro j
  have J : ∀ y, y = !decide (fits (a + b)) → j (IntKind.i64.wrap (a + b)) y := by
    intro y hy
    simp -zeta only [j]
    subst hy
    by_cases hf : fits (a + b)
    · refine iteB_neg (by simp [hf]) (s1.st0 (by simp) fun h2 s2 => ?_)
      try simp -zeta (disch := omega) only [chkP_some, iteB_true, iteB_false, add_mk, Nat.zero_add, Nat.add_zero, Nat.mul_one, Nat.reduceAdd, Int.toNat_natCast, ex_int, ex_slice, ex_ptr, ex_bool, ex_str, ex_flt, ex_any, bnd_in, List.getElem?_cons_zero, List.getElem?_cons_succ, List.set_cons_zero, List.set_cons_succ, List.cons_append, List.nil_append, bne_self_eq_false, beq_self_eq_true, Bool.not_true, Bool.not_false, Option.isNone_some, Option.isNone_none, eq_self, true_and, and_true, and_self, s2.rd0]
      refine s2.st0 (by simp) fun h3 s3 => ?_
      try simp -zeta (disch := omega) only [chkP_some, iteB_true, iteB_false, add_mk, Nat.zero_add, Nat.add_zero, Nat.mul_one, Nat.reduceAdd, Int.toNat_natCast, ex_int, ex_slice, ex_ptr, ex_bool, ex_str, ex_flt, ex_any, bnd_in, List.getElem?_cons_zero, List.getElem?_cons_succ, List.set_cons_zero, List.set_cons_succ, List.cons_append, List.nil_append, bne_self_eq_false, beq_self_eq_true, Bool.not_true, Bool.not_false, Option.isNone_some, Option.isNone_none, eq_self, true_and, and_true, and_self, s3.rd0]
      have := hk h3 s3.tail
      unfold addR at this; rw [if_pos hf] at this
      unfold fits at hf
      rw [wrap64 (by omega) (by omega)]; exact this
    · refine iteB_pos (by simp [hf]) (s1.st0 (by simp) fun h2 s2 => ?_)
      try simp -zeta (disch := omega) only [chkP_some, iteB_true, iteB_false, add_mk, Nat.zero_add, Nat.add_zero, Nat.mul_one, Nat.reduceAdd, Int.toNat_natCast, ex_int, ex_slice, ex_ptr, ex_bool, ex_str, ex_flt, ex_any, bnd_in, List.getElem?_cons_zero, List.getElem?_cons_succ, List.set_cons_zero, List.set_cons_succ, List.cons_append, List.nil_append, bne_self_eq_false, beq_self_eq_true, Bool.not_true, Bool.not_false, Option.isNone_some, Option.isNone_none, eq_self, true_and, and_true, and_self, s2.rd0]
      refine s2.st0 (by simp) fun h3 s3 => ?_
      try simp -zeta (disch := omega) only [chkP_some, iteB_true, iteB_false, add_mk, Nat.zero_add, Nat.add_zero, Nat.mul_one, Nat.reduceAdd, Int.toNat_natCast, ex_int, ex_slice, ex_ptr, ex_bool, ex_str, ex_flt, ex_any, bnd_in, List.getElem?_cons_zero, List.getElem?_cons_succ, List.set_cons_zero, List.set_cons_succ, List.cons_append, List.nil_append, bne_self_eq_false, beq_self_eq_true, Bool.not_true, Bool.not_false, Option.isNone_some, Option.isNone_none, eq_self, true_and, and_true, and_self, s3.rd0]
      have := hk h3 s3.tail
      unfold addR at this; rw [if_neg hf] at this
      exact this
  clear_value j
  have t : ∀ y : Bool, ((y = true) ↔ ¬ fits (a + b)) → y = !decide (fits (a + b)) := fun y h => by
    cases y
    · have : fits (a + b) := Decidable.not_not.1 (fun c => by simpa using h.2 c)
      simp [this]
    · simp [h.1 rfl]
  unfold fits at ha hb
  have e := wrap_i64_eq (a + b)
  refine iteB_intro (fun h1 => iteB_intro (fun h2 => J _ (t _ ?_)) (fun h2 => iteB_intro (fun h3 => ?_) (fun h3 => J _ (t _ ?_)))) (fun h1 => iteB_intro (fun h2 => J _ (t _ ?_)) (fun h2 => ?_))
  all_goals simp only [decide_eq_true_eq, decide_eq_false_iff_not] at *
  all_goals first | omega | (unfold fits; omega) | (unfold fits; simp only [Bool.false_eq_true, false_iff]; omega) | (unfold fits; simp only [true_iff]; omega)

end
section
variable {h0 : Base} {R : Rws}
def gtK (x e : Ed) : Prop := x.1 > e.1 ∨ (x.1 = e.1 ∧ x.2.1 > e.2.1)
instance (x e : Ed) : Decidable (gtK x e) := by unfold gtK; exact inferInstance
def addD (e : Ed) : Bool → List Ed → Option (List Ed)
  | d, [] => some (if d then [] else [e])
  | d, x :: r => if sameK x e then (if fits (x.2.2 + e.2.2) then (addD e true r).map ((x.1, x.2.1, x.2.2 + e.2.2) :: ·) else none)
    else if d = false ∧ gtK x e then (addD e true r).map (fun t => e :: x :: t) else (addD e d r).map (x :: ·)
theorem addD_cons (e : Ed) (d : Bool) (x : Ed) (r : List Ed) : addD e d (x :: r) = if sameK x e then (if fits (x.2.2 + e.2.2) then (addD e true r).map ((x.1, x.2.1, x.2.2 + e.2.2) :: ·) else none)
    else if d = false ∧ gtK x e then (addD e true r).map (fun t => e :: x :: t) else (addD e d r).map (x :: ·) := rfl

theorem radd_l0 {K0 : Heap → Prop} {K2 : Option Addr → Nat → Nat → Bool → Heap → Prop} {b3 b4 k cl : Nat} {q : Option Addr} {l : List Ed} {eu ev ew : Int} (hl : l.length = k) (hb : k < 2 ^ 30) (hw : fitsL l) (he : fits ew) (kl : Keeps h0 R q (eV l))
    (hk0 : addD (eu, ev, ew) false l = none → ∀ h' X, St h0 h' (X ++ (b4, [.slice none 0 0, .bool false]) :: R) → K0 h')
    (hk2 : ∀ h' q' c' X A dn, addD (eu, ev, ew) false l = some (if dn then A else A ++ [(eu, ev, ew)]) → A.length < 2 ^ 31 → Own3 q' c' A X → St h0 h' (X ++ (b4, [.slice none 0 0, .bool false]) :: (b3, [.int .i64 eu, .int .i64 ev, .int .i64 ew]) :: R) → K2 q' A.length c' dn h') :
    ∀ (d i : Nat) (h : Heap) (A : List Ed) (q' : Option Addr) (c' : Nat) (X : Rws) (dn : Bool), i + d = k → A.length ≤ 2 * i → (addD (eu, ev, ew) dn (l.drop i)).map (A ++ ·) = addD (eu, ev, ew) false l → Own3 q' c' A X → St h0 h (X ++ (b4, [.slice none 0 0, .bool false]) :: (b3, [.int .i64 eu, .int .i64 ev, .int .i64 ew]) :: R) →
      straitref15_add.l0 K0 K2 (d + 1) q k cl ⟨b3, 0, none⟩ ⟨b4, 0, none⟩ q' A.length c' dn (i : Int) h
  | 0, i, h, A, q', c', X, dn, hi, hA, hD, o, s => by
    unfold straitref15_add.l0 straitref15_add.b0
    rw [List.drop_of_length_le (by omega)] at hD
    refine iteB_neg (decide_eq_false (by omega)) (hk2 h q' c' X A dn ?_ (by omega) o s)
    rw [← hD]
    cases dn <;> simp [addD]
  | d + 1, i, h, A, q', c', X, dn, hi, hA, hD, o, s => by
    unfold straitref15_add.l0 straitref15_add.b0
    obtain ⟨⟨u, v, w⟩, hx⟩ := get_lt (l := l) (i := i) (by omega)
    have hwx : fits w := hw _ (List.mem_of_getElem? hx)
    have vl : valsAt h q (eV l) := ((kl.cons (y := (b3, _))).cons (y := (b4, _))).at1 s
    rw [drop_cons hx, addD_cons] at hD
    refine iteB_pos (decide_eq_true (by omega)) ?_
    simp -zeta (disch := omega) only [chkP_some, Int.toNat_natCast, bnd_in, vals_edge vl hx]
    refine s.new_ fun b1 h1 s1 => ?_
    simp -zeta only [add_mk, Nat.zero_add]
    refine s1.st0 (by simp) fun h2 s2 => s2.st0 (by simp) fun h3 s3 => s3.st0 (by simp) fun h4 s4 => ?_
    have s4 : St h0 h4 (X ++ (b1, [.int .i64 u, .int .i64 v, .int .i64 w]) :: (b4, [.slice none 0 0, .bool false]) :: (b3, [.int .i64 eu, .int .i64 ev, .int .i64 ew]) :: R) := s4.perm List.perm_middle.symm
    have rx : ∀ j, cell h4 ⟨b1, j, none⟩ = [Value.int .i64 u, .int .i64 v, .int .i64 w][j]? := s4.rd (by simp)
    have re : ∀ j, cell h4 ⟨b3, j, none⟩ = [Value.int .i64 eu, .int .i64 ev, .int .i64 ew][j]? := s4.rd (by simp)
    intro j
    have J : ∀ (h5 : Heap) (A2 : List Ed) (q2 : Option Addr) (c2 : Nat) (Y : Rws) (dn2 : Bool) (w2 : Int), A2.length ≤ 2 * i + 1 → Own3 q2 c2 A2 Y → St h0 h5 (Y ++ (b1, [.int .i64 u, .int .i64 v, .int .i64 w2]) :: (b4, [.slice none 0 0, .bool false]) :: (b3, [.int .i64 eu, .int .i64 ev, .int .i64 ew]) :: R) →
        (addD (eu, ev, ew) dn2 (l.drop (i + 1))).map (fun t => A2 ++ (u, v, w2) :: t) = addD (eu, ev, ew) false l → j q2 A2.length c2 dn2 h5 := fun h5 A2 q2 c2 Y dn2 w2 hA2 o2 s5 hD2 => by
      simp -zeta only [j]
      have rx : ∀ j, cell h5 ⟨b1, j, none⟩ = [Value.int .i64 u, .int .i64 v, .int .i64 w2][j]? := s5.rd (by simp)
      simp -zeta (disch := omega) only [chkP_some, iteB_true, iteB_false, add_mk, Nat.zero_add, Nat.add_zero, Nat.mul_one, Nat.reduceAdd, Int.toNat_natCast, ex_int, ex_slice, ex_ptr, ex_bool, ex_str, ex_flt, ex_any, bnd_in, List.getElem?_cons_zero, List.getElem?_cons_succ, List.set_cons_zero, List.set_cons_succ, List.cons_append, List.nil_append, bne_self_eq_false, beq_self_eq_true, Bool.not_true, Bool.not_false, Option.isNone_some, Option.isNone_none, eq_self, true_and, and_true, and_self, rx]
      refine Own3.push1 o2 s5 rfl (by omega) fun q3 c3 X3 h6 o3 s6 => ?_
      rw [wrap64 (by omega) (by omega)]
      have := radd_l0 (cl := cl) hl hb hw he kl hk0 hk2 d (i + 1) h6 (A2 ++ [(u, v, w2)]) q3 c3 X3 dn2 (by omega) (by simp; omega) (by rw [← hD2]; congr 1; funext t; simp) o3 ((St.re s6 (by intro a; simp only [cntR_append, cntR_cons, cntR_nil, List.cons_append, List.nil_append, List.set_cons_zero, List.set_cons_succ]; omega)))
      simpa using this
    clear_value j
    intro j2
    have J2t : u = eu → v = ev → j2 true := fun e1 e2 => by
      subst e1 e2
      rw [if_pos ⟨rfl, rfl⟩] at hD
      simp only at hD
      simp -zeta only [j2]
      simp -zeta (disch := omega) only [chkP_some, iteB_true, iteB_false, add_mk, Nat.zero_add, Nat.add_zero, Nat.mul_one, Nat.reduceAdd, Int.toNat_natCast, ex_int, ex_slice, ex_ptr, ex_bool, ex_str, ex_flt, ex_any, bnd_in, List.getElem?_cons_zero, List.getElem?_cons_succ, List.set_cons_zero, List.set_cons_succ, List.cons_append, List.nil_append, bne_self_eq_false, beq_self_eq_true, Bool.not_true, Bool.not_false, Option.isNone_some, Option.isNone_none, eq_self, true_and, and_true, and_self, rx, re]
      refine callP2.self (ref_Add_of hwx he s4 fun h5 s5 => s5.new_ fun b5 h6 s6 => ?_)
      simp -zeta only [chkP_some, iteB_true, iteB_false, add_mk, Nat.zero_add, Nat.add_zero, Nat.mul_one, Nat.reduceAdd, Int.toNat_natCast, ex_int, ex_slice, ex_ptr, ex_bool, ex_str, ex_flt, ex_any, bnd_in, List.getElem?_cons_zero, List.getElem?_cons_succ, List.set_cons_zero, List.set_cons_succ, List.cons_append, List.nil_append, bne_self_eq_false, beq_self_eq_true, Bool.not_true, Bool.not_false, Option.isNone_some, Option.isNone_none, eq_self, true_and, and_true, and_self]
      refine s6.st0 (by simp) fun h7 s7 => s7.st0 (by simp) fun h8 s8 => ?_
      simp -zeta (disch := omega) only [chkP_some, iteB_true, iteB_false, add_mk, Nat.zero_add, Nat.add_zero, Nat.mul_one, Nat.reduceAdd, Int.toNat_natCast, ex_int, ex_slice, ex_ptr, ex_bool, ex_str, ex_flt, ex_any, bnd_in, List.getElem?_cons_zero, List.getElem?_cons_succ, List.set_cons_zero, List.set_cons_succ, List.cons_append, List.nil_append, bne_self_eq_false, beq_self_eq_true, Bool.not_true, Bool.not_false, Option.isNone_some, Option.isNone_none, eq_self, true_and, and_true, and_self, s8.rd0]
      unfold addR at s8 ⊢
      by_cases hf : fits (w + ew)
      · rw [if_pos hf] at hD s8 ⊢
        simp -zeta (disch := omega) only [chkP_some, iteB_true, iteB_false, add_mk, Nat.zero_add, Nat.add_zero, Nat.mul_one, Nat.reduceAdd, Int.toNat_natCast, ex_int, ex_slice, ex_ptr, ex_bool, ex_str, ex_flt, ex_any, bnd_in, List.getElem?_cons_zero, List.getElem?_cons_succ, List.set_cons_zero, List.set_cons_succ, List.cons_append, List.nil_append, bne_self_eq_false, beq_self_eq_true, Bool.not_true, Bool.not_false, Option.isNone_some, Option.isNone_none, eq_self, true_and, and_true, and_self]
        have s8 := s8.tail
        refine St.st s8 (by simp) fun h9 s9 => ?_
        refine J h9 A q' c' X true (w + ew) (by omega) o s9 ?_
        rw [← hD, Option.map_map]; rfl
      · rw [if_neg hf] at hD s8 ⊢
        simp -zeta (disch := omega) only [chkP_some, iteB_true, iteB_false, add_mk, Nat.zero_add, Nat.add_zero, Nat.mul_one, Nat.reduceAdd, Int.toNat_natCast, ex_int, ex_slice, ex_ptr, ex_bool, ex_str, ex_flt, ex_any, bnd_in, List.getElem?_cons_zero, List.getElem?_cons_succ, List.set_cons_zero, List.set_cons_succ, List.cons_append, List.nil_append, bne_self_eq_false, beq_self_eq_true, Bool.not_true, Bool.not_false, Option.isNone_some, Option.isNone_none, eq_self, true_and, and_true, and_self]
        have s8 := s8.tail
        have s8 : St h0 h8 ((X ++ [(b1, [.int .i64 u, .int .i64 v, .int .i64 w])]) ++ (b4, [.slice none 0 0, .bool false]) :: (b3, [.int .i64 u, .int .i64 v, .int .i64 ew]) :: R) := by simpa using s8
        refine St.st s8 (by simp) fun h9 s9 => ?_
        try simp -zeta only [chkP_some, iteB_true, iteB_false, add_mk, Nat.zero_add, Nat.add_zero, Nat.mul_one, Nat.reduceAdd, Int.toNat_natCast, ex_int, ex_slice, ex_ptr, ex_bool, ex_str, ex_flt, ex_any, bnd_in, List.getElem?_cons_zero, List.getElem?_cons_succ, List.set_cons_zero, List.set_cons_succ, List.cons_append, List.nil_append, bne_self_eq_false, beq_self_eq_true, Bool.not_true, Bool.not_false, Option.isNone_some, Option.isNone_none, eq_self, true_and, and_true, and_self]
        refine St.st s9 (by simp) fun h10 s10 => ?_
        refine hk0 ?_ h10 (X ++ [(b1, [.int .i64 u, .int .i64 v, .int .i64 w])]) ((St.re s10 (by intro a; simp only [cntR_append, cntR_cons, cntR_nil, List.cons_append, List.nil_append, List.set_cons_zero, List.set_cons_succ]; omega)))
        rw [← hD]; rfl
    have J2f : ¬ (u = eu ∧ v = ev) → j2 false := fun ne => by
      rw [if_neg (show ¬ sameK (u, v, w) (eu, ev, ew) from ne)] at hD
      simp -zeta only [j2]
      refine iteB_neg rfl ?_
      intro j3
      have J3t : dn = false → gtK (u, v, w) (eu, ev, ew) → j3 true := fun e1 e2 => by
        rw [if_pos ⟨e1, e2⟩] at hD
        simp -zeta only [j3]
        simp -zeta (disch := omega) only [chkP_some, iteB_true, iteB_false, add_mk, Nat.zero_add, Nat.add_zero, Nat.mul_one, Nat.reduceAdd, Int.toNat_natCast, ex_int, ex_slice, ex_ptr, ex_bool, ex_str, ex_flt, ex_any, bnd_in, List.getElem?_cons_zero, List.getElem?_cons_succ, List.set_cons_zero, List.set_cons_succ, List.cons_append, List.nil_append, bne_self_eq_false, beq_self_eq_true, Bool.not_true, Bool.not_false, Option.isNone_some, Option.isNone_none, eq_self, true_and, and_true, and_self, re]
        refine Own3.push1 o s4 rfl (by omega) fun q3 c3 X3 h6 o3 s6 => ?_
        have := J h6 (A ++ [(eu, ev, ew)]) q3 c3 X3 true w (by simp; omega) o3 s6 (by
          rw [← hD, Option.map_map]; congr 1; funext t; simp)
        simpa using this
      have J3f : ¬ (dn = false ∧ gtK (u, v, w) (eu, ev, ew)) → j3 false := fun e1 => by
        rw [if_neg e1] at hD
        simp -zeta only [j3]
        refine iteB_neg rfl (J h4 A q' c' X dn w (by omega) o s4 ?_)
        rw [← hD, Option.map_map]; rfl
      clear_value j3
      unfold gtK at J3t J3f
      simp only at J3t J3f
      refine iteB_intro (fun c => ?_) (fun c => J3f (fun h => by rw [h.1] at c; cases c))
      have c : dn = false := by simpa using c
      simp -zeta (disch := omega) only [chkP_some, iteB_true, iteB_false, add_mk, Nat.zero_add, Nat.add_zero, Nat.mul_one, Nat.reduceAdd, Int.toNat_natCast, ex_int, ex_slice, ex_ptr, ex_bool, ex_str, ex_flt, ex_any, bnd_in, List.getElem?_cons_zero, List.getElem?_cons_succ, List.set_cons_zero, List.set_cons_succ, List.cons_append, List.nil_append, bne_self_eq_false, beq_self_eq_true, Bool.not_true, Bool.not_false, Option.isNone_some, Option.isNone_none, eq_self, true_and, and_true, and_self, rx, re]
      refine iteB_intro (fun c1 => J3t c (.inl (of_decide_eq_true c1))) (fun c1 => ?_)
      have c1 := of_decide_eq_false c1
      refine iteB_intro (fun c2 => ?_) (fun c2 => J3f ?_)
      · have c2 : u = eu := by simpa using c2
        by_cases c3 : v > ev
        · rw [decide_eq_true c3]; exact J3t c (.inr ⟨c2, c3⟩)
        · rw [decide_eq_false c3]; exact J3f (fun h => by omega)
      · have c2 : ¬ u = eu := by simpa using c2
        rintro ⟨_, h⟩; omega
    clear_value j2
    simp -zeta (disch := omega) only [chkP_some, iteB_true, iteB_false, add_mk, Nat.zero_add, Nat.add_zero, Nat.mul_one, Nat.reduceAdd, Int.toNat_natCast, ex_int, ex_slice, ex_ptr, ex_bool, ex_str, ex_flt, ex_any, bnd_in, List.getElem?_cons_zero, List.getElem?_cons_succ, List.set_cons_zero, List.set_cons_succ, List.cons_append, List.nil_append, bne_self_eq_false, beq_self_eq_true, Bool.not_true, Bool.not_false, Option.isNone_some, Option.isNone_none, eq_self, true_and, and_true, and_self, rx, re]
    refine iteB_intro (fun c => ?_) (fun c => J2f (fun h => by rw [h.1] at c; simp at c))
    have c : u = eu := by simpa using c
    by_cases c2 : v = ev
    · rw [show (v == ev) = true by simpa using c2]; exact J2t c c2
    · rw [show (v == ev) = false by simpa using c2]; exact J2f (fun h => c2 h.2)
theorem RAdd_of {h : Heap} {k cl : Nat} {q : Option Addr} {l : List Ed} {e : Ed} {K : Option Addr → Nat → Nat → Bool → Heap → Prop} (hl : l.length = k) (hb : k < 2 ^ 30) (hw : fitsL l) (he : fits e.2.2) (kl : Keeps h0 R q (eV l)) (s : St h0 h R)
    (hk0 : addD e false l = none → ∀ h', St h0 h' R → K none 0 0 false h')
    (hk : ∀ S, addD e false l = some S → ∀ h' q c X, Own3 q c S X → St h0 h' (X ++ R) → K q S.length c true h') : straitref15_add q k cl e.1 e.2.1 e.2.2 h K := by
  obtain ⟨eu, ev, ew⟩ := e
  unfold straitref15_add
  refine s.new_ fun b3 h1 s1 => s1.new_ fun b4 h2 s2 => ⟨k + 1, radd_l0 (eu := eu) (ev := ev) (ew := ew) hl hb hw he kl (fun no h3 X s3 => ?_) (fun h3 q' c' X A dn hD hAl o s3 => ?_) k 0 h2 [] none 0 [] false (by omega) (by simp) (by simp) Own3.nil s2⟩
  · have r0 : ∀ j, cell h3 ⟨b4, j, none⟩ = [Value.slice none 0 0, .bool false][j]? := s3.rd (by simp)
    simp -zeta (disch := omega) only [chkP_some, iteB_true, iteB_false, add_mk, Nat.zero_add, Nat.add_zero, Nat.mul_one, Nat.reduceAdd, Int.toNat_natCast, ex_int, ex_slice, ex_ptr, ex_bool, ex_str, ex_flt, ex_any, bnd_in, List.getElem?_cons_zero, List.getElem?_cons_succ, List.set_cons_zero, List.set_cons_succ, List.cons_append, List.nil_append, bne_self_eq_false, beq_self_eq_true, Bool.not_true, Bool.not_false, Option.isNone_some, Option.isNone_none, eq_self, true_and, and_true, and_self, r0]
    exact hk0 no h3 s3.drop.tail
  · have fin : ∀ (h4 : Heap) (S : List Ed) (q2 : Option Addr) (c2 : Nat) (Y : Rws), addD (eu, ev, ew) false l = some S → Own3 q2 c2 S Y → St h0 h4 (Y ++ (b4, [.slice none 0 0, .bool false]) :: (b3, [.int .i64 eu, .int .i64 ev, .int .i64 ew]) :: R) →
        (stC h4 ⟨b4, 0, none⟩ (.slice q2 S.length c2) fun h32 => stC h32 ((⟨b4, 0, none⟩ : Addr).add 1) (.bool true) fun h33 => (∃ (x34 : Option Addr) (x34l : Nat) (x34c : Nat), cell h33 ⟨b4, 0, none⟩ = some (.slice x34 x34l x34c) ∧ ∃ (x35 : Bool), cell h33 ((⟨b4, 0, none⟩ : Addr).add 1) = some (.bool x35) ∧ K x34 x34l x34c x35 h33)) := fun h4 S q2 c2 Y hS o2 s4 => by
      refine St.st s4 (by simp) fun h5 s5 => ?_
      try simp -zeta only [chkP_some, iteB_true, iteB_false, add_mk, Nat.zero_add, Nat.add_zero, Nat.mul_one, Nat.reduceAdd, Int.toNat_natCast, ex_int, ex_slice, ex_ptr, ex_bool, ex_str, ex_flt, ex_any, bnd_in, List.getElem?_cons_zero, List.getElem?_cons_succ, List.set_cons_zero, List.set_cons_succ, List.cons_append, List.nil_append, bne_self_eq_false, beq_self_eq_true, Bool.not_true, Bool.not_false, Option.isNone_some, Option.isNone_none, eq_self, true_and, and_true, and_self]
      refine St.st s5 (by simp) fun h6 s6 => ?_
      simp only [List.set_cons_zero, List.set_cons_succ, Nat.zero_add] at s6
      have r0 : ∀ j, cell h6 ⟨b4, j, none⟩ = [Value.slice q2 S.length c2, .bool true][j]? := s6.rd (by simp)
      simp -zeta (disch := omega) only [chkP_some, iteB_true, iteB_false, add_mk, Nat.zero_add, Nat.add_zero, Nat.mul_one, Nat.reduceAdd, Int.toNat_natCast, ex_int, ex_slice, ex_ptr, ex_bool, ex_str, ex_flt, ex_any, bnd_in, List.getElem?_cons_zero, List.getElem?_cons_succ, List.set_cons_zero, List.set_cons_succ, List.cons_append, List.nil_append, bne_self_eq_false, beq_self_eq_true, Bool.not_true, Bool.not_false, Option.isNone_some, Option.isNone_none, eq_self, true_and, and_true, and_self, r0]
      exact hk S hS h6 q2 c2 Y o2 ((St.re s6 (by intro a; simp only [cntR_append, cntR_cons, cntR_nil, List.cons_append, List.nil_append, List.set_cons_zero, List.set_cons_succ]; omega)))
    cases dn with
    | true => exact iteB_neg rfl (fin h3 A q' c' X hD o s3)
    | false =>
      refine iteB_pos rfl ?_
      have re : ∀ j, cell h3 ⟨b3, j, none⟩ = [Value.int .i64 eu, .int .i64 ev, .int .i64 ew][j]? := s3.rd (by simp)
      simp -zeta (disch := omega) only [chkP_some, add_mk, Nat.zero_add, re, ex_int, List.getElem?_cons_zero, List.getElem?_cons_succ]
      refine Own3.push1 o s3 rfl (by omega) fun q3 c3 X3 h6 o3 s6 => ?_
      have := fin h6 _ q3 c3 X3 hD o3 s6
      simpa using this
end
def ltK (x e : Ed) : Prop := x.1 < e.1 ∨ (x.1 = e.1 ∧ x.2.1 < e.2.1)
instance (x e : Ed) : Decidable (ltK x e) := by unfold ltK; exact inferInstance
def Up (l : List Ed) : Prop := l.Pairwise ltK
theorem addD_true {e : Ed} : ∀ {l : List Ed}, (∀ x ∈ l, ¬ sameK x e) → addD e true l = some l
  | [], _ => rfl
  | x :: l, h => by rw [addD_cons, if_neg (h x (by simp)), if_neg (by simp), addD_true fun y hy => h y (by simp [hy])]; rfl
theorem addD_lt {e : Ed} {B : List Ed} : ∀ {A : List Ed}, (∀ x ∈ A, ltK x e) → addD e false (A ++ B) = (addD e false B).map (A ++ ·)
  | [], _ => by simp
  | x :: A, h => by
    have hx := h x (by simp)
    rw [List.cons_append, addD_cons, if_neg (by unfold sameK; unfold ltK at hx; omega), if_neg (by unfold gtK; unfold ltK at hx; omega), addD_lt fun y hy => h y (by simp [hy]), Option.map_map]
    rfl
theorem split_lt {e : Ed} : ∀ {S : List Ed}, Up S → ∃ A B, S = A ++ B ∧ (∀ x ∈ A, ltK x e) ∧ ∀ x ∈ B, ¬ ltK x e
  | [], _ => ⟨[], [], rfl, by simp, by simp⟩
  | x :: S, h => by
    have hx : ∀ y ∈ S, ltK x y := fun y hy => List.rel_of_pairwise_cons h hy
    obtain ⟨A, B, h1, h2, h3⟩ := split_lt (e := e) (List.Pairwise.of_cons h)
    by_cases c : ltK x e
    · refine ⟨x :: A, B, by rw [h1]; rfl, fun y hy => ?_, h3⟩
      rcases List.mem_cons.1 hy with rfl | hy
      · exact c
      · exact h2 y hy
    · refine ⟨[], x :: S, rfl, by simp, fun y hy => ?_⟩
      rcases List.mem_cons.1 hy with rfl | hy
      · exact c
      · have := hx y hy; unfold ltK at *; omega
/-- The two ways go together. -/
theorem addP_addD {P S : List Ed} {e : Ed} (p : P.Perm S) (up : Up S) :
    (addP P e = none ∧ addD e false S = none) ∨ ∃ P' S', addP P e = some P' ∧ addD e false S = some S' ∧ P'.Perm S' ∧ Up S' := by
  obtain ⟨A, B, rfl, hA, hB⟩ := split_lt (e := e) up
  rw [addD_lt hA]
  have upA : Up A := (List.pairwise_append.1 up).1
  have upB : Up B := (List.pairwise_append.1 up).2.1
  have hAB := (List.pairwise_append.1 up).2.2
  have noA : ∀ x ∈ A, ¬ sameK x e := fun x hx => by have := hA x hx; unfold ltK at this; unfold sameK; omega
  have new : ∀ (S' : List Ed), (∀ x ∈ B, ¬ sameK x e) → addD e false B = some S' → S' = e :: B → (∀ x ∈ B, ltK e x) →
      (addP P e = none ∧ (addD e false B).map (A ++ ·) = none) ∨ ∃ P' S', addP P e = some P' ∧ (addD e false B).map (A ++ ·) = some S' ∧ P'.Perm S' ∧ Up S' := fun S' nB hS he hlt => by
    refine .inr ⟨P ++ [e], A ++ S', addP_none fun x hx => ?_, by rw [hS]; rfl, ?_, ?_⟩
    · rcases List.mem_append.1 (p.mem_iff.1 hx) with h | h
      · exact noA x h
      · exact nB x h
    · subst he
      exact (p.append_right [e]).trans (List.perm_append_singleton e (A ++ B) |>.trans (List.perm_middle.symm))
    · subst he
      refine List.pairwise_append.2 ⟨upA, List.pairwise_cons.2 ⟨hlt, upB⟩, fun a ha b hb => ?_⟩
      rcases List.mem_cons.1 hb with rfl | hb
      · exact hA a ha
      · exact hAB a ha b hb
  cases B with
  | nil => exact new [e] (by simp) rfl rfl (by simp)
  | cons x B =>
    have hx := hB x (by simp)
    have hxB : ∀ y ∈ B, ltK x y := fun y hy => List.rel_of_pairwise_cons upB hy
    have upB2 := List.Pairwise.of_cons upB
    have noB : ∀ y ∈ B, ¬ sameK y e := fun y hy => by
      have h1 := hxB y hy
      unfold ltK at h1 hx; unfold sameK; omega
    by_cases c : sameK x e
    · have hno : ∀ y ∈ P, sameK y e → y = x := fun y hy hs => by
        rcases List.mem_append.1 (p.mem_iff.1 hy) with h | h
        · exact absurd hs (noA y h)
        · rcases List.mem_cons.1 h with h | h
          · exact h
          · exact absurd hs (noB y h)
      rw [addD_cons, if_pos c]
      rcases split_key e P with hn | ⟨C, y, D, rfl, hC, hy⟩
      · exact absurd c (hn x (p.mem_iff.2 (by simp)))
      · have := hno y (by simp) hy
        subst this
        rw [addP_mid hC c]
        by_cases hf : fits (y.2.2 + e.2.2)
        · rw [if_pos hf, if_pos hf, addD_true noB]
          refine .inr ⟨_, _, rfl, rfl, ?_, ?_⟩
          · have p2 : (C ++ D).Perm (A ++ B) := by
              have := List.perm_middle.symm.trans (p.trans List.perm_middle)
              exact List.Perm.cons_inv this
            exact List.perm_middle.trans ((p2.cons _).trans List.perm_middle.symm)
          · refine List.pairwise_append.2 ⟨upA, List.pairwise_cons.2 ⟨fun b hb => ?_, upB2⟩, fun a ha b hb => ?_⟩
            · have := hxB b hb; unfold ltK at *; exact this
            · rcases List.mem_cons.1 hb with rfl | hb
              · have := hAB a ha y (by simp); unfold ltK at *; exact this
              · exact hAB a ha b (by simp [hb])
        · rw [if_neg hf, if_neg hf]
          exact .inl ⟨rfl, rfl⟩
    · have c2 : ltK e x := by unfold ltK sameK at *; omega
      refine new (e :: x :: B) (fun y hy => ?_) ?_ rfl (fun y hy => ?_)
      · rcases List.mem_cons.1 hy with rfl | hy
        · exact c
        · exact noB y hy
      · rw [addD_cons, if_neg c, if_pos ⟨rfl, by unfold gtK; unfold ltK at c2; omega⟩, addD_true noB]; rfl
      · rcases List.mem_cons.1 hy with rfl | hy
        · exact c2
        · have := hxB y hy; unfold ltK at *; omega
def stepD (o : Option (List Ed)) (x : Ed) : Option (List Ed) := match o with
  | none => none
  | some S => if x.1 = x.2.1 then some S else addD (normE x) false S
def mergeD (l : List Ed) : Option (List Ed) := l.foldl stepD (some [])
theorem stepD_none : ∀ l : List Ed, l.foldl stepD none = none
  | [] => rfl
  | x :: l => stepD_none l
theorem mergeD_snoc (l : List Ed) (x : Ed) : mergeD (l ++ [x]) = stepD (mergeD l) x := by unfold mergeD; rw [List.foldl_append]; rfl
theorem mergeD_none {l : List Ed} {i : Nat} (h : mergeD (l.take i) = none) : mergeD l = none := by
  unfold mergeD at *
  rw [show l = l.take i ++ l.drop i from (List.take_append_drop i l).symm, List.foldl_append, h]; exact stepD_none _
theorem fold_PD : ∀ (l : List Ed) (P S : List Ed), P.Perm S → Up S →
    (l.foldl stepP (some P) = none ∧ l.foldl stepD (some S) = none) ∨ ∃ P' S', l.foldl stepP (some P) = some P' ∧ l.foldl stepD (some S) = some S' ∧ P'.Perm S' ∧ Up S'
  | [], P, S, p, up => .inr ⟨P, S, rfl, rfl, p, up⟩
  | x :: l, P, S, p, up => by
    simp only [List.foldl_cons, stepP, stepD]
    by_cases c : x.1 = x.2.1
    · rw [if_pos ((normE_eq x).2 c), if_pos c]
      exact fold_PD l P S p up
    · rw [if_neg (fun h => c ((normE_eq x).1 h)), if_neg c]
      rcases addP_addD (e := normE x) p up with ⟨h1, h2⟩ | ⟨P', S', h1, h2, p', up'⟩
      · rw [h1, h2]; exact .inl ⟨step_none l, stepD_none l⟩
      · rw [h1, h2]; exact fold_PD l P' S' p' up'
theorem merge_both (l : List Ed) : (mergeP l = none ∧ mergeD l = none) ∨ ∃ P S, mergeP l = some P ∧ mergeD l = some S ∧ P.Perm S ∧ Up S := fold_PD l [] [] (.refl _) List.Pairwise.nil
theorem sort_filter {P S : List Ed} (p : P.Perm S) (up : Up S) : sortEd (P.filter nz) = S.filter nz := by
  refine sortEd_one (p.filter nz) ((up.filter nz).imp fun h => ?_)
  unfold ltEd; unfold ltK at h; omega
theorem addD_fits {e : Ed} (he : fits e.2.2) : ∀ {S T : List Ed} {d : Bool}, fitsL S → addD e d S = some T → fitsL T ∧ T.length ≤ S.length + (if d then 0 else 1)
  | [], T, d, _, h => by
    simp only [addD, Option.some.injEq] at h; subst h
    cases d
    · exact ⟨fun x hx => by simp only [Bool.false_eq_true, if_false, List.mem_singleton] at hx; subst hx; exact he, by simp⟩
    · exact ⟨fun x hx => by simp at hx, by simp⟩
  | x :: r, T, d, hP, h => by
    have hr : fitsL r := fun y hy => hP y (by simp [hy])
    rw [addD_cons] at h
    split at h
    · split at h
      · rename_i hf
        obtain ⟨t, ht, rfl⟩ := Option.map_eq_some_iff.1 h
        obtain ⟨h1, h2⟩ := addD_fits he hr ht
        exact ⟨fun y hy => by rcases List.mem_cons.1 hy with rfl | hy; exact hf; exact h1 y hy, by simp at h2 ⊢; omega⟩
      · cases h
    · split at h
      · rename_i hd
        obtain ⟨t, ht, rfl⟩ := Option.map_eq_some_iff.1 h
        obtain ⟨h1, h2⟩ := addD_fits he hr ht
        exact ⟨fun y hy => by
          rcases List.mem_cons.1 hy with rfl | hy
          · exact he
          rcases List.mem_cons.1 hy with rfl | hy
          · exact hP _ (by simp)
          · exact h1 y hy, by rw [hd.1]; simp at h2 ⊢; omega⟩
      · obtain ⟨t, ht, rfl⟩ := Option.map_eq_some_iff.1 h
        obtain ⟨h1, h2⟩ := addD_fits he hr ht
        exact ⟨fun y hy => by rcases List.mem_cons.1 hy with rfl | hy; exact hP _ (by simp); exact h1 y hy, by simp only [List.length_cons]; omega⟩

section
variable {h0 : Base} {R : Rws}
theorem rmerge_l0 {K0 : Heap → Prop} {K2 : Option Addr → Nat → Nat → Heap → Prop} {b k cl : Nat} {q : Option Addr} {l : List Ed} (hl : l.length = k) (hb : k < 2 ^ 30) (hw : fitsL l) (kl : Keeps h0 R q (eV l))
    (hk0 : mergeD l = none → ∀ h', St h0 h' ((b, [.slice none 0 0, .bool false]) :: R) → K0 h')
    (hk2 : ∀ S, mergeD l = some S → ∀ h' q' c' X, S.length ≤ k → Own3 q' c' S X → St h0 h' (X ++ (b, [.slice none 0 0, .bool false]) :: R) → K2 q' S.length c' h') :
    ∀ (d i : Nat) (h : Heap) (S : List Ed) (q' : Option Addr) (c' : Nat) (X : Rws), i + d = k → mergeD (l.take i) = some S → fitsL S → S.length ≤ i → Own3 q' c' S X → St h0 h (X ++ (b, [.slice none 0 0, .bool false]) :: R) →
      straitref15_Merge.l0 K0 K2 (d + 1) q k cl ⟨b, 0, none⟩ q' S.length c' (i : Int) h
  | 0, i, h, S, q', c', X, hi, hm, hfs, hls, o, s => by
    unfold straitref15_Merge.l0 straitref15_Merge.b0
    rw [List.take_of_length_le (by omega)] at hm
    exact iteB_neg (decide_eq_false (by omega)) (hk2 S hm h q' c' X (by omega) o s)
  | d + 1, i, h, S, q', c', X, hi, hm, hfs, hls, o, s => by
    unfold straitref15_Merge.l0 straitref15_Merge.b0
    obtain ⟨⟨u, v, w⟩, hx⟩ := get_lt (l := l) (i := i) (by omega)
    have hwx : fits w := hw _ (List.mem_of_getElem? hx)
    have vl : valsAt h q (eV l) := (kl.cons (y := (b, _))).at1 s
    have v1 : ∀ {G : Int → Prop}, (chkP q fun a' => ∃ y : Int, cell h ((a'.add (i * 3)).add 1) = some (.int .i64 y) ∧ G y) = G v := by
      intro G; simp only [addr_add]; exact vals_int vl (eV_get1 hx)
    have ms : mergeD (l.take (i + 1)) = stepD (some S) (u, v, w) := by rw [take_snoc hx, mergeD_snoc, hm]
    simp only [stepD] at ms
    refine iteB_pos (decide_eq_true (by omega)) ?_
    simp -zeta (disch := omega) only [chkP_some, iteB_true, iteB_false, add_mk, Nat.zero_add, Nat.add_zero, Nat.mul_one, Nat.reduceAdd, Int.toNat_natCast, ex_int, ex_slice, ex_ptr, ex_bool, ex_str, ex_flt, ex_any, bnd_in, List.getElem?_cons_zero, List.getElem?_cons_succ, List.set_cons_zero, List.set_cons_succ, List.cons_append, List.nil_append, bne_self_eq_false, beq_self_eq_true, Bool.not_true, Bool.not_false, Option.isNone_some, Option.isNone_none, eq_self, true_and, and_true, and_self, vals_int vl (eV_get0 hx), v1, vals_edge vl hx]
    refine iteB_intro (fun c => ?_) (fun c => ?_)
    · have c : ¬ u = v := by simpa using c
      rw [if_neg c] at ms
      have hwn : fits (normE (u, v, w)).2.2 := by rw [normE_w]; exact hwx
      refine callP3.self (RNormal_of (e := (u, v, w)) s fun h2 s2 => callP4.self (RAdd_of (e := normE (u, v, w)) rfl (by omega) hfs hwn (o.keeps fun x hx => by simp [hx]) s2 (fun no h3 s3 => ?_) (fun T hT h3 q2 c2 Y o3 s3 => ?_)))
      · refine s3.new_ fun b5 h4 s4 => s4.st0 (by simp) fun h5 s5 => ?_
        simp -zeta only [chkP_some, iteB_true, iteB_false, add_mk, Nat.zero_add, Nat.add_zero, Nat.mul_one, Nat.reduceAdd, Int.toNat_natCast, ex_int, ex_slice, ex_ptr, ex_bool, ex_str, ex_flt, ex_any, bnd_in, List.getElem?_cons_zero, List.getElem?_cons_succ, List.set_cons_zero, List.set_cons_succ, List.cons_append, List.nil_append, bne_self_eq_false, beq_self_eq_true, Bool.not_true, Bool.not_false, Option.isNone_some, Option.isNone_none, eq_self, true_and, and_true, and_self]
        refine s5.st0 (by simp) fun h6 s6 => ?_
        simp -zeta (disch := omega) only [chkP_some, iteB_true, iteB_false, add_mk, Nat.zero_add, Nat.add_zero, Nat.mul_one, Nat.reduceAdd, Int.toNat_natCast, ex_int, ex_slice, ex_ptr, ex_bool, ex_str, ex_flt, ex_any, bnd_in, List.getElem?_cons_zero, List.getElem?_cons_succ, List.set_cons_zero, List.set_cons_succ, List.cons_append, List.nil_append, bne_self_eq_false, beq_self_eq_true, Bool.not_true, Bool.not_false, Option.isNone_some, Option.isNone_none, eq_self, true_and, and_true, and_self, s6.rd0]
        have s6 := s6.tail
        refine St.st s6 (by simp) fun h7 s7 => ?_
        try simp -zeta only [chkP_some, iteB_true, iteB_false, add_mk, Nat.zero_add, Nat.add_zero, Nat.mul_one, Nat.reduceAdd, Int.toNat_natCast, ex_int, ex_slice, ex_ptr, ex_bool, ex_str, ex_flt, ex_any, bnd_in, List.getElem?_cons_zero, List.getElem?_cons_succ, List.set_cons_zero, List.set_cons_succ, List.cons_append, List.nil_append, bne_self_eq_false, beq_self_eq_true, Bool.not_true, Bool.not_false, Option.isNone_some, Option.isNone_none, eq_self, true_and, and_true, and_self]
        refine St.st s7 (by simp) fun h8 s8 => ?_
        refine hk0 (mergeD_none (i := i + 1) (by rw [ms]; exact no)) h8 s8.drop
      · refine s3.new_ fun b5 h4 s4 => s4.st0 (by simp) fun h5 s5 => ?_
        simp -zeta only [chkP_some, iteB_true, iteB_false, add_mk, Nat.zero_add, Nat.add_zero, Nat.mul_one, Nat.reduceAdd, Int.toNat_natCast, ex_int, ex_slice, ex_ptr, ex_bool, ex_str, ex_flt, ex_any, bnd_in, List.getElem?_cons_zero, List.getElem?_cons_succ, List.set_cons_zero, List.set_cons_succ, List.cons_append, List.nil_append, bne_self_eq_false, beq_self_eq_true, Bool.not_true, Bool.not_false, Option.isNone_some, Option.isNone_none, eq_self, true_and, and_true, and_self]
        refine s5.st0 (by simp) fun h6 s6 => ?_
        simp -zeta (disch := omega) only [chkP_some, iteB_true, iteB_false, add_mk, Nat.zero_add, Nat.add_zero, Nat.mul_one, Nat.reduceAdd, Int.toNat_natCast, ex_int, ex_slice, ex_ptr, ex_bool, ex_str, ex_flt, ex_any, bnd_in, List.getElem?_cons_zero, List.getElem?_cons_succ, List.set_cons_zero, List.set_cons_succ, List.cons_append, List.nil_append, bne_self_eq_false, beq_self_eq_true, Bool.not_true, Bool.not_false, Option.isNone_some, Option.isNone_none, eq_self, true_and, and_true, and_self, s6.rd0]
        obtain ⟨hf2, hl2⟩ := addD_fits hwn hfs hT
        have hl2 : T.length ≤ S.length + 1 := hl2
        rw [wrap64 (by omega) (by omega)]
        exact rmerge_l0 hl hb hw kl hk0 hk2 d (i + 1) h6 T q2 c2 Y (by omega) (by rw [ms]; exact hT) hf2 (by omega) o3 ((St.re s6 (by intro a; simp only [cntR_append, cntR_cons, cntR_nil, List.cons_append, List.nil_append, List.set_cons_zero, List.set_cons_succ]; omega)))
    · have c : u = v := by simpa using c
      rw [if_pos c] at ms
      rw [wrap64 (by omega) (by omega)]
      exact rmerge_l0 hl hb hw kl hk0 hk2 d (i + 1) h S q' c' X (by omega) ms hfs (by omega) o s
theorem rmerge_l1 {K4 : Option Addr → Nat → Nat → Heap → Prop} {b k cl : Nat} {q : Option Addr} {l : List Ed} {c0 : List Value} (hl : l.length = k) (hb : k < 2 ^ 30) (kl : Keeps h0 R q (eV l))
    (hk : ∀ h' q' c' X, Own3 q' c' (l.filter nz) X → St h0 h' (X ++ (b, c0) :: R) → K4 q' (l.filter nz).length c' h') :
    ∀ (d i : Nat) (h : Heap) (q' : Option Addr) (c' : Nat) (X : Rws), i + d = k → Own3 q' c' ((l.take i).filter nz) X → St h0 h (X ++ (b, c0) :: R) → straitref15_Merge.l1 K4 (d + 1) ⟨b, 0, none⟩ q k cl q' ((l.take i).filter nz).length c' (i : Int) h
  | 0, i, h, q', c', X, hi, o, s => by
    unfold straitref15_Merge.l1 straitref15_Merge.b1
    rw [List.take_of_length_le (by omega)] at o ⊢
    exact iteB_neg (decide_eq_false (by omega)) (hk h q' c' X o s)
  | d + 1, i, h, q', c', X, hi, o, s => by
    unfold straitref15_Merge.l1 straitref15_Merge.b1
    obtain ⟨⟨u, v, w⟩, hx⟩ := get_lt (l := l) (i := i) (by omega)
    have vl : valsAt h q (eV l) := (kl.cons (y := (b, _))).at1 s
    have ht : (l.take (i + 1)).filter nz = (l.take i).filter nz ++ [(u, v, w)].filter nz := by rw [take_snoc hx, List.filter_append]
    have hlen : ((l.take i).filter nz).length ≤ i := Nat.le_trans (List.length_filter_le _ _) (by rw [List.length_take]; omega)
    refine iteB_pos (decide_eq_true (by omega)) ?_
    simp -zeta (disch := omega) only [chkP_some, iteB_true, iteB_false, add_mk, Nat.zero_add, Nat.add_zero, Nat.mul_one, Nat.reduceAdd, Int.toNat_natCast, ex_int, ex_slice, ex_ptr, ex_bool, ex_str, ex_flt, ex_any, bnd_in, List.getElem?_cons_zero, List.getElem?_cons_succ, List.set_cons_zero, List.set_cons_succ, List.cons_append, List.nil_append, bne_self_eq_false, beq_self_eq_true, Bool.not_true, Bool.not_false, Option.isNone_some, Option.isNone_none, eq_self, true_and, and_true, and_self, vals_edge2 vl hx, vals_edge vl hx]
    refine iteB_intro (fun c => ?_) (fun c => ?_)
    · have c : w ≠ 0 := by simpa using c
      rw [show [(u, v, w)].filter nz = [(u, v, w)] by simp [nz, c]] at ht
      refine Own3.push1 o s rfl (by omega) fun q2 c2 X2 h2 o2 s2 => ?_
      rw [wrap64 (by omega) (by omega)]
      rw [← ht] at o2
      rw [show ((l.take i).filter nz).length + 1 = ((l.take (i + 1)).filter nz).length by rw [ht]; simp]
      exact rmerge_l1 hl hb kl hk d (i + 1) h2 q2 c2 X2 (by omega) o2 s2
    · have c : w = 0 := by simpa using c
      rw [show [(u, v, w)].filter nz = [] by simp [nz, c], List.append_nil] at ht
      rw [wrap64 (by omega) (by omega)]
      rw [← ht] at o ⊢
      exact rmerge_l1 hl hb kl hk d (i + 1) h q' c' X (by omega) o s
theorem RMerge_of {h : Heap} {k cl : Nat} {q : Option Addr} {l : List Ed} {K : Option Addr → Nat → Nat → Bool → Heap → Prop} (hl : l.length = k) (hb : k < 2 ^ 30) (hw : fitsL l) (kl : Keeps h0 R q (eV l)) (s : St h0 h R)
    (hk0 : mergeD l = none → ∀ h', St h0 h' R → K none 0 0 false h')
    (hk : ∀ S, mergeD l = some S → ∀ h' q c X, Own3 q c (S.filter nz) X → St h0 h' (X ++ R) → K q (S.filter nz).length c true h') : straitref15_Merge q k cl h K := by
  unfold straitref15_Merge
  refine s.new_ fun b h1 s1 => ⟨k + 1, rmerge_l0 hl hb hw kl (fun no h2 s2 => ?_) (fun S hS h2 q' c' X hSl o s2 => ?_) k 0 h1 [] none 0 [] (by omega) rfl (fun x hx => by cases hx) (by simp) Own3.nil s1⟩
  · try simp -zeta (disch := omega) only [chkP_some, iteB_true, iteB_false, add_mk, Nat.zero_add, Nat.add_zero, Nat.mul_one, Nat.reduceAdd, Int.toNat_natCast, ex_int, ex_slice, ex_ptr, ex_bool, ex_str, ex_flt, ex_any, bnd_in, List.getElem?_cons_zero, List.getElem?_cons_succ, List.set_cons_zero, List.set_cons_succ, List.cons_append, List.nil_append, bne_self_eq_false, beq_self_eq_true, Bool.not_true, Bool.not_false, Option.isNone_some, Option.isNone_none, eq_self, true_and, and_true, and_self, s2.rd0]
    exact hk0 no h2 s2.tail
  · refine ⟨S.length + 1, rmerge_l1 (R := X ++ R) (b := b) (c0 := [.slice none 0 0, .bool false]) rfl (by omega) (o.keeps fun x hx => by simp [hx]) (fun h3 q3 c3 Y o3 s3 => ?_) S.length 0 h2 none 0 [] (by omega) Own3.nil ((St.re s2 (by intro a; simp only [cntR_append, cntR_cons, cntR_nil, List.cons_append, List.nil_append, List.set_cons_zero, List.set_cons_succ]; omega)))⟩
    refine St.st s3 (by simp) fun h4 s4 => ?_
    try simp -zeta only [chkP_some, iteB_true, iteB_false, add_mk, Nat.zero_add, Nat.add_zero, Nat.mul_one, Nat.reduceAdd, Int.toNat_natCast, ex_int, ex_slice, ex_ptr, ex_bool, ex_str, ex_flt, ex_any, bnd_in, List.getElem?_cons_zero, List.getElem?_cons_succ, List.set_cons_zero, List.set_cons_succ, List.cons_append, List.nil_append, bne_self_eq_false, beq_self_eq_true, Bool.not_true, Bool.not_false, Option.isNone_some, Option.isNone_none, eq_self, true_and, and_true, and_self]
    refine St.st s4 (by simp) fun h5 s5 => ?_
    simp only [List.set_cons_zero, List.set_cons_succ, Nat.zero_add] at s5
    have r0 : ∀ j, cell h5 ⟨b, j, none⟩ = [Value.slice q3 (S.filter nz).length c3, .bool true][j]? := s5.rd (by simp)
    simp -zeta (disch := omega) only [chkP_some, iteB_true, iteB_false, add_mk, Nat.zero_add, Nat.add_zero, Nat.mul_one, Nat.reduceAdd, Int.toNat_natCast, ex_int, ex_slice, ex_ptr, ex_bool, ex_str, ex_flt, ex_any, bnd_in, List.getElem?_cons_zero, List.getElem?_cons_succ, List.set_cons_zero, List.set_cons_succ, List.cons_append, List.nil_append, bne_self_eq_false, beq_self_eq_true, Bool.not_true, Bool.not_false, Option.isNone_some, Option.isNone_none, eq_self, true_and, and_true, and_self, r0]
    exact hk S hS h5 q3 c3 Y o3 ((St.re s5 (by intro a; simp only [cntR_append, cntR_cons, cntR_nil, List.cons_append, List.nil_append, List.set_cons_zero, List.set_cons_succ]; omega)))

end
end Go.Proofs.YtbhndlpjfncliaaGreat
