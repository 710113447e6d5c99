/-
  Edges checked, found and compared: the program's, and the document's.
-/
import Derived.Test.YtapjbmfgmnhpdaaE4
namespace Go.Proofs.Ytapjbmfgmnhpdaa
set_option linter.unusedVariables false
set_option linter.unusedSimpArgs false
set_option linter.unnecessarySimpa false
open Go.Hp Go.RowKit
attribute [local irreducible] Go.Hp.iteB Go.Hp.stC Go.Hp.newP

def chkE (n : Int) (e : Ed) : Int := if e.1 < 0 ∨ e.1 ≥ n ∨ e.2.1 < 0 ∨ e.2.1 ≥ n then 4 else if e.2.2 < 0 ∨ e.2.2 > 2147483648 then 5 else 0
theorem chkE_4 {n : Int} {e : Ed} (c : e.1 < 0 ∨ e.1 ≥ n ∨ e.2.1 < 0 ∨ e.2.1 ≥ n) : chkE n e = 4 := if_pos c
theorem chkE_5 {n : Int} {e : Ed} (c : ¬ (e.1 < 0 ∨ e.1 ≥ n ∨ e.2.1 < 0 ∨ e.2.1 ≥ n)) (d : e.2.2 < 0 ∨ e.2.2 > 2147483648) : chkE n e = 5 := by unfold chkE; rw [if_neg c, if_pos d]
theorem chkE_0 {n : Int} {e : Ed} (c : ¬ (e.1 < 0 ∨ e.1 ≥ n ∨ e.2.1 < 0 ∨ e.2.1 ≥ n)) (d : ¬ (e.2.2 < 0 ∨ e.2.2 > 2147483648)) : chkE n e = 0 := by unfold chkE; rw [if_neg c, if_neg d]
/-- The first one that can't be. -/
def chksE (n : Int) : Nat → List Ed → Int × Int
  | _, [] => (0, 0)
  | i, e :: l => if chkE n e ≠ 0 then (chkE n e, (i : Int)) else chksE n (i + 1) l

section
variable {h0 : Base} {R : Rws}
theorem Check_of {h : Heap} {e : Ed} {n : Int} {K : Int → Heap → Prop} (s : St h0 h R) (hk : ∀ h', St h0 h' R → K (chkE n e) h') : edge_Check n e.1 e.2.1 e.2.2 h K := by
  obtain ⟨u, v, w⟩ := e
  unfold edge_Check
  refine s.new_ fun b1 h1 s1 => ?_
  try simp -zeta (disch := omega) only [chkP_some, iteB_true, iteB_false, add_mk, Nat.zero_add, Nat.add_zero, Nat.mul_one, Nat.reduceAdd, Int.toNat_natCast, ex_int, ex_slice, ex_ptr, ex_bool, ex_str, ex_flt, ex_any, bnd_in, List.getElem?_cons_zero, List.getElem?_cons_succ, List.set_cons_zero, List.set_cons_succ, List.cons_append, List.nil_append, bne_self_eq_false, beq_self_eq_true, Bool.not_true, Bool.not_false, Option.isNone_some, Option.isNone_none, eq_self, true_and, and_true, and_self, s1.rd0]
  refine ⟨3, ?_⟩
  have hk := hk h1 s1.tail
  have bad : ∀ (c : u < 0 ∨ u ≥ n ∨ v < 0 ∨ v ≥ n), K 4 h1 := fun c => by rw [chkE_4 c] at hk; exact hk
  unfold edge_Check.l0 edge_Check.b0
  refine iteB_pos rfl ⟨⟨by omega, by omega⟩, u, rfl, ?_⟩
  refine iteB_intro (fun c => bad (.inl (of_decide_eq_true c))) fun c1 => iteB_intro (fun c => bad (.inr (.inl (of_decide_eq_true c)))) fun c2 => ?_
  rw [wrap64 (by omega) (by omega)]
  unfold edge_Check.l0 edge_Check.b0
  refine iteB_pos rfl ⟨⟨by omega, by omega⟩, v, rfl, ?_⟩
  refine iteB_intro (fun c => bad (.inr (.inr (.inl (of_decide_eq_true c))))) fun c3 => iteB_intro (fun c => bad (.inr (.inr (.inr (of_decide_eq_true c))))) fun c4 => ?_
  rw [wrap64 (by omega) (by omega)]
  unfold edge_Check.l0 edge_Check.b0
  refine iteB_neg rfl ?_
  try simp -zeta (disch := omega) only [chkP_some, iteB_true, iteB_false, add_mk, Nat.zero_add, Nat.add_zero, Nat.mul_one, Nat.reduceAdd, Int.toNat_natCast, ex_int, ex_slice, ex_ptr, ex_bool, ex_str, ex_flt, ex_any, bnd_in, List.getElem?_cons_zero, List.getElem?_cons_succ, List.set_cons_zero, List.set_cons_succ, List.cons_append, List.nil_append, bne_self_eq_false, beq_self_eq_true, Bool.not_true, Bool.not_false, Option.isNone_some, Option.isNone_none, eq_self, true_and, and_true, and_self, s1.rd0]
  have c1 := of_decide_eq_false c1
  have c2 := of_decide_eq_false c2
  have c3 := of_decide_eq_false c3
  have c4 := of_decide_eq_false c4
  have c : ¬ (u < 0 ∨ u ≥ n ∨ v < 0 ∨ v ≥ n) := by omega
  refine iteB_intro (fun d => ?_) fun d1 => iteB_intro (fun d => ?_) fun d2 => ?_
  · rw [chkE_5 c (.inl (of_decide_eq_true d))] at hk; exact hk
  · rw [chkE_5 c (.inr (of_decide_eq_true d))] at hk; exact hk
  · have d1 := of_decide_eq_false d1
    have d2 := of_decide_eq_false d2
    rw [chkE_0 c (by simp only; omega)] at hk; exact hk
theorem RCheck_of {h : Heap} {e : Ed} {n : Int} {K : Int → Heap → Prop} (s : St h0 h R) (hk : ∀ h', St h0 h' R → K (chkE n e) h') : straitref15_Check n e.1 e.2.1 e.2.2 h K := by
  obtain ⟨u, v, w⟩ := e
  unfold straitref15_Check
  refine s.new_ fun b1 h1 s1 => ?_
  try simp -zeta (disch := omega) only [chkP_some, iteB_true, iteB_false, add_mk, Nat.zero_add, Nat.add_zero, Nat.mul_one, Nat.reduceAdd, Int.toNat_natCast, ex_int, ex_slice, ex_ptr, ex_bool, ex_str, ex_flt, ex_any, bnd_in, List.getElem?_cons_zero, List.getElem?_cons_succ, List.set_cons_zero, List.set_cons_succ, List.cons_append, List.nil_append, bne_self_eq_false, beq_self_eq_true, Bool.not_true, Bool.not_false, Option.isNone_some, Option.isNone_none, eq_self, true_and, and_true, and_self, s1.rd0]
  have hk := hk h1 s1.tail
  have bad : ∀ (c : u < 0 ∨ u ≥ n ∨ v < 0 ∨ v ≥ n), K 4 h1 := fun c => by rw [chkE_4 c] at hk; exact hk
  refine iteB_intro (fun c => bad (.inl (of_decide_eq_true c))) fun c1 => iteB_intro (fun c => bad (.inr (.inl (of_decide_eq_true c)))) fun c2 => ?_
  refine iteB_intro (fun c => bad (.inr (.inr (.inl (of_decide_eq_true c))))) fun c3 => iteB_intro (fun c => bad (.inr (.inr (.inr (of_decide_eq_true c))))) fun c4 => ?_
  have c1 := of_decide_eq_false c1
  have c2 := of_decide_eq_false c2
  have c3 := of_decide_eq_false c3
  have c4 := of_decide_eq_false c4
  have c : ¬ (u < 0 ∨ u ≥ n ∨ v < 0 ∨ v ≥ n) := by omega
  refine iteB_intro (fun d => ?_) fun d1 => iteB_intro (fun d => ?_) fun d2 => ?_
  · rw [chkE_5 c (.inl (of_decide_eq_true d))] at hk; exact hk
  · rw [chkE_5 c (.inr (of_decide_eq_true d))] at hk; exact hk
  · have d1 := of_decide_eq_false d1
    have d2 := of_decide_eq_false d2
    rw [chkE_0 c (by simp only; omega)] at hk; exact hk

theorem checks_l0 {K0 : Int → Int → Heap → Prop} {K2 : Heap → Prop} {n : Int} {k cl : Nat} {q : Option Addr} {l : List Ed} (hl : l.length = k) (hb : k < 2 ^ 40) (kl : Keeps h0 R q (eV l))
    (hk0 : ∀ h', (chksE n 0 l).1 ≠ 0 → St h0 h' R → K0 (chksE n 0 l).1 (chksE n 0 l).2 h') (hk2 : ∀ h', chksE n 0 l = (0, 0) → St h0 h' R → K2 h') :
    ∀ (d i : Nat) (h : Heap), i + d = k → chksE n i (l.drop i) = chksE n 0 l → St h0 h R → edge_Checks.l0 K0 K2 (d + 1) n q k cl (k : Int) (i : Int) h
  | 0, i, h, hi, he, s => by
    unfold edge_Checks.l0 edge_Checks.b0
    rw [List.drop_of_length_le (by omega)] at he
    exact iteB_neg (decide_eq_false (by omega)) (hk2 h he.symm s)
  | d + 1, i, h, hi, he, s => by
    unfold edge_Checks.l0 edge_Checks.b0
    obtain ⟨⟨u, v, w⟩, hx⟩ := get_lt (l := l) (i := i) (by omega)
    have vl := kl.at0 s
    refine iteB_pos (decide_eq_true (by omega)) ?_
    simp -zeta (disch := omega) only [chkP_some, iteB_true, iteB_false, add_mk, Nat.zero_add, Nat.add_zero, Nat.mul_one, Nat.reduceAdd, Int.toNat_natCast, ex_int, ex_slice, ex_ptr, ex_bool, ex_str, ex_flt, ex_any, bnd_in, List.getElem?_cons_zero, List.getElem?_cons_succ, List.set_cons_zero, List.set_cons_succ, List.cons_append, List.nil_append, bne_self_eq_false, beq_self_eq_true, Bool.not_true, Bool.not_false, Option.isNone_some, Option.isNone_none, eq_self, true_and, and_true, and_self, vals_edge vl hx]
    refine s.new_ fun b1 h1 s1 => s1.st0 (by simp) fun h2 s2 => s2.st0 (by simp) fun h3 s3 => s3.st0 (by simp) fun h4 s4 => ?_
    try simp -zeta (disch := omega) only [chkP_some, iteB_true, iteB_false, add_mk, Nat.zero_add, Nat.add_zero, Nat.mul_one, Nat.reduceAdd, Int.toNat_natCast, ex_int, ex_slice, ex_ptr, ex_bool, ex_str, ex_flt, ex_any, bnd_in, List.getElem?_cons_zero, List.getElem?_cons_succ, List.set_cons_zero, List.set_cons_succ, List.cons_append, List.nil_append, bne_self_eq_false, beq_self_eq_true, Bool.not_true, Bool.not_false, Option.isNone_some, Option.isNone_none, eq_self, true_and, and_true, and_self, s4.rd0]
    refine callP1.self (Check_of (e := (u, v, w)) s4 fun h5 s5 => ?_)
    rw [drop_cons hx] at he
    by_cases c : chkE n (u, v, w) = 0
    · rw [c]
      rw [show chksE n i ((u, v, w) :: l.drop (i + 1)) = chksE n (i + 1) (l.drop (i + 1)) by simp [chksE, c]] at he
      refine iteB_neg rfl ?_
      rw [wrap64 (by omega) (by omega)]
      exact checks_l0 hl hb kl hk0 hk2 d (i + 1) h5 (by omega) he s5.tail
    · rw [show chksE n i ((u, v, w) :: l.drop (i + 1)) = (chkE n (u, v, w), (i : Int)) by simp [chksE, c]] at he
      refine iteB_pos (by simpa using c) ?_
      have := hk0 h5 (by rw [← he]; exact c) s5.tail
      rw [← he] at this; exact this
theorem Checks_of {h : Heap} {n : Int} {k cl : Nat} {q : Option Addr} {l : List Ed} {K : Int → Int → Heap → Prop} (hl : l.length = k) (hb : k < 2 ^ 40) (kl : Keeps h0 R q (eV l)) (s : St h0 h R)
    (hk : ∀ h', St h0 h' R → K (chksE n 0 l).1 (chksE n 0 l).2 h') : edge_Checks n q k cl h K := by
  unfold edge_Checks
  exact ⟨k + 1, checks_l0 hl hb kl (fun h' _ s => hk h' s) (fun h' e s => by have := hk h' s; rw [e] at this; exact this) k 0 h (by omega) rfl s⟩

theorem rchecks_l0 {K0 : Heap → Prop} {K2 : Heap → Prop} {n : Int} {b k cl : Nat} {q : Option Addr} {l : List Ed} (hl : l.length = k) (hb : k < 2 ^ 40) (kl : Keeps h0 R q (eV l))
    (hk0 : ∀ h', (chksE n 0 l).1 ≠ 0 → St h0 h' ((b, [.int .i64 (chksE n 0 l).1, .int .i64 (chksE n 0 l).2]) :: R) → K0 h') (hk2 : ∀ h', chksE n 0 l = (0, 0) → St h0 h' ((b, [.int .i64 0, .int .i64 0]) :: R) → K2 h') :
    ∀ (d i : Nat) (h : Heap), i + d = k → chksE n i (l.drop i) = chksE n 0 l → St h0 h ((b, [.int .i64 0, .int .i64 0]) :: R) → straitref15_Checks.l0 K0 K2 (d + 1) n q k cl ⟨b, 0, none⟩ (i : Int) h
  | 0, i, h, hi, he, s => by
    unfold straitref15_Checks.l0 straitref15_Checks.b0
    rw [List.drop_of_length_le (by omega)] at he
    exact iteB_neg (decide_eq_false (by omega)) (hk2 h he.symm s)
  | d + 1, i, h, hi, he, s => by
    unfold straitref15_Checks.l0 straitref15_Checks.b0
    obtain ⟨⟨u, v, w⟩, hx⟩ := get_lt (l := l) (i := i) (by omega)
    have vl := kl.atC s
    refine iteB_pos (decide_eq_true (by omega)) ?_
    simp -zeta (disch := omega) only [chkP_some, iteB_true, iteB_false, add_mk, Nat.zero_add, Nat.add_zero, Nat.mul_one, Nat.reduceAdd, Int.toNat_natCast, ex_int, ex_slice, ex_ptr, ex_bool, ex_str, ex_flt, ex_any, bnd_in, List.getElem?_cons_zero, List.getElem?_cons_succ, List.set_cons_zero, List.set_cons_succ, List.cons_append, List.nil_append, bne_self_eq_false, beq_self_eq_true, Bool.not_true, Bool.not_false, Option.isNone_some, Option.isNone_none, eq_self, true_and, and_true, and_self, vals_edge vl hx]
    refine callP1.self (RCheck_of (e := (u, v, w)) s fun h5 s5 => ?_)
    rw [drop_cons hx] at he
    by_cases c : chkE n (u, v, w) = 0
    · rw [c]
      rw [show chksE n i ((u, v, w) :: l.drop (i + 1)) = chksE n (i + 1) (l.drop (i + 1)) by simp [chksE, c]] at he
      refine iteB_neg rfl ?_
      rw [wrap64 (by omega) (by omega)]
      exact rchecks_l0 hl hb kl hk0 hk2 d (i + 1) h5 (by omega) he s5
    · rw [show chksE n i ((u, v, w) :: l.drop (i + 1)) = (chkE n (u, v, w), (i : Int)) by simp [chksE, c]] at he
      refine iteB_pos (by simpa using c) (s5.st0 (by simp) fun h6 s6 => ?_)
      try simp -zeta (disch := omega) only [chkP_some, iteB_true, iteB_false, add_mk, Nat.zero_add, Nat.add_zero, Nat.mul_one, Nat.reduceAdd, Int.toNat_natCast, ex_int, ex_slice, ex_ptr, ex_bool, ex_str, ex_flt, ex_any, bnd_in, List.getElem?_cons_zero, List.getElem?_cons_succ, List.set_cons_zero, List.set_cons_succ, List.cons_append, List.nil_append, bne_self_eq_false, beq_self_eq_true, Bool.not_true, Bool.not_false, Option.isNone_some, Option.isNone_none, eq_self, true_and, and_true, and_self, s6.rd0]
      refine s6.st0 (by simp) fun h7 s7 => ?_
      refine hk0 h7 (by rw [← he]; exact c) ?_
      rw [← he]; exact s7
theorem RChecks_of {h : Heap} {n : Int} {k cl : Nat} {q : Option Addr} {l : List Ed} {K : Int → Int → Heap → Prop} (hl : l.length = k) (hb : k < 2 ^ 40) (kl : Keeps h0 R q (eV l)) (s : St h0 h R)
    (hk : ∀ h', St h0 h' R → K (chksE n 0 l).1 (chksE n 0 l).2 h') : straitref15_Checks n q k cl h K := by
  unfold straitref15_Checks
  refine s.new_ fun b h1 s1 => ⟨k + 1, rchecks_l0 hl hb kl (fun h' _ s => ?_) (fun h' e s => ?_) k 0 h1 (by omega) rfl s1⟩
  · try simp -zeta (disch := omega) only [chkP_some, iteB_true, iteB_false, add_mk, Nat.zero_add, Nat.add_zero, Nat.mul_one, Nat.reduceAdd, Int.toNat_natCast, ex_int, ex_slice, ex_ptr, ex_bool, ex_str, ex_flt, ex_any, bnd_in, List.getElem?_cons_zero, List.getElem?_cons_succ, List.set_cons_zero, List.set_cons_succ, List.cons_append, List.nil_append, bne_self_eq_false, beq_self_eq_true, Bool.not_true, Bool.not_false, Option.isNone_some, Option.isNone_none, eq_self, true_and, and_true, and_self, s.rd0]
    exact hk h' s.tail
  · refine s.st0 (by simp) fun h6 s6 => ?_
    try simp -zeta (disch := omega) only [chkP_some, iteB_true, iteB_false, add_mk, Nat.zero_add, Nat.add_zero, Nat.mul_one, Nat.reduceAdd, Int.toNat_natCast, ex_int, ex_slice, ex_ptr, ex_bool, ex_str, ex_flt, ex_any, bnd_in, List.getElem?_cons_zero, List.getElem?_cons_succ, List.set_cons_zero, List.set_cons_succ, List.cons_append, List.nil_append, bne_self_eq_false, beq_self_eq_true, Bool.not_true, Bool.not_false, Option.isNone_some, Option.isNone_none, eq_self, true_and, and_true, and_self, s6.rd0]
    refine s6.st0 (by simp) fun h7 s7 => ?_
    try simp -zeta (disch := omega) only [chkP_some, iteB_true, iteB_false, add_mk, Nat.zero_add, Nat.add_zero, Nat.mul_one, Nat.reduceAdd, Int.toNat_natCast, ex_int, ex_slice, ex_ptr, ex_bool, ex_str, ex_flt, ex_any, bnd_in, List.getElem?_cons_zero, List.getElem?_cons_succ, List.set_cons_zero, List.set_cons_succ, List.cons_append, List.nil_append, bne_self_eq_false, beq_self_eq_true, Bool.not_true, Bool.not_false, Option.isNone_some, Option.isNone_none, eq_self, true_and, and_true, and_self, s7.rd0]
    have := hk h7 s7.tail; rw [e] at this; exact this

theorem RNormal_of {h : Heap} {e : Ed} {K : Int → Int → Int → Heap → Prop} (s : St h0 h R) (hk : ∀ h', St h0 h' R → K (normE e).1 (normE e).2.1 (normE e).2.2 h') : straitref15_Normal e.1 e.2.1 e.2.2 h K := by
  obtain ⟨u, v, w⟩ := e
  unfold straitref15_Normal
  refine s.new_ fun b1 h1 s1 => s1.new_ fun b2 h2 s2 => ?_
  try simp -zeta (disch := omega) only [chkP_some, iteB_true, iteB_false, add_mk, Nat.zero_add, Nat.add_zero, Nat.mul_one, Nat.reduceAdd, Int.toNat_natCast, ex_int, ex_slice, ex_ptr, ex_bool, ex_str, ex_flt, ex_any, bnd_in, List.getElem?_cons_zero, List.getElem?_cons_succ, List.set_cons_zero, List.set_cons_succ, List.cons_append, List.nil_append, bne_self_eq_false, beq_self_eq_true, Bool.not_true, Bool.not_false, Option.isNone_some, Option.isNone_none, eq_self, true_and, and_true, and_self, s2.rd0, s2.rd1]
  refine iteB_intro (fun e => ?_) (fun e => ?_)
  · have e := of_decide_eq_true e
    try simp -zeta (disch := omega) only [chkP_some, iteB_true, iteB_false, add_mk, Nat.zero_add, Nat.add_zero, Nat.mul_one, Nat.reduceAdd, Int.toNat_natCast, ex_int, ex_slice, ex_ptr, ex_bool, ex_str, ex_flt, ex_any, bnd_in, List.getElem?_cons_zero, List.getElem?_cons_succ, List.set_cons_zero, List.set_cons_succ, List.cons_append, List.nil_append, bne_self_eq_false, beq_self_eq_true, Bool.not_true, Bool.not_false, Option.isNone_some, Option.isNone_none, eq_self, true_and, and_true, and_self, s2.rd0, s2.rd1]
    refine s2.st0 (by simp) fun h3 s3 => ?_
    try simp -zeta (disch := omega) only [chkP_some, iteB_true, iteB_false, add_mk, Nat.zero_add, Nat.add_zero, Nat.mul_one, Nat.reduceAdd, Int.toNat_natCast, ex_int, ex_slice, ex_ptr, ex_bool, ex_str, ex_flt, ex_any, bnd_in, List.getElem?_cons_zero, List.getElem?_cons_succ, List.set_cons_zero, List.set_cons_succ, List.cons_append, List.nil_append, bne_self_eq_false, beq_self_eq_true, Bool.not_true, Bool.not_false, Option.isNone_some, Option.isNone_none, eq_self, true_and, and_true, and_self, s3.rd0, s3.rd1]
    refine s3.st0 (by simp) fun h4 s4 => ?_
    try simp -zeta (disch := omega) only [chkP_some, iteB_true, iteB_false, add_mk, Nat.zero_add, Nat.add_zero, Nat.mul_one, Nat.reduceAdd, Int.toNat_natCast, ex_int, ex_slice, ex_ptr, ex_bool, ex_str, ex_flt, ex_any, bnd_in, List.getElem?_cons_zero, List.getElem?_cons_succ, List.set_cons_zero, List.set_cons_succ, List.cons_append, List.nil_append, bne_self_eq_false, beq_self_eq_true, Bool.not_true, Bool.not_false, Option.isNone_some, Option.isNone_none, eq_self, true_and, and_true, and_self, s4.rd0, s4.rd1]
    refine s4.st0 (by simp) fun h5 s5 => ?_
    try simp -zeta (disch := omega) only [chkP_some, iteB_true, iteB_false, add_mk, Nat.zero_add, Nat.add_zero, Nat.mul_one, Nat.reduceAdd, Int.toNat_natCast, ex_int, ex_slice, ex_ptr, ex_bool, ex_str, ex_flt, ex_any, bnd_in, List.getElem?_cons_zero, List.getElem?_cons_succ, List.set_cons_zero, List.set_cons_succ, List.cons_append, List.nil_append, bne_self_eq_false, beq_self_eq_true, Bool.not_true, Bool.not_false, Option.isNone_some, Option.isNone_none, eq_self, true_and, and_true, and_self, s5.rd0, s5.rd1]
    have := hk h5 s5.tail.tail
    rw [normE_pos e] at this; exact this
  · have e := of_decide_eq_false e
    try simp -zeta (disch := omega) only [chkP_some, iteB_true, iteB_false, add_mk, Nat.zero_add, Nat.add_zero, Nat.mul_one, Nat.reduceAdd, Int.toNat_natCast, ex_int, ex_slice, ex_ptr, ex_bool, ex_str, ex_flt, ex_any, bnd_in, List.getElem?_cons_zero, List.getElem?_cons_succ, List.set_cons_zero, List.set_cons_succ, List.cons_append, List.nil_append, bne_self_eq_false, beq_self_eq_true, Bool.not_true, Bool.not_false, Option.isNone_some, Option.isNone_none, eq_self, true_and, and_true, and_self, s2.rd0, s2.rd1]
    refine s2.st0 (by simp) fun h3 s3 => ?_
    try simp -zeta (disch := omega) only [chkP_some, iteB_true, iteB_false, add_mk, Nat.zero_add, Nat.add_zero, Nat.mul_one, Nat.reduceAdd, Int.toNat_natCast, ex_int, ex_slice, ex_ptr, ex_bool, ex_str, ex_flt, ex_any, bnd_in, List.getElem?_cons_zero, List.getElem?_cons_succ, List.set_cons_zero, List.set_cons_succ, List.cons_append, List.nil_append, bne_self_eq_false, beq_self_eq_true, Bool.not_true, Bool.not_false, Option.isNone_some, Option.isNone_none, eq_self, true_and, and_true, and_self, s3.rd0, s3.rd1]
    refine s3.st0 (by simp) fun h4 s4 => ?_
    try simp -zeta (disch := omega) only [chkP_some, iteB_true, iteB_false, add_mk, Nat.zero_add, Nat.add_zero, Nat.mul_one, Nat.reduceAdd, Int.toNat_natCast, ex_int, ex_slice, ex_ptr, ex_bool, ex_str, ex_flt, ex_any, bnd_in, List.getElem?_cons_zero, List.getElem?_cons_succ, List.set_cons_zero, List.set_cons_succ, List.cons_append, List.nil_append, bne_self_eq_false, beq_self_eq_true, Bool.not_true, Bool.not_false, Option.isNone_some, Option.isNone_none, eq_self, true_and, and_true, and_self, s4.rd0, s4.rd1]
    refine s4.st0 (by simp) fun h5 s5 => ?_
    try simp -zeta (disch := omega) only [chkP_some, iteB_true, iteB_false, add_mk, Nat.zero_add, Nat.add_zero, Nat.mul_one, Nat.reduceAdd, Int.toNat_natCast, ex_int, ex_slice, ex_ptr, ex_bool, ex_str, ex_flt, ex_any, bnd_in, List.getElem?_cons_zero, List.getElem?_cons_succ, List.set_cons_zero, List.set_cons_succ, List.cons_append, List.nil_append, bne_self_eq_false, beq_self_eq_true, Bool.not_true, Bool.not_false, Option.isNone_some, Option.isNone_none, eq_self, true_and, and_true, and_self, s5.rd0, s5.rd1]
    have := hk h5 s5.tail.tail
    rw [normE_neg e] at this; exact this

theorem cfI_lt {x y : Int} (h : x < y) : cfI x y = -1 := if_pos h
theorem cfI_gt {x y : Int} (h : x > y) : cfI x y = 1 := by unfold cfI; rw [if_neg (by omega), if_pos h]
theorem rcmp_l0 {h : Heap} {b c : Nat} {e f : Ed} {L : Rws} {K0 : Int → Heap → Prop} {K2 : Heap → Prop} (s : St h0 h L) (hb : (b, Ed.vs e) ∈ L) (hc : (c, Ed.vs f) ∈ L) (hk0 : K0 (cmpEd e f) h) (hk2 : cmpEd e f = 0 → K2 h) :
    straitref15_Cmp.l0 K0 K2 4 ⟨b, 0, none⟩ ⟨c, 0, none⟩ 0 h := by
  obtain ⟨u, v, w⟩ := e
  obtain ⟨x, y, z⟩ := f
  have r0 : ∀ j, cell h ⟨b, j, none⟩ = _ := s.rd hb
  have r1 : ∀ j, cell h ⟨c, j, none⟩ = _ := s.rd hc
  simp only [Ed.vs] at r0 r1
  unfold straitref15_Cmp.l0 straitref15_Cmp.b0
  refine iteB_pos rfl ?_
  simp -zeta (disch := omega) only [chkP_some, iteB_true, iteB_false, add_mk, Nat.zero_add, Nat.add_zero, Nat.mul_one, Nat.reduceAdd, Int.toNat_natCast, ex_int, ex_slice, ex_ptr, ex_bool, ex_str, ex_flt, ex_any, bnd_in, List.getElem?_cons_zero, List.getElem?_cons_succ, List.set_cons_zero, List.set_cons_succ, List.cons_append, List.nil_append, bne_self_eq_false, beq_self_eq_true, Bool.not_true, Bool.not_false, Option.isNone_some, Option.isNone_none, eq_self, true_and, and_true, and_self, r0, r1, Int.toNat_zero, Int.reduceToNat, Nat.zero_mul]
  refine iteB_intro (fun d => ?_) fun d1 => iteB_intro (fun d => ?_) fun d2 => ?_
  · have d := of_decide_eq_true d
    rwa [show cmpEd (u, v, w) (x, y, z) = -1 by simp only [cmpEd]; rw [cfI_lt d]; rfl] at hk0
  · have d1 := of_decide_eq_false d1
    have d := of_decide_eq_true d
    rwa [show cmpEd (u, v, w) (x, y, z) = 1 by simp only [cmpEd]; rw [cfI_gt d]; rfl] at hk0
  have d1 := of_decide_eq_false d1
  have d2 := of_decide_eq_false d2
  obtain rfl : u = x := by omega
  have e1 : cmpEd (u, v, w) (u, y, z) = if cfI v y ≠ 0 then cfI v y else cfI w z := by simp only [cmpEd]; rw [if_neg (by simp [cfI])]
  rw [wrap64 (by omega) (by omega)]
  unfold straitref15_Cmp.l0 straitref15_Cmp.b0
  refine iteB_pos rfl ?_
  simp -zeta (disch := omega) only [chkP_some, iteB_true, iteB_false, add_mk, Nat.zero_add, Nat.add_zero, Nat.mul_one, Nat.reduceAdd, Int.toNat_natCast, ex_int, ex_slice, ex_ptr, ex_bool, ex_str, ex_flt, ex_any, bnd_in, List.getElem?_cons_zero, List.getElem?_cons_succ, List.set_cons_zero, List.set_cons_succ, List.cons_append, List.nil_append, bne_self_eq_false, beq_self_eq_true, Bool.not_true, Bool.not_false, Option.isNone_some, Option.isNone_none, eq_self, true_and, and_true, and_self, r0, r1, Int.reduceAdd, Int.reduceToNat]
  refine iteB_intro (fun d => ?_) fun d3 => iteB_intro (fun d => ?_) fun d4 => ?_
  · have d := of_decide_eq_true d
    rwa [show cmpEd (u, v, w) (u, y, z) = -1 by rw [e1, cfI_lt d]; rfl] at hk0
  · have d3 := of_decide_eq_false d3
    have d := of_decide_eq_true d
    rwa [show cmpEd (u, v, w) (u, y, z) = 1 by rw [e1, cfI_gt d]; rfl] at hk0
  have d3 := of_decide_eq_false d3
  have d4 := of_decide_eq_false d4
  obtain rfl : v = y := by omega
  have e2 : cmpEd (u, v, w) (u, v, z) = cfI w z := by rw [e1, if_neg (by simp [cfI])]
  rw [wrap64 (by omega) (by omega)]
  unfold straitref15_Cmp.l0 straitref15_Cmp.b0
  refine iteB_pos rfl ?_
  simp -zeta (disch := omega) only [chkP_some, iteB_true, iteB_false, add_mk, Nat.zero_add, Nat.add_zero, Nat.mul_one, Nat.reduceAdd, Int.toNat_natCast, ex_int, ex_slice, ex_ptr, ex_bool, ex_str, ex_flt, ex_any, bnd_in, List.getElem?_cons_zero, List.getElem?_cons_succ, List.set_cons_zero, List.set_cons_succ, List.cons_append, List.nil_append, bne_self_eq_false, beq_self_eq_true, Bool.not_true, Bool.not_false, Option.isNone_some, Option.isNone_none, eq_self, true_and, and_true, and_self, r0, r1, Int.reduceAdd, Int.reduceToNat]
  refine iteB_intro (fun d => ?_) fun d5 => iteB_intro (fun d => ?_) fun d6 => ?_
  · have d := of_decide_eq_true d
    rwa [show cmpEd (u, v, w) (u, v, z) = -1 by rw [e2, cfI_lt d]] at hk0
  · have d5 := of_decide_eq_false d5
    have d := of_decide_eq_true d
    rwa [show cmpEd (u, v, w) (u, v, z) = 1 by rw [e2, cfI_gt d]] at hk0
  have d5 := of_decide_eq_false d5
  have d6 := of_decide_eq_false d6
  obtain rfl : w = z := by omega
  rw [wrap64 (by omega) (by omega)]
  unfold straitref15_Cmp.l0 straitref15_Cmp.b0
  exact iteB_neg rfl (hk2 (by rw [e2]; simp [cfI]))
theorem RCmp_of {h : Heap} {e f : Ed} {K : Int → Heap → Prop} (s : St h0 h R) (hk : ∀ h', St h0 h' R → K (cmpEd e f) h') : straitref15_Cmp e.1 e.2.1 e.2.2 f.1 f.2.1 f.2.2 h K := by
  obtain ⟨u, v, w⟩ := e
  obtain ⟨x, y, z⟩ := f
  unfold straitref15_Cmp
  refine s.new_ fun b1 h1 s1 => s1.new_ fun b2 h2 s2 => ?_
  try simp -zeta (disch := omega) only [chkP_some, iteB_true, iteB_false, add_mk, Nat.zero_add, Nat.add_zero, Nat.mul_one, Nat.reduceAdd, Int.toNat_natCast, ex_int, ex_slice, ex_ptr, ex_bool, ex_str, ex_flt, ex_any, bnd_in, List.getElem?_cons_zero, List.getElem?_cons_succ, List.set_cons_zero, List.set_cons_succ, List.cons_append, List.nil_append, bne_self_eq_false, beq_self_eq_true, Bool.not_true, Bool.not_false, Option.isNone_some, Option.isNone_none, eq_self, true_and, and_true, and_self, s2.rd0, s2.rd1]
  refine ⟨s2.new_ fun b3 h3 s3 => ?_, s2.new_ fun b3 h3 s3 => ?_⟩
  · try simp -zeta (disch := omega) only [chkP_some, iteB_true, iteB_false, add_mk, Nat.zero_add, Nat.add_zero, Nat.mul_one, Nat.reduceAdd, Int.toNat_natCast, ex_int, ex_slice, ex_ptr, ex_bool, ex_str, ex_flt, ex_any, bnd_in, List.getElem?_cons_zero, List.getElem?_cons_succ, List.set_cons_zero, List.set_cons_succ, List.cons_append, List.nil_append, bne_self_eq_false, beq_self_eq_true, Bool.not_true, Bool.not_false, Option.isNone_some, Option.isNone_none, eq_self, true_and, and_true, and_self, s3.rd0, s3.rd1, s3.rd2]
    refine s3.new_ fun b4 h4 s4 => ?_
    try simp -zeta (disch := omega) only [chkP_some, iteB_true, iteB_false, add_mk, Nat.zero_add, Nat.add_zero, Nat.mul_one, Nat.reduceAdd, Int.toNat_natCast, ex_int, ex_slice, ex_ptr, ex_bool, ex_str, ex_flt, ex_any, bnd_in, List.getElem?_cons_zero, List.getElem?_cons_succ, List.set_cons_zero, List.set_cons_succ, List.cons_append, List.nil_append, bne_self_eq_false, beq_self_eq_true, Bool.not_true, Bool.not_false, Option.isNone_some, Option.isNone_none, eq_self, true_and, and_true, and_self, s4.rd0, s4.rd1, s4.rd2, s4.rd3]
    refine s4.st1 (by simp) fun h5 s5 => ?_
    try simp -zeta (disch := omega) only [chkP_some, iteB_true, iteB_false, add_mk, Nat.zero_add, Nat.add_zero, Nat.mul_one, Nat.reduceAdd, Int.toNat_natCast, ex_int, ex_slice, ex_ptr, ex_bool, ex_str, ex_flt, ex_any, bnd_in, List.getElem?_cons_zero, List.getElem?_cons_succ, List.set_cons_zero, List.set_cons_succ, List.cons_append, List.nil_append, bne_self_eq_false, beq_self_eq_true, Bool.not_true, Bool.not_false, Option.isNone_some, Option.isNone_none, eq_self, true_and, and_true, and_self, s5.rd0, s5.rd1, s5.rd2, s5.rd3]
    refine s5.st1 (by simp) fun h6 s6 => ?_
    try simp -zeta (disch := omega) only [chkP_some, iteB_true, iteB_false, add_mk, Nat.zero_add, Nat.add_zero, Nat.mul_one, Nat.reduceAdd, Int.toNat_natCast, ex_int, ex_slice, ex_ptr, ex_bool, ex_str, ex_flt, ex_any, bnd_in, List.getElem?_cons_zero, List.getElem?_cons_succ, List.set_cons_zero, List.set_cons_succ, List.cons_append, List.nil_append, bne_self_eq_false, beq_self_eq_true, Bool.not_true, Bool.not_false, Option.isNone_some, Option.isNone_none, eq_self, true_and, and_true, and_self, s6.rd0, s6.rd1, s6.rd2, s6.rd3]
    refine s6.st1 (by simp) fun h7 s7 => ?_
    try simp -zeta (disch := omega) only [chkP_some, iteB_true, iteB_false, add_mk, Nat.zero_add, Nat.add_zero, Nat.mul_one, Nat.reduceAdd, Int.toNat_natCast, ex_int, ex_slice, ex_ptr, ex_bool, ex_str, ex_flt, ex_any, bnd_in, List.getElem?_cons_zero, List.getElem?_cons_succ, List.set_cons_zero, List.set_cons_succ, List.cons_append, List.nil_append, bne_self_eq_false, beq_self_eq_true, Bool.not_true, Bool.not_false, Option.isNone_some, Option.isNone_none, eq_self, true_and, and_true, and_self, s7.rd0, s7.rd1, s7.rd2, s7.rd3]
    refine s7.st0 (by simp) fun h8 s8 => ?_
    try simp -zeta (disch := omega) only [chkP_some, iteB_true, iteB_false, add_mk, Nat.zero_add, Nat.add_zero, Nat.mul_one, Nat.reduceAdd, Int.toNat_natCast, ex_int, ex_slice, ex_ptr, ex_bool, ex_str, ex_flt, ex_any, bnd_in, List.getElem?_cons_zero, List.getElem?_cons_succ, List.set_cons_zero, List.set_cons_succ, List.cons_append, List.nil_append, bne_self_eq_false, beq_self_eq_true, Bool.not_true, Bool.not_false, Option.isNone_some, Option.isNone_none, eq_self, true_and, and_true, and_self, s8.rd0, s8.rd1, s8.rd2, s8.rd3]
    refine s8.st0 (by simp) fun h9 s9 => ?_
    try simp -zeta (disch := omega) only [chkP_some, iteB_true, iteB_false, add_mk, Nat.zero_add, Nat.add_zero, Nat.mul_one, Nat.reduceAdd, Int.toNat_natCast, ex_int, ex_slice, ex_ptr, ex_bool, ex_str, ex_flt, ex_any, bnd_in, List.getElem?_cons_zero, List.getElem?_cons_succ, List.set_cons_zero, List.set_cons_succ, List.cons_append, List.nil_append, bne_self_eq_false, beq_self_eq_true, Bool.not_true, Bool.not_false, Option.isNone_some, Option.isNone_none, eq_self, true_and, and_true, and_self, s9.rd0, s9.rd1, s9.rd2, s9.rd3]
    refine s9.st0 (by simp) fun h10 s10 => ?_
    simp only [List.set_cons_zero, List.set_cons_succ] at s10
    have hk := hk h10 s10.tail.tail.tail.tail
    exact ⟨4, rcmp_l0 (e := (u, v, w)) (f := (x, y, z)) s10 (by simp [Ed.vs]) (by simp [Ed.vs]) hk fun e => by rw [e] at hk; exact hk⟩
  · try simp -zeta (disch := omega) only [chkP_some, iteB_true, iteB_false, add_mk, Nat.zero_add, Nat.add_zero, Nat.mul_one, Nat.reduceAdd, Int.toNat_natCast, ex_int, ex_slice, ex_ptr, ex_bool, ex_str, ex_flt, ex_any, bnd_in, List.getElem?_cons_zero, List.getElem?_cons_succ, List.set_cons_zero, List.set_cons_succ, List.cons_append, List.nil_append, bne_self_eq_false, beq_self_eq_true, Bool.not_true, Bool.not_false, Option.isNone_some, Option.isNone_none, eq_self, true_and, and_true, and_self, s3.rd0, s3.rd1, s3.rd2]
    refine s3.new_ fun b4 h4 s4 => ?_
    try simp -zeta (disch := omega) only [chkP_some, iteB_true, iteB_false, add_mk, Nat.zero_add, Nat.add_zero, Nat.mul_one, Nat.reduceAdd, Int.toNat_natCast, ex_int, ex_slice, ex_ptr, ex_bool, ex_str, ex_flt, ex_any, bnd_in, List.getElem?_cons_zero, List.getElem?_cons_succ, List.set_cons_zero, List.set_cons_succ, List.cons_append, List.nil_append, bne_self_eq_false, beq_self_eq_true, Bool.not_true, Bool.not_false, Option.isNone_some, Option.isNone_none, eq_self, true_and, and_true, and_self, s4.rd0, s4.rd1, s4.rd2, s4.rd3]
    refine s4.st0 (by simp) fun h5 s5 => ?_
    try simp -zeta (disch := omega) only [chkP_some, iteB_true, iteB_false, add_mk, Nat.zero_add, Nat.add_zero, Nat.mul_one, Nat.reduceAdd, Int.toNat_natCast, ex_int, ex_slice, ex_ptr, ex_bool, ex_str, ex_flt, ex_any, bnd_in, List.getElem?_cons_zero, List.getElem?_cons_succ, List.set_cons_zero, List.set_cons_succ, List.cons_append, List.nil_append, bne_self_eq_false, beq_self_eq_true, Bool.not_true, Bool.not_false, Option.isNone_some, Option.isNone_none, eq_self, true_and, and_true, and_self, s5.rd0, s5.rd1, s5.rd2, s5.rd3]
    refine s5.st0 (by simp) fun h6 s6 => ?_
    try simp -zeta (disch := omega) only [chkP_some, iteB_true, iteB_false, add_mk, Nat.zero_add, Nat.add_zero, Nat.mul_one, Nat.reduceAdd, Int.toNat_natCast, ex_int, ex_slice, ex_ptr, ex_bool, ex_str, ex_flt, ex_any, bnd_in, List.getElem?_cons_zero, List.getElem?_cons_succ, List.set_cons_zero, List.set_cons_succ, List.cons_append, List.nil_append, bne_self_eq_false, beq_self_eq_true, Bool.not_true, Bool.not_false, Option.isNone_some, Option.isNone_none, eq_self, true_and, and_true, and_self, s6.rd0, s6.rd1, s6.rd2, s6.rd3]
    refine s6.st0 (by simp) fun h7 s7 => ?_
    try simp -zeta (disch := omega) only [chkP_some, iteB_true, iteB_false, add_mk, Nat.zero_add, Nat.add_zero, Nat.mul_one, Nat.reduceAdd, Int.toNat_natCast, ex_int, ex_slice, ex_ptr, ex_bool, ex_str, ex_flt, ex_any, bnd_in, List.getElem?_cons_zero, List.getElem?_cons_succ, List.set_cons_zero, List.set_cons_succ, List.cons_append, List.nil_append, bne_self_eq_false, beq_self_eq_true, Bool.not_true, Bool.not_false, Option.isNone_some, Option.isNone_none, eq_self, true_and, and_true, and_self, s7.rd0, s7.rd1, s7.rd2, s7.rd3]
    refine s7.st1 (by simp) fun h8 s8 => ?_
    try simp -zeta (disch := omega) only [chkP_some, iteB_true, iteB_false, add_mk, Nat.zero_add, Nat.add_zero, Nat.mul_one, Nat.reduceAdd, Int.toNat_natCast, ex_int, ex_slice, ex_ptr, ex_bool, ex_str, ex_flt, ex_any, bnd_in, List.getElem?_cons_zero, List.getElem?_cons_succ, List.set_cons_zero, List.set_cons_succ, List.cons_append, List.nil_append, bne_self_eq_false, beq_self_eq_true, Bool.not_true, Bool.not_false, Option.isNone_some, Option.isNone_none, eq_self, true_and, and_true, and_self, s8.rd0, s8.rd1, s8.rd2, s8.rd3]
    refine s8.st1 (by simp) fun h9 s9 => ?_
    try simp -zeta (disch := omega) only [chkP_some, iteB_true, iteB_false, add_mk, Nat.zero_add, Nat.add_zero, Nat.mul_one, Nat.reduceAdd, Int.toNat_natCast, ex_int, ex_slice, ex_ptr, ex_bool, ex_str, ex_flt, ex_any, bnd_in, List.getElem?_cons_zero, List.getElem?_cons_succ, List.set_cons_zero, List.set_cons_succ, List.cons_append, List.nil_append, bne_self_eq_false, beq_self_eq_true, Bool.not_true, Bool.not_false, Option.isNone_some, Option.isNone_none, eq_self, true_and, and_true, and_self, s9.rd0, s9.rd1, s9.rd2, s9.rd3]
    refine s9.st1 (by simp) fun h10 s10 => ?_
    simp only [List.set_cons_zero, List.set_cons_succ] at s10
    have hk := hk h10 s10.tail.tail.tail.tail
    exact ⟨4, rcmp_l0 (e := (u, v, w)) (f := (x, y, z)) s10 (by simp [Ed.vs]) (by simp [Ed.vs]) hk fun e => by rw [e] at hk; exact hk⟩

/-! ### Where one is -/
def hitE (u v : Int) (e : Ed) : Prop := (e.1 = u ∧ e.2.1 = v) ∨ (e.1 = v ∧ e.2.1 = u)
instance (u v : Int) (e : Ed) : Decidable (hitE u v e) := by unfold hitE; exact inferInstance
def findE (u v : Int) : Nat → List Ed → Int
  | _, [] => -1
  | i, e :: l => if hitE u v e then (i : Int) else findE u v (i + 1) l
theorem hit_norm (u v : Int) (e : Ed) : ((normE e).1 = (normE (u, v, 0)).1 ∧ (normE e).2.1 = (normE (u, v, 0)).2.1) ↔ hitE u v e := by
  unfold hitE normE
  obtain ⟨a, b, c⟩ := e
  simp only
  split <;> split <;> simp only <;> omega
theorem Find1_of {h : Heap} {e k : Ed} {b : Nat} {K : Bool → Heap → Prop} (s : St h0 h ((b, Ed.vs k) :: R)) (hk : ∀ h', St h0 h' ((b, Ed.vs k) :: R) → K (decide ((normE e).1 = k.1 ∧ (normE e).2.1 = k.2.1)) h') : edge_Find_c1 e.1 e.2.1 e.2.2 ⟨b, 0, none⟩ h K := by
  obtain ⟨u, v, w⟩ := e
  obtain ⟨x, y, z⟩ := k
  unfold edge_Find_c1
  refine s.new_ fun b1 h1 s1 => ?_
  try simp -zeta (disch := omega) only [chkP_some, iteB_true, iteB_false, add_mk, Nat.zero_add, Nat.add_zero, Nat.mul_one, Nat.reduceAdd, Int.toNat_natCast, ex_int, ex_slice, ex_ptr, ex_bool, ex_str, ex_flt, ex_any, bnd_in, List.getElem?_cons_zero, List.getElem?_cons_succ, List.set_cons_zero, List.set_cons_succ, List.cons_append, List.nil_append, bne_self_eq_false, beq_self_eq_true, Bool.not_true, Bool.not_false, Option.isNone_some, Option.isNone_none, eq_self, true_and, and_true, and_self, s1.rd0]
  refine callP3.self (Normal_of (e := (u, v, w)) s1 fun h2 s2 => ?_)
  refine s2.st0 (by simp) fun h3 s3 => ?_
  try simp -zeta (disch := omega) only [chkP_some, iteB_true, iteB_false, add_mk, Nat.zero_add, Nat.add_zero, Nat.mul_one, Nat.reduceAdd, Int.toNat_natCast, ex_int, ex_slice, ex_ptr, ex_bool, ex_str, ex_flt, ex_any, bnd_in, List.getElem?_cons_zero, List.getElem?_cons_succ, List.set_cons_zero, List.set_cons_succ, List.cons_append, List.nil_append, bne_self_eq_false, beq_self_eq_true, Bool.not_true, Bool.not_false, Option.isNone_some, Option.isNone_none, eq_self, true_and, and_true, and_self, s3.rd0, s3.rd1]
  refine s3.st0 (by simp) fun h4 s4 => ?_
  try simp -zeta (disch := omega) only [chkP_some, iteB_true, iteB_false, add_mk, Nat.zero_add, Nat.add_zero, Nat.mul_one, Nat.reduceAdd, Int.toNat_natCast, ex_int, ex_slice, ex_ptr, ex_bool, ex_str, ex_flt, ex_any, bnd_in, List.getElem?_cons_zero, List.getElem?_cons_succ, List.set_cons_zero, List.set_cons_succ, List.cons_append, List.nil_append, bne_self_eq_false, beq_self_eq_true, Bool.not_true, Bool.not_false, Option.isNone_some, Option.isNone_none, eq_self, true_and, and_true, and_self, s4.rd0, s4.rd1]
  refine s4.st0 (by simp) fun h5 s5 => ?_
  simp only [Ed.vs] at s5
  try simp -zeta (disch := omega) only [chkP_some, iteB_true, iteB_false, add_mk, Nat.zero_add, Nat.add_zero, Nat.mul_one, Nat.reduceAdd, Int.toNat_natCast, ex_int, ex_slice, ex_ptr, ex_bool, ex_str, ex_flt, ex_any, bnd_in, List.getElem?_cons_zero, List.getElem?_cons_succ, List.set_cons_zero, List.set_cons_succ, List.cons_append, List.nil_append, bne_self_eq_false, beq_self_eq_true, Bool.not_true, Bool.not_false, Option.isNone_some, Option.isNone_none, eq_self, true_and, and_true, and_self, s5.rd0, s5.rd1]
  have hk := hk h5 s5.tail
  simp only at hk
  refine iteB_intro (fun d => ?_) fun d => ?_
  · have d : (normE (u, v, w)).1 = x := by simpa using d
    try simp -zeta (disch := omega) only [chkP_some, iteB_true, iteB_false, add_mk, Nat.zero_add, Nat.add_zero, Nat.mul_one, Nat.reduceAdd, Int.toNat_natCast, ex_int, ex_slice, ex_ptr, ex_bool, ex_str, ex_flt, ex_any, bnd_in, List.getElem?_cons_zero, List.getElem?_cons_succ, List.set_cons_zero, List.set_cons_succ, List.cons_append, List.nil_append, bne_self_eq_false, beq_self_eq_true, Bool.not_true, Bool.not_false, Option.isNone_some, Option.isNone_none, eq_self, true_and, and_true, and_self, s5.rd0, s5.rd1]
    rw [show decide ((normE (u, v, w)).1 = x ∧ (normE (u, v, w)).2.1 = y) = ((normE (u, v, w)).2.1 == y) by simp [d]; rfl] at hk
    exact hk
  · have d : ¬ (normE (u, v, w)).1 = x := by simpa using d
    rw [decide_eq_false (fun h => d h.1)] at hk; exact hk
theorem find1_l0 {K0 : Int → Heap → Prop} {K2 : Heap → Prop} {u v : Int} {b k cl : Nat} {q : Option Addr} {l : List Ed} (hl : l.length = k) (hb : k < 2 ^ 40) (kl : Keeps h0 R q (eV l))
    (hk0 : ∀ h', St h0 h' R → K0 (findE u v 0 l) h') (hk2 : ∀ h', findE u v 0 l = -1 → St h0 h' R → K2 h') :
    ∀ (d i : Nat) (h : Heap), i + d = k → findE u v i (l.drop i) = findE u v 0 l → St h0 h ((b, Ed.vs (normE (u, v, 0))) :: R) → slices_IndexFunc_Lapi_Edge_api_Edge_edge_Find_c1.l0 K0 K2 (d + 1) q k cl ⟨b, 0, none⟩ (k : Int) (i : Int) h
  | 0, i, h, hi, he, s => by
    unfold slices_IndexFunc_Lapi_Edge_api_Edge_edge_Find_c1.l0 slices_IndexFunc_Lapi_Edge_api_Edge_edge_Find_c1.b0
    rw [List.drop_of_length_le (by omega)] at he
    exact iteB_neg (decide_eq_false (by omega)) (hk2 h he.symm s.tail)
  | d + 1, i, h, hi, he, s => by
    unfold slices_IndexFunc_Lapi_Edge_api_Edge_edge_Find_c1.l0 slices_IndexFunc_Lapi_Edge_api_Edge_edge_Find_c1.b0
    obtain ⟨⟨a, c, w⟩, hx⟩ := get_lt (l := l) (i := i) (by omega)
    have vl := kl.atC s
    refine iteB_pos (decide_eq_true (by omega)) ?_
    simp -zeta (disch := omega) only [chkP_some, iteB_true, iteB_false, add_mk, Nat.zero_add, Nat.add_zero, Nat.mul_one, Nat.reduceAdd, Int.toNat_natCast, ex_int, ex_slice, ex_ptr, ex_bool, ex_str, ex_flt, ex_any, bnd_in, List.getElem?_cons_zero, List.getElem?_cons_succ, List.set_cons_zero, List.set_cons_succ, List.cons_append, List.nil_append, bne_self_eq_false, beq_self_eq_true, Bool.not_true, Bool.not_false, Option.isNone_some, Option.isNone_none, eq_self, true_and, and_true, and_self, vals_edge vl hx]
    refine callP1.self (Find1_of (e := (a, c, w)) s fun h5 s5 => ?_)
    rw [drop_cons hx] at he
    by_cases t : hitE u v (a, c, w)
    · rw [show findE u v i ((a, c, w) :: l.drop (i + 1)) = (i : Int) by simp [findE, t]] at he
      refine iteB_pos (decide_eq_true ((hit_norm u v _).2 t)) ?_
      rw [he]; exact hk0 h5 s5.tail
    · rw [show findE u v i ((a, c, w) :: l.drop (i + 1)) = findE u v (i + 1) (l.drop (i + 1)) by simp [findE, t]] at he
      refine iteB_neg (decide_eq_false (fun h => t ((hit_norm u v _).1 h))) ?_
      rw [wrap64 (by omega) (by omega)]
      exact find1_l0 hl hb kl hk0 hk2 d (i + 1) h5 (by omega) he s5
theorem Find_of {h : Heap} {u v : Int} {k cl : Nat} {q : Option Addr} {l : List Ed} {K : Int → Heap → Prop} (hl : l.length = k) (hb : k < 2 ^ 40) (kl : Keeps h0 R q (eV l)) (s : St h0 h R)
    (hk : ∀ h', St h0 h' R → K (findE u v 0 l) h') : edge_Find q k cl u v h K := by
  unfold edge_Find
  refine callP3.self (Normal_of (e := (u, v, 0)) s fun h1 s1 => s1.new_ fun b h2 s2 => s2.st0 (by simp) fun h3 s3 => ?_)
  try simp -zeta (disch := omega) only [chkP_some, iteB_true, iteB_false, add_mk, Nat.zero_add, Nat.add_zero, Nat.mul_one, Nat.reduceAdd, Int.toNat_natCast, ex_int, ex_slice, ex_ptr, ex_bool, ex_str, ex_flt, ex_any, bnd_in, List.getElem?_cons_zero, List.getElem?_cons_succ, List.set_cons_zero, List.set_cons_succ, List.cons_append, List.nil_append, bne_self_eq_false, beq_self_eq_true, Bool.not_true, Bool.not_false, Option.isNone_some, Option.isNone_none, eq_self, true_and, and_true, and_self, s3.rd0]
  refine s3.st0 (by simp) fun h4 s4 => ?_
  try simp -zeta (disch := omega) only [chkP_some, iteB_true, iteB_false, add_mk, Nat.zero_add, Nat.add_zero, Nat.mul_one, Nat.reduceAdd, Int.toNat_natCast, ex_int, ex_slice, ex_ptr, ex_bool, ex_str, ex_flt, ex_any, bnd_in, List.getElem?_cons_zero, List.getElem?_cons_succ, List.set_cons_zero, List.set_cons_succ, List.cons_append, List.nil_append, bne_self_eq_false, beq_self_eq_true, Bool.not_true, Bool.not_false, Option.isNone_some, Option.isNone_none, eq_self, true_and, and_true, and_self, s4.rd0]
  refine s4.st0 (by simp) fun h5 s5 => ?_
  refine callP1.self ?_
  unfold slices_IndexFunc_Lapi_Edge_api_Edge_edge_Find_c1
  exact ⟨k + 1, find1_l0 (u := u) (v := v) hl hb kl (fun h' s => hk h' s) (fun h' e s => by have := hk h' s; rw [e] at this; exact this) k 0 h5 (by omega) rfl s5⟩

theorem rfind_l0 {h : Heap} {K0 : Int → Heap → Prop} {K2 : Heap → Prop} {u v : Int} {k cl : Nat} {q : Option Addr} {l : List Ed} (hl : l.length = k) (hb : k < 2 ^ 40) (vl : valsAt h q (eV l))
    (hk0 : K0 (findE u v 0 l) h) (hk2 : findE u v 0 l = -1 → K2 h) :
    ∀ (d i : Nat), i + d = k → findE u v i (l.drop i) = findE u v 0 l → straitref15_Find.l0 K0 K2 (d + 1) q k cl u v (i : Int) h
  | 0, i, hi, he => by
    unfold straitref15_Find.l0 straitref15_Find.b0
    rw [List.drop_of_length_le (by omega)] at he
    exact iteB_neg (decide_eq_false (by omega)) (hk2 he.symm)
  | d + 1, i, hi, he => by
    unfold straitref15_Find.l0 straitref15_Find.b0
    obtain ⟨⟨a, c, w⟩, hx⟩ := get_lt (l := l) (i := i) (by omega)
    refine iteB_pos (decide_eq_true (by omega)) ?_
    intro j
    rw [drop_cons hx] at he
    have J : ¬ hitE u v (a, c, w) → j := fun t => by
      rw [show findE u v i ((a, c, w) :: l.drop (i + 1)) = findE u v (i + 1) (l.drop (i + 1)) by simp [findE, t]] at he
      simp -zeta only [j]
      rw [wrap64 (by omega) (by omega)]
      exact rfind_l0 hl hb vl hk0 hk2 d (i + 1) (by omega) he
    have Y : hitE u v (a, c, w) → K0 (i : Int) h := fun t => by
      rw [show findE u v i ((a, c, w) :: l.drop (i + 1)) = (i : Int) by simp [findE, t]] at he
      rw [he]; exact hk0
    clear_value j
    simp -zeta (disch := omega) only [chkP_some, iteB_true, iteB_false, add_mk, Nat.zero_add, Nat.add_zero, Nat.mul_one, Nat.reduceAdd, Int.toNat_natCast, ex_int, ex_slice, ex_ptr, ex_bool, ex_str, ex_flt, ex_any, bnd_in, List.getElem?_cons_zero, List.getElem?_cons_succ, List.set_cons_zero, List.set_cons_succ, List.cons_append, List.nil_append, bne_self_eq_false, beq_self_eq_true, Bool.not_true, Bool.not_false, Option.isNone_some, Option.isNone_none, eq_self, true_and, and_true, and_self, vals_int vl (eV_get0 hx)]
    have v1 : ∀ {G : Int → Prop}, (chkP q fun a' => ∃ y : Int, cell h ((a'.add (i * 3)).add 1) = some (.int .i64 y) ∧ G y) = G c := by
      intro G; simp only [addr_add]; exact vals_int vl (eV_get1 hx)
    simp -zeta (disch := omega) only [v1]
    unfold hitE at J Y
    simp only at J Y
    refine iteB_intro (fun c1 => ?_) fun c1 => ?_
    · have c1 : a = u := by simpa using c1
      refine iteB_intro (fun c2 => Y (.inl ⟨c1, by simpa using c2⟩)) fun c2 => ?_
      have c2 : ¬ c = v := by simpa using c2
      refine iteB_intro (fun c3 => iteB_intro (fun c4 => Y (.inr ⟨by simpa using c3, by simpa using c4⟩)) fun c4 => J ?_) fun c3 => J ?_
      · have c4 : ¬ c = u := by simpa using c4
        omega
      · have c3 : ¬ a = v := by simpa using c3
        omega
    · have c1 : ¬ a = u := by simpa using c1
      refine iteB_intro (fun c3 => iteB_intro (fun c4 => Y (.inr ⟨by simpa using c3, by simpa using c4⟩)) fun c4 => J ?_) fun c3 => J ?_
      · have c4 : ¬ c = u := by simpa using c4
        omega
      · have c3 : ¬ a = v := by simpa using c3
        omega
theorem RFind_of {h : Heap} {u v : Int} {k cl : Nat} {q : Option Addr} {l : List Ed} {K : Int → Heap → Prop} (hl : l.length = k) (hb : k < 2 ^ 40) (vl : valsAt h q (eV l)) (hk : K (findE u v 0 l) h) : straitref15_Find q k cl u v h K := by
  unfold straitref15_Find
  exact ⟨k + 1, rfind_l0 hl hb vl hk (fun e => by rw [e] at hk; exact hk) k 0 (by omega) rfl⟩
end
end Go.Proofs.Ytapjbmfgmnhpdaa
