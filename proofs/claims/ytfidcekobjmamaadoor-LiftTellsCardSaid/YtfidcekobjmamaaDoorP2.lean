/-
  Jumps in a tree: the document's depth, up, meet, far; the program's for any two numbers.
-/
import Derived.Test.YtfidcekobjmamaaDoorP1
namespace Go.Proofs.YtfidcekobjmamaaDoor
set_option linter.unusedVariables false
set_option linter.unusedSimpArgs false
set_option linter.unnecessarySimpa false
open Go.Hp Go.RowKit
attribute [local irreducible] Go.Hp.iteB Go.Hp.stC Go.Hp.newP

abbrev DT (up : List Int) (n : Nat) (D : Nat → Int) : Prop := ∀ v, v < n → ∃ d : Nat, D v = (d : Int) ∧ hasD (UU up) n d v
/-- Where two meet, or -1. -/
def MeetIs (up : List Int) (n : Nat) (u v r : Int) : Prop := (¬ (inL u n ∧ inL v n) ∧ r = -1) ∨ ∃ (a b da db top p q : Nat), u = a ∧ v = b ∧ hasD (UU up) n da a ∧ hasD (UU up) n db b ∧ IsTop up a b da db top p q ∧ r = top
/-- How far it is, or -1. -/
def FarIs (up : List Int) (n : Nat) (u v r : Int) : Prop := (¬ (inL u n ∧ inL v n) ∧ r = -1) ∨ ∃ (a b da db top p q : Nat), u = a ∧ v = b ∧ hasD (UU up) n da a ∧ hasD (UU up) n db b ∧ IsTop up a b da db top p q ∧ r = ((p + q : Nat) : Int)
theorem upI_at {up : List Int} {n : Nat} {D : Nat → Int} (hD : DT up n D) {d x k : Nat} (hx : hasD (UU up) n d x) (hk : k ≤ d) : upI up n D (x : Int) (k : Int) = (upN (UU up) k x : Int) := by
  obtain ⟨d', e, hd⟩ := hD x hx.lt
  have := hx.lt
  have := hd.uniq hx
  unfold upI
  rw [if_pos ⟨⟨by omega, by omega⟩, by omega, by rw [Int.toNat_natCast, e]; omega⟩, Int.toNat_natCast, Int.toNat_natCast]
section
variable {h0 : Base} {R : Rws} {n : Nat} {up w : List Int} {qU qW : Option Addr} {cU cW : Nat}
theorem Rin_of {h : Heap} {m : Nat} {v : Int} {K : Bool → Heap → Prop} (s : St h0 h R) (hk : ∀ h', St h0 h' R → K (decide (inL v n)) h') : straitref32_in qU n cU qW m cW v h K := by
  unfold straitref32_in
  refine s.new_ fun t h1 s1 => ?_
  have H := hk h1 s1.tail
  refine iteB_intro (fun e => ?_) (fun e => ?_)
  · have e := of_decide_eq_true e
    try simp -zeta (disch := omega) only [chkP_some, iteB_true, iteB_false, add_mk, Nat.zero_add, Nat.add_zero, Nat.mul_one, Nat.reduceAdd, Int.toNat_natCast, ex_int, ex_slice, ex_ptr, ex_bool, ex_str, ex_flt, ex_any, bnd_in, List.getElem?_cons_zero, List.getElem?_cons_succ, List.set_cons_zero, List.set_cons_succ, List.cons_append, List.nil_append, bne_self_eq_false, beq_self_eq_true, Bool.not_true, Bool.not_false, Option.isNone_some, Option.isNone_none, eq_self, true_and, and_true, and_self, s1.rd0]
    rwa [show decide (inL v n) = decide (v < (n : Int)) from decide_eq_decide.2 ⟨fun h => h.2, fun h => ⟨by omega, h⟩⟩] at H
  · have e := of_decide_eq_false e
    rwa [decide_eq_false (fun h : inL v n => e h.1)] at H
theorem RDepth_of {h : Heap} {m : Nat} {D : Nat → Int} {v : Int} {K : Int → Heap → Prop} (hup : up.length = n) (hn : n ≤ 4096) (hD : DT up n D) (kU : Keeps h0 R qU (up.map (Value.int .i64))) (s : St h0 h R)
    (hk : ∀ h', St h0 h' R → K (if inL v n then D v.toNat else -1) h') : straitref32_Depth qU n cU qW m cW v h K := by
  unfold straitref32_Depth
  refine s.new_ fun t h1 s1 => ?_
  try simp -zeta (disch := omega) only [chkP_some, iteB_true, iteB_false, add_mk, Nat.zero_add, Nat.add_zero, Nat.mul_one, Nat.reduceAdd, Int.toNat_natCast, ex_int, ex_slice, ex_ptr, ex_bool, ex_str, ex_flt, ex_any, bnd_in, List.getElem?_cons_zero, List.getElem?_cons_succ, List.set_cons_zero, List.set_cons_succ, List.cons_append, List.nil_append, bne_self_eq_false, beq_self_eq_true, Bool.not_true, Bool.not_false, Option.isNone_some, Option.isNone_none, eq_self, true_and, and_true, and_self, s1.rd0]
  refine callP1.self (Rin_of s1 fun h2 s2 => ?_)
  by_cases c : inL v n
  · rw [decide_eq_true c]
    rw [if_pos c] at hk
    obtain ⟨x, rfl⟩ : ∃ x : Nat, v = x := ⟨v.toNat, by omega⟩
    rw [Int.toNat_natCast] at hk
    obtain ⟨d, e, hd⟩ := hD x (by omega)
    refine iteB_neg rfl ?_
    try simp -zeta (disch := omega) only [chkP_some, iteB_true, iteB_false, add_mk, Nat.zero_add, Nat.add_zero, Nat.mul_one, Nat.reduceAdd, Int.toNat_natCast, ex_int, ex_slice, ex_ptr, ex_bool, ex_str, ex_flt, ex_any, bnd_in, List.getElem?_cons_zero, List.getElem?_cons_succ, List.set_cons_zero, List.set_cons_succ, List.cons_append, List.nil_append, bne_self_eq_false, beq_self_eq_true, Bool.not_true, Bool.not_false, Option.isNone_some, Option.isNone_none, eq_self, true_and, and_true, and_self, s2.rd0]
    refine callP3.self (DUp_of (mW := m) (R := (t, [.slice qU n cU, .slice qW m cW]) :: R) hup hn kU.cons s2 fun q3 c3 X3 h3 o3 s3 => ?_)
    have hl := ways_len hd
    have := hd.lt_n
    have e2 : IntKind.i64.wrap (((ways (UU up) n x).length : Int) - 1) = (d : Int) := by rw [hl, wrap64 (by omega) (by omega)]; omega
    rw [e2, ← e]
    exact hk h3 s3.drop.tail
  · rw [decide_eq_false c]
    rw [if_neg c] at hk
    exact iteB_pos rfl (hk h2 s2.tail)
theorem RUp_of {h : Heap} {m : Nat} {D : Nat → Int} {v k : Int} {K : Int → Heap → Prop} (hup : up.length = n) (hn : n ≤ 4096) (hD : DT up n D) (kU : Keeps h0 R qU (up.map (Value.int .i64))) (s : St h0 h R)
    (hk : ∀ h', St h0 h' R → K (upI up n D v k) h') : straitref32_Up qU n cU qW m cW v k h K := by
  unfold straitref32_Up
  have no : ¬ (inL v n ∧ 0 ≤ k ∧ k ≤ D v.toNat) → ∀ h', St h0 h' R → K (-1) h' := fun c h' s' => by have := hk h' s'; unfold upI at this; rw [if_neg c] at this; exact this
  refine s.new_ fun t h1 s1 => ?_
  intro j
  try simp -zeta (disch := omega) only [chkP_some, iteB_true, iteB_false, add_mk, Nat.zero_add, Nat.add_zero, Nat.mul_one, Nat.reduceAdd, Int.toNat_natCast, ex_int, ex_slice, ex_ptr, ex_bool, ex_str, ex_flt, ex_any, bnd_in, List.getElem?_cons_zero, List.getElem?_cons_succ, List.set_cons_zero, List.set_cons_succ, List.cons_append, List.nil_append, bne_self_eq_false, beq_self_eq_true, Bool.not_true, Bool.not_false, Option.isNone_some, Option.isNone_none, eq_self, true_and, and_true, and_self, s1.rd0]
  refine callP1.self (Rin_of s1 fun h2 s2 => ?_)
  by_cases c : inL v n
  · rw [decide_eq_true c]
    refine iteB_neg rfl (iteB_intro (fun e => no (fun h => absurd h.2.1 (by have := of_decide_eq_true e; omega)) h2 s2.tail) (fun e => ?_))
    have e := of_decide_eq_false e
    simp -zeta only [j]
    clear j
    obtain ⟨x, rfl⟩ : ∃ x : Nat, v = x := ⟨v.toNat, by omega⟩
    obtain ⟨y, rfl⟩ : ∃ x : Nat, k = x := ⟨k.toNat, by omega⟩
    obtain ⟨d, ed, hd⟩ := hD x (by omega)
    try simp -zeta (disch := omega) only [chkP_some, iteB_true, iteB_false, add_mk, Nat.zero_add, Nat.add_zero, Nat.mul_one, Nat.reduceAdd, Int.toNat_natCast, ex_int, ex_slice, ex_ptr, ex_bool, ex_str, ex_flt, ex_any, bnd_in, List.getElem?_cons_zero, List.getElem?_cons_succ, List.set_cons_zero, List.set_cons_succ, List.cons_append, List.nil_append, bne_self_eq_false, beq_self_eq_true, Bool.not_true, Bool.not_false, Option.isNone_some, Option.isNone_none, eq_self, true_and, and_true, and_self, s2.rd0]
    refine callP3.self (DUp_of (mW := m) (R := (t, [.slice qU n cU, .slice qW m cW]) :: R) hup hn kU.cons s2 fun q3 c3 X3 h3 o3 s3 => ?_)
    have hl := ways_len hd
    refine iteB_intro (fun e2 => no (fun h => absurd h.2.2 (by have e2 := of_decide_eq_true e2; rw [Int.toNat_natCast]; rw [hl] at e2; omega)) h3 s3.drop.tail) (fun e2 => ?_)
    have e2 := of_decide_eq_false e2
    have hy : y ≤ d := by rw [hl] at e2; omega
    have gx : (natV (ways (UU up) n x))[y]? = some (.int .i64 ((upN (UU up) y x : Nat) : Int)) := by simp [natV, ways_at hd hy]
    simp -zeta (disch := omega) only [chkP_some, iteB_true, iteB_false, add_mk, Nat.zero_add, Nat.add_zero, Nat.mul_one, Nat.reduceAdd, Int.toNat_natCast, ex_int, ex_slice, ex_ptr, ex_bool, ex_str, ex_flt, ex_any, bnd_in, List.getElem?_cons_zero, List.getElem?_cons_succ, List.set_cons_zero, List.set_cons_succ, List.cons_append, List.nil_append, bne_self_eq_false, beq_self_eq_true, Bool.not_true, Bool.not_false, Option.isNone_some, Option.isNone_none, eq_self, true_and, and_true, and_self, vals_int (o3.vals s3) gx]
    have H := hk h3 s3.drop.tail
    rw [upI_at hD hd hy] at H
    exact H
  · rw [decide_eq_false c]
    exact iteB_pos rfl (no (fun h => c h.1) h2 s2.tail)
theorem rmeet_l0 {K0 : Int → Heap → Prop} {K2 : Heap → Prop} {a b a1 b1 : List Nat} {top : Nat} (M : Meets a b a1 top b1) {qa qb : Option Addr} {ca cb : Nat} (ha : a.length ≤ 5000) (hb : b.length ≤ 5000) {h : Heap} (va : valsAt h qa (natV a)) (vb : valsAt h qb (natV b)) (hk : K0 (top : Int) h) :
    ∀ (d i : Nat), i + d = a1.length → straitref32_Meet.l0 K0 K2 (d + 1) qa a.length ca qb b.length cb (i : Int) h
  | d, i, hi => by
    unfold straitref32_Meet.l0 straitref32_Meet.b0
    obtain ⟨r, ea, eb⟩ := M.ex
    have hal : a.length = a1.length + (r.length + 1) := by rw [ea]; simp
    obtain ⟨x, hx⟩ := get_lt (l := a) (i := i) (by omega)
    have gx : (natV a)[i]? = some (.int .i64 (x : Int)) := by simp [natV, hx]
    refine iteB_pos (decide_eq_true (by omega)) ?_
    simp -zeta (disch := omega) only [chkP_some, iteB_true, iteB_false, add_mk, Nat.zero_add, Nat.add_zero, Nat.mul_one, Nat.reduceAdd, Int.toNat_natCast, ex_int, ex_slice, ex_ptr, ex_bool, ex_str, ex_flt, ex_any, bnd_in, List.getElem?_cons_zero, List.getElem?_cons_succ, List.set_cons_zero, List.set_cons_succ, List.cons_append, List.nil_append, bne_self_eq_false, beq_self_eq_true, Bool.not_true, Bool.not_false, Option.isNone_some, Option.isNone_none, eq_self, true_and, and_true, and_self, vals_int va gx]
    refine qcallP1.of (decide (x ∈ b)) (fun Q hQ => In_of rfl (by omega) vb (by rw [decide_eq_decide.2 mem_cast]; exact hQ)) ?_
    cases d with
    | zero =>
      have hia : i = a1.length := by omega
      subst hia
      have hxt : x = top := by
        rw [ea, lget_at rfl] at hx; exact (Option.some.inj hx).symm
      subst hxt
      exact iteB_pos (decide_eq_true (by rw [eb]; simp)) hk
    | succ d =>
      have hx1 : a1[i]? = some x := by rw [ea, List.getElem?_append_left (by omega)] at hx; exact hx
      refine iteB_neg (decide_eq_false (M.na x (List.mem_of_getElem? hx1))) ?_
      rw [wrap_id (by omega) (by omega)]
      exact rmeet_l0 M ha hb va vb hk d (i + 1) (by omega)
theorem RMeet_of {h : Heap} {m : Nat} {u v r : Int} {K : Int → Heap → Prop} (hup : up.length = n) (hn : n ≤ 4096) (kU : Keeps h0 R qU (up.map (Value.int .i64))) (s : St h0 h R) (mi : MeetIs up n u v r)
    (hk : ∀ h', St h0 h' R → K r h') : straitref32_Meet qU n cU qW m cW u v h K := by
  unfold straitref32_Meet
  refine s.new_ fun t h1 s1 => ?_
  intro j
  try simp -zeta (disch := omega) only [chkP_some, iteB_true, iteB_false, add_mk, Nat.zero_add, Nat.add_zero, Nat.mul_one, Nat.reduceAdd, Int.toNat_natCast, ex_int, ex_slice, ex_ptr, ex_bool, ex_str, ex_flt, ex_any, bnd_in, List.getElem?_cons_zero, List.getElem?_cons_succ, List.set_cons_zero, List.set_cons_succ, List.cons_append, List.nil_append, bne_self_eq_false, beq_self_eq_true, Bool.not_true, Bool.not_false, Option.isNone_some, Option.isNone_none, eq_self, true_and, and_true, and_self, s1.rd0]
  refine callP1.self (Rin_of s1 fun h2 s2 => ?_)
  rcases mi with ⟨no, rfl⟩ | ⟨a, b, da, db, top, p, q, rfl, rfl, ha, hb, it, rfl⟩
  · by_cases c : inL u n
    · rw [decide_eq_true c]
      refine iteB_neg rfl ?_
      clear_value j
      try simp -zeta (disch := omega) only [chkP_some, iteB_true, iteB_false, add_mk, Nat.zero_add, Nat.add_zero, Nat.mul_one, Nat.reduceAdd, Int.toNat_natCast, ex_int, ex_slice, ex_ptr, ex_bool, ex_str, ex_flt, ex_any, bnd_in, List.getElem?_cons_zero, List.getElem?_cons_succ, List.set_cons_zero, List.set_cons_succ, List.cons_append, List.nil_append, bne_self_eq_false, beq_self_eq_true, Bool.not_true, Bool.not_false, Option.isNone_some, Option.isNone_none, eq_self, true_and, and_true, and_self, s2.rd0]
      refine callP1.self (Rin_of s2 fun h3 s3 => ?_)
      rw [decide_eq_false (fun h : inL v n => no ⟨c, h⟩)]
      exact iteB_pos rfl (hk h3 s3.tail)
    · rw [decide_eq_false c]
      exact iteB_pos rfl (hk h2 s2.tail)
  · have hal := ha.lt
    have hbl := hb.lt
    rw [decide_eq_true (show inL (a : Int) n from ⟨by omega, by omega⟩)]
    refine iteB_neg rfl ?_
    have J : ∀ h', St h0 h' ((t, [.slice qU n cU, .slice qW m cW]) :: R) → j h' := fun h3 s3 => by
      simp -zeta only [j]
      clear j
      try simp -zeta (disch := omega) only [chkP_some, iteB_true, iteB_false, add_mk, Nat.zero_add, Nat.add_zero, Nat.mul_one, Nat.reduceAdd, Int.toNat_natCast, ex_int, ex_slice, ex_ptr, ex_bool, ex_str, ex_flt, ex_any, bnd_in, List.getElem?_cons_zero, List.getElem?_cons_succ, List.set_cons_zero, List.set_cons_succ, List.cons_append, List.nil_append, bne_self_eq_false, beq_self_eq_true, Bool.not_true, Bool.not_false, Option.isNone_some, Option.isNone_none, eq_self, true_and, and_true, and_self, s3.rd0]
      refine callP3.self (DUp_of (mW := m) (R := (t, [.slice qU n cU, .slice qW m cW]) :: R) hup hn kU.cons s3 fun q4 c4 X4 h4 o4 s4 => ?_)
      have rt4 : ∀ j, cell h4 ⟨t, j, none⟩ = [.slice qU n cU, .slice qW m cW][j]? := s4.rd (by simp)
      simp -zeta (disch := omega) only [chkP_some, iteB_true, iteB_false, add_mk, Nat.zero_add, Nat.add_zero, Nat.mul_one, Nat.reduceAdd, Int.toNat_natCast, ex_int, ex_slice, ex_ptr, ex_bool, ex_str, ex_flt, ex_any, bnd_in, List.getElem?_cons_zero, List.getElem?_cons_succ, List.set_cons_zero, List.set_cons_succ, List.cons_append, List.nil_append, bne_self_eq_false, beq_self_eq_true, Bool.not_true, Bool.not_false, Option.isNone_some, Option.isNone_none, eq_self, true_and, and_true, and_self, rt4]
      refine callP3.self (DUp_of (mW := m) (R := X4 ++ (t, [.slice qU n cU, .slice qW m cW]) :: R) hup hn kU.cons.app s4 fun q5 c5 X5 h5 o5 s5 => ?_)
      have l1 := ways_len ha
      have l2 := ways_len hb
      have b1 := ha.lt_n
      have b2 := hb.lt_n
      have va : valsAt h5 q4 (natV (ways (UU up) n a)) := o4.keeps (h0 := h0) (R := X4) (fun z hz => hz) h5 _ s5 (fun z hz => by simp [hz])
      have hp := it.2.2.1
      exact ⟨_, rmeet_l0 (it.meets ha hb) (by omega) (by omega) va (o5.vals s5) (hk h5 (by simpa using s5.drop.drop.tail)) p 0 (by rw [List.length_take, l1]; omega)⟩
    clear_value j
    try simp -zeta (disch := omega) only [chkP_some, iteB_true, iteB_false, add_mk, Nat.zero_add, Nat.add_zero, Nat.mul_one, Nat.reduceAdd, Int.toNat_natCast, ex_int, ex_slice, ex_ptr, ex_bool, ex_str, ex_flt, ex_any, bnd_in, List.getElem?_cons_zero, List.getElem?_cons_succ, List.set_cons_zero, List.set_cons_succ, List.cons_append, List.nil_append, bne_self_eq_false, beq_self_eq_true, Bool.not_true, Bool.not_false, Option.isNone_some, Option.isNone_none, eq_self, true_and, and_true, and_self, s2.rd0]
    refine callP1.self (Rin_of s2 fun h3 s3 => ?_)
    rw [decide_eq_true (show inL (b : Int) n from ⟨by omega, by omega⟩)]
    exact iteB_neg rfl (J h3 s3)
theorem RFar_of {h : Heap} {m : Nat} {u v r : Int} {K : Int → Heap → Prop} (hup : up.length = n) (hw : w.length = m) (hn : n ≤ 4096) (right : RightT up w) (kU : Keeps h0 R qU (up.map (Value.int .i64))) (kW : Keeps h0 R qW (w.map (Value.int .i64))) (s : St h0 h R) (mi : FarIs up n u v r)
    (hk : ∀ h', St h0 h' R → K r h') : straitref32_Far qU n cU qW m cW u v h K := by
  unfold straitref32_Far
  refine s.new_ fun t h1 s1 => ?_
  intro j
  try simp -zeta (disch := omega) only [chkP_some, iteB_true, iteB_false, add_mk, Nat.zero_add, Nat.add_zero, Nat.mul_one, Nat.reduceAdd, Int.toNat_natCast, ex_int, ex_slice, ex_ptr, ex_bool, ex_str, ex_flt, ex_any, bnd_in, List.getElem?_cons_zero, List.getElem?_cons_succ, List.set_cons_zero, List.set_cons_succ, List.cons_append, List.nil_append, bne_self_eq_false, beq_self_eq_true, Bool.not_true, Bool.not_false, Option.isNone_some, Option.isNone_none, eq_self, true_and, and_true, and_self, s1.rd0]
  refine callP1.self (Rin_of s1 fun h2 s2 => ?_)
  rcases mi with ⟨no, rfl⟩ | ⟨a, b, da, db, top, p, q, rfl, rfl, ha, hb, it, rfl⟩
  · by_cases c : inL u n
    · rw [decide_eq_true c]
      refine iteB_neg rfl ?_
      clear_value j
      try simp -zeta (disch := omega) only [chkP_some, iteB_true, iteB_false, add_mk, Nat.zero_add, Nat.add_zero, Nat.mul_one, Nat.reduceAdd, Int.toNat_natCast, ex_int, ex_slice, ex_ptr, ex_bool, ex_str, ex_flt, ex_any, bnd_in, List.getElem?_cons_zero, List.getElem?_cons_succ, List.set_cons_zero, List.set_cons_succ, List.cons_append, List.nil_append, bne_self_eq_false, beq_self_eq_true, Bool.not_true, Bool.not_false, Option.isNone_some, Option.isNone_none, eq_self, true_and, and_true, and_self, s2.rd0]
      refine callP1.self (Rin_of s2 fun h3 s3 => ?_)
      rw [decide_eq_false (fun h : inL v n => no ⟨c, h⟩)]
      exact iteB_pos rfl (hk h3 s3.tail)
    · rw [decide_eq_false c]
      exact iteB_pos rfl (hk h2 s2.tail)
  · have hal := ha.lt
    have hbl := hb.lt
    rw [decide_eq_true (show inL (a : Int) n from ⟨by omega, by omega⟩)]
    refine iteB_neg rfl ?_
    have J : ∀ h', St h0 h' ((t, [.slice qU n cU, .slice qW m cW]) :: R) → j h' := fun h3 s3 => by
      simp -zeta only [j]
      clear j
      try simp -zeta (disch := omega) only [chkP_some, iteB_true, iteB_false, add_mk, Nat.zero_add, Nat.add_zero, Nat.mul_one, Nat.reduceAdd, Int.toNat_natCast, ex_int, ex_slice, ex_ptr, ex_bool, ex_str, ex_flt, ex_any, bnd_in, List.getElem?_cons_zero, List.getElem?_cons_succ, List.set_cons_zero, List.set_cons_succ, List.cons_append, List.nil_append, bne_self_eq_false, beq_self_eq_true, Bool.not_true, Bool.not_false, Option.isNone_some, Option.isNone_none, eq_self, true_and, and_true, and_self, s3.rd0]
      refine callP3.self (RPath_of hup hw hn kU.cons kW.cons s3 (fun no => absurd ⟨right, by omega, by omega, by omega, by omega⟩ no) fun x y _ hx hy hxn hyn => ?_)
      have hx : a = x := by omega
      have hy : b = y := by omega
      subst hx hy
      refine ⟨_, _, _, it.meets ha hb, fun h4 p4 c4 X4 o4 s4 => ?_⟩
      have hp := it.2.2.1
      have hq := it.2.2.2.1
      have b1 := ha.lt_n
      have b2 := hb.lt_n
      have e : IntKind.i64.wrap ((((ways (UU up) n a).take p ++ [top] ++ ((ways (UU up) n b).take q).reverse).length : Int) - 1) = ((p + q : Nat) : Int) := by
        rw [List.length_append, List.length_append, List.length_reverse, List.length_take, List.length_take, ways_len ha, ways_len hb, List.length_singleton, Nat.min_eq_left (by omega), Nat.min_eq_left (by omega), wrap64 (by omega) (by omega)]; omega
      rw [e]
      exact hk h4 s4.drop.tail
    clear_value j
    try simp -zeta (disch := omega) only [chkP_some, iteB_true, iteB_false, add_mk, Nat.zero_add, Nat.add_zero, Nat.mul_one, Nat.reduceAdd, Int.toNat_natCast, ex_int, ex_slice, ex_ptr, ex_bool, ex_str, ex_flt, ex_any, bnd_in, List.getElem?_cons_zero, List.getElem?_cons_succ, List.set_cons_zero, List.set_cons_succ, List.cons_append, List.nil_append, bne_self_eq_false, beq_self_eq_true, Bool.not_true, Bool.not_false, Option.isNone_some, Option.isNone_none, eq_self, true_and, and_true, and_self, s2.rd0]
    refine callP1.self (Rin_of s2 fun h3 s3 => ?_)
    rw [decide_eq_true (show inL (b : Int) n from ⟨by omega, by omega⟩)]
    exact iteB_neg rfl (J h3 s3)
theorem RLeast_is {h : Heap} {m : Nat} {u v : Int} {o : Nat × Bool} {K : Int → Bool → Heap → Prop} (hup : up.length = n) (hw : w.length = m) (hn : n ≤ 4096) (right : RightT up w) (kU : Keeps h0 R qU (up.map (Value.int .i64))) (kW : Keeps h0 R qW (w.map (Value.int .i64))) (s : St h0 h R)
    (ho : o = (if inL u n ∧ inL v n then leastD up (UU w) n u.toNat v.toNat else (0, false))) (hk : ∀ h', St h0 h' R → K (o.1 : Int) o.2 h') : straitref29_Least qU n cU qW m cW u v h K := by
  refine RLeast_of hup hw hn kU kW s (fun no h' s' => ?_) (fun x y _ hx hy hxn hyn h' s' => ?_)
  · have H := hk h' s'
    rw [ho, if_neg (fun c => no ⟨right, c.1.1, c.1.2, c.2.1, c.2.2⟩)] at H
    exact H
  · have H := hk h' s'
    subst hx hy
    rw [ho, if_pos ⟨⟨by omega, by omega⟩, by omega, by omega⟩, Int.toNat_natCast, Int.toNat_natCast] at H
    exact H
end
section
variable {h0 : Base} {Z : Rws} {z : LT} {n : Nat} {up w : List Int} {D : Nat → Int}
theorem Depth_at {J : Nat → Nat → Int × Int} {K : Int → Heap → Prop} {h : Heap} {L : Int} {x d : Nat} (lt : LTk h0 Z z n w D J) (hD : DT up n D) (hx : hasD (UU up) n d x) (s : St h0 h ((z.t, z.row n L) :: Z)) (hk : K (d : Int) h) : lift_Table_Depth (some ⟨z.t, 0, none⟩) (x : Int) h K := by
  refine Depth_of lt s ?_
  have := hx.lt
  obtain ⟨d', e, hd⟩ := hD x hx.lt
  rw [if_pos ⟨by omega, by omega⟩, Int.toNat_natCast, e, hd.uniq hx]
  exact hk
theorem LLooks_of {K : Int → Heap → Prop} {h : Heap} {L : Int} (s : St h0 h ((z.t, z.row n L) :: Z)) (hk : K L h) : lift_Table_Looks (some ⟨z.t, 0, none⟩) h K := by
  unfold lift_Table_Looks
  have r0 := s.rd0
  simp only [LT.row] at r0
  refine iteB_neg rfl ?_
  simp -zeta (disch := omega) only [chkP_some, iteB_true, iteB_false, add_mk, Nat.zero_add, Nat.add_zero, Nat.mul_one, Nat.reduceAdd, Int.toNat_natCast, ex_int, ex_slice, ex_ptr, ex_bool, ex_str, ex_flt, ex_any, bnd_in, List.getElem?_cons_zero, List.getElem?_cons_succ, List.set_cons_zero, List.set_cons_succ, List.cons_append, List.nil_append, bne_self_eq_false, beq_self_eq_true, Bool.not_true, Bool.not_false, Option.isNone_some, Option.isNone_none, eq_self, true_and, and_true, and_self, r0]
  exact hk
theorem LMeet_is {K : Int → Heap → Prop} {h : Heap} {L u v : Int} (t : TK h0 Z z n up w D) (hL : 0 ≤ L ∧ L ≤ 1000) (s : St h0 h ((z.t, z.row n L) :: Z))
    (hk : ∀ r h', MeetIs up n u v r → St h0 h' ((z.t, z.row n L) :: Z) → K r h') : lift_Table_Meet (some ⟨z.t, 0, none⟩) u v h K := by
  by_cases c : inL u n ∧ inL v n
  · obtain ⟨a, rfl⟩ : ∃ x : Nat, u = x := ⟨u.toNat, by omega⟩
    obtain ⟨b, rfl⟩ : ∃ x : Nat, v = x := ⟨v.toNat, by omega⟩
    obtain ⟨da, _, ha⟩ := t.hD a (by omega)
    obtain ⟨db, _, hb⟩ := t.hD b (by omega)
    exact LMeet_of t ha hb hL s fun top p q h' it s' => hk _ h' (.inr ⟨a, b, da, db, top, p, q, rfl, rfl, ha, hb, it, rfl⟩) s'
  · unfold lift_Table_Meet
    refine qcallP1.of _ (fun Q hQ => Lin_of s hQ) ?_
    by_cases c1 : inL u n
    · refine iteB_neg (by rw [decide_eq_true c1]; rfl) (qcallP1.of _ (fun Q hQ => Lin_of s hQ) (iteB_pos (by rw [decide_eq_false (fun h : inL v n => c ⟨c1, h⟩)]; rfl) (hk _ h (.inl ⟨c, rfl⟩) s)))
    · exact iteB_pos (by rw [decide_eq_false c1]; rfl) (hk _ h (.inl ⟨c, rfl⟩) s)
theorem LFar_is {K : Int → Heap → Prop} {h : Heap} {L u v : Int} (t : TK h0 Z z n up w D) (hL : 0 ≤ L ∧ L ≤ 1000) (s : St h0 h ((z.t, z.row n L) :: Z))
    (hk : ∀ r h', FarIs up n u v r → St h0 h' ((z.t, z.row n L) :: Z) → K r h') : lift_Table_Far (some ⟨z.t, 0, none⟩) u v h K := by
  by_cases c : inL u n ∧ inL v n
  · obtain ⟨a, rfl⟩ : ∃ x : Nat, u = x := ⟨u.toNat, by omega⟩
    obtain ⟨b, rfl⟩ : ∃ x : Nat, v = x := ⟨v.toNat, by omega⟩
    obtain ⟨da, _, ha⟩ := t.hD a (by omega)
    obtain ⟨db, _, hb⟩ := t.hD b (by omega)
    exact LFar_of t ha hb hL s fun top p q h' it s' => hk _ h' (.inr ⟨a, b, da, db, top, p, q, rfl, rfl, ha, hb, it, rfl⟩) s'
  · unfold lift_Table_Far
    refine callP1.self (LMeet_is t hL s fun r h2 mi s2 => ?_)
    rcases mi with ⟨no, rfl⟩ | ⟨a, b, da, db, top, p, q, rfl, rfl, ha, hb, it, rfl⟩
    · exact iteB_pos rfl (hk _ h2 (.inl ⟨c, rfl⟩) s2)
    · have := ha.lt
      have := hb.lt
      exact absurd ⟨⟨by omega, by omega⟩, by omega, by omega⟩ c
/-- The least edge between any two, and how many looks it takes. -/
theorem LLeast_is {K : Int → Bool → Heap → Prop} {h : Heap} {L u v : Int} (t : TK h0 Z z n up w D) (hup : up.length = n) (hb : z.rs.length = 1 ∨ 2 ^ (z.rs.length - 1) < n) (s : St h0 h ((z.t, z.row n L) :: Z))
    (hk : ∀ (o : Nat × Bool) L' h', o = (if inL u n ∧ inL v n then leastD up (UU w) n u.toNat v.toNat else (0, false)) → 0 ≤ L' → L' ≤ 1000 → L' ≤ mostN n → St h0 h' ((z.t, z.row n L') :: Z) → K (o.1 : Int) o.2 h') : lift_Table_Least (some ⟨z.t, 0, none⟩) u v h K := by
  unfold lift_Table_Least
  refine iteB_neg rfl ?_
  have r0 := s.rd0
  simp only [LT.row] at r0
  simp -zeta (disch := omega) only [chkP_some, iteB_true, iteB_false, add_mk, Nat.zero_add, Nat.add_zero, Nat.mul_one, Nat.reduceAdd, Int.toNat_natCast, ex_int, ex_slice, ex_ptr, ex_bool, ex_str, ex_flt, ex_any, bnd_in, List.getElem?_cons_zero, List.getElem?_cons_succ, List.set_cons_zero, List.set_cons_succ, List.cons_append, List.nil_append, bne_self_eq_false, beq_self_eq_true, Bool.not_true, Bool.not_false, Option.isNone_some, Option.isNone_none, eq_self, true_and, and_true, and_self, r0]
  refine s.st0 (by simp [LT.row]) fun h2 s2 => ?_
  have s2 : St h0 h2 ((z.t, z.row n 0) :: Z) := s2
  have m0 : 0 ≤ mostN n := by unfold mostN; split <;> omega
  refine qcallP1.of _ (fun Q hQ => Lin_of s2 hQ) ?_
  by_cases c1 : inL u n
  rotate_left
  · exact iteB_pos (by rw [decide_eq_false c1]; rfl) (hk (0, false) 0 h2 (by rw [if_neg (fun h => c1 h.1)]) (by omega) (by omega) m0 s2)
  refine iteB_neg (by rw [decide_eq_true c1]; rfl) (qcallP1.of _ (fun Q hQ => Lin_of s2 hQ) ?_)
  by_cases c2 : inL v n
  rotate_left
  · exact iteB_pos (by rw [decide_eq_false c2]; rfl) (hk (0, false) 0 h2 (by rw [if_neg (fun h => c2 h.2)]) (by omega) (by omega) m0 s2)
  refine iteB_neg (by rw [decide_eq_true c2]; rfl) ?_
  rw [if_pos ⟨c1, c2⟩] at hk
  obtain ⟨a, rfl⟩ : ∃ x : Nat, u = x := ⟨u.toNat, by omega⟩
  obtain ⟨b, rfl⟩ : ∃ x : Nat, v = x := ⟨v.toNat, by omega⟩
  rw [Int.toNat_natCast, Int.toNat_natCast] at hk
  obtain ⟨da, _, ha⟩ := t.hD a (by omega)
  obtain ⟨db, _, hb'⟩ := t.hD b (by omega)
  have b1 := ha.lt_n
  have b2 := hb'.lt_n
  have hn := t.hn
  have hl13 := t.hl13
  have hlen : n - 1 < 2 ^ len (n - 1) := len_le.1 (Nat.le_refl _)
  have hl12 : len (n - 1) ≤ 12 := len_le.2 (by omega)
  refine callP2.self (meet_of t.ht t.lt t.hn t.hrs t.hr1 t.hl13 t.hD t.one ha hb' s2 (bb := len (n - 1)) (by omega) (by omega) (by omega) ⟨by omega, by omega⟩ fun top p q le h3 L3 e1 e2 e3 e4 e5 e6 ele g0 g1 g2 s3 => ?_)
  have hm : L3 ≤ mostN n := by
    unfold mostN
    rw [if_neg (by omega), show ((n : Int) - 1).toNat = n - 1 by omega]
    rcases Nat.eq_zero_or_pos (len (n - 1)) with z0 | z0
    · have := g0 z0; omega
    · rcases hb with h1 | h1
      · omega
      · have : ¬ len (n - 1) ≤ z.rs.length - 1 := fun h => by have := len_le.1 h; omega
        omega
  have hu' := ha
  have hv' := hb'
  rw [← hup] at hu' hv'
  have H := hk _ L3 h3 rfl g1 (by omega) hm s3
  rcases least_is (w := w) hu' hv' ⟨e1, e2, e3, e4, e5, e6⟩ ele with ⟨l1, l2⟩ | ⟨l1, l2⟩
  · rw [hup] at l2
    rw [l2] at H
    exact iteB_pos (decide_eq_true l1) H
  · rw [hup] at l2
    rw [l2] at H
    refine iteB_neg (decide_eq_false (by omega)) ?_
    simp only [show ((le.toNat : Nat) : Int) = le by omega] at H
    exact H
end
end Go.Proofs.YtfidcekobjmamaaDoor
