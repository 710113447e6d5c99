/-
  Jumps in a tree: a table in memory; one step of a climb.
-/
import Derived.Test.YtfidcekobjmamaaDoorL1
import Derived.Test.YtfidcekobjmamaaDoorMp
namespace Go.Proofs.YtfidcekobjmamaaDoor
set_option linter.unusedVariables false
set_option linter.unusedSimpArgs false
set_option linter.unnecessarySimpa false
open Go.Hp Go.RowKit
attribute [local irreducible] Go.Hp.iteB Go.Hp.stC Go.Hp.newP

/-- The table of the last bits' places. -/
def dbt : List Int := [0, 1, 56, 2, 57, 49, 28, 3, 61, 58, 42, 50, 38, 29, 17, 4, 62, 47, 59, 36, 45, 43, 51, 22, 53, 39, 33, 30, 24, 18, 12, 5, 63, 55, 48, 27, 60, 41, 37, 16, 46, 35, 44, 21, 52, 32, 23, 11, 54, 26, 40, 15, 34, 20, 31, 10, 25, 14, 19, 9, 13, 8, 7, 6]
def Tab (h : Heap) : Prop := ∀ i, i < 64 → cell h ⟨1, i, none⟩ = some (.int .u8 (dbt.getD i 0))
theorem Tab.ext {h h' : Heap} (t : Tab h) (e : Ext h h') : Tab h' := fun i hi => e.cell' (t i hi)
set_option maxRecDepth 100000 in
theorem dbt_at : ∀ t : Nat, t < 64 → 2 ^ t * 285870213051353865 % 18446744073709551616 / 288230376151711744 < 64 ∧
    dbt.getD (2 ^ t * 285870213051353865 % 18446744073709551616 / 288230376151711744) 0 = (t : Int) := by decide +kernel
theorem tz64_of {a : Nat} {h : Heap} {K : Int → Heap → Prop} (h0 : a ≠ 0) (hl : a < 18446744073709551616) (ht : Tab h) (hk : K (tz a : Nat) h) : bits_TrailingZeros64 (a : Int) h K := by
  unfold bits_TrailingZeros64
  have e0 : IntKind.u64.wrap (0 - (a : Int)) = ((18446744073709551616 - a : Nat) : Int) := by rw [wrap_u64]; omega
  have e1 : bits .and .u64 (a : Int) (IntKind.u64.wrap (0 - (a : Int))) = ((2 ^ tz a : Nat) : Int) := by
    rw [e0, u64_and_nat _ _ hl (by omega), show (18446744073709551616 : Nat) = 2 ^ 64 by decide, and_neg 64 a h0 hl]
  have t64 : tz a < 64 := tz_lt h0 hl
  obtain ⟨d1, d2⟩ := dbt_at _ t64
  simp only [bindV]
  rw [e1]
  generalize 2 ^ tz a = p at *
  have e2 : (IntKind.u64.wrap ((p : Int) * 285870213051353865)).fdiv (2 ^ 58) = ((p * 285870213051353865 % 18446744073709551616 / 288230376151711744 : Nat) : Int) := by
    rw [wrap_u64, Int.fdiv_eq_ediv_of_nonneg _ (by decide)]; simp only [Int.natCast_ediv, Int.natCast_emod, Int.natCast_mul]; rfl
  rw [e2]
  generalize p * 285870213051353865 % 18446744073709551616 / 288230376151711744 = i at *
  have c1 : (0 : Int) ≤ (i : Int) ∧ (i : Int) < 64 := by omega
  have c2 : cell h ((⟨1, 0, none⟩ : Addr).add ((i : Int).toNat * 1)) = some (.int .u8 (dbt.getD i 0)) := by
    rw [add_mk, show 0 + (i : Int).toNat * 1 = i by omega]; exact ht i d1
  have c3 : IntKind.i64.wrap (dbt.getD i 0) = ((tz a : Nat) : Int) := by rw [d2, wrap_id (by omega) (by omega)]
  have c4 : (((a : Nat) : Int) == 0) = false := by simp; omega
  generalize ((a : Nat) : Int) = z at *
  exact iteB_neg c4 ⟨by decide, c1, dbt.getD i 0, c2, c3.symm ▸ hk⟩
theorem tzs_of {a : Nat} {h : Heap} {K : Int → Prop} (h0 : a ≠ 0) (hl : a < 9223372036854775808) (ht : Tab h) (hk : K (tz a : Nat)) : qcallP1 h (bits_TrailingZeros (IntKind.u64.wrap (a : Int)) h) K := by
  have e : IntKind.u64.wrap (a : Int) = (a : Int) := by rw [wrap_u64]; omega
  rw [e]
  refine qcallP1.of _ (fun Q hQ => ?_) hk
  unfold bits_TrailingZeros
  exact qcallP1.of _ (fun Q2 hQ2 => tz64_of h0 (by omega) ht hQ2) hQ

/-! ### The edge that is less -/
def firstW (w : List Int) (a b : Int) : Bool := decide (w.getD a.toNat 0 < w.getD b.toNat 0) || (decide (w.getD a.toNat 0 = w.getD b.toNat 0) && decide (a < b))
def betW (w : List Int) (a b : Int) : Int := if a < 0 then b else if b ≥ 0 ∧ firstW w b a = true then b else a
/-- A table in memory. -/
structure LT where
  t : Nat
  qw : Option Addr
  cw : Nat
  bd : Nat
  qj : Option Addr
  cj : Nat
  rs : List Nat
def LT.row (z : LT) (n : Nat) (L : Int) : List Value := [.slice z.qw n z.cw, .slice (some ⟨z.bd, 0, none⟩) n n, .slice z.qj z.rs.length z.cj, .int .i64 L]
def prT (n : Nat) (J : Nat → Int × Int) : List Value := tab 2 n fun v o => .int .i64 (if o = 0 then (J v).1 else (J v).2)
theorem prT_0 {n v : Nat} {J : Nat → Int × Int} (h : v < n) : (prT n J)[v * 2]? = some (.int .i64 (J v).1) := tab_get (o := 0) h (by omega)
theorem prT_1 {n v : Nat} {J : Nat → Int × Int} (h : v < n) : (prT n J)[v * 2 + 1]? = some (.int .i64 (J v).2) := tab_get (o := 1) h (by omega)
structure LTk (h0 : Base) (Z : Rws) (z : LT) (n : Nat) (w : List Int) (D : Nat → Int) (J : Nat → Nat → Int × Int) : Prop where
  wl : w.length = n
  kw : Keeps h0 Z z.qw (w.map (Value.int .i64))
  kd : Keeps h0 Z (some ⟨z.bd, 0, none⟩) (ints n D)
  kj : Keeps h0 Z z.qj (z.rs.map fun r => .slice (some ⟨r, 0, none⟩) n n)
  kr : ∀ k r, z.rs[k]? = some r → Keeps h0 Z (some ⟨r, 0, none⟩) (prT n (J k))

section
variable {h0 : Base} {Z : Rws} {z : LT} {n : Nat} {w : List Int} {D : Nat → Int} {J : Nat → Nat → Int × Int}
theorem first_of {h : Heap} {L : Int} {a b : Int} {K : Bool → Heap → Prop} (lt : LTk h0 Z z n w D J) (s : St h0 h ((z.t, z.row n L) :: Z)) (ha : 0 ≤ a ∧ a < n) (hb : 0 ≤ b ∧ b < n) (hk : K (firstW w a b) h) : lift_Table_first (some ⟨z.t, 0, none⟩) a b h K := by
  unfold lift_Table_first
  obtain ⟨i, rfl⟩ : ∃ i : Nat, a = i := ⟨a.toNat, by omega⟩
  obtain ⟨j, rfl⟩ : ∃ i : Nat, b = i := ⟨b.toNat, by omega⟩
  have r0 := s.rd0
  simp only [LT.row] at r0
  have vw := lt.kw.atC s
  have g1 := fun {G : Int → Prop} => vals_int (G := G) vw (UU_get (up := w) (v := i) (by have := lt.wl; omega))
  have g2 := fun {G : Int → Prop} => vals_int (G := G) vw (UU_get (up := w) (v := j) (by have := lt.wl; omega))
  simp -zeta (disch := omega) only [chkP_some, iteB_true, iteB_false, add_mk, Nat.zero_add, Nat.add_zero, Nat.mul_one, Nat.reduceAdd, Int.toNat_natCast, ex_int, ex_slice, ex_ptr, ex_bool, ex_str, ex_flt, ex_any, bnd_in, List.getElem?_cons_zero, List.getElem?_cons_succ, List.set_cons_zero, List.set_cons_succ, List.cons_append, List.nil_append, bne_self_eq_false, beq_self_eq_true, Bool.not_true, Bool.not_false, Option.isNone_some, Option.isNone_none, eq_self, true_and, and_true, and_self, r0, g1, g2]
  unfold firstW at hk
  rw [Int.toNat_natCast, Int.toNat_natCast] at hk
  unfold UU
  refine iteB_intro (fun c => ?_) (fun c => ?_)
  · rw [decide_eq_true (of_decide_eq_true c), Bool.true_or] at hk; exact hk
  · rw [decide_eq_false (of_decide_eq_false c), Bool.false_or] at hk
    refine iteB_intro (fun c2 => ?_) (fun c2 => ?_)
    · rw [decide_eq_true (show w.getD i 0 = w.getD j 0 by simpa using c2), Bool.true_and] at hk; exact hk
    · rw [decide_eq_false (show ¬ w.getD i 0 = w.getD j 0 by simpa using c2), Bool.false_and] at hk; exact hk
theorem better_of {h : Heap} {L : Int} {a b : Int} {K : Int → Heap → Prop} (lt : LTk h0 Z z n w D J) (s : St h0 h ((z.t, z.row n L) :: Z)) (ha : a < n) (hb : b < n) (hk : K (betW w a b) h) : lift_better_int_lift_Table_first a b (some ⟨z.t, 0, none⟩) h K := by
  unfold lift_better_int_lift_Table_first
  unfold betW at hk
  refine iteB_intro (fun c => ?_) (fun c => ?_)
  · rw [if_pos (of_decide_eq_true c)] at hk; exact hk
  have c := of_decide_eq_false c
  rw [if_neg c] at hk
  refine iteB_intro (fun d => ?_) (fun d => ?_)
  · have d := of_decide_eq_true d
    refine callP1.self (first_of lt s ⟨by omega, hb⟩ ⟨by omega, ha⟩ (iteB_intro (fun e => ?_) (fun e => ?_)))
    · rw [if_pos ⟨d, e⟩] at hk; exact hk
    · rw [if_neg (fun h => by rw [h.2] at e; cases e)] at hk; exact hk
  · have d := of_decide_eq_false d
    rw [if_neg (fun h => d h.1)] at hk; exact hk
/-- One step of a climb. -/
theorem climb_step {K2 : Int → Int → Heap → Prop} {h : Heap} {L : Int} {m v st : Nat} {least : Int} {r : Nat} (ht : Tab h0.heap) (lt : LTk h0 Z z n w D J) (hn : n ≤ 4096) (hv : v < n) (h0s : st ≠ 0) (hst : st < 4294967296) (hr : z.rs[tz st]? = some r) (hl : least < n) (hb : (J (tz st) v).2 < n)
    (s : St h0 h ((z.t, z.row n L) :: Z)) (hk : ∀ h', St h0 h' ((z.t, z.row n (IntKind.i64.wrap (L + 1))) :: Z) → lift_Table_climb.l0 K2 m (some ⟨z.t, 0, none⟩) (J (tz st) v).1 ((st &&& (st - 1) : Nat) : Int) (betW w least (J (tz st) v).2) h') :
    lift_Table_climb.l0 K2 (m + 1) (some ⟨z.t, 0, none⟩) (v : Int) (st : Int) least h := by
  unfold lift_Table_climb.l0 lift_Table_climb.b0
  refine iteB_pos (decide_eq_true (by omega)) ?_
  have r0 := s.rd0
  simp only [LT.row] at r0
  have hrl := lt_get hr
  simp -zeta (disch := omega) only [chkP_some, iteB_true, iteB_false, add_mk, Nat.zero_add, Nat.add_zero, Nat.mul_one, Nat.reduceAdd, Int.toNat_natCast, ex_int, ex_slice, ex_ptr, ex_bool, ex_str, ex_flt, ex_any, bnd_in, List.getElem?_cons_zero, List.getElem?_cons_succ, List.set_cons_zero, List.set_cons_succ, List.cons_append, List.nil_append, bne_self_eq_false, beq_self_eq_true, Bool.not_true, Bool.not_false, Option.isNone_some, Option.isNone_none, eq_self, true_and, and_true, and_self, r0]
  refine s.st0 (by simp [LT.row]) fun h2 s2 => ?_
  have s2 : St h0 h2 ((z.t, z.row n (IntKind.i64.wrap (L + 1))) :: Z) := s2
  have r2 := s2.rd0
  simp only [LT.row] at r2
  simp -zeta (disch := omega) only [chkP_some, iteB_true, iteB_false, add_mk, Nat.zero_add, Nat.add_zero, Nat.mul_one, Nat.reduceAdd, Int.toNat_natCast, ex_int, ex_slice, ex_ptr, ex_bool, ex_str, ex_flt, ex_any, bnd_in, List.getElem?_cons_zero, List.getElem?_cons_succ, List.set_cons_zero, List.set_cons_succ, List.cons_append, List.nil_append, bne_self_eq_false, beq_self_eq_true, Bool.not_true, Bool.not_false, Option.isNone_some, Option.isNone_none, eq_self, true_and, and_true, and_self, r2]
  refine tzs_of h0s (by omega) (ht.ext s2.ext) ?_
  have vj : valsAt h2 z.qj (z.rs.map fun r => .slice (some ⟨r, 0, none⟩) n n) := lt.kj.atC s2
  obtain ⟨aj, hqj, cj⟩ := vj (tz st) (.slice (some ⟨r, 0, none⟩) n n) (by simp [hr])
  have vr : valsAt h2 (some ⟨r, 0, none⟩) (prT n (J (tz st))) := (lt.kr _ _ hr).atC s2
  have c0 : cell h2 ⟨r, v * 2, none⟩ = some (.int .i64 (J (tz st) v).1) := by
    obtain ⟨a, ha, hc⟩ := vr _ _ (prT_0 hv); cases ha; rw [add_mk, Nat.zero_add] at hc; exact hc
  have c1 : cell h2 ⟨r, v * 2 + 1, none⟩ = some (.int .i64 (J (tz st) v).2) := by
    obtain ⟨a, ha, hc⟩ := vr _ _ (prT_1 hv); cases ha; rw [add_mk, Nat.zero_add] at hc; exact hc
  rw [hqj]
  simp -zeta (disch := omega) only [chkP_some, iteB_true, iteB_false, add_mk, Nat.zero_add, Nat.add_zero, Nat.mul_one, Nat.reduceAdd, Int.toNat_natCast, ex_int, ex_slice, ex_ptr, ex_bool, ex_str, ex_flt, ex_any, bnd_in, List.getElem?_cons_zero, List.getElem?_cons_succ, List.set_cons_zero, List.set_cons_succ, List.cons_append, List.nil_append, bne_self_eq_false, beq_self_eq_true, Bool.not_true, Bool.not_false, Option.isNone_some, Option.isNone_none, eq_self, true_and, and_true, and_self, cj, c0, c1]
  refine s2.new_ fun b h3 s3 => ?_
  have s3' : St h0 h3 ((z.t, z.row n (IntKind.i64.wrap (L + 1))) :: Z) := s3.tail
  have r3 := s3'.rd0
  simp only [LT.row] at r3
  have vj3 : valsAt h3 z.qj (z.rs.map fun r => .slice (some ⟨r, 0, none⟩) n n) := lt.kj.atC s3'
  obtain ⟨aj', hqj', cj3⟩ := vj3 (tz st) (.slice (some ⟨r, 0, none⟩) n n) (by simp [hr])
  rw [hqj] at hqj'; cases hqj'
  have vr3 : valsAt h3 (some ⟨r, 0, none⟩) (prT n (J (tz st))) := (lt.kr _ _ hr).atC s3'
  have d0 : cell h3 ⟨r, v * 2, none⟩ = some (.int .i64 (J (tz st) v).1) := by
    obtain ⟨a, ha, hc⟩ := vr3 _ _ (prT_0 hv); cases ha; rw [add_mk, Nat.zero_add] at hc; exact hc
  have d1 : cell h3 ⟨r, v * 2 + 1, none⟩ = some (.int .i64 (J (tz st) v).2) := by
    obtain ⟨a, ha, hc⟩ := vr3 _ _ (prT_1 hv); cases ha; rw [add_mk, Nat.zero_add] at hc; exact hc
  refine ⟨⟨_, d0, _, d1, rfl⟩, ⟨_, _, _, cj3, rfl⟩, tzs_of h0s (by omega) (ht.ext s3.ext) rfl, ⟨_, _, _, r3 2, by rw [hqj]⟩, ?_⟩
  refine s3.st0 (by simp) fun h4 s4 => ?_
  try simp -zeta only [chkP_some, iteB_true, iteB_false, add_mk, Nat.zero_add, Nat.add_zero, Nat.mul_one, Nat.reduceAdd, Int.toNat_natCast, ex_int, ex_slice, ex_ptr, ex_bool, ex_str, ex_flt, ex_any, bnd_in, List.getElem?_cons_zero, List.getElem?_cons_succ, List.set_cons_zero, List.set_cons_succ, List.cons_append, List.nil_append, bne_self_eq_false, beq_self_eq_true, Bool.not_true, Bool.not_false, Option.isNone_some, Option.isNone_none, eq_self, true_and, and_true, and_self]
  refine s4.st0 (by simp) fun h5 s5 => ?_
  simp only [List.set_cons_zero, List.set_cons_succ, Nat.zero_add] at s5
  try simp -zeta (disch := omega) only [chkP_some, iteB_true, iteB_false, add_mk, Nat.zero_add, Nat.add_zero, Nat.mul_one, Nat.reduceAdd, Int.toNat_natCast, ex_int, ex_slice, ex_ptr, ex_bool, ex_str, ex_flt, ex_any, bnd_in, List.getElem?_cons_zero, List.getElem?_cons_succ, List.set_cons_zero, List.set_cons_succ, List.cons_append, List.nil_append, bne_self_eq_false, beq_self_eq_true, Bool.not_true, Bool.not_false, Option.isNone_some, Option.isNone_none, eq_self, true_and, and_true, and_self, s5.rd0]
  refine callP1.self (better_of lt s5.tail hl hb ?_)
  refine ⟨⟨_, by rw [s5.rd0]; rfl, rfl⟩, ?_⟩
  have hand : bits .and .i64 (st : Int) (IntKind.i64.wrap ((st : Int) - 1)) = ((st &&& (st - 1) : Nat) : Int) := by
    rw [wrap64 (by omega) (by omega), show (st : Int) - 1 = ((st - 1 : Nat) : Int) by omega]
    unfold bits
    rw [wrap_i64_eq]
    show (((((BitVec.ofInt 64 (st : Int) : BitVec 64) &&& (BitVec.ofInt 64 ((st - 1 : Nat) : Int) : BitVec 64)).toNat : Nat) : Int) + 9223372036854775808) % 18446744073709551616 - 9223372036854775808 = _
    have e1 : (BitVec.ofInt 64 (st : Int)).toNat = st := by rw [BitVec.toNat_ofInt]; omega
    have e2 : (BitVec.ofInt 64 ((st - 1 : Nat) : Int)).toNat = st - 1 := by rw [BitVec.toNat_ofInt]; omega
    have h3 : st &&& (st - 1) ≤ st := Nat.and_le_left
    rw [BitVec.toNat_and, e1, e2]; omega
  refine bindV_intro fun x hx => ?_
  rw [hand] at hx
  subst hx
  exact hk h5 s5.tail
end
end Go.Proofs.YtfidcekobjmamaaDoor
