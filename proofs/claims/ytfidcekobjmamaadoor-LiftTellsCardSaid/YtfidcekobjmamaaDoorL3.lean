/-
  Jumps in a tree: the first row, and the next one.
-/
import Derived.Test.YtfidcekobjmamaaDoorL2
namespace Go.Proofs.YtfidcekobjmamaaDoor
set_option linter.unusedVariables false
set_option linter.unusedSimpArgs false
set_option linter.unnecessarySimpa false
open Go.Hp Go.RowKit
attribute [local irreducible] Go.Hp.iteB Go.Hp.stC Go.Hp.newP

theorem prT_len (n : Nat) (J : Nat → Int × Int) : (prT n J).length = n * 2 := tab_length ..
theorem prT_congr {n : Nat} {J J' : Nat → Int × Int} (h : ∀ v, v < n → J v = J' v) : prT n J = prT n J' := tab_congr fun i o hi _ => by rw [h i hi]
theorem prT_zero (n : Nat) : zeroRow [.int .i64 0, .int .i64 0] n = prT n fun _ => (0, 0) := by
  rw [zeroRow_tab]
  refine tab_congr fun i o _ ho => ?_
  have ho : o < 2 := ho
  rcases (by omega : o = 0 ∨ o = 1) with rfl | rfl <;> rfl
theorem prT_set {n i : Nat} {J : Nat → Int × Int} {x y : Int} : ((prT n J).set (i * 2) (.int .i64 x)).set (i * 2 + 1) (.int .i64 y) = prT n (upd J i (x, y)) := by
  have h1 := tab_set (w := 2) (n := n) (f := fun v o => Value.int .i64 (if o = 0 then (J v).1 else (J v).2)) (i := i) (o := 0) (v := .int .i64 x) (by omega)
  rw [Nat.add_zero] at h1
  unfold prT
  rw [h1, tab_set (by omega)]
  refine tab_congr fun a o _ ho => ?_
  unfold upd
  rcases (by omega : o = 0 ∨ o = 1) with rfl | rfl <;> by_cases e : a = i <;> simp [e]
theorem prT_set1 {n i : Nat} {J : Nat → Int × Int} {y : Int} : (prT n J).set (i * 2 + 1) (.int .i64 y) = prT n (upd J i ((J i).1, y)) := by
  unfold prT
  rw [tab_set (by omega)]
  refine tab_congr fun a o _ ho => ?_
  unfold upd
  rcases (by omega : o = 0 ∨ o = 1) with rfl | rfl <;> by_cases e : a = i <;> simp [e]

def J0 (up : List Int) (v : Nat) : Int × Int := (UU up v, if UU up v < 0 then -1 else (v : Int))
def part (J : Nat → Int × Int) (i : Nat) (v : Nat) : Int × Int := if v < i then J v else (0, 0)
theorem part_all {J : Nat → Int × Int} {n : Nat} : prT n (part J n) = prT n J := prT_congr fun v hv => if_pos hv
theorem part_none {J : Nat → Int × Int} {n : Nat} : prT n (part J 0) = prT n fun _ => (0, 0) := prT_congr fun v hv => if_neg (by omega)
theorem part_step {J : Nat → Int × Int} {n i : Nat} : prT n (upd (part J i) i (J i)) = prT n (part J (i + 1)) := prT_congr fun v hv => by
  unfold upd part
  by_cases e : v = i
  · subst e; rw [if_pos rfl, if_pos (by omega)]
  · rw [if_neg e]
    by_cases c : v < i
    · rw [if_pos c, if_pos (by omega)]
    · rw [if_neg c, if_neg (by omega)]

section
variable {h0 : Base} {R : Rws} {n : Nat}
theorem new_l0 {K2 : Heap → Prop} {up : List Int} {qU qW : Option Addr} {cU cW a3 t r0 : Nat} {m : Int} (hup : up.length = n) (hn : n ≤ 4096) (kU : Keeps h0 R qU (up.map (Value.int .i64))) (ha3 : (a3, [.slice qU n cU, .slice qW n cW]) ∈ R)
    (hk : ∀ h', St h0 h' ((r0, prT n (J0 up)) :: R) → K2 h') :
    ∀ (d i : Nat) (h : Heap), i + d = n → St h0 h ((r0, prT n (part (J0 up) i)) :: R) → lift_New.l0 K2 (d + 1) ⟨a3, 0, none⟩ m ⟨t, 0, none⟩ ⟨r0, 0, none⟩ n n (n : Int) (i : Int) h
  | 0, i, h, hi, s => by
    unfold lift_New.l0 lift_New.b0
    rw [show i = n by omega, part_all] at s
    exact iteB_neg (decide_eq_false (by omega)) (hk h s)
  | d + 1, i, h, hi, s => by
    unfold lift_New.l0 lift_New.b0
    refine iteB_pos (decide_eq_true (by omega)) ?_
    have ra : ∀ j, cell h ⟨a3, j, none⟩ = [Value.slice qU n cU, .slice qW n cW][j]? := s.rd (by simp [ha3])
    have vu := kU.atC s
    have g := fun {G : Int → Prop} => vals_int (G := G) vu (UU_get (up := up) (v := i) (by omega))
    simp -zeta (disch := omega) only [chkP_some, iteB_true, iteB_false, add_mk, Nat.zero_add, Nat.add_zero, Nat.mul_one, Nat.reduceAdd, Int.toNat_natCast, ex_int, ex_slice, ex_ptr, ex_bool, ex_str, ex_flt, ex_any, bnd_in, List.getElem?_cons_zero, List.getElem?_cons_succ, List.set_cons_zero, List.set_cons_succ, List.cons_append, List.nil_append, bne_self_eq_false, beq_self_eq_true, Bool.not_true, Bool.not_false, Option.isNone_some, Option.isNone_none, eq_self, true_and, and_true, and_self, ra, g]
    refine s.st0 (by rw [prT_len]; omega) fun h2 s2 => ?_
    try simp -zeta only [add_mk, Nat.zero_add]
    refine s2.st0 (by rw [List.length_set, prT_len]; omega) fun h3 s3 => ?_
    rw [prT_set] at s3
    have ra : ∀ j, cell h3 ⟨a3, j, none⟩ = [Value.slice qU n cU, .slice qW n cW][j]? := s3.rd (by simp [ha3])
    have vu := kU.atC s3
    have g := fun {G : Int → Prop} => vals_int (G := G) vu (UU_get (up := up) (v := i) (by omega))
    simp -zeta (disch := omega) only [chkP_some, iteB_true, iteB_false, add_mk, Nat.zero_add, Nat.add_zero, Nat.mul_one, Nat.reduceAdd, Int.toNat_natCast, ex_int, ex_slice, ex_ptr, ex_bool, ex_str, ex_flt, ex_any, bnd_in, List.getElem?_cons_zero, List.getElem?_cons_succ, List.set_cons_zero, List.set_cons_succ, List.cons_append, List.nil_append, bne_self_eq_false, beq_self_eq_true, Bool.not_true, Bool.not_false, Option.isNone_some, Option.isNone_none, eq_self, true_and, and_true, and_self, ra, g]
    refine iteB_intro (fun c => ?_) (fun c => ?_)
    · have c := of_decide_eq_true c
      try simp -zeta (disch := omega) only [chkP_some, iteB_true, iteB_false, add_mk, Nat.zero_add, Nat.add_zero, Nat.mul_one, Nat.reduceAdd, Int.toNat_natCast, ex_int, ex_slice, ex_ptr, ex_bool, ex_str, ex_flt, ex_any, bnd_in, List.getElem?_cons_zero, List.getElem?_cons_succ, List.set_cons_zero, List.set_cons_succ, List.cons_append, List.nil_append, bne_self_eq_false, beq_self_eq_true, Bool.not_true, Bool.not_false, Option.isNone_some, Option.isNone_none, eq_self, true_and, and_true, and_self]
      refine s3.st0 (by rw [prT_len]; omega) fun h4 s4 => ?_
      rw [wrap64 (by omega) (by omega)]
      refine new_l0 hup hn kU ha3 hk d (i + 1) h4 (by omega) ?_
      rw [prT_set1, upd_same] at s4
      have e : upd (upd (part (J0 up) i) i (UU up i, (i : Int))) i (UU up i, -1) = upd (part (J0 up) i) i (J0 up i) := by
        funext v
        unfold upd J0
        by_cases e : v = i
        · rw [if_pos e, if_pos e, if_pos c]
        · rw [if_neg e, if_neg e, if_neg e]
      rw [e, part_step] at s4
      exact s4
    · have c := of_decide_eq_false c
      rw [wrap64 (by omega) (by omega)]
      refine new_l0 hup hn kU ha3 hk d (i + 1) h3 (by omega) ?_
      have e : J0 up i = (UU up i, (i : Int)) := by unfold J0; rw [if_neg c]
      rw [← e, part_step] at s3
      exact s3

/-- The next row. -/
def dblJ (w : List Int) (J : Nat → Int × Int) (v : Nat) : Int × Int :=
  if (J v).1 < 0 then (-1, -1) else if (J (J v).1.toNat).1 ≥ 0 then ((J (J v).1.toNat).1, betW w (J v).2 (J (J v).1.toNat).2) else (-1, -1)
theorem double_l0 {K2 : Heap → Prop} {z : LT} {Z : Rws} {w : List Int} {D : Nat → Int} {JJ : Nat → Nat → Int × Int} {J : Nat → Int × Int} {L : Int} {r o cr : Nat} (lt : LTk h0 Z z n w D JJ) (hn : n ≤ 4096) (kr : Keeps h0 Z (some ⟨r, 0, none⟩) (prT n J)) (hJ : ∀ v, v < n → (J v).1 < n ∧ (J v).2 < n)
    (hk : ∀ h', St h0 h' ((o, prT n (dblJ w J)) :: (z.t, z.row n L) :: Z) → K2 h') :
    ∀ (d i : Nat) (h : Heap), i + d = n → St h0 h ((o, prT n (part (dblJ w J) i)) :: (z.t, z.row n L) :: Z) → lift_Table_double.l0 K2 (d + 1) (some ⟨z.t, 0, none⟩) (some ⟨r, 0, none⟩) n cr ⟨o, 0, none⟩ n n (some ⟨r, 0, none⟩) n cr (n : Int) (i : Int) h
  | 0, i, h, hi, s => by
    unfold lift_Table_double.l0 lift_Table_double.b0
    rw [show i = n by omega, part_all] at s
    exact iteB_neg (decide_eq_false (by omega)) (hk h s)
  | d + 1, i, h, hi, s => by
    unfold lift_Table_double.l0 lift_Table_double.b0
    refine iteB_pos (decide_eq_true (by omega)) ?_
    have rdR : ∀ {h' : Heap} {X : Rws} (v : Nat), v < n → St h0 h' (X ++ Z) → cell h' ⟨r, v * 2, none⟩ = some (.int .i64 (J v).1) ∧ cell h' ⟨r, v * 2 + 1, none⟩ = some (.int .i64 (J v).2) := fun {h' X} v hv s' => by
      have vr : valsAt h' (some ⟨r, 0, none⟩) (prT n J) := kr.at1 s'
      constructor
      · obtain ⟨a, ha, hc⟩ := vr _ _ (prT_0 hv); cases ha; rw [add_mk, Nat.zero_add] at hc; exact hc
      · obtain ⟨a, ha, hc⟩ := vr _ _ (prT_1 hv); cases ha; rw [add_mk, Nat.zero_add] at hc; exact hc
    obtain ⟨c0, c1⟩ := rdR i (by omega) (X := [_, _]) s
    obtain ⟨j1, j2⟩ := hJ i (by omega)
    simp -zeta (disch := omega) only [chkP_some, iteB_true, iteB_false, add_mk, Nat.zero_add, Nat.add_zero, Nat.mul_one, Nat.reduceAdd, Int.toNat_natCast, ex_int, ex_slice, ex_ptr, ex_bool, ex_str, ex_flt, ex_any, bnd_in, List.getElem?_cons_zero, List.getElem?_cons_succ, List.set_cons_zero, List.set_cons_succ, List.cons_append, List.nil_append, bne_self_eq_false, beq_self_eq_true, Bool.not_true, Bool.not_false, Option.isNone_some, Option.isNone_none, eq_self, true_and, and_true, and_self, c0, c1]
    refine s.new_ fun b h2 s2 => s2.st0 (by simp) fun h3 s3 => ?_
    try simp -zeta only [add_mk, Nat.zero_add]
    refine s3.st0 (by simp) fun h4 s4 => ?_
    simp only [List.set_cons_zero, List.set_cons_succ, Nat.zero_add] at s4
    try simp -zeta (disch := omega) only [chkP_some, iteB_true, iteB_false, add_mk, Nat.zero_add, Nat.add_zero, Nat.mul_one, Nat.reduceAdd, Int.toNat_natCast, ex_int, ex_slice, ex_ptr, ex_bool, ex_str, ex_flt, ex_any, bnd_in, List.getElem?_cons_zero, List.getElem?_cons_succ, List.set_cons_zero, List.set_cons_succ, List.cons_append, List.nil_append, bne_self_eq_false, beq_self_eq_true, Bool.not_true, Bool.not_false, Option.isNone_some, Option.isNone_none, eq_self, true_and, and_true, and_self]
    refine s4.st1 (by rw [prT_len]; omega) fun h5 s5 => ?_
    try simp -zeta only [add_mk, Nat.zero_add]
    refine s5.st1 (by rw [List.length_set, prT_len]; omega) fun h6 s6 => ?_
    rw [prT_set] at s6
    try simp -zeta (disch := omega) only [chkP_some, iteB_true, iteB_false, add_mk, Nat.zero_add, Nat.add_zero, Nat.mul_one, Nat.reduceAdd, Int.toNat_natCast, ex_int, ex_slice, ex_ptr, ex_bool, ex_str, ex_flt, ex_any, bnd_in, List.getElem?_cons_zero, List.getElem?_cons_succ, List.set_cons_zero, List.set_cons_succ, List.cons_append, List.nil_append, bne_self_eq_false, beq_self_eq_true, Bool.not_true, Bool.not_false, Option.isNone_some, Option.isNone_none, eq_self, true_and, and_true, and_self, s6.rd0]
    have neg : dblJ w J i = (-1, -1) → ∀ (h' : Heap) (Y : Rws), St h0 h' (Y ++ (o, prT n (upd (part (dblJ w J) i) i (-1, -1))) :: (z.t, z.row n L) :: Z) → lift_Table_double.l0 K2 (d + 1) (some ⟨z.t, 0, none⟩) (some ⟨r, 0, none⟩) n cr ⟨o, 0, none⟩ n n (some ⟨r, 0, none⟩) n cr (n : Int) (IntKind.i64.wrap ((i : Int) + 1)) h' := fun e h' Y s' => by
      rw [wrap64 (by omega) (by omega)]
      refine double_l0 lt hn kr hJ hk d (i + 1) h' (by omega) ?_
      rw [← e, part_step] at s'
      exact s'.drop
    refine iteB_intro (fun c => ?_) (fun c => ?_)
    · exact neg (by unfold dblJ; rw [if_pos (of_decide_eq_true c)]) h6 [_] s6
    have c := of_decide_eq_false c
    obtain ⟨u, hu⟩ : ∃ u : Nat, (J i).1 = u := ⟨(J i).1.toNat, by omega⟩
    obtain ⟨d0, d1⟩ := rdR u (by omega) (X := [_, _, _]) s6
    obtain ⟨k1, k2⟩ := hJ u (by omega)
    try simp -zeta (disch := omega) only [chkP_some, iteB_true, iteB_false, add_mk, Nat.zero_add, Nat.add_zero, Nat.mul_one, Nat.reduceAdd, Int.toNat_natCast, ex_int, ex_slice, ex_ptr, ex_bool, ex_str, ex_flt, ex_any, bnd_in, List.getElem?_cons_zero, List.getElem?_cons_succ, List.set_cons_zero, List.set_cons_succ, List.cons_append, List.nil_append, bne_self_eq_false, beq_self_eq_true, Bool.not_true, Bool.not_false, Option.isNone_some, Option.isNone_none, eq_self, true_and, and_true, and_self, s6.rd0]
    rw [hu]
    simp -zeta (disch := omega) only [chkP_some, iteB_true, iteB_false, add_mk, Nat.zero_add, Nat.add_zero, Nat.mul_one, Nat.reduceAdd, Int.toNat_natCast, ex_int, ex_slice, ex_ptr, ex_bool, ex_str, ex_flt, ex_any, bnd_in, List.getElem?_cons_zero, List.getElem?_cons_succ, List.set_cons_zero, List.set_cons_succ, List.cons_append, List.nil_append, bne_self_eq_false, beq_self_eq_true, Bool.not_true, Bool.not_false, Option.isNone_some, Option.isNone_none, eq_self, true_and, and_true, and_self, d0, d1]
    refine s6.new_ fun b2 h7 s7 => s7.st0 (by simp) fun h8 s8 => ?_
    try simp -zeta only [add_mk, Nat.zero_add]
    refine s8.st0 (by simp) fun h9 s9 => ?_
    simp only [List.set_cons_zero, List.set_cons_succ, Nat.zero_add] at s9
    try simp -zeta (disch := omega) only [chkP_some, iteB_true, iteB_false, add_mk, Nat.zero_add, Nat.add_zero, Nat.mul_one, Nat.reduceAdd, Int.toNat_natCast, ex_int, ex_slice, ex_ptr, ex_bool, ex_str, ex_flt, ex_any, bnd_in, List.getElem?_cons_zero, List.getElem?_cons_succ, List.set_cons_zero, List.set_cons_succ, List.cons_append, List.nil_append, bne_self_eq_false, beq_self_eq_true, Bool.not_true, Bool.not_false, Option.isNone_some, Option.isNone_none, eq_self, true_and, and_true, and_self, s9.rd0, s9.rd1]
    have eu : (J i).1.toNat = u := by omega
    refine iteB_intro (fun e => ?_) (fun e => ?_)
    · have e := of_decide_eq_true e
      try simp -zeta (disch := omega) only [chkP_some, iteB_true, iteB_false, add_mk, Nat.zero_add, Nat.add_zero, Nat.mul_one, Nat.reduceAdd, Int.toNat_natCast, ex_int, ex_slice, ex_ptr, ex_bool, ex_str, ex_flt, ex_any, bnd_in, List.getElem?_cons_zero, List.getElem?_cons_succ, List.set_cons_zero, List.set_cons_succ, List.cons_append, List.nil_append, bne_self_eq_false, beq_self_eq_true, Bool.not_true, Bool.not_false, Option.isNone_some, Option.isNone_none, eq_self, true_and, and_true, and_self, s9.rd0, s9.rd1]
      have s9' : St h0 h9 ((z.t, z.row n L) :: Z) := s9.tail.tail.tail
      refine callP1.self (better_of lt s9' j2 k2 ?_)
      refine ⟨⟨_, by rw [s9.rd0]; rfl, rfl⟩, ?_⟩
      try simp -zeta only [Int.toNat_natCast, add_mk, Nat.zero_add]
      refine s9.st2 (by rw [prT_len]; omega) fun h10 s10 => ?_
      try simp -zeta only [add_mk, Nat.zero_add]
      refine s10.st2 (by rw [List.length_set, prT_len]; omega) fun h11 s11 => ?_
      rw [prT_set] at s11
      rw [wrap64 (by omega) (by omega)]
      refine double_l0 lt hn kr hJ hk d (i + 1) h11 (by omega) ?_
      have e2 : upd (upd (part (dblJ w J) i) i (-1, -1)) i ((J u).1, betW w (J i).2 (J u).2) = upd (part (dblJ w J) i) i (dblJ w J i) := by
        funext v
        unfold upd dblJ
        by_cases e3 : v = i
        · rw [if_pos e3, if_pos e3, if_neg c, eu, if_pos e]
        · rw [if_neg e3, if_neg e3, if_neg e3]
      rw [e2, part_step] at s11
      exact s11.tail.tail
    · have e := of_decide_eq_false e
      exact neg (by unfold dblJ; rw [if_neg c, eu, if_neg e]) h9 [_, _] s9
end
end Go.Proofs.YtfidcekobjmamaaDoor
