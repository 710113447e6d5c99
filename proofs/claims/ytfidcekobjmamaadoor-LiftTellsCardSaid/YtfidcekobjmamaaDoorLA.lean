/-
  Jumps in a tree: where two meet: the loop over the rows.
-/
import Derived.Test.YtfidcekobjmamaaDoorL9
namespace Go.Proofs.YtfidcekobjmamaaDoor
set_option linter.unusedVariables false
set_option linter.unusedSimpArgs false
set_option linter.unnecessarySimpa false
open Go.Hp Go.RowKit
attribute [local irreducible] Go.Hp.iteB Go.Hp.stC Go.Hp.newP

section
variable {h0 : Base} {Z : Rws} {z : LT} {n : Nat} {up w : List Int} {D : Nat → Int}
theorem pair_cells {J : Nat → Nat → Int × Int} (lt : LTk h0 Z z n w D J) {h : Heap} {L : Int} {X : Rws} (s : St h0 h (X ++ (z.t, z.row n L) :: Z)) {k r v : Nat} (hr : z.rs[k]? = some r) (hv : v < n) :
    cell h ⟨r, v * 2, none⟩ = some (.int .i64 (J k v).1) ∧ cell h ⟨r, v * 2 + 1, none⟩ = some (.int .i64 (J k v).2) := by
  have vr : valsAt h (some ⟨r, 0, none⟩) (prT n (J k)) := ((lt.kr _ _ hr).cons (y := (z.t, z.row n L))).at1 s
  constructor
  · obtain ⟨a, ha, hc⟩ := vr _ _ (prT_0 hv); cases ha; rw [add_mk, Nat.zero_add] at hc; exact hc
  · obtain ⟨a, ha, hc⟩ := vr _ _ (prT_1 hv); cases ha; rw [add_mk, Nat.zero_add] at hc; exact hc
theorem meet_l0 {top : Nat} {T L1 : Int} {K2 : Int → Int → Int → Heap → Prop} (lt : LTk h0 Z z n w D (jK up w)) (hn : n ≤ 4096) (hl13 : z.rs.length ≤ 13)
    (hk : ∀ (u v d : Nat) (le : Int) h', hasD (UU up) n d u → hasD (UU up) n d v → Apart (UU up) 1 u v → upN (UU up) 1 u = top → 1 ≤ d → -1 ≤ le → le < n → betW w le (betW w (lstN (UU up) w 1 u) (lstN (UU up) w 1 v)) = T → St h0 h' ((z.t, z.row n L1) :: Z) → K2 (u : Int) (v : Int) le h')
    : ∀ (m u v d t : Nat) (least : Int) (L : Int) (h : Heap), m ≤ z.rs.length → hasD (UU up) n d u → hasD (UU up) n d v → Apart (UU up) t u v → upN (UU up) t u = top → 1 ≤ t → t ≤ d → t ≤ 2 ^ m → -1 ≤ least → least < n → betW w least (betW w (lstN (UU up) w t u) (lstN (UU up) w t v)) = T → 0 ≤ L → L + m = L1 → L1 ≤ 200000 → St h0 h ((z.t, z.row n L) :: Z) →
      lift_Table_meet.l0 K2 (m + 1) (some ⟨z.t, 0, none⟩) (u : Int) (v : Int) least (z.rs.length : Int) ((z.rs.length - m : Nat) : Int) h
  | 0, u, v, d, t, least, L, h, hm, hu, hv, a, htop, t1, td, tm, hl0, hl, hT, h0L, hL, hL1, s => by
    unfold lift_Table_meet.l0 lift_Table_meet.b0
    have : t = 1 := by simp at tm; omega
    subst this
    exact iteB_neg (decide_eq_false (by omega)) (hk u v d least h hu hv a htop td hl0 hl hT (by rw [show L1 = L by omega]; exact s))
  | m + 1, u, v, d, t, least, L, h, hm, hu, hv, a, htop, t1, td, tm, hl0, hl, hT, h0L, hL, hL1, s => by
    unfold lift_Table_meet.l0 lift_Table_meet.b0
    refine iteB_pos (decide_eq_true (by omega)) ?_
    obtain ⟨r, hr⟩ := get_lt (l := z.rs) (i := m) (by omega)
    have r0 := s.rd0
    simp only [LT.row] at r0
    refine ⟨_, _, _, r0 2, _, _, _, r0 2, bindV_intro fun x hx => ?_⟩
    have hx : x = (m : Int) := by rw [hx, wrap64 (x := (z.rs.length : Int) - 1) (by omega) (by omega), wrap64 (by omega) (by omega)]; omega
    subst hx
    have vj : valsAt h z.qj (z.rs.map fun r => .slice (some ⟨r, 0, none⟩) n n) := lt.kj.atC s
    obtain ⟨aj, hqj, cj⟩ := vj m (.slice (some ⟨r, 0, none⟩) n n) (by simp [hr])
    rw [hqj]
    simp -zeta (disch := omega) only [chkP_some, iteB_true, iteB_false, add_mk, Nat.zero_add, Nat.add_zero, Nat.mul_one, Nat.reduceAdd, Int.toNat_natCast, ex_int, ex_slice, ex_ptr, ex_bool, ex_str, ex_flt, ex_any, bnd_in, List.getElem?_cons_zero, List.getElem?_cons_succ, List.set_cons_zero, List.set_cons_succ, List.cons_append, List.nil_append, bne_self_eq_false, beq_self_eq_true, Bool.not_true, Bool.not_false, Option.isNone_some, Option.isNone_none, eq_self, true_and, and_true, and_self, cj, r0]
    refine s.st0 (by simp [LT.row]) fun h2 s2 => ?_
    have s2 : St h0 h2 ((z.t, z.row n (L + 1)) :: Z) := by rw [wrap64 (by omega) (by omega)] at s2; exact s2
    obtain ⟨cu0, cu1⟩ := pair_cells lt (X := []) s2 hr hu.lt
    obtain ⟨cv0, cv1⟩ := pair_cells lt (X := []) s2 hr hv.lt
    have hul := hu.lt
    have hvl := hv.lt
    have e1 : ((z.rs.length - (m + 1) : Nat) : Int) + 1 = ((z.rs.length - m : Nat) : Int) := by omega
    have step := meet_step (w := w) (k := m) hu hv a td
    intro j
    have J : ∀ (y1 y2 : Nat) (h' : Heap) (Y : Rws), (y1, [Value.int .i64 (jK up w m u).1, .int .i64 (jK up w m u).2]) ∈ Y → (y2, [Value.int .i64 (jK up w m v).1, .int .i64 (jK up w m v).2]) ∈ Y → St h0 h' (Y ++ (z.t, z.row n (L + 1)) :: Z) → j ⟨y1, 0, none⟩ ⟨y2, 0, none⟩ h' := fun y1 y2 h' Y m1 m2 s' => by
      simp -zeta only [j]
      have q1 : ∀ j, cell h' ⟨y1, j, none⟩ = [Value.int .i64 (jK up w m u).1, .int .i64 (jK up w m u).2][j]? := s'.rd (by simp [m1])
      have q2 : ∀ j, cell h' ⟨y2, j, none⟩ = [Value.int .i64 (jK up w m v).1, .int .i64 (jK up w m v).2][j]? := s'.rd (by simp [m2])
      simp -zeta (disch := omega) only [chkP_some, iteB_true, iteB_false, add_mk, Nat.zero_add, Nat.add_zero, Nat.mul_one, Nat.reduceAdd, Int.toNat_natCast, ex_int, ex_slice, ex_ptr, ex_bool, ex_str, ex_flt, ex_any, bnd_in, List.getElem?_cons_zero, List.getElem?_cons_succ, List.set_cons_zero, List.set_cons_succ, List.cons_append, List.nil_append, bne_self_eq_false, beq_self_eq_true, Bool.not_true, Bool.not_false, Option.isNone_some, Option.isNone_none, eq_self, true_and, and_true, and_self, q1, q2]
      rcases step with ⟨ne, g1, g2, ju, jv, ap⟩ | ⟨eq, g1⟩
      · refine iteB_pos (by simpa using ne) ?_
        have bu := lstN_lt (w := w) hu g2
        have bv := lstN_lt (w := w) hv g2
        rw [ju, jv]
        refine callP1.self (better_of lt s'.drop hl bu ?_)
        refine ⟨⟨_, by rw [q2]; rfl, by rw [jv]⟩, ?_⟩
        refine callP1.self (better_of lt s'.drop (betW_lt hl bu) bv ?_)
        rw [wrap64 (by omega) (by omega), e1]
        have p2 : 2 ^ (m + 1) = 2 ^ m + 2 ^ m := by rw [Nat.pow_succ]; omega
        exact meet_l0 lt hn hl13 hk m _ _ (d - 2 ^ m) (t - 2 ^ m) _ _ h' (by omega) (hu.upN g2) (hv.upN g2) ap (by rw [← upN_add, show 2 ^ m + (t - 2 ^ m) = t by omega]; exact htop) (by omega) (by omega) (by omega) (betW_ge (betW_ge hl0 (lstN_ge ..)) (lstN_ge ..)) (betW_lt (betW_lt hl bu) bv) (by rw [betW_4 hl0 (lstN_ge ..) (lstN_ge ..) (lstN_ge ..) (lstN_ge ..), ← lstN_add, ← lstN_add, show 2 ^ m + (t - 2 ^ m) = t by omega]; exact hT) (by omega) (by omega) hL1 s'.drop
      · refine iteB_neg (by rw [eq]; simp) ?_
        rw [wrap64 (by omega) (by omega), e1]
        exact meet_l0 lt hn hl13 hk m u v d t least _ h' (by omega) hu hv a htop t1 td g1 hl0 hl hT (by omega) (by omega) hL1 s'.drop
    clear_value j
    simp -zeta (disch := omega) only [chkP_some, iteB_true, iteB_false, add_mk, Nat.zero_add, Nat.add_zero, Nat.mul_one, Nat.reduceAdd, Int.toNat_natCast, ex_int, ex_slice, ex_ptr, ex_bool, ex_str, ex_flt, ex_any, bnd_in, List.getElem?_cons_zero, List.getElem?_cons_succ, List.set_cons_zero, List.set_cons_succ, List.cons_append, List.nil_append, bne_self_eq_false, beq_self_eq_true, Bool.not_true, Bool.not_false, Option.isNone_some, Option.isNone_none, eq_self, true_and, and_true, and_self, cu0, cu1, cv0, cv1]
    refine ⟨s2.new_ fun b1 h3 s3 => ?_, s2.new_ fun b1 h3 s3 => ?_⟩
    all_goals
      obtain ⟨du0, du1⟩ := pair_cells lt (X := [_]) s3 hr hu.lt
      obtain ⟨dv0, dv1⟩ := pair_cells lt (X := [_]) s3 hr hv.lt
      refine ⟨⟨_, dv0, _, dv1, rfl⟩, ⟨_, du0, _, du1, rfl⟩, s3.new_ fun b2 h4 s4 => ?_⟩
      obtain ⟨du0, du1⟩ := pair_cells lt (X := [_, _]) s4 hr hu.lt
      obtain ⟨dv0, dv1⟩ := pair_cells lt (X := [_, _]) s4 hr hv.lt
      refine ⟨⟨_, dv0, _, dv1, rfl⟩, ⟨_, du0, _, du1, rfl⟩, ?_⟩
    · refine s4.st1 (by simp) fun h5 s5 => ?_
      try simp -zeta only [add_mk, Nat.zero_add]
      refine s5.st1 (by simp) fun h6 s6 => ?_
      obtain ⟨dv0, dv1⟩ := pair_cells lt (X := [_, _]) s6 hr hv.lt
      refine ⟨⟨_, dv0, _, dv1, rfl⟩, s6.st0 (by simp) fun h7 s7 => ?_⟩
      try simp -zeta only [add_mk, Nat.zero_add]
      refine s7.st0 (by simp) fun h8 s8 => J b1 b2 h8 [_, _] ?_ ?_ s8 <;> simp
    · refine s4.st0 (by simp) fun h5 s5 => ?_
      try simp -zeta only [add_mk, Nat.zero_add]
      refine s5.st0 (by simp) fun h6 s6 => ?_
      obtain ⟨dv0, dv1⟩ := pair_cells lt (X := [_, _]) s6 hr hv.lt
      refine ⟨⟨_, dv0, _, dv1, rfl⟩, s6.st1 (by simp) fun h7 s7 => ?_⟩
      try simp -zeta only [add_mk, Nat.zero_add]
      refine s7.st1 (by simp) fun h8 s8 => J b2 b1 h8 [_, _] ?_ ?_ s8 <;> simp
theorem meet_l0z {top : Nat} {T : Int} {K2 : Int → Int → Int → Heap → Prop} {u v d t : Nat} {least : Int} {L : Int} {h : Heap} (lt : LTk h0 Z z n w D (jK up w)) (hn : n ≤ 4096) (hl13 : z.rs.length ≤ 13) (hu : hasD (UU up) n d u) (hv : hasD (UU up) n d v) (a : Apart (UU up) t u v) (htop : upN (UU up) t u = top) (t1 : 1 ≤ t) (td : t ≤ d) (tm : t ≤ 2 ^ z.rs.length) (hl0 : -1 ≤ least) (hl : least < n) (hT : betW w least (betW w (lstN (UU up) w t u) (lstN (UU up) w t v)) = T) (h0L : 0 ≤ L) (hL1 : L ≤ 100000) (s : St h0 h ((z.t, z.row n L) :: Z))
    (hk : ∀ (u v d : Nat) (le : Int) h', hasD (UU up) n d u → hasD (UU up) n d v → Apart (UU up) 1 u v → upN (UU up) 1 u = top → 1 ≤ d → -1 ≤ le → le < n → betW w le (betW w (lstN (UU up) w 1 u) (lstN (UU up) w 1 v)) = T → St h0 h' ((z.t, z.row n (L + (z.rs.length : Nat))) :: Z) → K2 (u : Int) (v : Int) le h') :
    lift_Table_meet.l0 K2 (z.rs.length + 1) (some ⟨z.t, 0, none⟩) (u : Int) (v : Int) least (z.rs.length : Int) 0 h := by
  have := meet_l0 lt hn hl13 hk z.rs.length u v d t least L h (Nat.le_refl _) hu hv a htop t1 td tm hl0 hl hT h0L rfl (by omega) s
  rw [Nat.sub_self] at this
  exact this
end
end Go.Proofs.YtfidcekobjmamaaDoor
