/-
  Jumps in a tree: where two meet.
-/
import Derived.Test.YtfidcekobjmamaaDoorLA
namespace Go.Proofs.YtfidcekobjmamaaDoor
set_option linter.unusedVariables false
set_option linter.unusedSimpArgs false
set_option linter.unnecessarySimpa false
open Go.Hp Go.RowKit
attribute [local irreducible] Go.Hp.iteB Go.Hp.stC Go.Hp.newP

section
variable {h0 : Base} {Z : Rws} {z : LT} {n : Nat} {up w : List Int} {D : Nat → Int}
theorem meet_of {K : Int → Int → Heap → Prop} {h : Heap} {L : Int} (ht : Tab h0.heap) (lt : LTk h0 Z z n w D (jK up w)) (hn : n ≤ 4096) (hrs : n ≤ 2 ^ z.rs.length) (hr1 : 0 < z.rs.length) (hl13 : z.rs.length ≤ 13) (hD : ∀ v, v < n → ∃ d : Nat, D v = (d : Int) ∧ hasD (UU up) n d v)
    (one : ∀ a b : Nat, a < n → b < n → UU up a = -1 → UU up b = -1 → a = b) {u v du dv : Nat} (hu : hasD (UU up) n du u) (hv : hasD (UU up) n dv v) (s : St h0 h ((z.t, z.row n L) :: Z))
    {bb : Nat} (hb13 : bb ≤ 64) (hub : du < 2 ^ bb) (hvb : dv < 2 ^ bb) (hL : 0 ≤ L ∧ L ≤ 1000) (hk : ∀ (top p q : Nat) (le : Int) h' L', upN (UU up) p u = top → upN (UU up) q v = top → p ≤ du → q ≤ dv → du - p = dv - q → (p = 0 ∨ q = 0 ∨ upN (UU up) (p - 1) u ≠ upN (UU up) (q - 1) v) → le = betW w (lstN (UU up) w p u) (lstN (UU up) w q v) → (bb = 0 → L' ≤ L) → L ≤ L' → L' ≤ L + bb + z.rs.length + 1 → St h0 h' ((z.t, z.row n L') :: Z) → K (top : Int) le h') :
    lift_Table_meet (some ⟨z.t, 0, none⟩) (u : Int) (v : Int) h K := by
  unfold lift_Table_meet
  have r0 := s.rd0
  simp only [LT.row] at r0
  have Dd : ∀ {x d : Nat}, hasD (UU up) n d x → D x = (d : Int) := fun {x d} hx => by
    obtain ⟨d', e, hd⟩ := hD x hx.lt
    rw [e, hd.uniq hx]
  have cd : ∀ {x d : Nat}, hasD (UU up) n d x → cell h ⟨z.bd, x, none⟩ = some (.int .i64 (d : Int)) := fun {x d} hx => by
    have := dep_cell lt s hx.lt; rw [Dd hx] at this; exact this
  intro j
  have J : ∀ (a b da db : Nat), hasD (UU up) n da a → hasD (UU up) n db b → db ≤ da → da < 2 ^ bb →
      (∀ (top p q : Nat) (le : Int) h' L', upN (UU up) p a = top → upN (UU up) q b = top → p ≤ da → q ≤ db → da - p = db - q → (p = 0 ∨ q = 0 ∨ upN (UU up) (p - 1) a ≠ upN (UU up) (q - 1) b) → le = betW w (lstN (UU up) w p a) (lstN (UU up) w q b) → (bb = 0 → L' ≤ L) → L ≤ L' → L' ≤ L + bb + z.rs.length + 1 → St h0 h' ((z.t, z.row n L') :: Z) → K (top : Int) le h') → j (a : Int) (b : Int) := fun a b da db ha hb hdd hdb hk => by
    simp -zeta only [j]
    have hal := ha.lt
    have hbl := hb.lt
    have hdn := ha.lt_n
    refine ⟨_, _, _, r0 1, ⟨by omega, by omega⟩, (da : Int), ?_, _, _, _, r0 1, ⟨by omega, by omega⟩, (db : Int), ?_, ?_⟩
    · show cell h ((⟨z.bd, 0, none⟩ : Addr).add ((a : Int).toNat * 1)) = _
      rw [add_mk, Int.toNat_natCast, Nat.mul_one, Nat.zero_add]; exact cd ha
    · show cell h ((⟨z.bd, 0, none⟩ : Addr).add ((b : Int).toNat * 1)) = _
      rw [add_mk, Int.toNat_natCast, Nat.mul_one, Nat.zero_add]; exact cd hb
    rw [show IntKind.i64.wrap ((da : Int) - (db : Int)) = ((da - db : Nat) : Int) by rw [wrap64 (by omega) (by omega)]; omega]
    refine callP2.self ?_
    unfold lift_Table_climb
    refine ⟨da - db + 1, climb_lk ht lt hn hrs (da - db + 1) (da - db) da a (-1) L h 0 bb (by omega) ha (by omega) (by omega) (by omega) ⟨da - db, by simp⟩ (by rw [Nat.zero_add]; omega) hL.1 (by omega) s fun h2 L2 g1 g2 s2 => ?_⟩
    have ha' := ha.upN (show da - db ≤ da by omega)
    rw [show da - (da - db) = db by omega] at ha'
    have bl := lstN_lt (w := w) ha (show da - db ≤ da by omega)
    rw [betW_neg]
    have blg := lstN_ge (UU up) w (da - db) a
    refine iteB_intro (fun e => ?_) (fun e => ?_)
    · have e : upN (UU up) (da - db) a = b := by
        have : ((upN (UU up) (da - db) a : Nat) : Int) = (b : Int) := by simpa using e
        omega
      refine hk _ (da - db) 0 _ h2 L2 rfl e.symm (by omega) (by omega) (by omega) (.inr (.inl rfl)) (by rw [show lstN (UU up) w 0 b = -1 from rfl, betW_none blg]) (fun h => by omega) g1 (by omega) s2
    · have e : ¬ upN (UU up) (da - db) a = b := fun h => by rw [h] at e; simp at e
      obtain ⟨t, td, ap⟩ := meets one ha' hb
      have t1 : 1 ≤ t := by
        rcases Nat.eq_zero_or_pos t with h | h
        · subst h; exact absurd ap.1 e
        · exact h
      have r2 := s2.rd0
      simp only [LT.row] at r2
      refine ⟨_, _, _, r2 2, z.rs.length + 1, meet_l0z (top := upN (UU up) t (upN (UU up) (da - db) a)) lt hn hl13 ha' hb ap rfl t1 td (by have := hb.lt_n; omega) blg bl rfl (by omega) (by omega) s2 (fun u' v' d' le' h3 hu3 hv3 ap3 htop hd1 le0 le3 hT s3 => ?_)⟩
      have hul := hu3.lt
      have hvl := hv3.lt
      obtain ⟨r, hr⟩ := get_lt (l := z.rs) (i := 0) hr1
      have r3 := s3.rd0
      simp only [LT.row] at r3
      refine ⟨_, r3 3, ?_⟩
      refine s3.st0 (j := 3) (by simp [LT.row]) fun h4 s4 => ?_
      have s4 : St h0 h4 ((z.t, z.row n (L2 + (z.rs.length : Nat) + 1)) :: Z) := by rw [wrap64 (by omega) (by omega)] at s4; exact s4
      intro j119
      have ju := jK_law (w := w) 0 d' u' hu3
      rw [if_pos (by simpa using hd1)] at ju
      have bu := lstN_lt (w := w) hu3 (show 2 ^ 0 ≤ d' by simpa using hd1)
      have jv := jK_law (w := w) 0 d' v' hv3
      rw [if_pos (by simpa using hd1)] at jv
      have b1 : 1 ≤ bb := by
        apply Classical.byContradiction
        intro c
        have : bb = 0 := by omega
        rw [this] at hdb
        omega
      have bv : (jK up w 0 v').2 < n := (jK_lt (fun x hx => by
        obtain ⟨d, _, hd⟩ := hD x hx
        cases d with
        | zero => have := hd.2; omega
        | succ d => obtain ⟨_, y, hy, hd⟩ := hd; have := hd.lt; omega) 0 v' hvl).2
      have J119 : ∀ (y1 y2 : Nat) (h' : Heap) (Y : Rws), (y1, [Value.int .i64 (jK up w 0 u').1, .int .i64 (jK up w 0 u').2]) ∈ Y → (y2, [Value.int .i64 (jK up w 0 v').1, .int .i64 (jK up w 0 v').2]) ∈ Y → St h0 h' (Y ++ (z.t, z.row n (L2 + (z.rs.length : Nat) + 1)) :: Z) → j119 ⟨y1, 0, none⟩ ⟨y2, 0, none⟩ h' := fun y1 y2 h' Y m1 m2 s' => by
        simp -zeta only [j119]
        have q1 : ∀ j, cell h' ⟨y1, j, none⟩ = [Value.int .i64 (jK up w 0 u').1, .int .i64 (jK up w 0 u').2][j]? := s'.rd (by simp [m1])
        have q2 : ∀ j, cell h' ⟨y2, j, none⟩ = [Value.int .i64 (jK up w 0 v').1, .int .i64 (jK up w 0 v').2][j]? := s'.rd (by simp [m2])
        simp -zeta (disch := omega) only [chkP_some, iteB_true, iteB_false, add_mk, Nat.zero_add, Nat.add_zero, Nat.mul_one, Nat.reduceAdd, Int.toNat_natCast, ex_int, ex_slice, ex_ptr, ex_bool, ex_str, ex_flt, ex_any, bnd_in, List.getElem?_cons_zero, List.getElem?_cons_succ, List.set_cons_zero, List.set_cons_succ, List.cons_append, List.nil_append, bne_self_eq_false, beq_self_eq_true, Bool.not_true, Bool.not_false, Option.isNone_some, Option.isNone_none, eq_self, true_and, and_true, and_self, q1, q2]
        refine callP1.self (better_of lt s'.drop le3 (by rw [ju]; exact bu) ?_)
        try simp -zeta (disch := omega) only [chkP_some, iteB_true, iteB_false, add_mk, Nat.zero_add, Nat.add_zero, Nat.mul_one, Nat.reduceAdd, Int.toNat_natCast, ex_int, ex_slice, ex_ptr, ex_bool, ex_str, ex_flt, ex_any, bnd_in, List.getElem?_cons_zero, List.getElem?_cons_succ, List.set_cons_zero, List.set_cons_succ, List.cons_append, List.nil_append, bne_self_eq_false, beq_self_eq_true, Bool.not_true, Bool.not_false, Option.isNone_some, Option.isNone_none, eq_self, true_and, and_true, and_self, q1, q2]
        refine callP1.self (better_of lt s'.drop (betW_lt le3 (by rw [ju]; exact bu)) bv ?_)
        try simp -zeta (disch := omega) only [chkP_some, iteB_true, iteB_false, add_mk, Nat.zero_add, Nat.add_zero, Nat.mul_one, Nat.reduceAdd, Int.toNat_natCast, ex_int, ex_slice, ex_ptr, ex_bool, ex_str, ex_flt, ex_any, bnd_in, List.getElem?_cons_zero, List.getElem?_cons_succ, List.set_cons_zero, List.set_cons_succ, List.cons_append, List.nil_append, bne_self_eq_false, beq_self_eq_true, Bool.not_true, Bool.not_false, Option.isNone_some, Option.isNone_none, eq_self, true_and, and_true, and_self, q1, q2]
        have e5 : (jK up w 0 u').1 = ((upN (UU up) t (upN (UU up) (da - db) a) : Nat) : Int) := by rw [ju]; simp only; rw [show (2 : Nat) ^ 0 = 1 from rfl, htop]
        rw [e5]
        refine hk _ (da - db + t) t _ h' _ (upN_add ..) ap.1.symm (by omega) (by omega) (by omega) (.inr (.inr ?_)) ?_ (by omega) (by omega) (by omega) s'.drop
        rotate_left
        · rw [ju, jv]
          show betW w (betW w le' (lstN (UU up) w 1 u')) (lstN (UU up) w 1 v') = _
          rw [betW_assoc le0 (lstN_ge ..) (lstN_ge ..), hT, lstN_add, betW_assoc blg (lstN_ge ..) (lstN_ge ..)]
        rw [show da - db + t - 1 = (da - db) + (t - 1) by omega, upN_add]
        exact ap.2 (t - 1) (by omega)
      clear_value j119
      have vj : ∀ (h' : Heap) (X : Rws), St h0 h' (X ++ (z.t, z.row n (L2 + (z.rs.length : Nat) + 1)) :: Z) → valsAt h' z.qj (z.rs.map fun r => .slice (some ⟨r, 0, none⟩) n n) := fun h' X s' => (lt.kj.cons (y := (z.t, z.row n (L2 + (z.rs.length : Nat) + 1)))).at1 s'
      obtain ⟨aj, hqj, cj⟩ := vj h4 [] s4 0 (.slice (some ⟨r, 0, none⟩) n n) (by simp [hr])
      have rj : ∀ (h' : Heap) (X : Rws), St h0 h' (X ++ (z.t, z.row n (L2 + (z.rs.length : Nat) + 1)) :: Z) → cell h' (aj.add 0) = some (.slice (some ⟨r, 0, none⟩) n n) := fun h' X s' => by
        obtain ⟨a2, h2, c2⟩ := vj h' X s' 0 (.slice (some ⟨r, 0, none⟩) n n) (by simp [hr])
        rw [hqj] at h2; cases h2; exact c2
      have rt : ∀ (h' : Heap) (X : Rws), St h0 h' (X ++ (z.t, z.row n (L2 + (z.rs.length : Nat) + 1)) :: Z) → cell h' ⟨z.t, 2, none⟩ = some (.slice (some aj) z.rs.length z.cj) := fun h' X s' => by
        have := s'.rd (b := z.t) (cs := z.row n (L2 + (z.rs.length : Nat) + 1)) (by simp) 2
        rw [this]; simp only [LT.row, List.getElem?_cons_zero, List.getElem?_cons_succ]; rw [hqj]
      have rt4 := rt h4 [] s4
      obtain ⟨cu0, cu1⟩ := pair_cells lt (X := []) s4 hr hul
      obtain ⟨cv0, cv1⟩ := pair_cells lt (X := []) s4 hr hvl
      simp -zeta (maxSteps := 5000000) (disch := omega) only [chkP_some, add_mk, Nat.zero_add, Nat.reduceAdd, Nat.mul_one, Nat.zero_mul, Int.toNat_zero, Int.reduceToNat, Int.toNat_natCast, rt4, ex_slice, bnd_in, cj, ex_int, cu0, cu1, cv0, cv1]
      have cc := fun (h' : Heap) (X : Rws) (s' : St h0 h' (X ++ (z.t, z.row n (L2 + (z.rs.length : Nat) + 1)) :: Z)) => And.intro (pair_cells lt s' hr hul) (pair_cells lt s' hr hvl)
      refine ⟨s4.new_ fun b1 h5 s5 => ?_, s4.new_ fun b1 h5 s5 => ?_⟩
      all_goals
        obtain ⟨⟨du0, du1⟩, dv0, dv1⟩ := cc h5 [_] s5
        have j5 := rj h5 [_] s5
        have t5 := rt h5 [_] s5
        refine ⟨⟨_, dv0, _, dv1, rfl⟩, ⟨_, _, _, j5, rfl⟩, ⟨_, _, _, t5, rfl⟩, ⟨_, du0, _, du1, rfl⟩, ⟨_, _, _, j5, rfl⟩, ⟨_, _, _, t5, rfl⟩, s5.new_ fun b2 h6 s6 => ?_⟩
        obtain ⟨⟨du0, du1⟩, dv0, dv1⟩ := cc h6 [_, _] s6
        have j6 := rj h6 [_, _] s6
        have t6 := rt h6 [_, _] s6
        refine ⟨⟨_, dv0, _, dv1, rfl⟩, ⟨_, _, _, j6, rfl⟩, ⟨_, _, _, t6, rfl⟩, ⟨_, du0, _, du1, rfl⟩, ⟨_, _, _, j6, rfl⟩, ⟨_, _, _, t6, rfl⟩, ?_⟩
      · refine s6.st1 (by simp) fun h7 s7 => ?_
        try simp -zeta only [add_mk, Nat.zero_add]
        refine s7.st1 (by simp) fun h8 s8 => ?_
        obtain ⟨⟨du0, du1⟩, dv0, dv1⟩ := cc h8 [_, _] s8
        refine ⟨⟨_, dv0, _, dv1, rfl⟩, ⟨_, _, _, rj h8 [_, _] s8, rfl⟩, ⟨_, _, _, rt h8 [_, _] s8, rfl⟩, s8.st0 (by simp) fun h9 s9 => ?_⟩
        try simp -zeta only [add_mk, Nat.zero_add]
        refine s9.st0 (by simp) fun hA sA => J119 b1 b2 hA [_, _] ?_ ?_ sA <;> simp
      · refine s6.st0 (by simp) fun h7 s7 => ?_
        try simp -zeta only [add_mk, Nat.zero_add]
        refine s7.st0 (by simp) fun h8 s8 => ?_
        obtain ⟨⟨du0, du1⟩, dv0, dv1⟩ := cc h8 [_, _] s8
        refine ⟨⟨_, dv0, _, dv1, rfl⟩, ⟨_, _, _, rj h8 [_, _] s8, rfl⟩, ⟨_, _, _, rt h8 [_, _] s8, rfl⟩, s8.st1 (by simp) fun h9 s9 => ?_⟩
        try simp -zeta only [add_mk, Nat.zero_add]
        refine s9.st1 (by simp) fun hA sA => J119 b2 b1 hA [_, _] ?_ ?_ sA <;> simp
  clear_value j
  have cu := cd hu
  have cv := cd hv
  have hul := hu.lt
  have hvl := hv.lt
  simp -zeta (disch := omega) only [chkP_some, iteB_true, iteB_false, add_mk, Nat.zero_add, Nat.add_zero, Nat.mul_one, Nat.reduceAdd, Int.toNat_natCast, ex_int, ex_slice, ex_ptr, ex_bool, ex_str, ex_flt, ex_any, bnd_in, List.getElem?_cons_zero, List.getElem?_cons_succ, List.set_cons_zero, List.set_cons_succ, List.cons_append, List.nil_append, bne_self_eq_false, beq_self_eq_true, Bool.not_true, Bool.not_false, Option.isNone_some, Option.isNone_none, eq_self, true_and, and_true, and_self, r0, cu, cv]
  refine iteB_intro (fun e => ?_) (fun e => ?_)
  · have e := of_decide_eq_true e
    exact J v u dv du hv hu (by omega) hvb fun top p q le h' L' h1 h2 h3 h4 h5 h6 h7 h8 h9 h10 s' => hk top q p le h' L' h2 h1 h4 h3 h5.symm (by rcases h6 with h | h | h; exact .inr (.inl h); exact .inl h; exact .inr (.inr fun e => h e.symm)) (by rw [h7]; exact betW_comm (lstN_ge ..) (lstN_ge ..)) h8 h9 h10 s'
  · have e := of_decide_eq_false e
    exact J u v du dv hu hv (by omega) hub hk
end
end Go.Proofs.YtfidcekobjmamaaDoor
