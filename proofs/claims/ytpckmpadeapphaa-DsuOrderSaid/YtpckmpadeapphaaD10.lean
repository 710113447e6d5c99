/-
  Classes that are joined: in whatever order.
-/
import Derived.Test.YtpckmpadeapphaaD9
namespace Go.Proofs.Ytpckmpadeapphaa
set_option linter.unusedVariables false
set_option linter.unusedSimpArgs false
set_option linter.unnecessarySimpa false
open Go.Hp Go.RowKit
attribute [local irreducible] Go.Hp.iteB Go.Hp.stC Go.Hp.newP

/-- Pairs joined, one behind the other. -/
def joinAll (n : Nat) (ps : List (Int × Int)) (C : Nat → Nat) : Nat → Nat := ps.foldl (fun C p => joinC C n p.1 p.2) C
theorem joinAll_snoc (n : Nat) (ps : List (Int × Int)) (p : Int × Int) (C : Nat → Nat) : joinAll n (ps ++ [p]) C = joinC (joinAll n ps C) n p.1 p.2 := by unfold joinAll; rw [List.foldl_append]; rfl
abbrev inR (n : Nat) (p : Int × Int) : Prop := (0 ≤ p.1 ∧ p.1 < n) ∧ (0 ≤ p.2 ∧ p.2 < n)
theorem joinC_keeps {C : Nat → Nat} {n : Nat} {u v : Int} {x y : Nat} (h : C x = C y) : joinC C n u v x = joinC C n u v y := by unfold joinC; rw [h]
theorem joinC_two {C : Nat → Nat} {n : Nat} {p : Int × Int} (h : inR n p) : joinC C n p.1 p.2 p.1.toNat = joinC C n p.1 p.2 p.2.toNat := by
  unfold joinC; rw [if_pos h, if_pos h, joinF_in (.inl rfl), joinF_in (.inr rfl)]
theorem joinC_least {C : Nat → Nat} {n : Nat} {p : Int × Int} {f : Nat → Nat} (hf : ∀ x y, x < n → y < n → C x = C y → f x = f y) (hp : inR n p → f p.1.toNat = f p.2.toNat) {x y : Nat} (hx : x < n) (hy : y < n) (h : joinC C n p.1 p.2 x = joinC C n p.1 p.2 y) : f x = f y := by
  by_cases c : inR n p
  · have hp := hp c
    have b1 : p.1.toNat < n := by have := c.1; omega
    have b2 : p.2.toNat < n := by have := c.2; omega
    unfold joinC at h
    rw [if_pos c, if_pos c] at h
    have cls : ∀ w, w < n → (C w = C p.1.toNat ∨ C w = C p.2.toNat) → f w = f p.1.toNat := fun w hw k => by
      rcases k with k | k
      · exact hf _ _ hw b1 k
      · exact (hf _ _ hw b2 k).trans hp.symm
    by_cases cx : C x = C p.1.toNat ∨ C x = C p.2.toNat <;> by_cases cy : C y = C p.1.toNat ∨ C y = C p.2.toNat
    · rw [cls x hx cx, cls y hy cy]
    · rw [joinF_in cx, joinF_out cy] at h
      refine absurd ?_ cy
      rcases min_or (C p.1.toNat) (C p.2.toNat) with e | e
      · exact .inl (by rw [← h, e])
      · exact .inr (by rw [← h, e])
    · rw [joinF_out cx, joinF_in cy] at h
      refine absurd ?_ cx
      rcases min_or (C p.1.toNat) (C p.2.toNat) with e | e
      · exact .inl (by rw [h, e])
      · exact .inr (by rw [h, e])
    · rw [joinF_out cx, joinF_out cy] at h
      exact hf _ _ hx hy h
  · unfold joinC at h
    have c' : ¬ ((0 ≤ p.1 ∧ p.1 < (n : Int)) ∧ (0 ≤ p.2 ∧ p.2 < (n : Int))) := c
    rw [if_neg c', if_neg c'] at h
    exact hf _ _ hx hy h
theorem joinAll_keeps {n : Nat} : ∀ (ps : List (Int × Int)) {C : Nat → Nat} {x y : Nat}, C x = C y → joinAll n ps C x = joinAll n ps C y
  | [], _, _, _, h => h
  | p :: r, C, x, y, h => joinAll_keeps r (joinC_keeps h)
theorem joinAll_two {n : Nat} : ∀ (ps : List (Int × Int)) {C : Nat → Nat} {p : Int × Int}, p ∈ ps → inR n p → joinAll n ps C p.1.toNat = joinAll n ps C p.2.toNat
  | [], _, _, h, _ => by cases h
  | q :: r, C, p, h, hp => by
    rcases List.mem_cons.1 h with rfl | h
    · exact joinAll_keeps r (joinC_two hp)
    · exact joinAll_two r h hp
theorem joinAll_least {n : Nat} {f : Nat → Nat} : ∀ (ps : List (Int × Int)) {C : Nat → Nat}, (∀ x y, x < n → y < n → C x = C y → f x = f y) → (∀ p ∈ ps, inR n p → f p.1.toNat = f p.2.toNat) → ∀ x y, x < n → y < n → joinAll n ps C x = joinAll n ps C y → f x = f y
  | [], _, h, _, x, y, hx, hy, e => h x y hx hy e
  | p :: r, C, h, hp, x, y, hx, hy, e => joinAll_least r (C := joinC C n p.1 p.2) (fun x y hx hy e => joinC_least h (hp p (by simp)) hx hy e) (fun q hq => hp q (by simp [hq])) x y hx hy e
theorem joinAll_names {n : Nat} : ∀ (ps : List (Int × Int)) {C : Nat → Nat}, Names n C → Names n (joinAll n ps C)
  | [], _, h => h
  | p :: r, C, h => joinAll_names r (joinC_names h p.1 p.2)
theorem names_eq {n : Nat} {A B : Nat → Nat} (ha : Names n A) (hb : Names n B) (h1 : ∀ x y, x < n → y < n → A x = A y → B x = B y) (h2 : ∀ x y, x < n → y < n → B x = B y → A x = A y) {v : Nat} (hv : v < n) : A v = B v := by
  have e1 : B (A v) = B v := h1 _ _ (ha.lt hv) hv (ha.idem v hv)
  have e2 : A (B v) = A v := h2 _ _ (hb.lt hv) hv (hb.idem v hv)
  have l1 := hb.le (A v) (ha.lt hv)
  have l2 := ha.le (B v) (hb.lt hv)
  omega
/-- The same pairs, turned round, from the last one on. -/
def turned (ps : List (Int × Int)) : List (Int × Int) := ps.reverse.map fun p => (p.2, p.1)
theorem turned_same (n : Nat) (ps : List (Int × Int)) {v : Nat} (hv : v < n) : joinAll n ps (fun v => v) v = joinAll n (turned ps) (fun v => v) v := by
  refine names_eq (joinAll_names _ (Names.id n)) (joinAll_names _ (Names.id n)) (fun x y hx hy h => ?_) (fun x y hx hy h => ?_) hv
  · refine joinAll_least ps (fun x y _ _ e => by rw [show x = y from e]) (fun p hp hr => ?_) x y hx hy h
    exact (joinAll_two (turned ps) (p := (p.2, p.1)) (List.mem_map.2 ⟨p, List.mem_reverse.2 hp, rfl⟩) ⟨hr.2, hr.1⟩).symm
  · refine joinAll_least (turned ps) (fun x y _ _ e => by rw [show x = y from e]) (fun p hp hr => ?_) x y hx hy h
    obtain ⟨q, hq, rfl⟩ := List.mem_map.1 hp
    exact (joinAll_two ps (List.mem_reverse.1 hq) ⟨hr.2, hr.1⟩).symm
theorem clsL_congr {n : Nat} {A B : Nat → Nat} (h : ∀ v, v < n → A v = B v) : clsL A n = clsL B n := by
  have e : ∀ c, clsF A n c = clsF B n c := fun c => List.filter_congr fun x hx => by rw [h x (List.mem_range.1 hx)]
  unfold clsL clsT
  rw [List.filter_congr (q := fun v => B v == v) fun x hx => by rw [h x (List.mem_range.1 hx)]]
  exact List.map_congr_left fun c _ => e c
theorem ofF_congr {n : Nat} {A B : Nat → Nat} {v : Int} (h : ∀ v, v < n → A v = B v) : ofF A n v = ofF B n v := by
  unfold ofF; split
  · rw [h _ (by omega)]
  · rfl

section
variable {a b : DA} {n len cap : Nat}
theorem order_l0 {p : Option Addr} {ps : List (Int × Int)} {h0 : Base} {R : Rws} {K2 : Heap → Prop} {m v : Int} (hl : ps.length = len) (hlen : len ≤ 60) (hv : rowsAt h0.heap p 2 (prV ps))
    (hk : ∀ h' y z, y.n = n → z.n = n → DInv y (joinAll n ps fun v => v) → DInv z (joinAll n (turned ps) fun v => v) → St h0 h' (y.rows a ++ (z.rows b ++ R)) → K2 h') :
    ∀ (d i : Nat) (h : Heap) (y z : DS), i + d = len → y.n = n → z.n = n → DInv y (joinAll n (ps.take i) fun v => v) → DInv z (joinAll n ((turned ps).take i) fun v => v) → St h0 h (y.rows a ++ (z.rows b ++ R)) →
      straitlaw10_DsuOrder.l0 K2 (d + 1) m p len cap v (some ⟨a.b, 0, none⟩) (some ⟨b.b, 0, none⟩) (i : Int) h
  | 0, i, h, y, z, hi, hy, hz, iy, iz, s => by
    unfold straitlaw10_DsuOrder.l0 straitlaw10_DsuOrder.b0
    have e : i = len := by omega
    subst e
    rw [List.take_of_length_le (by omega)] at iy
    rw [List.take_of_length_le (by simp [turned]; omega)] at iz
    exact iteB_neg (decide_eq_false (by omega)) (hk h y z hy hz iy iz s)
  | d + 1, i, h, y, z, hi, hy, hz, iy, iz, s => by
    unfold straitlaw10_DsuOrder.l0 straitlaw10_DsuOrder.b0
    obtain ⟨⟨u, v⟩, ho⟩ := get_lt (l := ps) (i := i) (by omega)
    obtain ⟨⟨u2, v2⟩, ho2⟩ := get_lt (l := ps) (i := len - 1 - i) (by omega)
    obtain ⟨pa, rfl, hp⟩ := hv i [.int .i64 u, .int .i64 v] (by simp [prV, ho])
    obtain ⟨pa2, hpa, hq⟩ := hv (len - 1 - i) [.int .i64 u2, .int .i64 v2] (by simp [prV, ho2])
    cases hpa
    have hp0 : cell h (pa.add (i * 2)) = some (.int .i64 u) := by have := s.ext.cell' (hp 0 _ rfl); simpa using this
    have hp1 := s.ext.cell' (hp 1 (.int .i64 v) rfl)
    have z0 : ((0 : Int) ≤ 0 ∧ (0 : Int) < 2) = True := by simp
    have z1 : ((0 : Int) ≤ 1 ∧ (1 : Int) < 2) = True := by simp
    have e0 : (0 : Int).toNat * 1 = 0 := rfl
    have e1 : (1 : Int).toNat * 1 = 1 := rfl
    refine iteB_pos (decide_eq_true (by omega)) ?_
    simp -zeta (disch := omega) only [chkP_some, iteB_true, iteB_false, add_mk, Nat.zero_add, Nat.add_zero, Nat.mul_one, Nat.reduceAdd, Int.toNat_natCast, ex_int, ex_slice, ex_ptr, ex_bool, ex_str, ex_flt, ex_any, bnd_in, List.getElem?_cons_zero, List.getElem?_cons_succ, List.set_cons_zero, List.set_cons_succ, List.cons_append, List.nil_append, bne_self_eq_false, beq_self_eq_true, Bool.not_true, Bool.not_false, Option.isNone_some, Option.isNone_none, eq_self, true_and, and_true, and_self, z0, z1, e0, e1, Go.Deep.add_add, hp0, hp1]
    refine callP1.self (DJoin_of (u := u) (v := v) iy s fun h2 y2 n2 iy2 s2 => ?_)
    rw [wrap64 (x := (len : Int) - 1) (by omega) (by omega), wrap64 (by omega) (by omega), show (len : Int) - 1 - (i : Int) = ((len - 1 - i : Nat) : Int) by omega, bindV_eq]
    have hq0 : cell h2 (pa.add ((len - 1 - i) * 2)) = some (.int .i64 u2) := by have := s2.ext.cell' (hq 0 _ rfl); simpa using this
    have hq1 := s2.ext.cell' (hq 1 (.int .i64 v2) rfl)
    simp -zeta (disch := omega) only [chkP_some, iteB_true, iteB_false, add_mk, Nat.zero_add, Nat.add_zero, Nat.mul_one, Nat.reduceAdd, Int.toNat_natCast, ex_int, ex_slice, ex_ptr, ex_bool, ex_str, ex_flt, ex_any, bnd_in, List.getElem?_cons_zero, List.getElem?_cons_succ, List.set_cons_zero, List.set_cons_succ, List.cons_append, List.nil_append, bne_self_eq_false, beq_self_eq_true, Bool.not_true, Bool.not_false, Option.isNone_some, Option.isNone_none, eq_self, true_and, and_true, and_self, z0, z1, e0, e1, Go.Deep.add_add, hq0, hq1, bindV_eq]
    have s2 : St h0 h2 (z.rows b ++ (y2.rows a ++ R)) := s2.flip
    refine callP1.self (DJoin_of (u := v2) (v := u2) iz s2 fun h3 z3 n3 iz3 s3 => ?_)
    rw [wrap64 (by omega) (by omega)]
    refine order_l0 hl hlen hv hk d (i + 1) h3 y2 z3 (by omega) (n2.trans hy) (n3.trans hz) ?_ ?_ s3.flip
    · rw [take_snoc ho, joinAll_snoc, ← hy]; rw [← hy] at iy2; exact iy2
    · have ht : (turned ps)[i]? = some (v2, u2) := by
        unfold turned
        rw [List.getElem?_map, List.getElem?_reverse (by omega), hl, ho2]; rfl
      rw [take_snoc ht, joinAll_snoc, ← hz]; rw [← hz] at iz3; exact iz3

theorem Order_of {p : Option Addr} {ps : List (Int × Int)} {h : Heap} {m v : Int} {K : Bool → Heap → Prop} (hl : ps.length = len) (hv : rowsAt h p 2 (prV ps)) (hk : ∀ h', Ext h h' → K true h') : straitlaw10_DsuOrder m p len cap v h K := by
  unfold straitlaw10_DsuOrder
  refine iteB_intro (fun e => callP1.self (awake_of (St.refl h) fun h' s => hk h' s.ext)) (fun e => ?_)
  have e := of_decide_eq_false e
  refine callP1.self (DNew_of (n := m) (St.refl h) fun a h1 s1 => callP1.self (DNew_of (n := m) s1 fun b h2 s2 => ?_))
  have rm := roomN_le m
  refine ⟨len + 1, order_l0 (n := roomN m) (h0 := h) (R := []) hl (by omega) hv (fun h3 y z hy hz iy iz s3 => ?_) len 0 h2 (DS.new (roomN m)) (DS.new (roomN m)) (by omega) rfl rfl (DInv.new rm) (DInv.new rm) s2.flip⟩
  intro j
  have J : ∀ h', St (h : Base) h' (y.rows a ++ (z.rows b ++ [])) → j h' := by
    intro h4 s4
    simp -zeta only [j]
    refine qcallP1.of _ (fun Q hQ => DRoom_of s4 hQ) (qcallP1.of _ (fun Q hQ => RRoom_of hQ) (iteB_pos (by rw [hy]; simp) ?_))
    refine callP3.self (DList_of iy s4 fun h5 U5 q5 c5 qs5 Y5 iy5 k5 l5 s5 => ?_)
    have s5 : St (h : Base) h5 (z.rows b ++ (Y5 ++ (({ y with up := U5 } : DS).rows a ++ []))) := (St.re s5 (by intro a; simp only [cntR_append, cntR_cons, cntR_nil, List.cons_append, List.nil_append, List.set_cons_zero, List.set_cons_succ]; omega))
    refine callP3.self (DList_of iz s5 fun h6 U6 q6 c6 qs6 Y6 iz6 k6 l6 s6 => ?_)
    have eL : clsL (joinAll (roomN m) (turned ps) fun v => v) z.n = clsL (joinAll (roomN m) ps fun v => v) y.n := by
      rw [hy, hz]; exact (clsL_congr fun v hv => turned_same _ ps hv).symm
    rw [eL] at l6
    rw [eL]
    obtain ⟨b1, b2⟩ := clsL_small (C := joinAll (roomN m) ps fun v => v) (n := y.n) iy.n
    refine qcallP1.of true (fun Q hQ => Lists_of s6 k5 k6 l5 l6 (fun x hx => by simp [hx]) (fun x hx => by simp [hx]) b1 b2 hQ) (iteB_pos rfl ?_)
    have s6 : St (h : Base) h6 (({ y with up := U5 } : DS).rows a ++ (Y6 ++ (({ z with up := U6 } : DS).rows b ++ Y5))) := (St.re s6 (by intro a; simp only [cntR_append, cntR_cons, cntR_nil, List.cons_append, List.nil_append, List.set_cons_zero, List.set_cons_succ]; omega))
    refine callP1.self (DOf_of (v := v) iy5 s6 fun h7 U7 iy7 s7 => ?_)
    have s7 : St (h : Base) h7 (({ z with up := U6 } : DS).rows b ++ (Y6 ++ (({ y with up := U7 } : DS).rows a ++ Y5))) := (St.re s7 (by intro a; simp only [cntR_append, cntR_cons, cntR_nil, List.cons_append, List.nil_append, List.set_cons_zero, List.set_cons_succ]; omega))
    refine callP1.self (DOf_of (v := v) iz6 s7 fun h8 U8 iz8 s8 => ?_)
    refine iteB_pos ?_ (callP1.self (awake_of s8 fun h9 s9 => hk h9 s9.ext))
    rw [show ({ y with up := U5 } : DS).n = roomN m from hy, show ({ z with up := U6 } : DS).n = roomN m from hz, ofF_congr fun v hv => turned_same _ ps hv]
    simp
  clear_value j
  refine qcallP1.of 0 (fun Q hQ => DRoom_nil hQ) (iteB_neg rfl ?_)
  refine callP1.self (DJoin_nil (iteB_neg rfl (callP1.self (DOf_nil (iteB_neg rfl (callP1.self (DSame_nil (iteB_neg rfl ?_))))))))
  refine qcallP1.of 0 (fun Q hQ => DCount_nil hQ) (iteB_neg rfl (callP1.self (DSize_nil (iteB_neg rfl ?_))))
  exact callP3.self (DList_nil s3 fun h4 q c s4 => iteB_neg rfl (J h4 s4))
end
end Go.Proofs.Ytpckmpadeapphaa
