/-
  Edges merged: in whatever order. The law.
-/
import Derived.Test.YtapjbmfgmnhpdaaE11
namespace Go.Proofs.Ytapjbmfgmnhpdaa
set_option linter.unusedVariables false
set_option linter.unusedSimpArgs false
set_option linter.unnecessarySimpa false
open Go.Hp Go.RowKit
attribute [local irreducible] Go.Hp.iteB Go.Hp.stC Go.Hp.newP

def mayE (x : Ed) : Prop := 0 ≤ x.1 ∧ 0 ≤ x.2.1 ∧ 0 ≤ x.2.2 ∧ x.2.2 ≤ 2147483648
instance (x : Ed) : Decidable (mayE x) := by unfold mayE; exact inferInstance
def mayB (l : List Ed) : Bool := l.all fun x => decide (mayE x)
theorem mayB_iff {l : List Ed} : mayB l = true ↔ ∀ x ∈ l, mayE x := by simp [mayB]
theorem may_snoc {l : List Ed} {i : Nat} {x : Ed} (hx : l[i]? = some x) : mayB (l.take (i + 1)) = (mayB (l.take i) && decide (mayE x)) := by
  rw [take_snoc hx]; simp [mayB]
section
variable {h0 : Base} {R : Rws}
theorem order_l0 {h : Heap} {K2 : Bool → Heap → Prop} {k cl : Nat} {q : Option Addr} {l : List Ed} (hl : l.length = k) (hb : k < 2 ^ 40) (vl : valsAt h q (eV l)) (hk2 : K2 (mayB l) h) :
    ∀ (d i : Nat) (n : Int) (m : Bool), i + d = k → m = mayB (l.take i) → straitlaw15_EdgeOrder.l0 K2 (d + 1) q k cl n m (i : Int) h
  | 0, i, n, m, hi, hm => by
    unfold straitlaw15_EdgeOrder.l0 straitlaw15_EdgeOrder.b0
    simp only [List.take_of_length_le (show l.length ≤ i by omega)] at hm
    rw [← hm] at hk2
    exact iteB_neg (decide_eq_false (by omega)) hk2
  | d + 1, i, n, m, hi, hm => by
    unfold straitlaw15_EdgeOrder.l0 straitlaw15_EdgeOrder.b0
    obtain ⟨⟨u, v, w⟩, hx⟩ := get_lt (l := l) (i := i) (by omega)
    refine iteB_pos (decide_eq_true (by omega)) ?_
    intro j
    have J : ∀ (n2 : Int) (m2 : Bool), m2 = mayB (l.take (i + 1)) → j n2 m2 := fun n2 m2 e => by
      simp -zeta only [j]
      rw [wrap64 (by omega) (by omega)]
      exact order_l0 hl hb vl hk2 d (i + 1) n2 m2 (by omega) e
    have no : (¬ mayE (u, v, w)) → ∀ n2, j n2 false := fun c n2 => J n2 false (by rw [may_snoc hx, decide_eq_false c, Bool.and_false])
    clear_value j
    have v1 : ∀ {G : Int → Prop}, (chkP q fun a' => ∃ y : Int, cell h ((a'.add (i * 3)).add 1) = some (.int .i64 y) ∧ G y) = G v := by
      intro G; simp only [addr_add]; exact vals_int vl (eV_get1 hx)
    have v0 := fun {G : Int → Prop} => vals_int (G := G) vl (eV_get0 hx)
    simp -zeta (disch := omega) only [chkP_some, iteB_true, iteB_false, add_mk, Nat.zero_add, Nat.add_zero, Nat.mul_one, Nat.reduceAdd, Int.toNat_natCast, ex_int, ex_slice, ex_ptr, ex_bool, ex_str, ex_flt, ex_any, bnd_in, List.getElem?_cons_zero, List.getElem?_cons_succ, List.set_cons_zero, List.set_cons_succ, List.cons_append, List.nil_append, bne_self_eq_false, beq_self_eq_true, Bool.not_true, Bool.not_false, Option.isNone_some, Option.isNone_none, eq_self, true_and, and_true, and_self, v0, v1, vals_edge2 vl hx]
    refine bindV_intro fun n2 _ => iteB_intro (fun c => ?_) (fun c => J _ _ ?_)
    · rw [c] at hm
      refine iteB_intro (fun c1 => ?_) (fun c1 => no (fun h => absurd h.1 (of_decide_eq_false c1)) _)
      refine iteB_intro (fun c2 => ?_) (fun c2 => no (fun h => absurd h.2.1 (of_decide_eq_false c2)) _)
      refine iteB_intro (fun c3 => J _ _ ?_) (fun c3 => no (fun h => absurd h.2.2.1 (of_decide_eq_false c3)) _)
      rw [may_snoc hx, ← hm, Bool.true_and]
      exact decide_eq_decide.2 ⟨fun h => ⟨of_decide_eq_true c1, of_decide_eq_true c2, of_decide_eq_true c3, h⟩, fun h => h.2.2.2⟩
    · rw [c] at hm
      rw [may_snoc hx, ← hm, Bool.false_and]

theorem order_l1 {K4 : Option Addr → Nat → Nat → Heap → Prop} {k cl : Nat} {q : Option Addr} {l : List Ed} (hl : l.length = k) (hb : k < 2 ^ 30) (kl : Keeps h0 R q (eV l))
    (hk : ∀ h' q' c' X, Own3 q' c' (turned l) X → St h0 h' (X ++ R) → K4 q' (turned l).length c' h') :
    ∀ (i : Nat) (h : Heap) (q' : Option Addr) (c' : Nat) (X : Rws), i ≤ k → Own3 q' c' (turned (l.drop i)) X → St h0 h (X ++ R) → straitlaw15_EdgeOrder.l1 K4 (i + 1) q k cl q' (turned (l.drop i)).length c' ((i : Int) - 1) h
  | 0, h, q', c', X, hi, o, s => by
    unfold straitlaw15_EdgeOrder.l1 straitlaw15_EdgeOrder.b1
    rw [List.drop_zero] at o ⊢
    exact iteB_neg (decide_eq_false (by omega)) (hk h q' c' X o s)
  | i + 1, h, q', c', X, hi, o, s => by
    unfold straitlaw15_EdgeOrder.l1 straitlaw15_EdgeOrder.b1
    rw [show (((i + 1 : Nat) : Int) - 1) = (i : Int) by omega]
    obtain ⟨⟨u, v, w⟩, hx⟩ := get_lt (l := l) (i := i) (by omega)
    have vl : valsAt h q (eV l) := kl.at1 s
    refine iteB_pos (decide_eq_true (by omega)) ?_
    have v1 : ∀ {G : Int → Prop}, (chkP q fun a' => ∃ y : Int, cell h ((a'.add (i * 3)).add 1) = some (.int .i64 y) ∧ G y) = G v := by
      intro G; simp only [addr_add]; exact vals_int vl (eV_get1 hx)
    have v0 := fun {G : Int → Prop} => vals_int (G := G) vl (eV_get0 hx)
    simp -zeta (disch := omega) only [chkP_some, iteB_true, iteB_false, add_mk, Nat.zero_add, Nat.add_zero, Nat.mul_one, Nat.reduceAdd, Int.toNat_natCast, ex_int, ex_slice, ex_ptr, ex_bool, ex_str, ex_flt, ex_any, bnd_in, List.getElem?_cons_zero, List.getElem?_cons_succ, List.set_cons_zero, List.set_cons_succ, List.cons_append, List.nil_append, bne_self_eq_false, beq_self_eq_true, Bool.not_true, Bool.not_false, Option.isNone_some, Option.isNone_none, eq_self, true_and, and_true, and_self, v0, v1, vals_edge2 vl hx]
    have hlen : (turned (l.drop (i + 1))).length < 2 ^ 30 := by simp [turned]; omega
    have ht : turned (l.drop i) = turned (l.drop (i + 1)) ++ [(v, u, w)] := by rw [drop_cons hx]; simp [turned, flipE]
    refine Own3.push1 o s rfl (by omega) fun q2 c2 X2 h2 o2 s2 => ?_
    rw [wrap64 (by omega) (by omega)]
    rw [← ht] at o2
    rw [show (turned (l.drop (i + 1))).length + 1 = (turned (l.drop i)).length by rw [ht]; simp]
    exact order_l1 hl hb kl hk i h2 q2 c2 X2 (by omega) o2 s2

theorem order_l2 {K0 : Bool → Heap → Prop} {K6 : Heap → Prop} {k c : Nat} {q : Option Addr} {M : List Ed} (hl : M.length = k) (hb : k < 2 ^ 40) (hc : Canon M) (hg : good M) (km : Keeps h0 R q (eV M))
    {f1 f2 f3 f4 f5 : Bool} {p1 p2 p3 : Option Addr} {n1 c1 n2 c2 n3 c3 : Nat} (hk : ∀ h', St h0 h' R → K6 h') : ∀ (d i : Nat) (h : Heap), i + d = k → St h0 h R → straitlaw15_EdgeOrder.l2 K0 K6 (d + 1) q k c f1 p1 n1 c1 f2 p2 n2 c2 f3 f4 p3 n3 c3 f5 (i : Int) h
  | 0, i, h, hi, s => by
    unfold straitlaw15_EdgeOrder.l2 straitlaw15_EdgeOrder.b2
    exact iteB_neg (decide_eq_false (by omega)) (hk h s)
  | d + 1, i, h, hi, s => by
    unfold straitlaw15_EdgeOrder.l2 straitlaw15_EdgeOrder.b2
    obtain ⟨⟨u, v, w⟩, hx⟩ := get_lt (l := M) (i := i) (by omega)
    have vl : valsAt h q (eV M) := km.at0 s
    have hm := List.mem_of_getElem? hx
    obtain ⟨a1, a2⟩ := hc.2 _ hm
    have a3 := hg _ hm
    simp only at a1 a2 a3
    refine iteB_pos (decide_eq_true (by omega)) ?_
    intro j
    have J : ∀ h2, St h0 h2 R → j h2 := fun h2 s2 => by
      simp -zeta only [j]
      rw [wrap64 (by omega) (by omega)]
      exact order_l2 hl hb hc hg km hk d (i + 1) h2 (by omega) s2
    clear_value j
    have v1 : ∀ {G : Int → Prop}, (chkP q fun a' => ∃ y : Int, cell h ((a'.add (i * 3)).add 1) = some (.int .i64 y) ∧ G y) = G v := by
      intro G; simp only [addr_add]; exact vals_int vl (eV_get1 hx)
    have v0 := fun {G : Int → Prop} => vals_int (G := G) vl (eV_get0 hx)
    simp -zeta (disch := omega) only [chkP_some, iteB_true, iteB_false, add_mk, Nat.zero_add, Nat.add_zero, Nat.mul_one, Nat.reduceAdd, Int.toNat_natCast, ex_int, ex_slice, ex_ptr, ex_bool, ex_str, ex_flt, ex_any, bnd_in, List.getElem?_cons_zero, List.getElem?_cons_succ, List.set_cons_zero, List.set_cons_succ, List.cons_append, List.nil_append, bne_self_eq_false, beq_self_eq_true, Bool.not_true, Bool.not_false, Option.isNone_some, Option.isNone_none, eq_self, true_and, and_true, and_self, v0, v1, vals_edge2 vl hx]
    refine iteB_neg (decide_eq_false (by omega)) (iteB_neg (decide_eq_false (by omega)) ?_)
    refine iteB_intro (fun c => ?_) (fun _ => J h s)
    have c := of_decide_eq_true c
    obtain ⟨⟨x, y, z⟩, hy⟩ := get_lt (l := M) (i := i - 1) (by omega)
    rw [show IntKind.i64.wrap ((i : Int) - 1) = ((i - 1 : Nat) : Int) by rw [wrap64 (by omega) (by omega)]; omega]
    simp -zeta (disch := omega) only [chkP_some, iteB_true, iteB_false, add_mk, Nat.zero_add, Nat.add_zero, Nat.mul_one, Nat.reduceAdd, Int.toNat_natCast, ex_int, ex_slice, ex_ptr, ex_bool, ex_str, ex_flt, ex_any, bnd_in, List.getElem?_cons_zero, List.getElem?_cons_succ, List.set_cons_zero, List.set_cons_succ, List.cons_append, List.nil_append, bne_self_eq_false, beq_self_eq_true, Bool.not_true, Bool.not_false, Option.isNone_some, Option.isNone_none, eq_self, true_and, and_true, and_self, vals_edge vl hx, vals_edge vl hy]
    refine callP1.self (Cmp_of (e := (x, y, z)) (f := (u, v, w)) s fun h2 s2 => iteB_neg (decide_eq_false ?_) (J h2 s2))
    have lt : ltK (x, y, z) (u, v, w) := by
      obtain ⟨p1, e1⟩ := List.getElem?_eq_some_iff.1 hy
      obtain ⟨p2, e2⟩ := List.getElem?_eq_some_iff.1 hx
      have := (List.pairwise_iff_getElem.1 hc.1) (i - 1) i p1 p2 (by omega)
      rw [e1, e2] at this; exact this
    have := cmpEd_neg.2 (show ltEd (x, y, z) (u, v, w) by unfold ltK at lt; unfold ltEd; omega)
    omega
end

theorem small_sum : ∀ {l : List Ed}, (∀ x ∈ l, mayE x) → wsum l ≤ (l.length : Int) * 2147483648
  | [], _ => by simp [wsum, tsum]
  | e :: l, h => by
    have ih := small_sum (l := l) fun z hz => h z (by simp [hz])
    have he := h e (by simp)
    unfold mayE at he
    simp only [wsum, tsum_cons, wf_, List.length_cons] at *
    omega
theorem wsum_turned (l : List Ed) : wsum (turned l) = wsum l := by
  unfold turned
  rw [show wsum (l.map flipE).reverse = wsum (l.map flipE) from tsum_perm _ (List.reverse_perm _)]
  induction l with
  | nil => rfl
  | cons x l ih => simp only [List.map_cons, wsum, tsum_cons] at *; rw [ih]; rfl
theorem fits_good {l : List Ed} (h : good l) (hs : wsum l ≤ 9223372036854775807) : fitsL l := fun x hx => by
  have h1 := h x hx
  have h2 := good_le h x hx
  unfold fits; omega

theorem Order_of {h : Heap} {k cl : Nat} {q : Option Addr} {l : List Ed} {K : Bool → Heap → Prop} (hl : l.length = k) (vl : valsAt h q (eV l))
    (hk : ∀ h', Ext h h' → K true h') : straitlaw15_EdgeOrder q k cl h K := by
  unfold straitlaw15_EdgeOrder
  refine iteB_intro (fun c => ?_) (fun c => ?_)
  · exact callP1.self (awake_of (St.refl h) fun h2 s2 => hk h2 s2.ext)
  have c := of_decide_eq_false c
  have hk100 : k ≤ 100 := by omega
  refine ⟨k + 1, order_l0 hl (by omega) vl ?_ k 0 0 true (by omega) rfl⟩
  refine iteB_intro (fun _ => ?_) (fun c2 => ?_)
  · exact callP1.self (awake_of (St.refl h) fun h2 s2 => hk h2 s2.ext)
  have may : ∀ x ∈ l, mayE x := mayB_iff.1 (by simpa using c2)
  clear c2
  have kl : ∀ R, Keeps (h : Base) R q (eV l) := fun R => Keeps.old vl
  -- plain facts
  have gl : good l := fun x hx => (may x hx).2.2.1
  have sl := small_sum may
  have gt : good (turned l) := fun x hx => by
    obtain ⟨e, he, rfl⟩ := List.mem_map.1 (List.mem_reverse.1 hx)
    exact gl e he
  have st := wsum_turned l
  have tl : (turned l).length = k := by simp [turned, hl]
  obtain ⟨P1, e1, m1⟩ := merged gl (by omega)
  obtain ⟨P2, e2, m2⟩ := merged gt (by omega)
  have l1 := mergeP_len e1
  have l2 := mergeP_len e2
  have s0 := good_sum gl
  obtain ⟨M, hM⟩ : ∃ M, sortEd (P1.filter nz) = M := ⟨_, rfl⟩
  rw [hM] at m1
  have lM : M.length ≤ k := by
    rw [← hM, sortEd_len]
    have := List.length_filter_le nz P1; omega
  have lM1 : (P1.filter nz).length = M.length := by rw [← hM, sortEd_len]
  have nM : M.map normE = M := map_norm fun x hx => (m1.canon.2 x hx).1
  obtain ⟨P3, e3, m3⟩ := merged m1.good (by have := m1.sum; omega)
  have sum1 := m1.sum
  have ok : splOk M := by
    refine ⟨m1.good, ?_⟩
    have := pcs_sum m1.good
    omega
  have wfl : ∀ a b : Int, ∃ t : Int, ∀ w, wf_ (a, b, w) = t * w := fun a b => ⟨1, fun w => by simp [wf_]⟩
  have kfl : ∀ u v : Int, ∀ a b : Int, ∃ t : Int, ∀ w, kf u v (a, b, w) = t * w := fun u v a b => by
    by_cases h : a = u ∧ b = v
    · exact ⟨1, fun w => by simp [kf, h]⟩
    · exact ⟨0, fun w => by rw [show kf u v (a, b, w) = 0 from if_neg h]; simp⟩
  have sS : wsum (splL M) = wsum M := splL_sum wf_ wfl M
  have gS : good (splL M) := fun x hx => by
    obtain ⟨e, he, hx⟩ := List.mem_flatMap.1 hx
    exact (splE_mem hx).2.2 (m1.good e he)
  have nS : (splL M).map normE = splL M := map_norm fun x hx => by
    obtain ⟨e, he, hx⟩ := List.mem_flatMap.1 hx
    obtain ⟨a, b, _⟩ := splE_mem hx
    rw [a, b]; exact (m1.canon.2 e he).1
  obtain ⟨P4, e4, m4⟩ := merged gS (by omega)
  have eq2 : M = sortEd (P2.filter nz) := canon_one m1.canon m2.canon fun u v huv => by
    rw [m1.kw u v huv, m2.kw u v huv]; exact (tsum_perm _ (turned_norm l)).symm
  have eq3 : M = sortEd (P3.filter nz) := canon_one m1.canon m3.canon fun u v huv => by
    rw [m3.kw u v huv, nM]
  have eq4 : M = sortEd (P4.filter nz) := canon_one m1.canon m4.canon fun u v huv => by
    rw [m4.kw u v huv, nS]; exact (splL_sum (kf u v) (kfl u v) M).symm
  have lS : (splL M).length < 2 ^ 30 := by
    have := splL_len M; have := ok.2; omega
  have n2 : (P2.filter nz).length = M.length := by rw [eq2, sortEd_len]
  have n3 : (P3.filter nz).length = M.length := by rw [eq3, sortEd_len]
  have n4 : (P4.filter nz).length = M.length := by rw [eq4, sortEd_len]
  have fl := fits_good gl (by omega)
  have ft := fits_good gt (by omega)
  have fM := fits_good m1.good (by omega)
  have fS := fits_good gS (by omega)
  refine ⟨k + 1, ?_⟩
  have ek : IntKind.i64.wrap ((k : Int) - 1) = (k : Int) - 1 := wrap64 (by omega) (by omega)
  rw [ek]
  have start := order_l1 (h0 := (h : Base)) (R := []) (cl := cl) (K4 := fun z9 z9l z9c h10 => ((callP4 (edge_Merge q k cl h10) fun x12 x12l x12c x13 h14 => (callP4 (edge_Merge z9 z9l z9c h14) fun x15 x15l x15c x16 h17 => (callP4 (edge_Merge x12 x12l x12c h17) fun x18 x18l x18c x19 h20 => (callP4 (edge_Split x12 x12l x12c h20) fun x21 x21l x21c x22 h23 => (callP4 (edge_Merge x21 x21l x21c h23) fun x24 x24l x24c x25 h26 => ((∃ m30, straitlaw15_EdgeOrder.l2 (fun z27 h28 => K z27 h28) (fun h29 => ((iteB x13 (iteB x16 (iteB x19 (iteB x22 (iteB x25 (qcallP1 h29 (straitref15_Same x12 x12l x12c x15 x15l x15c h29) fun x31 => iteB x31 (qcallP1 h29 (straitref15_Same x12 x12l x12c x18 x18l x18c h29) fun x32 => iteB x32 (qcallP1 h29 (straitref15_Same x12 x12l x12c x24 x24l x24c h29) fun x33 => iteB x33 (callP1 (straitlaw15_awake h29) fun x34 h35 => K x34 h35) (K false h29)) (K false h29)) (K false h29)) (K false h29)) (K false h29)) (K false h29)) (K false h29)) (K false h29)))) m30 x12 x12l x12c x13 x15 x15l x15c x16 x18 x18l x18c x19 x22 x24 x24l x24c x25 0 h26)))))))))
    (l := l) hl (by omega) (kl []) (fun h1 qt ct Xt ot s1 => ?_) k h none 0 [] (by omega) (by rw [List.drop_of_length_le (by omega)]; exact Own3.nil) (St.refl h)
  · rw [List.drop_of_length_le (by omega)] at start
    exact start
  have s1 : St (h : Base) h1 Xt := by simpa using s1
  refine callP4.self (Merge_of hl (by omega) fl (kl _) s1 (fun no => by rw [e1] at no; cases no) (fun P hP h2 q1 c1 X1 o1 s2 => ?_))
  rw [e1] at hP
  obtain rfl := Option.some.inj hP
  rw [hM] at o1
  rw [lM1]
  refine callP4.self (Merge_of (R := X1 ++ Xt) rfl (by omega) ft (ot.keeps fun x hx => by simp [hx]) s2 (fun no => by rw [e2] at no; cases no) (fun P hP h3 q2 c2 X2 o2 s3 => ?_))
  rw [e2] at hP
  obtain rfl := Option.some.inj hP
  rw [← eq2] at o2
  rw [n2]
  refine callP4.self (Merge_of (R := X2 ++ (X1 ++ Xt)) rfl (by omega) fM (o1.keeps fun x hx => by simp [hx]) s3 (fun no => by rw [e3] at no; cases no) (fun P hP h4 q3 c3 X3 o3 s4 => ?_))
  rw [e3] at hP
  obtain rfl := Option.some.inj hP
  rw [← eq3] at o3
  rw [n3]
  refine callP4.self (Split_of (R := X3 ++ (X2 ++ (X1 ++ Xt))) rfl (by omega) fM (o1.keeps fun x hx => by simp [hx]) s4 (fun no => absurd ok no) (fun _ h5 q5 c5 X5 o5 s5 => ?_))
  refine callP4.self (Merge_of (R := X5 ++ (X3 ++ (X2 ++ (X1 ++ Xt)))) rfl (by omega) fS (o5.keeps fun x hx => by simp [hx]) s5 (fun no => by rw [e4] at no; cases no) (fun P hP h6 q4 c4 X4 o4 s6 => ?_))
  rw [e4] at hP
  obtain rfl := Option.some.inj hP
  rw [← eq4] at o4
  rw [n4]
  refine ⟨M.length + 1, order_l2 (R := X4 ++ (X5 ++ (X3 ++ (X2 ++ (X1 ++ Xt))))) rfl (by omega) m1.canon m1.good (o1.keeps fun x hx => by simp [hx]) (fun h7 s7 => ?_) M.length 0 h6 (by omega) s6⟩
  have v1 := (o1.keeps (h0 := (h : Base)) (R := X1) fun x hx => hx) h7 _ s7 (fun x hx => by simp [hx])
  have v2 := (o2.keeps (h0 := (h : Base)) (R := X2) fun x hx => hx) h7 _ s7 (fun x hx => by simp [hx])
  have v3 := (o3.keeps (h0 := (h : Base)) (R := X3) fun x hx => hx) h7 _ s7 (fun x hx => by simp [hx])
  have v4 := (o4.keeps (h0 := (h : Base)) (R := X4) fun x hx => hx) h7 _ s7 (fun x hx => by simp [hx])
  refine iteB_pos rfl (iteB_pos rfl (iteB_pos rfl (iteB_pos rfl (iteB_pos rfl ?_))))
  refine qcallP1.of true (fun Q hQ => Same_of v1 v2 rfl rfl (by omega) (by rw [decide_eq_true rfl]; exact hQ)) (iteB_pos rfl ?_)
  refine qcallP1.of true (fun Q hQ => Same_of v1 v3 rfl rfl (by omega) (by rw [decide_eq_true rfl]; exact hQ)) (iteB_pos rfl ?_)
  refine qcallP1.of true (fun Q hQ => Same_of v1 v4 rfl rfl (by omega) (by rw [decide_eq_true rfl]; exact hQ)) (iteB_pos rfl ?_)
  exact callP1.self (awake_of s7 fun h8 s8 => hk h8 s8.ext)
end Go.Proofs.Ytapjbmfgmnhpdaa
