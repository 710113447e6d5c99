/-
  Trees: those above first, the program's and the document's.
-/
import Derived.Test.YtfidcekobjmamaaT8
import Derived.Test.YtfidcekobjmamaaSs6
namespace Go.Proofs.Ytfidcekobjmamaa
set_option linter.unusedVariables false
set_option linter.unusedSimpArgs false
set_option linter.unnecessarySimpa false
open Go.Hp Go.RowKit
attribute [local irreducible] Go.Hp.iteB Go.Hp.stC Go.Hp.newP

section plain
def keyD (dl : List Nat) (v : Nat) : Int := (dl.getD v 0 : Nat)
def ordP (dl : List Nat) : List Nat := srt (keyD dl) (List.range dl.length)
def ordR (dl : List Nat) (k : Nat) : List Nat := (List.range k).flatMap fun k => (List.range dl.length).filter fun v => decide (dl.getD v 0 = k)
theorem order_same {dl : List Nat} (h : ∀ d ∈ dl, d < dl.length) : ordP dl = ordR dl dl.length := by
  have hlt : (ordR dl dl.length).Pairwise (ltK (keyD dl)) := by
    unfold ordR
    rw [List.pairwise_flatMap]
    refine ⟨fun k _ => ?_, List.pairwise_lt_range.imp fun {a b} hab x hx y hy => ?_⟩
    · refine (List.pairwise_lt_range.filter _).imp_of_mem fun {a b} ha hb hab => ?_
      have ha := (List.mem_filter.1 ha).2
      have hb := (List.mem_filter.1 hb).2
      simp only [decide_eq_true_eq] at ha hb
      exact .inr ⟨by unfold keyD; rw [ha, hb], hab⟩
    · have hx := (List.mem_filter.1 hx).2
      have hy := (List.mem_filter.1 hy).2
      simp only [decide_eq_true_eq] at hx hy
      exact .inl (by unfold keyD; omega)
  refine srt_one ((List.perm_ext_iff_of_nodup List.nodup_range (hlt.imp fun {a b} hab e => ?_)).2 fun x => ?_) (hlt.imp fun h => leK_of_lt h)
  · subst e; unfold ltK at hab; omega
  · simp only [ordR, List.mem_flatMap, List.mem_filter, List.mem_range, decide_eq_true_eq]
    constructor
    · intro hx
      refine ⟨dl.getD x 0, ?_, hx, rfl⟩
      simp only [List.getD, List.getElem?_eq_getElem hx, Option.getD_some]
      exact h _ (List.getElem_mem _)
    · rintro ⟨_, _, hx, _⟩; exact hx
theorem depL_lt {up w : List Int} : ∀ d ∈ depL up w, d < (depL up w).length := by
  unfold depL
  split
  · rename_i r
    intro d hd
    obtain ⟨v, hv, rfl⟩ := List.mem_map.1 hd
    obtain ⟨e, he⟩ := rt_deep r (v := v) (by simpa using hv)
    rw [dN_deep he]
    simpa using he.lt_n
  · simp
theorem depL_le (up w : List Int) : (depL up w).length ≤ up.length := by unfold depL; split <;> simp
end plain

section
variable {h0 : Heap} {R : Rws} {n : Nat} {up w : List Int} {qU qW : Option Addr} {cU cW : Nat}

theorem cmp_of {x y : Int} {h : Heap} {K : Int → Heap → Prop} (hk : ∀ r : Int, (r < 0 ↔ x < y) → K r h) : ∃ r, (∀ Q : Int → Heap → Prop, Q r h → cmp_Compare_int x y h Q) ∧ K r h := by
  refine ⟨if x < y then -1 else if x > y then 1 else 0, fun Q hQ => ?_, hk _ (by split <;> (try split) <;> omega)⟩
  unfold cmp_Compare_int
  refine qcallP1.of false (fun R hR => by unfold cmp_isNaN_int; simpa using hR) ?_
  refine qcallP1.of false (fun R hR => by unfold cmp_isNaN_int; simpa using hR) ?_
  simp only [iteB_false, iteB_decide]
  by_cases c : x < y
  · rw [if_pos c] at hQ ⊢; exact hQ
  · rw [if_neg c] at hQ ⊢; by_cases c2 : x > y
    · rw [if_pos c2] at hQ ⊢; exact hQ
    · rw [if_neg c2] at hQ ⊢; exact hQ

theorem cmpok {dl : List Nat} {b b9 c : Nat} {q : Option Addr} {X T : Rws} (o : Own q c (natV dl) X) : CmpOK (keyD dl) (fun v => v < dl.length) h0 b [] ((b9, [.slice q dl.length c]) :: (X ++ T)) ⟨b9, 0, none⟩ := by
  intro x y l h' K hx hy s hk
  unfold tree_Order_c1
  have vd := o.vals s.tail.tail
  have gx : (natV dl)[x]? = some (.int .i64 (keyD dl x)) := by simp [natV, keyD, List.getD, hx]
  have gy : (natV dl)[y]? = some (.int .i64 (keyD dl y)) := by simp [natV, keyD, List.getD, hy]
  try simp -zeta (disch := omega) only [chkP_some, iteB_true, iteB_false, add_mk, Nat.zero_add, Nat.add_zero, Nat.mul_one, Nat.reduceAdd, Int.toNat_natCast, ex_int, ex_slice, ex_ptr, ex_bool, ex_str, ex_flt, ex_any, bnd_in, List.getElem?_cons_zero, List.getElem?_cons_succ, List.set_cons_zero, List.set_cons_succ, List.cons_append, List.nil_append, bne_self_eq_false, beq_self_eq_true, Bool.not_true, Bool.not_false, Option.isNone_some, Option.isNone_none, eq_self, true_and, and_true, and_self, s.rd0, s.rd1, vals_int vd gx, vals_int vd gy]
  obtain ⟨r, h1, h2⟩ := cmp_of (h := h') hk
  exact qcallP1.of r (fun Q hQ => h1 Q hQ) h2

theorem order_l0 {K2 : Heap → Prop} {b m : Nat} {a9 : Addr} (hm : m < 2 ^ 40) (hk : ∀ h', St h0 h' ((b, natV (List.range m)) :: R) → K2 h') :
    ∀ (d i : Nat) (h : Heap), i + d = m → St h0 h ((b, ints m fun j => if j < i then (j : Int) else 0) :: R) → tree_Order.l0 K2 (d + 1) a9 ⟨b, 0, none⟩ m m (m : Int) (i : Int) h
  | 0, i, h, hi, s => by
    unfold tree_Order.l0 tree_Order.b0
    obtain rfl : i = m := by omega
    refine iteB_neg (decide_eq_false (by omega)) (hk h ?_)
    have e : natV (List.range i) = ints i fun j => if j < i then (j : Int) else 0 := by
      have := natV_range i fun v => v
      simp only [List.map_id_fun', id_eq] at this
      rw [this]
      exact ints_congr fun v hv => by rw [if_pos hv]
    rw [e]; exact s
  | d + 1, i, h, hi, s => by
    unfold tree_Order.l0 tree_Order.b0
    refine iteB_pos (decide_eq_true (by omega)) ?_
    try simp -zeta (disch := omega) only [chkP_some, iteB_true, iteB_false, add_mk, Nat.zero_add, Nat.add_zero, Nat.mul_one, Nat.reduceAdd, Int.toNat_natCast, ex_int, ex_slice, ex_ptr, ex_bool, ex_str, ex_flt, ex_any, bnd_in, List.getElem?_cons_zero, List.getElem?_cons_succ, List.set_cons_zero, List.set_cons_succ, List.cons_append, List.nil_append, bne_self_eq_false, beq_self_eq_true, Bool.not_true, Bool.not_false, Option.isNone_some, Option.isNone_none, eq_self, true_and, and_true, and_self, s.rd0]
    refine s.st0 (by rw [ints_length]; omega) fun h2 s2 => ?_
    rw [wrap_id (by omega) (by omega)]
    refine order_l0 hm hk d (i + 1) h2 (by omega) ?_
    rw [ints_set] at s2
    rw [ints_congr (g := upd (fun j => if j < i then (j : Int) else 0) i (i : Int)) fun j hj => ?_]
    · exact s2
    · unfold Hp.upd
      by_cases c : j = i
      · subst c; simp
      · rw [if_neg c]
        show (if j < i + 1 then (j : Int) else 0) = if j < i then (j : Int) else 0
        by_cases c2 : j < i
        · rw [if_pos c2, if_pos (by omega)]
        · rw [if_neg c2, if_neg (by omega)]

theorem POrder_of {h : Heap} {m : Nat} {K : Option Addr → Nat → Nat → Heap → Prop} (hup : up.length = n) (hw : w.length = m) (hn : n ≤ 4096) (kU : Keeps h0 R qU (up.map (Value.int .i64))) (kW : Keeps h0 R qW (w.map (Value.int .i64))) (s : St h0 h R)
    (hk : ∀ b h', St h0 h' ((b, natV (ordP (depL up w))) :: R) → K (some ⟨b, 0, none⟩) (depL up w).length (depL up w).length h') : tree_Order qU n cU qW m cW h K := by
  unfold tree_Order
  refine s.new_ fun t h1 s1 => ?_
  try simp -zeta (disch := omega) only [chkP_some, iteB_true, iteB_false, add_mk, Nat.zero_add, Nat.add_zero, Nat.mul_one, Nat.reduceAdd, Int.toNat_natCast, ex_int, ex_slice, ex_ptr, ex_bool, ex_str, ex_flt, ex_any, bnd_in, List.getElem?_cons_zero, List.getElem?_cons_succ, List.set_cons_zero, List.set_cons_succ, List.cons_append, List.nil_append, bne_self_eq_false, beq_self_eq_true, Bool.not_true, Bool.not_false, Option.isNone_some, Option.isNone_none, eq_self, true_and, and_true, and_self, s1.rd0]
  refine callP3.self (PDepths_of hup hw kU.cons kW.cons s1 fun q c X h2 o s2 => ?_)
  have hle := depL_le up w
  refine s2.new_ fun b9 h3 s3 => ?_
  refine s3.st0 (by simp) fun h4 s4 => ?_
  simp only [List.set_cons_zero] at s4
  try simp -zeta (disch := omega) only [chkP_some, iteB_true, iteB_false, add_mk, Nat.zero_add, Nat.add_zero, Nat.mul_one, Nat.reduceAdd, Int.toNat_natCast, ex_int, ex_slice, ex_ptr, ex_bool, ex_str, ex_flt, ex_any, bnd_in, List.getElem?_cons_zero, List.getElem?_cons_succ, List.set_cons_zero, List.set_cons_succ, List.cons_append, List.nil_append, bne_self_eq_false, beq_self_eq_true, Bool.not_true, Bool.not_false, Option.isNone_some, Option.isNone_none, eq_self, true_and, and_true, and_self, s4.rd0]
  refine ⟨⟨by omega, by omega, by omega, by omega⟩, ?_⟩
  refine s4.new_ fun b13 h5 s5 => ?_
  rw [ints_zero] at s5
  try simp -zeta (disch := omega) only [chkP_some, iteB_true, iteB_false, add_mk, Nat.zero_add, Nat.add_zero, Nat.mul_one, Nat.reduceAdd, Int.toNat_natCast, ex_int, ex_slice, ex_ptr, ex_bool, ex_str, ex_flt, ex_any, bnd_in, List.getElem?_cons_zero, List.getElem?_cons_succ, List.set_cons_zero, List.set_cons_succ, List.cons_append, List.nil_append, bne_self_eq_false, beq_self_eq_true, Bool.not_true, Bool.not_false, Option.isNone_some, Option.isNone_none, eq_self, true_and, and_true, and_self, s5.rd0, s5.rd1]
  refine ⟨(depL up w).length + 1, order_l0 (R := (b9, [.slice q (depL up w).length c]) :: (X ++ (t, [.slice qU n cU, .slice qW m cW]) :: R)) (by omega) (fun h6 s6 => ?_) (depL up w).length 0 h5 (by omega) (by simpa using s5)⟩
  refine callP0.self (Stable_of (key := keyD (depL up w)) (z := []) (n := (depL up w).length) (L := List.range (depL up w).length) (cmpok o) (by omega) (by simp) List.pairwise_lt_range (by simp) (by simpa using s6) fun h7 s7 => ?_)
  have s7 : St h0 h7 ((b13, natV (ordP (depL up w))) :: (b9, [.slice q (depL up w).length c]) :: (X ++ (t, [.slice qU n cU, .slice qW m cW]) :: R)) := by simpa [ordP] using s7
  exact hk b13 h7 ((St.re s7 (by intro a; simp only [cntR_append, cntR_cons, cntR_nil, List.cons_append, List.nil_append, List.set_cons_zero, List.set_cons_succ]; omega)))

/-! The document's -/
theorem rord_l1 {K4 : Option Addr → Nat → Nat → Heap → Prop} {dl : List Nat} {qd : Option Addr} {m cd k : Nat} (hm : dl.length = m) (hm2 : m ≤ 4096) (kd : Keeps h0 R qd (natV dl)) {acc0 : List Nat} (hacc : acc0.length ≤ 2 ^ 30)
    (hk : ∀ q c X h', Own q c (natV (acc0 ++ (List.range m).filter fun v => decide (dl.getD v 0 = k))) X → St h0 h' (X ++ R) → K4 q (acc0 ++ (List.range m).filter fun v => decide (dl.getD v 0 = k)).length c h') :
    ∀ (d i : Nat) (q : Option Addr) (c : Nat) (X : Rws) (h : Heap), i + d = m → Own q c (natV (acc0 ++ (List.range i).filter fun v => decide (dl.getD v 0 = k))) X → St h0 h (X ++ R) →
      straitref29_Order.l1 K4 (d + 1) q (acc0 ++ (List.range i).filter fun v => decide (dl.getD v 0 = k)).length c qd m cd (k : Int) (i : Int) h
  | 0, i, q, c, X, h, hi, o, s => by
    unfold straitref29_Order.l1 straitref29_Order.b1
    obtain rfl : i = m := by omega
    exact iteB_neg (decide_eq_false (by omega)) (hk q c X h o s)
  | d + 1, i, q, c, X, h, hi, o, s => by
    unfold straitref29_Order.l1 straitref29_Order.b1
    have gd : (natV dl)[i]? = some (.int .i64 ((dl.getD i 0 : Nat) : Int)) := by simp [natV, List.getD, show i < dl.length by omega]
    have hfl : ((List.range i).filter fun v => decide (dl.getD v 0 = k)).length ≤ i := by
      have := List.length_filter_le (fun v => decide (dl.getD v 0 = k)) (List.range i)
      simpa using this
    refine iteB_pos (decide_eq_true (by omega)) ?_
    simp -zeta (disch := omega) only [chkP_some, iteB_true, iteB_false, add_mk, Nat.zero_add, Nat.add_zero, Nat.mul_one, Nat.reduceAdd, Int.toNat_natCast, ex_int, ex_slice, ex_ptr, ex_bool, ex_str, ex_flt, ex_any, bnd_in, List.getElem?_cons_zero, List.getElem?_cons_succ, List.set_cons_zero, List.set_cons_succ, List.cons_append, List.nil_append, bne_self_eq_false, beq_self_eq_true, Bool.not_true, Bool.not_false, Option.isNone_some, Option.isNone_none, eq_self, true_and, and_true, and_self, vals_int (kd.at1 s) gd]
    have er : (List.range (i + 1)).filter (fun v => decide (dl.getD v 0 = k)) = (List.range i).filter (fun v => decide (dl.getD v 0 = k)) ++ (if dl.getD i 0 = k then [i] else []) := by
      rw [List.range_succ, List.filter_append]
      congr 1
      by_cases c : dl.getD i 0 = k
      · rw [if_pos c]; simp only [List.filter_cons, List.filter_nil]; rw [if_pos (decide_eq_true c)]
      · rw [if_neg c]; simp only [List.filter_cons, List.filter_nil]; rw [if_neg (fun h => c (of_decide_eq_true h))]
    refine iteB_intro (fun e => ?_) (fun e => ?_)
    · have e : dl.getD i 0 = k := by have e : ((dl.getD i 0 : Nat) : Int) = (k : Int) := by simpa using e
                                     omega
      rw [if_pos e] at er
      refine Own.push1 o s (natV_len _).symm rfl (by rw [natV_len]; simp only [List.length_append]; omega) fun q2 c2 X2 h2 o2 s2 => ?_
      rw [natV_len, wrap_id (by omega) (by omega)]
      have ih := rord_l1 (cd := cd) hm hm2 kd hacc hk d (i + 1) q2 c2 X2 h2 (by omega) (by rw [er]; simpa [natV] using o2) s2
      rw [er, ← List.append_assoc, List.length_append, List.length_singleton] at ih
      exact ih
    · have e : dl.getD i 0 ≠ k := fun h => by rw [h] at e; simp at e
      rw [if_neg e, List.append_nil] at er
      rw [wrap_id (by omega) (by omega)]
      have ih := rord_l1 (cd := cd) hm hm2 kd hacc hk d (i + 1) q c X h (by omega) (by rw [er]; exact o) s
      rw [er] at ih; exact ih
theorem ordR_len (dl : List Nat) : ∀ k, (ordR dl k).length ≤ k * dl.length
  | 0 => by simp [ordR]
  | k + 1 => by
    have ih := ordR_len dl k
    have hfl := List.length_filter_le (fun v => decide (dl.getD v 0 = k)) (List.range dl.length)
    simp only [List.length_range] at hfl
    have : ordR dl (k + 1) = ordR dl k ++ (List.range dl.length).filter fun v => decide (dl.getD v 0 = k) := by simp [ordR, List.range_succ]
    rw [this, List.length_append, Nat.succ_mul]; omega
theorem rord_l0 {K2 : Option Addr → Nat → Nat → Heap → Prop} {dl : List Nat} {qd : Option Addr} {m cd : Nat} (hm : dl.length = m) (hm2 : m ≤ 4096) (kd : Keeps h0 R qd (natV dl))
    (hk : ∀ q c X h', Own q c (natV (ordR dl m)) X → St h0 h' (X ++ R) → K2 q (ordR dl m).length c h') :
    ∀ (d k : Nat) (q : Option Addr) (c : Nat) (X : Rws) (h : Heap), k + d = m → Own q c (natV (ordR dl k)) X → St h0 h (X ++ R) → straitref29_Order.l0 K2 (d + 1) q (ordR dl k).length c qd m cd (k : Int) h
  | 0, k, q, c, X, h, hi, o, s => by
    unfold straitref29_Order.l0 straitref29_Order.b0
    obtain rfl : k = m := by omega
    exact iteB_neg (decide_eq_false (by omega)) (hk q c X h o s)
  | d + 1, k, q, c, X, h, hi, o, s => by
    unfold straitref29_Order.l0 straitref29_Order.b0
    have hle : (ordR dl k).length ≤ 2 ^ 30 := by
      have h1 := ordR_len dl k
      have h2 : k * dl.length ≤ 4096 * 4096 := Nat.mul_le_mul (by omega) (by omega)
      omega
    have es : ordR dl (k + 1) = ordR dl k ++ (List.range m).filter fun v => decide (dl.getD v 0 = k) := by simp [ordR, List.range_succ, hm]
    have H := rord_l1 (R := R) (cd := cd) (k := k) (acc0 := ordR dl k) (K4 := fun z1007 z1007l z1007c h1008 => straitref29_Order.l0 K2 (d + 1) z1007 z1007l z1007c qd m cd ((k + 1 : Nat) : Int) h1008) hm hm2 kd hle (fun q2 c2 X2 h2 o2 s2 => by
      rw [← es] at o2 ⊢
      exact rord_l0 hm hm2 kd hk d (k + 1) q2 c2 X2 h2 (by omega) o2 s2) m 0 q c X h (by omega) (by simpa using o) s
    refine iteB_pos (decide_eq_true (by omega)) ⟨m + 1, ?_⟩
    rw [wrap_id (by omega) (by omega)]
    simpa using H
theorem ROrder_of {h : Heap} {m : Nat} {K : Option Addr → Nat → Nat → Heap → Prop} (hup : up.length = n) (hw : w.length = m) (hn : n ≤ 4096) (kU : Keeps h0 R qU (up.map (Value.int .i64))) (kW : Keeps h0 R qW (w.map (Value.int .i64))) (s : St h0 h R)
    (hk : ∀ q c X h', Own q c (natV (ordP (depL up w))) X → St h0 h' (X ++ R) → K q (ordP (depL up w)).length c h') : straitref29_Order qU n cU qW m cW h K := by
  unfold straitref29_Order
  refine s.new_ fun t h1 s1 => ?_
  try simp -zeta (disch := omega) only [chkP_some, iteB_true, iteB_false, add_mk, Nat.zero_add, Nat.add_zero, Nat.mul_one, Nat.reduceAdd, Int.toNat_natCast, ex_int, ex_slice, ex_ptr, ex_bool, ex_str, ex_flt, ex_any, bnd_in, List.getElem?_cons_zero, List.getElem?_cons_succ, List.set_cons_zero, List.set_cons_succ, List.cons_append, List.nil_append, bne_self_eq_false, beq_self_eq_true, Bool.not_true, Bool.not_false, Option.isNone_some, Option.isNone_none, eq_self, true_and, and_true, and_self, s1.rd0]
  refine callP3.self (RDepths_of hup hw hn kU.cons kW.cons s1 fun q c X h2 o s2 => ?_)
  have hle := depL_le up w
  have es := order_same (depL_lt (up := up) (w := w))
  refine ⟨(depL up w).length + 1, rord_l0 (R := X ++ (t, [.slice qU n cU, .slice qW m cW]) :: R) (dl := depL up w) rfl (by omega) (o.keeps (fun x hx => by simp [hx])) (fun q3 c3 X3 h3 o3 s3 => ?_) (depL up w).length 0 none 0 [] h2 (by omega) (by simpa [ordR, natV] using Own.nil) (by simpa using s2)⟩
  rw [← es] at o3 ⊢
  exact hk q3 c3 X3 h3 o3 ((St.re s3 (by intro a; simp only [cntR_append, cntR_cons, cntR_nil, List.cons_append, List.nil_append, List.set_cons_zero, List.set_cons_succ]; omega)))
end
end Go.Proofs.Ytfidcekobjmamaa
