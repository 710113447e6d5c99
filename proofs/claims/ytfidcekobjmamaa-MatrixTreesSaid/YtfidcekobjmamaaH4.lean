/-
  Trees: those above first (turned from the trees' texts).
-/
import Derived.Test.YtfidcekobjmamaaH3
import Derived.Test.YtfidcekobjmamaaSs6
namespace Go.Proofs.Ytfidcekobjmamaa
set_option linter.unusedVariables false
set_option linter.unusedSimpArgs false
set_option linter.unnecessarySimpa false
open Go.Hp Go.RowKit
attribute [local irreducible] Go.Hp.iteB Go.Hp.stC Go.Hp.newP

section plain
def keyD (dl : List Nat) (v : Nat) : Int := (dl.getD v 0 : Nat)
def ordP (dl : List Nat) : List Nat := srt (keyD dl) (List.range dl.length)
def ordR (dl : List Nat) (k : Nat) : List Nat := (List.range k).flatMap fun k => (List.range dl.length).filter fun v => decide (dl.getD v 0 = k)
theorem order_same {dl : List Nat} (h : ∀ d ∈ dl, d < dl.length) : ordP dl = ordR dl dl.length := by
  have hlt : (ordR dl dl.length).Pairwise (ltK (keyD dl)) := by
    unfold ordR
    rw [List.pairwise_flatMap]
    refine ⟨fun k _ => ?_, List.pairwise_lt_range.imp fun {a b} hab x hx y hy => ?_⟩
    · refine (List.pairwise_lt_range.filter _).imp_of_mem fun {a b} ha hb hab => ?_
      have ha := (List.mem_filter.1 ha).2
      have hb := (List.mem_filter.1 hb).2
      simp only [decide_eq_true_eq] at ha hb
      exact .inr ⟨by unfold keyD; rw [ha, hb], hab⟩
    · have hx := (List.mem_filter.1 hx).2
      have hy := (List.mem_filter.1 hy).2
      simp only [decide_eq_true_eq] at hx hy
      exact .inl (by unfold keyD; omega)
  refine srt_one ((List.perm_ext_iff_of_nodup List.nodup_range (hlt.imp fun {a b} hab e => ?_)).2 fun x => ?_) (hlt.imp fun h => leK_of_lt h)
  · subst e; unfold ltK at hab; omega
  · simp only [ordR, List.mem_flatMap, List.mem_filter, List.mem_range, decide_eq_true_eq]
    constructor
    · intro hx
      refine ⟨dl.getD x 0, ?_, hx, rfl⟩
      simp only [List.getD, List.getElem?_eq_getElem hx, Option.getD_some]
      exact h _ (List.getElem_mem _)
    · rintro ⟨_, _, hx, _⟩; exact hx
theorem depL_lt {up w : List Int} : ∀ d ∈ depL up w, d < (depL up w).length := by
  unfold depL
  split
  · rename_i r
    intro d hd
    obtain ⟨v, hv, rfl⟩ := List.mem_map.1 hd
    obtain ⟨e, he⟩ := rt_deep r (v := v) (by simpa using hv)
    rw [dN_deep he]
    simpa using he.lt_n
  · simp
theorem depL_le (up w : List Int) : (depL up w).length ≤ up.length := by unfold depL; split <;> simp
end plain

section
variable {h0 : Base} {R : Rws} {n : Nat} {up w : List Int} {qU qW : Option Addr} {cU cW : Nat}

theorem cmp_of {x y : Int} {h : Heap} {K : Int → Heap → Prop} (hk : ∀ r : Int, (r < 0 ↔ x < y) → K r h) : ∃ r, (∀ Q : Int → Heap → Prop, Q r h → cmp_Compare_int x y h Q) ∧ K r h := by
  refine ⟨if x < y then -1 else if x > y then 1 else 0, fun Q hQ => ?_, hk _ (by split <;> (try split) <;> omega)⟩
  unfold cmp_Compare_int
  refine qcallP1.of false (fun R hR => by unfold cmp_isNaN_int; simpa using hR) ?_
  refine qcallP1.of false (fun R hR => by unfold cmp_isNaN_int; simpa using hR) ?_
  simp only [iteB_false, iteB_decide]
  by_cases c : x < y
  · rw [if_pos c] at hQ ⊢; exact hQ
  · rw [if_neg c] at hQ ⊢; by_cases c2 : x > y
    · rw [if_pos c2] at hQ ⊢; exact hQ
    · rw [if_neg c2] at hQ ⊢; exact hQ

theorem cmpok {dl : List Nat} {b b9 c : Nat} {q : Option Addr} {X T : Rws} (o : Own q c (natV dl) X) : CmpOK (keyD dl) (fun v => v < dl.length) h0 b [] ((b9, [.slice q dl.length c]) :: (X ++ T)) ⟨b9, 0, none⟩ := by
  intro x y l h' K hx hy s hk
  unfold tree_Order_c1
  have vd := o.vals s.tail.tail
  have gx : (natV dl)[x]? = some (.int .i64 (keyD dl x)) := by simp [natV, keyD, List.getD, hx]
  have gy : (natV dl)[y]? = some (.int .i64 (keyD dl y)) := by simp [natV, keyD, List.getD, hy]
  try simp -zeta (disch := omega) only [chkP_some, iteB_true, iteB_false, add_mk, Nat.zero_add, Nat.add_zero, Nat.mul_one, Nat.reduceAdd, Int.toNat_natCast, ex_int, ex_slice, ex_ptr, ex_bool, ex_str, ex_flt, ex_any, bnd_in, List.getElem?_cons_zero, List.getElem?_cons_succ, List.set_cons_zero, List.set_cons_succ, List.cons_append, List.nil_append, bne_self_eq_false, beq_self_eq_true, Bool.not_true, Bool.not_false, Option.isNone_some, Option.isNone_none, eq_self, true_and, and_true, and_self, s.rd0, s.rd1, vals_int vd gx, vals_int vd gy]
  obtain ⟨r, h1, h2⟩ := cmp_of (h := h') hk
  exact qcallP1.of r (fun Q hQ => h1 Q hQ) h2

theorem order_l0 {K2 : Heap → Prop} {b m : Nat} {a9 : Addr} (hm : m < 2 ^ 40) (hk : ∀ h', St h0 h' ((b, natV (List.range m)) :: R) → K2 h') :
    ∀ (d i : Nat) (h : Heap), i + d = m → St h0 h ((b, ints m fun j => if j < i then (j : Int) else 0) :: R) → tree_Order.l0 K2 (d + 1) a9 ⟨b, 0, none⟩ m m (m : Int) (i : Int) h
  | 0, i, h, hi, s => by
    unfold tree_Order.l0 tree_Order.b0
    obtain rfl : i = m := by omega
    refine iteB_neg (decide_eq_false (by omega)) (hk h ?_)
    have e : natV (List.range i) = ints i fun j => if j < i then (j : Int) else 0 := by
      have := natV_range i fun v => v
      simp only [List.map_id_fun', id_eq] at this
      rw [this]
      exact ints_congr fun v hv => by rw [if_pos hv]
    rw [e]; exact s
  | d + 1, i, h, hi, s => by
    unfold tree_Order.l0 tree_Order.b0
    refine iteB_pos (decide_eq_true (by omega)) ?_
    try simp -zeta (disch := omega) only [chkP_some, iteB_true, iteB_false, add_mk, Nat.zero_add, Nat.add_zero, Nat.mul_one, Nat.reduceAdd, Int.toNat_natCast, ex_int, ex_slice, ex_ptr, ex_bool, ex_str, ex_flt, ex_any, bnd_in, List.getElem?_cons_zero, List.getElem?_cons_succ, List.set_cons_zero, List.set_cons_succ, List.cons_append, List.nil_append, bne_self_eq_false, beq_self_eq_true, Bool.not_true, Bool.not_false, Option.isNone_some, Option.isNone_none, eq_self, true_and, and_true, and_self, s.rd0]
    refine s.st0 (by rw [ints_length]; omega) fun h2 s2 => ?_
    rw [wrap_id (by omega) (by omega)]
    refine order_l0 hm hk d (i + 1) h2 (by omega) ?_
    rw [ints_set] at s2
    rw [ints_congr (g := upd (fun j => if j < i then (j : Int) else 0) i (i : Int)) fun j hj => ?_]
    · exact s2
    · unfold Hp.upd
      by_cases c : j = i
      · subst c; simp
      · rw [if_neg c]
        show (if j < i + 1 then (j : Int) else 0) = if j < i then (j : Int) else 0
        by_cases c2 : j < i
        · rw [if_pos c2, if_pos (by omega)]
        · rw [if_neg c2, if_neg (by omega)]

theorem POrder_of {h : Heap} {m : Nat} {K : Option Addr → Nat → Nat → Heap → Prop} (hup : up.length = n) (hw : w.length = m) (hn : n ≤ 4096) (kU : Keeps h0 R qU (up.map (Value.int .i64))) (kW : Keeps h0 R qW (w.map (Value.int .i64))) (s : St h0 h R)
    (hk : ∀ b h', St h0 h' ((b, natV (ordP (depL up w))) :: R) → K (some ⟨b, 0, none⟩) (depL up w).length (depL up w).length h') : tree_Order qU n cU qW m cW h K := by
  unfold tree_Order
  refine s.new_ fun t h1 s1 => ?_
  try simp -zeta (disch := omega) only [chkP_some, iteB_true, iteB_false, add_mk, Nat.zero_add, Nat.add_zero, Nat.mul_one, Nat.reduceAdd, Int.toNat_natCast, ex_int, ex_slice, ex_ptr, ex_bool, ex_str, ex_flt, ex_any, bnd_in, List.getElem?_cons_zero, List.getElem?_cons_succ, List.set_cons_zero, List.set_cons_succ, List.cons_append, List.nil_append, bne_self_eq_false, beq_self_eq_true, Bool.not_true, Bool.not_false, Option.isNone_some, Option.isNone_none, eq_self, true_and, and_true, and_self, s1.rd0]
  refine callP3.self (PDepths_of hup hw kU.cons kW.cons s1 fun q c X h2 o s2 => ?_)
  have hle := depL_le up w
  refine s2.new_ fun b9 h3 s3 => ?_
  refine s3.st0 (by simp) fun h4 s4 => ?_
  simp only [List.set_cons_zero] at s4
  try simp -zeta (disch := omega) only [chkP_some, iteB_true, iteB_false, add_mk, Nat.zero_add, Nat.add_zero, Nat.mul_one, Nat.reduceAdd, Int.toNat_natCast, ex_int, ex_slice, ex_ptr, ex_bool, ex_str, ex_flt, ex_any, bnd_in, List.getElem?_cons_zero, List.getElem?_cons_succ, List.set_cons_zero, List.set_cons_succ, List.cons_append, List.nil_append, bne_self_eq_false, beq_self_eq_true, Bool.not_true, Bool.not_false, Option.isNone_some, Option.isNone_none, eq_self, true_and, and_true, and_self, s4.rd0]
  refine ⟨⟨by omega, by omega, by omega, by omega⟩, ?_⟩
  refine s4.new_ fun b13 h5 s5 => ?_
  rw [ints_zero] at s5
  try simp -zeta (disch := omega) only [chkP_some, iteB_true, iteB_false, add_mk, Nat.zero_add, Nat.add_zero, Nat.mul_one, Nat.reduceAdd, Int.toNat_natCast, ex_int, ex_slice, ex_ptr, ex_bool, ex_str, ex_flt, ex_any, bnd_in, List.getElem?_cons_zero, List.getElem?_cons_succ, List.set_cons_zero, List.set_cons_succ, List.cons_append, List.nil_append, bne_self_eq_false, beq_self_eq_true, Bool.not_true, Bool.not_false, Option.isNone_some, Option.isNone_none, eq_self, true_and, and_true, and_self, s5.rd0, s5.rd1]
  refine ⟨(depL up w).length + 1, order_l0 (R := (b9, [.slice q (depL up w).length c]) :: (X ++ (t, [.slice qU n cU, .slice qW m cW]) :: R)) (by omega) (fun h6 s6 => ?_) (depL up w).length 0 h5 (by omega) (by simpa using s5)⟩
  refine callP0.self (Stable_of (key := keyD (depL up w)) (z := []) (n := (depL up w).length) (L := List.range (depL up w).length) (cmpok o) (by omega) (by simp) List.pairwise_lt_range (by simp) (by simpa using s6) fun h7 s7 => ?_)
  have s7 : St h0 h7 ((b13, natV (ordP (depL up w))) :: (b9, [.slice q (depL up w).length c]) :: (X ++ (t, [.slice qU n cU, .slice qW m cW]) :: R)) := by simpa [ordP] using s7
  exact hk b13 h7 ((St.re s7 (by intro a; simp only [cntR_append, cntR_cons, cntR_nil, List.cons_append, List.nil_append, List.set_cons_zero, List.set_cons_succ]; omega)))

/-! The document's -/
end
theorem ordP_perm (dl : List Nat) : (ordP dl).Perm (List.range dl.length) := srt_perm _
theorem ordP_len (dl : List Nat) : (ordP dl).length = dl.length := by rw [ordP, srt_len, List.length_range]
/-- Who is above comes ahead. -/
theorem ord_above {up w : List Int} (r : RightT up w) {i u f : Nat} (hi : (ordP (depL up w))[i]? = some u) (hu : u < up.length) (hf : UU up u = (f : Int)) : f ∈ (ordP (depL up w)).take i := by
  have hl : (depL up w).length = up.length := by rw [depL, if_pos r]; simp
  have hD : ∀ v, v < up.length → (depL up w).getD v 0 = dN up v := fun v hv => by rw [depL, if_pos r]; simp [List.getD, hv]
  obtain ⟨d, hd⟩ := rt_deep r hu
  obtain ⟨e, he, hfe⟩ := hd.up hf
  have hfn := hfe.lt
  have hmem : f ∈ ordP (depL up w) := (ordP_perm _).mem_iff.2 (by rw [hl]; exact List.mem_range.2 hfn)
  obtain ⟨j, hj, hjf⟩ := List.getElem_of_mem hmem
  rcases Nat.lt_or_ge j i with h | h
  · exact List.mem_of_getElem? (i := j) (by rw [List.getElem?_take, if_pos h, List.getElem?_eq_getElem hj, hjf])
  · exfalso
    have hil := (List.getElem?_eq_some_iff.1 hi).1
    have hiu := (List.getElem?_eq_some_iff.1 hi).2
    have hle : leK (keyD (depL up w)) u f := by
      rcases Nat.lt_or_ge i j with h2 | h2
      · have := List.pairwise_iff_getElem.1 (srt_up (key := keyD (depL up w)) (List.range (depL up w).length)) i j hil hj h2
        change leK _ ((ordP (depL up w))[i]) ((ordP (depL up w))[j]) at this
        rwa [hiu, hjf] at this
      · have : i = j := by omega
        subst this
        rw [hiu] at hjf; subst hjf
        rw [leK_iff]; omega
    rw [leK_iff] at hle
    unfold keyD at hle
    rw [hD u hu, hD f hfn, dN_deep hd, dN_deep hfe] at hle
    omega

section
variable {h0 : Base} {R : Rws} {n : Nat} {up w : List Int} {qU qW : Option Addr} {cU cW : Nat}
theorem ways_iff {u v : Nat} (r : RightT up w) (hu : u < up.length) : isB up v u = if u = v then true else if 0 ≤ UU up u then isB up v (UU up u).toNat else false := by
  obtain ⟨d, hd⟩ := rt_deep r hu
  unfold isB
  cases d with
  | zero =>
    have h1 := hd.2
    rw [ways_root hd, if_neg (c := 0 ≤ UU up u) (by omega)]
    by_cases c : u = v
    · rw [if_pos c]; simp [c]
    · have c' : ¬ v = u := fun e => c e.symm
      rw [if_neg c]; simp [c']
  | succ d =>
    obtain ⟨_, f, hf, hfd⟩ := id hd
    rw [ways_cons hd hf, hf, if_pos (c := (0 : Int) ≤ (f : Int)) (by omega), Int.toNat_natCast]
    by_cases c : u = v
    · rw [if_pos c]; simp [c]
    · rw [if_neg c]
      refine decide_eq_decide.2 ?_
      have c' : ¬ v = u := fun e => c e.symm
      simp [c']

end
end Go.Proofs.Ytfidcekobjmamaa
