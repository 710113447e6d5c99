/-
  The document's trees: the least edge (turned from the trees' texts).
-/
import Derived.Test.YtfidcekobjmamaaH2
namespace Go.Proofs.Ytfidcekobjmamaa
set_option linter.unusedVariables false
set_option linter.unusedSimpArgs false
set_option linter.unnecessarySimpa false
open Go.Hp Go.RowKit
attribute [local irreducible] Go.Hp.iteB Go.Hp.stC Go.Hp.newP



def stepD (up : List Int) (W : Nat → Int) (x y : Nat) (o : Nat × Bool) (i : Nat) : Nat × Bool :=
  if isB up i x == isB up i y then o else if !o.2 || decide (W i < W o.1) then (i, true) else o
def leastD (up : List Int) (W : Nat → Int) (n x y : Nat) : Nat × Bool := (List.range n).foldl (stepD up W x y) (0, false)

section
variable {h0 : Base} {R : Rws} {n : Nat} {up w : List Int} {qU qW : Option Addr} {cU cW : Nat}

theorem stepD_lt {W : Nat → Int} {x y : Nat} {o : Nat × Bool} {i : Nat} (hi : i < n) (ho : o.2 = true → o.1 < n) : (stepD up W x y o i).2 = true → (stepD up W x y o i).1 < n := by
  unfold stepD
  split
  · exact ho
  · split
    · exact fun _ => hi
    · exact ho
theorem mem_belL (r : RightT up w) {i x : Nat} (hi : i < up.length) (hx : x < up.length) : decide ((x : Int) ∈ (belL up w (i : Int)).map fun z : Nat => (z : Int)) = isB up i x := by
  have e : belL up w (i : Int) = (List.range up.length).filter (isB up i) := by
    unfold belL
    rw [if_pos ⟨r, by omega, by omega⟩, Int.toNat_natCast]
  have e0 : (x : Int) ∈ (belL up w (i : Int)).map (fun z : Nat => (z : Int)) ↔ x ∈ (List.range up.length).filter (isB up i) := by rw [mem_cast, e]
  cases hb : isB up i x with
  | true => exact decide_eq_true (e0.2 (List.mem_filter.2 ⟨List.mem_range.2 hx, hb⟩))
  | false => exact decide_eq_false fun h => by have := (List.mem_filter.1 (e0.1 h)).2; rw [hb] at this; exact absurd this (by decide)

theorem rleast_l0 {K2 : Heap → Prop} {t b7 b9 x y : Nat} (hup : up.length = n) (hw : w.length = n) (hn : n ≤ 4096) (r : RightT up w) (hx : x < n) (hy : y < n) (kU : Keeps h0 R qU (up.map (Value.int .i64))) (kW : Keeps h0 R qW (w.map (Value.int .i64)))
    (hk : ∀ h', St h0 h' ((b9, [.int .i64 ((leastD up (UU w) n x y).1 : Int), .bool (leastD up (UU w) n x y).2]) :: (b7, [.int .i64 0, .bool false]) :: (t, [.slice qU n cU, .slice qW n cW]) :: R) → K2 h') :
    ∀ (d i : Nat) (o : Nat × Bool) (h : Heap), i + d = n → (o.2 = true → o.1 < n) → leastD up (UU w) n x y = (List.range' i d).foldl (stepD up (UU w) x y) o →
      St h0 h ((b9, [.int .i64 (o.1 : Int), .bool o.2]) :: (b7, [.int .i64 0, .bool false]) :: (t, [.slice qU n cU, .slice qW n cW]) :: R) →
      straitref29_Least.l0 K2 (d + 1) (x : Int) (y : Int) ⟨t, 0, none⟩ ⟨b7, 0, none⟩ ⟨b9, 0, none⟩ (i : Int) h
  | 0, i, o, h, hi, ho, he, s => by
    unfold straitref29_Least.l0 straitref29_Least.b0
    try simp -zeta (disch := omega) only [chkP_some, iteB_true, iteB_false, add_mk, Nat.zero_add, Nat.add_zero, Nat.mul_one, Nat.reduceAdd, Int.toNat_natCast, ex_int, ex_slice, ex_ptr, ex_bool, ex_str, ex_flt, ex_any, bnd_in, List.getElem?_cons_zero, List.getElem?_cons_succ, List.set_cons_zero, List.set_cons_succ, List.cons_append, List.nil_append, bne_self_eq_false, beq_self_eq_true, Bool.not_true, Bool.not_false, Option.isNone_some, Option.isNone_none, eq_self, true_and, and_true, and_self, s.rd0, s.rd1, s.rd2]
    refine iteB_neg (decide_eq_false (by omega)) ?_
    rw [he] at hk; exact hk h s
  | d + 1, i, o, h, hi, ho, he, s => by
    unfold straitref29_Least.l0 straitref29_Least.b0
    try simp -zeta (disch := omega) only [chkP_some, iteB_true, iteB_false, add_mk, Nat.zero_add, Nat.add_zero, Nat.mul_one, Nat.reduceAdd, Int.toNat_natCast, ex_int, ex_slice, ex_ptr, ex_bool, ex_str, ex_flt, ex_any, bnd_in, List.getElem?_cons_zero, List.getElem?_cons_succ, List.set_cons_zero, List.set_cons_succ, List.cons_append, List.nil_append, bne_self_eq_false, beq_self_eq_true, Bool.not_true, Bool.not_false, Option.isNone_some, Option.isNone_none, eq_self, true_and, and_true, and_self, s.rd0, s.rd1, s.rd2]
    refine iteB_pos (decide_eq_true (by omega)) ?_
    intro j
    have J : ∀ (o' : Nat × Bool) (h' : Heap), o' = stepD up (UU w) x y o i → St h0 h' ((b9, [.int .i64 (o'.1 : Int), .bool o'.2]) :: (b7, [.int .i64 0, .bool false]) :: (t, [.slice qU n cU, .slice qW n cW]) :: R) → j h' := by
      intro o' h' e s'
      simp -zeta only [j]
      rw [wrap64 (by omega) (by omega)]
      refine rleast_l0 hup hw hn r hx hy kU kW hk d (i + 1) o' h' (by omega) (by rw [e]; exact stepD_lt (by omega) ho) ?_ s'
      rw [he, e, List.range'_succ]; rfl
    clear_value j
    try simp -zeta (disch := omega) only [chkP_some, iteB_true, iteB_false, add_mk, Nat.zero_add, Nat.add_zero, Nat.mul_one, Nat.reduceAdd, Int.toNat_natCast, ex_int, ex_slice, ex_ptr, ex_bool, ex_str, ex_flt, ex_any, bnd_in, List.getElem?_cons_zero, List.getElem?_cons_succ, List.set_cons_zero, List.set_cons_succ, List.cons_append, List.nil_append, bne_self_eq_false, beq_self_eq_true, Bool.not_true, Bool.not_false, Option.isNone_some, Option.isNone_none, eq_self, true_and, and_true, and_self, s.rd0, s.rd1, s.rd2]
    refine callP3.self (RBelow_of (R := (b9, [.int .i64 (o.1 : Int), .bool o.2]) :: (b7, [.int .i64 0, .bool false]) :: (t, [.slice qU n cU, .slice qW n cW]) :: R) hup hw hn kU.cons.cons.cons kW.cons.cons.cons s fun q c X h2 o2 s2 => ?_)
    have hle := belL_le up w (i : Int)
    refine qcallP1.of (isB up i x) (fun Q hQ => In_of rfl (by omega) (o2.vals s2) (by rw [mem_belL r (by omega) (by omega)]; exact hQ)) ?_
    refine qcallP1.of (isB up i y) (fun Q hQ => In_of rfl (by omega) (o2.vals s2) (by rw [mem_belL r (by omega) (by omega)]; exact hQ)) ?_
    have s3 := s2.drop
    have yes : (isB up i x == isB up i y) = false → (!o.2 || decide (UU w i < UU w o.1)) = true → ∀ h', St h0 h' ((b9, [.int .i64 (i : Int), .bool true]) :: (b7, [.int .i64 0, .bool false]) :: (t, [.slice qU n cU, .slice qW n cW]) :: R) → j h' := fun e1 e2 h' s' =>
      J (i, true) h' (by unfold stepD; rw [e1, e2]; rfl) s'
    have no : (isB up i x == isB up i y) = true ∨ (!o.2 || decide (UU w i < UU w o.1)) = false → j h2 := fun e => J o h2 (by
      unfold stepD
      rcases e with e | e
      · rw [e]; rfl
      · rw [e]; split <;> rfl) s3
    refine iteB_intro (fun e => ?_) (fun e => no (.inl (by simpa using e)))
    have e : (isB up i x == isB up i y) = false := by simpa using e
    try simp -zeta (disch := omega) only [chkP_some, iteB_true, iteB_false, add_mk, Nat.zero_add, Nat.add_zero, Nat.mul_one, Nat.reduceAdd, Int.toNat_natCast, ex_int, ex_slice, ex_ptr, ex_bool, ex_str, ex_flt, ex_any, bnd_in, List.getElem?_cons_zero, List.getElem?_cons_succ, List.set_cons_zero, List.set_cons_succ, List.cons_append, List.nil_append, bne_self_eq_false, beq_self_eq_true, Bool.not_true, Bool.not_false, Option.isNone_some, Option.isNone_none, eq_self, true_and, and_true, and_self, s3.rd0, s3.rd1, s3.rd2]
    refine iteB_intro (fun e2 => ?_) (fun e2 => ?_)
    · refine s3.st0 (by simp) fun h3 s4 => ?_
      try simp -zeta (disch := omega) only [chkP_some, iteB_true, iteB_false, add_mk, Nat.zero_add, Nat.add_zero, Nat.mul_one, Nat.reduceAdd, Int.toNat_natCast, ex_int, ex_slice, ex_ptr, ex_bool, ex_str, ex_flt, ex_any, bnd_in, List.getElem?_cons_zero, List.getElem?_cons_succ, List.set_cons_zero, List.set_cons_succ, List.cons_append, List.nil_append, bne_self_eq_false, beq_self_eq_true, Bool.not_true, Bool.not_false, Option.isNone_some, Option.isNone_none, eq_self, true_and, and_true, and_self, s4.rd0]
      refine s4.st0 (by simp) fun h4 s5 => ?_
      exact yes e (by rw [e2]; rfl) h4 s5
    · have e2' : o.2 = true := by simpa using e2
      have hon := ho e2'
      have vW : valsAt h2 qW (w.map (Value.int .i64)) := kW _ _ s3 (fun y hy => by simp [hy])
      simp -zeta (disch := omega) only [chkP_some, iteB_true, iteB_false, add_mk, Nat.zero_add, Nat.add_zero, Nat.mul_one, Nat.reduceAdd, Int.toNat_natCast, ex_int, ex_slice, ex_ptr, ex_bool, ex_str, ex_flt, ex_any, bnd_in, List.getElem?_cons_zero, List.getElem?_cons_succ, List.set_cons_zero, List.set_cons_succ, List.cons_append, List.nil_append, bne_self_eq_false, beq_self_eq_true, Bool.not_true, Bool.not_false, Option.isNone_some, Option.isNone_none, eq_self, true_and, and_true, and_self, s3.rd0, s3.rd1, s3.rd2, vals_int vW (UU_get (up := w) (v := i) (by omega)), vals_int vW (UU_get (up := w) (v := o.1) (by omega))]
      refine iteB_intro (fun e3 => ?_) (fun e3 => no (.inr (by rw [e2, e3]; rfl)))
      refine s3.st0 (by simp) fun h3 s4 => ?_
      try simp -zeta (disch := omega) only [chkP_some, iteB_true, iteB_false, add_mk, Nat.zero_add, Nat.add_zero, Nat.mul_one, Nat.reduceAdd, Int.toNat_natCast, ex_int, ex_slice, ex_ptr, ex_bool, ex_str, ex_flt, ex_any, bnd_in, List.getElem?_cons_zero, List.getElem?_cons_succ, List.set_cons_zero, List.set_cons_succ, List.cons_append, List.nil_append, bne_self_eq_false, beq_self_eq_true, Bool.not_true, Bool.not_false, Option.isNone_some, Option.isNone_none, eq_self, true_and, and_true, and_self, s4.rd0]
      refine s4.st0 (by simp) fun h4 s5 => ?_
      exact yes e (by rw [e3]; simp) h4 s5

open Classical in
theorem RLeast_of {h : Heap} {m : Nat} {u v : Int} {K : Int → Bool → Heap → Prop} (hup : up.length = n) (hw : w.length = m) (hn : n ≤ 4096) (kU : Keeps h0 R qU (up.map (Value.int .i64))) (kW : Keeps h0 R qW (w.map (Value.int .i64))) (s : St h0 h R)
    (hk0 : ¬ (RightT up w ∧ 0 ≤ u ∧ u < n ∧ 0 ≤ v ∧ v < n) → ∀ h', St h0 h' R → K 0 false h')
    (hk1 : ∀ (x y : Nat), RightT up w → u = x → v = y → x < n → y < n → ∀ h', St h0 h' R → K ((leastD up (UU w) n x y).1 : Int) (leastD up (UU w) n x y).2 h') :
    straitref29_Least qU n cU qW m cW u v h K := by
  unfold straitref29_Least
  refine s.new_ fun t h1 s1 => ?_
  refine s1.new_ fun b7 h2 s2 => ?_
  refine s2.new_ fun b9 h3 s3 => ?_
  intro j
  have J : ∀ h', ¬ (RightT up w ∧ 0 ≤ u ∧ u < (n : Int) ∧ 0 ≤ v ∧ v < (n : Int)) → St h0 h' ((b9, [.int .i64 0, .bool false]) :: (b7, [.int .i64 0, .bool false]) :: (t, [.slice qU n cU, .slice qW m cW]) :: R) → j true h' := by
    intro h' hno s'
    simp -zeta only [j]
    refine iteB_pos rfl ?_
    try simp -zeta (disch := omega) only [chkP_some, iteB_true, iteB_false, add_mk, Nat.zero_add, Nat.add_zero, Nat.mul_one, Nat.reduceAdd, Int.toNat_natCast, ex_int, ex_slice, ex_ptr, ex_bool, ex_str, ex_flt, ex_any, bnd_in, List.getElem?_cons_zero, List.getElem?_cons_succ, List.set_cons_zero, List.set_cons_succ, List.cons_append, List.nil_append, bne_self_eq_false, beq_self_eq_true, Bool.not_true, Bool.not_false, Option.isNone_some, Option.isNone_none, eq_self, true_and, and_true, and_self, s'.rd0, s'.rd1, s'.rd2]
    refine s'.st1 (by simp) fun h5 s5 => ?_
    try simp -zeta (disch := omega) only [chkP_some, iteB_true, iteB_false, add_mk, Nat.zero_add, Nat.add_zero, Nat.mul_one, Nat.reduceAdd, Int.toNat_natCast, ex_int, ex_slice, ex_ptr, ex_bool, ex_str, ex_flt, ex_any, bnd_in, List.getElem?_cons_zero, List.getElem?_cons_succ, List.set_cons_zero, List.set_cons_succ, List.cons_append, List.nil_append, bne_self_eq_false, beq_self_eq_true, Bool.not_true, Bool.not_false, Option.isNone_some, Option.isNone_none, eq_self, true_and, and_true, and_self, s5.rd0, s5.rd1]
    refine s5.st1 (by simp) fun h6 s6 => ?_
    try simp -zeta (disch := omega) only [chkP_some, iteB_true, iteB_false, add_mk, Nat.zero_add, Nat.add_zero, Nat.mul_one, Nat.reduceAdd, Int.toNat_natCast, ex_int, ex_slice, ex_ptr, ex_bool, ex_str, ex_flt, ex_any, bnd_in, List.getElem?_cons_zero, List.getElem?_cons_succ, List.set_cons_zero, List.set_cons_succ, List.cons_append, List.nil_append, bne_self_eq_false, beq_self_eq_true, Bool.not_true, Bool.not_false, Option.isNone_some, Option.isNone_none, eq_self, true_and, and_true, and_self, s6.rd0, s6.rd1]
    exact hk0 hno h6 s6.tail.tail.tail
  try simp -zeta (disch := omega) only [chkP_some, iteB_true, iteB_false, add_mk, Nat.zero_add, Nat.add_zero, Nat.mul_one, Nat.reduceAdd, Int.toNat_natCast, ex_int, ex_slice, ex_ptr, ex_bool, ex_str, ex_flt, ex_any, bnd_in, List.getElem?_cons_zero, List.getElem?_cons_succ, List.set_cons_zero, List.set_cons_succ, List.cons_append, List.nil_append, bne_self_eq_false, beq_self_eq_true, Bool.not_true, Bool.not_false, Option.isNone_some, Option.isNone_none, eq_self, true_and, and_true, and_self, s3.rd0, s3.rd1, s3.rd2]
  refine callP1.self (in_of hup hw kU.cons.cons.cons kW.cons.cons.cons s3 fun h4 s4 => ?_)
  refine iteB_intro (fun e => J h4 (fun hh => ?_) s4) (fun e => ?_)
  · rw [decide_eq_true ⟨hh.1, hh.2.1, hh.2.2.1⟩] at e; exact absurd e (by decide)
  have e : RightT up w ∧ 0 ≤ u ∧ u < (n : Int) := by simpa using e
  try simp -zeta (disch := omega) only [chkP_some, iteB_true, iteB_false, add_mk, Nat.zero_add, Nat.add_zero, Nat.mul_one, Nat.reduceAdd, Int.toNat_natCast, ex_int, ex_slice, ex_ptr, ex_bool, ex_str, ex_flt, ex_any, bnd_in, List.getElem?_cons_zero, List.getElem?_cons_succ, List.set_cons_zero, List.set_cons_succ, List.cons_append, List.nil_append, bne_self_eq_false, beq_self_eq_true, Bool.not_true, Bool.not_false, Option.isNone_some, Option.isNone_none, eq_self, true_and, and_true, and_self, s4.rd0, s4.rd1, s4.rd2]
  refine callP1.self (in_of hup hw kU.cons.cons.cons kW.cons.cons.cons s4 fun h5 s5 => ?_)
  by_cases e2 : RightT up w ∧ 0 ≤ v ∧ v < (n : Int)
  · rw [decide_eq_true e2]
    clear J hk0
    simp -zeta only [j]
    clear j
    obtain ⟨x, rfl⟩ := Int.eq_ofNat_of_zero_le e.2.1
    obtain ⟨y, rfl⟩ := Int.eq_ofNat_of_zero_le e2.2.1
    have hK := hk1 x y e.1 rfl rfl (by omega) (by omega)
    have hmn : m = n := by have := e.1.len; omega
    subst hmn
    refine iteB_neg rfl ⟨m + 1, rleast_l0 (b7 := b7) (b9 := b9) (t := t) hup hw hn e.1 (by omega) (by omega) kU kW (fun h' s' => ?_) m 0 (0, false) h5 (by omega) (by simp) (by unfold leastD; rw [List.range_eq_range']) s5⟩
    try simp -zeta (disch := omega) only [chkP_some, iteB_true, iteB_false, add_mk, Nat.zero_add, Nat.add_zero, Nat.mul_one, Nat.reduceAdd, Int.toNat_natCast, ex_int, ex_slice, ex_ptr, ex_bool, ex_str, ex_flt, ex_any, bnd_in, List.getElem?_cons_zero, List.getElem?_cons_succ, List.set_cons_zero, List.set_cons_succ, List.cons_append, List.nil_append, bne_self_eq_false, beq_self_eq_true, Bool.not_true, Bool.not_false, Option.isNone_some, Option.isNone_none, eq_self, true_and, and_true, and_self, s'.rd0, s'.rd1, s'.rd2]
    refine s'.st1 (by simp) fun h7 s7 => ?_
    try simp -zeta (disch := omega) only [chkP_some, iteB_true, iteB_false, add_mk, Nat.zero_add, Nat.add_zero, Nat.mul_one, Nat.reduceAdd, Int.toNat_natCast, ex_int, ex_slice, ex_ptr, ex_bool, ex_str, ex_flt, ex_any, bnd_in, List.getElem?_cons_zero, List.getElem?_cons_succ, List.set_cons_zero, List.set_cons_succ, List.cons_append, List.nil_append, bne_self_eq_false, beq_self_eq_true, Bool.not_true, Bool.not_false, Option.isNone_some, Option.isNone_none, eq_self, true_and, and_true, and_self, s7.rd0, s7.rd1]
    refine s7.st1 (by simp) fun h8 s8 => ?_
    try simp -zeta (disch := omega) only [chkP_some, iteB_true, iteB_false, add_mk, Nat.zero_add, Nat.add_zero, Nat.mul_one, Nat.reduceAdd, Int.toNat_natCast, ex_int, ex_slice, ex_ptr, ex_bool, ex_str, ex_flt, ex_any, bnd_in, List.getElem?_cons_zero, List.getElem?_cons_succ, List.set_cons_zero, List.set_cons_succ, List.cons_append, List.nil_append, bne_self_eq_false, beq_self_eq_true, Bool.not_true, Bool.not_false, Option.isNone_some, Option.isNone_none, eq_self, true_and, and_true, and_self, s8.rd0, s8.rd1]
    exact hK h8 s8.tail.tail.tail
  · rw [decide_eq_false e2]
    exact J h5 (fun hh => e2 ⟨hh.1, hh.2.2.2⟩) s5
end
/-- The least of some by weight, then by number. -/
def IsMin (S : Nat → Prop) (W : Nat → Int) (o : Nat × Bool) : Prop :=
  (o.2 = false → o.1 = 0 ∧ ∀ x, ¬ S x) ∧ (o.2 = true → S o.1 ∧ ∀ x, S x → W o.1 < W x ∨ (W o.1 = W x ∧ o.1 ≤ x))
theorem IsMin.uniq {S : Nat → Prop} {W : Nat → Int} {o o' : Nat × Bool} (h : IsMin S W o) (h' : IsMin S W o') : o = o' := by
  obtain ⟨a, b⟩ := o
  obtain ⟨a', b'⟩ := o'
  obtain ⟨h1, h2⟩ := h
  obtain ⟨g1, g2⟩ := h'
  cases b <;> cases b'
  · rw [show a = 0 from (h1 rfl).1, show a' = 0 from (g1 rfl).1]
  · exact absurd (g2 rfl).1 ((h1 rfl).2 _)
  · exact absurd (h2 rfl).1 ((g1 rfl).2 _)
  · have q1 := (h2 rfl).2 _ (g2 rfl).1
    have q2 := (g2 rfl).2 _ (h2 rfl).1
    have : a = a' := by simp only at q1 q2; omega
    rw [this]
theorem IsMin.congr {S S' : Nat → Prop} {W : Nat → Int} {o : Nat × Bool} (h : IsMin S W o) (e : ∀ x, S x ↔ S' x) : IsMin S' W o := by
  have : S = S' := funext fun x => propext (e x)
  rw [← this]; exact h
/-- One more. -/
theorem IsMin.more {S : Nat → Prop} {W : Nat → Int} {o : Nat × Bool} {z : Nat} (h : IsMin S W o) :
    IsMin (fun x => S x ∨ x = z) W (if !o.2 || decide (W z < W o.1) || (W z == W o.1 && decide (z < o.1)) then (z, true) else o) := by
  obtain ⟨a, b⟩ := o
  obtain ⟨h1, h2⟩ := h
  cases b with
  | false =>
    simp only [Bool.not_false, Bool.true_or, if_true]
    refine ⟨fun h => by simp at h, fun _ => ⟨.inr rfl, fun x hx => ?_⟩⟩
    rcases hx with hx | rfl
    · exact absurd hx ((h1 rfl).2 x)
    · exact .inr ⟨rfl, Nat.le_refl _⟩
  | true =>
    obtain ⟨h3, h4⟩ := h2 rfl
    simp only at h3 h4
    by_cases c : W z < W a ∨ (W z = W a ∧ z < a)
    · rw [if_pos (by simp; exact c)]
      refine ⟨fun h => by simp at h, fun _ => ⟨.inr rfl, fun x hx => ?_⟩⟩
      rcases hx with hx | rfl
      · have := h4 x hx
        simp only
        omega
      · exact .inr ⟨rfl, Nat.le_refl _⟩
    · rw [if_neg (by simp; omega)]
      refine ⟨fun h => by simp at h, fun _ => ⟨.inl h3, fun x hx => ?_⟩⟩
      rcases hx with hx | rfl
      · exact h4 x hx
      · simp only; omega

section
variable {h0 : Base} {R : Rws} {n : Nat} {up w : List Int} {qU qW : Option Addr} {cU cW : Nat}
theorem leastD_min (W : Nat → Int) (x y : Nat) : IsMin (fun z => z < n ∧ isB up z x ≠ isB up z y) W (leastD up W n x y) := by
  unfold leastD
  induction n with
  | zero => exact ⟨fun _ => ⟨rfl, fun x => by rintro ⟨h, _⟩; omega⟩, fun h => by simp at h⟩
  | succ k ih =>
    rw [List.range_succ, List.foldl_append, List.foldl_cons, List.foldl_nil]
    generalize (List.range k).foldl (stepD up W x y) (0, false) = o at ih
    unfold stepD
    by_cases c : isB up k x = isB up k y
    · rw [if_pos (by simp [c])]
      refine ih.congr fun z => ⟨fun ⟨h1, h2⟩ => ⟨by omega, h2⟩, fun ⟨h1, h2⟩ => ⟨?_, h2⟩⟩
      have : z ≠ k := by rintro rfl; exact h2 c
      omega
    · rw [if_neg (by simp [c])]
      have e : (if !o.2 || decide (W k < W o.1) then ((k, true) : Nat × Bool) else o) = if !o.2 || decide (W k < W o.1) || (W k == W o.1 && decide (k < o.1)) then (k, true) else o := by
        by_cases co : o.2 = true
        · have := (ih.2 co).1.1
          rw [decide_eq_false (show ¬ k < o.1 by omega), Bool.and_false, Bool.or_false]
        · have : o.2 = false := by simpa using co
          simp [this]
      rw [e]
      refine ih.more.congr fun z => ⟨fun h => ?_, fun ⟨h1, h2⟩ => ?_⟩
      · rcases h with ⟨h1, h2⟩ | rfl
        · exact ⟨by omega, h2⟩
        · exact ⟨by omega, c⟩
      · rcases Nat.lt_or_ge z k with h | h
        · exact .inl ⟨h, h2⟩
        · exact .inr (by omega)

end
end Go.Proofs.Ytfidcekobjmamaa
