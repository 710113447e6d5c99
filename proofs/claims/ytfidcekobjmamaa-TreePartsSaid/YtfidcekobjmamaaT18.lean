/-
  Trees: the law TreeParts.
-/
import Derived.Test.YtfidcekobjmamaaT17
namespace Go.Proofs.Ytfidcekobjmamaa
set_option linter.unusedVariables false
set_option linter.unusedSimpArgs false
set_option linter.unnecessarySimpa false
open Go.Hp Go.RowKit
attribute [local irreducible] Go.Hp.iteB Go.Hp.stC Go.Hp.newP

theorem nodup_len {l m : List Nat} (hl : l.Nodup) (hm : m.Nodup) (h : ∀ x, x ∈ l ↔ x ∈ m) : l.length = m.length := ((List.perm_ext_iff_of_nodup hl hm).2 h).length_eq

def differs (up : List Int) (x y z : Nat) : Bool := !(isB up z x == isB up z y)
def cnt (up : List Int) (x y k : Nat) : Nat := ((List.range k).filter (differs up x y)).length
theorem cnt_le (up : List Int) (x y k : Nat) : cnt up x y k ≤ k := by
  have := List.length_filter_le (differs up x y) (List.range k); simpa [cnt] using this
theorem cnt_next (up : List Int) (x y k : Nat) : cnt up x y (k + 1) = cnt up x y k + (if differs up x y k then 1 else 0) := by
  unfold cnt
  rw [List.range_succ, List.filter_append, List.length_append, filter1]
  split <;> rfl

section
variable {up w : List Int}
theorem Meets.count (r : RightT up w) {x y : Nat} (hx : x < up.length) (hy : y < up.length) {a1 b1 : List Nat} {top : Nat} (M : Meets (ways (UU up) up.length x) (ways (UU up) up.length y) a1 top b1) : cnt up x y up.length = a1.length + b1.length := by
  have M' := M
  obtain ⟨⟨rr, e1, e2⟩, na, nb⟩ := M'
  obtain ⟨dx, hdx⟩ := rt_deep r hx
  obtain ⟨dy, hdy⟩ := rt_deep r hy
  have n1 := ways_nodup hdx
  have n2 := ways_nodup hdy
  rw [e1] at n1
  rw [e2] at n2
  rw [← List.length_append]
  unfold cnt
  refine nodup_len (List.nodup_range.filter _) (List.nodup_append.2 ⟨(List.nodup_append.1 n1).1, (List.nodup_append.1 n2).1, fun p hp q hq e => ?_⟩) fun z => ?_
  · subst e
    exact na p hp (by rw [e2]; simp [hq])
  · rw [List.mem_filter, List.mem_append, ← M.differ z, List.mem_range]
    constructor
    · rintro ⟨_, h⟩ e
      simp [differs, e] at h
    · intro h
      refine ⟨?_, by simp [differs, h]⟩
      rcases (M.differ z).1 h with h | h
      · exact ways_lt (by rw [e1]; simp [h])
      · exact ways_lt (by rw [e2]; simp [h])
theorem next_in {U : Nat → Int} {n d v : Nat} (h : hasD U n d v) {l rr : List Nat} {top z : Nat} (e : ways U n v = l ++ top :: rr) (hz : z ∈ l) : ∃ f : Nat, U z = (f : Int) ∧ (f ∈ l ∨ f = top) := by
  obtain ⟨i, hi, hzi⟩ := List.getElem_of_mem hz
  have g1 : (ways U n v)[i]? = some z := by rw [e, List.getElem?_append_left hi, List.getElem?_eq_getElem hi, hzi]
  rcases Nat.lt_or_ge (i + 1) l.length with h2 | h2
  · obtain ⟨f, hf⟩ := get_lt h2
    exact ⟨f, ways_chain h g1 (by rw [e, List.getElem?_append_left h2]; exact hf), .inl (List.mem_of_getElem? hf)⟩
  · refine ⟨top, ways_chain h g1 (by rw [e, List.getElem?_append_right h2, show i + 1 - l.length = 0 by omega]; rfl), .inr rfl⟩
theorem Meets.edge (r : RightT up w) {x y : Nat} (hx : x < up.length) (hy : y < up.length) {a1 b1 : List Nat} {top : Nat} (M : Meets (ways (UU up) up.length x) (ways (UU up) up.length y) a1 top b1) {z : Nat} (h : isB up z x ≠ isB up z y) :
    z ∈ a1 ++ [top] ++ b1.reverse ∧ ∃ f : Nat, UU up z = (f : Int) ∧ f ∈ a1 ++ [top] ++ b1.reverse := by
  have hm := (M.differ z).1 h
  obtain ⟨⟨rr, e1, e2⟩, na, nb⟩ := M
  obtain ⟨dx, hdx⟩ := rt_deep r hx
  obtain ⟨dy, hdy⟩ := rt_deep r hy
  rcases hm with h | h
  · obtain ⟨f, hf, hf2⟩ := next_in hdx e1 h
    refine ⟨by simp [h], f, hf, ?_⟩
    rcases hf2 with h | h <;> simp [h]
  · obtain ⟨f, hf, hf2⟩ := next_in hdy e2 h
    refine ⟨by simp [h], f, hf, ?_⟩
    rcases hf2 with h | h <;> simp [h]
end

section
variable {h0 : Heap} {RR : Rws} {n : Nat} {up w : List Int} {qU qW : Option Addr} {cU cW : Nat}

theorem parts_l0 {K0 : Bool → Heap → Prop} {K2 : Int → Heap → Prop} {t b x y cp lq cq : Nat} {qp qq : Option Addr} {P : List Nat} (hup : up.length = n) (hw : w.length = n) (hn : n ≤ 4096) (r : RightT up w) (hx : x < n) (hy : y < n) (hP : P.length ≤ 100000)
    (edge : ∀ z, isB up z x ≠ isB up z y → z ∈ P ∧ ∃ f : Nat, UU up z = (f : Int) ∧ f ∈ P)
    (mt : (t, [Value.slice qU n cU, .slice qW n cW]) ∈ RR) (mb : (b, [Value.int .i64 (x : Int), .int .i64 (y : Int)]) ∈ RR) (kU : Keeps h0 RR qU (up.map (Value.int .i64))) (kW : Keeps h0 RR qW (w.map (Value.int .i64))) (kp : Keeps h0 RR qp (natV P))
    (hk : ∀ h', St h0 h' RR → K2 (cnt up x y n : Int) h') :
    ∀ (d i : Nat) (h : Heap), i + d = n → St h0 h RR → straitlaw29_TreeParts.l0 K0 K2 (d + 1) ⟨t, 0, none⟩ ⟨b, 0, none⟩ qp P.length cp qq lq cq (cnt up x y i : Int) (i : Int) h
  | 0, i, h, hi, s => by
    unfold straitlaw29_TreeParts.l0 straitlaw29_TreeParts.b0
    have rt := s.rd mt
    simp -zeta (disch := omega) only [chkP_some, iteB_true, iteB_false, add_mk, Nat.zero_add, Nat.add_zero, Nat.mul_one, Nat.reduceAdd, Int.toNat_natCast, ex_int, ex_slice, ex_ptr, ex_bool, ex_str, ex_flt, ex_any, bnd_in, List.getElem?_cons_zero, List.getElem?_cons_succ, List.set_cons_zero, List.set_cons_succ, List.cons_append, List.nil_append, bne_self_eq_false, beq_self_eq_true, Bool.not_true, Bool.not_false, Option.isNone_some, Option.isNone_none, eq_self, true_and, and_true, and_self, rt]
    have hin : i = n := by omega
    subst hin
    exact iteB_neg (decide_eq_false (by omega)) (hk h s)
  | d + 1, i, h, hi, s => by
    unfold straitlaw29_TreeParts.l0 straitlaw29_TreeParts.b0
    have rt := s.rd mt
    simp -zeta (disch := omega) only [chkP_some, iteB_true, iteB_false, add_mk, Nat.zero_add, Nat.add_zero, Nat.mul_one, Nat.reduceAdd, Int.toNat_natCast, ex_int, ex_slice, ex_ptr, ex_bool, ex_str, ex_flt, ex_any, bnd_in, List.getElem?_cons_zero, List.getElem?_cons_succ, List.set_cons_zero, List.set_cons_succ, List.cons_append, List.nil_append, bne_self_eq_false, beq_self_eq_true, Bool.not_true, Bool.not_false, Option.isNone_some, Option.isNone_none, eq_self, true_and, and_true, and_self, rt]
    refine iteB_pos (decide_eq_true (by omega)) ?_
    intro j
    have hc := cnt_le up x y i
    have J : ∀ h', St h0 h' RR → j (cnt up x y (i + 1) : Int) h' := by
      intro h' s'
      simp -zeta only [j]
      rw [wrap64 (by omega) (by omega)]
      exact parts_l0 hup hw hn r hx hy hP edge mt mb kU kW kp hk d (i + 1) h' (by omega) s'
    clear_value j
    try simp -zeta (disch := omega) only [chkP_some, iteB_true, iteB_false, add_mk, Nat.zero_add, Nat.add_zero, Nat.mul_one, Nat.reduceAdd, Int.toNat_natCast, ex_int, ex_slice, ex_ptr, ex_bool, ex_str, ex_flt, ex_any, bnd_in, List.getElem?_cons_zero, List.getElem?_cons_succ, List.set_cons_zero, List.set_cons_succ, List.cons_append, List.nil_append, bne_self_eq_false, beq_self_eq_true, Bool.not_true, Bool.not_false, Option.isNone_some, Option.isNone_none, eq_self, true_and, and_true, and_self, rt]
    refine callP3.self (PBelow_of (R := RR) hup hw (by omega) kU kW s fun q2 c2 X2 h2 o2 s2 => ?_)
    have rt2 := s2.rd (List.mem_append_right X2 mt)
    have rb2 := s2.rd (List.mem_append_right X2 mb)
    have hle := belL_le up w (i : Int)
    have vU : valsAt h2 qU (up.map (Value.int .i64)) := kU _ _ s2 (fun y hy => List.mem_append_right _ hy)
    have vp : valsAt h2 qp (natV P) := kp _ _ s2 (fun y hy => List.mem_append_right _ hy)
    simp -zeta (disch := omega) only [chkP_some, iteB_true, iteB_false, add_mk, Nat.zero_add, Nat.add_zero, Nat.mul_one, Nat.reduceAdd, Int.toNat_natCast, ex_int, ex_slice, ex_ptr, ex_bool, ex_str, ex_flt, ex_any, bnd_in, List.getElem?_cons_zero, List.getElem?_cons_succ, List.set_cons_zero, List.set_cons_succ, List.cons_append, List.nil_append, bne_self_eq_false, beq_self_eq_true, Bool.not_true, Bool.not_false, Option.isNone_some, Option.isNone_none, eq_self, true_and, and_true, and_self, rb2, Int.toNat_zero, Int.toNat_one, Nat.zero_mul, Nat.one_mul]
    refine qcallP1.of (isB up i x) (fun Q hQ => In_of rfl (by omega) (o2.vals s2) (by rw [mem_belL r (by omega) (by omega)]; exact hQ)) ?_
    try simp -zeta (disch := omega) only [chkP_some, iteB_true, iteB_false, add_mk, Nat.zero_add, Nat.add_zero, Nat.mul_one, Nat.reduceAdd, Int.toNat_natCast, ex_int, ex_slice, ex_ptr, ex_bool, ex_str, ex_flt, ex_any, bnd_in, List.getElem?_cons_zero, List.getElem?_cons_succ, List.set_cons_zero, List.set_cons_succ, List.cons_append, List.nil_append, bne_self_eq_false, beq_self_eq_true, Bool.not_true, Bool.not_false, Option.isNone_some, Option.isNone_none, eq_self, true_and, and_true, and_self, rb2, Int.toNat_zero, Int.toNat_one, Nat.zero_mul, Nat.one_mul]
    refine qcallP1.of (isB up i y) (fun Q hQ => In_of rfl (by omega) (o2.vals s2) (by rw [mem_belL r (by omega) (by omega)]; exact hQ)) ?_
    have J := J h2 s2.drop
    rw [cnt_next] at J
    refine iteB_intro (fun e => ?_) (fun e => ?_)
    · have e : differs up x y i = true := e
      obtain ⟨hz, f, hf, hfP⟩ := edge i (by simpa [differs] using e)
      rw [if_pos e] at J
      refine qcallP1.of true (fun Q hQ => In_of rfl (by omega) vp (by rw [decide_eq_true (mem_cast.2 hz)]; exact hQ)) ?_
      refine iteB_neg rfl ?_
      simp -zeta (disch := omega) only [chkP_some, iteB_true, iteB_false, add_mk, Nat.zero_add, Nat.add_zero, Nat.mul_one, Nat.reduceAdd, Int.toNat_natCast, ex_int, ex_slice, ex_ptr, ex_bool, ex_str, ex_flt, ex_any, bnd_in, List.getElem?_cons_zero, List.getElem?_cons_succ, List.set_cons_zero, List.set_cons_succ, List.cons_append, List.nil_append, bne_self_eq_false, beq_self_eq_true, Bool.not_true, Bool.not_false, Option.isNone_some, Option.isNone_none, eq_self, true_and, and_true, and_self, rt2, vals_int vU (UU_get (up := up) (v := i) (by omega))]
      rw [hf]
      refine qcallP1.of true (fun Q hQ => In_of rfl (by omega) vp (by rw [decide_eq_true (mem_cast.2 hfP)]; exact hQ)) ?_
      refine iteB_neg rfl ?_
      rw [wrap64 (by omega) (by omega)]
      exact J
    · have e : differs up x y i = false := e
      rw [if_neg (by simp [e])] at J
      exact J

theorem parts_l1 {K0 : Bool → Heap → Prop} {K4 : Heap → Prop} {cp cq : Nat} {qp qq : Option Addr} {P : List Nat} {e : Int} {h : Heap} (hP : P.length ≤ 100000) (vp : valsAt h qp (natV P)) (vq : valsAt h qq (natV P.reverse)) (hk : K4 h) :
    ∀ (d i : Nat), i + d = P.length → straitlaw29_TreeParts.l1 K0 K4 (d + 1) qp P.length cp qq P.length cq e (i : Int) h
  | 0, i, hi => by
    unfold straitlaw29_TreeParts.l1 straitlaw29_TreeParts.b1
    exact iteB_neg (decide_eq_false (by omega)) hk
  | d + 1, i, hi => by
    unfold straitlaw29_TreeParts.l1 straitlaw29_TreeParts.b1
    obtain ⟨z, hz⟩ := get_lt (l := P) (i := i) (by omega)
    have g1 : (natV P)[i]? = some (.int .i64 (z : Int)) := by simp [natV, hz]
    have g2 : (natV P.reverse)[P.length - 1 - i]? = some (.int .i64 (z : Int)) := by
      have : P.reverse[P.length - 1 - i]? = some z := by
        rw [List.getElem?_reverse (by omega), show P.length - 1 - (P.length - 1 - i) = i by omega]; exact hz
      simp only [natV, List.getElem?_map, this]; rfl
    refine iteB_pos (decide_eq_true (by omega)) ?_
    refine iteB_neg (by simp) ?_
    have e1 : IntKind.i64.wrap (IntKind.i64.wrap ((P.length : Int) - 1) - (i : Int)) = ((P.length - 1 - i : Nat) : Int) := by
      rw [wrap64 (x := (P.length : Int) - 1) (by omega) (by omega), wrap64 (by omega) (by omega)]; omega
    rw [e1]
    simp -zeta (disch := omega) only [chkP_some, iteB_true, iteB_false, add_mk, Nat.zero_add, Nat.add_zero, Nat.mul_one, Nat.reduceAdd, Int.toNat_natCast, ex_int, ex_slice, ex_ptr, ex_bool, ex_str, ex_flt, ex_any, bnd_in, List.getElem?_cons_zero, List.getElem?_cons_succ, List.set_cons_zero, List.set_cons_succ, List.cons_append, List.nil_append, bne_self_eq_false, beq_self_eq_true, Bool.not_true, Bool.not_false, Option.isNone_some, Option.isNone_none, eq_self, true_and, and_true, and_self, bindV_eq, vals_int vp g1, vals_int vq g2]
    rw [wrap64 (by omega) (by omega)]
    exact parts_l1 hP vp vq hk d (i + 1) (by omega)
end

set_option maxHeartbeats 1000000 in
theorem Parts_of {h : Heap} {n m cU cW : Nat} {up w : List Int} {qU qW : Option Addr} {u v : Int} {K : Bool → Heap → Prop} (hup : up.length = n) (hw : w.length = m) (vU : valsAt h qU (up.map (Value.int .i64))) (vW : valsAt h qW (w.map (Value.int .i64)))
    (hk : ∀ h', Ext h h' → K true h') : straitlaw29_TreeParts qU n cU qW m cW u v h K := by
  unfold straitlaw29_TreeParts
  refine (St.refl h).new_ fun t h1 s1 => ?_
  refine s1.new_ fun b h2 s2 => ?_
  intro j
  have J : ∀ h', St h h' ((b, [.int .i64 u, .int .i64 v]) :: (t, [.slice qU n cU, .slice qW m cW]) :: []) → j true h' := by
    intro h' s'
    simp -zeta only [j]
    exact iteB_pos rfl (callP1.self (awake_of s' fun h2 s2 => hk h2 s2.ext))
  try simp -zeta (disch := omega) only [chkP_some, iteB_true, iteB_false, add_mk, Nat.zero_add, Nat.add_zero, Nat.mul_one, Nat.reduceAdd, Int.toNat_natCast, ex_int, ex_slice, ex_ptr, ex_bool, ex_str, ex_flt, ex_any, bnd_in, List.getElem?_cons_zero, List.getElem?_cons_succ, List.set_cons_zero, List.set_cons_succ, List.cons_append, List.nil_append, bne_self_eq_false, beq_self_eq_true, Bool.not_true, Bool.not_false, Option.isNone_some, Option.isNone_none, eq_self, true_and, and_true, and_self, s2.rd0, s2.rd1]
  refine iteB_intro (fun e => J h2 s2) (fun e => ?_)
  have hn : n ≤ 40 := by have e : (n : Int) ≤ 40 := by simpa using e
                         omega
  refine iteB_intro (fun e => J h2 s2) (fun e => ?_)
  try simp -zeta (disch := omega) only [chkP_some, iteB_true, iteB_false, add_mk, Nat.zero_add, Nat.add_zero, Nat.mul_one, Nat.reduceAdd, Int.toNat_natCast, ex_int, ex_slice, ex_ptr, ex_bool, ex_str, ex_flt, ex_any, bnd_in, List.getElem?_cons_zero, List.getElem?_cons_succ, List.set_cons_zero, List.set_cons_succ, List.cons_append, List.nil_append, bne_self_eq_false, beq_self_eq_true, Bool.not_true, Bool.not_false, Option.isNone_some, Option.isNone_none, eq_self, true_and, and_true, and_self, s2.rd0, s2.rd1]
  refine callP1.self (Check_of hup hw (.old vU) (.old vW) s2 fun h3 s3 => ?_)
  by_cases r : RightT up w
  case neg => rw [if_neg r]; exact iteB_pos (by decide) (J h3 s3)
  rw [if_pos r]
  refine iteB_neg (by decide) ?_
  try simp -zeta (disch := omega) only [chkP_some, iteB_true, iteB_false, add_mk, Nat.zero_add, Nat.add_zero, Nat.mul_one, Nat.reduceAdd, Int.toNat_natCast, ex_int, ex_slice, ex_ptr, ex_bool, ex_str, ex_flt, ex_any, bnd_in, List.getElem?_cons_zero, List.getElem?_cons_succ, List.set_cons_zero, List.set_cons_succ, List.cons_append, List.nil_append, bne_self_eq_false, beq_self_eq_true, Bool.not_true, Bool.not_false, Option.isNone_some, Option.isNone_none, eq_self, true_and, and_true, and_self, s3.rd0, s3.rd1, Int.toNat_zero, Int.toNat_one, Nat.zero_mul, Nat.one_mul]
  refine iteB_intro (fun e => J h3 s3) (fun e1 => ?_)
  refine iteB_intro (fun e => J h3 s3) (fun e2 => ?_)
  refine iteB_intro (fun e => J h3 s3) (fun e3 => ?_)
  have e1 := of_decide_eq_false e1
  have e2 := of_decide_eq_false e2
  have e3 := of_decide_eq_false e3
  by_cases e4 : v ≥ (n : Int)
  · rw [decide_eq_true e4]; exact J h3 s3
  rw [decide_eq_false e4]
  clear J
  simp -zeta only [j]
  clear j
  refine iteB_neg rfl ?_
  have hmn : m = n := by have := r.len; omega
  subst hmn
  obtain ⟨x, rfl⟩ : ∃ x : Nat, u = x := ⟨u.toNat, by omega⟩
  obtain ⟨y, rfl⟩ : ∃ x : Nat, v = x := ⟨v.toNat, by omega⟩
  subst hup
  try simp -zeta (disch := omega) only [chkP_some, iteB_true, iteB_false, add_mk, Nat.zero_add, Nat.add_zero, Nat.mul_one, Nat.reduceAdd, Int.toNat_natCast, ex_int, ex_slice, ex_ptr, ex_bool, ex_str, ex_flt, ex_any, bnd_in, List.getElem?_cons_zero, List.getElem?_cons_succ, List.set_cons_zero, List.set_cons_succ, List.cons_append, List.nil_append, bne_self_eq_false, beq_self_eq_true, Bool.not_true, Bool.not_false, Option.isNone_some, Option.isNone_none, eq_self, true_and, and_true, and_self, s3.rd0, s3.rd1, Int.toNat_zero, Int.toNat_one, Nat.zero_mul, Nat.one_mul]
  refine callP3.self (Path_is rfl hw (.old vU) (.old vW) s3 fun l4 q4 c4 X4 h4 i4 o4 s4 => ?_)
  have rt4 : ∀ j, cell h4 ⟨t, j, none⟩ = [.slice qU up.length cU, .slice qW up.length cW][j]? := s4.rd (by simp)
  have rb4 : ∀ j, cell h4 ⟨b, j, none⟩ = [Value.int .i64 (x : Int), .int .i64 (y : Int)][j]? := s4.rd (by simp)
  simp -zeta (disch := omega) only [chkP_some, iteB_true, iteB_false, add_mk, Nat.zero_add, Nat.add_zero, Nat.mul_one, Nat.reduceAdd, Int.toNat_natCast, ex_int, ex_slice, ex_ptr, ex_bool, ex_str, ex_flt, ex_any, bnd_in, List.getElem?_cons_zero, List.getElem?_cons_succ, List.set_cons_zero, List.set_cons_succ, List.cons_append, List.nil_append, bne_self_eq_false, beq_self_eq_true, Bool.not_true, Bool.not_false, Option.isNone_some, Option.isNone_none, eq_self, true_and, and_true, and_self, rt4, rb4, Int.toNat_zero, Int.toNat_one, Nat.zero_mul, Nat.one_mul]
  refine callP3.self (Path_is rfl hw (.old vU) (.old vW) s4 fun l5 q5 c5 X5 h5 i5 o5 s5 => ?_)
  have hle := i4.le
  rcases i4 with ⟨hno, _⟩ | ⟨x', y', a1, top, b1, _, ex, ey, hx, hy, M, hl⟩
  · exact absurd ⟨r, by omega, by omega, by omega, by omega⟩ hno
  have ex : x = x' := by omega
  have ey : y = y' := by omega
  subst ex ey
  have e5 : l5 = l4.reverse := i5.uniq (.inr ⟨y, x, b1, top, a1, r, rfl, rfl, hy, hx, M.swap, by rw [hl]; simp⟩)
  subst e5
  have edge := fun z hz => M.edge r hx hy (z := z) hz
  have hcount := M.count r hx hy
  rw [← hl] at edge
  have hlen : l4.length = a1.length + 1 + b1.length := by rw [hl]; simp only [List.length_append, List.length_reverse, List.length_singleton]
  refine ⟨up.length + 1, parts_l0 (cU := cU) (cW := cW) (RR := X5 ++ (X4 ++ (b, [.int .i64 (x : Int), .int .i64 (y : Int)]) :: (t, [.slice qU up.length cU, .slice qW up.length cW]) :: [])) rfl hw (by omega) r hx hy (by omega) edge (by simp) (by simp) (.old vU) (.old vW) (o4.keeps (fun z hz => by simp [hz])) (fun h6 s6 => ?_) up.length 0 h5 (by omega) s5⟩
  rw [List.length_reverse]
  refine ⟨l4.length + 1, parts_l1 (by omega) (o4.vals s6.flip) (o5.vals s6) ?_ l4.length 0 (by omega)⟩
  refine iteB_pos (by rw [hcount, wrap64 (by omega) (by omega)]; simp; omega) ?_
  exact callP1.self (awake_of s6 fun h10 s10 => hk h10 s10.ext)
end Go.Proofs.Ytfidcekobjmamaa
