/-
  Trees: the way between two, the document's.
-/
import Derived.Test.YtfidcekobjmamaaT13
namespace Go.Proofs.Ytfidcekobjmamaa
set_option linter.unusedVariables false
set_option linter.unusedSimpArgs false
set_option linter.unnecessarySimpa false
open Go.Hp Go.RowKit
attribute [local irreducible] Go.Hp.iteB Go.Hp.stC Go.Hp.newP

def outA (a : List Nat) (x : Nat) : Bool := !decide (x ∈ a)
theorem Meets.rest {a b a1 b1 : List Nat} {top : Nat} (h : Meets a b a1 top b1) : b.reverse.filter (outA a) = b1.reverse := by
  obtain ⟨⟨r, h1, h2⟩, h3, h4⟩ := h
  rw [h2, List.reverse_append, List.filter_append]
  have e1 : (top :: r).reverse.filter (outA a) = [] := List.filter_eq_nil_iff.2 fun x hx => by
    have : x ∈ a := by rw [h1]; simp at hx ⊢; rcases hx with h | h <;> simp [h]
    simp [outA, this]
  have e2 : b1.reverse.filter (outA a) = b1.reverse := List.filter_eq_self.2 fun x hx => by
    simp [outA, h4 x (by simpa using hx)]
  rw [e1, e2, List.nil_append]

section
variable {h0 : Heap} {R : Rws} {n : Nat} {up w : List Int} {qU qW : Option Addr} {cU cW : Nat}

theorem rpath_l1 {K4 : Option Addr → Nat → Nat → Heap → Prop} {a b : List Nat} {qa qb : Option Addr} {ca cb : Nat} (ha : a.length ≤ 5000) (hb : b.length ≤ 5000) (ka : Keeps h0 R qa (natV a)) (kb : Keeps h0 R qb (natV b)) {acc : List Nat} (hacc : acc.length ≤ 10000)
    (hk : ∀ q c X h', Own q c (natV (acc ++ b.reverse.filter (outA a))) X → St h0 h' (X ++ R) → K4 q (acc ++ b.reverse.filter (outA a)).length c h') :
    ∀ (k : Nat) (q : Option Addr) (c : Nat) (X : Rws) (h : Heap), k ≤ b.length → Own q c (natV (acc ++ (b.drop k).reverse.filter (outA a))) X → St h0 h (X ++ R) →
      straitref29_Path.l1 K4 (k + 1) q (acc ++ (b.drop k).reverse.filter (outA a)).length c qa a.length ca qb b.length cb ((k : Int) - 1) h
  | 0, q, c, X, h, hkl, o, s => by
    unfold straitref29_Path.l1 straitref29_Path.b1
    rw [List.drop_zero] at o ⊢
    exact iteB_neg (by decide) (hk q c X h o s)
  | k + 1, q, c, X, h, hkl, o, s => by
    unfold straitref29_Path.l1 straitref29_Path.b1
    obtain ⟨x, hx⟩ := get_lt (l := b) (i := k) (by omega)
    have gx : (natV b)[k]? = some (.int .i64 (x : Int)) := by simp [natV, hx]
    have er : (b.drop k).reverse.filter (outA a) = (b.drop (k + 1)).reverse.filter (outA a) ++ (if outA a x then [x] else []) := by
      rw [drop_cons hx, List.reverse_cons, List.filter_append, filter1]
    have hfl : ((b.drop (k + 1)).reverse.filter (outA a)).length ≤ 5000 := by
      have := List.length_filter_le (outA a) (b.drop (k + 1)).reverse; rw [List.length_reverse, List.length_drop] at this; omega
    refine iteB_pos (decide_eq_true (by omega)) ?_
    rw [show ((k + 1 : Nat) : Int) - 1 = (k : Int) by omega]
    simp -zeta (disch := omega) only [chkP_some, iteB_true, iteB_false, add_mk, Nat.zero_add, Nat.add_zero, Nat.mul_one, Nat.reduceAdd, Int.toNat_natCast, ex_int, ex_slice, ex_ptr, ex_bool, ex_str, ex_flt, ex_any, bnd_in, List.getElem?_cons_zero, List.getElem?_cons_succ, List.set_cons_zero, List.set_cons_succ, List.cons_append, List.nil_append, bne_self_eq_false, beq_self_eq_true, Bool.not_true, Bool.not_false, Option.isNone_some, Option.isNone_none, eq_self, true_and, and_true, and_self, vals_int (kb.at1 s) gx]
    refine qcallP1.of (decide (x ∈ a)) (fun Q hQ => In_of rfl (by omega) (ka.at1 s) (by rw [decide_eq_decide.2 mem_cast]; exact hQ)) ?_
    refine iteB_intro (fun e => ?_) (fun e => ?_)
    · have e : outA a x = true := e
      rw [if_pos e] at er
      try simp -zeta (disch := omega) only [chkP_some, iteB_true, iteB_false, add_mk, Nat.zero_add, Nat.add_zero, Nat.mul_one, Nat.reduceAdd, Int.toNat_natCast, ex_int, ex_slice, ex_ptr, ex_bool, ex_str, ex_flt, ex_any, bnd_in, List.getElem?_cons_zero, List.getElem?_cons_succ, List.set_cons_zero, List.set_cons_succ, List.cons_append, List.nil_append, bne_self_eq_false, beq_self_eq_true, Bool.not_true, Bool.not_false, Option.isNone_some, Option.isNone_none, eq_self, true_and, and_true, and_self, vals_int (kb.at1 s) gx]
      refine Own.push1 o s (natV_len _).symm rfl (by rw [natV_len]; simp only [List.length_append]; omega) fun q2 c2 X2 h2 o2 s2 => ?_
      rw [natV_len, wrap_id (by omega) (by omega)]
      have ih := rpath_l1 (ca := ca) (cb := cb) ha hb ka kb hacc hk k q2 c2 X2 h2 (by omega) (by rw [er]; simpa [natV] using o2) s2
      rw [er, ← List.append_assoc, List.length_append, List.length_singleton] at ih
      exact ih
    · have e : outA a x = false := e
      rw [e] at er
      simp only [Bool.false_eq_true, if_false, List.append_nil] at er
      rw [wrap_id (by omega) (by omega)]
      have ih := rpath_l1 (ca := ca) (cb := cb) ha hb ka kb hacc hk k q c X h (by omega) (by rw [er]; exact o) s
      rw [er] at ih; exact ih

theorem rpath_l0 {K0 K2 : Option Addr → Nat → Nat → Heap → Prop} {a b a1 b1 : List Nat} {top : Nat} (M : Meets a b a1 top b1) {qa qb : Option Addr} {ca cb : Nat} (ha : a.length ≤ 5000) (hb : b.length ≤ 5000) (ka : Keeps h0 R qa (natV a)) (kb : Keeps h0 R qb (natV b))
    (hk : ∀ q c X h', Own q c (natV (a1 ++ [top] ++ b1.reverse)) X → St h0 h' (X ++ R) → K0 q (a1 ++ [top] ++ b1.reverse).length c h') :
    ∀ (d i : Nat) (q : Option Addr) (c : Nat) (X : Rws) (h : Heap), i + d = a1.length → Own q c (natV (a1.take i)) X → St h0 h (X ++ R) → straitref29_Path.l0 K0 K2 (d + 1) q (a1.take i).length c qa a.length ca qb b.length cb (i : Int) h
  | d, i, q, c, X, h, hi, o, s => by
    unfold straitref29_Path.l0 straitref29_Path.b0
    obtain ⟨r, ea, eb⟩ := M.ex
    have hal : a.length = a1.length + (r.length + 1) := by rw [ea]; simp
    obtain ⟨x, hx⟩ := get_lt (l := a) (i := i) (by omega)
    have gx : (natV a)[i]? = some (.int .i64 (x : Int)) := by simp [natV, hx]
    refine iteB_pos (decide_eq_true (by omega)) ?_
    simp -zeta (disch := omega) only [chkP_some, iteB_true, iteB_false, add_mk, Nat.zero_add, Nat.add_zero, Nat.mul_one, Nat.reduceAdd, Int.toNat_natCast, ex_int, ex_slice, ex_ptr, ex_bool, ex_str, ex_flt, ex_any, bnd_in, List.getElem?_cons_zero, List.getElem?_cons_succ, List.set_cons_zero, List.set_cons_succ, List.cons_append, List.nil_append, bne_self_eq_false, beq_self_eq_true, Bool.not_true, Bool.not_false, Option.isNone_some, Option.isNone_none, eq_self, true_and, and_true, and_self, vals_int (ka.at1 s) gx]
    have hl : (a1.take i).length = i := by simp; omega
    refine Own.push1 o s (natV_len _).symm rfl (by rw [natV_len]; omega) fun q2 c2 X2 h2 o2 s2 => ?_
    simp -zeta (disch := omega) only [chkP_some, iteB_true, iteB_false, add_mk, Nat.zero_add, Nat.add_zero, Nat.mul_one, Nat.reduceAdd, Int.toNat_natCast, ex_int, ex_slice, ex_ptr, ex_bool, ex_str, ex_flt, ex_any, bnd_in, List.getElem?_cons_zero, List.getElem?_cons_succ, List.set_cons_zero, List.set_cons_succ, List.cons_append, List.nil_append, bne_self_eq_false, beq_self_eq_true, Bool.not_true, Bool.not_false, Option.isNone_some, Option.isNone_none, eq_self, true_and, and_true, and_self, vals_int (ka.at1 s2) gx]
    refine qcallP1.of (decide (x ∈ b)) (fun Q hQ => In_of rfl (by omega) (kb.at1 s2) (by rw [decide_eq_decide.2 mem_cast]; exact hQ)) ?_
    rw [natV_len]
    cases d with
    | zero =>
      have hia : i = a1.length := by omega
      subst hia
      have hxt : x = top := by
        rw [ea, lget_at rfl] at hx; exact (Option.some.inj hx).symm
      subst hxt
      rw [List.take_of_length_le (Nat.le_refl _)] at *
      refine iteB_pos (decide_eq_true (by rw [eb]; simp)) ⟨b.length + 1, ?_⟩
      rw [wrap_id (by omega) (by omega)]
      have H := rpath_l1 (ca := ca) (cb := cb) (acc := a1 ++ [x]) (K4 := fun z1022 z1022l z1022c h1023 => K0 z1022 z1022l z1022c h1023) ha hb ka kb (by simp; omega) (fun q3 c3 X3 h3 o3 s3 => by
        rw [M.rest] at o3 ⊢
        exact hk q3 c3 X3 h3 o3 s3) b.length q2 c2 X2 h2 (Nat.le_refl _) (by simpa [natV] using o2) s2
      simpa using H
    | succ d =>
      have hx1 : a1[i]? = some x := by rw [ea, List.getElem?_append_left (by omega)] at hx; exact hx
      refine iteB_neg (decide_eq_false (M.na x (List.mem_of_getElem? hx1))) ?_
      rw [wrap_id (by omega) (by omega)]
      have ih := rpath_l0 (K2 := K2) (ca := ca) (cb := cb) M ha hb ka kb hk d (i + 1) q2 c2 X2 h2 (by omega) (by rw [take_snoc hx1]; simpa [natV] using o2) s2
      rw [take_snoc hx1, List.length_append, List.length_singleton] at ih
      exact ih

open Classical in
theorem RPath_of {h : Heap} {m : Nat} {u v : Int} {K : Option Addr → Nat → Nat → Heap → Prop} (hup : up.length = n) (hw : w.length = m) (hn : n ≤ 4096) (kU : Keeps h0 R qU (up.map (Value.int .i64))) (kW : Keeps h0 R qW (w.map (Value.int .i64))) (s : St h0 h R)
    (hk0 : ¬ (RightT up w ∧ 0 ≤ u ∧ u < n ∧ 0 ≤ v ∧ v < n) → ∀ h', St h0 h' R → K none 0 0 h')
    (hk1 : ∀ (x y : Nat), RightT up w → u = x → v = y → x < n → y < n → ∃ a1 top b1, Meets (ways (UU up) n x) (ways (UU up) n y) a1 top b1 ∧ ∀ h' p c X, Own p c (natV (a1 ++ [top] ++ b1.reverse)) X → St h0 h' (X ++ R) → K p (a1 ++ [top] ++ b1.reverse).length c h') :
    straitref29_Path qU n cU qW m cW u v h K := by
  unfold straitref29_Path
  refine s.new_ fun t h1 s1 => ?_
  intro j
  try simp -zeta (disch := omega) only [chkP_some, iteB_true, iteB_false, add_mk, Nat.zero_add, Nat.add_zero, Nat.mul_one, Nat.reduceAdd, Int.toNat_natCast, ex_int, ex_slice, ex_ptr, ex_bool, ex_str, ex_flt, ex_any, bnd_in, List.getElem?_cons_zero, List.getElem?_cons_succ, List.set_cons_zero, List.set_cons_succ, List.cons_append, List.nil_append, bne_self_eq_false, beq_self_eq_true, Bool.not_true, Bool.not_false, Option.isNone_some, Option.isNone_none, eq_self, true_and, and_true, and_self, s1.rd0]
  refine callP1.self (in_of hup hw kU.cons kW.cons s1 fun h2 s2 => ?_)
  refine iteB_intro (fun e => hk0 (fun hh => ?_) h2 s2.tail) (fun e => ?_)
  · rw [decide_eq_true ⟨hh.1, hh.2.1, hh.2.2.1⟩] at e; exact absurd e (by decide)
  have e : RightT up w ∧ 0 ≤ u ∧ u < (n : Int) := by simpa using e
  try simp -zeta (disch := omega) only [chkP_some, iteB_true, iteB_false, add_mk, Nat.zero_add, Nat.add_zero, Nat.mul_one, Nat.reduceAdd, Int.toNat_natCast, ex_int, ex_slice, ex_ptr, ex_bool, ex_str, ex_flt, ex_any, bnd_in, List.getElem?_cons_zero, List.getElem?_cons_succ, List.set_cons_zero, List.set_cons_succ, List.cons_append, List.nil_append, bne_self_eq_false, beq_self_eq_true, Bool.not_true, Bool.not_false, Option.isNone_some, Option.isNone_none, eq_self, true_and, and_true, and_self, s2.rd0]
  refine callP1.self (in_of hup hw kU.cons kW.cons s2 fun h3 s3 => ?_)
  refine iteB_intro (fun e => hk0 (fun hh => ?_) h3 s3.tail) (fun e2 => ?_)
  · rw [decide_eq_true ⟨hh.1, hh.2.2.2⟩] at e; exact absurd e (by decide)
  have e2 : RightT up w ∧ 0 ≤ v ∧ v < (n : Int) := by simpa using e2
  simp -zeta only [j]
  clear j
  obtain ⟨x, rfl⟩ := Int.eq_ofNat_of_zero_le e.2.1
  obtain ⟨y, rfl⟩ := Int.eq_ofNat_of_zero_le e2.2.1
  obtain ⟨a1, top, b1, M, hK⟩ := hk1 x y e.1 rfl rfl (by omega) (by omega)
  try simp -zeta (disch := omega) only [chkP_some, iteB_true, iteB_false, add_mk, Nat.zero_add, Nat.add_zero, Nat.mul_one, Nat.reduceAdd, Int.toNat_natCast, ex_int, ex_slice, ex_ptr, ex_bool, ex_str, ex_flt, ex_any, bnd_in, List.getElem?_cons_zero, List.getElem?_cons_succ, List.set_cons_zero, List.set_cons_succ, List.cons_append, List.nil_append, bne_self_eq_false, beq_self_eq_true, Bool.not_true, Bool.not_false, Option.isNone_some, Option.isNone_none, eq_self, true_and, and_true, and_self, s3.rd0]
  refine callP3.self (Up_of (mW := m) (R := (t, [.slice qU n cU, .slice qW m cW]) :: R) hup hn kU.cons s3 fun q4 c4 X4 h4 o4 s4 => ?_)
  have rt4 : ∀ j, cell h4 ⟨t, j, none⟩ = [.slice qU n cU, .slice qW m cW][j]? := s4.rd (by simp)
  simp -zeta (disch := omega) only [chkP_some, iteB_true, iteB_false, add_mk, Nat.zero_add, Nat.add_zero, Nat.mul_one, Nat.reduceAdd, Int.toNat_natCast, ex_int, ex_slice, ex_ptr, ex_bool, ex_str, ex_flt, ex_any, bnd_in, List.getElem?_cons_zero, List.getElem?_cons_succ, List.set_cons_zero, List.set_cons_succ, List.cons_append, List.nil_append, bne_self_eq_false, beq_self_eq_true, Bool.not_true, Bool.not_false, Option.isNone_some, Option.isNone_none, eq_self, true_and, and_true, and_self, rt4]
  refine callP3.self (Up_of (mW := m) (R := X4 ++ (t, [.slice qU n cU, .slice qW m cW]) :: R) hup hn kU.cons.app s4 fun q5 c5 X5 h5 o5 s5 => ?_)
  have l1 : (ways (UU up) n x).length ≤ n + 1 := upL_le (UU up) n (n + 1) (x : Int)
  have l2 : (ways (UU up) n y).length ≤ n + 1 := upL_le (UU up) n (n + 1) (y : Int)
  refine ⟨a1.length + 1, rpath_l0 (R := X5 ++ (X4 ++ (t, [.slice qU n cU, .slice qW m cW]) :: R)) M (by omega) (by omega) (o4.keeps (fun z hz => by simp [hz])) (o5.keeps (fun z hz => by simp [hz])) (fun q c X h' o s' => ?_) a1.length 0 none 0 [] h5 (by omega) (by simpa [natV] using Own.nil) (by simpa using s5)⟩
  exact hK h' q c X o ((St.re s' (by intro a; simp only [cntR_append, cntR_cons, cntR_nil, List.cons_append, List.nil_append, List.set_cons_zero, List.set_cons_succ]; omega)))
end
end Go.Proofs.Ytfidcekobjmamaa
