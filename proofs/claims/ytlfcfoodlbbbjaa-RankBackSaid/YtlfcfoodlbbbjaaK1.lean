/-
  Ranks: the order of keys, the program's.
-/
import Derived.Test.YtlfcfoodlbbbjaaSs6
import Derived.Test.YtlfcfoodlbbbjaaWk
namespace Go.Proofs.Ytlfcfoodlbbbjaa
set_option linter.unusedVariables false
set_option linter.unusedSimpArgs false
set_option linter.unnecessarySimpa false
open Go.Hp Go.RowKit
attribute [local irreducible] Go.Hp.iteB Go.Hp.stC Go.Hp.newP

theorem natV_ints (l : List Nat) : natV l = (l.map fun v : Nat => (v : Int)).map (Value.int .i64) := by simp [natV]
theorem natV_range (n : Nat) (f : Nat → Nat) : natV ((List.range n).map f) = ints n fun v => (f v : Int) := by
  apply List.ext_getElem?
  intro i
  by_cases h : i < n
  · rw [ints_get h]; simp [natV, h]
  · rw [List.getElem?_eq_none (by rw [natV_len]; simp; omega), List.getElem?_eq_none (by rw [ints_length]; omega)]

def keyI (l : List Int) (v : Nat) : Int := l.getD v 0
/-- The order of keys. -/
def byL (l : List Int) : List Nat := srt (keyI l) (List.range l.length)
theorem byL_len (l : List Int) : (byL l).length = l.length := by rw [byL, srt_len, List.length_range]

section
variable {h0 : Heap} {R : Rws}

theorem cmp_of {x y : Int} {h : Heap} {K : Int → Heap → Prop} (hk : ∀ r : Int, (r < 0 ↔ x < y) → K r h) : ∃ r, (∀ Q : Int → Heap → Prop, Q r h → cmp_Compare_int64 x y h Q) ∧ K r h := by
  refine ⟨if x < y then -1 else if x > y then 1 else 0, fun Q hQ => ?_, hk _ (by split <;> (try split) <;> omega)⟩
  unfold cmp_Compare_int64
  refine qcallP1.of false (fun R hR => by unfold cmp_isNaN_int64; simpa using hR) ?_
  refine qcallP1.of false (fun R hR => by unfold cmp_isNaN_int64; simpa using hR) ?_
  simp only [iteB_false, iteB_decide]
  by_cases c : x < y
  · rw [if_pos c] at hQ ⊢; exact hQ
  · rw [if_neg c] at hQ ⊢; by_cases c2 : x > y
    · rw [if_pos c2] at hQ ⊢; exact hQ
    · rw [if_neg c2] at hQ ⊢; exact hQ

theorem ex_fn {f : FuncId} {a : Addr} {G : Addr → Prop} : (∃ q : Addr, some (Value.func (.func f) #[] #[.pointer (some a)]) = some (.func (.func f) #[] #[.pointer (some q)]) ∧ G q) = G a := by simp

theorem cmpok {l : List Int} {b bk bf c n : Nat} {q : Option Addr} (hl : l.length = n) (kq : Keeps h0 R q (l.map (Value.int .i64))) : CmpOK (keyI l) (fun v => v < n) h0 b [] ((bf, [.func (.func 24) #[] #[.pointer (some ⟨bk, 0, none⟩)]]) :: (bk, [.slice q n c]) :: R) ⟨bf, 0, none⟩ := by
  intro x y L h' K hx hy s hk
  unfold rank_sorted_int64_c1
  have vq : valsAt h' q (l.map (Value.int .i64)) := kq _ _ s (fun z hz => by simp [hz])
  have gx : (l.map (Value.int .i64))[x]? = some (.int .i64 (keyI l x)) := by simp [keyI, List.getD, show x < l.length by omega]
  have gy : (l.map (Value.int .i64))[y]? = some (.int .i64 (keyI l y)) := by simp [keyI, List.getD, show y < l.length by omega]
  obtain ⟨r, h1, h2⟩ := cmp_of (h := h') hk
  have one : ∀ {z : Nat} {Q : Int → Heap → Prop}, z < n → (l.map (Value.int .i64))[z]? = some (.int .i64 (keyI l z)) → Q (keyI l z) h' → rank_By_c1 (z : Int) ⟨bk, 0, none⟩ h' Q := by
    intro z Q hz gz hQ
    unfold rank_By_c1
    try simp -zeta (disch := omega) only [chkP_some, iteB_true, iteB_false, add_mk, Nat.zero_add, Nat.add_zero, Nat.mul_one, Nat.reduceAdd, Int.toNat_natCast, ex_int, ex_slice, ex_ptr, ex_bool, ex_str, ex_flt, ex_any, bnd_in, List.getElem?_cons_zero, List.getElem?_cons_succ, List.set_cons_zero, List.set_cons_succ, List.cons_append, List.nil_append, bne_self_eq_false, beq_self_eq_true, Bool.not_true, Bool.not_false, Option.isNone_some, Option.isNone_none, eq_self, true_and, and_true, and_self, s.rd0, s.rd1, s.rd2, vals_int vq gz]
    exact hQ
  simp -zeta (disch := omega) only [chkP_some, iteB_true, iteB_false, add_mk, Nat.zero_add, Nat.add_zero, Nat.mul_one, Nat.reduceAdd, Int.toNat_natCast, ex_int, ex_slice, ex_ptr, ex_bool, ex_str, ex_flt, ex_any, bnd_in, List.getElem?_cons_zero, List.getElem?_cons_succ, List.set_cons_zero, List.set_cons_succ, List.cons_append, List.nil_append, bne_self_eq_false, beq_self_eq_true, Bool.not_true, Bool.not_false, Option.isNone_some, Option.isNone_none, eq_self, true_and, and_true, and_self, s.rd0, s.rd1, s.rd2, ex_fn]
  refine callP1.self (one hx gx ?_)
  simp -zeta (disch := omega) only [chkP_some, iteB_true, iteB_false, add_mk, Nat.zero_add, Nat.add_zero, Nat.mul_one, Nat.reduceAdd, Int.toNat_natCast, ex_int, ex_slice, ex_ptr, ex_bool, ex_str, ex_flt, ex_any, bnd_in, List.getElem?_cons_zero, List.getElem?_cons_succ, List.set_cons_zero, List.set_cons_succ, List.cons_append, List.nil_append, bne_self_eq_false, beq_self_eq_true, Bool.not_true, Bool.not_false, Option.isNone_some, Option.isNone_none, eq_self, true_and, and_true, and_self, s.rd0, s.rd1, s.rd2, ex_fn]
  refine callP1.self (one hy gy ?_)
  exact qcallP1.of r (fun Q hQ => h1 Q hQ) h2

theorem places_l0 {K2 : Heap → Prop} {b m : Nat} (hm : m < 2 ^ 40) (hk : ∀ h', St h0 h' ((b, natV (List.range m)) :: R) → K2 h') :
    ∀ (d i : Nat) (h : Heap), i + d = m → St h0 h ((b, ints m fun j => if j < i then (j : Int) else 0) :: R) → rank_places.l0 K2 (d + 1) ⟨b, 0, none⟩ m m (m : Int) (i : Int) h
  | 0, i, h, hi, s => by
    unfold rank_places.l0 rank_places.b0
    obtain rfl : i = m := by omega
    refine iteB_neg (decide_eq_false (by omega)) (hk h ?_)
    have e : natV (List.range i) = ints i fun j => if j < i then (j : Int) else 0 := by
      have := natV_range i fun v => v
      simp only [List.map_id_fun', id_eq] at this
      rw [this]
      exact ints_congr fun v hv => by rw [if_pos hv]
    rw [e]; exact s
  | d + 1, i, h, hi, s => by
    unfold rank_places.l0 rank_places.b0
    refine iteB_pos (decide_eq_true (by omega)) ?_
    try simp -zeta (disch := omega) only [chkP_some, iteB_true, iteB_false, add_mk, Nat.zero_add, Nat.add_zero, Nat.mul_one, Nat.reduceAdd, Int.toNat_natCast, ex_int, ex_slice, ex_ptr, ex_bool, ex_str, ex_flt, ex_any, bnd_in, List.getElem?_cons_zero, List.getElem?_cons_succ, List.set_cons_zero, List.set_cons_succ, List.cons_append, List.nil_append, bne_self_eq_false, beq_self_eq_true, Bool.not_true, Bool.not_false, Option.isNone_some, Option.isNone_none, eq_self, true_and, and_true, and_self, s.rd0]
    refine s.st0 (by rw [ints_length]; omega) fun h2 s2 => ?_
    rw [wrap_id (by omega) (by omega)]
    refine places_l0 hm hk d (i + 1) h2 (by omega) ?_
    rw [ints_set] at s2
    rw [ints_congr (g := upd (fun j => if j < i then (j : Int) else 0) i (i : Int)) fun j hj => ?_]
    · exact s2
    · unfold Hp.upd
      by_cases c : j = i
      · subst c; simp
      · rw [if_neg c]
        show (if j < i + 1 then (j : Int) else 0) = if j < i then (j : Int) else 0
        by_cases c2 : j < i
        · rw [if_pos c2, if_pos (by omega)]
        · rw [if_neg c2, if_neg (by omega)]

theorem By_of {h : Heap} {n c : Nat} {q : Option Addr} {l : List Int} {K : Option Addr → Nat → Nat → Heap → Prop} (hl : l.length = n) (hn : n ≤ 2 ^ 20) (kq : Keeps h0 R q (l.map (Value.int .i64))) (s : St h0 h R)
    (hk : ∀ b h', St h0 h' ((b, natV (byL l)) :: R) → K (some ⟨b, 0, none⟩) n n h') : rank_By q n c h K := by
  unfold rank_By
  refine s.new_ fun bk h1 s1 => ?_
  try simp -zeta (disch := omega) only [chkP_some, iteB_true, iteB_false, add_mk, Nat.zero_add, Nat.add_zero, Nat.mul_one, Nat.reduceAdd, Int.toNat_natCast, ex_int, ex_slice, ex_ptr, ex_bool, ex_str, ex_flt, ex_any, bnd_in, List.getElem?_cons_zero, List.getElem?_cons_succ, List.set_cons_zero, List.set_cons_succ, List.cons_append, List.nil_append, bne_self_eq_false, beq_self_eq_true, Bool.not_true, Bool.not_false, Option.isNone_some, Option.isNone_none, eq_self, true_and, and_true, and_self, s1.rd0]
  refine callP3.self ?_
  unfold rank_sorted_int64_rank_By_c1
  refine s1.new_ fun bf h2 s2 => ?_
  refine callP3.self ?_
  unfold rank_places
  refine ⟨⟨by omega, by omega, by omega, by omega⟩, ?_⟩
  rw [Int.toNat_natCast]
  refine s2.new_ fun b h3 s3 => ?_
  rw [ints_zero] at s3
  refine ⟨n + 1, places_l0 (by omega) (fun h4 s4 => ?_) n 0 h3 (by omega) (by simpa using s3)⟩
  refine callP0.self (Stable_of (key := keyI l) (z := []) (n := n) (L := List.range n) (cmpok (b := b) hl kq) (by omega) (by simp) List.pairwise_lt_range (by simp) (by simpa using s4) fun h5 s5 => ?_)
  have s5 : St h0 h5 ((b, natV (byL l)) :: (bf, [.func (.func 24) #[] #[.pointer (some ⟨bk, 0, none⟩)]]) :: (bk, [.slice q n c]) :: R) := by simpa [byL, hl] using s5
  exact hk b h5 ((St.re s5 (by intro a; simp only [cntR_append, cntR_cons, cntR_nil, List.cons_append, List.nil_append, List.set_cons_zero, List.set_cons_succ]; omega)))
end
end Go.Proofs.Ytlfcfoodlbbbjaa
