/-
  Rows of buckets: the two rows agree.
-/
import Derived.Test.YthcbigbgfekmdaaC5
namespace Go.Proofs.Ythcbigbgfekmdaa
set_option linter.unusedVariables false
set_option linter.unusedSimpArgs false
open Go.Hp Go.RowKit
attribute [local irreducible] Go.Hp.iteB

theorem aboveB_iff {q : Bq} (hn : (q.map (·.1)).Nodup) {l : Int} {v : Nat} : aboveB q l v = true ↔ ∃ k : Nat, (v, k) ∈ q ∧ l < k := by
  unfold aboveB
  constructor
  · intro h
    simp only [Bool.and_eq_true, decide_eq_true_eq] at h
    obtain ⟨h1, h2⟩ := h
    have : ∃ k, (v, k) ∈ q := Classical.byContradiction fun hno => h1 (labelQ_none fun x hx e => hno ⟨x.2, by
      have : x.1 = v := by omega
      rw [← this]; exact hx⟩)
    obtain ⟨k, hk⟩ := this
    rw [labelQ_mem hn hk] at h2
    exact ⟨k, hk, h2⟩
  · rintro ⟨k, hk, h⟩
    rw [labelQ_mem hn hk]; simp [h]

theorem rAbove_l0 {h0 : Heap} {n b f t : Nat} {q : Bq} {l : Int} {qV qL : Option Addr} {cV cL : Nat} {R : Rws} {K2 : Heap → Prop} (hlen : q.length ≤ 4096) (hq : ∀ x ∈ q, x.1 < n)
    (hv : ∀ h A B, St h0 h (A :: B :: (b, [.int .i64 n, .slice qV q.length cV, .slice qL q.length cL]) :: R) → valsAt h qV (vq q) ∧ valsAt h qL (lq q))
    (hk : ∀ h' g, (∀ v, v < n → (g v = true ↔ ∃ x ∈ q, x.1 = v ∧ l < (x.2 : Int))) → St h0 h' ((f, [.int .i64 n, .slice (some ⟨t, 0, none⟩) n n]) :: (t, bools n g) :: (b, [.int .i64 n, .slice qV q.length cV, .slice qL q.length cL]) :: R) → K2 h') :
    ∀ (d i : Nat) (h : Heap) (g : Nat → Bool), i + d = q.length → (∀ v, v < n → (g v = true ↔ ∃ x ∈ q.take i, x.1 = v ∧ l < (x.2 : Int))) → St h0 h ((f, [.int .i64 n, .slice (some ⟨t, 0, none⟩) n n]) :: (t, bools n g) :: (b, [.int .i64 n, .slice qV q.length cV, .slice qL q.length cL]) :: R) →
      straitref13_Row_Above.l0 K2 (d + 1) (some ⟨b, 0, none⟩) l ⟨f, 0, none⟩ (i : Int) h
  | 0, i, h, g, hi, hg, s => by
    unfold straitref13_Row_Above.l0 straitref13_Row_Above.b0
    try simp -zeta (disch := omega) only [chkP_some, iteB_true, iteB_false, add_mk, Nat.zero_add, Nat.add_zero, Nat.mul_one, Nat.reduceAdd, Int.toNat_natCast, ex_int, ex_slice, ex_ptr, ex_bool, ex_str, ex_flt, ex_any, bnd_in, List.getElem?_cons_zero, List.getElem?_cons_succ, List.set_cons_zero, List.set_cons_succ, List.cons_append, List.nil_append, bne_self_eq_false, beq_self_eq_true, Bool.not_true, Bool.not_false, Option.isNone_some, Option.isNone_none, eq_self, true_and, and_true, and_self, s.rd0, s.rd1, s.rd2]
    refine iteB_neg (decide_eq_false (by omega)) (hk h g ?_ s)
    rwa [List.take_of_length_le (by omega)] at hg
  | d + 1, i, h, g, hi, hg, s => by
    unfold straitref13_Row_Above.l0 straitref13_Row_Above.b0
    obtain ⟨x, hx⟩ := get_lt (l := q) (i := i) (by omega)
    obtain ⟨v1, v2⟩ := hv h _ _ s
    have hxn := hq x (List.mem_of_getElem? hx)
    have ht := take_snoc hx
    try simp -zeta (disch := omega) only [chkP_some, iteB_true, iteB_false, add_mk, Nat.zero_add, Nat.add_zero, Nat.mul_one, Nat.reduceAdd, Int.toNat_natCast, ex_int, ex_slice, ex_ptr, ex_bool, ex_str, ex_flt, ex_any, bnd_in, List.getElem?_cons_zero, List.getElem?_cons_succ, List.set_cons_zero, List.set_cons_succ, List.cons_append, List.nil_append, bne_self_eq_false, beq_self_eq_true, Bool.not_true, Bool.not_false, Option.isNone_some, Option.isNone_none, eq_self, true_and, and_true, and_self, s.rd0, s.rd1, s.rd2, vals_int v1 (vq_get hx), vals_int v2 (lq_get hx)]
    refine iteB_pos (decide_eq_true (by omega)) ?_
    rw [wrap64 (by omega) (by omega)]
    refine iteB_intro (fun c => ?_) (fun c => ?_)
    · have c := of_decide_eq_true c
      refine s.st1 (by rw [bools_length]; exact hxn) fun h2 s => ?_
      rw [bools_set] at s
      refine rAbove_l0 hlen hq hv hk d (i + 1) h2 _ (by omega) (fun v hv' => ?_) s
      rw [ht]
      unfold upd
      by_cases e : v = x.1
      · rw [if_pos e]; simp only [true_iff]; exact ⟨x, by simp, e.symm, c⟩
      · rw [if_neg e, hg v hv']
        constructor
        · rintro ⟨y, hy, h⟩; exact ⟨y, by simp [hy], h⟩
        · rintro ⟨y, hy, h⟩
          rcases List.mem_append.1 hy with hy | hy
          · exact ⟨y, hy, h⟩
          · have : y = x := by simpa using hy
            subst this; exact absurd h.1.symm e
    · have c := of_decide_eq_false c
      refine rAbove_l0 hlen hq hv hk d (i + 1) h g (by omega) (fun v hv' => ?_) s
      rw [ht, hg v hv']
      constructor
      · rintro ⟨y, hy, h⟩; exact ⟨y, by simp [hy], h⟩
      · rintro ⟨y, hy, h⟩
        rcases List.mem_append.1 hy with hy | hy
        · exact ⟨y, hy, h⟩
        · have : y = x := by simpa using hy
          subst this; exact absurd h.2 (by omega)

theorem rAbove_of {h0 h : Heap} {n b : Nat} {q : Bq} {X R : Rws} {l : Int} {K : Option Addr → Nat → Nat → Heap → Prop} (hlen : q.length ≤ 4096) (hn : n ≤ 4096) (hq : ∀ x ∈ q, x.1 < n) (nd : (q.map (·.1)).Nodup) (r : RRow n q b X) (s : St h0 h (X ++ R))
    (hk : ∀ p c Y h', Own p c ((aboveL q l n).map fun v : Nat => Value.int .i64 v) Y → St h0 h' (Y ++ (X ++ R)) → K p (aboveL q l n).length c h') : straitref13_Row_Above (some ⟨b, 0, none⟩) l h K := by
  unfold straitref13_Row_Above
  obtain ⟨qV, cV, XV, qL, cL, XL, o1, o2, v1, v2, s, hX⟩ := r.open s
  try simp -zeta (disch := omega) only [chkP_some, iteB_true, iteB_false, add_mk, Nat.zero_add, Nat.add_zero, Nat.mul_one, Nat.reduceAdd, Int.toNat_natCast, ex_int, ex_slice, ex_ptr, ex_bool, ex_str, ex_flt, ex_any, bnd_in, List.getElem?_cons_zero, List.getElem?_cons_succ, List.set_cons_zero, List.set_cons_succ, List.cons_append, List.nil_append, bne_self_eq_false, beq_self_eq_true, Bool.not_true, Bool.not_false, Option.isNone_some, Option.isNone_none, eq_self, true_and, and_true, and_self, s.rd0]
  refine callP4.self (sNew_of s fun t h1 s => ?_)
  have hr : room (n : Int) = n := by unfold room; split <;> split <;> omega
  rw [hr] at s ⊢
  refine s.new_ fun f h2 s => ?_
  try simp -zeta (disch := omega) only [chkP_some, iteB_true, iteB_false, add_mk, Nat.zero_add, Nat.add_zero, Nat.mul_one, Nat.reduceAdd, Int.toNat_natCast, ex_int, ex_slice, ex_ptr, ex_bool, ex_str, ex_flt, ex_any, bnd_in, List.getElem?_cons_zero, List.getElem?_cons_succ, List.set_cons_zero, List.set_cons_succ, List.cons_append, List.nil_append, bne_self_eq_false, beq_self_eq_true, Bool.not_true, Bool.not_false, Option.isNone_some, Option.isNone_none, eq_self, true_and, and_true, and_self, s.rd0]
  refine s.st0 (by simp) fun h3 s => s.st0 (by simp) fun h4 s => ?_
  refine ⟨q.length + 1, rAbove_l0 (h0 := h0) (n := n) (b := b) (f := f) (t := t) (qV := qV) (qL := qL) (cV := cV) (cL := cL) (q := q) (R := XV ++ (XL ++ R)) hlen hq (fun h A B s => ⟨o1.vals s.tail.tail.tail, o2.vals s.tail.tail.tail.flip⟩) (fun h5 g hg s => ?_) q.length 0 h4 _ (by omega) (fun v _ => by simp) s⟩
  try simp -zeta (disch := omega) only [chkP_some, iteB_true, iteB_false, add_mk, Nat.zero_add, Nat.add_zero, Nat.mul_one, Nat.reduceAdd, Int.toNat_natCast, ex_int, ex_slice, ex_ptr, ex_bool, ex_str, ex_flt, ex_any, bnd_in, List.getElem?_cons_zero, List.getElem?_cons_succ, List.set_cons_zero, List.set_cons_succ, List.cons_append, List.nil_append, bne_self_eq_false, beq_self_eq_true, Bool.not_true, Bool.not_false, Option.isNone_some, Option.isNone_none, eq_self, true_and, and_true, and_self, s.rd0, s.rd1, s.rd2]
  refine callP3.self (sList_of hn s.tail fun p c Y h6 o s => ?_)
  have e : (List.range n).filter g = aboveL q l n := by
    unfold aboveL
    apply List.filter_congr
    intro v hv
    have hv := List.mem_range.1 hv
    rw [Bool.eq_iff_iff, hg v hv, aboveB_iff nd]
    constructor
    · rintro ⟨x, hx, rfl, h⟩; exact ⟨x.2, hx, h⟩
    · rintro ⟨k, hk, h⟩; exact ⟨(v, k), hk, rfl, h⟩
  rw [e] at o ⊢
  refine hk p c Y h6 o ?_
  rw [hX]
  have := St.cut (A := Y) (B := [(t, bools n g)]) s
  simpa using this

/-- Both rows, and all else. -/
theorem same_of {h0 h : Heap} {z : BS} {a : BA} {q : Bq} {b : Nat} {X R : Rws} {v l : Int} {K : Bool → Heap → Prop} (iv : Inv z q) (r : RRow z.n q b X) (s : St h0 h (z.rows a ++ (X ++ R)))
    (hk : ∀ h' z', z'.n = z.n → Inv z' q → St h0 h' (z'.rows a ++ (X ++ R)) → K true h') : straitlaw13_same (some ⟨a.b, 0, none⟩) (some ⟨b, 0, none⟩) v l h K := by
  have hlen : q.length ≤ 4096 := by have := iv.len; have := iv.n; omega
  unfold straitlaw13_same
  refine callP3.self (rHigh_of hlen r s.flip fun h1 s => ?_)
  refine s.new_ fun f h2 s => ?_
  try simp -zeta (disch := omega) only [chkP_some, iteB_true, iteB_false, add_mk, Nat.zero_add, Nat.add_zero, Nat.mul_one, Nat.reduceAdd, Int.toNat_natCast, ex_int, ex_slice, ex_ptr, ex_bool, ex_str, ex_flt, ex_any, bnd_in, List.getElem?_cons_zero, List.getElem?_cons_succ, List.set_cons_zero, List.set_cons_succ, List.cons_append, List.nil_append, bne_self_eq_false, beq_self_eq_true, Bool.not_true, Bool.not_false, Option.isNone_some, Option.isNone_none, eq_self, true_and, and_true, and_self, s.rd0]
  refine s.st0 (by simp) fun h3 s => s.st0 (by simp) fun h4 s => s.st0 (by simp) fun h5 s => ?_
  have s : St h0 h5 (z.rows a ++ ((f, [.int .i64 (topQ q).1, .int .i64 (topQ q).2.1, .bool (topQ q).2.2]) :: (X ++ R))) := by
    have := St.flip (A := (f, [.int .i64 (topQ q).1, .int .i64 (topQ q).2.1, .bool (topQ q).2.2]) :: X) (B := z.rows a) (C := R) (by simpa using s)
    simpa using this
  refine callP3.self (Highest_of iv s fun h6 z' hn' iv' s => ?_)
  have sx := s.mid
  try simp -zeta (disch := omega) only [chkP_some, iteB_true, iteB_false, add_mk, Nat.zero_add, Nat.add_zero, Nat.mul_one, Nat.reduceAdd, Int.toNat_natCast, ex_int, ex_slice, ex_ptr, ex_bool, ex_str, ex_flt, ex_any, bnd_in, List.getElem?_cons_zero, List.getElem?_cons_succ, List.set_cons_zero, List.set_cons_succ, List.cons_append, List.nil_append, bne_self_eq_false, beq_self_eq_true, Bool.not_true, Bool.not_false, Option.isNone_some, Option.isNone_none, eq_self, true_and, and_true, and_self, sx.rd0, eqAll3]
  have s : St h0 h6 (z'.rows a ++ (X ++ R)) := St.cut (A := z'.rows a) (B := [_]) s
  clear sx
  simp only [beq_self_eq_true, Bool.and_true, iteB_true]
  refine qcallP1.of _ (fun R hR => Len_of iv' s hR) ?_
  obtain ⟨qV, cV, XV, qL, cL, XL, o1, o2, v1, v2, sy, hX⟩ := r.open s.flip
  try simp -zeta (disch := omega) only [chkP_some, iteB_true, iteB_false, add_mk, Nat.zero_add, Nat.add_zero, Nat.mul_one, Nat.reduceAdd, Int.toNat_natCast, ex_int, ex_slice, ex_ptr, ex_bool, ex_str, ex_flt, ex_any, bnd_in, List.getElem?_cons_zero, List.getElem?_cons_succ, List.set_cons_zero, List.set_cons_succ, List.cons_append, List.nil_append, bne_self_eq_false, beq_self_eq_true, Bool.not_true, Bool.not_false, Option.isNone_some, Option.isNone_none, eq_self, true_and, and_true, and_self, sy.rd0]
  refine callP1.self (Label_of iv' s fun h7 s => ?_)
  refine qcallP1.of _ (fun R hR => rLabel_of hlen r s.flip hR) ?_
  refine iteB_pos (by simp) ?_
  refine qcallP1.of _ (fun R hR => Count_of iv' s hR) ?_
  refine qcallP1.of _ (fun R hR => rCount_of hlen r s.flip hR) ?_
  refine iteB_pos (by simp) ?_
  refine callP3.self (Above_of iv' s fun p1 c1 Y1 h8 w1 s => ?_)
  have s : St h0 h8 (X ++ (Y1 ++ (z'.rows a ++ R))) := by
    have := St.flip (A := Y1 ++ z'.rows a) (B := X) (C := R) (by simpa using s)
    simpa using this
  refine callP3.self (rAbove_of hlen iv.n (fun x hx => (iv.mem x hx).1) iv.nd r s fun p2 c2 Y2 h9 w2 s => ?_)
  have g1 := w1.vals (R := Y2 ++ (X ++ (z'.rows a ++ R))) (by
    have := St.flip (A := Y2 ++ X) (B := Y1) (C := z'.rows a ++ R) (by simpa using s)
    simpa using this)
  have g2 := w2.vals s
  rw [hn'] at g1 ⊢
  have e : ((aboveL q l z.n).map fun v : Nat => Value.int .i64 (v : Int)) = ((aboveL q l z.n).map fun v : Nat => (v : Int)).map (Value.int .i64) := by rw [List.map_map]; rfl
  rw [e] at g1 g2
  have hal : (aboveL q l z.n).length ≤ 4096 := by
    have := List.length_filter_le (aboveB q l) (List.range z.n); have := iv.n; simp [aboveL] at *; omega
  refine qcallP1.of _ (fun R hR => Ints_of g1 g2 (by simp) (by simp) (by omega) hR) ?_
  rw [decide_eq_true rfl]
  refine hk _ z' hn' iv' ?_
  have := St.flip (A := Y2 ++ (X ++ Y1)) (B := z'.rows a) (C := R) (by simpa using s)
  have := St.cut (A := z'.rows a) (B := Y2) (C := X ++ (Y1 ++ R)) (by simpa using this)
  have := St.cut (A := z'.rows a ++ X) (B := Y1) (C := R) (by simpa using this)
  simpa using this
end Go.Proofs.Ythcbigbgfekmdaa
