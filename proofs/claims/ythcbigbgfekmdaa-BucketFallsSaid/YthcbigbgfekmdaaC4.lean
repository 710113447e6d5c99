/-
  Rows of buckets: the document's own.
-/
import Derived.Test.YthcbigbgfekmdaaC3
namespace Go.Proofs.Ythcbigbgfekmdaa
set_option linter.unusedVariables false
set_option linter.unusedSimpArgs false
open Go.Hp Go.RowKit
attribute [local irreducible] Go.Hp.iteB

def vq (q : Bq) : List Value := q.map fun x => Value.int .i64 (x.1 : Int)
def lq (q : Bq) : List Value := q.map fun x => Value.int .i64 (x.2 : Int)
theorem vq_get {q : Bq} {i : Nat} {x : Nat × Nat} (h : q[i]? = some x) : (vq q)[i]? = some (.int .i64 (x.1 : Int)) := by simp [vq, h]
theorem lq_get {q : Bq} {i : Nat} {x : Nat × Nat} (h : q[i]? = some x) : (lq q)[i]? = some (.int .i64 (x.2 : Int)) := by simp [lq, h]

/-- The document's row. -/
def RRow (n : Nat) (q : Bq) (b : Nat) (X : Rws) : Prop := ∃ qV cV XV qL cL XL, Own qV cV (vq q) XV ∧ Own qL cL (lq q) XL ∧ X = (b, [.int .i64 n, .slice qV q.length cV, .slice qL q.length cL]) :: (XV ++ XL)

theorem RRow.open {h0 h : Heap} {n : Nat} {q : Bq} {b : Nat} {X R : Rws} (r : RRow n q b X) (s : St h0 h (X ++ R)) : ∃ qV cV XV qL cL XL, Own qV cV (vq q) XV ∧ Own qL cL (lq q) XL ∧ valsAt h qV (vq q) ∧ valsAt h qL (lq q) ∧
    St h0 h ((b, [.int .i64 n, .slice qV q.length cV, .slice qL q.length cL]) :: (XV ++ (XL ++ R))) ∧ X = (b, [.int .i64 n, .slice qV q.length cV, .slice qL q.length cL]) :: (XV ++ XL) := by
  obtain ⟨qV, cV, XV, qL, cL, XL, o1, o2, rfl⟩ := r
  have s : St h0 h ((b, [.int .i64 n, .slice qV q.length cV, .slice qL q.length cL]) :: (XV ++ (XL ++ R))) := by simpa using s
  exact ⟨qV, cV, XV, qL, cL, XL, o1, o2, o1.vals s.tail, o2.vals s.tail.flip, s, rfl⟩

theorem Room_of {h : Heap} {n : Int} {K : Int → Heap → Prop} (hk : K (room n : Int) h) : straitref09_Room n h K := by
  unfold straitref09_Room
  have : (if (if 4096 < n then 4096 else n) > 0 then (if 4096 < n then 4096 else n) else 0) = (room n : Int) := by unfold room; split <;> split <;> split <;> omega
  first | (rw [this]; exact hk) | (refine bindV_intro fun x hx => ?_; rw [hx, this]; exact hk)

theorem rNew_of {h0 h : Heap} {R : Rws} {n : Int} {K : Option Addr → Heap → Prop} (s : St h0 h R)
    (hk : ∀ b X h', RRow (room n) [] b X → St h0 h' (X ++ R) → K (some ⟨b, 0, none⟩) h') : straitref13_New n h K := by
  unfold straitref13_New
  refine qcallP1.of _ (fun R hR => Room_of hR) ?_
  exact s.new_ fun b h' s => hk b _ h' ⟨_, _, _, _, _, _, Own.nil, Own.nil, rfl⟩ s

theorem rDrop_l0 {h0 : Heap} {n b : Nat} {q : Bq} {v : Int} {qV qL : Option Addr} {cV cL : Nat} {R : Rws} {K2 : Option Addr → Nat → Nat → Option Addr → Nat → Nat → Heap → Prop} (hlen : q.length ≤ 4096)
    (hv : ∀ h XA, St h0 h (XA ++ (b, [.int .i64 n, .slice qV q.length cV, .slice qL q.length cL]) :: R) → valsAt h qV (vq q) ∧ valsAt h qL (lq q))
    (hk : ∀ p1 c1 X1 p2 c2 X2 h', Own p1 c1 (vq (q.filter fun x => (x.1 : Int) != v)) X1 → Own p2 c2 (lq (q.filter fun x => (x.1 : Int) != v)) X2 → St h0 h' (X1 ++ (X2 ++ (b, [.int .i64 n, .slice qV q.length cV, .slice qL q.length cL]) :: R)) →
      K2 p1 (q.filter fun x => (x.1 : Int) != v).length c1 p2 (q.filter fun x => (x.1 : Int) != v).length c2 h') :
    ∀ (d i : Nat) (h : Heap) (p1 : Option Addr) (c1 : Nat) (X1 : Rws) (p2 : Option Addr) (c2 : Nat) (X2 : Rws), i + d = q.length →
      Own p1 c1 (vq ((q.take i).filter fun x => (x.1 : Int) != v)) X1 → Own p2 c2 (lq ((q.take i).filter fun x => (x.1 : Int) != v)) X2 → St h0 h (X1 ++ (X2 ++ (b, [.int .i64 n, .slice qV q.length cV, .slice qL q.length cL]) :: R)) →
      straitref13_Row_Drop.l0 K2 (d + 1) (some ⟨b, 0, none⟩) v p1 ((q.take i).filter fun x => (x.1 : Int) != v).length c1 p2 ((q.take i).filter fun x => (x.1 : Int) != v).length c2 (i : Int) h
  | 0, i, h, p1, c1, X1, p2, c2, X2, hi, o1, o2, s => by
    unfold straitref13_Row_Drop.l0 straitref13_Row_Drop.b0
    have s' := s.flip.drop.mid
    try simp -zeta (disch := omega) only [chkP_some, iteB_true, iteB_false, add_mk, Nat.zero_add, Nat.add_zero, Nat.mul_one, Nat.reduceAdd, Int.toNat_natCast, ex_int, ex_slice, ex_ptr, ex_bool, ex_str, ex_flt, ex_any, bnd_in, List.getElem?_cons_zero, List.getElem?_cons_succ, List.set_cons_zero, List.set_cons_succ, List.cons_append, List.nil_append, bne_self_eq_false, beq_self_eq_true, Bool.not_true, Bool.not_false, Option.isNone_some, Option.isNone_none, eq_self, true_and, and_true, and_self, s'.rd0]
    refine iteB_neg (decide_eq_false (by omega)) ?_
    have : q.take i = q := List.take_of_length_le (by omega)
    rw [this] at o1 o2 ⊢
    exact hk _ _ _ _ _ _ _ o1 o2 s
  | d + 1, i, h, p1, c1, X1, p2, c2, X2, hi, o1, o2, s => by
    unfold straitref13_Row_Drop.l0 straitref13_Row_Drop.b0
    obtain ⟨x, hx⟩ := get_lt (l := q) (i := i) (by omega)
    obtain ⟨v1, v2⟩ := hv h (X1 ++ X2) (by simpa using s)
    have s' := s.flip.drop.mid
    try simp -zeta (disch := omega) only [chkP_some, iteB_true, iteB_false, add_mk, Nat.zero_add, Nat.add_zero, Nat.mul_one, Nat.reduceAdd, Int.toNat_natCast, ex_int, ex_slice, ex_ptr, ex_bool, ex_str, ex_flt, ex_any, bnd_in, List.getElem?_cons_zero, List.getElem?_cons_succ, List.set_cons_zero, List.set_cons_succ, List.cons_append, List.nil_append, bne_self_eq_false, beq_self_eq_true, Bool.not_true, Bool.not_false, Option.isNone_some, Option.isNone_none, eq_self, true_and, and_true, and_self, s'.rd0, vals_int v1 (vq_get hx), vals_int v2 (lq_get hx)]
    refine iteB_pos (decide_eq_true (by omega)) ?_
    have ht := take_snoc hx
    have hl1 : ((q.take i).filter fun x => (x.1 : Int) != v).length ≤ 4096 := by
      have := List.length_filter_le (fun x : Nat × Nat => (x.1 : Int) != v) (q.take i)
      rw [List.length_take] at this; omega
    refine iteB_intro (fun c => ?_) (fun c => ?_)
    · have hf : ((q.take (i + 1)).filter fun x => (x.1 : Int) != v) = ((q.take i).filter fun x => (x.1 : Int) != v) ++ [x] := by
        rw [ht, List.filter_append]; simp [c]
      refine Own.push1 o1 s (by simp [vq]) rfl (by simp only [vq, List.length_map]; omega) fun p1' c1' X1' h1 o1' s1 => ?_
      obtain ⟨v1, v2⟩ := hv h1 (X1' ++ X2) (by simpa using s1)
      have s' := s1.flip.drop.mid
      try simp -zeta (disch := omega) only [chkP_some, iteB_true, iteB_false, add_mk, Nat.zero_add, Nat.add_zero, Nat.mul_one, Nat.reduceAdd, Int.toNat_natCast, ex_int, ex_slice, ex_ptr, ex_bool, ex_str, ex_flt, ex_any, bnd_in, List.getElem?_cons_zero, List.getElem?_cons_succ, List.set_cons_zero, List.set_cons_succ, List.cons_append, List.nil_append, bne_self_eq_false, beq_self_eq_true, Bool.not_true, Bool.not_false, Option.isNone_some, Option.isNone_none, eq_self, true_and, and_true, and_self, s'.rd0, vals_int v1 (vq_get hx), vals_int v2 (lq_get hx)]
      refine Own.push1 o2 s1.flip (by simp [lq]) rfl (by simp only [lq, List.length_map]; omega) fun p2' c2' X2' h2 o2' s2 => ?_
      rw [wrap64 (by omega) (by omega)]
      have := rDrop_l0 hlen hv hk d (i + 1) h2 p1' c1' X1' p2' c2' X2' (by omega) (by rw [hf]; simpa [vq] using o1') (by rw [hf]; simpa [lq] using o2') s2.flip
      rw [hf] at this
      simpa [vq, lq] using this
    · have hf : ((q.take (i + 1)).filter fun x => (x.1 : Int) != v) = ((q.take i).filter fun x => (x.1 : Int) != v) := by
        rw [ht, List.filter_append]; simp [c]
      rw [wrap64 (by omega) (by omega)]
      have := rDrop_l0 hlen hv hk d (i + 1) h p1 c1 X1 p2 c2 X2 (by omega) (by rw [hf]; exact o1) (by rw [hf]; exact o2) s
      rw [hf] at this
      exact this

theorem rDrop_of {h0 h : Heap} {n b : Nat} {q : Bq} {X R : Rws} {v : Int} {K : Bool → Heap → Prop} (hlen : q.length ≤ 4096) (r : RRow n q b X) (s : St h0 h (X ++ R))
    (hk : ∀ X' h', RRow n (q.filter fun x => (x.1 : Int) != v) b X' → St h0 h' (X' ++ R) → K (decide ((q.filter fun x => (x.1 : Int) != v).length < q.length)) h') : straitref13_Row_Drop (some ⟨b, 0, none⟩) v h K := by
  unfold straitref13_Row_Drop
  obtain ⟨qV, cV, XV, qL, cL, XL, o1, o2, _, _, s, rfl⟩ := r.open s
  refine ⟨q.length + 1, rDrop_l0 (R := XV ++ (XL ++ R)) (h0 := h0) (n := n) (b := b) (qV := qV) (qL := qL) (cV := cV) (cL := cL) (q := q) hlen (fun h XA s => ?_) (fun p1 c1 X1 p2 c2 X2 h' o1 o2 s => ?_) q.length 0 h none 0 [] none 0 [] (by omega) (by simpa [vq] using Own.nil) (by simpa [lq] using Own.nil) (by simpa using s)⟩
  · exact ⟨o1.vals s.drop.tail, o2.vals s.drop.tail.flip⟩
  · have s := (St.mid (A := X1 ++ X2) (by simpa using s))
    try simp -zeta (disch := omega) only [chkP_some, iteB_true, iteB_false, add_mk, Nat.zero_add, Nat.add_zero, Nat.mul_one, Nat.reduceAdd, Int.toNat_natCast, ex_int, ex_slice, ex_ptr, ex_bool, ex_str, ex_flt, ex_any, bnd_in, List.getElem?_cons_zero, List.getElem?_cons_succ, List.set_cons_zero, List.set_cons_succ, List.cons_append, List.nil_append, bne_self_eq_false, beq_self_eq_true, Bool.not_true, Bool.not_false, Option.isNone_some, Option.isNone_none, eq_self, true_and, and_true, and_self, s.rd0]
    refine s.st0 (by simp) fun h2 s => s.st0 (by simp) fun h3 s => ?_
    have e : decide (((q.filter fun x => (x.1 : Int) != v).length : Int) < (q.length : Int)) = decide ((q.filter fun x => (x.1 : Int) != v).length < q.length) := by
      rw [Bool.eq_iff_iff]; simp
    rw [e]
    refine hk _ h3 ⟨p1, c1, X1, p2, c2, X2, o1, o2, rfl⟩ ?_
    exact St.cut (A := (b, [.int .i64 n, .slice p1 (q.filter fun x => (x.1 : Int) != v).length c1, .slice p2 (q.filter fun x => (x.1 : Int) != v).length c2]) :: (X1 ++ X2)) (B := XV ++ XL) (by simpa using s)

theorem rPut_of {h0 h : Heap} {n b : Nat} {q : Bq} {X R : Rws} {v l : Int} {K : Bool → Heap → Prop} (hlen : q.length ≤ 4096) (hn : n ≤ 4096) (r : RRow n q b X) (s : St h0 h (X ++ R))
    (hk0 : ¬ (0 ≤ v ∧ v < n ∧ 0 ≤ l ∧ l < (2 * n + 1 : Nat)) → K false h)
    (hk1 : ∀ X' h' (i k : Nat), v = i → l = k → i < n → k < 2 * n + 1 → RRow n ((i, k) :: q.filter fun x => (x.1 : Int) != v) b X' → St h0 h' (X' ++ R) → K true h') : straitref13_Row_Put (some ⟨b, 0, none⟩) v l h K := by
  unfold straitref13_Row_Put
  intro j33
  obtain ⟨qV, cV, XV, qL, cL, XL, o1, o2, _, _, s', _⟩ := r.open s
  refine iteB_intro (fun c => hk0 (by have := of_decide_eq_true c; omega)) (fun c => ?_)
  have c := of_decide_eq_false c
  try simp -zeta (disch := omega) only [chkP_some, iteB_true, iteB_false, add_mk, Nat.zero_add, Nat.add_zero, Nat.mul_one, Nat.reduceAdd, Int.toNat_natCast, ex_int, ex_slice, ex_ptr, ex_bool, ex_str, ex_flt, ex_any, bnd_in, List.getElem?_cons_zero, List.getElem?_cons_succ, List.set_cons_zero, List.set_cons_succ, List.cons_append, List.nil_append, bne_self_eq_false, beq_self_eq_true, Bool.not_true, Bool.not_false, Option.isNone_some, Option.isNone_none, eq_self, true_and, and_true, and_self, s'.rd0]
  refine iteB_intro (fun c2 => hk0 (by have := of_decide_eq_true c2; omega)) (fun c2 => ?_)
  have c2 := of_decide_eq_false c2
  refine iteB_intro (fun c3 => hk0 (by have := of_decide_eq_true c3; omega)) (fun c3 => ?_)
  have c3 := of_decide_eq_false c3
  rw [wrap64 (by omega) (by omega)]
  refine iteB_intro (fun c4 => hk0 (by have := of_decide_eq_true c4; omega)) (fun c4 => ?_)
  have c4 := of_decide_eq_false c4
  obtain ⟨i, rfl⟩ : ∃ i : Nat, v = i := ⟨v.toNat, by omega⟩
  obtain ⟨k, rfl⟩ : ∃ i : Nat, l = i := ⟨l.toNat, by omega⟩
  have hk1 := fun X' h' => hk1 X' h' i k rfl rfl (by omega) (by omega)
  clear s' o1 o2 hk0
  simp -zeta only [j33]
  clear j33
  refine callP1.self (rDrop_of hlen r s fun X' h' r s => ?_)
  have hl2 : (q.filter fun x => (x.1 : Int) != (i : Int)).length ≤ 4096 := by
    have := List.length_filter_le (fun x : Nat × Nat => (x.1 : Int) != (i : Int)) q; omega
  generalize (q.filter fun x => (x.1 : Int) != (i : Int)) = p at *
  obtain ⟨qV, cV, XV, qL, cL, XL, o1, o2, v1, v2, s, _⟩ := r.open s
  refine St.new_ (cs := [.int .i64 (i : Int)]) s fun f1 h1 s => St.new_ (cs := [.int .i64 (k : Int)]) s fun f2 h2 s => ?_
  try simp -zeta (disch := omega) only [chkP_some, iteB_true, iteB_false, add_mk, Nat.zero_add, Nat.add_zero, Nat.mul_one, Nat.reduceAdd, Int.toNat_natCast, ex_int, ex_slice, ex_ptr, ex_bool, ex_str, ex_flt, ex_any, bnd_in, List.getElem?_cons_zero, List.getElem?_cons_succ, List.set_cons_zero, List.set_cons_succ, List.cons_append, List.nil_append, bne_self_eq_false, beq_self_eq_true, Bool.not_true, Bool.not_false, Option.isNone_some, Option.isNone_none, eq_self, true_and, and_true, and_self, s.rd0, s.rd1, s.rd2]
  have g1 : valsAt h2 qV (vq p) := o1.vals s.tail.tail.tail
  have s : St h0 h2 ([(f1, [.int .i64 (i : Int)])] ++ ((f2, [.int .i64 (k : Int)]) :: (b, [.int .i64 n, .slice qV p.length cV, .slice qL p.length cL]) :: (XV ++ (XL ++ R)))) := s.pull1
  refine Own.pushAll (Own.made f1 [.int .i64 (i : Int)]) s rfl g1 (by simp [vq]) (by simp) (flat_map fun _ => rfl) (by simp only [List.length_singleton]; omega) fun q1 c1 X1 h3 o1' s => ?_
  have s := (St.mid (A := X1 ++ [(f2, [.int .i64 (k : Int)])]) (by simpa using s))
  try simp -zeta (disch := omega) only [chkP_some, iteB_true, iteB_false, add_mk, Nat.zero_add, Nat.add_zero, Nat.mul_one, Nat.reduceAdd, Int.toNat_natCast, ex_int, ex_slice, ex_ptr, ex_bool, ex_str, ex_flt, ex_any, bnd_in, List.getElem?_cons_zero, List.getElem?_cons_succ, List.set_cons_zero, List.set_cons_succ, List.cons_append, List.nil_append, bne_self_eq_false, beq_self_eq_true, Bool.not_true, Bool.not_false, Option.isNone_some, Option.isNone_none, eq_self, true_and, and_true, and_self, s.rd0]
  refine s.st0 (by simp) fun h4 s => ?_
  try simp -zeta (disch := omega) only [chkP_some, iteB_true, iteB_false, add_mk, Nat.zero_add, Nat.add_zero, Nat.mul_one, Nat.reduceAdd, Int.toNat_natCast, ex_int, ex_slice, ex_ptr, ex_bool, ex_str, ex_flt, ex_any, bnd_in, List.getElem?_cons_zero, List.getElem?_cons_succ, List.set_cons_zero, List.set_cons_succ, List.cons_append, List.nil_append, bne_self_eq_false, beq_self_eq_true, Bool.not_true, Bool.not_false, Option.isNone_some, Option.isNone_none, eq_self, true_and, and_true, and_self, s.rd0]
  have g2 : valsAt h4 qL (lq p) := o2.vals (R := (b, [.int .i64 n, .slice q1 (p.length + 1) c1, .slice qL p.length cL]) :: (X1 ++ (f2, [.int .i64 (k : Int)]) :: (XV ++ R))) (by
    have := (St.flip (A := (b, [.int .i64 n, .slice q1 (p.length + 1) c1, .slice qL p.length cL]) :: (X1 ++ (f2, [.int .i64 (k : Int)]) :: XV)) (B := XL) (C := R) (by simpa [Nat.add_comm] using s))
    simpa using this)
  have s : St h0 h4 ([(f2, [.int .i64 (k : Int)])] ++ ((b, [.int .i64 n, .slice q1 (p.length + 1) c1, .slice qL p.length cL]) :: (X1 ++ (XV ++ (XL ++ R))))) := by
    have := St.mid (A := (b, [.int .i64 n, .slice q1 (p.length + 1) c1, .slice qL p.length cL]) :: X1) (x := (f2, [.int .i64 (k : Int)])) (C := XV ++ (XL ++ R)) (by simpa [Nat.add_comm] using s)
    simpa using this
  refine Own.pushAll (Own.made f2 [.int .i64 (k : Int)]) s rfl g2 (by simp [lq]) (by simp) (flat_map fun _ => rfl) (by simp only [List.length_singleton]; omega) fun q2 c2' X2 h5 o2' s => ?_
  have s := s.mid
  try simp -zeta (disch := omega) only [chkP_some, iteB_true, iteB_false, add_mk, Nat.zero_add, Nat.add_zero, Nat.mul_one, Nat.reduceAdd, Int.toNat_natCast, ex_int, ex_slice, ex_ptr, ex_bool, ex_str, ex_flt, ex_any, bnd_in, List.getElem?_cons_zero, List.getElem?_cons_succ, List.set_cons_zero, List.set_cons_succ, List.cons_append, List.nil_append, bne_self_eq_false, beq_self_eq_true, Bool.not_true, Bool.not_false, Option.isNone_some, Option.isNone_none, eq_self, true_and, and_true, and_self, s.rd0]
  refine s.st0 (by simp) fun h6 s => hk1 ((b, [.int .i64 n, .slice q1 (p.length + 1) c1, .slice q2 (p.length + 1) c2']) :: (X1 ++ X2)) h6 ⟨q1, c1, X1, q2, c2', X2, by simpa [vq] using o1', by simpa [lq] using o2', rfl⟩ ?_
  have s : St h0 h6 ((b, [.int .i64 n, .slice q1 (p.length + 1) c1, .slice q2 (p.length + 1) c2']) :: (X2 ++ (X1 ++ (XV ++ (XL ++ R))))) := by simpa [Nat.add_comm] using s
  have s := s.flip1
  exact St.cut (A := (b, [.int .i64 n, .slice q1 (p.length + 1) c1, .slice q2 (p.length + 1) c2']) :: (X1 ++ X2)) (B := XV ++ XL) (by simpa using s)
end Go.Proofs.Ythcbigbgfekmdaa
