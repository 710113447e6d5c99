/-
  Rows of buckets: the document's own looks.
-/
import Derived.Test.YthcbigbgfekmdaaC4
namespace Go.Proofs.Ythcbigbgfekmdaa
set_option linter.unusedVariables false
set_option linter.unusedSimpArgs false
open Go.Hp Go.RowKit
attribute [local irreducible] Go.Hp.iteB

section
variable {h0 h : Heap} {n b : Nat} {q : Bq} {X R : Rws}

theorem rLabel_l0 {K0 : Int → Heap → Prop} {K2 : Heap → Prop} {v : Int} {qV qL : Option Addr} {cV cL : Nat} {R : Rws} (hlen : q.length ≤ 4096) (s : St h0 h ((b, [.int .i64 n, .slice qV q.length cV, .slice qL q.length cL]) :: R))
    (v1 : valsAt h qV (vq q)) (v2 : valsAt h qL (lq q)) (hk0 : labelQ q v ≠ -1 → K0 (labelQ q v) h) (hk2 : labelQ q v = -1 → K2 h) :
    ∀ (d i : Nat), i + d = q.length → labelQ q v = labelQ (q.drop i) v → straitref13_Row_Label.l0 K0 K2 (d + 1) (some ⟨b, 0, none⟩) v (i : Int) h
  | 0, i, hi, he => by
    unfold straitref13_Row_Label.l0 straitref13_Row_Label.b0
    try simp -zeta (disch := omega) only [chkP_some, iteB_true, iteB_false, add_mk, Nat.zero_add, Nat.add_zero, Nat.mul_one, Nat.reduceAdd, Int.toNat_natCast, ex_int, ex_slice, ex_ptr, ex_bool, ex_str, ex_flt, ex_any, bnd_in, List.getElem?_cons_zero, List.getElem?_cons_succ, List.set_cons_zero, List.set_cons_succ, List.cons_append, List.nil_append, bne_self_eq_false, beq_self_eq_true, Bool.not_true, Bool.not_false, Option.isNone_some, Option.isNone_none, eq_self, true_and, and_true, and_self, s.rd0]
    refine iteB_neg (decide_eq_false (by omega)) (hk2 ?_)
    rw [he, List.drop_eq_nil_of_le (by omega)]; rfl
  | d + 1, i, hi, he => by
    unfold straitref13_Row_Label.l0 straitref13_Row_Label.b0
    obtain ⟨x, hx⟩ := get_lt (l := q) (i := i) (by omega)
    try simp -zeta (disch := omega) only [chkP_some, iteB_true, iteB_false, add_mk, Nat.zero_add, Nat.add_zero, Nat.mul_one, Nat.reduceAdd, Int.toNat_natCast, ex_int, ex_slice, ex_ptr, ex_bool, ex_str, ex_flt, ex_any, bnd_in, List.getElem?_cons_zero, List.getElem?_cons_succ, List.set_cons_zero, List.set_cons_succ, List.cons_append, List.nil_append, bne_self_eq_false, beq_self_eq_true, Bool.not_true, Bool.not_false, Option.isNone_some, Option.isNone_none, eq_self, true_and, and_true, and_self, s.rd0, vals_int v1 (vq_get hx), vals_int v2 (lq_get hx)]
    refine iteB_pos (decide_eq_true (by omega)) ?_
    rw [drop_cons hx, show labelQ (x :: q.drop (i + 1)) v = if (x.1 : Int) = v then (x.2 : Int) else labelQ (q.drop (i + 1)) v from rfl] at he
    refine iteB_intro (fun c => ?_) (fun c => ?_)
    · have c : (x.1 : Int) = v := by simpa using c
      rw [if_pos c] at he
      have := hk0 (by rw [he]; omega)
      rw [he] at this; exact this
    · have c : ¬ (x.1 : Int) = v := by simpa using c
      rw [if_neg c] at he
      rw [wrap64 (by omega) (by omega)]
      exact rLabel_l0 hlen s v1 v2 hk0 hk2 d (i + 1) (by omega) he

theorem rLabel_of {v : Int} {K : Int → Heap → Prop} (hlen : q.length ≤ 4096) (r : RRow n q b X) (s : St h0 h (X ++ R)) (hk : K (labelQ q v) h) : straitref13_Row_Label (some ⟨b, 0, none⟩) v h K := by
  unfold straitref13_Row_Label
  obtain ⟨qV, cV, XV, qL, cL, XL, o1, o2, v1, v2, s, _⟩ := r.open s
  exact ⟨q.length + 1, rLabel_l0 hlen s v1 v2 (fun _ => hk) (fun e => by rw [e] at hk; exact hk) q.length 0 (by omega) rfl⟩

theorem rCount_l0 {K2 : Int → Heap → Prop} {l : Int} {qV qL : Option Addr} {cV cL : Nat} {R : Rws} (hlen : q.length ≤ 4096) (s : St h0 h ((b, [.int .i64 n, .slice qV q.length cV, .slice qL q.length cL]) :: R))
    (v2 : valsAt h qL (lq q)) (hk2 : K2 ((q.filter fun x => (x.2 : Int) == l).length : Int) h) :
    ∀ (d i : Nat), i + d = q.length → straitref13_Row_Count.l0 K2 (d + 1) (some ⟨b, 0, none⟩) l (((q.take i).filter fun x => (x.2 : Int) == l).length : Int) (i : Int) h
  | 0, i, hi => by
    unfold straitref13_Row_Count.l0 straitref13_Row_Count.b0
    try simp -zeta (disch := omega) only [chkP_some, iteB_true, iteB_false, add_mk, Nat.zero_add, Nat.add_zero, Nat.mul_one, Nat.reduceAdd, Int.toNat_natCast, ex_int, ex_slice, ex_ptr, ex_bool, ex_str, ex_flt, ex_any, bnd_in, List.getElem?_cons_zero, List.getElem?_cons_succ, List.set_cons_zero, List.set_cons_succ, List.cons_append, List.nil_append, bne_self_eq_false, beq_self_eq_true, Bool.not_true, Bool.not_false, Option.isNone_some, Option.isNone_none, eq_self, true_and, and_true, and_self, s.rd0]
    refine iteB_neg (decide_eq_false (by omega)) ?_
    rw [List.take_of_length_le (by omega)]; exact hk2
  | d + 1, i, hi => by
    unfold straitref13_Row_Count.l0 straitref13_Row_Count.b0
    obtain ⟨x, hx⟩ := get_lt (l := q) (i := i) (by omega)
    have ht := take_snoc hx
    have hl1 : ((q.take i).filter fun x => (x.2 : Int) == l).length ≤ 4096 := by
      have := List.length_filter_le (fun x : Nat × Nat => (x.2 : Int) == l) (q.take i)
      rw [List.length_take] at this; omega
    try simp -zeta (disch := omega) only [chkP_some, iteB_true, iteB_false, add_mk, Nat.zero_add, Nat.add_zero, Nat.mul_one, Nat.reduceAdd, Int.toNat_natCast, ex_int, ex_slice, ex_ptr, ex_bool, ex_str, ex_flt, ex_any, bnd_in, List.getElem?_cons_zero, List.getElem?_cons_succ, List.set_cons_zero, List.set_cons_succ, List.cons_append, List.nil_append, bne_self_eq_false, beq_self_eq_true, Bool.not_true, Bool.not_false, Option.isNone_some, Option.isNone_none, eq_self, true_and, and_true, and_self, s.rd0, vals_int v2 (lq_get hx)]
    refine iteB_pos (decide_eq_true (by omega)) ?_
    have := rCount_l0 hlen s v2 hk2 d (i + 1) (by omega)
    rw [ht, List.filter_append] at this
    rw [wrap64 (x := (i : Int) + 1) (by omega) (by omega)]
    refine iteB_intro (fun c => ?_) (fun c => ?_)
    · rw [wrap64 (by omega) (by omega)]
      simpa [c] using this
    · simpa [c] using this

theorem rCount_of {l : Int} {K : Int → Heap → Prop} (hlen : q.length ≤ 4096) (r : RRow n q b X) (s : St h0 h (X ++ R)) (hk : K ((q.filter fun x => (x.2 : Int) == l).length : Int) h) : straitref13_Row_Count (some ⟨b, 0, none⟩) l h K := by
  unfold straitref13_Row_Count
  obtain ⟨qV, cV, XV, qL, cL, XL, o1, o2, v1, v2, s, _⟩ := r.open s
  exact ⟨q.length + 1, rCount_l0 hlen s v2 hk q.length 0 (by omega)⟩

/-- What the document's loop has found. -/
def bestO (o : Int × Int × Bool) : Bq → Int × Int × Bool
  | [] => o
  | x :: r => bestO (if !o.2.2 || decide ((x.2 : Int) > o.2.1) then ((x.1 : Int), (x.2 : Int), true) else o) r
theorem bestO_some (r : Bq) : ∀ b : Nat × Nat, bestO ((b.1 : Int), (b.2 : Int), true) r = (((best b r).1 : Int), ((best b r).2 : Int), true) := by
  induction r with
  | nil => intro b; rfl
  | cons x r ih =>
    intro b
    unfold bestO best
    by_cases c : x.2 > b.2
    · rw [if_pos c, ← ih x]; simp [c]
    · rw [if_neg c, ← ih b]; simp [c]
theorem bestO_top (q : Bq) : bestO (0, 0, false) q = topQ q := by
  cases q with
  | nil => rfl
  | cons x r => unfold bestO topQ; exact bestO_some r x

theorem rHigh_l0 {K2 : Heap → Prop} {qV qL : Option Addr} {cV cL f1 f2 : Nat} {R : Rws} (hlen : q.length ≤ 4096)
    (hv : ∀ h A, St h0 h (A :: (b, [.int .i64 n, .slice qV q.length cV, .slice qL q.length cL]) :: R) → valsAt h qV (vq q) ∧ valsAt h qL (lq q))
    (hk2 : ∀ h', St h0 h' ((f2, [.int .i64 (topQ q).1, .int .i64 (topQ q).2.1, .bool (topQ q).2.2]) :: (b, [.int .i64 n, .slice qV q.length cV, .slice qL q.length cL]) :: R) → K2 h') :
    ∀ (d i : Nat) (h : Heap) (o : Int × Int × Bool), i + d = q.length → St h0 h ((f2, [.int .i64 o.1, .int .i64 o.2.1, .bool o.2.2]) :: (b, [.int .i64 n, .slice qV q.length cV, .slice qL q.length cL]) :: R) → topQ q = bestO o (q.drop i) →
      straitref13_Row_Highest.l0 K2 (d + 1) (some ⟨b, 0, none⟩) ⟨f1, 0, none⟩ ⟨f2, 0, none⟩ (i : Int) h
  | 0, i, h, o, hi, s, he => by
    unfold straitref13_Row_Highest.l0 straitref13_Row_Highest.b0
    try simp -zeta (disch := omega) only [chkP_some, iteB_true, iteB_false, add_mk, Nat.zero_add, Nat.add_zero, Nat.mul_one, Nat.reduceAdd, Int.toNat_natCast, ex_int, ex_slice, ex_ptr, ex_bool, ex_str, ex_flt, ex_any, bnd_in, List.getElem?_cons_zero, List.getElem?_cons_succ, List.set_cons_zero, List.set_cons_succ, List.cons_append, List.nil_append, bne_self_eq_false, beq_self_eq_true, Bool.not_true, Bool.not_false, Option.isNone_some, Option.isNone_none, eq_self, true_and, and_true, and_self, s.rd0, s.rd1]
    refine iteB_neg (decide_eq_false (by omega)) (hk2 _ ?_)
    rw [he, List.drop_eq_nil_of_le (by omega)]; exact s
  | d + 1, i, h, o, hi, s, he => by
    unfold straitref13_Row_Highest.l0 straitref13_Row_Highest.b0
    obtain ⟨x, hx⟩ := get_lt (l := q) (i := i) (by omega)
    obtain ⟨v1, v2⟩ := hv h _ s
    rw [drop_cons hx] at he
    unfold bestO at he
    try simp -zeta (disch := omega) only [chkP_some, iteB_true, iteB_false, add_mk, Nat.zero_add, Nat.add_zero, Nat.mul_one, Nat.reduceAdd, Int.toNat_natCast, ex_int, ex_slice, ex_ptr, ex_bool, ex_str, ex_flt, ex_any, bnd_in, List.getElem?_cons_zero, List.getElem?_cons_succ, List.set_cons_zero, List.set_cons_succ, List.cons_append, List.nil_append, bne_self_eq_false, beq_self_eq_true, Bool.not_true, Bool.not_false, Option.isNone_some, Option.isNone_none, eq_self, true_and, and_true, and_self, s.rd0, s.rd1, vals_int v1 (vq_get hx), vals_int v2 (lq_get hx)]
    refine iteB_pos (decide_eq_true (by omega)) ?_
    intro j
    have J : ∀ c, (c = (!o.2.2 || decide ((x.2 : Int) > o.2.1))) → j c := by
      rintro c hc
      rw [← hc] at he
      simp -zeta only [j]
      rw [wrap64 (by omega) (by omega)]
      refine iteB_intro (fun e => ?_) (fun e => ?_)
      · rw [e, if_pos rfl] at he
        refine s.st0 (by simp) fun h1 s => s.st0 (by simp) fun h2 s => s.st0 (by simp) fun h3 s => ?_
        exact rHigh_l0 hlen hv hk2 d (i + 1) h3 ((x.1 : Int), (x.2 : Int), true) (by omega) s he
      · rw [e, if_neg (by simp)] at he
        exact rHigh_l0 hlen hv hk2 d (i + 1) h _ (by omega) s he
    refine iteB_intro (fun e => J _ (by rw [e]; rfl)) (fun e => J _ (by rw [e]; rfl))

theorem rHigh_of {K : Int → Int → Bool → Heap → Prop} (hlen : q.length ≤ 4096) (r : RRow n q b X) (s : St h0 h (X ++ R)) (hk : ∀ h', St h0 h' (X ++ R) → K (topQ q).1 (topQ q).2.1 (topQ q).2.2 h') : straitref13_Row_Highest (some ⟨b, 0, none⟩) h K := by
  unfold straitref13_Row_Highest
  obtain ⟨qV, cV, XV, qL, cL, XL, o1, o2, v1, v2, t, rfl⟩ := r.open s
  refine t.new_ fun f1 h1 s => s.new_ fun f2 h2 s => ?_
  have s := s.pull1.pull2.pull2
  refine ⟨q.length + 1, rHigh_l0 (h0 := h0) (n := n) (qV := qV) (qL := qL) (cV := cV) (cL := cL) (q := q) (f1 := f1) (R := (f1, [.int .i64 0, .int .i64 0, .bool false]) :: (XV ++ (XL ++ R))) hlen (fun h A s => ?_) (fun h' s => ?_) q.length 0 h2 (0, 0, false) (by omega) s (bestO_top q).symm⟩
  · exact ⟨o1.vals s.tail.tail.tail, o2.vals s.tail.tail.tail.flip⟩
  · try simp -zeta (disch := omega) only [chkP_some, iteB_true, iteB_false, add_mk, Nat.zero_add, Nat.add_zero, Nat.mul_one, Nat.reduceAdd, Int.toNat_natCast, ex_int, ex_slice, ex_ptr, ex_bool, ex_str, ex_flt, ex_any, bnd_in, List.getElem?_cons_zero, List.getElem?_cons_succ, List.set_cons_zero, List.set_cons_succ, List.cons_append, List.nil_append, bne_self_eq_false, beq_self_eq_true, Bool.not_true, Bool.not_false, Option.isNone_some, Option.isNone_none, eq_self, true_and, and_true, and_self, s.rd0, s.rd1, s.rd2]
    refine s.st2 (by simp) fun h3 s => s.st2 (by simp) fun h4 s => s.st2 (by simp) fun h5 s => ?_
    try simp -zeta (disch := omega) only [chkP_some, iteB_true, iteB_false, add_mk, Nat.zero_add, Nat.add_zero, Nat.mul_one, Nat.reduceAdd, Int.toNat_natCast, ex_int, ex_slice, ex_ptr, ex_bool, ex_str, ex_flt, ex_any, bnd_in, List.getElem?_cons_zero, List.getElem?_cons_succ, List.set_cons_zero, List.set_cons_succ, List.cons_append, List.nil_append, bne_self_eq_false, beq_self_eq_true, Bool.not_true, Bool.not_false, Option.isNone_some, Option.isNone_none, eq_self, true_and, and_true, and_self, s.rd0, s.rd1, s.rd2]
    refine hk _ ?_
    simpa using s.tail.pull1.tail
end

/-! ### Sets as the document has them -/
def bools (n : Nat) (f : Nat → Bool) : List Value := tab 1 n fun i _ => .bool (f i)
theorem bools_length (n : Nat) (f : Nat → Bool) : (bools n f).length = n := by rw [bools, tab_length]; omega
theorem bools_get {n i : Nat} {f : Nat → Bool} (h : i < n) : (bools n f)[i]? = some (.bool (f i)) := by
  have := tab_get (w := 1) (f := fun i _ => Value.bool (f i)) h (show 0 < 1 by omega); rw [Nat.mul_one, Nat.add_zero] at this; exact this
theorem bools_set {n i : Nat} {f : Nat → Bool} {x : Bool} : (bools n f).set i (.bool x) = bools n (upd f i x) := by
  have := tab_set (w := 1) (n := n) (f := fun i _ => Value.bool (f i)) (i := i) (v := .bool x) (show 0 < 1 by omega); rw [Nat.mul_one, Nat.add_zero] at this
  unfold bools; rw [this]; apply tab_congr
  intro a o ha ho
  have : o = 0 := by omega
  subst this; unfold upd; by_cases e : a = i <;> simp [e]
theorem bools_zero (n : Nat) : zeroRow [.bool false] n = bools n fun _ => false := by
  rw [zeroRow_tab]; apply tab_congr; intro i o _ ho
  have : o = 0 := by simp at ho; omega
  subst this; rfl

theorem sNew_of {h0 h : Heap} {R : Rws} {n : Int} {K : Int → Option Addr → Nat → Nat → Heap → Prop} (s : St h0 h R)
    (hk : ∀ b h', St h0 h' ((b, bools (room n) fun _ => false) :: R) → K (room n) (some ⟨b, 0, none⟩) (room n) (room n) h') : straitref09_New n h K := by
  unfold straitref09_New
  have hr := room_le n
  refine s.new_ fun b1 h1 s => qcallP1.of _ (fun R hR => Room_of hR) (qcallP1.of _ (fun R hR => Room_of hR) ⟨⟨by omega, by omega, by omega, by omega⟩, ?_⟩)
  refine s.new_ fun b2 h2 s => ?_
  have s := s.pull1
  try simp -zeta (disch := omega) only [chkP_some, iteB_true, iteB_false, add_mk, Nat.zero_add, Nat.add_zero, Nat.mul_one, Nat.reduceAdd, Int.toNat_natCast, ex_int, ex_slice, ex_ptr, ex_bool, ex_str, ex_flt, ex_any, bnd_in, List.getElem?_cons_zero, List.getElem?_cons_succ, List.set_cons_zero, List.set_cons_succ, List.cons_append, List.nil_append, bne_self_eq_false, beq_self_eq_true, Bool.not_true, Bool.not_false, Option.isNone_some, Option.isNone_none, eq_self, true_and, and_true, and_self, s.rd0]
  refine s.st0 (by simp) fun h3 s => s.st0 (by simp) fun h4 s => ?_
  try simp -zeta (disch := omega) only [chkP_some, iteB_true, iteB_false, add_mk, Nat.zero_add, Nat.add_zero, Nat.mul_one, Nat.reduceAdd, Int.toNat_natCast, ex_int, ex_slice, ex_ptr, ex_bool, ex_str, ex_flt, ex_any, bnd_in, List.getElem?_cons_zero, List.getElem?_cons_succ, List.set_cons_zero, List.set_cons_succ, List.cons_append, List.nil_append, bne_self_eq_false, beq_self_eq_true, Bool.not_true, Bool.not_false, Option.isNone_some, Option.isNone_none, eq_self, true_and, and_true, and_self, s.rd0]
  rw [bools_zero] at s
  exact hk _ _ s.tail

theorem sList_l0 {h0 : Heap} {b t n : Nat} {f : Nat → Bool} {R : Rws} {K2 : Option Addr → Nat → Nat → Heap → Prop} (hn : n ≤ 4096)
    (hk : ∀ p c X h', Own p c (((List.range n).filter f).map fun v : Nat => Value.int .i64 v) X → St h0 h' (X ++ (b, [.int .i64 n, .slice (some ⟨t, 0, none⟩) n n]) :: (t, bools n f) :: R) → K2 p ((List.range n).filter f).length c h') :
    ∀ (d i : Nat) (h : Heap) (p : Option Addr) (c : Nat) (X : Rws), i + d = n → Own p c (((List.range i).filter f).map fun v : Nat => Value.int .i64 v) X → St h0 h (X ++ (b, [.int .i64 n, .slice (some ⟨t, 0, none⟩) n n]) :: (t, bools n f) :: R) →
      straitref09_Set_List.l0 K2 (d + 1) ⟨b, 0, none⟩ p ((List.range i).filter f).length c (i : Int) h
  | 0, i, h, p, c, X, hi, o, s => by
    unfold straitref09_Set_List.l0 straitref09_Set_List.b0
    have s' := s.drop
    try simp -zeta (disch := omega) only [chkP_some, iteB_true, iteB_false, add_mk, Nat.zero_add, Nat.add_zero, Nat.mul_one, Nat.reduceAdd, Int.toNat_natCast, ex_int, ex_slice, ex_ptr, ex_bool, ex_str, ex_flt, ex_any, bnd_in, List.getElem?_cons_zero, List.getElem?_cons_succ, List.set_cons_zero, List.set_cons_succ, List.cons_append, List.nil_append, bne_self_eq_false, beq_self_eq_true, Bool.not_true, Bool.not_false, Option.isNone_some, Option.isNone_none, eq_self, true_and, and_true, and_self, s'.rd0, s'.rd1]
    have : i = n := by omega
    subst this
    exact iteB_neg (decide_eq_false (by omega)) (hk _ _ _ _ o s)
  | d + 1, i, h, p, c, X, hi, o, s => by
    unfold straitref09_Set_List.l0 straitref09_Set_List.b0
    have s' := s.drop
    try simp -zeta (disch := omega) only [chkP_some, iteB_true, iteB_false, add_mk, Nat.zero_add, Nat.add_zero, Nat.mul_one, Nat.reduceAdd, Int.toNat_natCast, ex_int, ex_slice, ex_ptr, ex_bool, ex_str, ex_flt, ex_any, bnd_in, List.getElem?_cons_zero, List.getElem?_cons_succ, List.set_cons_zero, List.set_cons_succ, List.cons_append, List.nil_append, bne_self_eq_false, beq_self_eq_true, Bool.not_true, Bool.not_false, Option.isNone_some, Option.isNone_none, eq_self, true_and, and_true, and_self, s'.rd0, s'.rd1, bools_get]
    refine iteB_pos (decide_eq_true (by omega)) ?_
    have hlen : ((List.range i).filter f).length ≤ i := by
      have := List.length_filter_le f (List.range i); simpa using this
    rw [wrap64 (by omega) (by omega)]
    refine iteB_intro (fun c1 => ?_) (fun c1 => ?_)
    · have hr : (List.range (i + 1)).filter f = (List.range i).filter f ++ [i] := by rw [List.range_succ, List.filter_append]; simp [c1]
      refine Own.push1 o s (by simp) rfl (by simp only [List.length_map]; omega) fun q' c' X' h' o' s' => ?_
      have := sList_l0 hn hk d (i + 1) h' q' c' X' (by omega) (by rw [hr]; simpa using o') s'
      rw [hr] at this
      simpa using this
    · have hr : (List.range (i + 1)).filter f = (List.range i).filter f := by rw [List.range_succ, List.filter_append]; simp [c1]
      have := sList_l0 hn hk d (i + 1) h p c X (by omega) (by rw [hr]; exact o) s
      rw [hr] at this
      exact this

theorem sList_of {h0 h : Heap} {t n : Nat} {f : Nat → Bool} {R : Rws} {K : Option Addr → Nat → Nat → Heap → Prop} (hn : n ≤ 4096) (s : St h0 h ((t, bools n f) :: R))
    (hk : ∀ p c X h', Own p c (((List.range n).filter f).map fun v : Nat => Value.int .i64 v) X → St h0 h' (X ++ (t, bools n f) :: R) → K p ((List.range n).filter f).length c h') : straitref09_Set_List n (some ⟨t, 0, none⟩) n n h K := by
  unfold straitref09_Set_List
  refine s.new_ fun b h1 s => ⟨n + 1, sList_l0 hn (fun p c X h' o s => hk p c X h' o (St.cut (B := [_]) s)) n 0 h1 none 0 [] (by omega) (by simpa using Own.nil) s⟩

theorem ints_l0 {h : Heap} {K0 : Bool → Heap → Prop} {K2 : Heap → Prop} {p1 p2 : Option Addr} {c1 c2 n : Nat} {l1 l2 : List Int} (v1 : valsAt h p1 (l1.map (Value.int .i64))) (v2 : valsAt h p2 (l2.map (Value.int .i64))) (h1 : l1.length = n) (h2 : l2.length = n) (hn : n < 9223372036854775807)
    (hk0 : l1 ≠ l2 → K0 false h) (hk2 : l1 = l2 → K2 h) :
    ∀ (d i : Nat), i + d = n → l1.take i = l2.take i → straitref09_Ints.l0 K0 K2 (d + 1) p1 n c1 p2 n c2 (i : Int) h
  | 0, i, hi, he => by
    unfold straitref09_Ints.l0 straitref09_Ints.b0
    refine iteB_neg (decide_eq_false (by omega)) (hk2 ?_)
    rwa [List.take_of_length_le (by omega), List.take_of_length_le (by omega)] at he
  | d + 1, i, hi, he => by
    unfold straitref09_Ints.l0 straitref09_Ints.b0
    obtain ⟨x, hx⟩ := get_lt (l := l1) (i := i) (by omega)
    obtain ⟨y, hy⟩ := get_lt (l := l2) (i := i) (by omega)
    refine iteB_pos (decide_eq_true (by omega)) ?_
    simp -zeta (disch := omega) only [chkP_some, iteB_true, iteB_false, add_mk, Nat.zero_add, Nat.add_zero, Nat.mul_one, Nat.reduceAdd, Int.toNat_natCast, ex_int, ex_slice, ex_ptr, ex_bool, ex_str, ex_flt, ex_any, bnd_in, List.getElem?_cons_zero, List.getElem?_cons_succ, List.set_cons_zero, List.set_cons_succ, List.cons_append, List.nil_append, bne_self_eq_false, beq_self_eq_true, Bool.not_true, Bool.not_false, Option.isNone_some, Option.isNone_none, eq_self, true_and, and_true, and_self, vals_int v1 (show (l1.map (Value.int .i64))[i]? = some (.int .i64 x) by simp [hx]), vals_int v2 (show (l2.map (Value.int .i64))[i]? = some (.int .i64 y) by simp [hy])]
    refine iteB_intro (fun c => hk0 ?_) (fun c => ?_)
    · rintro rfl; rw [hx] at hy; cases hy; simp at c
    · have c : x = y := by simpa using c
      rw [wrap64 (by omega) (by omega)]
      refine ints_l0 v1 v2 h1 h2 hn hk0 hk2 d (i + 1) (by omega) ?_
      rw [take_snoc hx, take_snoc hy, he, c]

theorem Ints_of {h : Heap} {K : Bool → Heap → Prop} {p1 p2 : Option Addr} {c1 c2 n1 n2 : Nat} {l1 l2 : List Int} (v1 : valsAt h p1 (l1.map (Value.int .i64))) (v2 : valsAt h p2 (l2.map (Value.int .i64))) (h1 : n1 = l1.length) (h2 : n2 = l2.length) (hn : n1 < 9223372036854775807)
    (hk : K (decide (l1 = l2)) h) : straitref09_Ints p1 n1 c1 p2 n2 c2 h K := by
  unfold straitref09_Ints
  subst h1 h2
  by_cases e : l1.length = l2.length
  · refine iteB_neg (by simp; omega) ⟨l1.length + 1, ?_⟩
    rw [← e]
    refine ints_l0 v1 v2 rfl e.symm hn (fun hne => ?_) (fun he => ?_) l1.length 0 (by omega) rfl
    · rw [decide_eq_false hne] at hk; exact hk
    · rw [decide_eq_true he] at hk; exact hk
  · refine iteB_pos (by simp; omega) ?_
    rw [decide_eq_false (fun h => e (by rw [h]))] at hk; exact hk
end Go.Proofs.Ythcbigbgfekmdaa
