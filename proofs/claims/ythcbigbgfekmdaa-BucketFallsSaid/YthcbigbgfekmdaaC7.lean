/-
  Rows of buckets: the laws.
-/
import Derived.Test.YthcbigbgfekmdaaC6
import Derived.Test.YthcbigbgfekmdaaRd
namespace Go.Proofs.Ythcbigbgfekmdaa
set_option linter.unusedVariables false
set_option linter.unusedSimpArgs false
open Go.Hp Go.RowKit
attribute [local irreducible] Go.Hp.iteB

def without (q : Bq) (v : Int) : Bq := q.filter fun x => (x.1 : Int) != v

section
variable {h0 h : Heap} {z : BS} {a : BA} {q : Bq} {R : Rws} {K : Bool → Heap → Prop}
theorem putI_of {v l : Int} (iv : Inv z q) (s : St h0 h (z.rows a ++ R)) (hk0 : ¬ (0 ≤ v ∧ v < z.n ∧ 0 ≤ l ∧ l < (2 * z.n + 1 : Nat)) → K false h)
    (hk1 : ∀ h' z' (i k : Nat), v = i → l = k → i < z.n → k < 2 * z.n + 1 → Inv z' ((i, k) :: without q v) → z'.n = z.n → St h0 h' (z'.rows a ++ R) → K true h') : bucket_Row_Put (some ⟨a.b, 0, none⟩) v l h K := by
  obtain ⟨iv2, hn2, _⟩ := iv.dropIf v
  refine put_of iv.OK iv2.OK hn2 s hk0 fun h' i k hv hl hi hkk s => ?_
  refine hk1 h' _ i k hv hl hi hkk (iv2.put (by omega) (by omega) ?_) (by rw [put_n, hn2]) s
  subst hv
  intro hm
  obtain ⟨x, hx, hxi⟩ := List.mem_map.1 hm
  have := (List.mem_filter.1 hx).2
  simp at this; omega
theorem dropI_of {v : Int} (iv : Inv z q) (s : St h0 h (z.rows a ++ R)) (hk : ∀ h' z', Inv z' (without q v) → z'.n = z.n → St h0 h' (z'.rows a ++ R) → K (decide ((without q v).length < q.length)) h') : bucket_Row_Drop (some ⟨a.b, 0, none⟩) v h K := by
  obtain ⟨iv2, hn2, hin⟩ := iv.dropIf v
  refine drop_of iv.OK s fun h' s => ?_
  rw [hin]
  exact hk h' _ iv2 hn2 s
end

theorem awake_of {h0 h : Heap} {R : Rws} {K : Bool → Heap → Prop} (s : St h0 h R) (hk : ∀ h', St h0 h' R → K true h') : straitlaw13_awake h K := by
  unfold straitlaw13_awake
  refine callP1.self (New_of s fun a h1 s => ?_)
  intro j
  have r3 : room 3 = 3 := by decide
  rw [r3] at s
  have iv0 := Inv.none (n := 3) (by omega)
  refine iteB_neg rfl (callP1.self (putI_of iv0 s (fun c => absurd (by decide) c) fun h2 z1 i k hi hkk _ _ iv1 hn1 s => ?_))
  obtain rfl : i = 0 := by omega
  obtain rfl : k = 3 := by omega
  refine iteB_neg rfl (callP1.self (putI_of iv1 s (fun c => absurd (by rw [hn1]; decide) c) fun h3 z2 i k hi hkk _ _ iv2 hn2 s => ?_))
  obtain rfl : i = 1 := by omega
  obtain rfl : k = 3 := by omega
  refine iteB_neg rfl (callP1.self (putI_of iv2 s (fun c => absurd (by rw [hn2, hn1]; decide) c) fun h4 z3 i k hi hkk _ _ iv3 hn3 s => ?_))
  obtain rfl : i = 2 := by omega
  obtain rfl : k = 1 := by omega
  refine iteB_neg rfl ?_
  simp -zeta only [j]
  clear j
  refine callP3.self (Highest_of iv3 s fun h5 z4 hn4 iv4 s => ?_)
  have e1 : topQ ((2, 1) :: without ((1, 3) :: without ((0, 3) :: without [] 0) 1) 2) = ((1 : Int), (3 : Int), true) := by decide
  rw [e1]
  refine iteB_pos rfl (iteB_pos rfl (iteB_pos rfl (qcallP1.of _ (fun R hR => Count_of iv4 s hR) (iteB_pos (by decide) (callP1.self (dropI_of iv4 s fun h6 z5 iv5 hn5 s => ?_))))))
  refine iteB_pos (by decide) (callP1.self (Label_of iv5 s fun h7 s => ?_))
  have e2 : (labelQ (without ((2, 1) :: without ((1, 3) :: without ((0, 3) :: without [] 0) 1) 2) 1) 1 == (-1 : Int)) = true := by decide
  rw [e2]
  exact hk _ s.drop

/-! ### Any calls -/
def opsV (ops : List (Int × Int × Int)) : List (List Value) := ops.map fun o => [.int .i64 o.1, .int .i64 o.2.1, .int .i64 o.2.2]

theorem filter_le (q : Bq) (v : Int) : (without q v).length ≤ q.length := List.length_filter_le _ q

theorem plays_l0 {h0 : Heap} {a : BA} {b n len cap : Nat} {p : Option Addr} {ops : List (Int × Int × Int)} {K0 : Bool → Heap → Prop} {K2 : Heap → Prop} (hl : ops.length = len) (hlen : len ≤ 200) (hv : rowsAt h0 p 3 (opsV ops))
    (hk : ∀ h' z q X, z.n = n → Inv z q → RRow z.n q b X → St h0 h' (z.rows a ++ (X ++ [])) → K2 h') :
    ∀ (d i : Nat) (h : Heap) (z : BS) (q : Bq) (X R : Rws), i + d = len → z.n = n → Inv z q → RRow z.n q b X → St h0 h (z.rows a ++ (X ++ R)) → straitlaw13_BucketPlays.l0 K0 K2 (d + 1) p len cap (some ⟨a.b, 0, none⟩) (some ⟨b, 0, none⟩) (i : Int) h
  | 0, i, h, z, q, X, R, hi, hn, iv, r, s => by
    unfold straitlaw13_BucketPlays.l0 straitlaw13_BucketPlays.b0
    refine iteB_neg (decide_eq_false (by omega)) (hk h z q X hn iv r ?_)
    have s : St h0 h ((z.rows a ++ X) ++ R) := by simpa using s
    simpa using s.keep
  | d + 1, i, h, z, q, X, R, hi, hn, iv, r, s => by
    unfold straitlaw13_BucketPlays.l0 straitlaw13_BucketPlays.b0
    obtain ⟨o, ho⟩ := get_lt (l := ops) (i := i) (by omega)
    obtain ⟨pa, rfl, hp⟩ := hv i [.int .i64 o.1, .int .i64 o.2.1, .int .i64 o.2.2] (by simp [opsV, ho])
    have hp0 : cell h (pa.add (i * 3)) = some (.int .i64 o.1) := by have := s.ext.cell' (hp 0 _ rfl); simpa using this
    have hp1 := s.ext.cell' (hp 1 (.int .i64 o.2.1) rfl)
    have hp2 := s.ext.cell' (hp 2 (.int .i64 o.2.2) rfl)
    have hqn : q.length ≤ 4096 := by have := iv.len; have := iv.n; omega
    refine iteB_pos (decide_eq_true (by omega)) ?_
    intro j
    have J : ∀ h' z' q' X' R', z'.n = n → Inv z' q' → RRow z'.n q' b X' → St h0 h' (z'.rows a ++ (X' ++ R')) → j h' := by
      intro h' z' q' X' R' hn' iv' r' s'
      simp -zeta only [j]
      rw [wrap64 (by omega) (by omega)]
      exact plays_l0 hl hlen hv hk d (i + 1) h' z' q' X' R' (by omega) hn' iv' r' s'
    obtain ⟨k, v, l⟩ := o
    simp only at hp0 hp1 hp2
    simp -zeta (disch := omega) only [chkP_some, iteB_true, iteB_false, add_mk, Nat.zero_add, Nat.add_zero, Nat.mul_one, Nat.reduceAdd, Int.toNat_natCast, ex_int, ex_slice, ex_ptr, ex_bool, ex_str, ex_flt, ex_any, bnd_in, List.getElem?_cons_zero, List.getElem?_cons_succ, List.set_cons_zero, List.set_cons_succ, List.cons_append, List.nil_append, bne_self_eq_false, beq_self_eq_true, Bool.not_true, Bool.not_false, Option.isNone_some, Option.isNone_none, eq_self, true_and, and_true, and_self, Go.Deep.add_add, hp0, hp1, hp2]
    refine s.new_ fun f h2 s => ?_
    try simp -zeta (disch := omega) only [chkP_some, iteB_true, iteB_false, add_mk, Nat.zero_add, Nat.add_zero, Nat.mul_one, Nat.reduceAdd, Int.toNat_natCast, ex_int, ex_slice, ex_ptr, ex_bool, ex_str, ex_flt, ex_any, bnd_in, List.getElem?_cons_zero, List.getElem?_cons_succ, List.set_cons_zero, List.set_cons_succ, List.cons_append, List.nil_append, bne_self_eq_false, beq_self_eq_true, Bool.not_true, Bool.not_false, Option.isNone_some, Option.isNone_none, eq_self, true_and, and_true, and_self, s.rd0]
    refine s.st0 (by simp) fun h3 s => s.st0 (by simp) fun h4 s => s.st0 (by simp) fun h5 s => ?_
    try simp -zeta (disch := omega) only [chkP_some, iteB_true, iteB_false, add_mk, Nat.zero_add, Nat.add_zero, Nat.mul_one, Nat.reduceAdd, Int.toNat_natCast, ex_int, ex_slice, ex_ptr, ex_bool, ex_str, ex_flt, ex_any, bnd_in, List.getElem?_cons_zero, List.getElem?_cons_succ, List.set_cons_zero, List.set_cons_succ, List.cons_append, List.nil_append, bne_self_eq_false, beq_self_eq_true, Bool.not_true, Bool.not_false, Option.isNone_some, Option.isNone_none, eq_self, true_and, and_true, and_self, s.rd0]
    have s : St h0 h5 (z.rows a ++ (X ++ ((f, [.int .i64 k, .int .i64 v, .int .i64 l]) :: R))) := (St.re s (by intro a; simp only [cntR_append, cntR_cons, cntR_nil, List.cons_append, List.nil_append, List.set_cons_zero, List.set_cons_succ]; omega))
    generalize hF : (f, [Value.int .i64 k, Value.int .i64 v, Value.int .i64 l]) = fr at *
    -- what stands behind the calls
    have same_j : ∀ h' z' q' X' (K0' : Bool → Heap → Prop), z'.n = n → Inv z' q' → RRow z'.n q' b X' → St h0 h' (z'.rows a ++ (X' ++ (fr :: R))) →
        callP1 (straitlaw13_same (some ⟨a.b, 0, none⟩) (some ⟨b, 0, none⟩) v l h') fun x h'' => iteB (!x) (K0' false h'') (j h'') := by
      intro h' z' q' X' K0' hn' iv' r' s'
      refine callP1.self (same_of iv' r' s' fun h'' z'' hn'' iv'' s'' => ?_)
      refine iteB_neg rfl (J h'' z'' q' X' (fr :: R) (by rw [hn'', hn']) iv'' (by rw [hn'']; exact r') s'')
    have drop_j : ∀ h' z' q' X' (K0' : Bool → Heap → Prop) (K1 : Heap → Prop), q'.length ≤ 4096 → z'.n = n → Inv z' q' → RRow z'.n q' b X' → St h0 h' (z'.rows a ++ (X' ++ (fr :: R))) →
        (∀ h'' z'' q'' X'', z''.n = n → Inv z'' q'' → RRow z''.n q'' b X'' → St h0 h'' (z''.rows a ++ (X'' ++ (fr :: R))) → K1 h'') →
        callP1 (bucket_Row_Drop (some ⟨a.b, 0, none⟩) v h') fun x1 h1 => (∃ x, cell h1 ⟨f, 0 + 1, none⟩ = some (.int .i64 x) ∧ (.int .i64 x : Value) = .int .i64 v) ∧
          callP1 (straitref13_Row_Drop (some ⟨b, 0, none⟩) v h1) fun x2 h2 => iteB (!(x1 == x2)) (K0' false h2) (K1 h2) := by
      intro h' z' q' X' K0' K1 hq' hn' iv' r' s' hk1
      refine callP1.self (dropI_of iv' s' fun h1 z1 iv1 hn1 s1 => ⟨⟨v, ?_, rfl⟩, ?_⟩)
      · have : (f, [Value.int .i64 k, Value.int .i64 v, Value.int .i64 l]) ∈ z1.rows a ++ (X' ++ (fr :: R)) := by rw [hF]; simp
        rw [s1.rd this]; rfl
      · refine callP1.self (rDrop_of hq' r' s1.flip fun X'' h2 r2 s2 => iteB_neg (by unfold without; simp) ?_)
        exact hk1 h2 z1 _ X'' (by rw [hn1, hn']) iv1 (by rw [hn1]; exact r2) s2.flip
    have hcell : ∀ h' (L : Rws), fr ∈ L → St h0 h' L → ∀ o, cell h' ⟨f, o, none⟩ = [Value.int .i64 k, .int .i64 v, .int .i64 l][o]? := fun h' L hL s' o => by
      rw [← hF] at hL; exact s'.rd hL o
    refine iteB_intro (fun c => ?_) (fun c => ?_)
    · refine callP1.self (putI_of iv s (fun hno => ?_) fun h6 z1 i1 k1 hv1 hl1 hi1 hk1 iv1 hn1 s => ?_)
      · have hc := hcell _ _ (by simp) s
        try simp -zeta (disch := omega) only [chkP_some, iteB_true, iteB_false, add_mk, Nat.zero_add, Nat.add_zero, Nat.mul_one, Nat.reduceAdd, Int.toNat_natCast, ex_int, ex_slice, ex_ptr, ex_bool, ex_str, ex_flt, ex_any, bnd_in, List.getElem?_cons_zero, List.getElem?_cons_succ, List.set_cons_zero, List.set_cons_succ, List.cons_append, List.nil_append, bne_self_eq_false, beq_self_eq_true, Bool.not_true, Bool.not_false, Option.isNone_some, Option.isNone_none, eq_self, true_and, and_true, and_self, hc]
        refine callP1.self (rPut_of hqn iv.n r s.flip (fun _ => ?_) (fun X' h' i k e1 e2 h1 h2 => absurd (by subst e1 e2; omega) hno))
        refine iteB_neg rfl ?_
        try simp -zeta (disch := omega) only [chkP_some, iteB_true, iteB_false, add_mk, Nat.zero_add, Nat.add_zero, Nat.mul_one, Nat.reduceAdd, Int.toNat_natCast, ex_int, ex_slice, ex_ptr, ex_bool, ex_str, ex_flt, ex_any, bnd_in, List.getElem?_cons_zero, List.getElem?_cons_succ, List.set_cons_zero, List.set_cons_succ, List.cons_append, List.nil_append, bne_self_eq_false, beq_self_eq_true, Bool.not_true, Bool.not_false, Option.isNone_some, Option.isNone_none, eq_self, true_and, and_true, and_self, hc]
        have e : (k != (0 : Int)) = false := by simpa using c
        rw [e, iteB_false]
        exact same_j _ _ _ _ _ hn iv r s
      · have hc := hcell _ _ (by simp) s
        try simp -zeta (disch := omega) only [chkP_some, iteB_true, iteB_false, add_mk, Nat.zero_add, Nat.add_zero, Nat.mul_one, Nat.reduceAdd, Int.toNat_natCast, ex_int, ex_slice, ex_ptr, ex_bool, ex_str, ex_flt, ex_any, bnd_in, List.getElem?_cons_zero, List.getElem?_cons_succ, List.set_cons_zero, List.set_cons_succ, List.cons_append, List.nil_append, bne_self_eq_false, beq_self_eq_true, Bool.not_true, Bool.not_false, Option.isNone_some, Option.isNone_none, eq_self, true_and, and_true, and_self, hc]
        have r' : RRow z1.n q b X := by rw [hn1]; exact r
        refine callP1.self (rPut_of hqn iv1.n r' s.flip (fun hno => absurd (by subst hv1 hl1; omega) hno) fun X' h7 i2 k2 e1 e2 h1 h2 r2 s2 => ?_)
        obtain rfl : i2 = i1 := by omega
        obtain rfl : k2 = k1 := by omega
        have s2 := s2.flip
        have hc := hcell _ _ (by simp) s2
        refine iteB_neg rfl ?_
        try simp -zeta (disch := omega) only [chkP_some, iteB_true, iteB_false, add_mk, Nat.zero_add, Nat.add_zero, Nat.mul_one, Nat.reduceAdd, Int.toNat_natCast, ex_int, ex_slice, ex_ptr, ex_bool, ex_str, ex_flt, ex_any, bnd_in, List.getElem?_cons_zero, List.getElem?_cons_succ, List.set_cons_zero, List.set_cons_succ, List.cons_append, List.nil_append, bne_self_eq_false, beq_self_eq_true, Bool.not_true, Bool.not_false, Option.isNone_some, Option.isNone_none, eq_self, true_and, and_true, and_self, hc]
        have e : (k != (0 : Int)) = false := by simpa using c
        rw [e, iteB_false]
        exact same_j _ _ _ _ _ (by rw [hn1, hn]) iv1 r2 s2
    · have hc := hcell _ _ (by simp) s
      try simp -zeta (disch := omega) only [chkP_some, iteB_true, iteB_false, add_mk, Nat.zero_add, Nat.add_zero, Nat.mul_one, Nat.reduceAdd, Int.toNat_natCast, ex_int, ex_slice, ex_ptr, ex_bool, ex_str, ex_flt, ex_any, bnd_in, List.getElem?_cons_zero, List.getElem?_cons_succ, List.set_cons_zero, List.set_cons_succ, List.cons_append, List.nil_append, bne_self_eq_false, beq_self_eq_true, Bool.not_true, Bool.not_false, Option.isNone_some, Option.isNone_none, eq_self, true_and, and_true, and_self, hc]
      have e : (k != (0 : Int)) = true := by simpa using c
      rw [e, iteB_true]
      refine drop_j _ _ _ _ _ _ hqn hn iv r s fun h'' z'' q'' X'' hn'' iv'' r'' s'' => ?_
      have hc := hcell _ _ (by simp) s''
      try simp -zeta (disch := omega) only [chkP_some, iteB_true, iteB_false, add_mk, Nat.zero_add, Nat.add_zero, Nat.mul_one, Nat.reduceAdd, Int.toNat_natCast, ex_int, ex_slice, ex_ptr, ex_bool, ex_str, ex_flt, ex_any, bnd_in, List.getElem?_cons_zero, List.getElem?_cons_succ, List.set_cons_zero, List.set_cons_succ, List.cons_append, List.nil_append, bne_self_eq_false, beq_self_eq_true, Bool.not_true, Bool.not_false, Option.isNone_some, Option.isNone_none, eq_self, true_and, and_true, and_self, hc]
      exact same_j _ _ _ _ _ hn'' iv'' r'' s''

theorem Plays_of {h : Heap} {n : Int} {len cap : Nat} {p : Option Addr} {ops : List (Int × Int × Int)} {K : Bool → Heap → Prop} (hl : ops.length = len) (hv : rowsAt h p 3 (opsV ops)) (hk : ∀ h', Ext h h' → K true h') : straitlaw13_BucketPlays n p len cap h K := by
  unfold straitlaw13_BucketPlays
  refine iteB_intro (fun _ => callP1.self (awake_of (St.refl h) fun h' s => hk h' s.ext)) (fun c => ?_)
  have c := of_decide_eq_false c
  refine callP1.self (New_of (St.refl h) fun a h1 s => callP1.self (rNew_of s fun b X h2 r s => ⟨len + 1, ?_⟩))
  have iv := Inv.none (room_le n)
  refine plays_l0 (n := room n) hl (by omega) hv (fun h' z q X' hn iv r s => ?_) len 0 h2 (BS.none (room n)) [] X [] (by omega) rfl iv r (by simpa using s.flip)
  refine iteB_pos rfl (callP1.self (same_of iv r s fun h3 z3 _ iv3 s3 => iteB_pos rfl (callP1.self (awake_of s3 fun h4 s4 => hk h4 s4.ext))))
end Go.Proofs.Ythcbigbgfekmdaa
