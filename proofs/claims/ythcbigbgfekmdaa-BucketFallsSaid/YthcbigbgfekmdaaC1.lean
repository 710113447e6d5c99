/-
  Rows of buckets: what the program's own functions do, said of their rows.
-/
import Derived.Test.YthcbigbgfekmdaaWk
import Derived.Test.YthcbigbgfekmdaaG0
namespace Go.Proofs.Ythcbigbgfekmdaa
set_option linter.unusedVariables false
set_option linter.unusedSimpArgs false
open Go.Hp Go.RowKit
attribute [local irreducible] Go.Hp.iteB

/-- What a row of buckets holds. -/
structure BS where
  n : Nat
  L : Nat → Int
  P : Nat → Int
  N : Nat → Int
  F : Nat → Int
  C : Nat → Int
  hi : Int
  cnt : Int

/-- Where it lies. -/
structure BA where
  b : Nat
  s : Nat
  f : Nat
  c : Nat

def BS.rows (z : BS) (a : BA) : Rws := [(a.b, [.slice (some ⟨a.s, 0, none⟩) z.n z.n, .slice (some ⟨a.f, 0, none⟩) (2 * z.n + 1) (2 * z.n + 1), .slice (some ⟨a.c, 0, none⟩) (2 * z.n + 1) (2 * z.n + 1), .int .i64 z.hi, .int .i64 z.cnt]),
  (a.s, ints3 z.n z.L z.P z.N), (a.f, ints (2 * z.n + 1) z.F), (a.c, ints (2 * z.n + 1) z.C)]

def link (n : Nat) (x : Int) : Prop := x = -1 ∨ (0 ≤ x ∧ x < n)

structure BS.OK (z : BS) : Prop where
  n : z.n ≤ 4096
  on : ∀ i, i < z.n → z.L i ≠ -1 → (0 ≤ z.L i ∧ z.L i < (2 * z.n + 1 : Nat)) ∧ link z.n (z.P i) ∧ link z.n (z.N i)
  off : ∀ i, i < z.n → z.L i = -1 → z.P i = -1 ∧ z.N i = -1
  F : ∀ l, l < 2 * z.n + 1 → link z.n (z.F l)
  C : ∀ l, l < 2 * z.n + 1 → 0 ≤ z.C l ∧ z.C l ≤ 4096
  hi : 0 ≤ z.hi ∧ z.hi < (2 * z.n + 1 : Nat)
  cnt : 0 ≤ z.cnt ∧ z.cnt ≤ 4096

theorem empty_of {h0 h : Heap} {R : Rws} {K : Int → Int → Int → Heap → Prop} (s : St h0 h R) (hk : ∀ h', St h0 h' R → K (-1) (-1) (-1) h') : bucket_empty h K := by
  unfold bucket_empty
  refine s.new_ fun b h2 s => ?_
  try simp -zeta (disch := omega) only [chkP_some, iteB_true, iteB_false, add_mk, Nat.zero_add, Nat.add_zero, Nat.mul_one, Nat.reduceAdd, Int.toNat_natCast, ex_int, ex_slice, ex_ptr, ex_bool, ex_str, ex_flt, ex_any, bnd_in, List.getElem?_cons_zero, List.getElem?_cons_succ, List.set_cons_zero, List.set_cons_succ, List.cons_append, List.nil_append, bne_self_eq_false, beq_self_eq_true, Bool.not_true, Bool.not_false, Option.isNone_some, Option.isNone_none, eq_self, true_and, and_true, and_self, s.rd0]
  refine s.st0 (by simp) fun h3 s => s.st0 (by simp) fun h4 s => s.st0 (by simp) fun h5 s => ?_
  try simp -zeta (disch := omega) only [chkP_some, iteB_true, iteB_false, add_mk, Nat.zero_add, Nat.add_zero, Nat.mul_one, Nat.reduceAdd, Int.toNat_natCast, ex_int, ex_slice, ex_ptr, ex_bool, ex_str, ex_flt, ex_any, bnd_in, List.getElem?_cons_zero, List.getElem?_cons_succ, List.set_cons_zero, List.set_cons_succ, List.cons_append, List.nil_append, bne_self_eq_false, beq_self_eq_true, Bool.not_true, Bool.not_false, Option.isNone_some, Option.isNone_none, eq_self, true_and, and_true, and_self, s.rd0]
  exact hk _ s.tail

def BS.in_ (z : BS) (v : Int) : Bool := decide (0 ≤ v) && decide (v < z.n) && !(z.L v.toNat == -1)

theorem seated_of {h0 h : Heap} {z : BS} {a : BA} {R : Rws} {v : Int} {K : Bool → Heap → Prop} (ok : z.OK) (s : St h0 h (z.rows a ++ R)) (hk : ∀ h', St h0 h' (z.rows a ++ R) → K (z.in_ v) h') :
    bucket_Row_seated (some ⟨a.b, 0, none⟩) v h K := by
  unfold bucket_Row_seated
  try simp -zeta (disch := omega) only [chkP_some, iteB_true, iteB_false, add_mk, Nat.zero_add, Nat.add_zero, Nat.mul_one, Nat.reduceAdd, Int.toNat_natCast, ex_int, ex_slice, ex_ptr, ex_bool, ex_str, ex_flt, ex_any, bnd_in, List.getElem?_cons_zero, List.getElem?_cons_succ, List.set_cons_zero, List.set_cons_succ, List.cons_append, List.nil_append, bne_self_eq_false, beq_self_eq_true, Bool.not_true, Bool.not_false, Option.isNone_some, Option.isNone_none, eq_self, true_and, and_true, and_self, s.rd0, s.rd1, s.rd2, s.rd3, BS.rows]
  have key : ∀ i : Nat, v = i → i < z.n → z.in_ v = !(z.L i == -1 && z.P i == -1 && z.N i == -1) := by
    rintro i rfl hi
    unfold BS.in_
    rw [Int.toNat_natCast]
    by_cases e : z.L i = -1
    · have := ok.off i hi e; simp [e, this]
    · have e' : (z.L i == -1) = false := by simpa using e
      simp [e', hi]
  refine iteB_intro (fun h1 => ?_) (fun h1 => ?_)
  · have h1 := of_decide_eq_true h1
    refine iteB_intro (fun h2 => ?_) (fun h2 => ?_)
    · have h2 := of_decide_eq_true h2
      obtain ⟨i, rfl⟩ : ∃ i : Nat, v = i := ⟨v.toNat, by omega⟩
      have hi : i < z.n := by omega
      rw [key i rfl hi] at hk
      try simp -zeta (disch := omega) only [chkP_some, iteB_true, iteB_false, add_mk, Nat.zero_add, Nat.add_zero, Nat.mul_one, Nat.reduceAdd, Int.toNat_natCast, ex_int, ex_slice, ex_ptr, ex_bool, ex_str, ex_flt, ex_any, bnd_in, List.getElem?_cons_zero, List.getElem?_cons_succ, List.set_cons_zero, List.set_cons_succ, List.cons_append, List.nil_append, bne_self_eq_false, beq_self_eq_true, Bool.not_true, Bool.not_false, Option.isNone_some, Option.isNone_none, eq_self, true_and, and_true, and_self, s.rd0, s.rd1, s.rd2, s.rd3, ints3_get0, ints3_get1, ints3_get2, eqAll3]
      refine callP3.self (empty_of s fun h' s => ?_)
      try simp -zeta (disch := omega) only [chkP_some, iteB_true, iteB_false, add_mk, Nat.zero_add, Nat.add_zero, Nat.mul_one, Nat.reduceAdd, Int.toNat_natCast, ex_int, ex_slice, ex_ptr, ex_bool, ex_str, ex_flt, ex_any, bnd_in, List.getElem?_cons_zero, List.getElem?_cons_succ, List.set_cons_zero, List.set_cons_succ, List.cons_append, List.nil_append, bne_self_eq_false, beq_self_eq_true, Bool.not_true, Bool.not_false, Option.isNone_some, Option.isNone_none, eq_self, true_and, and_true, and_self, s.rd0, s.rd1, s.rd2, s.rd3, ints3_get0, ints3_get1, ints3_get2, eqAll3]
      exact hk _ s
    · have h2 := of_decide_eq_false h2
      have : z.in_ v = false := by simp [BS.in_, h2]
      rw [this] at hk; exact hk _ s
  · have h1 := of_decide_eq_false h1
    have : z.in_ v = false := by simp [BS.in_]; intro h; omega
    rw [this] at hk; exact hk _ s

def BS.drop1 (z : BS) (l : Nat) (p x : Int) : BS := if p = -1 then { z with F := upd z.F l x } else { z with N := upd z.N p.toNat x }
def BS.drop2 (z : BS) (p x : Int) : BS := if x = -1 then z else { z with P := upd z.P x.toNat p }
def BS.drop3 (z : BS) (v l : Nat) : BS := { z with L := upd z.L v (-1), P := upd z.P v (-1), N := upd z.N v (-1), C := upd z.C l (z.C l - 1), cnt := z.cnt - 1 }
def BS.drop (z : BS) (v : Nat) : BS := ((z.drop1 (z.L v).toNat (z.P v) (z.N v)).drop2 (z.P v) (z.N v)).drop3 v (z.L v).toNat

def BS.dropIf (z : BS) (v : Int) : BS := if z.in_ v then z.drop v.toNat else z

theorem drop_of {h0 h : Heap} {z : BS} {a : BA} {R : Rws} {v : Int} {K : Bool → Heap → Prop} (ok : z.OK) (s : St h0 h (z.rows a ++ R))
    (hk : ∀ h', St h0 h' ((z.dropIf v).rows a ++ R) → K (z.in_ v) h') :
    bucket_Row_Drop (some ⟨a.b, 0, none⟩) v h K := by
  unfold bucket_Row_Drop
  refine callP1.self (seated_of ok s fun h s => ?_)
  refine iteB_intro (fun h1 => ?_) (fun h1 => ?_)
  · have h1 : z.in_ v = false := by simpa using h1
    simp only [BS.dropIf, h1, Bool.false_eq_true, if_false] at hk
    exact hk _ s
  have h1 : z.in_ v = true := by simpa using h1
  simp only [BS.dropIf, h1, if_true] at hk
  unfold BS.in_ at h1
  simp only [Bool.and_eq_true, decide_eq_true_eq, Bool.not_eq_true', beq_eq_false_iff_ne] at h1
  obtain ⟨i, rfl⟩ : ∃ i : Nat, v = i := ⟨v.toNat, by omega⟩
  obtain ⟨⟨_, hi⟩, hne⟩ := h1
  have hi : i < z.n := by omega
  rw [Int.toNat_natCast] at hne
  rw [Int.toNat_natCast] at hk
  have hk1 := hk
  obtain ⟨⟨hl0, hl1⟩, hp, hx⟩ := ok.on i hi hne
  have hn := ok.n
  unfold BS.drop at hk1
  generalize hL : z.L i = l at *
  generalize hP : z.P i = p at *
  generalize hN : z.N i = x at *
  obtain ⟨l, rfl⟩ : ∃ k : Nat, l = k := ⟨l.toNat, by omega⟩
  have hl : l < 2 * z.n + 1 := by omega
  have hC := ok.C l hl
  have hcnt := ok.cnt
  rw [Int.toNat_natCast] at hk1
  try simp -zeta (disch := omega) only [chkP_some, iteB_true, iteB_false, add_mk, Nat.zero_add, Nat.add_zero, Nat.mul_one, Nat.reduceAdd, Int.toNat_natCast, ex_int, ex_slice, ex_ptr, ex_bool, ex_str, ex_flt, ex_any, bnd_in, List.getElem?_cons_zero, List.getElem?_cons_succ, List.set_cons_zero, List.set_cons_succ, List.cons_append, List.nil_append, bne_self_eq_false, beq_self_eq_true, Bool.not_true, Bool.not_false, Option.isNone_some, Option.isNone_none, eq_self, true_and, and_true, and_self, s.rd0, s.rd1, s.rd2, s.rd3, BS.rows, ints3_get0, ints3_get1, ints3_get2, hL, hP, hN]
  refine s.new_ fun b h2 s => ?_
  try simp -zeta (disch := omega) only [chkP_some, iteB_true, iteB_false, add_mk, Nat.zero_add, Nat.add_zero, Nat.mul_one, Nat.reduceAdd, Int.toNat_natCast, ex_int, ex_slice, ex_ptr, ex_bool, ex_str, ex_flt, ex_any, bnd_in, List.getElem?_cons_zero, List.getElem?_cons_succ, List.set_cons_zero, List.set_cons_succ, List.cons_append, List.nil_append, bne_self_eq_false, beq_self_eq_true, Bool.not_true, Bool.not_false, Option.isNone_some, Option.isNone_none, eq_self, true_and, and_true, and_self, s.rd0, s.rd1, s.rd2, s.rd3, s.rd4, BS.rows]
  refine s.st0 (by simp) fun h3 s => s.st0 (by simp) fun h4 s => s.st0 (by simp) fun h5 s => ?_
  intro j71
  have J71 : ∀ h', St h0 h' ((b, [.int .i64 l, .int .i64 p, .int .i64 x]) :: ((z.drop1 l p x).rows a ++ R)) → j71 h' := by
    generalize hz1 : z.drop1 l p x = z1 at *
    have hn1 : z1.n = z.n := by rw [← hz1]; unfold BS.drop1; split <;> rfl
    have hc1 : z1.C = z.C := by rw [← hz1]; unfold BS.drop1; split <;> rfl
    have ht1 : z1.cnt = z.cnt := by rw [← hz1]; unfold BS.drop1; split <;> rfl
    intro h6 s
    simp -zeta only [j71]
    intro j70
    have J70 : ∀ h', St h0 h' ((b, [.int .i64 l, .int .i64 p, .int .i64 x]) :: ((z1.drop2 p x).rows a ++ R)) → j70 h' := by
      generalize hz2 : z1.drop2 p x = z2 at *
      have hn2 : z2.n = z.n := by rw [← hz2, ← hn1]; unfold BS.drop2; split <;> rfl
      have hc2 : z2.C = z.C := by rw [← hz2, ← hc1]; unfold BS.drop2; split <;> rfl
      have ht2 : z2.cnt = z.cnt := by rw [← hz2, ← ht1]; unfold BS.drop2; split <;> rfl
      intro h7 s
      simp -zeta only [j70]
      have hi2 : i < z2.n := by omega
      have hl2 : l < 2 * z2.n + 1 := by omega
      have hl3 : (l : Int) < (2 * z2.n + 1 : Nat) := by omega
      try simp -zeta (disch := omega) only [chkP_some, iteB_true, iteB_false, add_mk, Nat.zero_add, Nat.add_zero, Nat.mul_one, Nat.reduceAdd, Int.toNat_natCast, ex_int, ex_slice, ex_ptr, ex_bool, ex_str, ex_flt, ex_any, bnd_in, List.getElem?_cons_zero, List.getElem?_cons_succ, List.set_cons_zero, List.set_cons_succ, List.cons_append, List.nil_append, bne_self_eq_false, beq_self_eq_true, Bool.not_true, Bool.not_false, Option.isNone_some, Option.isNone_none, eq_self, true_and, and_true, and_self, s.rd0, s.rd1, s.rd2, s.rd3, s.rd4, BS.rows]
      refine callP3.self (empty_of s fun h8 s => ?_)
      try simp -zeta (disch := omega) only [chkP_some, iteB_true, iteB_false, add_mk, Nat.zero_add, Nat.add_zero, Nat.mul_one, Nat.reduceAdd, Int.toNat_natCast, ex_int, ex_slice, ex_ptr, ex_bool, ex_str, ex_flt, ex_any, bnd_in, List.getElem?_cons_zero, List.getElem?_cons_succ, List.set_cons_zero, List.set_cons_succ, List.cons_append, List.nil_append, bne_self_eq_false, beq_self_eq_true, Bool.not_true, Bool.not_false, Option.isNone_some, Option.isNone_none, eq_self, true_and, and_true, and_self, s.rd0, s.rd1, s.rd2, s.rd3, s.rd4, BS.rows]
      refine s.st2 (by rw [ints3_length]; omega) fun h9 s => s.st2 (by simp only [List.length_set, ints3_length]; omega) fun h9 s => s.st2 (by simp only [List.length_set, ints3_length]; omega) fun h10 s => ?_
      simp only [ints3_set0, ints3_set1, ints3_set2] at s
      try simp -zeta (disch := omega) only [chkP_some, iteB_true, iteB_false, add_mk, Nat.zero_add, Nat.add_zero, Nat.mul_one, Nat.reduceAdd, Int.toNat_natCast, ex_int, ex_slice, ex_ptr, ex_bool, ex_str, ex_flt, ex_any, bnd_in, List.getElem?_cons_zero, List.getElem?_cons_succ, List.set_cons_zero, List.set_cons_succ, List.cons_append, List.nil_append, bne_self_eq_false, beq_self_eq_true, Bool.not_true, Bool.not_false, Option.isNone_some, Option.isNone_none, eq_self, true_and, and_true, and_self, s.rd0, s.rd1, s.rd2, s.rd3, s.rd4, BS.rows, ints_get, hc2, ht2]
      refine s.st4 (by rw [ints_length]; exact hl2) fun h9 s => ?_
      try simp -zeta (disch := omega) only [chkP_some, iteB_true, iteB_false, add_mk, Nat.zero_add, Nat.add_zero, Nat.mul_one, Nat.reduceAdd, Int.toNat_natCast, ex_int, ex_slice, ex_ptr, ex_bool, ex_str, ex_flt, ex_any, bnd_in, List.getElem?_cons_zero, List.getElem?_cons_succ, List.set_cons_zero, List.set_cons_succ, List.cons_append, List.nil_append, bne_self_eq_false, beq_self_eq_true, Bool.not_true, Bool.not_false, Option.isNone_some, Option.isNone_none, eq_self, true_and, and_true, and_self, s.rd0, s.rd1, s.rd2, s.rd3, s.rd4, ints_set, ht2]
      refine s.st1 (by simp) fun h10 s => ?_
      have s := s.tail
      refine hk1 _ ?_
      unfold BS.drop3
      rw [wrap64 (by omega) (by omega), wrap64 (by omega) (by omega)] at s
      simp only [ints_set] at s
      simp only [BS.rows, hc2, ht2] at s ⊢
      exact s
    try simp -zeta (disch := omega) only [chkP_some, iteB_true, iteB_false, add_mk, Nat.zero_add, Nat.add_zero, Nat.mul_one, Nat.reduceAdd, Int.toNat_natCast, ex_int, ex_slice, ex_ptr, ex_bool, ex_str, ex_flt, ex_any, bnd_in, List.getElem?_cons_zero, List.getElem?_cons_succ, List.set_cons_zero, List.set_cons_succ, List.cons_append, List.nil_append, bne_self_eq_false, beq_self_eq_true, Bool.not_true, Bool.not_false, Option.isNone_some, Option.isNone_none, eq_self, true_and, and_true, and_self, s.rd0, s.rd1, s.rd2, s.rd3, s.rd4, BS.rows]
    unfold BS.drop2 at J70
    refine iteB_intro (fun c => ?_) (fun c => ?_)
    · have c : x ≠ -1 := by simpa using c
      rw [if_neg c] at J70
      obtain ⟨y, rfl⟩ : ∃ k : Nat, x = k := ⟨x.toNat, by unfold link at hx; omega⟩
      have hy : y < z1.n := by unfold link at hx; omega
      try simp -zeta (disch := omega) only [chkP_some, iteB_true, iteB_false, add_mk, Nat.zero_add, Nat.add_zero, Nat.mul_one, Nat.reduceAdd, Int.toNat_natCast, ex_int, ex_slice, ex_ptr, ex_bool, ex_str, ex_flt, ex_any, bnd_in, List.getElem?_cons_zero, List.getElem?_cons_succ, List.set_cons_zero, List.set_cons_succ, List.cons_append, List.nil_append, bne_self_eq_false, beq_self_eq_true, Bool.not_true, Bool.not_false, Option.isNone_some, Option.isNone_none, eq_self, true_and, and_true, and_self, s.rd0, s.rd1, s.rd2, s.rd3, s.rd4, BS.rows]
      refine s.st2 (by rw [ints3_length]; omega) fun h9 s => J70 _ ?_
      simp only [ints3_set0, ints3_set1, ints3_set2] at s
      exact s
    · have c : x = -1 := by simpa using c
      rw [if_pos c] at J70
      exact J70 _ s
  try simp -zeta (disch := omega) only [chkP_some, iteB_true, iteB_false, add_mk, Nat.zero_add, Nat.add_zero, Nat.mul_one, Nat.reduceAdd, Int.toNat_natCast, ex_int, ex_slice, ex_ptr, ex_bool, ex_str, ex_flt, ex_any, bnd_in, List.getElem?_cons_zero, List.getElem?_cons_succ, List.set_cons_zero, List.set_cons_succ, List.cons_append, List.nil_append, bne_self_eq_false, beq_self_eq_true, Bool.not_true, Bool.not_false, Option.isNone_some, Option.isNone_none, eq_self, true_and, and_true, and_self, s.rd0, s.rd1, s.rd2, s.rd3, s.rd4, BS.rows]
  unfold BS.drop1 at J71
  refine iteB_intro (fun c => ?_) (fun c => ?_)
  · have c : p = -1 := by simpa using c
    rw [if_pos c] at J71
    try simp -zeta (disch := omega) only [chkP_some, iteB_true, iteB_false, add_mk, Nat.zero_add, Nat.add_zero, Nat.mul_one, Nat.reduceAdd, Int.toNat_natCast, ex_int, ex_slice, ex_ptr, ex_bool, ex_str, ex_flt, ex_any, bnd_in, List.getElem?_cons_zero, List.getElem?_cons_succ, List.set_cons_zero, List.set_cons_succ, List.cons_append, List.nil_append, bne_self_eq_false, beq_self_eq_true, Bool.not_true, Bool.not_false, Option.isNone_some, Option.isNone_none, eq_self, true_and, and_true, and_self, s.rd0, s.rd1, s.rd2, s.rd3, s.rd4, BS.rows]
    refine s.st3 (by rw [ints_length]; omega) fun h9 s => J71 _ ?_
    simp only [ints_set] at s
    exact s
  · have c : p ≠ -1 := by simpa using c
    rw [if_neg c] at J71
    obtain ⟨y, rfl⟩ : ∃ k : Nat, p = k := ⟨p.toNat, by unfold link at hp; omega⟩
    have hy : y < z.n := by unfold link at hp; omega
    try simp -zeta (disch := omega) only [chkP_some, iteB_true, iteB_false, add_mk, Nat.zero_add, Nat.add_zero, Nat.mul_one, Nat.reduceAdd, Int.toNat_natCast, ex_int, ex_slice, ex_ptr, ex_bool, ex_str, ex_flt, ex_any, bnd_in, List.getElem?_cons_zero, List.getElem?_cons_succ, List.set_cons_zero, List.set_cons_succ, List.cons_append, List.nil_append, bne_self_eq_false, beq_self_eq_true, Bool.not_true, Bool.not_false, Option.isNone_some, Option.isNone_none, eq_self, true_and, and_true, and_self, s.rd0, s.rd1, s.rd2, s.rd3, s.rd4, BS.rows]
    refine s.st2 (by rw [ints3_length]; omega) fun h9 s => J71 _ ?_
    simp only [ints3_set0, ints3_set1, ints3_set2] at s
    exact s

theorem right_of {h0 h : Heap} {z : BS} {a : BA} {R : Rws} {l : Int} {K : Bool → Heap → Prop} (s : St h0 h (z.rows a ++ R)) (hk : K (decide (0 ≤ l) && decide (l < (2 * z.n + 1 : Nat))) h) :
    bucket_Row_right (some ⟨a.b, 0, none⟩) l h K := by
  unfold bucket_Row_right
  try simp -zeta (disch := omega) only [chkP_some, iteB_true, iteB_false, add_mk, Nat.zero_add, Nat.add_zero, Nat.mul_one, Nat.reduceAdd, Int.toNat_natCast, ex_int, ex_slice, ex_ptr, ex_bool, ex_str, ex_flt, ex_any, bnd_in, List.getElem?_cons_zero, List.getElem?_cons_succ, List.set_cons_zero, List.set_cons_succ, List.cons_append, List.nil_append, bne_self_eq_false, beq_self_eq_true, Bool.not_true, Bool.not_false, Option.isNone_some, Option.isNone_none, eq_self, true_and, and_true, and_self, s.rd0, s.rd1, s.rd2, s.rd3, BS.rows]
  refine iteB_intro (fun c => ?_) (fun c => ?_)
  · have c := of_decide_eq_true c
    rw [decide_eq_true (show 0 ≤ l by omega), Bool.true_and] at hk; exact hk
  · have c := of_decide_eq_false c
    rw [decide_eq_false (show ¬ 0 ≤ l by omega), Bool.false_and] at hk; exact hk

def BS.put1 (z : BS) (v l : Nat) : BS := { z with L := upd z.L v l, P := upd z.P v (-1), N := upd z.N v (z.F l) }
def BS.put2 (z : BS) (v : Nat) (x : Int) : BS := if x = -1 then z else { z with P := upd z.P x.toNat v }
def BS.put3 (z : BS) (v l : Nat) : BS := { z with F := upd z.F l v, C := upd z.C l (z.C l + 1), hi := if (l : Int) > z.hi then l else z.hi, cnt := z.cnt + 1 }
def BS.put (z : BS) (v l : Nat) : BS := ((z.put1 v l).put2 v (z.F l)).put3 v l

theorem put_of {h0 h : Heap} {z : BS} {a : BA} {R : Rws} {v l : Int} {K : Bool → Heap → Prop} (ok : z.OK) (ok2 : (z.dropIf v).OK) (hn2 : (z.dropIf v).n = z.n) (s : St h0 h (z.rows a ++ R))
    (hk0 : ¬ (0 ≤ v ∧ v < z.n ∧ 0 ≤ l ∧ l < (2 * z.n + 1 : Nat)) → K false h)
    (hk1 : ∀ h' (i k : Nat), v = i → l = k → i < z.n → k < 2 * z.n + 1 → St h0 h' (((z.dropIf v).put i k).rows a ++ R) → K true h') :
    bucket_Row_Put (some ⟨a.b, 0, none⟩) v l h K := by
  unfold bucket_Row_Put
  intro j44
  refine qcallP1.of _ (fun R hR => right_of s hR) ?_
  refine iteB_intro (fun c => ?_) (fun c => ?_)
  · exact hk0 (by simp at c; omega)
  have c : 0 ≤ l ∧ l < (2 * z.n + 1 : Nat) := by simpa using c
  refine iteB_intro (fun c2 => ?_) (fun c2 => ?_)
  · have c2 := of_decide_eq_true c2
    exact hk0 (by omega)
  have c2 := of_decide_eq_false c2
  try simp -zeta (disch := omega) only [chkP_some, iteB_true, iteB_false, add_mk, Nat.zero_add, Nat.add_zero, Nat.mul_one, Nat.reduceAdd, Int.toNat_natCast, ex_int, ex_slice, ex_ptr, ex_bool, ex_str, ex_flt, ex_any, bnd_in, List.getElem?_cons_zero, List.getElem?_cons_succ, List.set_cons_zero, List.set_cons_succ, List.cons_append, List.nil_append, bne_self_eq_false, beq_self_eq_true, Bool.not_true, Bool.not_false, Option.isNone_some, Option.isNone_none, eq_self, true_and, and_true, and_self, s.rd0, s.rd1, s.rd2, s.rd3, BS.rows]
  refine iteB_intro (fun c3 => ?_) (fun c3 => ?_)
  · have c3 := of_decide_eq_true c3
    exact hk0 (by omega)
  have c3 := of_decide_eq_false c3
  obtain ⟨i, rfl⟩ : ∃ i : Nat, v = i := ⟨v.toNat, by omega⟩
  obtain ⟨k, rfl⟩ : ∃ i : Nat, l = i := ⟨l.toNat, by omega⟩
  have hi : i < z.n := by omega
  have hk : k < 2 * z.n + 1 := by omega
  have hk1 := fun h' => hk1 h' i k rfl rfl hi hk
  clear hk0
  simp -zeta only [j44]
  clear j44
  refine callP1.self (drop_of ok s fun h9 s => ?_)
  generalize z.dropIf (i : Int) = y at *
  have hi : i < y.n := by omega
  have hk : k < 2 * y.n + 1 := by omega
  have hn := ok2.n
  have hF := ok2.F k hk
  have hC := ok2.C k hk
  have hcnt := ok2.cnt
  clear hn2 ok
  unfold BS.put at hk1
  try simp -zeta (disch := omega) only [chkP_some, iteB_true, iteB_false, add_mk, Nat.zero_add, Nat.add_zero, Nat.mul_one, Nat.reduceAdd, Int.toNat_natCast, ex_int, ex_slice, ex_ptr, ex_bool, ex_str, ex_flt, ex_any, bnd_in, List.getElem?_cons_zero, List.getElem?_cons_succ, List.set_cons_zero, List.set_cons_succ, List.cons_append, List.nil_append, bne_self_eq_false, beq_self_eq_true, Bool.not_true, Bool.not_false, Option.isNone_some, Option.isNone_none, eq_self, true_and, and_true, and_self, s.rd0, s.rd1, s.rd2, s.rd3, BS.rows, ints_get]
  generalize hx : y.F k = x at *
  refine s.st1 (by rw [ints3_length]; omega) fun h17 s => s.st1 (by simp only [List.length_set, ints3_length]; omega) fun h18 s => s.st1 (by simp only [List.length_set, ints3_length]; omega) fun h19 s => ?_
  simp only [ints3_set0, ints3_set1, ints3_set2] at s
  intro j43
  have J43 : ∀ h', St h0 h' (((y.put1 i k).put2 i x).rows a ++ R) → j43 h' := by
    have e1 : ((y.put1 i k).put2 i x).n = y.n := by unfold BS.put1 BS.put2; split <;> rfl
    have e2 : ((y.put1 i k).put2 i x).C = y.C := by unfold BS.put1 BS.put2; split <;> rfl
    have e3 : ((y.put1 i k).put2 i x).cnt = y.cnt := by unfold BS.put1 BS.put2; split <;> rfl
    have e4 : ((y.put1 i k).put2 i x).hi = y.hi := by unfold BS.put1 BS.put2; split <;> rfl
    generalize (y.put1 i k).put2 i x = w at *
    intro h24 s
    have hk' : k < 2 * w.n + 1 := by omega
    have hi' : i < w.n := by omega
    have hC' : 0 ≤ w.C k ∧ w.C k ≤ 4096 := by rw [e2]; exact hC
    have hcnt' : 0 ≤ w.cnt ∧ w.cnt ≤ 4096 := by rw [e3]; exact hcnt
    simp -zeta only [j43]
    try simp -zeta (disch := omega) only [chkP_some, iteB_true, iteB_false, add_mk, Nat.zero_add, Nat.add_zero, Nat.mul_one, Nat.reduceAdd, Int.toNat_natCast, ex_int, ex_slice, ex_ptr, ex_bool, ex_str, ex_flt, ex_any, bnd_in, List.getElem?_cons_zero, List.getElem?_cons_succ, List.set_cons_zero, List.set_cons_succ, List.cons_append, List.nil_append, bne_self_eq_false, beq_self_eq_true, Bool.not_true, Bool.not_false, Option.isNone_some, Option.isNone_none, eq_self, true_and, and_true, and_self, s.rd0, s.rd1, s.rd2, s.rd3, BS.rows]
    refine s.st2 (by rw [ints_length]; omega) fun h28 s => ?_
    try simp -zeta (disch := omega) only [chkP_some, iteB_true, iteB_false, add_mk, Nat.zero_add, Nat.add_zero, Nat.mul_one, Nat.reduceAdd, Int.toNat_natCast, ex_int, ex_slice, ex_ptr, ex_bool, ex_str, ex_flt, ex_any, bnd_in, List.getElem?_cons_zero, List.getElem?_cons_succ, List.set_cons_zero, List.set_cons_succ, List.cons_append, List.nil_append, bne_self_eq_false, beq_self_eq_true, Bool.not_true, Bool.not_false, Option.isNone_some, Option.isNone_none, eq_self, true_and, and_true, and_self, s.rd0, s.rd1, s.rd2, s.rd3, ints_get]
    refine s.st3 (by rw [ints_length]; omega) fun h34 s => ?_
    try simp -zeta (disch := omega) only [chkP_some, iteB_true, iteB_false, add_mk, Nat.zero_add, Nat.add_zero, Nat.mul_one, Nat.reduceAdd, Int.toNat_natCast, ex_int, ex_slice, ex_ptr, ex_bool, ex_str, ex_flt, ex_any, bnd_in, List.getElem?_cons_zero, List.getElem?_cons_succ, List.set_cons_zero, List.set_cons_succ, List.cons_append, List.nil_append, bne_self_eq_false, beq_self_eq_true, Bool.not_true, Bool.not_false, Option.isNone_some, Option.isNone_none, eq_self, true_and, and_true, and_self, s.rd0, s.rd1, s.rd2, s.rd3]
    refine s.st0 (by simp) fun h38 s => ?_
    try simp -zeta (disch := omega) only [chkP_some, iteB_true, iteB_false, add_mk, Nat.zero_add, Nat.add_zero, Nat.mul_one, Nat.reduceAdd, Int.toNat_natCast, ex_int, ex_slice, ex_ptr, ex_bool, ex_str, ex_flt, ex_any, bnd_in, List.getElem?_cons_zero, List.getElem?_cons_succ, List.set_cons_zero, List.set_cons_succ, List.cons_append, List.nil_append, bne_self_eq_false, beq_self_eq_true, Bool.not_true, Bool.not_false, Option.isNone_some, Option.isNone_none, eq_self, true_and, and_true, and_self, s.rd0, s.rd1, s.rd2, s.rd3]
    refine s.st0 (by simp) fun h42 s => hk1 _ ?_
    rw [wrap64 (by omega) (by omega), wrap64 (by omega) (by omega)] at s
    simp only [ints_set] at s
    exact s
  try simp -zeta (disch := omega) only [chkP_some, iteB_true, iteB_false, add_mk, Nat.zero_add, Nat.add_zero, Nat.mul_one, Nat.reduceAdd, Int.toNat_natCast, ex_int, ex_slice, ex_ptr, ex_bool, ex_str, ex_flt, ex_any, bnd_in, List.getElem?_cons_zero, List.getElem?_cons_succ, List.set_cons_zero, List.set_cons_succ, List.cons_append, List.nil_append, bne_self_eq_false, beq_self_eq_true, Bool.not_true, Bool.not_false, Option.isNone_some, Option.isNone_none, eq_self, true_and, and_true, and_self, s.rd0, s.rd1, s.rd2, s.rd3, BS.rows]
  refine iteB_intro (fun c => ?_) (fun c => ?_)
  · have c : x ≠ -1 := by simpa using c
    unfold BS.put2 at J43
    rw [if_neg c] at J43
    obtain ⟨m, rfl⟩ : ∃ m : Nat, x = m := ⟨x.toNat, by unfold link at hF; omega⟩
    have hm : m < y.n := by unfold link at hF; omega
    try simp -zeta (disch := omega) only [chkP_some, iteB_true, iteB_false, add_mk, Nat.zero_add, Nat.add_zero, Nat.mul_one, Nat.reduceAdd, Int.toNat_natCast, ex_int, ex_slice, ex_ptr, ex_bool, ex_str, ex_flt, ex_any, bnd_in, List.getElem?_cons_zero, List.getElem?_cons_succ, List.set_cons_zero, List.set_cons_succ, List.cons_append, List.nil_append, bne_self_eq_false, beq_self_eq_true, Bool.not_true, Bool.not_false, Option.isNone_some, Option.isNone_none, eq_self, true_and, and_true, and_self, s.rd0, s.rd1, s.rd2, s.rd3]
    refine s.st1 (by rw [ints3_length]; omega) fun h20 s => J43 _ ?_
    simp only [ints3_set1] at s
    unfold BS.put1
    rw [hx]; exact s
  · have c : x = -1 := by simpa using c
    unfold BS.put2 at J43
    rw [if_pos c] at J43
    refine J43 _ ?_
    unfold BS.put1
    rw [hx]; exact s
end Go.Proofs.Ythcbigbgfekmdaa
