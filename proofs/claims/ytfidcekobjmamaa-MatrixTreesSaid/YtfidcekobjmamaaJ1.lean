/-
  Matrices in memory: rows of numbers, and a row of their slices; the program's square.
-/
import Derived.Test.YtfidcekobjmamaaWk
import Derived.Test.YtfidcekobjmamaaG3
namespace Go.Proofs.Ytfidcekobjmamaa
set_option linter.unusedVariables false
set_option linter.unusedSimpArgs false
set_option linter.unnecessarySimpa false
open Go.Hp Go.RowKit
attribute [local irreducible] Go.Hp.iteB Go.Hp.stC Go.Hp.newP

abbrev Sl3 := Option Addr × Nat × Nat
def sl3 (qs : List Sl3) : List Value := qs.map fun q => Value.slice q.1 q.2.1 q.2.2
theorem sl3_len (qs : List Sl3) : (sl3 qs).length = qs.length := by simp [sl3]
theorem sl3_get {qs : List Sl3} {i : Nat} {q : Sl3} (h : qs[i]? = some q) : (sl3 qs)[i]? = some (.slice q.1 q.2.1 q.2.2) := by simp [sl3, h]
/-- A matrix, to be read. -/
def MxV (h : Heap) (q : Option Addr) (n : Nat) (M : Nat → Nat → Int) : Prop :=
  ∃ qs : List Sl3, qs.length = n ∧ valsAt h q (sl3 qs) ∧ ∀ i x, qs[i]? = some x → x.2.1 = n ∧ n ≤ x.2.2 ∧ valsAt h x.1 (ints n (M i))
def MxK (h0 : Base) (Y : Rws) (q : Option Addr) (n : Nat) (M : Nat → Nat → Int) : Prop :=
  ∃ qs : List Sl3, qs.length = n ∧ Keeps h0 Y q (sl3 qs) ∧ ∀ i x, qs[i]? = some x → x.2.1 = n ∧ n ≤ x.2.2 ∧ Keeps h0 Y x.1 (ints n (M i))
theorem MxK.at_ {h0 : Base} {h : Heap} {Y L : Rws} {q : Option Addr} {n : Nat} {M : Nat → Nat → Int} (k : MxK h0 Y q n M) (s : St h0 h L) (hL : ∀ x ∈ Y, x ∈ L) : MxV h q n M := by
  obtain ⟨qs, h1, h2, h3⟩ := k
  exact ⟨qs, h1, h2 h L s hL, fun i x hx => ⟨(h3 i x hx).1, (h3 i x hx).2.1, (h3 i x hx).2.2 h L s hL⟩⟩
/-- A row of it, that stays. -/
theorem MxK.row {h0 : Base} {h : Heap} {Y L : Rws} {q : Option Addr} {n : Nat} {M : Nat → Nat → Int} (k : MxK h0 Y q n M) (s : St h0 h L) (hL : ∀ x ∈ Y, x ∈ L) {i : Nat} (hi : i < n) :
    ∃ (a : Addr) (p : Option Addr) (c : Nat), q = some a ∧ cell h (a.add i) = some (.slice p n c) ∧ n ≤ c ∧ Keeps h0 Y p (ints n (M i)) := by
  obtain ⟨qs, h1, h2, h3⟩ := k
  obtain ⟨x, hx⟩ := get_lt (l := qs) (i := i) (by omega)
  obtain ⟨e1, e2, e3⟩ := h3 i x hx
  obtain ⟨a, ha, hc⟩ := h2 h L s hL i _ (sl3_get hx)
  rw [e1] at hc
  exact ⟨a, x.1, x.2.2, ha, hc, e2, e3⟩
theorem MxV.ext {h h' : Heap} {q : Option Addr} {n : Nat} {M : Nat → Nat → Int} (k : MxV h q n M) (e : Ext h h') : MxV h' q n M := by
  obtain ⟨qs, h1, h2, h3⟩ := k
  exact ⟨qs, h1, h2.ext e, fun i x hx => ⟨(h3 i x hx).1, (h3 i x hx).2.1, (h3 i x hx).2.2.ext e⟩⟩
theorem MxV.congr {h : Heap} {q : Option Addr} {n : Nat} {M M' : Nat → Nat → Int} (k : MxV h q n M) (e : ∀ i j, i < n → j < n → M i j = M' i j) : MxV h q n M' := by
  obtain ⟨qs, h1, h2, h3⟩ := k
  refine ⟨qs, h1, h2, fun i x hx => ⟨(h3 i x hx).1, (h3 i x hx).2.1, ?_⟩⟩
  rw [← ints_congr fun j hj => e i j (by rw [← h1]; exact lt_get hx) hj]; exact (h3 i x hx).2.2
theorem MxK.sub {h0 : Base} {Y Z : Rws} {q : Option Addr} {n : Nat} {M : Nat → Nat → Int} (k : MxK h0 Y q n M) (hs : ∀ x ∈ Y, x ∈ Z) : MxK h0 Z q n M := by
  obtain ⟨qs, h1, h2, h3⟩ := k
  exact ⟨qs, h1, h2.sub hs, fun i x hx => ⟨(h3 i x hx).1, (h3 i x hx).2.1, (h3 i x hx).2.2.sub hs⟩⟩
/-- One number of it. -/
theorem MxV.row {h : Heap} {q : Option Addr} {n : Nat} {M : Nat → Nat → Int} (k : MxV h q n M) {i : Nat} (hi : i < n) :
    ∃ (a : Addr) (p : Option Addr) (c : Nat), q = some a ∧ cell h (a.add i) = some (.slice p n c) ∧ n ≤ c ∧ valsAt h p (ints n (M i)) := by
  obtain ⟨qs, h1, h2, h3⟩ := k
  obtain ⟨x, hx⟩ := get_lt (l := qs) (i := i) (by omega)
  obtain ⟨e1, e2, e3⟩ := h3 i x hx
  obtain ⟨a, ha, hc⟩ := h2 i _ (sl3_get hx)
  rw [e1] at hc
  exact ⟨a, x.1, x.2.2, ha, hc, e2, e3⟩
theorem ints_at {h : Heap} {p : Option Addr} {n j : Nat} {f : Nat → Int} (v : valsAt h p (ints n f)) (hj : j < n) : ∃ a, p = some a ∧ cell h (a.add j) = some (.int .i64 (f j)) := v j _ (ints_get hj)
/-! ### A matrix of one's own -/
def upd2 (M : Nat → Nat → Int) (i j : Nat) (x : Int) : Nat → Nat → Int := fun a b => if a = i ∧ b = j then x else M a b
def mxr (bs : Nat → Nat) (m n : Nat) (M : Nat → Nat → Int) : Rws := (List.range m).map fun i => (bs i, ints n (M i))
def mxq (bs : Nat → Nat) (m n : Nat) : List Sl3 := (List.range m).map fun i => (some ⟨bs i, 0, none⟩, n, n)
theorem mxr_mem {bs : Nat → Nat} {m n : Nat} {M : Nat → Nat → Int} {i : Nat} (hi : i < m) : (bs i, ints n (M i)) ∈ mxr bs m n M := List.mem_map.2 ⟨i, List.mem_range.2 hi, rfl⟩
theorem mxq_get {bs : Nat → Nat} {m n i : Nat} (hi : i < m) : (mxq bs m n)[i]? = some (some ⟨bs i, 0, none⟩, n, n) := by simp [mxq, hi]
theorem mxq_len (bs : Nat → Nat) (m n : Nat) : (mxq bs m n).length = m := by simp [mxq]
theorem mxr_congr {bs : Nat → Nat} {m n : Nat} {M M' : Nat → Nat → Int} (h : ∀ i j, i < m → j < n → M i j = M' i j) : mxr bs m n M = mxr bs m n M' := by
  unfold mxr
  refine List.map_congr_left fun i hi => ?_
  rw [ints_congr fun j hj => h i j (List.mem_range.1 hi) hj]
theorem mxr_upd {bs : Nat → Nat} {m n i j : Nat} {M : Nat → Nat → Int} {x : Int} (hi : i < m) : ∃ A B : Rws, mxr bs m n M = A ++ (bs i, ints n (M i)) :: B ∧ mxr bs m n (upd2 M i j x) = A ++ (bs i, (ints n (M i)).set j (.int .i64 x)) :: B := by
  have hr : List.range m = List.range i ++ i :: (List.range m).drop (i + 1) := by
    have h1 : (List.range m)[i]? = some i := by rw [List.getElem?_range hi]
    rw [← drop_cons h1]
    have h2 : List.range i = (List.range m).take i := by rw [List.take_range, Nat.min_eq_left (by omega)]
    rw [h2, List.take_append_drop]
  refine ⟨(List.range i).map fun k => (bs k, ints n (M k)), ((List.range m).drop (i + 1)).map fun k => (bs k, ints n (M k)), ?_, ?_⟩
  · unfold mxr
    conv => lhs; rw [hr]
    rw [List.map_append, List.map_cons]
  · unfold mxr
    conv => lhs; rw [hr]
    rw [List.map_append, List.map_cons]
    have e1 : (List.range i).map (fun k => (bs k, ints n (upd2 M i j x k))) = (List.range i).map fun k => (bs k, ints n (M k)) := List.map_congr_left fun k hk => by
      have := List.mem_range.1 hk
      rw [ints_congr fun b hb => show upd2 M i j x k b = M k b from if_neg (by omega)]
    have e2 : ((List.range m).drop (i + 1)).map (fun k => (bs k, ints n (upd2 M i j x k))) = ((List.range m).drop (i + 1)).map fun k => (bs k, ints n (M k)) := List.map_congr_left fun k hk => by
      have : i < k := by
        obtain ⟨t, ht⟩ := List.mem_iff_getElem?.1 hk
        rw [List.getElem?_drop] at ht
        have h3 := lt_get ht
        rw [List.length_range] at h3
        rw [List.getElem?_range h3] at ht
        have := Option.some.inj ht
        omega
      rw [ints_congr fun b hb => show upd2 M i j x k b = M k b from if_neg (by omega)]
    have e3 : ints n (upd2 M i j x i) = (ints n (M i)).set j (.int .i64 x) := by
      rw [ints_set]
      refine ints_congr fun b hb => ?_
      unfold upd2 upd
      by_cases c : b = j
      · rw [if_pos ⟨rfl, c⟩, if_pos c]
      · rw [if_neg (by omega), if_neg c]
    rw [e1, e2, e3]
section
variable {h0 : Base} {R : Rws} {n : Nat}
theorem mxst {h : Heap} {bs : Nat → Nat} {m i j : Nat} {M : Nat → Nat → Int} {x : Int} {K : Heap → Prop} (s : St h0 h (mxr bs m n M ++ R)) (hi : i < m) (hj : j < n) (hk : ∀ h', St h0 h' (mxr bs m n (upd2 M i j x) ++ R) → K h') : stC h ⟨bs i, j, none⟩ (.int .i64 x) K := by
  obtain ⟨A, B, e1, e2⟩ := mxr_upd (bs := bs) (n := n) (M := M) (j := j) (x := x) hi
  rw [e1, List.append_assoc] at s
  rw [e2] at hk
  exact St.st (A := A) s (by rw [ints_length]; exact hj) fun h' s' => hk h' (by rw [List.append_assoc]; exact s')
theorem mxr_keeps {bs : Nat → Nat} {bh : Nat} {M : Nat → Nat → Int} {Y : Rws} (hs : ∀ x ∈ mxr bs n n M, x ∈ Y) (hh : (bh, sl3 (mxq bs n n)) ∈ Y) : MxK h0 Y (some ⟨bh, 0, none⟩) n M :=
  ⟨mxq bs n n, mxq_len _ _ _, Keeps.row hh, fun i x hx => by
    have hi := lt_get hx
    rw [mxq_len] at hi
    rw [mxq_get hi] at hx
    obtain rfl := Option.some.inj hx
    exact ⟨rfl, Nat.le_refl _, Keeps.row (R := Y) (hs _ (mxr_mem hi))⟩⟩
/-! ### Rows are made -/
def mxz (bs : Nat → Nat) (m n : Nat) : List Value := (List.range n).map fun i => if i < m then Value.slice (some ⟨bs i, 0, none⟩) n n else .slice none 0 0
theorem mxz_zero (bs : Nat → Nat) : ∀ n, zeroRow [.slice none 0 0] n = mxz bs 0 n := fun n => by
  have : ∀ k, zeroRow [Value.slice none 0 0] k = List.replicate k (Value.slice none 0 0) := fun k => by
    induction k with
    | zero => rfl
    | succ k ih => rw [zeroRow, ih, List.replicate_succ]; rfl
  rw [this]
  unfold mxz
  refine List.ext_getElem? fun i => ?_
  rw [List.getElem?_replicate, List.getElem?_map]
  by_cases c : i < n
  · rw [if_pos c, List.getElem?_range c]; rfl
  · rw [if_neg c, List.getElem?_eq_none (by simp; omega)]; rfl
theorem mxz_full (bs : Nat → Nat) (n : Nat) : mxz bs n n = sl3 (mxq bs n n) := by
  unfold mxz sl3 mxq
  rw [List.map_map]
  refine List.map_congr_left fun i hi => ?_
  rw [if_pos (List.mem_range.1 hi)]; rfl
theorem mxz_set {bs : Nat → Nat} {m n b : Nat} (h : m < n) : (mxz bs m n).set m (.slice (some ⟨b, 0, none⟩) n n) = mxz (upd bs m b) (m + 1) n := by
  unfold mxz
  refine List.ext_getElem? fun i => ?_
  rw [List.getElem?_set, List.length_map, List.length_range, List.getElem?_map, List.getElem?_map]
  by_cases c : i < n
  · rw [List.getElem?_range c]
    by_cases e : m = i
    · subst e
      rw [if_pos rfl, if_pos h]
      simp [upd_same]
    · rw [if_neg e]
      simp only [Option.map_some]
      by_cases c2 : i < m
      · rw [if_pos c2, if_pos (by omega), upd_ne _ _ (by omega)]
      · rw [if_neg c2, if_neg (by omega)]
  · rw [List.getElem?_eq_none (by simp; omega)]
    by_cases e : m = i
    · omega
    · rw [if_neg e]; rfl
theorem mxr_succ {bs : Nat → Nat} {m b : Nat} {M : Nat → Nat → Int} : mxr (upd bs m b) (m + 1) n M = mxr bs m n M ++ [(b, ints n (M m))] := by
  unfold mxr
  rw [List.range_succ, List.map_append]
  congr 1
  · exact List.map_congr_left fun k hk => by rw [upd_ne _ _ (by have := List.mem_range.1 hk; omega)]
  · simp [upd_same]
theorem square_l0 {K2 : Heap → Prop} {bh : Nat} (hn : n ≤ 4096) (hk : ∀ bs h', St h0 h' ((bh, sl3 (mxq bs n n)) :: (mxr bs n n (fun _ _ => 0) ++ R)) → K2 h') :
    ∀ (d i : Nat) (h : Heap) (bs : Nat → Nat), i + d = n → St h0 h ((bh, mxz bs i n) :: (mxr bs i n (fun _ _ => 0) ++ R)) → matrix_square_int64.l0 K2 (d + 1) (n : Int) ⟨bh, 0, none⟩ n n (n : Int) (i : Int) h
  | 0, i, h, bs, hi, s => by
    unfold matrix_square_int64.l0 matrix_square_int64.b0
    have : i = n := by omega
    subst this
    rw [mxz_full] at s
    exact iteB_neg (decide_eq_false (by omega)) (hk bs h s)
  | d + 1, i, h, bs, hi, s => by
    unfold matrix_square_int64.l0 matrix_square_int64.b0
    refine iteB_pos (decide_eq_true (by omega)) ⟨⟨by omega, by omega, by omega, by omega⟩, s.new_ fun b h2 s2 => ⟨⟨by omega, by omega⟩, ?_⟩⟩
    rw [Int.toNat_natCast, ints_zero] at s2
    rw [Int.toNat_natCast, Int.toNat_natCast, Nat.mul_one, add_mk, Nat.zero_add]
    have s3 : St h0 h2 ((bh, mxz bs i n) :: ((mxr bs i n (fun _ _ => 0) ++ [(b, ints n fun _ => 0)]) ++ R)) := (St.re s2 (by intro a; simp only [cntR_append, cntR_cons, cntR_nil, List.cons_append, List.nil_append, List.set_cons_zero, List.set_cons_succ]; omega))
    refine s3.st0 (by simp [mxz]; omega) fun h4 s4 => ?_
    rw [mxz_set (by omega)] at s4
    rw [wrap64 (by omega) (by omega)]
    refine square_l0 hn hk d (i + 1) h4 (upd bs i b) (by omega) ?_
    rw [mxr_succ (M := fun _ _ => 0)]; exact s4
theorem Square_of {h : Heap} {K : Option Addr → Nat → Nat → Heap → Prop} (hn : n ≤ 4096) (s : St h0 h R)
    (hk : ∀ bh bs h', St h0 h' ((bh, sl3 (mxq bs n n)) :: (mxr bs n n (fun _ _ => 0) ++ R)) → K (some ⟨bh, 0, none⟩) n n h') : matrix_square_int64 (n : Int) h K := by
  unfold matrix_square_int64
  refine ⟨⟨by omega, by omega, by omega, by omega⟩, s.new_ fun bh h1 s1 => ?_⟩
  rw [Int.toNat_natCast] at s1 ⊢
  rw [mxz_zero (fun _ => 0)] at s1
  exact ⟨n + 1, square_l0 hn (fun bs h' s' => hk bh bs h' s') n 0 h1 (fun _ => 0) (by omega) s1⟩
end
end Go.Proofs.Ytfidcekobjmamaa
