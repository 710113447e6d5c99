/-
  Matrices of any rows: the same? unlike numbers, the program's and the document's.
-/
import Derived.Test.YtfidcekobjmamaaJE
namespace Go.Proofs.Ytfidcekobjmamaa
set_option linter.unusedVariables false
set_option linter.unusedSimpArgs false
set_option linter.unnecessarySimpa false
open Go.Hp Go.RowKit
attribute [local irreducible] Go.Hp.iteB Go.Hp.stC Go.Hp.newP
theorem lst_ext {l m : List Int} (hl : l.length = m.length) (h : ∀ k, k < l.length → l.getD k 0 = m.getD k 0) : l = m := by
  apply List.ext_getElem?
  intro k
  by_cases c : k < l.length
  · have := h k c
    simp [List.getD, c, show k < m.length by omega] at this ⊢
    exact this
  · rw [List.getElem?_eq_none (by omega), List.getElem?_eq_none (by omega)]
section
variable {h : Heap} {K : Bool → Heap → Prop} {K0 : Bool → Heap → Prop} {K2 : Heap → Prop} {c1 c2 : Nat}
theorem gequal_l0 {p1 p2 : Option Addr} {l m : List Int} (v1 : valsAt h p1 (l.map (Value.int .i64))) (v2 : valsAt h p2 (m.map (Value.int .i64))) (hl : l.length = m.length) (hn : l.length ≤ 2 ^ 40) (h0 : l ≠ m → K0 false h) (hk : l = m → K2 h) :
    ∀ (d i : Nat), i + d = l.length → (∀ k, k < i → l.getD k 0 = m.getD k 0) → slices_Equal_Lint64_int64.l0 K0 K2 (d + 1) p1 l.length c1 p2 m.length c2 (l.length : Int) (i : Int) h
  | 0, i, hi, hb => by
    unfold slices_Equal_Lint64_int64.l0 slices_Equal_Lint64_int64.b0
    exact iteB_neg (decide_eq_false (by omega)) (hk (lst_ext hl fun k hk => hb k (by omega)))
  | d + 1, i, hi, hb => by
    unfold slices_Equal_Lint64_int64.l0 slices_Equal_Lint64_int64.b0
    obtain ⟨a, ha, g1⟩ := lst_at v1 (j := i) (by omega)
    obtain ⟨b, hb', g2⟩ := lst_at v2 (j := i) (by omega)
    refine iteB_pos (decide_eq_true (by omega)) ?_
    rw [ha, hb']
    simp -zeta only [chkP_some, Int.toNat_natCast, Nat.mul_one]
    rw [← ha, ← hb']
    refine ⟨by omega, _, g1, by omega, _, g2, iteB_intro (fun e => h0 fun he => ?_) fun e => ?_⟩
    · rw [he] at e; simp at e
    · rw [wrap64 (by omega) (by omega)]
      refine gequal_l0 v1 v2 hl hn h0 hk d (i + 1) (by omega) fun k hk' => ?_
      by_cases ek : k = i
      · rw [ek]; simpa using e
      · exact hb k (by omega)
theorem GEqual_of {p1 p2 : Option Addr} {l m : List Int} (v1 : valsAt h p1 (l.map (Value.int .i64))) (v2 : valsAt h p2 (m.map (Value.int .i64))) (hn : l.length ≤ 2 ^ 40) (h0 : l ≠ m → K false h) (hk : l = m → K true h) : slices_Equal_Lint64_int64 p1 l.length c1 p2 m.length c2 h K := by
  unfold slices_Equal_Lint64_int64
  refine iteB_intro (fun e => h0 fun he => ?_) fun e => ⟨l.length + 1, gequal_l0 v1 v2 ?_ hn h0 hk l.length 0 (by omega) fun k hk => by omega⟩
  · rw [he] at e; simp at e
  · have e : (l.length : Int) = (m.length : Int) := by simpa using e
    omega
theorem gsame4_l0 {p1 p2 : Option Addr} {l m : List Int} (v1 : valsAt h p1 (l.map (Value.int .i64))) (v2 : valsAt h p2 (m.map (Value.int .i64))) (hl : l.length = m.length) (hn : l.length ≤ 2 ^ 40) (h0 : l ≠ m → K0 false h) (hk : l = m → K2 h) :
    ∀ (d i : Nat), i + d = l.length → (∀ k, k < i → l.getD k 0 = m.getD k 0) → straitref04_Same.l0 K0 K2 (d + 1) p1 l.length c1 p2 m.length c2 (i : Int) h
  | 0, i, hi, hb => by
    unfold straitref04_Same.l0 straitref04_Same.b0
    exact iteB_neg (decide_eq_false (by omega)) (hk (lst_ext hl fun k hk => hb k (by omega)))
  | d + 1, i, hi, hb => by
    unfold straitref04_Same.l0 straitref04_Same.b0
    obtain ⟨a, ha, g1⟩ := lst_at v1 (j := i) (by omega)
    obtain ⟨b, hb', g2⟩ := lst_at v2 (j := i) (by omega)
    refine iteB_pos (decide_eq_true (by omega)) ?_
    rw [ha, hb']
    simp -zeta only [chkP_some, Int.toNat_natCast, Nat.mul_one]
    rw [← ha, ← hb']
    refine ⟨by omega, _, g1, by omega, _, g2, iteB_intro (fun e => h0 fun he => ?_) fun e => ?_⟩
    · rw [he] at e; simp at e
    · rw [wrap64 (by omega) (by omega)]
      refine gsame4_l0 v1 v2 hl hn h0 hk d (i + 1) (by omega) fun k hk' => ?_
      by_cases ek : k = i
      · rw [ek]; simpa using e
      · exact hb k (by omega)
theorem GSame4_of {p1 p2 : Option Addr} {l m : List Int} (v1 : valsAt h p1 (l.map (Value.int .i64))) (v2 : valsAt h p2 (m.map (Value.int .i64))) (hn : l.length ≤ 2 ^ 40) (h0 : l ≠ m → K false h) (hk : l = m → K true h) : straitref04_Same p1 l.length c1 p2 m.length c2 h K := by
  unfold straitref04_Same
  refine iteB_intro (fun e => h0 fun he => ?_) fun e => ⟨l.length + 1, gsame4_l0 v1 v2 ?_ hn h0 hk l.length 0 (by omega) fun k hk => by omega⟩
  · rw [he] at e; simp at e
  · have e : (l.length : Int) = (m.length : Int) := by simpa using e
    omega
theorem rows_ext {L M : List (List Int)} (hl : L.length = M.length) (h : ∀ (k : Nat) (l m : List Int), L[k]? = some l → M[k]? = some m → l = m) : L = M := by
  apply List.ext_getElem?
  intro k
  by_cases c : k < L.length
  · obtain ⟨l, h1⟩ := get_lt c
    obtain ⟨m, h2⟩ := get_lt (l := M) (i := k) (by omega)
    rw [h1, h2, h k l m h1 h2]
  · rw [List.getElem?_eq_none (by omega), List.getElem?_eq_none (by omega)]
theorem gfunc_l0 {p1 p2 : Option Addr} {L M : List (List Int)} (j1 : JagV h p1 L) (j2 : JagV h p2 M) (hl : L.length = M.length) (hn : L.length ≤ 2 ^ 40) (hr : ∀ l ∈ L, l.length ≤ 2 ^ 40) (h0 : L ≠ M → K0 false h) (hk : L = M → K2 h) :
    ∀ (d i : Nat), i + d = L.length → (∀ (k : Nat) (l m : List Int), k < i → L[k]? = some l → M[k]? = some m → l = m) → slices_EqualFunc_LLint64_LLint64_Lint64_Lint64_matrix_same_int64.l0 K0 K2 (d + 1) p2 M.length c2 p1 L.length c1 (L.length : Int) (i : Int) h
  | 0, i, hi, hb => by
    unfold slices_EqualFunc_LLint64_LLint64_Lint64_Lint64_matrix_same_int64.l0 slices_EqualFunc_LLint64_LLint64_Lint64_Lint64_matrix_same_int64.b0
    exact iteB_neg (decide_eq_false (by omega)) (hk (rows_ext hl fun k l m h1 h2 => hb k l m (by have := lt_get h1; omega) h1 h2))
  | d + 1, i, hi, hb => by
    unfold slices_EqualFunc_LLint64_LLint64_Lint64_Lint64_matrix_same_int64.l0 slices_EqualFunc_LLint64_LLint64_Lint64_Lint64_matrix_same_int64.b0
    obtain ⟨l, h1⟩ := get_lt (l := L) (i := i) (by omega)
    obtain ⟨m, h2⟩ := get_lt (l := M) (i := i) (by omega)
    obtain ⟨a1, q1, d1, he1, g1, _, v1⟩ := j1.row h1
    obtain ⟨a2, q2, d2, he2, g2, _, v2⟩ := j2.row h2
    refine iteB_pos (decide_eq_true (by omega)) ?_
    rw [he1, he2]
    simp -zeta only [chkP_some, Int.toNat_natCast, Nat.mul_one]
    rw [← he1, ← he2]
    refine ⟨by omega, _, _, _, g1, by omega, _, _, _, g2, callP1.self ?_⟩
    unfold matrix_same_int64
    by_cases e : l = m
    · refine qcallP1.of true (fun Q hQ => GEqual_of v1 v2 (hr l (List.mem_of_getElem? h1)) (fun no => absurd e no) fun _ => hQ) (iteB_neg rfl ?_)
      rw [wrap64 (by omega) (by omega)]
      refine gfunc_l0 j1 j2 hl hn hr h0 hk d (i + 1) (by omega) fun k l' m' hk' hl' hm' => ?_
      by_cases ek : k = i
      · subst ek
        rw [h1] at hl'; rw [h2] at hm'
        obtain rfl := Option.some.inj hl'
        obtain rfl := Option.some.inj hm'
        exact e
      · exact hb k l' m' (by omega) hl' hm'
    · refine qcallP1.of false (fun Q hQ => GEqual_of v1 v2 (hr l (List.mem_of_getElem? h1)) (fun _ => hQ) fun yes => absurd yes e) (iteB_pos rfl (h0 fun he => ?_))
      subst he
      rw [h1] at h2
      exact e (Option.some.inj h2)
theorem GSame_of {p1 p2 : Option Addr} {L M : List (List Int)} (j1 : JagV h p1 L) (j2 : JagV h p2 M) (hn : L.length ≤ 2 ^ 40) (hr : ∀ l ∈ L, l.length ≤ 2 ^ 40) (h0 : L ≠ M → K false h) (hk : L = M → K true h) : matrix_Same p1 L.length c1 p2 M.length c2 h K := by
  unfold matrix_Same
  refine callP1.self ?_
  unfold slices_EqualFunc_LLint64_LLint64_Lint64_Lint64_matrix_same_int64
  refine iteB_intro (fun e => h0 fun he => ?_) fun e => ⟨L.length + 1, gfunc_l0 j1 j2 ?_ hn hr h0 hk L.length 0 (by omega) fun k l m hk => by omega⟩
  · rw [he] at e; simp at e
  · have e : (L.length : Int) = (M.length : Int) := by simpa using e
    omega
theorem gsame35_l0 {p1 p2 : Option Addr} {L M : List (List Int)} (j1 : JagV h p1 L) (j2 : JagV h p2 M) (hl : L.length = M.length) (hn : L.length ≤ 2 ^ 40) (hr : ∀ l ∈ L, l.length ≤ 2 ^ 40) (h0 : L ≠ M → K0 false h) (hk : L = M → K2 h) :
    ∀ (d i : Nat), i + d = L.length → (∀ (k : Nat) (l m : List Int), k < i → L[k]? = some l → M[k]? = some m → l = m) → straitref35_Same.l0 K0 K2 (d + 1) p1 L.length c1 p2 M.length c2 (i : Int) h
  | 0, i, hi, hb => by
    unfold straitref35_Same.l0 straitref35_Same.b0
    exact iteB_neg (decide_eq_false (by omega)) (hk (rows_ext hl fun k l m h1 h2 => hb k l m (by have := lt_get h1; omega) h1 h2))
  | d + 1, i, hi, hb => by
    unfold straitref35_Same.l0 straitref35_Same.b0
    obtain ⟨l, h1⟩ := get_lt (l := L) (i := i) (by omega)
    obtain ⟨m, h2⟩ := get_lt (l := M) (i := i) (by omega)
    obtain ⟨a1, q1, d1, he1, g1, _, v1⟩ := j1.row h1
    obtain ⟨a2, q2, d2, he2, g2, _, v2⟩ := j2.row h2
    refine iteB_pos (decide_eq_true (by omega)) ?_
    rw [he1, he2]
    simp -zeta only [chkP_some, Int.toNat_natCast, Nat.mul_one]
    rw [← he1, ← he2]
    refine ⟨by omega, _, _, _, g1, by omega, _, _, _, g2, ?_⟩
    by_cases e : l = m
    · refine qcallP1.of true (fun Q hQ => GSame4_of v1 v2 (hr l (List.mem_of_getElem? h1)) (fun no => absurd e no) fun _ => hQ) (iteB_neg rfl ?_)
      rw [wrap64 (by omega) (by omega)]
      refine gsame35_l0 j1 j2 hl hn hr h0 hk d (i + 1) (by omega) fun k l' m' hk' hl' hm' => ?_
      by_cases ek : k = i
      · subst ek
        rw [h1] at hl'; rw [h2] at hm'
        obtain rfl := Option.some.inj hl'
        obtain rfl := Option.some.inj hm'
        exact e
      · exact hb k l' m' (by omega) hl' hm'
    · refine qcallP1.of false (fun Q hQ => GSame4_of v1 v2 (hr l (List.mem_of_getElem? h1)) (fun _ => hQ) fun yes => absurd yes e) (iteB_pos rfl (h0 fun he => ?_))
      subst he
      rw [h1] at h2
      exact e (Option.some.inj h2)
theorem GRSame_of {p1 p2 : Option Addr} {L M : List (List Int)} (j1 : JagV h p1 L) (j2 : JagV h p2 M) (hn : L.length ≤ 2 ^ 40) (hr : ∀ l ∈ L, l.length ≤ 2 ^ 40) (h0 : L ≠ M → K false h) (hk : L = M → K true h) : straitref35_Same p1 L.length c1 p2 M.length c2 h K := by
  unfold straitref35_Same
  refine iteB_intro (fun e => h0 fun he => ?_) fun e => ⟨L.length + 1, gsame35_l0 j1 j2 ?_ hn hr h0 hk L.length 0 (by omega) fun k l m hk => by omega⟩
  · rw [he] at e; simp at e
  · have e : (L.length : Int) = (M.length : Int) := by simpa using e
    omega
end
/-! ### Unlike numbers -/
def limJ (L : List (List Int)) (x : Nat) : Nat := min L.length (L.getD x []).length
theorem limJ_of {L : List (List Int)} {i : Nat} {l : List Int} (hl : L[i]? = some l) : limJ L i = min L.length l.length := by simp [limJ, List.getD, hl]
def seenL (L : List (List Int)) (u v x y : Nat) : Prop := x < y ∧ ((x < u ∧ y < limJ L x) ∨ (x = u ∧ y < v))
structure KeysL (L : List (List Int)) (u v : Nat) (ks : List Int) : Prop where
  mem : ∀ k, k ∈ ks ↔ ∃ x y, seenL L u v x y ∧ k = gM L x y
  len : ks.length ≤ u * L.length + v
theorem KeysL.zero (L : List (List Int)) : KeysL L 0 0 [] := ⟨fun k => ⟨(fun h => by cases h), (by rintro ⟨x, y, h, _⟩; unfold seenL at h; omega)⟩, by simp⟩
theorem KeysL.skip {L : List (List Int)} {u v : Nat} {ks : List Int} (k : KeysL L u v ks) (h : ¬ u < v) : KeysL L u (v + 1) ks := by
  refine ⟨fun x => (k.mem x).trans ⟨?_, ?_⟩, by have := k.len; omega⟩
  · rintro ⟨a, b, h1, h2⟩; exact ⟨a, b, by unfold seenL at *; omega, h2⟩
  · rintro ⟨a, b, h1, h2⟩; exact ⟨a, b, by unfold seenL at *; omega, h2⟩
theorem KeysL.put {L : List (List Int)} {u v : Nat} {ks ks' : List Int} (k : KeysL L u v ks) (h : u < v) (hm : ∀ x, x ∈ ks' ↔ x ∈ ks ∨ x = gM L u v) (hl : ks'.length ≤ ks.length + 1) : KeysL L u (v + 1) ks' := by
  refine ⟨fun x => (hm x).trans ⟨?_, ?_⟩, by have := k.len; omega⟩
  · rintro (h1 | h1)
    · obtain ⟨a, b, h2, h3⟩ := (k.mem x).1 h1
      exact ⟨a, b, by unfold seenL at *; omega, h3⟩
    · exact ⟨u, v, by unfold seenL; omega, h1⟩
  · rintro ⟨a, b, h1, h2⟩
    by_cases c : a = u ∧ b = v
    · rw [c.1, c.2] at h2; exact .inr h2
    · exact .inl ((k.mem x).2 ⟨a, b, by unfold seenL at *; omega, h2⟩)
theorem KeysL.next {L : List (List Int)} {u v : Nat} {ks : List Int} (k : KeysL L u v ks) (hv : v = limJ L u ∨ (v = u + 1 ∧ limJ L u ≤ v)) (hle : v ≤ L.length) : KeysL L (u + 1) 0 ks := by
  refine ⟨fun x => (k.mem x).trans ⟨?_, ?_⟩, by have := k.len; rw [Nat.add_mul, Nat.one_mul]; omega⟩
  · rintro ⟨a, b, h1, h2⟩
    refine ⟨a, b, ?_, h2⟩
    unfold seenL at *
    refine ⟨h1.1, .inl ?_⟩
    rcases h1.2 with h | ⟨h, h'⟩
    · exact ⟨by omega, h.2⟩
    · subst h; exact ⟨by omega, by omega⟩
  · rintro ⟨a, b, h1, h2⟩
    refine ⟨a, b, ?_, h2⟩
    unfold seenL at *
    refine ⟨h1.1, ?_⟩
    rcases h1.2 with h | ⟨h, h'⟩
    · by_cases e : a = u
      · subst e; exact .inr ⟨rfl, by omega⟩
      · exact .inl ⟨by omega, h.2⟩
    · omega
/-- What differs from the one ahead, in a row that rises. -/
theorem comp_rise {l : List Int} (hs : l.Pairwise (· ≤ ·)) : ∀ k, k ≤ l.length → (comp l k).Pairwise (· < ·) ∧ (∀ x, x ∈ comp l k ↔ x ∈ l.take k) := by
  intro k
  induction k with
  | zero => intro _; exact ⟨List.Pairwise.nil, fun x => by simp [comp]⟩
  | succ k ih =>
    intro hk
    obtain ⟨i1, i2⟩ := ih (by omega)
    obtain ⟨y, hy⟩ := get_lt (l := l) (i := k) (by omega)
    have ey : l.getD k 0 = y := by simp [List.getD, hy]
    have hle : ∀ x ∈ l.take k, x ≤ y := fun x hx => by
      obtain ⟨i, hi⟩ := List.mem_iff_getElem?.1 hx
      rw [List.getElem?_take] at hi
      split at hi
      · rename_i hik
        have h1 := lt_get hi
        have h2 := lt_get hy
        have := List.pairwise_iff_getElem.1 hs i k h1 h2 hik
        rw [List.getElem?_eq_getElem h1] at hi
        rw [List.getElem?_eq_getElem h2] at hy
        rw [← Option.some.inj hi, ← Option.some.inj hy]; exact this
      · cases hi
    rw [comp_succ, take_snoc hy, ey]
    by_cases c : k = 0 ∨ y ≠ l.getD (k - 1) 0
    · rw [if_pos c]
      refine ⟨List.pairwise_append.2 ⟨i1, List.pairwise_singleton .., fun x hx z hz => ?_⟩, fun x => by rw [List.mem_append, List.mem_append, i2]⟩
      have hz : z = y := by simpa using hz
      subst hz
      have hx := (i2 x).1 hx
      have hk0 : 0 < k := by
        rcases Nat.eq_zero_or_pos k with h | h
        · subst h; simp at hx
        · exact h
      have c : z ≠ l.getD (k - 1) 0 := c.resolve_left (by omega)
      obtain ⟨w, hw⟩ := get_lt (l := l) (i := k - 1) (by omega)
      have ew : l.getD (k - 1) 0 = w := by simp [List.getD, hw]
      rw [ew] at c
      have h1 := hle w (List.mem_iff_getElem?.2 ⟨k - 1, by rw [List.getElem?_take, if_pos (by omega)]; exact hw⟩)
      have h2 : x ≤ w := by
        obtain ⟨i, hi⟩ := List.mem_iff_getElem?.1 hx
        rw [List.getElem?_take] at hi
        split at hi
        · have h1 := lt_get hi
          have h2 := lt_get hw
          by_cases e : i = k - 1
          · subst e; rw [hi] at hw; rw [Option.some.inj hw]; exact Int.le_refl _
          · have := List.pairwise_iff_getElem.1 hs i (k - 1) h1 h2 (by omega)
            rw [List.getElem?_eq_getElem h1] at hi
            rw [List.getElem?_eq_getElem h2] at hw
            rw [← Option.some.inj hi, ← Option.some.inj hw]; exact this
        · cases hi
      omega
    · rw [if_neg c, List.append_nil]
      refine ⟨i1, fun x => ?_⟩
      rw [i2, List.mem_append]
      refine ⟨.inl, fun h => h.elim id fun h => ?_⟩
      have h : x = y := by simpa using h
      have ck : ¬ k = 0 := fun e => c (.inl e)
      have cy : y = l.getD (k - 1) 0 := Classical.byContradiction fun e => c (.inr e)
      obtain ⟨w, hw⟩ := get_lt (l := l) (i := k - 1) (by omega)
      have ew : l.getD (k - 1) 0 = w := by simp [List.getD, hw]
      rw [h, cy, ew]
      exact List.mem_iff_getElem?.2 ⟨k - 1, by rw [List.getElem?_take, if_pos (by omega)]; exact hw⟩
theorem sortI_up (l : List Int) : (sortI l).Pairwise (· ≤ ·) := by
  have := List.pairwise_mergeSort (le := fun x y : Int => decide (x ≤ y)) (fun a b c h1 h2 => by simp at *; omega) (fun a b => by simp; omega) l
  exact this.imp fun h => by simpa using h
theorem distinct_sort {ks ls : List Int} (hn : ks.Nodup) (hm : ∀ x, x ∈ ks ↔ x ∈ ls) : comp (sortI ls) ls.length = sortI ks := by
  have hlen : (sortI ls).length = ls.length := List.length_mergeSort ..
  obtain ⟨h1, h2⟩ := comp_rise (sortI_up ls) ls.length (by omega)
  have hnd : (comp (sortI ls) ls.length).Nodup := h1.imp fun h => by omega
  refine (sortI_one ((List.perm_ext_iff_of_nodup hn hnd).2 fun x => ?_) (h1.imp fun h => by omega)).symm
  rw [h2, ← hlen, List.take_length]
  exact (hm x).trans (List.mergeSort_perm ..).mem_iff.symm
end Go.Proofs.Ytfidcekobjmamaa
