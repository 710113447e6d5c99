/-
  Stable sorting: by insertion.
-/
import Derived.Test.YtfidcekobjmamaaSs1
namespace Go.Proofs.Ytfidcekobjmamaa
set_option linter.unusedVariables false
set_option linter.unusedSimpArgs false
set_option linter.unnecessarySimpa false
open Go.Hp Go.RowKit
attribute [local irreducible] Go.Hp.iteB Go.Hp.stC Go.Hp.newP

/-- What is known of the comparison: it tells keys apart, in every memory that the sort passes through. -/
def CmpOK (key : Nat → Int) (ok : Nat → Prop) (h0 : Base) (b : Nat) (z : List Value) (R : Rws) (cp : Addr) : Prop :=
  ∀ (x y : Nat) (l : List Nat) (h' : Heap) (K : Int → Heap → Prop), ok x → ok y → St h0 h' ((b, natV l ++ z) :: R) → (∀ r : Int, (r < 0 ↔ key x < key y) → K r h') → tree_Order_c1 (x : Int) (y : Int) cp h' K

section
variable {key : Nat → Int} {ok : Nat → Prop} {h0 : Base} {b c n : Nat} {R : Rws} {z : List Value} {cp : Addr}

theorem snoc_cases {α : Type} {l : List α} (h : 0 < l.length) : ∃ A y, l = A ++ [y] := by
  rcases List.eq_nil_or_concat l with rfl | ⟨A, y, e⟩
  · simp at h
  · exact ⟨A, y, by rw [e]; simp⟩

theorem insert_l1 (hc : CmpOK key ok h0 b z R cp) {K4 : Heap → Prop} (hn2 : n < 2 ^ 40) {P T : List Nat} {a2 i2 : Nat} {b2 : Int} (ha : P.length = a2) (x : Nat) (hx : ok x) :
    ∀ (d : Nat) (A B : List Nat) (h : Heap), A.length = d → (P ++ (A ++ x :: (B ++ T))).length = n → (A ++ B).Pairwise (leK key) → (∀ y ∈ B, ltK key x y) → (∀ y ∈ A, y < x ∧ ok y) →
      (∀ h', St h0 h' ((b, natV (P ++ (srt key (A ++ x :: B) ++ T)) ++ z) :: R) → K4 h') → St h0 h ((b, natV (P ++ (A ++ x :: (B ++ T))) ++ z) :: R) →
      slices_insertionSortCmpFunc_int_tree_Order_c1.l1 K4 (d + 1) (some ⟨b, 0, none⟩) n c (a2 : Int) b2 cp (i2 : Int) ((a2 + d : Nat) : Int) h
  | 0, A, B, h, hA, hl, hs, hB, hid, hk, s => by
    unfold slices_insertionSortCmpFunc_int_tree_Order_c1.l1 slices_insertionSortCmpFunc_int_tree_Order_c1.b1
    obtain rfl := List.length_eq_zero_iff.1 hA
    intro j
    refine iteB_neg (decide_eq_false (by omega)) (hk h ?_)
    rw [srt_id]
    · simpa using s
    · exact List.pairwise_cons.2 ⟨fun y hy => leK_of_lt (hB y hy), by simpa using hs⟩
  | d + 1, A, B, h, hA, hl, hs, hB, hid, hk, s => by
    unfold slices_insertionSortCmpFunc_int_tree_Order_c1.l1 slices_insertionSortCmpFunc_int_tree_Order_c1.b1
    obtain ⟨A', y, rfl⟩ := snoc_cases (l := A) (by omega)
    simp only [List.length_append, List.length_cons, List.length_nil] at hA hl
    have e1 : IntKind.i64.wrap (((a2 + (d + 1) : Nat) : Int) - 1) = ((a2 + d : Nat) : Int) := by rw [wrap_id (by omega) (by omega)]; omega
    have gx : (P ++ (A' ++ [y] ++ x :: (B ++ T)))[a2 + (d + 1)]? = some x := by
      have := lget_at (A := P ++ (A' ++ [y])) (B := B ++ T) (x := x) (i := a2 + (d + 1)) (by simp; omega)
      simpa using this
    have gy : (P ++ (A' ++ [y] ++ x :: (B ++ T)))[a2 + d]? = some y := by
      have := lget_at (A := P ++ A') (B := x :: (B ++ T)) (x := y) (i := a2 + d) (by simp; omega)
      simpa using this
    have hlen : (P ++ (A' ++ [y] ++ x :: (B ++ T))).length = n := by simp; omega
    intro j
    have J : ∀ h', j h' = (chkP (some (⟨b, 0, none⟩ : Addr)) fun a2019 => (0 ≤ ((a2 + d : Nat) : Int) ∧ ((a2 + d : Nat) : Int) < (n : Int)) ∧ ∃ (x2020 : Int), cell h' (a2019.add (((a2 + d : Nat) : Int).toNat * 1)) = some (.int .i64 x2020) ∧ chkP (some (⟨b, 0, none⟩ : Addr)) fun a2021 => (0 ≤ ((a2 + (d + 1) : Nat) : Int) ∧ ((a2 + (d + 1) : Nat) : Int) < (n : Int)) ∧ ∃ (x2022 : Int), cell h' (a2021.add (((a2 + (d + 1) : Nat) : Int).toNat * 1)) = some (.int .i64 x2022) ∧ chkP (some (⟨b, 0, none⟩ : Addr)) fun a2023 => (0 ≤ ((a2 + (d + 1) : Nat) : Int) ∧ ((a2 + (d + 1) : Nat) : Int) < (n : Int)) ∧ stC h' (a2023.add (((a2 + (d + 1) : Nat) : Int).toNat * 1)) (.int .i64 x2020) fun h2024 => chkP (some (⟨b, 0, none⟩ : Addr)) fun a2025 => (0 ≤ ((a2 + d : Nat) : Int) ∧ ((a2 + d : Nat) : Int) < (n : Int)) ∧ stC h2024 (a2025.add (((a2 + d : Nat) : Int).toNat * 1)) (.int .i64 x2022) fun h2026 => slices_insertionSortCmpFunc_int_tree_Order_c1.l1 K4 (d + 1) (some ⟨b, 0, none⟩) n c (a2 : Int) b2 cp (i2 : Int) ((a2 + d : Nat) : Int) h2026) := by
      intro h'; simp -zeta only [j, e1]
    refine iteB_pos (decide_eq_true (by omega)) ?_
    simp -zeta only [e1]
    try simp -zeta (disch := omega) only [chkP_some, iteB_true, iteB_false, add_mk, Nat.zero_add, Nat.add_zero, Nat.mul_one, Nat.reduceAdd, Int.toNat_natCast, ex_int, ex_slice, ex_ptr, ex_bool, ex_str, ex_flt, ex_any, bnd_in, List.getElem?_cons_zero, List.getElem?_cons_succ, List.set_cons_zero, List.set_cons_succ, List.cons_append, List.nil_append, bne_self_eq_false, beq_self_eq_true, Bool.not_true, Bool.not_false, Option.isNone_some, Option.isNone_none, eq_self, true_and, and_true, and_self, s.rd0, nv_get gx, nv_get gy]
    refine callP1.self (hc x y _ h _ hx (hid y (by simp)).2 s fun r hr => ?_)
    refine iteB_intro (fun e => ?_) (fun e => ?_)
    · have e : key x < key y := hr.1 (by simpa using e)
      rw [J]
      try simp -zeta (disch := omega) only [chkP_some, iteB_true, iteB_false, add_mk, Nat.zero_add, Nat.add_zero, Nat.mul_one, Nat.reduceAdd, Int.toNat_natCast, ex_int, ex_slice, ex_ptr, ex_bool, ex_str, ex_flt, ex_any, bnd_in, List.getElem?_cons_zero, List.getElem?_cons_succ, List.set_cons_zero, List.set_cons_succ, List.cons_append, List.nil_append, bne_self_eq_false, beq_self_eq_true, Bool.not_true, Bool.not_false, Option.isNone_some, Option.isNone_none, eq_self, true_and, and_true, and_self, s.rd0, nv_get gx, nv_get gy]
      refine s.st0 (show a2 + (d + 1) < _ by rw [List.length_append, natV_len, hlen]; omega) fun h5 s5 => ?_
      rw [nv_set (by omega)] at s5
      try simp -zeta (disch := omega) only [chkP_some, iteB_true, iteB_false, add_mk, Nat.zero_add, Nat.add_zero, Nat.mul_one, Nat.reduceAdd, Int.toNat_natCast, ex_int, ex_slice, ex_ptr, ex_bool, ex_str, ex_flt, ex_any, bnd_in, List.getElem?_cons_zero, List.getElem?_cons_succ, List.set_cons_zero, List.set_cons_succ, List.cons_append, List.nil_append, bne_self_eq_false, beq_self_eq_true, Bool.not_true, Bool.not_false, Option.isNone_some, Option.isNone_none, eq_self, true_and, and_true, and_self, s5.rd0]
      refine s5.st0 (show a2 + d < _ by rw [List.length_append, natV_len, List.length_set, hlen]; omega) fun h6 s6 => ?_
      rw [nv_set (by rw [List.length_set, hlen]; omega)] at s6
      have es : ((P ++ (A' ++ [y] ++ x :: (B ++ T))).set (a2 + (d + 1)) y).set (a2 + d) x = P ++ (A' ++ x :: ((y :: B) ++ T)) := by
        have u1 := lset_at (A := P ++ (A' ++ [y])) (B := B ++ T) (x := x) (y := y) (i := a2 + (d + 1)) (by simp; omega)
        have u2 := lset_at (A := P ++ A') (B := y :: (B ++ T)) (x := y) (y := x) (i := a2 + d) (by simp; omega)
        simp only [List.append_assoc, List.cons_append, List.nil_append] at u1 u2 ⊢
        rw [u1, u2]
      rw [es] at s6
      refine insert_l1 hc hn2 ha x hx d A' (y :: B) h6 (by omega) (by simp; omega) (by simpa using hs) ?_ (fun y' hy' => hid y' (by simp [hy'])) (fun h' s' => hk h' ?_) s6
      · intro y' hy'
        rcases List.mem_cons.1 hy' with rfl | hy'
        · exact .inl e
        · exact hB y' hy'
      · rw [srt_congr (m := A' ++ x :: y :: B)]
        · exact s'
        · rw [List.append_assoc]; exact List.Perm.append_left _ (List.Perm.swap _ _ _)
    · have e : ¬ key x < key y := fun h => by have := hr.2 h; simp [this] at e
      refine hk h ?_
      rw [srt_id]
      · simpa using s
      · have h1 := List.pairwise_append.1 hs
        refine List.pairwise_append.2 ⟨h1.1, List.pairwise_cons.2 ⟨fun y' hy' => leK_of_lt (hB y' hy'), h1.2.1⟩, ?_⟩
        intro u hu v hv
        rcases List.mem_cons.1 hv with rfl | hv
        · have hyx : leK key y v := by
            have := (hid y (by simp)).1
            rw [leK_iff]; omega
          rcases List.mem_append.1 hu with hu | hu
          · exact leK_trans ((List.pairwise_append.1 h1.1).2.2 u hu y (by simp)) hyx
          · simp only [List.mem_singleton] at hu; subst hu; exact hyx
        · exact h1.2.2 u hu v hv

theorem insert_l0 (hc : CmpOK key ok h0 b z R cp) {K2 : Heap → Prop} (hn2 : n < 2 ^ 40) {P T : List Nat} {a2 b2 : Nat} (ha : P.length = a2) :
    ∀ (d i : Nat) (L1 L2 : List Nat) (h : Heap), L2.length = d → a2 + L1.length = i → i + d = b2 → (P ++ (srt key L1 ++ (L2 ++ T))).length = n → (L1 ++ L2).Pairwise (· < ·) → (∀ x ∈ L1 ++ L2, ok x) →
      (∀ h', St h0 h' ((b, natV (P ++ (srt key (L1 ++ L2) ++ T)) ++ z) :: R) → K2 h') → St h0 h ((b, natV (P ++ (srt key L1 ++ (L2 ++ T))) ++ z) :: R) →
      slices_insertionSortCmpFunc_int_tree_Order_c1.l0 K2 (d + 1) (some ⟨b, 0, none⟩) n c (a2 : Int) (b2 : Int) cp (i : Int) h
  | 0, i, L1, L2, h, h2, hi, hd, hl, hid, hok, hk, s => by
    unfold slices_insertionSortCmpFunc_int_tree_Order_c1.l0 slices_insertionSortCmpFunc_int_tree_Order_c1.b0
    obtain rfl := List.length_eq_zero_iff.1 h2
    exact iteB_neg (decide_eq_false (by omega)) (hk h (by simpa using s))
  | d + 1, i, L1, L2, h, h2, hi, hd, hl, hid, hok, hk, s => by
    unfold slices_insertionSortCmpFunc_int_tree_Order_c1.l0 slices_insertionSortCmpFunc_int_tree_Order_c1.b0
    obtain ⟨x, L3, rfl⟩ : ∃ x L3, L2 = x :: L3 := by cases L2 with
      | nil => simp at h2
      | cons x L3 => exact ⟨x, L3, rfl⟩
    simp only [List.length_append, List.length_cons, srt_len] at hl h2
    refine iteB_pos (decide_eq_true (by omega)) ⟨L1.length + 1, ?_⟩
    have h1 := insert_l1 (c := c) (b2 := (b2 : Int)) (i2 := i) (P := P) (T := L3 ++ T) (a2 := a2) hc (K4 := fun h' => slices_insertionSortCmpFunc_int_tree_Order_c1.l0 K2 (d + 1) (some ⟨b, 0, none⟩) n c (a2 : Int) (b2 : Int) cp ((i + 1 : Nat) : Int) h') hn2 ha x (hok x (by simp)) L1.length (srt key L1) [] h (srt_len _) (by simp [srt_len]; omega) (by simpa using srt_up L1) (by simp)
      (fun y hy => ⟨(List.pairwise_append.1 hid).2.2 y (mem_srt.1 hy) x (by simp), hok y (by simp [mem_srt.1 hy])⟩) (fun h' s' => ?_) (by simpa using s)
    · rw [hi] at h1
      rw [wrap_id (by omega) (by omega)]; exact h1
    · refine insert_l0 (T := T) hc hn2 ha d (i + 1) (L1 ++ [x]) L3 h' (by omega) (by simp; omega) (by omega) (by simp [srt_len]; omega) (by simpa using hid) (by simpa using hok) (by simpa using hk) ?_
      rw [srt_congr (m := srt key L1 ++ [x])]
      · simpa using s'
      · exact (srt_perm L1).symm.append_right _
theorem insert_of (hc : CmpOK key ok h0 b z R cp) {h : Heap} {K : Heap → Prop} (hn2 : n < 2 ^ 40) {P L T : List Nat} {a2 b2 : Int} (ha : a2 = (P.length : Int)) (hb : b2 = ((P.length + L.length : Nat) : Int)) (hl : (P ++ (L ++ T)).length = n) (hid : L.Pairwise (· < ·)) (hok : ∀ x ∈ L, ok x)
    (hk : ∀ h', St h0 h' ((b, natV (P ++ (srt key L ++ T)) ++ z) :: R) → K h') (s : St h0 h ((b, natV (P ++ (L ++ T)) ++ z) :: R)) : slices_insertionSortCmpFunc_int_tree_Order_c1 (some ⟨b, 0, none⟩) n c a2 b2 cp h K := by
  unfold slices_insertionSortCmpFunc_int_tree_Order_c1
  subst ha hb
  simp only [List.length_append] at hl
  cases L with
  | nil =>
    refine ⟨1, ?_⟩
    unfold slices_insertionSortCmpFunc_int_tree_Order_c1.l0 slices_insertionSortCmpFunc_int_tree_Order_c1.b0
    rw [wrap_id (by omega) (by omega)]
    exact iteB_neg (decide_eq_false (by simp; omega)) (hk h (by simpa [srt] using s))
  | cons x L =>
    simp only [List.length_cons] at hl
    rw [wrap_id (by omega) (by omega)]
    have e : srt key [x] = [x] := srt_id (List.pairwise_singleton _ _)
    exact ⟨L.length + 1, insert_l0 (T := T) hc hn2 rfl L.length (P.length + 1) [x] L h rfl rfl (by simp; omega) (by rw [e]; simp; omega) (by simpa using hid) (by simpa using hok) (by simpa using hk) (by rw [e]; simpa using s)⟩
end
end Go.Proofs.Ytfidcekobjmamaa
