/-
  Stable sorting: ranges swapped, and turned.
-/
import Derived.Test.YtfidcekobjmamaaSs0
import Derived.Test.YtfidcekobjmamaaG3
namespace Go.Proofs.Ytfidcekobjmamaa
set_option linter.unusedVariables false
set_option linter.unusedSimpArgs false
set_option linter.unnecessarySimpa false
open Go.Hp Go.RowKit
attribute [local irreducible] Go.Hp.iteB Go.Hp.stC Go.Hp.newP

section
variable {h0 : Base} {b c n : Nat} {R : Rws} {z : List Value} {cp : Addr}

theorem swapRange_l0 {K2 : Heap → Prop} {P Q S : List Nat} {a2 b2 n2 : Nat} (hn2 : n < 2 ^ 40) (ha : P.length = a2) (hb : P.length + n2 + Q.length = b2) :
    ∀ (d t : Nat) (X1 Y1 X2 Y2 : List Nat) (h : Heap), X1.length = t → Y1.length = t → X2.length = d → Y2.length = d → t + d = n2 → (P ++ (Y1 ++ (X2 ++ (Q ++ (X1 ++ (Y2 ++ S)))))).length = n →
      (∀ h', St h0 h' ((b, natV (P ++ (Y1 ++ Y2 ++ (Q ++ (X1 ++ X2 ++ S)))) ++ z) :: R) → K2 h') → St h0 h ((b, natV (P ++ (Y1 ++ (X2 ++ (Q ++ (X1 ++ (Y2 ++ S)))))) ++ z) :: R) →
      slices_swapRangeCmpFunc_int_tree_Order_c1.l0 K2 (d + 1) (some ⟨b, 0, none⟩) n c (a2 : Int) (b2 : Int) (n2 : Int) (t : Int) h
  | 0, t, X1, Y1, X2, Y2, h, h1, h2, h3, h4, hd, hl, hk, s => by
    unfold slices_swapRangeCmpFunc_int_tree_Order_c1.l0 slices_swapRangeCmpFunc_int_tree_Order_c1.b0
    obtain rfl := List.length_eq_zero_iff.1 h3
    obtain rfl := List.length_eq_zero_iff.1 h4
    exact iteB_neg (decide_eq_false (by omega)) (hk h (by simpa using s))
  | d + 1, t, X1, Y1, X2, Y2, h, h1, h2, h3, h4, hd, hl, hk, s => by
    unfold slices_swapRangeCmpFunc_int_tree_Order_c1.l0 slices_swapRangeCmpFunc_int_tree_Order_c1.b0
    obtain ⟨x, X3, rfl⟩ : ∃ x X3, X2 = x :: X3 := by cases X2 with
      | nil => simp at h3
      | cons x X3 => exact ⟨x, X3, rfl⟩
    obtain ⟨y, Y3, rfl⟩ : ∃ y Y3, Y2 = y :: Y3 := by cases Y2 with
      | nil => simp at h4
      | cons y Y3 => exact ⟨y, Y3, rfl⟩
    simp only [List.length_append, List.length_cons] at hl h3 h4
    have e1 : IntKind.i64.wrap ((b2 : Int) + (t : Int)) = ((b2 + t : Nat) : Int) := by rw [wrap_id (by omega) (by omega)]; omega
    have e2 : IntKind.i64.wrap ((a2 : Int) + (t : Int)) = ((a2 + t : Nat) : Int) := by rw [wrap_id (by omega) (by omega)]; omega
    have gy : (P ++ (Y1 ++ x :: (X3 ++ (Q ++ (X1 ++ y :: (Y3 ++ S))))))[b2 + t]? = some y := by
      have := lget_at (A := P ++ (Y1 ++ x :: (X3 ++ (Q ++ X1)))) (B := Y3 ++ S) (x := y) (i := b2 + t) (by simp; omega)
      simpa using this
    have gx : (P ++ (Y1 ++ x :: (X3 ++ (Q ++ (X1 ++ y :: (Y3 ++ S))))))[a2 + t]? = some x := by
      have := lget_at (A := P ++ Y1) (B := X3 ++ (Q ++ (X1 ++ (y :: Y3 ++ S)))) (x := x) (i := a2 + t) (by simp; omega)
      simpa using this
    refine iteB_pos (decide_eq_true (by omega)) ?_
    simp only [e1, e2]
    simp only [List.cons_append] at s
    try simp -zeta (disch := omega) only [chkP_some, iteB_true, iteB_false, add_mk, Nat.zero_add, Nat.add_zero, Nat.mul_one, Nat.reduceAdd, Int.toNat_natCast, ex_int, ex_slice, ex_ptr, ex_bool, ex_str, ex_flt, ex_any, bnd_in, List.getElem?_cons_zero, List.getElem?_cons_succ, List.set_cons_zero, List.set_cons_succ, List.cons_append, List.nil_append, bne_self_eq_false, beq_self_eq_true, Bool.not_true, Bool.not_false, Option.isNone_some, Option.isNone_none, eq_self, true_and, and_true, and_self, s.rd0, nv_get gy, nv_get gx]
    have hlen : (P ++ (Y1 ++ x :: (X3 ++ (Q ++ (X1 ++ y :: (Y3 ++ S)))))).length = n := by simp; omega
    refine s.st0 (show a2 + t < _ by rw [List.length_append, natV_len, hlen]; omega) fun h5 s5 => ?_
    rw [nv_set (by omega)] at s5
    try simp -zeta (disch := omega) only [chkP_some, iteB_true, iteB_false, add_mk, Nat.zero_add, Nat.add_zero, Nat.mul_one, Nat.reduceAdd, Int.toNat_natCast, ex_int, ex_slice, ex_ptr, ex_bool, ex_str, ex_flt, ex_any, bnd_in, List.getElem?_cons_zero, List.getElem?_cons_succ, List.set_cons_zero, List.set_cons_succ, List.cons_append, List.nil_append, bne_self_eq_false, beq_self_eq_true, Bool.not_true, Bool.not_false, Option.isNone_some, Option.isNone_none, eq_self, true_and, and_true, and_self, s5.rd0]
    refine s5.st0 (show b2 + t < _ by rw [List.length_append, natV_len, List.length_set, hlen]; omega) fun h6 s6 => ?_
    rw [nv_set (by rw [List.length_set, hlen]; omega)] at s6
    rw [wrap_id (by omega) (by omega)]
    have es : ((P ++ (Y1 ++ x :: (X3 ++ (Q ++ (X1 ++ y :: (Y3 ++ S)))))).set (a2 + t) y).set (b2 + t) x = P ++ ((Y1 ++ [y]) ++ (X3 ++ (Q ++ ((X1 ++ [x]) ++ (Y3 ++ S))))) := by
      have u1 := lset_at (A := P ++ Y1) (B := X3 ++ (Q ++ (X1 ++ (y :: Y3 ++ S)))) (x := x) (y := y) (i := a2 + t) (by simp; omega)
      have u2 := lset_at (A := P ++ (Y1 ++ (y :: X3 ++ (Q ++ X1)))) (B := Y3 ++ S) (x := y) (y := x) (i := b2 + t) (by simp; omega)
      simp only [List.append_assoc, List.cons_append] at u1 u2 ⊢
      rw [u1, u2]; simp
    rw [es] at s6
    exact swapRange_l0 hn2 ha hb d (t + 1) (X1 ++ [x]) (Y1 ++ [y]) X3 Y3 h6 (by simp; omega) (by simp; omega) (by omega) (by omega) (by omega) (by simp; omega) (by simpa using hk) s6
theorem swapRange_of {h : Heap} {K : Heap → Prop} {P X Q Y S : List Nat} {a2 b2 n2 : Int} (hn2 : n < 2 ^ 40) (hl : (P ++ (X ++ (Q ++ (Y ++ S)))).length = n) (ha : a2 = (P.length : Int)) (hb : b2 = ((P.length + X.length + Q.length : Nat) : Int)) (hxy : X.length = Y.length) (h2 : n2 = (X.length : Int))
    (s : St h0 h ((b, natV (P ++ (X ++ (Q ++ (Y ++ S)))) ++ z) :: R)) (hk : ∀ h', St h0 h' ((b, natV (P ++ (Y ++ (Q ++ (X ++ S)))) ++ z) :: R) → K h') :
    slices_swapRangeCmpFunc_int_tree_Order_c1 (some ⟨b, 0, none⟩) n c a2 b2 n2 cp h K := by
  unfold slices_swapRangeCmpFunc_int_tree_Order_c1
  subst ha hb h2
  exact ⟨X.length + 1, swapRange_l0 hn2 rfl rfl X.length 0 [] [] X Y h rfl rfl rfl hxy.symm (by omega) (by simpa using hl) (by simpa using hk) (by simpa using s)⟩

theorem ltN {a b : Nat} (h : (a : Int) < (b : Int)) : a < b := by omega
theorem leN {a b : Nat} (h : (a : Int) ≤ (b : Int)) : a ≤ b := by omega
theorem eqN {a b : Nat} (h : (a : Int) = (b : Int)) : a = b := by omega
theorem rotate_l0 {K2 : Int → Heap → Prop} {m : Nat} (hn2 : n < 2 ^ 40) {F : List Nat}
    (hk : ∀ (P U V S : List Nat) (h' : Heap), U.length = V.length → P.length + U.length = m → (P ++ (U ++ (V ++ S))).length = n → P ++ (V ++ (U ++ S)) = F → St h0 h' ((b, natV (P ++ (U ++ (V ++ S))) ++ z) :: R) → K2 (U.length : Int) h') :
    ∀ (d : Nat) (P U V S : List Nat) (h : Heap), U.length + V.length ≤ d → 0 < U.length → 0 < V.length → P.length + U.length = m → (P ++ (U ++ (V ++ S))).length = n → P ++ (V ++ (U ++ S)) = F → St h0 h ((b, natV (P ++ (U ++ (V ++ S))) ++ z) :: R) →
      slices_rotateCmpFunc_int_tree_Order_c1.l0 K2 (d + 1) (some ⟨b, 0, none⟩) n c (m : Int) cp (U.length : Int) (V.length : Int) h
  | 0, P, U, V, S, h, hd, hu, hv, hm, hl, hF, s => by omega
  | d + 1, P, U, V, S, h, hd, hu, hv, hm, hl, hF, s => by
    unfold slices_rotateCmpFunc_int_tree_Order_c1.l0 slices_rotateCmpFunc_int_tree_Order_c1.b0
    simp only [List.length_append] at hl
    refine iteB_intro (fun e => ?_) (fun e => hk P U V S h (eqN (by simpa using e)) hm (by simp; omega) hF s)
    have e : U.length ≠ V.length := fun h => by simp [h] at e
    refine iteB_intro (fun e2 => ?_) (fun e2 => ?_)
    · have e2 : V.length < U.length := ltN (by simpa using e2)
      obtain ⟨U1, U2, rfl, h1⟩ : ∃ U1 U2, U = U1 ++ U2 ∧ U1.length = V.length := ⟨U.take V.length, U.drop V.length, by simp, by simp; omega⟩
      simp only [List.length_append] at hd hu hv hm hl e e2 ⊢
      refine callP0.self (swapRange_of (P := P) (X := U1) (Q := U2) (Y := V) (S := S) hn2 (by simp; omega) ?_ ?_ h1 (by omega) (by simpa using s) fun h' s' => ?_)
      · rw [wrap_id (by omega) (by omega)]; omega
      · omega
      · rw [wrap_id (by omega) (by omega), show ((U1.length + U2.length : Nat) : Int) - (V.length : Int) = (U2.length : Int) by omega, ← h1]
        exact rotate_l0 (F := F) hn2 hk d (P ++ V) U2 U1 S h' (by omega) (by omega) (by omega) (by simp; omega) (by simp; omega) (by rw [← hF]; simp) (by simpa using s')
    · have e2 : U.length < V.length := Nat.lt_of_le_of_ne (leN (by simpa using e2)) e
      obtain ⟨V1, V2, rfl, h1⟩ : ∃ V1 V2, V = V1 ++ V2 ∧ V2.length = U.length := ⟨V.take (V.length - U.length), V.drop (V.length - U.length), by simp, by simp; omega⟩
      simp only [List.length_append] at hd hu hv hm hl e e2 ⊢
      unfold bindV
      refine callP0.self (swapRange_of (P := P) (X := U) (Q := V1) (Y := V2) (S := S) hn2 (by simp; omega) ?_ ?_ h1.symm rfl (by simpa using s) fun h' s' => ?_)
      · rw [wrap_id (by omega) (by omega)]; omega
      · rw [wrap_id (x := (m : Int) + _) (by omega) (by omega), wrap_id (by omega) (by omega)]; omega
      · rw [wrap_id (by omega) (by omega), show ((V1.length + V2.length : Nat) : Int) - (U.length : Int) = (V1.length : Int) by omega, ← h1]
        exact rotate_l0 (F := F) hn2 hk d P V2 V1 (U ++ S) h' (by omega) (by omega) (by omega) (by omega) (by simp; omega) (by rw [← hF]; simp) (by simpa using s')
theorem rotate_of {h : Heap} {K : Heap → Prop} {P U V S : List Nat} {a2 m2 b2 : Int} (hn2 : n < 2 ^ 40) (hl : (P ++ (U ++ (V ++ S))).length = n) (hu : 0 < U.length) (hv : 0 < V.length) (ha : a2 = (P.length : Int)) (hm : m2 = ((P.length + U.length : Nat) : Int)) (hb : b2 = ((P.length + U.length + V.length : Nat) : Int))
    (s : St h0 h ((b, natV (P ++ (U ++ (V ++ S))) ++ z) :: R)) (hk : ∀ h', St h0 h' ((b, natV (P ++ (V ++ (U ++ S))) ++ z) :: R) → K h') :
    slices_rotateCmpFunc_int_tree_Order_c1 (some ⟨b, 0, none⟩) n c a2 m2 b2 cp h K := by
  unfold slices_rotateCmpFunc_int_tree_Order_c1
  subst ha hm hb
  simp only [List.length_append] at hl
  rw [wrap_id (by omega) (by omega), wrap_id (by omega) (by omega), show ((P.length + U.length : Nat) : Int) - (P.length : Int) = (U.length : Int) by omega, show ((P.length + U.length + V.length : Nat) : Int) - ((P.length + U.length : Nat) : Int) = (V.length : Int) by omega]
  refine ⟨_, rotate_l0 (F := P ++ (V ++ (U ++ S))) hn2 (fun P' U' V' S' h' h1 h2 h3 h4 s' => ?_) _ P U V S h (Nat.le_refl _) hu hv rfl (by simp; omega) rfl s⟩
  simp only [List.length_append] at h3
  refine callP0.self (swapRange_of (P := P') (X := U') (Q := []) (Y := V') (S := S') hn2 (by simp; omega) ?_ ?_ h1 rfl (by simpa using s') fun h6 s6 => hk h6 (by rw [← h4]; simpa using s6))
  · rw [wrap_id (by omega) (by omega)]; omega
  · simp; omega
end
end Go.Proofs.Ytfidcekobjmamaa
