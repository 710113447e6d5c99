/-
  Stable sorting: symMerge, whole.
-/
import Derived.Test.YtfidcekobjmamaaSs4
namespace Go.Proofs.Ytfidcekobjmamaa
set_option linter.unusedVariables false
set_option linter.unusedSimpArgs false
set_option linter.unnecessarySimpa false
open Go.Hp Go.RowKit
attribute [local irreducible] Go.Hp.iteB Go.Hp.stC Go.Hp.newP

section
variable {key : Nat → Int} {ok : Nat → Prop} {h0 : Base} {b c n : Nat} {R : Rws} {z : List Value} {cp : Addr}

theorem sym_one_left (hc : CmpOK key ok h0 b z R cp) (hn2 : n < 2 ^ 40) {P B T : List Nat} {x : Nat} {h : Heap} {K : Heap → Prop} (hB : B.Pairwise (leK key)) (hid : ∀ y ∈ B, x < y) (hok : ∀ x' ∈ all4 P [x] B T, ok x') (hl : (all4 P [x] B T).length = n)
    (hk : ∀ h', St h0 h' ((b, natV (P ++ (srt key ([x] ++ B) ++ T)) ++ z) :: R) → K h') (s : St h0 h ((b, natV (all4 P [x] B T) ++ z) :: R)) :
    ∃ m8, slices_symMergeCmpFunc_int_tree_Order_c1.l0 (fun z6 h7 => ∃ m10, slices_symMergeCmpFunc_int_tree_Order_c1.l1 (fun h9 => K h9) m10 (some ⟨b, 0, none⟩) n c z6 (P.length : Int) h7) m8 (some ⟨b, 0, none⟩) n c (P.length : Int) cp ((P.length + 1 : Nat) : Int) ((P.length + 1 + B.length : Nat) : Int) h := by
  have hln : P.length + (1 + (B.length + T.length)) = n := by rw [← hl]; simp [all4]; omega
  have gx : (all4 P [x] B T)[P.length]? = some x := lget_at rfl
  refine ⟨n + 1, sym_l0 (lo := P.length + 1) (hi := P.length + 1 + B.length) hc hn2 hl hok gx (by omega) ?_ (fun p f => ?_) s n (P.length + 1) (P.length + 1 + B.length) (by omega) (SInv.start (by omega))⟩
  · intro t u h1 h2 h3 h4
    have := gB (P := P) (A := [x]) (T := T) hB (t := t) (u := u) (by simpa using h1) h2 (by simpa using h3)
    show key _ < key x
    have h4 : key ((all4 P [x] B T).getD u 0) < key x := h4
    omega
  · have f1 := f.b1; have f2 := f.b2
    have e1 : ∀ y ∈ B.take (p - (P.length + 1)), leK key y x := fun y hy => by
      obtain ⟨t, t1, t2, t3, rfl⟩ := mem_takeB (P := P) (A := [x]) (T := T) hy
      simp only [List.length_singleton] at t1 t2
      have := f.yes t t1 (by omega)
      exact leK_of_lt (.inl this)
    have e2 : ∀ y ∈ B.drop (p - (P.length + 1)), leK key x y := fun y hy => by
      have hyB := List.mem_of_mem_drop hy
      obtain ⟨t, t1, t2, rfl⟩ := mem_dropB (P := P) (A := [x]) (T := T) hy
      simp only [List.length_singleton] at t1 t2
      have := f.no t (by omega) t2
      have := hid _ hyB
      rw [leK_iff]; omega
    have es := one_left (key := key) (B1 := B.take (p - (P.length + 1))) (B2 := B.drop (p - (P.length + 1))) (x := x) (by rw [List.take_append_drop]; exact hB) e1 e2
    rw [List.take_append_drop] at es
    have hb1 : (B.take (p - (P.length + 1))).length = p - (P.length + 1) := by simp; omega
    have eB : B.take (p - (P.length + 1)) ++ B.drop (p - (P.length + 1)) = B := List.take_append_drop _ _
    generalize B.take (p - (P.length + 1)) = B1 at *
    generalize B.drop (p - (P.length + 1)) = B2 at *
    subst eB
    have h1 := sym_l1 (K4 := fun h9 => K h9) (c := c) (z := z) (R := R) (h0 := h0) (b := b) hn2 (P := P) (T := B2 ++ T) (x := x) (i2 := (p : Int)) (F := P ++ (srt key ([x] ++ (B1 ++ B2)) ++ T)) hk B1.length [] B1 h rfl (by simp; omega) (by simp at hln ⊢; omega) (by rw [es]; simp) (by simpa [all4] using s)
    exact ⟨B1.length + 1, by simpa using h1⟩

theorem sym_one_right (hc : CmpOK key ok h0 b z R cp) (hn2 : n < 2 ^ 40) {P A T : List Nat} {y : Nat} {h : Heap} {K : Heap → Prop} (hA : A.Pairwise (leK key)) (hid : ∀ x ∈ A, x < y) (hok : ∀ x' ∈ all4 P A [y] T, ok x') (hl : (all4 P A [y] T).length = n)
    (hk : ∀ h', St h0 h' ((b, natV (P ++ (srt key (A ++ [y]) ++ T)) ++ z) :: R) → K h') (s : St h0 h ((b, natV (all4 P A [y] T) ++ z) :: R)) :
    ∃ m13, slices_symMergeCmpFunc_int_tree_Order_c1.l2 (fun z11 h12 => ∃ m15, slices_symMergeCmpFunc_int_tree_Order_c1.l3 (fun h14 => K h14) m15 (some ⟨b, 0, none⟩) n c z11 ((P.length + A.length : Nat) : Int) h12) m13 (some ⟨b, 0, none⟩) n c ((P.length + A.length : Nat) : Int) cp (P.length : Int) ((P.length + A.length : Nat) : Int) h := by
  have hln : P.length + (A.length + (1 + T.length)) = n := by rw [← hl]; simp [all4]; omega
  have gy : (all4 P A [y] T)[P.length + A.length]? = some y := by
    have := lget_at (A := P ++ A) (B := T) (x := y) (i := P.length + A.length) (by simp)
    simpa [all4] using this
  refine ⟨n + 1, sym_l2 (lo := P.length) (hi := P.length + A.length) hc hn2 hl hok gy (by omega) ?_ (fun p f => ?_) s n P.length (P.length + A.length) (by omega) (SInv.start (by omega))⟩
  · intro t u h1 h2 h3 h4
    have := gA (P := P) (B := [y]) (T := T) hA (t := t) (u := u) h1 h2 h3
    have h4 : ¬ key y < key ((all4 P A [y] T).getD u 0) := h4
    show ¬ key y < key _
    omega
  · have f1 := f.b1; have f2 := f.b2
    have e1 : ∀ x ∈ A.take (p - P.length), leK key x y := fun x hx => by
      have hxA := List.mem_of_mem_take hx
      obtain ⟨t, t1, t2, t3, rfl⟩ := mem_takeA (P := P) (B := [y]) (T := T) hx
      have := f.yes t t1 (by omega)
      have := hid _ hxA
      rw [leK_iff]; omega
    have e2 : ∀ x ∈ A.drop (p - P.length), leK key y x := fun x hx => by
      obtain ⟨t, t1, t2, rfl⟩ := mem_dropA (P := P) (B := [y]) (T := T) hx
      have := f.no t (by omega) t2
      exact leK_of_lt (.inl (by omega))
    have es := one_left (key := key) (B1 := A.take (p - P.length)) (B2 := A.drop (p - P.length)) (x := y) (by rw [List.take_append_drop]; exact hA) e1 e2
    rw [List.take_append_drop, srt_congr (m := A ++ [y]) List.perm_append_comm] at es
    have hb1 : (A.take (p - P.length)).length = p - P.length := by simp; omega
    have eA : A.take (p - P.length) ++ A.drop (p - P.length) = A := List.take_append_drop _ _
    generalize A.take (p - P.length) = A1 at *
    generalize A.drop (p - P.length) = A2 at *
    subst eA
    simp only [List.length_append] at hln f2
    have h1 := sym_l3 (K8 := fun h14 => K h14) (c := c) (z := z) (R := R) (h0 := h0) (b := b) hn2 (P := P ++ A1) (T := T) (y := y) (F := P ++ (srt key (A1 ++ A2 ++ [y]) ++ T)) hk A2.length A2 [] h rfl (by simp; omega) (by rw [es]; simp) (by simpa [all4] using s)
    refine ⟨A2.length + 1, ?_⟩
    rw [show (p : Int) = ((P ++ A1).length : Int) by simp; omega, show P.length + (A1 ++ A2).length = (P ++ A1).length + A2.length by simp; omega]
    exact h1

/-- Which bounds the search has. -/
def Bounds (P A B : List Nat) (M lo hi : Nat) : Prop := (lo = P.length ∧ hi = P.length + A.length ∧ P.length + A.length ≤ M) ∨ (lo = M - B.length ∧ hi = M ∧ M < P.length + A.length)
theorem sym_mono {P A B T : List Nat} {M lo hi : Nat} (hA : A.Pairwise (leK key)) (hB : B.Pairwise (leK key)) (hM : M = (P.length + (P.length + A.length + B.length)) / 2) (hb : Bounds P A B M lo hi) (h1 : 0 < A.length) (h2 : 0 < B.length) :
    Mono (fun t => ¬ key ((all4 P A B T).getD (M + (P.length + A.length) - 1 - t) 0) < key ((all4 P A B T).getD t 0)) lo hi := by
  intro t u t1 t2 t3 hu
  have hu : ¬ key ((all4 P A B T).getD (M + (P.length + A.length) - 1 - u) 0) < key ((all4 P A B T).getD u 0) := hu
  show ¬ key ((all4 P A B T).getD (M + (P.length + A.length) - 1 - t) 0) < key ((all4 P A B T).getD t 0)
  have ga := gA (P := P) (B := B) (T := T) hA (t := t) (u := u) (by rcases hb with hb | hb <;> omega) t2 (by rcases hb with hb | hb <;> omega)
  have gb := gB (P := P) (A := A) (T := T) hB (t := M + (P.length + A.length) - 1 - u) (u := M + (P.length + A.length) - 1 - t) (by rcases hb with hb | hb <;> omega) (by omega) (by rcases hb with hb | hb <;> omega)
  omega
theorem sym_found {P A B T : List Nat} {M lo hi p : Nat} (hA : A.Pairwise (leK key)) (hB : B.Pairwise (leK key)) (hid : ∀ x ∈ A, ∀ y ∈ B, x < y) (hM : M = (P.length + (P.length + A.length + B.length)) / 2) (hb : Bounds P A B M lo hi) (h1 : 0 < A.length) (h2 : 0 < B.length)
    (f : Found (fun t => ¬ key ((all4 P A B T).getD (M + (P.length + A.length) - 1 - t) 0) < key ((all4 P A B T).getD t 0)) lo hi p) :
    P.length ≤ p ∧ p ≤ P.length + A.length ∧ p ≤ M ∧ M ≤ p + B.length ∧ (∀ x ∈ A.take (p - P.length), ∀ y ∈ B.drop (M - p), leK key x y) ∧ (∀ y ∈ B.take (M - p), ∀ x ∈ A.drop (p - P.length), leK key y x) := by
  have f1 := f.b1; have f2 := f.b2
  refine ⟨by rcases hb with hb | hb <;> omega, by rcases hb with hb | hb <;> omega, by rcases hb with hb | hb <;> omega, by rcases hb with hb | hb <;> omega, ?_, ?_⟩
  · intro x hx y hy
    have hxA := List.mem_of_mem_take hx
    have hyB := List.mem_of_mem_drop hy
    obtain ⟨t, t1, t2, t3, rfl⟩ := mem_takeA (P := P) (B := B) (T := T) hx
    obtain ⟨u, u1, u2, rfl⟩ := mem_dropB (P := P) (A := A) (T := T) hy
    have hlt := hid _ hxA _ hyB
    have hp : lo ≤ p - 1 ∧ p - 1 < p := by rcases hb with hb | hb <;> omega
    have hy := f.yes (p - 1) hp.1 hp.2
    have hy : ¬ key ((all4 P A B T).getD (M + (P.length + A.length) - 1 - (p - 1)) 0) < key ((all4 P A B T).getD (p - 1) 0) := hy
    have ga := gA (P := P) (B := B) (T := T) hA (t := t) (u := p - 1) t1 (by omega) (by rcases hb with hb | hb <;> omega)
    have gb := gB (P := P) (A := A) (T := T) hB (t := M + (P.length + A.length) - 1 - (p - 1)) (u := u) (by rcases hb with hb | hb <;> omega) (by rcases hb with hb | hb <;> omega) u2
    rw [leK_iff]; omega
  · intro y hy x hx
    obtain ⟨t, t1, t2, rfl⟩ := mem_dropA (P := P) (B := B) (T := T) hx
    obtain ⟨u, u1, u2, u3, rfl⟩ := mem_takeB (P := P) (A := A) (T := T) hy
    have hn := f.no p (Nat.le_refl _) (by rcases hb with hb | hb <;> omega)
    have hn : ¬ ¬ key ((all4 P A B T).getD (M + (P.length + A.length) - 1 - p) 0) < key ((all4 P A B T).getD p 0) := hn
    have ga := gA (P := P) (B := B) (T := T) hA (t := p) (u := t) (by rcases hb with hb | hb <;> omega) (by rcases hb with hb | hb <;> omega) t2
    have gb := gB (P := P) (A := A) (T := T) hB (t := u) (u := M + (P.length + A.length) - 1 - p) u1 (by rcases hb with hb | hb <;> omega) (by rcases hb with hb | hb <;> omega)
    exact leK_of_lt (.inl (by omega))

theorem sym_tail {P A B T : List Nat} {h : Heap} {K : Heap → Prop} {N M p : Nat} (ih : ∀ (P A B T : List Nat), A.length + B.length ≤ N → SymAt key ok h0 b c n R z cp P A B T) (hn2 : n < 2 ^ 40) (hA : A.Pairwise (leK key)) (hB : B.Pairwise (leK key)) (hid : ∀ x ∈ A, ∀ y ∈ B, x < y) (hok : ∀ x ∈ all4 P A B T, ok x) (hl : (all4 P A B T).length = n)
    (hM : M = (P.length + (P.length + A.length + B.length)) / 2) (hN : A.length + B.length ≤ N + 1) (hN2 : 2 ≤ A.length + B.length) (hp1 : P.length ≤ p) (hp2 : p ≤ P.length + A.length) (he1 : p ≤ M) (he2 : M ≤ p + B.length)
    (hle1 : ∀ x ∈ A.take (p - P.length), ∀ y ∈ B.drop (M - p), leK key x y) (hle2 : ∀ y ∈ B.take (M - p), ∀ x ∈ A.drop (p - P.length), leK key y x)
    (hk : ∀ h', St h0 h' ((b, natV (P ++ (srt key (A ++ B) ++ T)) ++ z) :: R) → K h') (s : St h0 h ((b, natV (all4 P A B T) ++ z) :: R)) {E : Int} (hE : E = ((M + (P.length + A.length) - p : Nat) : Int)) :
    iteB (decide ((p : Int) < ((P.length + A.length : Nat) : Int))) (iteB (decide (((P.length + A.length : Nat) : Int) < E)) (callP0 (slices_rotateCmpFunc_int_tree_Order_c1 (some ⟨b, 0, none⟩) n c (p : Int) ((P.length + A.length : Nat) : Int) E cp h) fun h27 =>
        iteB (decide ((P.length : Int) < (p : Int))) (iteB (decide ((p : Int) < (M : Int))) (callP0 (slices_symMergeCmpFunc_int_tree_Order_c1_rec (some ⟨b, 0, none⟩) n c (P.length : Int) (p : Int) (M : Int) cp h27) fun h32 =>
          iteB (decide ((M : Int) < E)) (iteB (decide (E < ((P.length + A.length + B.length : Nat) : Int))) (callP0 (slices_symMergeCmpFunc_int_tree_Order_c1_rec (some ⟨b, 0, none⟩) n c (M : Int) E ((P.length + A.length + B.length : Nat) : Int) cp h32) fun h36 => K h36) (K h32)) (K h32))
          (iteB (decide ((M : Int) < E)) (iteB (decide (E < ((P.length + A.length + B.length : Nat) : Int))) (callP0 (slices_symMergeCmpFunc_int_tree_Order_c1_rec (some ⟨b, 0, none⟩) n c (M : Int) E ((P.length + A.length + B.length : Nat) : Int) cp h27) fun h36 => K h36) (K h27)) (K h27)))
          (iteB (decide ((M : Int) < E)) (iteB (decide (E < ((P.length + A.length + B.length : Nat) : Int))) (callP0 (slices_symMergeCmpFunc_int_tree_Order_c1_rec (some ⟨b, 0, none⟩) n c (M : Int) E ((P.length + A.length + B.length : Nat) : Int) cp h27) fun h36 => K h36) (K h27)) (K h27)))
      (iteB (decide ((P.length : Int) < (p : Int))) (iteB (decide ((p : Int) < (M : Int))) (callP0 (slices_symMergeCmpFunc_int_tree_Order_c1_rec (some ⟨b, 0, none⟩) n c (P.length : Int) (p : Int) (M : Int) cp h) fun h32 =>
          iteB (decide ((M : Int) < E)) (iteB (decide (E < ((P.length + A.length + B.length : Nat) : Int))) (callP0 (slices_symMergeCmpFunc_int_tree_Order_c1_rec (some ⟨b, 0, none⟩) n c (M : Int) E ((P.length + A.length + B.length : Nat) : Int) cp h32) fun h36 => K h36) (K h32)) (K h32))
          (iteB (decide ((M : Int) < E)) (iteB (decide (E < ((P.length + A.length + B.length : Nat) : Int))) (callP0 (slices_symMergeCmpFunc_int_tree_Order_c1_rec (some ⟨b, 0, none⟩) n c (M : Int) E ((P.length + A.length + B.length : Nat) : Int) cp h) fun h36 => K h36) (K h)) (K h)))
          (iteB (decide ((M : Int) < E)) (iteB (decide (E < ((P.length + A.length + B.length : Nat) : Int))) (callP0 (slices_symMergeCmpFunc_int_tree_Order_c1_rec (some ⟨b, 0, none⟩) n c (M : Int) E ((P.length + A.length + B.length : Nat) : Int) cp h) fun h36 => K h36) (K h)) (K h))))
      (iteB (decide ((P.length : Int) < (p : Int))) (iteB (decide ((p : Int) < (M : Int))) (callP0 (slices_symMergeCmpFunc_int_tree_Order_c1_rec (some ⟨b, 0, none⟩) n c (P.length : Int) (p : Int) (M : Int) cp h) fun h32 =>
          iteB (decide ((M : Int) < E)) (iteB (decide (E < ((P.length + A.length + B.length : Nat) : Int))) (callP0 (slices_symMergeCmpFunc_int_tree_Order_c1_rec (some ⟨b, 0, none⟩) n c (M : Int) E ((P.length + A.length + B.length : Nat) : Int) cp h32) fun h36 => K h36) (K h32)) (K h32))
          (iteB (decide ((M : Int) < E)) (iteB (decide (E < ((P.length + A.length + B.length : Nat) : Int))) (callP0 (slices_symMergeCmpFunc_int_tree_Order_c1_rec (some ⟨b, 0, none⟩) n c (M : Int) E ((P.length + A.length + B.length : Nat) : Int) cp h) fun h36 => K h36) (K h)) (K h)))
          (iteB (decide ((M : Int) < E)) (iteB (decide (E < ((P.length + A.length + B.length : Nat) : Int))) (callP0 (slices_symMergeCmpFunc_int_tree_Order_c1_rec (some ⟨b, 0, none⟩) n c (M : Int) E ((P.length + A.length + B.length : Nat) : Int) cp h) fun h36 => K h36) (K h)) (K h))) := by
  have hln : P.length + (A.length + (B.length + T.length)) = n := by rw [← hl]; simp [all4]
  have hokA : ∀ x ∈ A, ok x := fun x hx => hok x (by simp [all4, hx])
  have hokB : ∀ x ∈ B, ok x := fun x hx => hok x (by simp [all4, hx])
  have a1 : (A.take (p - P.length)).length = p - P.length := by simp; omega
  have a2 : (A.drop (p - P.length)).length = P.length + A.length - p := by simp; omega
  have b1 : (B.take (M - p)).length = M - p := by simp; omega
  have b2 : (B.drop (M - p)).length = B.length - (M - p) := by simp
  have eA : A.take (p - P.length) ++ A.drop (p - P.length) = A := List.take_append_drop _ _
  have eB : B.take (M - p) ++ B.drop (M - p) = B := List.take_append_drop _ _
  have es := split_le (key := key) (A1 := A.take (p - P.length)) (A2 := A.drop (p - P.length)) (B1 := B.take (M - p)) (B2 := B.drop (M - p)) (by rw [eA]; exact hA) (by rw [eB]; exact hB) hle1 hle2
  rw [eA, eB] at es
  clear hle1 hle2
  generalize A.take (p - P.length) = A1 at *
  generalize A.drop (p - P.length) = A2 at *
  generalize B.take (M - p) = B1 at *
  generalize B.drop (M - p) = B2 at *
  have iA1 : ∀ x ∈ A1, x ∈ A := fun x hx => by rw [← eA]; simp [hx]
  have iA2 : ∀ x ∈ A2, x ∈ A := fun x hx => by rw [← eA]; simp [hx]
  have iB1 : ∀ x ∈ B1, x ∈ B := fun x hx => by rw [← eB]; simp [hx]
  have iB2 : ∀ x ∈ B2, x ∈ B := fun x hx => by rw [← eB]; simp [hx]
  have pA := List.pairwise_append.1 (eA ▸ hA)
  have pB := List.pairwise_append.1 (eB ▸ hB)
  have okP : ∀ x ∈ P, ok x := fun x hx => hok x (by simp [all4, hx])
  have okT : ∀ x ∈ T, ok x := fun x hx => hok x (by simp [all4, hx])
  have lA : A1.length + A2.length = A.length := by rw [← eA]; simp
  have lB : B1.length + B2.length = B.length := by rw [← eB]; simp
  have s1 : St h0 h ((b, natV ((P ++ A1) ++ (A2 ++ (B1 ++ (B2 ++ T)))) ++ z) :: R) := by
    have : all4 P A B T = (P ++ A1) ++ (A2 ++ (B1 ++ (B2 ++ T))) := by rw [← eA, ← eB]; simp [all4]
    rw [← this]; exact s
  refine maybe_rot (P := P ++ A1) (U := A2) (V := B1) (S := B2 ++ T) (m2 := ((P.length + A.length : Nat) : Int)) hn2 (by simp; omega) (by simp; omega) (by simp; omega) (by simp; omega) s1 fun h29 s29 => ?_
  refine maybe_rec (P := P) (A := A1) (B := B1) (T := A2 ++ (B2 ++ T)) (ih _ _ _ _ (by omega)) pA.1 pB.1 (fun x hx y hy => hid x (iA1 x hx) y (iB1 y hy)) ?_ (by simp [all4]; omega) rfl (by omega) (by omega) (by simpa [all4] using s29) fun h33 s33 => ?_
  · intro x hx
    simp only [all4, List.mem_append] at hx
    rcases hx with hx | hx | hx | hx | hx | hx
    · exact okP x hx
    · exact hokA x (iA1 x hx)
    · exact hokB x (iB1 x hx)
    · exact hokA x (iA2 x hx)
    · exact hokB x (iB2 x hx)
    · exact okT x hx
  have ls : (srt key (A1 ++ B1)).length = A1.length + B1.length := by rw [srt_len]; simp
  refine maybe_rec (P := P ++ srt key (A1 ++ B1)) (A := A2) (B := B2) (T := T) (b2 := ((P.length + A.length + B.length : Nat) : Int)) (ih _ _ _ _ (by omega)) pA.2.1 pB.2.1 (fun x hx y hy => hid x (iA2 x hx) y (iB2 y hy)) ?_ (by simp [all4, srt_len]; omega) (by simp [srt_len]; omega) (by simp [srt_len]; omega) (by simp [srt_len]; omega) (by simpa [all4] using s33) fun h36 s36 => hk h36 ?_
  · intro x hx
    simp only [all4, List.mem_append, mem_srt] at hx
    rcases hx with (hx | hx | hx) | hx | hx | hx
    · exact okP x hx
    · exact hokA x (iA1 x hx)
    · exact hokB x (iB1 x hx)
    · exact hokA x (iA2 x hx)
    · exact hokB x (iB2 x hx)
    · exact okT x hx
  · rw [← es]; simpa using s36

set_option maxHeartbeats 1000000 in
theorem sym_of (hc : CmpOK key ok h0 b z R cp) (hn2 : n < 2 ^ 40) : ∀ (N : Nat) (P A B T : List Nat), A.length + B.length ≤ N → SymAt key ok h0 b c n R z cp P A B T
  | 0, P, A, B, T, hN => fun h K h1 h2 => by omega
  | N + 1, P, A, B, T, hN => fun h K h1 h2 hA hB hid hok hl hk s => by
    have ih := sym_of hc hn2 N
    unfold slices_symMergeCmpFunc_int_tree_Order_c1
    have hln : P.length + (A.length + (B.length + T.length)) = n := by rw [← hl]; simp [all4]
    refine iteB_intro (fun e => ?_) (fun e => iteB_intro (fun e' => ?_) (fun e' => ?_))
    · rw [wrap_id (by omega) (by omega)] at e
      have e : A.length = 1 := by have : ((P.length + A.length : Nat) : Int) - (P.length : Int) = 1 := by simpa using e
                                  omega
      obtain ⟨x, rfl⟩ := List.length_eq_one_iff.1 e
      exact sym_one_left hc hn2 hB (fun y hy => hid x (by simp) y hy) hok hl hk s
    · rw [wrap_id (by omega) (by omega)] at e'
      have e' : B.length = 1 := by have : ((P.length + A.length + B.length : Nat) : Int) - ((P.length + A.length : Nat) : Int) = 1 := by simpa using e'
                                   omega
      obtain ⟨y, rfl⟩ := List.length_eq_one_iff.1 e'
      exact sym_one_right hc hn2 hA (fun x hx => hid x hx y (by simp)) hok hl hk s
    · have hA1 : A.length ≠ 1 := fun h => by
        rw [wrap_id (by omega) (by omega), h] at e; simp at e; omega
      obtain ⟨M, hM⟩ : ∃ M, M = (P.length + (P.length + A.length + B.length)) / 2 := ⟨_, rfl⟩
      have e17 : IntKind.i64.wrap ((M : Int) + ((P.length + A.length : Nat) : Int)) = ((M + (P.length + A.length) : Nat) : Int) := by rw [wrap_id (by omega) (by omega)]; omega
      have e18 : IntKind.i64.wrap (((M + (P.length + A.length) : Nat) : Int) - 1) = ((M + (P.length + A.length) - 1 : Nat) : Int) := by rw [wrap_id (by omega) (by omega)]; omega
      have e19 : IntKind.i64.wrap (((M + (P.length + A.length) : Nat) : Int) - ((P.length + A.length + B.length : Nat) : Int)) = ((M : Int) - (B.length : Int)) := by rw [wrap_id (by omega) (by omega)]; omega
      simp only [bindV, half_eq (i := P.length) (j := P.length + A.length + B.length) (by omega), ← hM, e17, e18, e19]
      refine ⟨by decide, ?_⟩
      refine iteB_intro (fun c1 => ?_) (fun c1 => ?_)
      · have c1 : M < P.length + A.length := by have : (M : Int) < ((P.length + A.length : Nat) : Int) := by simpa using c1
                                                omega
        have hb : Bounds P A B M (M - B.length) M := .inr ⟨rfl, rfl, c1⟩
        rw [show (M : Int) - (B.length : Int) = ((M - B.length : Nat) : Int) by omega]
        refine ⟨n + 1, sym_l4 (p2 := M + (P.length + A.length) - 1) (lo := M - B.length) (hi := M) hc hn2 hl hok (by omega) (by omega) (by omega) (by omega) (sym_mono hA hB hM hb h1 h2) (fun p f => ?_) s n _ _ (by omega) (SInv.start (by omega))⟩
        obtain ⟨q1, q2, q3, q4, q5, q6⟩ := sym_found hA hB hid hM hb h1 h2 f
        exact sym_tail ih hn2 hA hB hid hok hl hM (by omega) (by omega) q1 q2 q3 q4 q5 q6 hk s (by rw [wrap_id (by omega) (by omega)]; omega)
      · have c1 : P.length + A.length ≤ M := by have : ((P.length + A.length : Nat) : Int) ≤ (M : Int) := by simpa using c1
                                                omega
        have hb : Bounds P A B M P.length (P.length + A.length) := .inl ⟨rfl, rfl, c1⟩
        refine ⟨n + 1, sym_l4 (p2 := M + (P.length + A.length) - 1) (lo := P.length) (hi := P.length + A.length) hc hn2 hl hok (by omega) (by omega) (by omega) (by omega) (sym_mono hA hB hM hb h1 h2) (fun p f => ?_) s n _ _ (by omega) (SInv.start (by omega))⟩
        obtain ⟨q1, q2, q3, q4, q5, q6⟩ := sym_found hA hB hid hM hb h1 h2 f
        exact sym_tail ih hn2 hA hB hid hok hl hM (by omega) (by omega) q1 q2 q3 q4 q5 q6 hk s (by rw [wrap_id (by omega) (by omega)]; omega)
end
end Go.Proofs.Ytfidcekobjmamaa
