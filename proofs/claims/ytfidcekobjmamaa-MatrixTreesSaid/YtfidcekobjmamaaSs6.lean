/-
  Stable sorting, whole.
-/
import Derived.Test.YtfidcekobjmamaaSs5
namespace Go.Proofs.Ytfidcekobjmamaa
set_option linter.unusedVariables false
set_option linter.unusedSimpArgs false
set_option linter.unnecessarySimpa false
open Go.Hp Go.RowKit
attribute [local irreducible] Go.Hp.iteB Go.Hp.stC Go.Hp.newP

section
variable (key : Nat → Int)
/-- Sorted block by block. -/
def blk (bs : Nat) (l : List Nat) : List Nat := if h : l.length ≤ bs ∨ bs = 0 then srt key l else srt key (l.take bs) ++ blk bs (l.drop bs)
termination_by l.length
decreasing_by simp; omega
variable {key}
theorem blk_short {bs : Nat} {l : List Nat} (h : l.length ≤ bs) : blk key bs l = srt key l := by rw [blk, dif_pos (.inl h)]
theorem blk_app {bs : Nat} {R1 R2 : List Nat} (h : R1.length = bs) (h0 : 0 < bs) : blk key bs (R1 ++ R2) = srt key R1 ++ blk key bs R2 := by
  cases R2 with
  | nil => rw [blk_short (by simp; omega), blk_short (by simp)]; simp [srt]
  | cons y R2 =>
    rw [blk, dif_neg (by simp; omega)]
    rw [List.take_append_of_le_length (by omega), List.take_of_length_le (by omega), List.drop_append_of_le_length (by omega), List.drop_of_length_le (by omega), List.nil_append]
theorem blk_perm (bs : Nat) (l : List Nat) : (blk key bs l).Perm l := by
  rw [blk]
  split
  · exact srt_perm l
  · rename_i h
    have ih := blk_perm bs (l.drop bs)
    exact ((srt_perm _).append ih).trans (by rw [List.take_append_drop])
termination_by l.length
decreasing_by simp; omega
theorem blk_len (bs : Nat) (l : List Nat) : (blk key bs l).length = l.length := (blk_perm bs l).length_eq
end

section
variable {key : Nat → Int} {ok : Nat → Prop} {h0 : Base} {b c n : Nat} {R : Rws} {z : List Value} {cp : Addr}

theorem stab_l0 (hc : CmpOK key ok h0 b z R cp) (hn2 : n < 2 ^ 40) {K2 : Int → Heap → Prop} {Kf : Heap → Prop} (hK : ∀ (P rest : List Nat) (h : Heap), rest.length < 20 → (P ++ rest).length = n → rest.Pairwise (· < ·) → (∀ x ∈ rest, ok x) → St h0 h ((b, natV (P ++ rest) ++ z) :: R) →
      (∀ h', St h0 h' ((b, natV (P ++ srt key rest) ++ z) :: R) → Kf h') → K2 (P.length : Int) h) :
    ∀ (d : Nat) (P rest : List Nat) (h : Heap), rest.length ≤ d → (P ++ rest).length = n → rest.Pairwise (· < ·) → (∀ x ∈ rest, ok x) → (∀ h', St h0 h' ((b, natV (P ++ blk key 20 rest) ++ z) :: R) → Kf h') → St h0 h ((b, natV (P ++ rest) ++ z) :: R) →
      slices_stableCmpFunc_int_tree_Order_c1.l0 K2 (d + 1) (some ⟨b, 0, none⟩) n c (n : Int) cp (P.length : Int) ((P.length + 20 : Nat) : Int) h
  | d, P, rest, h, hd, hl, hid, hok, hk, s => by
    unfold slices_stableCmpFunc_int_tree_Order_c1.l0 slices_stableCmpFunc_int_tree_Order_c1.b0
    simp only [List.length_append] at hl
    refine iteB_intro (fun e => ?_) (fun e => ?_)
    · have e : P.length + 20 ≤ n := by have : ((P.length + 20 : Nat) : Int) ≤ (n : Int) := by simpa using e
                                       omega
      cases d with
      | zero => omega
      | succ d =>
        obtain ⟨R1, R2, rfl, h1⟩ : ∃ R1 R2, rest = R1 ++ R2 ∧ R1.length = 20 := ⟨rest.take 20, rest.drop 20, by simp, by simp; omega⟩
        simp only [List.length_append] at hl hd
        have hp := List.pairwise_append.1 hid
        refine callP0.self (insert_of (P := P) (L := R1) (T := R2) hc hn2 rfl (by omega) (by simp; omega) hp.1 (fun x hx => hok x (by simp [hx])) (fun h' s' => ?_) s)
        rw [wrap_id (by omega) (by omega)]
        have hlp : (P ++ srt key R1).length = P.length + 20 := by simp [srt_len]; omega
        have ih := stab_l0 hc hn2 hK d (P ++ srt key R1) R2 h' (by omega) (by simp [srt_len]; omega) hp.2.1 (fun x hx => hok x (by simp [hx])) (fun h2 s2 => hk h2 (by rw [blk_app h1 (by decide)]; simpa using s2)) (by simpa using s')
        rw [hlp] at ih
        exact ih
    · have e : n < P.length + 20 := by have : (n : Int) < ((P.length + 20 : Nat) : Int) := by simpa using e
                                       omega
      exact hK P rest h (by omega) (by simp; omega) hid hok s (fun h' s' => hk h' (by rw [blk_short (by omega)]; exact s'))

theorem stab_l2 (hc : CmpOK key ok h0 b z R cp) (hn2 : n < 2 ^ 40) {bs : Nat} (hbs : 0 < bs) (hbs2 : bs < 2 ^ 41) {K6 : Int → Heap → Prop} {Kf : Heap → Prop}
    (hK : ∀ (P rest : List Nat) (h : Heap), rest.length < 2 * bs → (P ++ rest).length = n → (∀ x ∈ P, ok x) → rest.Pairwise (· < ·) → (∀ x ∈ rest, ok x) → St h0 h ((b, natV (P ++ blk key bs rest) ++ z) :: R) →
      (∀ h', St h0 h' ((b, natV (P ++ srt key rest) ++ z) :: R) → Kf h') → K6 (P.length : Int) h) :
    ∀ (d : Nat) (P rest : List Nat) (h : Heap), rest.length ≤ d → (P ++ rest).length = n → (∀ x ∈ P, ok x) → rest.Pairwise (· < ·) → (∀ x ∈ rest, ok x) → (∀ h', St h0 h' ((b, natV (P ++ blk key (2 * bs) rest) ++ z) :: R) → Kf h') → St h0 h ((b, natV (P ++ blk key bs rest) ++ z) :: R) →
      slices_stableCmpFunc_int_tree_Order_c1.l2 K6 (d + 1) (some ⟨b, 0, none⟩) n c (n : Int) cp (bs : Int) (P.length : Int) ((P.length + 2 * bs : Nat) : Int) h
  | d, P, rest, h, hd, hl, hokP, hid, hok, hk, s => by
    unfold slices_stableCmpFunc_int_tree_Order_c1.l2 slices_stableCmpFunc_int_tree_Order_c1.b2
    simp only [List.length_append] at hl
    refine iteB_intro (fun e => ?_) (fun e => ?_)
    · have e : P.length + 2 * bs ≤ n := by have : ((P.length + 2 * bs : Nat) : Int) ≤ (n : Int) := by simpa using e
                                           omega
      cases d with
      | zero => omega
      | succ d =>
        obtain ⟨R1, R2, R3, rfl, h1, h2⟩ : ∃ R1 R2 R3, rest = R1 ++ (R2 ++ R3) ∧ R1.length = bs ∧ R2.length = bs := ⟨rest.take bs, (rest.drop bs).take bs, (rest.drop bs).drop bs, by simp only [List.take_append_drop], by simp; omega, by simp; omega⟩
        simp only [List.length_append] at hl hd
        have hp := List.pairwise_append.1 hid
        have hp2 := List.pairwise_append.1 hp.2.1
        have l1 : (srt key R1).length = bs := by rw [srt_len, h1]
        have l2 : (srt key R2).length = bs := by rw [srt_len, h2]
        have l3 := blk_len (key := key) bs R3
        rw [blk_app h1 hbs, blk_app h2 hbs] at s
        have hall : (all4 P (srt key R1) (srt key R2) (blk key bs R3)).length = n := by simp [all4, l1, l2, l3]; omega
        have hs := sym_of (c := c) hc hn2 _ P (srt key R1) (srt key R2) (blk key bs R3) (Nat.le_refl _)
        rw [wrap_id (x := (P.length : Int) + (bs : Int)) (by omega) (by omega)]
        refine callP0.self ?_
        have goal := hs h (fun h3010 => bindV (IntKind.i64.wrap (((P.length + 2 * bs : Nat) : Int) + (IntKind.i64.wrap (2 * (bs : Int))))) fun n3011 => slices_stableCmpFunc_int_tree_Order_c1.l2 K6 (d + 1) (some ⟨b, 0, none⟩) n c (n : Int) cp (bs : Int) ((P.length + 2 * bs : Nat) : Int) n3011 h3010) (by omega) (by omega) (srt_up _) (srt_up _)
          (fun x hx y hy => hp.2.2 x (mem_srt.1 hx) y (by simp [mem_srt.1 hy])) ?_ hall (fun h' s' => ?_) s
        · rw [l1, l2] at goal
          rw [show (P.length : Int) + (bs : Int) = ((P.length + bs : Nat) : Int) by omega, show P.length + 2 * bs = P.length + bs + bs by omega] at *
          exact goal
        · intro x hx
          simp only [all4, List.mem_append, mem_srt] at hx
          rcases hx with hx | hx | hx | hx
          · exact hokP x hx
          · exact hok x (by simp [hx])
          · exact hok x (by simp [hx])
          · exact hok x (by simp [(blk_perm bs R3).mem_iff.1 hx])
        · have e3 : srt key (srt key R1 ++ srt key R2) = srt key (R1 ++ R2) := srt_congr ((srt_perm R1).append (srt_perm R2))
          rw [e3] at s'
          unfold bindV
          rw [wrap_id (x := 2 * (bs : Int)) (by omega) (by omega), wrap_id (by omega) (by omega)]
          have hlp : (P ++ srt key (R1 ++ R2)).length = P.length + 2 * bs := by simp [srt_len]; omega
          have ih := stab_l2 hc hn2 hbs hbs2 hK d (P ++ srt key (R1 ++ R2)) R3 h' (by omega) (by simp [srt_len]; omega) ?_ hp2.2.1 (fun x hx => hok x (by simp [hx])) (fun h2' s2 => hk h2' (by rw [← List.append_assoc R1, blk_app (by simp; omega) (by omega)]; simpa using s2)) (by simpa using s')
          · rw [hlp] at ih
            rw [show ((P.length + 2 * bs : Nat) : Int) + 2 * (bs : Int) = ((P.length + 2 * bs + 2 * bs : Nat) : Int) by omega]
            exact ih
          · intro x hx
            rcases List.mem_append.1 hx with hx | hx
            · exact hokP x hx
            · exact hok x (by have := mem_srt.1 hx; simp at this ⊢; rcases this with h | h <;> simp [h])
    · have e : n < P.length + 2 * bs := by have : (n : Int) < ((P.length + 2 * bs : Nat) : Int) := by simpa using e
                                           omega
      exact hK P rest h (by omega) (by simp; omega) hokP hid hok s (fun h' s' => hk h' (by rw [blk_short (by omega)]; exact s'))

theorem stab_l1 (hc : CmpOK key ok h0 b z R cp) (hn2 : n < 2 ^ 40) {K4 : Heap → Prop} {L : List Nat} (hl : L.length = n) (hid : L.Pairwise (· < ·)) (hok : ∀ x ∈ L, ok x) (hk : ∀ h', St h0 h' ((b, natV (srt key L) ++ z) :: R) → K4 h') :
    ∀ (d bs : Nat) (h : Heap), 0 < bs → bs < 2 ^ 41 → n ≤ bs + d → St h0 h ((b, natV (blk key bs L) ++ z) :: R) → slices_stableCmpFunc_int_tree_Order_c1.l1 K4 (d + 1) (some ⟨b, 0, none⟩) n c (n : Int) cp (bs : Int) h
  | d, bs, h, h1, h2, hd, s => by
    unfold slices_stableCmpFunc_int_tree_Order_c1.l1 slices_stableCmpFunc_int_tree_Order_c1.b1
    refine iteB_intro (fun e => ?_) (fun e => ?_)
    · have e : bs < n := by simpa using e
      cases d with
      | zero => omega
      | succ d =>
        rw [wrap_id (x := 2 * (bs : Int)) (by omega) (by omega)]
        have H := stab_l2 (c := c) hc hn2 h1 h2 (K6 := fun z2008 h2009 => iteB (decide ((IntKind.i64.wrap (z2008 + (bs : Int))) < (n : Int))) (callP0 (slices_symMergeCmpFunc_int_tree_Order_c1 (some ⟨b, 0, none⟩) n c z2008 (IntKind.i64.wrap (z2008 + (bs : Int))) (n : Int) cp h2009) fun h2011 => slices_stableCmpFunc_int_tree_Order_c1.l1 K4 (d + 1) (some ⟨b, 0, none⟩) n c (n : Int) cp (IntKind.i64.wrap ((bs : Int) * 2)) h2011) (slices_stableCmpFunc_int_tree_Order_c1.l1 K4 (d + 1) (some ⟨b, 0, none⟩) n c (n : Int) cp (IntKind.i64.wrap ((bs : Int) * 2)) h2009))
          (Kf := fun h' => slices_stableCmpFunc_int_tree_Order_c1.l1 K4 (d + 1) (some ⟨b, 0, none⟩) n c (n : Int) cp (IntKind.i64.wrap ((bs : Int) * 2)) h') ?_ n [] L h (by omega) (by simpa using hl) (by simp) hid hok (fun h' s' => ?_) (by simpa using s)
        · refine ⟨n + 1, ?_⟩
          have e0 : ((([] : List Nat).length + 2 * bs : Nat) : Int) = 2 * (bs : Int) := by simp
          rw [e0] at H
          exact H
        · intro P rest h5 hr hpl hokP hidr hokr s5 hk5
          simp only [List.length_append] at hpl
          rw [wrap_id (x := (P.length : Int) + (bs : Int)) (by omega) (by omega)]
          refine iteB_intro (fun e2 => ?_) (fun e2 => ?_)
          · have e2 : P.length + bs < n := by have : (P.length : Int) + (bs : Int) < (n : Int) := by simpa using e2
                                              omega
            obtain ⟨R1, R2, rfl, r1⟩ : ∃ R1 R2, rest = R1 ++ R2 ∧ R1.length = bs := ⟨rest.take bs, rest.drop bs, by simp, by simp; omega⟩
            simp only [List.length_append] at hpl hr
            have hp := List.pairwise_append.1 hidr
            rw [blk_app r1 h1, blk_short (l := R2) (by omega)] at s5
            have l1 : (srt key R1).length = bs := by rw [srt_len, r1]
            have hs := sym_of (c := c) hc hn2 _ P (srt key R1) (srt key R2) [] (Nat.le_refl _) h5 (fun h2011 => slices_stableCmpFunc_int_tree_Order_c1.l1 K4 (d + 1) (some ⟨b, 0, none⟩) n c (n : Int) cp (IntKind.i64.wrap ((bs : Int) * 2)) h2011) (by omega) (by rw [srt_len]; omega) (srt_up _) (srt_up _)
              (fun x hx y hy => hp.2.2 x (mem_srt.1 hx) y (mem_srt.1 hy)) ?_ (by simp [all4, srt_len]; omega) (fun h' s' => hk5 h' ?_) (by simpa [all4] using s5)
            · rw [srt_len, srt_len] at hs
              rw [show (P.length : Int) + (bs : Int) = ((P.length + R1.length : Nat) : Int) by omega, show (n : Int) = ((P.length + R1.length + R2.length : Nat) : Int) by omega] at *
              rw [show P.length + R1.length + R2.length = n by omega] at *
              exact callP0.self hs
            · intro x hx
              simp only [all4, List.mem_append, mem_srt, List.not_mem_nil, or_false] at hx
              rcases hx with hx | hx | hx
              · exact hokP x hx
              · exact hokr x (by simp [hx])
              · exact hokr x (by simp [hx])
            · have e3 : srt key (srt key R1 ++ srt key R2) = srt key (R1 ++ R2) := srt_congr ((srt_perm R1).append (srt_perm R2))
              rw [e3] at s'; simpa using s'
          · have e2 : n ≤ P.length + bs := by have : (n : Int) ≤ (P.length : Int) + (bs : Int) := by simpa using e2
                                              omega
            exact hk5 h5 (by rw [blk_short (by omega)] at s5; exact s5)
        · rw [wrap_id (by omega) (by omega), show (bs : Int) * 2 = ((2 * bs : Nat) : Int) by omega]
          exact stab_l1 hc hn2 hl hid hok hk d (2 * bs) h' (by omega) (by omega) (by omega) (by simpa using s')
    · have e : n ≤ bs := by simpa using e
      exact hk h (by rw [blk_short (by omega)] at s; exact s)

theorem Stable_of (hc : CmpOK key ok h0 b z R cp) (hn2 : n < 2 ^ 40) {h : Heap} {K : Heap → Prop} {L : List Nat} (hl : L.length = n) (hid : L.Pairwise (· < ·)) (hok : ∀ x ∈ L, ok x) (s : St h0 h ((b, natV L ++ z) :: R)) (hk : ∀ h', St h0 h' ((b, natV (srt key L) ++ z) :: R) → K h') :
    slices_SortStableFunc_Lint_int_tree_Order_c1 (some ⟨b, 0, none⟩) n c cp h K := by
  unfold slices_SortStableFunc_Lint_int_tree_Order_c1
  refine callP0.self ?_
  unfold slices_stableCmpFunc_int_tree_Order_c1
  refine ⟨n + 1, ?_⟩
  have H := stab_l0 (c := c) hc hn2 (Kf := fun h7 => ∃ m9, slices_stableCmpFunc_int_tree_Order_c1.l1 (fun h8 => K h8) m9 (some ⟨b, 0, none⟩) n c (n : Int) cp 20 h7) (K2 := fun z4 h5 => callP0 (slices_insertionSortCmpFunc_int_tree_Order_c1 (some ⟨b, 0, none⟩) n c z4 (n : Int) cp h5) fun h7 => ∃ m9, slices_stableCmpFunc_int_tree_Order_c1.l1 (fun h8 => K h8) m9 (some ⟨b, 0, none⟩) n c (n : Int) cp 20 h7) ?_ n [] L h (by omega) (by simpa using hl) hid hok (fun h' s' => ?_) (by simpa using s)
  · simpa using H
  · intro P rest h5 hr hpl hidr hokr s5 hk5
    simp only [List.length_append] at hpl
    exact callP0.self (insert_of (P := P) (L := rest) (T := []) hc hn2 rfl (by omega) (by simp; omega) hidr hokr (fun h' s' => hk5 h' (by simpa using s')) (by simpa using s5))
  · exact ⟨n + 1, stab_l1 hc hn2 hl hid hok hk n 20 h' (by decide) (by decide) (by omega) (by simpa using s')⟩
end
end Go.Proofs.Ytfidcekobjmamaa
