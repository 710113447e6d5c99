/-
  Floats in order: a list that is copied and sorted; how many are unlike.
-/
import Derived.Test.YtcmbgiekffgcoaaO2
import Derived.Test.YtcmbgiekffgcoaaSo
import Derived.Test.YtcmbgiekffgcoaaShelf
namespace Go.Proofs.Ytcmbgiekffgcoaa
set_option linter.unusedVariables false
set_option linter.unusedSimpArgs false
open Go.Hp Go.RowKit
attribute [local irreducible] Go.Hp.iteB Go.Hp.stC Go.Hp.newP

/-! ### The library's sort, at this order -/
/-- Floats of which those that are no number are one. -/
abbrev CF := { b : Nat // b < 18446744073709551616 ∧ canon b = b }
instance : Inhabited CF := ⟨⟨0, by decide, by decide⟩⟩
def encF (x : CF) : Value := .float .f64 x.1
def cmpF (x y : CF) : Int := cmpI (pl x.1) (pl y.1)
theorem ltF (x y : CF) : ltOf cmpF x y = decide (pl x.1 < pl y.1) := by unfold ltOf cmpF; exact decide_eq_decide.2 cmpI_lt
theorem swoF : Go.Sort.SWO (ltOf cmpF) where
  irrefl x := by rw [ltF]; simp
  trans x y z := by simp only [ltF, decide_eq_true_eq]; omega
  ntrans x y z := by simp only [ltF, decide_eq_false_iff_not]; omega
theorem totF (x y : CF) : ltOf cmpF x y = false → ltOf cmpF y x = false → x = y := by
  simp only [ltF, decide_eq_false_iff_not]
  intro h1 h2
  have := pl_inj x.2.1 y.2.1 (by omega)
  rw [x.2.2, y.2.2] at this
  exact Subtype.ext this
theorem cmpLays {b n : Nat} {w : World} : CmpLays1 Try.prog 7 #[] encF cmpF b 0 n w := fun m os dk _ x y => by
  have hc := (forder_Cmp.calls (Cmp_of (K := fun r h' => r = cmpF x y ∧ h' = (sortWorld encF w b 0 m dk os).heap) x.2.1 y.2.1 ⟨rfl, rfl⟩) _ rfl).2
  refine hc.mono ?_
  rintro e w' ⟨v, rfl, ho, hr⟩
  have hv := forder_Cmp.ret_elim (K' := fun v h' => v = .int .i64 (cmpF x y) ∧ h' = (sortWorld encF w b 0 m dk os).heap) (by rintro r h' ⟨rfl, rfl⟩; exact ⟨rfl, rfl⟩) hr
  exact ⟨by rw [hv.1], _, #[], (ho.drewN hv.2).trans (Go.Sort.grow_empty _).symm⟩
/-- A list in order. -/
def sortF (l : List Nat) : List Nat := l.mergeSort fun x y => !decide (pl y < pl x)
theorem sortF_len (l : List Nat) : (sortF l).length = l.length := List.length_mergeSort ..
theorem SortFunc_of {h0 h : Heap} {q : Option Addr} {c n : Nat} {l : List Nat} {X R : Rws} {K : Heap → Prop} (hb : Bnd l) (hc : ∀ x ∈ l, canon x = x) (hn : l.length = n) (hn2 : n < 2 ^ 62) (o : Own q c (flts l) X) (s : St h0 h (X ++ R))
    (hk : ∀ X' h', Own q c (flts (sortF l)) X' → St h0 h' (X' ++ R) → K h') : slices_SortFunc_Lfloat64_float64_forder_Cmp q n c h K := by
  intro w hw
  subst hw
  refine ⟨enters_of Try.func28 (by kernel_rfl) rfl _ _, ?_⟩
  rcases o with ⟨rfl, rfl, hl, rfl⟩ | ⟨b, z, rfl, hc2, rfl⟩
  · have hl : l = [] := by simpa using hl
    subst hl
    have hn : n = 0 := by simpa using hn.symm
    subst hn
    refine (Try.slices_SortFunc_none (α := Nat) _ _ _ w).mono ?_
    rintro e w' ⟨rfl, rfl⟩
    exact ⟨_, rfl, Out.refl _, hk [] _ (by simpa [sortF] using Own.nil) s⟩
  · obtain ⟨d, hd⟩ : ∃ d : List CF, d.map (·.1) = l := ⟨l.attach.map fun x => ⟨x.1, hb _ x.2, hc _ x.2⟩, by simp⟩
    have hd2 : d.toArray.toList.map encF = flts l := by rw [← hd]; simp [encF, flts, Function.comp_def]
    have hsz : d.toArray.size = n := by rw [← hn, ← hd]; simp
    have s' : St h0 w.heap ((b, d.toArray.toList.map encF ++ z) :: R) := by rw [hd2]; exact s
    have hH := holds_row (enc := encF) (d := d.toArray) (z := z) (s'.rows (b, d.toArray.toList.map encF ++ z) (by simp))
    have hlt := (s'.rows (b, d.toArray.toList.map encF ++ z) (by simp)).lt
    have HC := Try.slices_SortFunc_total encF (fun x => rfl) cmpF swoF 7 #[] b 0 c d.toArray w (enters_of Try.func7 (by kernel_rfl) rfl) cmpLays hH hlt (by omega) totF
    rw [hsz] at HC
    refine HC.mono ?_
    rintro e w' ⟨rfl, m, os, rfl⟩
    refine ⟨_, rfl, out_sorted, ?_⟩
    have e1 : ((d.mergeSort fun x y => !(ltOf cmpF) y x).toArray.toList.map encF) = flts (sortF l) := by
      have : (d.mergeSort fun x y => !(ltOf cmpF) y x).map (·.1) = sortF l := by
        rw [sortF, ← hd]
        exact List.map_mergeSort (fun a _ b _ => by rw [ltF])
      rw [← this]; simp [encF, flts, Function.comp_def]
    have s2 := s'.sorted (n := m) (d' := (d.toArray.toList.mergeSort fun x y => !(ltOf cmpF) y x).toArray) (os := os) (by simp)
    rw [e1] at s2
    refine hk [(b, flts (sortF l) ++ z)] _ (.inr ⟨b, z, rfl, ?_, rfl⟩) s2
    rw [hc2]; simp [sortF_len]

/-! ### A copy; sorted -/
theorem Clone_of {h0 h : Heap} {q : Option Addr} {c n : Nat} {l : List Nat} {R : Rws} {K : Option Addr → Nat → Nat → Heap → Prop} (hn : l.length = n) (hn2 : n < 2 ^ 40) (v : Keeps h0 R q (flts l)) (s : St h0 h R)
    (hk : ∀ q' c' X' h', Own q' c' (flts l) X' → St h0 h' (X' ++ R) → K q' n c' h') : slices_Clone_Lfloat64_float64 q n c h K := by
  unfold slices_Clone_Lfloat64_float64
  refine iteB_intro (fun e => ?_) (fun e => ?_)
  · have e : q = none := by simpa using e
    subst e
    have hl : l = [] := by
      cases l with
      | nil => rfl
      | cons x l => obtain ⟨a, ha, _⟩ := v.at0 s 0 (.float .f64 x) (by simp); cases ha
    subst hl
    have hn : n = 0 := by simpa using hn.symm
    subst hn
    exact hk none 0 [] h (by simpa using Own.nil) s
  · refine St.new_ (cs := []) s fun b h3 s3 => ?_
    refine Own.pushAll (l2 := flts l) (Own.made b []) s3 rfl (v.atC s3) (by simp [hn]) (by omega) (flat_map fun _ => rfl) (by simp; omega) fun q' c' X' h' o' s' => ?_
    simpa using hk q' c' X' h' (by simpa using o') s'

theorem NaN_of {h : Heap} {R : Nat → Heap → Prop} (hR : R 9221120237041090561 h) : math_NaN h R := by unfold math_NaN; exact hR
/-- The first i are made so. -/
def canN (l : List Nat) (i : Nat) : List Nat := (l.take i).map canon ++ l.drop i
theorem canN_len (l : List Nat) (i : Nat) : (canN l i).length = l.length := by simp [canN]; omega
theorem canN_get {l : List Nat} {i x : Nat} (hx : l[i]? = some x) : (canN l i)[i]? = some x := by
  have := lt_get hx
  unfold canN; rw [List.getElem?_append_right (by simp; omega)]
  simp [List.getElem?_drop, show i + (i - min i l.length) = i by omega, hx]
theorem canN_set {l : List Nat} {i x : Nat} (hx : l[i]? = some x) : (canN l i).set i (canon x) = canN l (i + 1) := by
  have := lt_get hx
  unfold canN; rw [take_snoc hx, drop_cons hx, List.set_append_right _ _ (by simp; omega)]
  simp [show i - min i l.length = 0 by omega]
theorem canN_end (l : List Nat) : canN l l.length = l.map canon := by simp [canN]
theorem Sort_l0 {h0 : Heap} {b c n : Nat} {l : List Nat} {z : List Value} {R : Rws} {K2 : Heap → Prop} (hn : l.length = n) (hn2 : n < 2 ^ 40) (hk : ∀ h', St h0 h' ((b, flts (l.map canon) ++ z) :: R) → K2 h') :
    ∀ (d i : Nat) (h : Heap), i + d = n → St h0 h ((b, flts (canN l i) ++ z) :: R) → forder_Sort.l0 K2 (d + 1) (some ⟨b, 0, none⟩) n c (some ⟨b, 0, none⟩) n c (n : Int) (i : Int) h
  | 0, i, h, hi, s => by
    unfold forder_Sort.l0 forder_Sort.b0
    have : i = n := by omega
    subst this; subst hn
    rw [canN_end] at s
    exact iteB_neg (decide_eq_false (by omega)) (hk h s)
  | d + 1, i, h, hi, s => by
    unfold forder_Sort.l0 forder_Sort.b0
    obtain ⟨x, hx⟩ := get_lt (l := l) (i := i) (by omega)
    have hr : (flts (canN l i) ++ z)[i]? = some (.float .f64 x) := by
      rw [List.getElem?_append_left (by simp [canN_len]; omega)]; simp [canN_get hx]
    refine iteB_pos (decide_eq_true (by omega)) ?_
    try simp -zeta (disch := omega) only [chkP_some, iteB_true, iteB_false, add_mk, Nat.zero_add, Nat.add_zero, Nat.mul_one, Nat.reduceAdd, Int.toNat_natCast, ex_int, ex_slice, ex_ptr, ex_bool, ex_str, ex_flt, ex_any, bnd_in, List.getElem?_cons_zero, List.getElem?_cons_succ, List.set_cons_zero, List.set_cons_succ, List.cons_append, List.nil_append, bne_self_eq_false, beq_self_eq_true, Bool.not_true, Bool.not_false, Option.isNone_some, Option.isNone_none, eq_self, true_and, and_true, and_self, s.rd0, hr, wrap_id]
    rw [kind_nan]
    refine iteB_intro (fun e => ?_) (fun e => ?_)
    · have e : kindI x = 0 := by simpa using e
      refine qcallP1.of 9221120237041090561 (fun R hR => NaN_of hR) ?_
      try simp -zeta (disch := omega) only [chkP_some, iteB_true, iteB_false, add_mk, Nat.zero_add, Nat.add_zero, Nat.mul_one, Nat.reduceAdd, Int.toNat_natCast, ex_int, ex_slice, ex_ptr, ex_bool, ex_str, ex_flt, ex_any, bnd_in, List.getElem?_cons_zero, List.getElem?_cons_succ, List.set_cons_zero, List.set_cons_succ, List.cons_append, List.nil_append, bne_self_eq_false, beq_self_eq_true, Bool.not_true, Bool.not_false, Option.isNone_some, Option.isNone_none, eq_self, true_and, and_true, and_self, s.rd0, hr, wrap_id]
      refine s.st0 (by simp [canN_len]; omega) fun h2 s2 => ?_
      refine Sort_l0 hn hn2 hk d (i + 1) h2 (by omega) ?_
      rw [← canN_set hx]
      rw [List.set_append_left _ _ (by simp [canN_len]; omega)] at s2
      rw [show canon x = 9221120237041090561 by unfold canon; rw [if_pos e]]
      rw [flts, List.map_set]; exact s2
    · have e : kindI x ≠ 0 := by simpa using e
      refine Sort_l0 hn hn2 hk d (i + 1) h (by omega) ?_
      rw [← canN_set hx, show canon x = x by unfold canon; rw [if_neg e]]
      have : (canN l i).set i x = canN l i := by
        have h1 := canN_get hx
        apply List.ext_getElem?
        intro j
        by_cases c : i = j
        · subst c; rw [List.getElem?_set_self (lt_get h1), h1]
        · rw [List.getElem?_set_ne c]
      rw [this]; exact s
/-- What a list is, sorted. -/
def sorted (l : List Nat) : List Nat := sortF (l.map canon)
theorem sorted_len (l : List Nat) : (sorted l).length = l.length := by simp [sorted, sortF_len]
theorem sorted_bnd {l : List Nat} (h : Bnd l) : Bnd (sorted l) := fun x hx => by
  obtain ⟨y, hy, rfl⟩ := List.mem_map.1 ((List.mergeSort_perm _ _).mem_iff.1 hx)
  exact canon_lt (h y hy)
theorem Sort_of {h0 h : Heap} {q : Option Addr} {c n : Nat} {l : List Nat} {R : Rws} {K : Option Addr → Nat → Nat → Heap → Prop} (hb : Bnd l) (hn : l.length = n) (hn2 : n < 2 ^ 40) (v : Keeps h0 R q (flts l)) (s : St h0 h R)
    (hk : ∀ q' c' X' h', Own q' c' (flts (sorted l)) X' → St h0 h' (X' ++ R) → K q' n c' h') : forder_Sort q n c h K := by
  unfold forder_Sort
  refine callP3.self (Clone_of hn hn2 v s fun q' c' X' h' o' s' => ?_)
  have fin : ∀ X2 h2, Own q' c' (flts (l.map canon)) X2 → St h0 h2 (X2 ++ R) → callP0 (slices_SortFunc_Lfloat64_float64_forder_Cmp q' n c' h2) fun h6 => K q' n c' h6 := fun X2 h2 o2 s2 =>
    callP0.self (SortFunc_of (fun x hx => by obtain ⟨y, hy, rfl⟩ := List.mem_map.1 hx; exact canon_lt (hb y hy)) (fun x hx => by obtain ⟨y, hy, rfl⟩ := List.mem_map.1 hx; exact canon_canon y) (by simpa using hn) (by omega) o2 s2 fun X3 h3 o3 s3 => hk q' c' X3 h3 o3 s3)
  rcases o' with ⟨rfl, rfl, hl, rfl⟩ | ⟨b, z, rfl, hc2, rfl⟩
  · have hl : l = [] := by simpa using hl
    subst hl
    have hn : n = 0 := by simpa using hn.symm
    subst hn
    refine ⟨1, ?_⟩
    unfold forder_Sort.l0 forder_Sort.b0
    exact iteB_neg (by decide) (fin [] h' (by simpa using Own.nil) s')
  · refine ⟨n + 1, Sort_l0 hn hn2 (fun h2 s2 => fin [(b, flts (l.map canon) ++ z)] h2 (.inr ⟨b, z, rfl, by rw [hc2]; simp, rfl⟩) s2) n 0 h' (by omega) (by simpa [canN] using s')⟩
end Go.Proofs.Ytcmbgiekffgcoaa
