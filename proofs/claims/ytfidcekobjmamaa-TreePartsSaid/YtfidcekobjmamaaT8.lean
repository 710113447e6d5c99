/-
  Trees: depths and roots, the program's and the document's.
-/
import Derived.Test.YtfidcekobjmamaaT7
namespace Go.Proofs.Ytfidcekobjmamaa
set_option linter.unusedVariables false
set_option linter.unusedSimpArgs false
set_option linter.unnecessarySimpa false
open Go.Hp Go.RowKit
attribute [local irreducible] Go.Hp.iteB Go.Hp.stC Go.Hp.newP

/-- How deep a vertex is, by the way up. -/
def dN (up : List Int) (v : Nat) : Nat := (upL (UU up) up.length (up.length + 1) (v : Int)).length - 1
open Classical in
noncomputable def depL (up w : List Int) : List Nat := if RightT up w then (List.range up.length).map (dN up) else []
theorem dN_deep {up : List Int} {d v : Nat} (h : hasD (UU up) up.length d v) : dN up v = d := by
  unfold dN; rw [upL_deep h (by have := h.lt_n; omega)]; rfl
theorem natV_ints (l : List Nat) : natV l = (l.map fun v : Nat => (v : Int)).map (Value.int .i64) := by simp [natV]
theorem natV_range (n : Nat) (f : Nat → Nat) : natV ((List.range n).map f) = ints n fun v => (f v : Int) := by rw [ints_vals, natV_ints]; simp
theorem rt_deep {up w : List Int} (r : RightT up w) {v : Nat} (hv : v < up.length) : ∃ d, hasD (UU up) up.length d v := r.deep v hv

section
variable {h0 : Heap} {R : Rws} {n : Nat} {up w : List Int} {qU qW : Option Addr} {cU cW : Nat}

open Classical in
theorem in_of {h : Heap} {m : Nat} {v : Int} {K : Bool → Heap → Prop} (hup : up.length = n) (hw : w.length = m) (kU : Keeps h0 R qU (up.map (Value.int .i64))) (kW : Keeps h0 R qW (w.map (Value.int .i64))) (s : St h0 h R)
    (hk : ∀ h', St h0 h' R → K (decide (RightT up w ∧ 0 ≤ v ∧ v < (n : Int))) h') : straitref29_in qU n cU qW m cW v h K := by
  unfold straitref29_in
  refine s.new_ fun t h1 s1 => ?_
  try simp -zeta (disch := omega) only [chkP_some, iteB_true, iteB_false, add_mk, Nat.zero_add, Nat.add_zero, Nat.mul_one, Nat.reduceAdd, Int.toNat_natCast, ex_int, ex_slice, ex_ptr, ex_bool, ex_str, ex_flt, ex_any, bnd_in, List.getElem?_cons_zero, List.getElem?_cons_succ, List.set_cons_zero, List.set_cons_succ, List.cons_append, List.nil_append, bne_self_eq_false, beq_self_eq_true, Bool.not_true, Bool.not_false, Option.isNone_some, Option.isNone_none, eq_self, true_and, and_true, and_self, s1.rd0]
  refine callP1.self (Right_of hup hw kU.cons kW.cons s1 fun h2 s2 => ?_)
  have H := hk h2 s2.tail
  refine iteB_intro (fun e => ?_) (fun e => ?_)
  · have e : RightT up w := by simpa using e
    refine iteB_intro (fun e2 => ?_) (fun e2 => ?_)
    · have e2 : 0 ≤ v := by simpa using e2
      try simp -zeta (disch := omega) only [chkP_some, iteB_true, iteB_false, add_mk, Nat.zero_add, Nat.add_zero, Nat.mul_one, Nat.reduceAdd, Int.toNat_natCast, ex_int, ex_slice, ex_ptr, ex_bool, ex_str, ex_flt, ex_any, bnd_in, List.getElem?_cons_zero, List.getElem?_cons_succ, List.set_cons_zero, List.set_cons_succ, List.cons_append, List.nil_append, bne_self_eq_false, beq_self_eq_true, Bool.not_true, Bool.not_false, Option.isNone_some, Option.isNone_none, eq_self, true_and, and_true, and_self, s2.rd0]
      rw [show decide (RightT up w ∧ 0 ≤ v ∧ v < (n : Int)) = decide (v < (n : Int)) from decide_eq_decide.2 ⟨fun h => h.2.2, fun h => ⟨e, e2, h⟩⟩] at H
      exact H
    · have e2 : v < 0 := by simpa using e2
      rw [decide_eq_false (by intro h; omega)] at H; exact H
  · have e : ¬ RightT up w := by simpa using e
    rw [decide_eq_false (fun h => e h.1)] at H; exact H

open Classical in
theorem PDepths_of {h : Heap} {m : Nat} {K : Option Addr → Nat → Nat → Heap → Prop} (hup : up.length = n) (hw : w.length = m) (kU : Keeps h0 R qU (up.map (Value.int .i64))) (kW : Keeps h0 R qW (w.map (Value.int .i64))) (s : St h0 h R)
    (hk : ∀ q c X h', Own q c (natV (depL up w)) X → St h0 h' (X ++ R) → K q (depL up w).length c h') : tree_Depths qU n cU qW m cW h K := by
  unfold tree_Depths
  refine s.new_ fun t h1 s1 => ?_
  try simp -zeta (disch := omega) only [chkP_some, iteB_true, iteB_false, add_mk, Nat.zero_add, Nat.add_zero, Nat.mul_one, Nat.reduceAdd, Int.toNat_natCast, ex_int, ex_slice, ex_ptr, ex_bool, ex_str, ex_flt, ex_any, bnd_in, List.getElem?_cons_zero, List.getElem?_cons_succ, List.set_cons_zero, List.set_cons_succ, List.cons_append, List.nil_append, bne_self_eq_false, beq_self_eq_true, Bool.not_true, Bool.not_false, Option.isNone_some, Option.isNone_none, eq_self, true_and, and_true, and_self, s1.rd0]
  refine callP4.self (depths_of hup hw kU.cons kW.cons s1 (fun hno h' s' => ?_) (fun r h' b D hD s' => ?_))
  · have := hk none 0 [] h' (by rw [depL, if_neg hno]; exact Own.nil) s'.tail
    rw [depL, if_neg hno] at this; exact this
  · have hl : (depL up w).length = n := by rw [depL, if_pos r]; simp [hup]
    have he : ints n D = natV (depL up w) := by
      rw [depL, if_pos r, natV_range, hup]
      refine ints_congr fun v hv => ?_
      obtain ⟨d, h1, h2⟩ := hD v hv
      rw [h1, dN_deep (by rw [hup]; exact h2)]
    rw [he] at s'
    have := hk (some ⟨b, 0, none⟩) (natV (depL up w)).length [(b, natV (depL up w))] h' (Own.made b _) (by have := s'.pull1; simpa using this.tail)
    rw [natV_len, hl] at this; exact this

theorem rdep_l0 {K2 : Option Addr → Nat → Nat → Heap → Prop} {t m : Nat} (hup : up.length = n) (hw : w.length = m) (hn : n ≤ 4096) (kU : Keeps h0 R qU (up.map (Value.int .i64))) (kW : Keeps h0 R qW (w.map (Value.int .i64)))
    (hk : ∀ q c X h', Own q c (natV (depL up w)) X → St h0 h' (X ++ (t, [.slice qU n cU, .slice qW m cW]) :: R) → K2 q (depL up w).length c h') :
    ∀ (d i : Nat) (q : Option Addr) (c : Nat) (X : Rws) (h : Heap), i + d = n → (i = 0 ∨ RightT up w) → Own q c (natV ((List.range i).map (dN up))) X → St h0 h (X ++ (t, [.slice qU n cU, .slice qW m cW]) :: R) →
      straitref29_Depths.l0 K2 (d + 1) ⟨t, 0, none⟩ q i c (i : Int) h
  | d, i, q, c, X, h, hi, hr, o, s => by
    unfold straitref29_Depths.l0 straitref29_Depths.b0
    have rt : ∀ j, cell h ⟨t, j, none⟩ = [.slice qU n cU, .slice qW m cW][j]? := s.rd (by simp)
    intro j
    simp -zeta (disch := omega) only [chkP_some, iteB_true, iteB_false, add_mk, Nat.zero_add, Nat.add_zero, Nat.mul_one, Nat.reduceAdd, Int.toNat_natCast, ex_int, ex_slice, ex_ptr, ex_bool, ex_str, ex_flt, ex_any, bnd_in, List.getElem?_cons_zero, List.getElem?_cons_succ, List.set_cons_zero, List.set_cons_succ, List.cons_append, List.nil_append, bne_self_eq_false, beq_self_eq_true, Bool.not_true, Bool.not_false, Option.isNone_some, Option.isNone_none, eq_self, true_and, and_true, and_self, rt]
    refine iteB_intro (fun e => ?_) (fun e => ?_)
    · have e : i < n := by have e : (i : Int) < n := by simpa using e
                           omega
      cases d with
      | zero => omega
      | succ d =>
        have k1 : Keeps h0 (X ++ (t, [.slice qU n cU, .slice qW m cW]) :: R) qU (up.map (Value.int .i64)) := kU.cons.app
        have k2 : Keeps h0 (X ++ (t, [.slice qU n cU, .slice qW m cW]) :: R) qW (w.map (Value.int .i64)) := kW.cons.app
        refine callP1.self (Right_of hup hw k1 k2 s fun h2 s2 => ?_)
        refine iteB_intro (fun e2 => ?_) (fun e2 => ?_)
        · have r : RightT up w := by simpa using e2
          simp -zeta only [j]
          clear j
          have rt2 : ∀ j, cell h2 ⟨t, j, none⟩ = [.slice qU n cU, .slice qW m cW][j]? := s2.rd (by simp)
          simp -zeta (disch := omega) only [chkP_some, iteB_true, iteB_false, add_mk, Nat.zero_add, Nat.add_zero, Nat.mul_one, Nat.reduceAdd, Int.toNat_natCast, ex_int, ex_slice, ex_ptr, ex_bool, ex_str, ex_flt, ex_any, bnd_in, List.getElem?_cons_zero, List.getElem?_cons_succ, List.set_cons_zero, List.set_cons_succ, List.cons_append, List.nil_append, bne_self_eq_false, beq_self_eq_true, Bool.not_true, Bool.not_false, Option.isNone_some, Option.isNone_none, eq_self, true_and, and_true, and_self, rt2]
          refine callP3.self (Up_of (mW := m) hup hn k1 s2 fun q3 c3 X3 h3 o3 s3 => ?_)
          obtain ⟨dd, hd⟩ := rt_deep r (v := i) (by omega)
          rw [hup] at hd
          have hlen := upL_deep hd (show dd < n + 1 by have := hd.lt_n; omega)
          have hdn : dN up i = dd := dN_deep (by rw [hup]; exact hd)
          rw [hlen, wrap_id (by omega) (by have := hd.lt_n; omega), show ((dd + 1 : Nat) : Int) - 1 = (dd : Int) by omega]
          have s4 := s3.drop
          have hl : (natV ((List.range i).map (dN up))).length = i := by simp [natV_len]
          refine Own.push1 o s4 hl.symm rfl (by omega) fun q5 c5 X5 h5 o5 s5 => ?_
          rw [hl, wrap_id (by omega) (by omega)]
          refine rdep_l0 hup hw hn kU kW hk d (i + 1) q5 c5 X5 h5 (by omega) (.inr r) ?_ s5
          rw [List.range_succ, List.map_append]
          simpa [natV, hdn] using o5
        · have r : ¬ RightT up w := by simpa using e2
          have i0 : i = 0 := hr.resolve_right r
          subst i0
          have := hk q c X h2 (by rw [depL, if_neg r]; simpa using o) s2
          rw [depL, if_neg r] at this; exact this
    · have e : n ≤ i := by have e : (n : Int) ≤ i := by simpa using e
                           omega
      have hin : i = n := by omega
      subst hin
      have hd : depL up w = (List.range i).map (dN up) := by
        unfold depL
        split
        · rw [hup]
        · rename_i r
          rcases hr with h | h
          · subst h; rfl
          · exact absurd h r
      have := hk q c X h (by rw [hd]; exact o) s
      rw [hd] at this; simpa using this
theorem RDepths_of {h : Heap} {m : Nat} {K : Option Addr → Nat → Nat → Heap → Prop} (hup : up.length = n) (hw : w.length = m) (hn : n ≤ 4096) (kU : Keeps h0 R qU (up.map (Value.int .i64))) (kW : Keeps h0 R qW (w.map (Value.int .i64))) (s : St h0 h R)
    (hk : ∀ q c X h', Own q c (natV (depL up w)) X → St h0 h' (X ++ R) → K q (depL up w).length c h') : straitref29_Depths qU n cU qW m cW h K := by
  unfold straitref29_Depths
  refine s.new_ fun t h1 s1 => ?_
  exact ⟨n + 1, rdep_l0 hup hw hn kU kW (fun q c X h' o s' => hk q c X h' o (by simpa using St.drop (L := [(t, _)]) (s'.mid))) n 0 none 0 [] h1 (by omega) (.inl rfl) (by simpa [natV] using Own.nil) (by simpa using s1)⟩

/-! ### Roots -/
def RootIs (up w : List Int) (r : Int) : Prop := (¬ RightT up w ∧ r = -1) ∨ (RightT up w ∧ up.length = 0 ∧ r = -1) ∨ (RightT up w ∧ ∃ i : Nat, i < up.length ∧ r = (i : Int) ∧ UU up i = -1)
theorem RootIs.uniq {r r' : Int} (h : RootIs up w r) (h' : RootIs up w r') : r = r' := by
  rcases h with ⟨h1, rfl⟩ | ⟨h1, h2, rfl⟩ | ⟨h1, i, hi, rfl, hu⟩ <;> rcases h' with ⟨g1, rfl⟩ | ⟨g1, g2, rfl⟩ | ⟨g1, j, hj, rfl, gu⟩
  · rfl
  · rfl
  · exact absurd g1 h1
  · rfl
  · rfl
  · omega
  · exact absurd h1 g1
  · omega
  · have := one_root (up := up) (by have := h1.roots; omega) hi hj hu gu
    omega
theorem index_l0 {K0 : Int → Heap → Prop} {K2 : Heap → Prop} {h : Heap} (hup : up.length = n) (hn : n ≤ 4096) (vU : valsAt h qU (up.map (Value.int .i64))) (hk0 : ∀ i : Nat, i < n → UU up i = -1 → K0 (i : Int) h) (hk2 : (∀ i, i < n → UU up i ≠ -1) → K2 h) :
    ∀ (d i : Nat), i + d = n → (∀ k, k < i → UU up k ≠ -1) → slices_Index_Lint_int.l0 K0 K2 (d + 1) qU n cU (-1) (n : Int) (i : Int) h
  | 0, i, hi, ho => by
    unfold slices_Index_Lint_int.l0 slices_Index_Lint_int.b0
    obtain rfl : i = n := by omega
    exact iteB_neg (decide_eq_false (by omega)) (hk2 ho)
  | d + 1, i, hi, ho => by
    unfold slices_Index_Lint_int.l0 slices_Index_Lint_int.b0
    refine iteB_pos (decide_eq_true (by omega)) ?_
    simp -zeta (disch := omega) only [chkP_some, iteB_true, iteB_false, add_mk, Nat.zero_add, Nat.add_zero, Nat.mul_one, Nat.reduceAdd, Int.toNat_natCast, ex_int, ex_slice, ex_ptr, ex_bool, ex_str, ex_flt, ex_any, bnd_in, List.getElem?_cons_zero, List.getElem?_cons_succ, List.set_cons_zero, List.set_cons_succ, List.cons_append, List.nil_append, bne_self_eq_false, beq_self_eq_true, Bool.not_true, Bool.not_false, Option.isNone_some, Option.isNone_none, eq_self, true_and, and_true, and_self, vals_int vU (UU_get (v := i) (by omega))]
    refine iteB_intro (fun e => hk0 i (by omega) ?_) (fun e => ?_)
    · have e : -1 = UU up i := by simpa using e
      exact e.symm
    · have e : ¬ (-1 = UU up i) := by simpa using e
      rw [wrap_id (by omega) (by omega)]
      refine index_l0 hup hn vU hk0 hk2 d (i + 1) (by omega) fun k hk => ?_
      rcases Nat.lt_or_ge k i with h | h
      · exact ho k h
      · have : k = i := by omega
        subst this; exact fun h => e h.symm
theorem PRoot_of {h : Heap} {m : Nat} {K : Int → Heap → Prop} (hup : up.length = n) (hw : w.length = m) (hn : n ≤ 4096) (kU : Keeps h0 R qU (up.map (Value.int .i64))) (kW : Keeps h0 R qW (w.map (Value.int .i64))) (s : St h0 h R)
    (hk : ∀ r h', RootIs up w r → St h0 h' R → K r h') : tree_Root qU n cU qW m cW h K := by
  unfold tree_Root
  refine s.new_ fun t h1 s1 => ?_
  try simp -zeta (disch := omega) only [chkP_some, iteB_true, iteB_false, add_mk, Nat.zero_add, Nat.add_zero, Nat.mul_one, Nat.reduceAdd, Int.toNat_natCast, ex_int, ex_slice, ex_ptr, ex_bool, ex_str, ex_flt, ex_any, bnd_in, List.getElem?_cons_zero, List.getElem?_cons_succ, List.set_cons_zero, List.set_cons_succ, List.cons_append, List.nil_append, bne_self_eq_false, beq_self_eq_true, Bool.not_true, Bool.not_false, Option.isNone_some, Option.isNone_none, eq_self, true_and, and_true, and_self, s1.rd0]
  refine callP1.self (Check_of hup hw kU.cons kW.cons s1 fun h2 s2 => ?_)
  by_cases r : RightT up w
  · rw [if_pos r]
    refine iteB_neg (by decide) ?_
    try simp -zeta (disch := omega) only [chkP_some, iteB_true, iteB_false, add_mk, Nat.zero_add, Nat.add_zero, Nat.mul_one, Nat.reduceAdd, Int.toNat_natCast, ex_int, ex_slice, ex_ptr, ex_bool, ex_str, ex_flt, ex_any, bnd_in, List.getElem?_cons_zero, List.getElem?_cons_succ, List.set_cons_zero, List.set_cons_succ, List.cons_append, List.nil_append, bne_self_eq_false, beq_self_eq_true, Bool.not_true, Bool.not_false, Option.isNone_some, Option.isNone_none, eq_self, true_and, and_true, and_self, s2.rd0]
    have hroot : ∃ rt : Int, RootIs up w rt ∧ ∀ Q : Int → Heap → Prop, Q rt h2 → slices_Index_Lint_int qU n cU (-1) h2 Q := by
      by_cases hz : n = 0
      · refine ⟨-1, .inr (.inl ⟨r, by omega, rfl⟩), fun Q hQ => ?_⟩
        unfold slices_Index_Lint_int
        exact ⟨n + 1, index_l0 hup hn (kU.atC s2) (fun i hi => by omega) (fun _ => hQ) n 0 (by omega) (fun k hk => by omega)⟩
      · obtain ⟨d, hd⟩ := rt_deep r (v := 0) (by omega)
        rw [hup] at hd
        obtain ⟨rt, _, h1, h2'⟩ := upL_last hd (show d < n + 1 by have := hd.lt_n; omega)
        refine ⟨(rt : Int), .inr (.inr ⟨r, rt, by omega, rfl, h2'⟩), fun Q hQ => ?_⟩
        unfold slices_Index_Lint_int
        refine ⟨n + 1, index_l0 hup hn (kU.atC s2) (fun i hi hu => ?_) (fun hno => absurd h2' (hno rt h1)) n 0 (by omega) (fun k hk => by omega)⟩
        have := one_root (up := up) (by have := r.roots; omega) (i := i) (j := rt) (by omega) (by omega) hu h2'
        subst this; exact hQ
    obtain ⟨rt, hrt, hQ⟩ := hroot
    exact qcallP1.of rt (fun Q hq => hQ Q hq) (hk rt h2 hrt s2.tail)
  · rw [if_neg r]
    exact iteB_pos (by decide) (hk (-1) h2 (.inl ⟨r, rfl⟩) s2.tail)
open Classical in
theorem RRoot_of {h : Heap} {m : Nat} {K : Int → Heap → Prop} (hup : up.length = n) (hw : w.length = m) (hn : n ≤ 4096) (kU : Keeps h0 R qU (up.map (Value.int .i64))) (kW : Keeps h0 R qW (w.map (Value.int .i64))) (s : St h0 h R)
    (hk : ∀ r h', RootIs up w r → St h0 h' R → K r h') : straitref29_Root qU n cU qW m cW h K := by
  unfold straitref29_Root
  refine s.new_ fun t h1 s1 => ?_
  try simp -zeta (disch := omega) only [chkP_some, iteB_true, iteB_false, add_mk, Nat.zero_add, Nat.add_zero, Nat.mul_one, Nat.reduceAdd, Int.toNat_natCast, ex_int, ex_slice, ex_ptr, ex_bool, ex_str, ex_flt, ex_any, bnd_in, List.getElem?_cons_zero, List.getElem?_cons_succ, List.set_cons_zero, List.set_cons_succ, List.cons_append, List.nil_append, bne_self_eq_false, beq_self_eq_true, Bool.not_true, Bool.not_false, Option.isNone_some, Option.isNone_none, eq_self, true_and, and_true, and_self, s1.rd0]
  refine callP1.self (in_of hup hw kU.cons kW.cons s1 fun h2 s2 => ?_)
  refine iteB_intro (fun e => hk (-1) h2 ?_ s2.tail) (fun e => ?_)
  · have e : ¬ (RightT up w ∧ 0 < n) := by
      intro ⟨a, b⟩
      rw [decide_eq_true ⟨a, Int.le_refl 0, by omega⟩] at e
      exact absurd e (by decide)
    by_cases r : RightT up w
    · have h3 : ¬ 0 < n := fun h => e ⟨r, h⟩
      exact .inr (.inl ⟨r, by omega, rfl⟩)
    · exact .inl ⟨r, rfl⟩
  · have e : RightT up w ∧ (0 : Int) ≤ 0 ∧ (0 : Int) < (n : Int) := by
      apply Classical.byContradiction; intro h
      rw [decide_eq_false h] at e; exact absurd e (by decide)
    obtain ⟨r, _, hn0⟩ := e
    try simp -zeta (disch := omega) only [chkP_some, iteB_true, iteB_false, add_mk, Nat.zero_add, Nat.add_zero, Nat.mul_one, Nat.reduceAdd, Int.toNat_natCast, ex_int, ex_slice, ex_ptr, ex_bool, ex_str, ex_flt, ex_any, bnd_in, List.getElem?_cons_zero, List.getElem?_cons_succ, List.set_cons_zero, List.set_cons_succ, List.cons_append, List.nil_append, bne_self_eq_false, beq_self_eq_true, Bool.not_true, Bool.not_false, Option.isNone_some, Option.isNone_none, eq_self, true_and, and_true, and_self, s2.rd0]
    refine callP3.self (Up_of (v := 0) (mW := m) (R := (t, [.slice qU n cU, .slice qW m cW]) :: R) hup hn kU.cons s2 fun q c X h3 o s3 => ?_)
    obtain ⟨d, hd⟩ := rt_deep r (v := 0) (by omega)
    rw [hup] at hd
    have hlt : d < n + 1 := by have := hd.lt_n; omega
    have hlen := upL_deep hd hlt
    obtain ⟨rt, g1, g2, g3⟩ := upL_last hd hlt
    simp only [Int.natCast_zero] at hlen g1
    have hdn := hd.lt_n
    rw [hlen, wrap_id (by omega) (by omega), show ((d + 1 : Nat) : Int) - 1 = (d : Int) by omega]
    have vq := o.vals s3
    have gv : (natV (upL (UU up) n (n + 1) 0))[d]? = some (.int .i64 (rt : Int)) := by simp [natV, g1]
    simp -zeta (disch := omega) only [chkP_some, iteB_true, iteB_false, add_mk, Nat.zero_add, Nat.add_zero, Nat.mul_one, Nat.reduceAdd, Int.toNat_natCast, ex_int, ex_slice, ex_ptr, ex_bool, ex_str, ex_flt, ex_any, bnd_in, List.getElem?_cons_zero, List.getElem?_cons_succ, List.set_cons_zero, List.set_cons_succ, List.cons_append, List.nil_append, bne_self_eq_false, beq_self_eq_true, Bool.not_true, Bool.not_false, Option.isNone_some, Option.isNone_none, eq_self, true_and, and_true, and_self, vals_int vq gv]
    exact hk _ h3 (.inr (.inr ⟨r, rt, by omega, rfl, g3⟩)) s3.drop.tail
end
end Go.Proofs.Ytfidcekobjmamaa
