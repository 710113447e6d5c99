/-
  Trees: Reverse, Path, Least.
-/
import Derived.Test.YtfidcekobjmamaaT2
namespace Go.Proofs.Ytfidcekobjmamaa
set_option linter.unusedVariables false
set_option linter.unusedSimpArgs false
set_option linter.unnecessarySimpa false
open Go.Hp Go.RowKit
attribute [local irreducible] Go.Hp.iteB Go.Hp.stC Go.Hp.newP

/-! ### Reverse -/
/-- The first 'i' and the last 'i' have been changed. -/
def revI (l : List Int) (i : Nat) : List Int := (List.range l.length).map fun k => if k < i ∨ l.length ≤ k + i then l.getD (l.length - 1 - k) 0 else l.getD k 0
theorem revI_length (l : List Int) (i : Nat) : (revI l i).length = l.length := by simp [revI]
theorem revI_zero (l : List Int) : revI l 0 = l := by
  apply List.ext_getElem?
  intro j
  unfold revI
  by_cases c : j < l.length
  · simp [c]; omega
  · rw [List.getElem?_eq_none (by simp; omega), List.getElem?_eq_none (by omega)]
theorem revI_end {l : List Int} {i : Nat} (h : l.length ≤ 2 * i + 1) : revI l i = l.reverse := by
  apply List.ext_getElem?
  intro j
  unfold revI
  by_cases c : j < l.length
  · rw [List.getElem?_reverse c]
    have : l.length - 1 - j < l.length := by omega
    simp only [List.getElem?_map, List.getElem?_range c, Option.map_some, List.getD_eq_getElem?_getD, List.getElem?_eq_getElem c, List.getElem?_eq_getElem this, Option.getD_some]
    by_cases e : j < i ∨ l.length ≤ j + i
    · rw [if_pos e]
    · rw [if_neg e]
      have : j = l.length - 1 - j := by omega
      congr 1
      simp only [← this]
  · rw [List.getElem?_eq_none (by simp; omega), List.getElem?_eq_none (by simp; omega)]
theorem revI_get {l : List Int} {i k : Nat} (h : k < l.length) : (revI l i)[k]? = some (if k < i ∨ l.length ≤ k + i then l.getD (l.length - 1 - k) 0 else l.getD k 0) := by
  unfold revI; simp [h]
theorem revI_step {l : List Int} {i : Nat} (h : 2 * i + 1 < l.length) : ((revI l i).set i (l.getD (l.length - 1 - i) 0)).set (l.length - 1 - i) (l.getD i 0) = revI l (i + 1) := by
  apply List.ext_getElem?
  intro j
  by_cases c : j < l.length
  · rw [revI_get c, List.getElem?_set, List.getElem?_set]
    simp only [List.length_set, revI_length]
    by_cases e1 : l.length - 1 - i = j
    · rw [if_pos e1, if_pos (by omega), if_pos (by omega), ← e1]; congr 1; congr 1; omega
    · rw [if_neg e1]
      by_cases e2 : i = j
      · rw [if_pos e2, if_pos (by omega), if_pos (by omega), ← e2]
      · rw [if_neg e2, revI_get c]
        congr 1
        by_cases e3 : j < i ∨ l.length ≤ j + i
        · rw [if_pos e3, if_pos (by omega)]
        · rw [if_neg e3, if_neg (by omega)]
  · rw [List.getElem?_eq_none (by simp [revI_length]; omega), List.getElem?_eq_none (by rw [revI_length]; omega)]

theorem set_map_app {l : List Int} {z : List Value} {i : Nat} {x : Int} (h : i < l.length) : (l.map (Value.int .i64) ++ z).set i (.int .i64 x) = (l.set i x).map (Value.int .i64) ++ z := by
  rw [List.set_append_left _ _ (by simpa using h), List.map_set]

theorem reverse_l0 {h0 : Heap} {b c : Nat} {l : List Int} {z : List Value} {R : Rws} {K2 : Heap → Prop} (hl : l.length < 2 ^ 60) (hk : ∀ h', St h0 h' ((b, l.reverse.map (Value.int .i64) ++ z) :: R) → K2 h') :
    ∀ (d i : Nat) (h : Heap), l.length ≤ 2 * i + 2 * d + 1 → i ≤ l.length → St h0 h ((b, (revI l i).map (Value.int .i64) ++ z) :: R) →
      slices_Reverse_Lint_int.l0 K2 (d + 1) (some ⟨b, 0, none⟩) l.length c (i : Int) ((l.length : Int) - 1 - i) h
  | 0, i, h, hd, hi, s => by
    unfold slices_Reverse_Lint_int.l0 slices_Reverse_Lint_int.b0
    refine iteB_neg (decide_eq_false (by omega)) (hk h ?_)
    rw [revI_end (by omega)] at s; exact s
  | d + 1, i, h, hd, hi, s => by
    unfold slices_Reverse_Lint_int.l0 slices_Reverse_Lint_int.b0
    refine iteB_intro (fun cc => ?_) (fun cc => ?_)
    · have cc := of_decide_eq_true cc
      have e1 : (l.length : Int) - 1 - i = ((l.length - 1 - i : Nat) : Int) := by omega
      have hi2 : i < l.length := by omega
      have hj2 : l.length - 1 - i < l.length := by omega
      have g1 : ((revI l i).map (Value.int .i64) ++ z)[i]? = some (.int .i64 (l.getD i 0)) := by
        rw [List.getElem?_append_left (by simpa [revI_length] using hi2), List.getElem?_map, revI_get hi2, if_neg (by omega)]; rfl
      have g2 : ((revI l i).map (Value.int .i64) ++ z)[l.length - 1 - i]? = some (.int .i64 (l.getD (l.length - 1 - i) 0)) := by
        rw [List.getElem?_append_left (by simpa [revI_length] using hj2), List.getElem?_map, revI_get hj2, if_neg (by omega)]; rfl
      rw [e1]
      try simp -zeta (disch := omega) only [chkP_some, iteB_true, iteB_false, add_mk, Nat.zero_add, Nat.add_zero, Nat.mul_one, Nat.reduceAdd, Int.toNat_natCast, ex_int, ex_slice, ex_ptr, ex_bool, ex_str, ex_flt, ex_any, bnd_in, List.getElem?_cons_zero, List.getElem?_cons_succ, List.set_cons_zero, List.set_cons_succ, List.cons_append, List.nil_append, bne_self_eq_false, beq_self_eq_true, Bool.not_true, Bool.not_false, Option.isNone_some, Option.isNone_none, eq_self, true_and, and_true, and_self, s.rd0, g1, g2]
      refine s.st0 (by simp [revI_length]; omega) fun h1 s => ?_
      try simp -zeta (disch := omega) only [chkP_some, iteB_true, iteB_false, add_mk, Nat.zero_add, Nat.add_zero, Nat.mul_one, Nat.reduceAdd, Int.toNat_natCast, ex_int, ex_slice, ex_ptr, ex_bool, ex_str, ex_flt, ex_any, bnd_in, List.getElem?_cons_zero, List.getElem?_cons_succ, List.set_cons_zero, List.set_cons_succ, List.cons_append, List.nil_append, bne_self_eq_false, beq_self_eq_true, Bool.not_true, Bool.not_false, Option.isNone_some, Option.isNone_none, eq_self, true_and, and_true, and_self, s.rd0]
      refine s.st0 (by simp [revI_length]; omega) fun h2 s => ?_
      rw [set_map_app (by rw [revI_length]; exact hi2), set_map_app (by rw [List.length_set, revI_length]; exact hj2), revI_step (by omega)] at s
      rw [wrap64 (by omega) (by omega), wrap64 (by omega) (by omega)]
      have := reverse_l0 (c := c) hl hk d (i + 1) h2 (by omega) (by omega) s
      rw [show ((l.length - 1 - i : Nat) : Int) - 1 = (l.length : Int) - 1 - ((i + 1 : Nat) : Int) by omega]
      exact this
    · have cc := of_decide_eq_false cc
      refine hk h ?_
      rw [revI_end (by omega)] at s; exact s

theorem Reverse_of {h0 h : Heap} {q : Option Addr} {c : Nat} {l : List Int} {X R : Rws} {K : Heap → Prop} (hl : l.length < 2 ^ 60) (o : Own q c (l.map (Value.int .i64)) X) (s : St h0 h (X ++ R))
    (hk : ∀ X' h', Own q c (l.reverse.map (Value.int .i64)) X' → St h0 h' (X' ++ R) → K h') : slices_Reverse_Lint_int q l.length c h K := by
  unfold slices_Reverse_Lint_int
  rw [wrap64 (by omega) (by omega)]
  rcases o with ⟨rfl, rfl, hl0, rfl⟩ | ⟨b, z, rfl, hc, rfl⟩
  · have : l = [] := by simpa using hl0
    subst this
    refine ⟨1, ?_⟩
    unfold slices_Reverse_Lint_int.l0 slices_Reverse_Lint_int.b0
    exact iteB_neg (by decide) (hk [] h Own.nil s)
  · refine ⟨l.length + 1, ?_⟩
    have := reverse_l0 (h0 := h0) (b := b) (c := c) (l := l) (z := z) (R := R) (K2 := fun h => K h) hl (fun h' s => hk [(b, l.reverse.map (Value.int .i64) ++ z)] h' (.inr ⟨b, z, rfl, by rw [hc]; simp, rfl⟩) s) l.length 0 h (by omega) (by omega) (by rw [revI_zero]; exact s)
    simpa using this

/-! ### Where two ways up meet -/
theorem one_root {up : List Int} (h : (up.filter (· == -1)).length ≤ 1) {i j : Nat} (hi : i < up.length) (hj : j < up.length) (h1 : UU up i = -1) (h2 : UU up j = -1) : i = j := by
  have key : ∀ {i j : Nat}, i < j → j < up.length → UU up i = -1 → UU up j = -1 → False := by
    intro i j hij hj h1 h2
    have e1 : up[i]? = some (-1) := by rw [← h1]; exact UU_get0 (by omega)
    have e2 : (up.drop (i + 1))[j - (i + 1)]? = some (-1) := by rw [List.getElem?_drop, show i + 1 + (j - (i + 1)) = j by omega, ← h2]; exact UU_get0 hj
    have h3 : (up.take (i + 1) ++ up.drop (i + 1)) = up := List.take_append_drop ..
    rw [← h3, List.filter_append, List.length_append] at h
    have h4 : 0 < ((up.take (i + 1)).filter (· == -1)).length := List.length_pos_of_mem (a := (-1 : Int)) (List.mem_filter.2 ⟨List.mem_of_getElem? (i := i) (by rw [List.getElem?_take, if_pos (by omega)]; exact e1), rfl⟩)
    have h5 : 0 < ((up.drop (i + 1)).filter (· == -1)).length := List.length_pos_of_mem (a := (-1 : Int)) (List.mem_filter.2 ⟨List.mem_of_getElem? e2, rfl⟩)
    omega
  rcases Nat.lt_trichotomy i j with h | h | h
  · exact (key h hj h1 h2).elim
  · exact h
  · exact (key h hi h2 h1).elim

/-- Up from both, the deeper one first, until they meet. -/
def meetF (U D : Nat → Int) : Nat → Nat → Nat → List Nat × Nat × List Nat
  | 0, u, _ => ([], u, [])
  | f + 1, u, v => if u = v then ([], u, []) else if D u ≥ D v then
      (let r := meetF U D f (U u).toNat v; (u :: r.1, r.2.1, r.2.2)) else
      (let r := meetF U D f u (U v).toNat; (r.1, r.2.1, v :: r.2.2))
def pathF (U D : Nat → Int) (f u v : Nat) : List Nat := (meetF U D f u v).1 ++ [(meetF U D f u v).2.1] ++ (meetF U D f u v).2.2.reverse

abbrev nats (l : List Nat) : List Value := l.map fun v : Nat => Value.int .i64 (v : Int)
theorem nats_ints (l : List Nat) : nats l = (l.map fun v : Nat => (v : Int)).map (Value.int .i64) := by simp [nats]

def DR (up : List Int) (n : Nat) (D : Nat → Int) : Prop := ∀ v, v < n → ∃ d : Nat, D v = (d : Int) ∧ hasD (UU up) n d v

theorem meetF_step {up : List Int} {n : Nat} {D : Nat → Int} (hup : up.length = n) (hone : (up.filter (· == -1)).length ≤ 1) (hD : DR up n D) {u v : Nat} (hu : u < n) (hv : v < n) (hne : u ≠ v) (hge : D u ≥ D v) :
    ∃ f : Nat, UU up u = (f : Int) ∧ f < n ∧ D u = D f + 1 := by
  obtain ⟨d, hd, hd2⟩ := hD u hu
  cases d with
  | zero =>
    exfalso
    obtain ⟨e, he, he2⟩ := hD v hv
    have : e = 0 := by omega
    subst this
    exact hne (one_root hone (by omega) (by omega) hd2.2 he2.2)
  | succ d =>
    obtain ⟨_, f, hf, hf2⟩ := hd2
    refine ⟨f, hf, hf2.lt, ?_⟩
    obtain ⟨e, he, he2⟩ := hD f hf2.lt
    rw [hd, he, hf2.uniq he2]; omega

theorem meetF_sum {up : List Int} {n : Nat} {D : Nat → Int} (hup : up.length = n) (hone : (up.filter (· == -1)).length ≤ 1) (hD : DR up n D) : ∀ {m u v : Nat}, u < n → v < n → D u + D v ≤ m →
    ((meetF (UU up) D (m + 1) u v).1.length : Int) + (meetF (UU up) D (m + 1) u v).2.2.length ≤ D u + D v ∧ (∀ x ∈ (meetF (UU up) D (m + 1) u v).1, x < n) ∧ (meetF (UU up) D (m + 1) u v).2.1 < n ∧ (∀ x ∈ (meetF (UU up) D (m + 1) u v).2.2, x < n)
  | m, u, v, hu, hv, hm => by
    obtain ⟨du, hdu, _⟩ := hD u hu
    obtain ⟨dv, hdv, _⟩ := hD v hv
    unfold meetF
    by_cases e : u = v
    · rw [if_pos e]; exact ⟨by simp; omega, by simp, hu, by simp⟩
    · rw [if_neg e]
      by_cases c : D u ≥ D v
      · rw [if_pos c]
        obtain ⟨f, hf, hfn, hDf⟩ := meetF_step hup hone hD hu hv e c
        rw [hf, Int.toNat_natCast]
        cases m with
        | zero => obtain ⟨df, hdf, _⟩ := hD f hfn; omega
        | succ m =>
          obtain ⟨h1, h2, h3, h4⟩ := meetF_sum hup hone hD (m := m) hfn hv (by omega)
          refine ⟨by simp; omega, fun x hx => ?_, h3, h4⟩
          rcases List.mem_cons.1 hx with rfl | hx
          · exact hu
          · exact h2 x hx
      · rw [if_neg c]
        obtain ⟨f, hf, hfn, hDf⟩ := meetF_step hup hone hD hv hu (Ne.symm e) (by omega)
        rw [hf, Int.toNat_natCast]
        cases m with
        | zero => obtain ⟨df, hdf, _⟩ := hD f hfn; omega
        | succ m =>
          obtain ⟨h1, h2, h3, h4⟩ := meetF_sum hup hone hD (m := m) hu hfn (by omega)
          refine ⟨by simp; omega, h2, h3, fun x hx => ?_⟩
          rcases List.mem_cons.1 hx with rfl | hx
          · exact hv
          · exact h4 x hx

section
variable {h0 : Heap} {R : Rws} {b n : Nat} {up : List Int} {qU : Option Addr} {cU : Nat}

theorem path_l0 {t : Nat} {qW : Option Addr} {lW cW : Nat} {D : Nat → Int} {K2 : Int → Option Addr → Nat → Nat → Option Addr → Nat → Nat → Heap → Prop} (hup : up.length = n) (hn : n ≤ 4096) (hone : (up.filter (· == -1)).length ≤ 1) (hD : DR up n D) (kU : Keeps h0 R qU (up.map (Value.int .i64))) (LA LB : List Nat) (top : Nat)
    (hk : ∀ h' p c X q c' Y, Own p c (nats LA) X → Own q c' (nats LB) Y → St h0 h' (X ++ (Y ++ ((b, ints n D) :: (t, [.slice qU n cU, .slice qW lW cW]) :: R))) → K2 (top : Int) p LA.length c q LB.length c' h') :
    ∀ (m : Nat) (h : Heap) (u v : Nat) (A B : List Nat) (p : Option Addr) (c : Nat) (X : Rws) (q : Option Addr) (c' : Nat) (Y : Rws), u < n → v < n → D u + D v ≤ m → A.length + B.length + m ≤ 8192 → A ++ (meetF (UU up) D (m + 1) u v).1 = LA → (meetF (UU up) D (m + 1) u v).2.1 = top → B ++ (meetF (UU up) D (m + 1) u v).2.2 = LB →
      Own p c (nats A) X → Own q c' (nats B) Y → St h0 h (X ++ (Y ++ ((b, ints n D) :: (t, [.slice qU n cU, .slice qW lW cW]) :: R))) →
      tree_Path.l0 K2 (m + 1) (u : Int) (v : Int) ⟨t, 0, none⟩ (some ⟨b, 0, none⟩) n n p A.length c q B.length c' h
  | m, h, u, v, A, B, p, c, X, q, c', Y, hu, hv, hm, hAB, e1, e2, e3, o1, o2, s => by
    unfold tree_Path.l0 tree_Path.b0
    unfold meetF at e1 e2 e3
    have s' := s.drop.drop
    by_cases e : u = v
    · rw [if_pos e] at e1 e2 e3
      simp only [List.append_nil] at e1 e2 e3
      subst e1 e2 e3
      exact iteB_pos (by simp [e]) (hk h p c X q c' Y o1 o2 s)
    · rw [if_neg e] at e1 e2 e3
      refine iteB_neg (by simp; omega) ?_
      try simp -zeta (disch := omega) only [chkP_some, iteB_true, iteB_false, add_mk, Nat.zero_add, Nat.add_zero, Nat.mul_one, Nat.reduceAdd, Int.toNat_natCast, ex_int, ex_slice, ex_ptr, ex_bool, ex_str, ex_flt, ex_any, bnd_in, List.getElem?_cons_zero, List.getElem?_cons_succ, List.set_cons_zero, List.set_cons_succ, List.cons_append, List.nil_append, bne_self_eq_false, beq_self_eq_true, Bool.not_true, Bool.not_false, Option.isNone_some, Option.isNone_none, eq_self, true_and, and_true, and_self, s'.rd0, s'.rd1, ints_get]
      refine iteB_intro (fun cc => ?_) (fun cc => ?_)
      · have cc := of_decide_eq_true cc
        rw [if_pos cc] at e1 e2 e3
        obtain ⟨f, hf, hfn, hDf⟩ := meetF_step hup hone hD hu hv e cc
        rw [hf, Int.toNat_natCast] at e1 e2 e3
        refine Own.push1 o1 s (by simp) rfl (by simp; omega) fun p' c1 X' h' o1' s => ?_
        have s' := s.drop.drop
        try simp -zeta (disch := omega) only [chkP_some, iteB_true, iteB_false, add_mk, Nat.zero_add, Nat.add_zero, Nat.mul_one, Nat.reduceAdd, Int.toNat_natCast, ex_int, ex_slice, ex_ptr, ex_bool, ex_str, ex_flt, ex_any, bnd_in, List.getElem?_cons_zero, List.getElem?_cons_succ, List.set_cons_zero, List.set_cons_succ, List.cons_append, List.nil_append, bne_self_eq_false, beq_self_eq_true, Bool.not_true, Bool.not_false, Option.isNone_some, Option.isNone_none, eq_self, true_and, and_true, and_self, s'.rd0, s'.rd1, vals_int (kU.at0 s'.tail.tail) (UU_get (up := up) (v := u) (by omega))]
        rw [hf]
        cases m with
        | zero => obtain ⟨df, hdf, _⟩ := hD f hfn; obtain ⟨dv, hdv, _⟩ := hD v hv; omega
        | succ m =>
          have := path_l0 hup hn hone hD kU LA LB top hk m h' f v (A ++ [u]) B p' c1 X' q c' Y hfn hv (by omega) (by simp; omega) (by simpa using e1) e2 e3 (by simpa [nats] using o1') o2 s
          simpa using this
      · have cc := of_decide_eq_false cc
        rw [if_neg cc] at e1 e2 e3
        obtain ⟨f, hf, hfn, hDf⟩ := meetF_step hup hone hD hv hu (Ne.symm e) (by omega)
        rw [hf, Int.toNat_natCast] at e1 e2 e3
        refine Own.push1 o2 s.flip (by simp) rfl (by simp; omega) fun q' c1 Y' h' o2' s => ?_
        have s' := s.drop.drop
        try simp -zeta (disch := omega) only [chkP_some, iteB_true, iteB_false, add_mk, Nat.zero_add, Nat.add_zero, Nat.mul_one, Nat.reduceAdd, Int.toNat_natCast, ex_int, ex_slice, ex_ptr, ex_bool, ex_str, ex_flt, ex_any, bnd_in, List.getElem?_cons_zero, List.getElem?_cons_succ, List.set_cons_zero, List.set_cons_succ, List.cons_append, List.nil_append, bne_self_eq_false, beq_self_eq_true, Bool.not_true, Bool.not_false, Option.isNone_some, Option.isNone_none, eq_self, true_and, and_true, and_self, s'.rd0, s'.rd1, vals_int (kU.at0 s'.tail.tail) (UU_get (up := up) (v := v) (by omega))]
        rw [hf]
        cases m with
        | zero => obtain ⟨df, hdf, _⟩ := hD f hfn; obtain ⟨du, hdu, _⟩ := hD u hu; omega
        | succ m =>
          have := path_l0 hup hn hone hD kU LA LB top hk m h' u f A (B ++ [v]) p c X q' c1 Y' hu hfn (by omega) (by simp; omega) e1 e2 (by simpa using e3) o1 (by simpa [nats] using o2') s.flip
          simpa using this

theorem Path_of {h : Heap} {w : List Int} {m cW : Nat} {qW : Option Addr} {u v : Int} {K : Option Addr → Nat → Nat → Heap → Prop} (hup : up.length = n) (hw : w.length = m) (kU : Keeps h0 R qU (up.map (Value.int .i64))) (kW : Keeps h0 R qW (w.map (Value.int .i64))) (s : St h0 h R)
    (hk0 : ¬ (RightT up w ∧ 0 ≤ u ∧ u < n ∧ 0 ≤ v ∧ v < n) → ∀ h', St h0 h' R → K none 0 0 h')
    (hk1 : ∀ (D : Nat → Int) (a b : Nat), RightT up w → u = a → v = b → a < n → b < n → DR up n D → ∀ h' p c X, Own p c (nats (pathF (UU up) D (2 * n + 1) a b)) X → St h0 h' (X ++ R) → K p (pathF (UU up) D (2 * n + 1) a b).length c h') : tree_Path qU n cU qW m cW u v h K := by
  unfold tree_Path
  refine s.new_ fun t h1 s => ?_
  try simp -zeta (disch := omega) only [chkP_some, iteB_true, iteB_false, add_mk, Nat.zero_add, Nat.add_zero, Nat.mul_one, Nat.reduceAdd, Int.toNat_natCast, ex_int, ex_slice, ex_ptr, ex_bool, ex_str, ex_flt, ex_any, bnd_in, List.getElem?_cons_zero, List.getElem?_cons_succ, List.set_cons_zero, List.set_cons_succ, List.cons_append, List.nil_append, bne_self_eq_false, beq_self_eq_true, Bool.not_true, Bool.not_false, Option.isNone_some, Option.isNone_none, eq_self, true_and, and_true, and_self, s.rd0]
  refine callP4.self (depths_of hup hw kU.cons kW.cons s (fun hno h' s => ?_) (fun r h' b D hD s => ?_))
  · intro j
    exact iteB_pos rfl (hk0 (fun hh => hno hh.1) _ s.tail)
  intro j
  refine iteB_neg rfl ?_
  refine iteB_intro (fun c => hk0 (by have := of_decide_eq_true c; omega) _ s.tail.tail) (fun c => ?_)
  have c := of_decide_eq_false c
  refine iteB_intro (fun c2 => hk0 (by have := of_decide_eq_true c2; omega) _ s.tail.tail) (fun c2 => ?_)
  have c2 := of_decide_eq_false c2
  refine iteB_intro (fun c3 => hk0 (by have := of_decide_eq_true c3; omega) _ s.tail.tail) (fun c3 => ?_)
  have c3 := of_decide_eq_false c3
  refine iteB_intro (fun c4 => hk0 (by have := of_decide_eq_true c4; omega) _ s.tail.tail) (fun c4 => ?_)
  have c4 := of_decide_eq_false c4
  obtain ⟨a, rfl⟩ : ∃ a : Nat, u = a := ⟨u.toNat, by omega⟩
  obtain ⟨b', rfl⟩ : ∃ a : Nat, v = a := ⟨v.toNat, by omega⟩
  have hk1 := hk1 D a b' r rfl rfl (by omega) (by omega) hD
  clear hk0
  simp -zeta only [j]
  clear j
  have hn : n ≤ 4096 := by have := r.max; omega
  have hone : (up.filter (· == -1)).length ≤ 1 := by rw [r.roots]; omega
  obtain ⟨da, hda, hda2⟩ := hD a (by omega)
  obtain ⟨db, hdb, hdb2⟩ := hD b' (by omega)
  have := hda2.lt_n
  have := hdb2.lt_n
  obtain ⟨g1, g2, g3, g4⟩ := meetF_sum (m := 2 * n) hup hone hD (u := a) (v := b') (by omega) (by omega) (by omega)
  refine ⟨2 * n + 1, path_l0 (h0 := h0) (R := R) (b := b) (t := t) hup hn hone hD kU (meetF (UU up) D (2 * n + 1) a b').1 (meetF (UU up) D (2 * n + 1) a b').2.2 (meetF (UU up) D (2 * n + 1) a b').2.1 (fun h2 p c X q c' Y o1 o2 s => ?_) (2 * n) h' a b' [] [] none 0 [] none 0 [] (by omega) (by omega) (by omega) (by simp; omega) rfl rfl rfl Own.nil Own.nil (by simpa using s)⟩
  unfold pathF at hk1
  generalize (meetF (UU up) D (2 * n + 1) a b').1 = LA at *
  generalize (meetF (UU up) D (2 * n + 1) a b').2.2 = LB at *
  generalize (meetF (UU up) D (2 * n + 1) a b').2.1 = top at *
  have o2' := o2
  rw [nats_ints] at o2'
  have e : LB.length = (LB.map fun v : Nat => (v : Int)).length := by simp
  rw [e]
  refine callP0.self (Reverse_of (by simp; omega) o2' s.flip fun Y' h3 o2 s => ?_)
  have er : (LB.map fun v : Nat => (v : Int)).reverse.map (Value.int .i64) = nats LB.reverse := by simp [nats]
  rw [er] at o2
  have s := s.flip
  rw [← e]
  refine Own.push1 o1 s (by simp) rfl (by simp; omega) fun p1 c1 X1 h4 o1 s => ?_
  have hq := o2.vals s.flip
  refine Own.pushAll o1 s (by simp) hq (by simp) (by simp) (flat_map fun _ => rfl) (by simp; omega) fun p2 c2 X2 h5 o1 s => ?_
  have := hk1 h5 p2 c2 X2 (by simpa [nats] using o1) ((St.re s (by intro a; simp only [cntR_append, cntR_cons, cntR_nil, List.cons_append, List.nil_append, List.set_cons_zero, List.set_cons_succ]; omega)))
  have e3 : (nats LA ++ [Value.int .i64 (top : Int)]).length + LB.length = (LA ++ [top] ++ LB.reverse).length := by simp [nats]; omega
  first | (rw [e3]; exact this) | (simp [nats] at this e3 ⊢; rw [e3]; exact this)
end
end Go.Proofs.Ytfidcekobjmamaa
