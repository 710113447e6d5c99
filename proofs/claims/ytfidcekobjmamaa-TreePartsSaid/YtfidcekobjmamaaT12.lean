/-
  Trees: what is below a vertex, the program's and the document's.
-/
import Derived.Test.YtfidcekobjmamaaT11
import Derived.Test.YtfidcekobjmamaaSo
import Derived.Test.YtfidcekobjmamaaShelf
namespace Go.Proofs.Ytfidcekobjmamaa
set_option linter.unusedVariables false
set_option linter.unusedSimpArgs false
set_option linter.unnecessarySimpa false
open Go.Hp Go.RowKit
attribute [local irreducible] Go.Hp.iteB Go.Hp.stC Go.Hp.newP

/-! ### The library's sort -/
def sortN (l : List Nat) : List Nat := l.mergeSort fun x y => decide (x ≤ y)
theorem sortN_len (l : List Nat) : (sortN l).length = l.length := List.length_mergeSort ..
theorem sortN_one {l m : List Nat} (p : l.Perm m) (hm : m.Pairwise (· ≤ ·)) : sortN l = m := by
  refine List.Perm.eq_of_pairwise (le := (· ≤ ·)) (fun a b _ _ h1 h2 => Nat.le_antisymm h1 h2) ?_ hm ((List.mergeSort_perm ..).trans p)
  have := List.pairwise_mergeSort (le := fun x y : Nat => decide (x ≤ y)) (fun a b c h1 h2 => by simp at *; omega) (fun a b => by simp; omega) l
  exact this.imp fun h => by simpa using h
theorem Sort_of {h0 h : Heap} {q : Option Addr} {c n : Nat} {l : List Nat} {X R : Rws} {K : Heap → Prop} (hn : l.length = n) (hn2 : n < 2 ^ 40) (o : Own q c (natV l) X) (s : St h0 h (X ++ R))
    (hk : ∀ X' h', Own q c (natV (sortN l)) X' → St h0 h' (X' ++ R) → K h') : slices_Sort_Lint_int q n c h K := by
  intro w hw
  subst hw
  refine ⟨enters_of Try.func54 (by kernel_rfl) rfl _ _, ?_⟩
  rcases o with ⟨rfl, rfl, hl, rfl⟩ | ⟨b, z, rfl, hc2, rfl⟩
  · have hl : l = [] := by simpa [natV] using hl
    subst hl
    have hn : n = 0 := by simpa using hn.symm
    subst hn
    refine (Try.slices_Sort_int_none _ _ w).mono ?_
    rintro e w' ⟨rfl, rfl⟩
    exact ⟨_, rfl, Out.refl _, hk [] _ (by simpa [sortN, natV] using Own.nil) s⟩
  · obtain ⟨d, hd⟩ : ∃ d : List Int, d = l.map fun v : Nat => (v : Int) := ⟨_, rfl⟩
    have hd2 : d.toArray.toList.map (Value.int .i64) = natV l := by rw [hd, natV_ints]
    have hsz : d.length = n := by rw [hd]; simpa using hn
    have s' : St h0 w.heap ((b, d.toArray.toList.map (Value.int .i64) ++ z) :: R) := by rw [hd2]; exact s
    have hH := holds_row (enc := Value.int .i64) (d := d.toArray) (z := z) (s'.rows (b, d.toArray.toList.map (Value.int .i64) ++ z) (by simp))
    have hlt := (s'.rows (b, d.toArray.toList.map (Value.int .i64) ++ z) (by simp)).lt
    have HC := Try.slices_Sort_int b 0 c d w hH hlt (by omega)
    rw [hsz] at HC
    refine HC.mono ?_
    rintro e w' ⟨rfl, m, os, rfl⟩
    refine ⟨_, rfl, out_sorted (enc := Value.int .i64) (off := 0), ?_⟩
    have e1 : ((d.mergeSort fun x y => decide (x ≤ y)).toArray.toList.map (Value.int .i64)) = natV (sortN l) := by
      rw [natV_ints, sortN, hd]
      congr 1
      exact (List.map_mergeSort (fun a _ b _ => by simp)).symm
    have s2 := s'.sorted (n := m) (d' := (d.mergeSort fun x y => decide (x ≤ y)).toArray) (os := os) (by simp)
    rw [e1] at s2
    refine hk [(b, natV (sortN l) ++ z)] _ (.inr ⟨b, z, rfl, ?_, rfl⟩) s2
    rw [hc2]; simp [natV_len, sortN_len]

/-! ### Is one among some? -/
theorem in_l0 {K0 : Bool → Heap → Prop} {K2 : Heap → Prop} {h : Heap} {q : Option Addr} {c n : Nat} {l : List Nat} {v : Int} (hl : l.length = n) (hn : n < 2 ^ 40) (vq : valsAt h q (natV l)) (hk0 : v ∈ l.map (fun x : Nat => (x : Int)) → K0 true h) (hk2 : v ∉ l.map (fun x : Nat => (x : Int)) → K2 h) :
    ∀ (d i : Nat), i + d = n → v ∉ (l.take i).map (fun x : Nat => (x : Int)) → straitref21_In.l0 K0 K2 (d + 1) q n c v (i : Int) h
  | 0, i, hi, hno => by
    unfold straitref21_In.l0 straitref21_In.b0
    rw [List.take_of_length_le (by omega)] at hno
    exact iteB_neg (decide_eq_false (by omega)) (hk2 hno)
  | d + 1, i, hi, hno => by
    unfold straitref21_In.l0 straitref21_In.b0
    obtain ⟨x, hx⟩ := get_lt (l := l) (i := i) (by omega)
    have gx : (natV l)[i]? = some (.int .i64 (x : Int)) := by simp [natV, hx]
    refine iteB_pos (decide_eq_true (by omega)) ?_
    simp -zeta (disch := omega) only [chkP_some, iteB_true, iteB_false, add_mk, Nat.zero_add, Nat.add_zero, Nat.mul_one, Nat.reduceAdd, Int.toNat_natCast, ex_int, ex_slice, ex_ptr, ex_bool, ex_str, ex_flt, ex_any, bnd_in, List.getElem?_cons_zero, List.getElem?_cons_succ, List.set_cons_zero, List.set_cons_succ, List.cons_append, List.nil_append, bne_self_eq_false, beq_self_eq_true, Bool.not_true, Bool.not_false, Option.isNone_some, Option.isNone_none, eq_self, true_and, and_true, and_self, vals_int vq gx]
    refine iteB_intro (fun e => hk0 ?_) (fun e => ?_)
    · have e : (x : Int) = v := by simpa using e
      exact List.mem_map.2 ⟨x, List.mem_of_getElem? hx, e⟩
    · have e : ¬ (x : Int) = v := by simpa using e
      rw [wrap_id (by omega) (by omega)]
      refine in_l0 hl hn vq hk0 hk2 d (i + 1) (by omega) ?_
      rw [take_snoc hx, List.map_append, List.mem_append]
      intro h
      rcases h with h | h
      · exact hno h
      · simp only [List.map_cons, List.map_nil, List.mem_singleton] at h; exact e h.symm
theorem In_of {h : Heap} {q : Option Addr} {c n : Nat} {l : List Nat} {v : Int} {K : Bool → Heap → Prop} (hl : l.length = n) (hn : n < 2 ^ 40) (vq : valsAt h q (natV l)) (hk : K (decide (v ∈ l.map (fun x : Nat => (x : Int)))) h) : straitref21_In q n c v h K := by
  unfold straitref21_In
  exact ⟨n + 1, in_l0 hl hn vq (fun h => by rw [decide_eq_true h] at hk; exact hk) (fun h => by rw [decide_eq_false h] at hk; exact hk) n 0 (by omega) (by simp)⟩
theorem mem_cast {l : List Nat} {v : Nat} : (v : Int) ∈ l.map (fun x : Nat => (x : Int)) ↔ v ∈ l := by
  rw [List.mem_map]
  constructor
  · rintro ⟨x, hx, e⟩
    have : x = v := by omega
    subst this; exact hx
  · exact fun h => ⟨v, h, rfl⟩

/-! ### Below -/
def isB (up : List Int) (v u : Nat) : Bool := decide (v ∈ ways (UU up) up.length u)
open Classical in
noncomputable def belL (up w : List Int) (v : Int) : List Nat := if RightT up w ∧ 0 ≤ v ∧ v < (up.length : Int) then (List.range up.length).filter (isB up v.toNat) else []
theorem belL_le (up w : List Int) (v : Int) : (belL up w v).length ≤ up.length := by
  unfold belL; split
  · have := List.length_filter_le (isB up v.toNat) (List.range up.length); simpa using this
  · simp

theorem filter1 {α : Type} (p : α → Bool) (i : α) : [i].filter p = if p i = true then [i] else [] := by cases h : p i <;> simp [h]
def boolV (n : Nat) (f : Nat → Bool) : List Value := (List.range n).map fun i => Value.bool (f i)
theorem boolV_len (n : Nat) (f : Nat → Bool) : (boolV n f).length = n := by simp [boolV]
theorem boolV_get {n i : Nat} {f : Nat → Bool} (h : i < n) : (boolV n f)[i]? = some (.bool (f i)) := by simp [boolV, h]
theorem boolV_set {n i : Nat} {f : Nat → Bool} {x : Bool} : (boolV n f).set i (.bool x) = boolV n (upd f i x) := by
  apply List.ext_getElem?
  intro j
  by_cases h : i = j
  · subst h
    by_cases hj : i < n
    · rw [List.getElem?_set_self (by rw [boolV_len]; exact hj), boolV_get hj, upd_same]
    · rw [List.getElem?_eq_none (by rw [List.length_set, boolV_len]; omega), List.getElem?_eq_none (by rw [boolV_len]; omega)]
  · rw [List.getElem?_set_ne h]
    simp [boolV, List.getElem?_map, List.getElem?_range]
    by_cases hj : j < n
    · simp [hj, upd_ne _ _ (fun e : j = i => h e.symm)]
    · simp [hj]
theorem boolV_congr {n : Nat} {f g : Nat → Bool} (h : ∀ i, i < n → f i = g i) : boolV n f = boolV n g := by
  unfold boolV; exact List.map_congr_left fun i hi => by rw [h i (List.mem_range.1 hi)]
theorem boolV_zero : ∀ n, zeroRow [Value.bool false] n = boolV n fun _ => false
  | 0 => rfl
  | n + 1 => by
    rw [zeroRow, boolV_zero n]
    simp [boolV, List.map_const', List.replicate_succ]

section
variable {h0 : Heap} {R : Rws} {n : Nat} {up w : List Int} {qU qW : Option Addr} {cU cW : Nat}

theorem rbel_l0 {K2 : Option Addr → Nat → Nat → Heap → Prop} {t m v : Nat} (hup : up.length = n) (hn : n ≤ 4096) (kU : Keeps h0 R qU (up.map (Value.int .i64)))
    (hk : ∀ q c X h', Own q c (natV ((List.range n).filter (isB up v))) X → St h0 h' (X ++ (t, [.slice qU n cU, .slice qW m cW]) :: R) → K2 q ((List.range n).filter (isB up v)).length c h') :
    ∀ (d i : Nat) (q : Option Addr) (c : Nat) (X : Rws) (h : Heap), i + d = n → Own q c (natV ((List.range i).filter (isB up v))) X → St h0 h (X ++ (t, [.slice qU n cU, .slice qW m cW]) :: R) →
      straitref29_Below.l0 K2 (d + 1) (v : Int) ⟨t, 0, none⟩ q ((List.range i).filter (isB up v)).length c (i : Int) h
  | d, i, q, c, X, h, hi, o, s => by
    unfold straitref29_Below.l0 straitref29_Below.b0
    have rt : ∀ j, cell h ⟨t, j, none⟩ = [.slice qU n cU, .slice qW m cW][j]? := s.rd (by simp)
    simp -zeta (disch := omega) only [chkP_some, iteB_true, iteB_false, add_mk, Nat.zero_add, Nat.add_zero, Nat.mul_one, Nat.reduceAdd, Int.toNat_natCast, ex_int, ex_slice, ex_ptr, ex_bool, ex_str, ex_flt, ex_any, bnd_in, List.getElem?_cons_zero, List.getElem?_cons_succ, List.set_cons_zero, List.set_cons_succ, List.cons_append, List.nil_append, bne_self_eq_false, beq_self_eq_true, Bool.not_true, Bool.not_false, Option.isNone_some, Option.isNone_none, eq_self, true_and, and_true, and_self, rt]
    refine iteB_intro (fun e => ?_) (fun e => ?_)
    · have e : i < n := by have e : (i : Int) < n := by simpa using e
                           omega
      cases d with
      | zero => omega
      | succ d =>
        have hfl : ((List.range i).filter (isB up v)).length ≤ i := by
          have := List.length_filter_le (isB up v) (List.range i); simpa using this
        refine callP3.self (Up_of (mW := m) (R := X ++ (t, [.slice qU n cU, .slice qW m cW]) :: R) hup hn kU.cons.app s fun q3 c3 X3 h3 o3 s3 => ?_)
        have hle := upL_le (UU up) n (n + 1) (i : Int)
        refine qcallP1.of (isB up v i) (fun Q hQ => In_of rfl (by omega) (o3.vals s3) (by rw [decide_eq_decide.2 mem_cast]; unfold isB at hQ; rw [hup] at hQ; exact hQ)) ?_
        have s4 := s3.drop
        have er : (List.range (i + 1)).filter (isB up v) = (List.range i).filter (isB up v) ++ (if isB up v i then [i] else []) := by
          rw [List.range_succ, List.filter_append, filter1]
        refine iteB_intro (fun e2 => ?_) (fun e2 => ?_)
        · rw [if_pos e2] at er
          refine Own.push1 o s4 (natV_len _).symm rfl (by rw [natV_len]; omega) fun q2 c2 X2 h2 o2 s2 => ?_
          rw [natV_len, wrap_id (by omega) (by omega)]
          have ih := rbel_l0 hup hn kU hk d (i + 1) q2 c2 X2 h2 (by omega) (by rw [er]; simpa [natV] using o2) s2
          rw [er, List.length_append, List.length_singleton] at ih
          exact ih
        · rw [if_neg (by simp [e2]), List.append_nil] at er
          rw [wrap_id (by omega) (by omega)]
          have ih := rbel_l0 hup hn kU hk d (i + 1) q c X h3 (by omega) (by rw [er]; exact o) s4
          rw [er] at ih; exact ih
    · have e : n ≤ i := by have e : (n : Int) ≤ i := by simpa using e
                           omega
      have hin : i = n := by omega
      subst hin
      exact hk q c X h o s
open Classical in
theorem RBelow_of {h : Heap} {m : Nat} {v : Int} {K : Option Addr → Nat → Nat → Heap → Prop} (hup : up.length = n) (hw : w.length = m) (hn : n ≤ 4096) (kU : Keeps h0 R qU (up.map (Value.int .i64))) (kW : Keeps h0 R qW (w.map (Value.int .i64))) (s : St h0 h R)
    (hk : ∀ q c X h', Own q c (natV (belL up w v)) X → St h0 h' (X ++ R) → K q (belL up w v).length c h') : straitref29_Below qU n cU qW m cW v h K := by
  unfold straitref29_Below
  refine s.new_ fun t h1 s1 => ?_
  try simp -zeta (disch := omega) only [chkP_some, iteB_true, iteB_false, add_mk, Nat.zero_add, Nat.add_zero, Nat.mul_one, Nat.reduceAdd, Int.toNat_natCast, ex_int, ex_slice, ex_ptr, ex_bool, ex_str, ex_flt, ex_any, bnd_in, List.getElem?_cons_zero, List.getElem?_cons_succ, List.set_cons_zero, List.set_cons_succ, List.cons_append, List.nil_append, bne_self_eq_false, beq_self_eq_true, Bool.not_true, Bool.not_false, Option.isNone_some, Option.isNone_none, eq_self, true_and, and_true, and_self, s1.rd0]
  refine callP1.self (in_of hup hw kU.cons kW.cons s1 fun h2 s2 => ?_)
  by_cases e : RightT up w ∧ 0 ≤ v ∧ v < (n : Int)
  · rw [decide_eq_true e]
    have hb : belL up w v = (List.range n).filter (isB up v.toNat) := by unfold belL; rw [hup, if_pos e]
    obtain ⟨v, rfl⟩ := Int.eq_ofNat_of_zero_le e.2.1
    rw [Int.toNat_natCast] at hb
    rw [hb] at hk
    exact iteB_neg rfl ⟨n + 1, rbel_l0 hup hn kU (fun q c X h' o s' => hk q c X h' o (by simpa using St.drop (L := [(t, _)]) (s'.mid))) n 0 none 0 [] h2 (by omega) (by simpa [natV] using Own.nil) (by simpa using s2)⟩
  · rw [decide_eq_false e]
    have hb : belL up w v = [] := by unfold belL; rw [hup, if_neg e]
    rw [hb] at hk
    exact iteB_pos rfl (hk none 0 [] h2 Own.nil s2.tail)
end
end Go.Proofs.Ytfidcekobjmamaa
