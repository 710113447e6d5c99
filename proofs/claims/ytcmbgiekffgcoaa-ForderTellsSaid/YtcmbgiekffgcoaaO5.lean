/-
  Floats in order: bits as floats; the document's sort.
-/
import Derived.Test.YtcmbgiekffgcoaaO4
namespace Go.Proofs.Ytcmbgiekffgcoaa
set_option linter.unusedVariables false
set_option linter.unusedSimpArgs false
open Go.Hp Go.RowKit
attribute [local irreducible] Go.Hp.iteB Go.Hp.stC Go.Hp.newP

section
variable {h0 : Heap} {c n : Nat} {q : Option Addr} {l : List Nat} {R : Rws}

theorem floats_l0 {K2 : Option Addr → Nat → Nat → Heap → Prop} (hn : l.length = n) (hn2 : n < 2 ^ 40) (v : Keeps h0 R q (u64s l)) (hk : ∀ q' c' X' h', Own q' c' (flts l) X' → St h0 h' (X' ++ R) → K2 q' n c' h') :
    ∀ (d i : Nat) (q' : Option Addr) (c' : Nat) (X : Rws) (h : Heap), i + d = n → Own q' c' (flts (l.take i)) X → St h0 h (X ++ R) → straitlaw03_floats.l0 K2 (d + 1) q n c q' i c' (i : Int) h
  | 0, i, q', c', X, h, hd, o, s => by
    unfold straitlaw03_floats.l0 straitlaw03_floats.b0
    have : i = n := by omega
    subst this
    rw [List.take_of_length_le (by omega)] at o
    exact iteB_neg (decide_eq_false (by omega)) (hk q' c' X h o s)
  | d + 1, i, q', c', X, h, hd, o, s => by
    unfold straitlaw03_floats.l0 straitlaw03_floats.b0
    obtain ⟨x, hx⟩ := get_lt (l := l) (i := i) (by omega)
    refine iteB_pos (decide_eq_true (by omega)) ?_
    simp -zeta (disch := omega) only [chkP_some, iteB_true, iteB_false, add_mk, Nat.zero_add, Nat.add_zero, Nat.mul_one, Nat.reduceAdd, Int.toNat_natCast, ex_int, ex_slice, ex_ptr, ex_bool, ex_str, ex_flt, ex_any, bnd_in, List.getElem?_cons_zero, List.getElem?_cons_succ, List.set_cons_zero, List.set_cons_succ, List.cons_append, List.nil_append, bne_self_eq_false, beq_self_eq_true, Bool.not_true, Bool.not_false, Option.isNone_some, Option.isNone_none, eq_self, true_and, and_true, and_self, u64_at (v.at1 s) hx]
    refine qcallP1.of x (fun R hR => FOf_of hR) ?_
    have hl : (flts (l.take i)).length = i := by simp; omega
    refine Own.push1 o s hl.symm rfl (by omega) fun q2 c2 X2 h2 o2 s2 => ?_
    rw [hl, wrap_id (by omega) (by omega)]
    refine floats_l0 hn hn2 v hk d (i + 1) q2 c2 X2 h2 (by omega) ?_ s2
    rw [take_snoc hx]; simpa using o2
theorem floats_of {h : Heap} {K : Option Addr → Nat → Nat → Heap → Prop} (hn : l.length = n) (hn2 : n < 2 ^ 40) (v : Keeps h0 R q (u64s l)) (s : St h0 h R) (hk : ∀ q' c' X' h', Own q' c' (flts l) X' → St h0 h' (X' ++ R) → K q' n c' h') :
    straitlaw03_floats q n c h K := by
  unfold straitlaw03_floats
  exact ⟨n + 1, floats_l0 hn hn2 v hk n 0 none 0 [] h (by omega) (by simpa using Own.nil) s⟩

/-- One put ahead of the first one that comes behind it. -/
def insK (x : Nat) (o : List Nat) : Nat := o.findIdx fun y => decide (pl x < pl y)
def insL (x : Nat) (o : List Nat) : List Nat := o.take (insK x o) ++ [bitsR x] ++ o.drop (insK x o)
def rsort (l : List Nat) : Nat → List Nat
  | 0 => []
  | i + 1 => insL (l.getD i 0) (rsort l i)
theorem insK_le (x : Nat) (o : List Nat) : insK x o ≤ o.length := List.findIdx_le_length
theorem insL_len (x : Nat) (o : List Nat) : (insL x o).length = o.length + 1 := by have := insK_le x o; simp [insL]; omega
theorem rsort_len (l : List Nat) : ∀ i, (rsort l i).length = i
  | 0 => rfl
  | i + 1 => by rw [rsort, insL_len, rsort_len l i]
theorem bitsR_lt {b : Nat} (h : b < 18446744073709551616) : bitsR b < 18446744073709551616 := by unfold bitsR; split <;> omega
theorem rsort_bnd (hb : Bnd l) : ∀ i, i ≤ l.length → Bnd (rsort l i)
  | 0, _ => fun x hx => by simp [rsort] at hx
  | i + 1, hi => fun x hx => by
    have ih := rsort_bnd hb i (by omega)
    obtain ⟨y, hy⟩ := get_lt (l := l) (i := i) (by omega)
    simp only [rsort, insL, List.append_assoc, List.mem_append, List.mem_singleton] at hx
    rcases hx with hx | rfl | hx
    · exact ih x (List.mem_of_mem_take hx)
    · rw [getD_of hy]; exact bitsR_lt (hb.at hy)
    · exact ih x (List.mem_of_mem_drop hx)

theorem rsort_l1 {K4 : Int → Heap → Prop} {h : Heap} {q2 : Option Addr} {c2 i x m : Nat} {o : List Nat} (hn : l.length = n) (hn2 : n < 2 ^ 40) (v : valsAt h q (u64s l)) (v2 : valsAt h q2 (u64s o)) (hb : Bnd l) (hb2 : Bnd o) (hx : l[i]? = some x) (ho : o.length = m) (hm : m < 2 ^ 40)
    (hk : K4 (insK x o : Nat) h) : ∀ (k : Nat), k ≤ m → straitref03_Sort.l1 K4 (k + 1) q n c q2 m c2 (i : Int) ((k + (o.drop k).findIdx fun y => decide (pl x < pl y) : Nat) : Int) ((k : Int) - 1) h
  | 0, _ => by
    unfold straitref03_Sort.l1 straitref03_Sort.b1
    refine iteB_neg (decide_eq_false (by omega)) ?_
    rw [Nat.zero_add, List.drop_zero]; exact hk
  | k + 1, hkm => by
    unfold straitref03_Sort.l1 straitref03_Sort.b1
    have hi := lt_get hx
    obtain ⟨y, hy⟩ := get_lt (l := o) (i := k) (by omega)
    have ih := rsort_l1 (c2 := c2) hn hn2 v v2 hb hb2 hx ho hm hk k (by omega)
    rw [drop_cons hy, List.findIdx_cons] at ih
    refine iteB_pos (decide_eq_true (by omega)) ?_
    rw [show ((k + 1 : Nat) : Int) - 1 = (k : Int) by omega]
    simp -zeta (disch := omega) only [chkP_some, iteB_true, iteB_false, add_mk, Nat.zero_add, Nat.add_zero, Nat.mul_one, Nat.reduceAdd, Int.toNat_natCast, ex_int, ex_slice, ex_ptr, ex_bool, ex_str, ex_flt, ex_any, bnd_in, List.getElem?_cons_zero, List.getElem?_cons_succ, List.set_cons_zero, List.set_cons_succ, List.cons_append, List.nil_append, bne_self_eq_false, beq_self_eq_true, Bool.not_true, Bool.not_false, Option.isNone_some, Option.isNone_none, eq_self, true_and, and_true, and_self, u64_at v hx, u64_at v2 hy, wrap_id]
    refine qcallP1.of _ (fun R hR => RCmp_of (hb.at hx) (hb2.at hy) hR) ?_
    refine iteB_intro (fun e => ?_) (fun e => ?_)
    · have e : pl x < pl y := cmpI_lt.1 (by simpa using e)
      rw [decide_eq_true e] at ih; exact ih
    · have e : ¬ pl x < pl y := fun h => by have := cmpI_lt.2 h; simp [this] at e
      rw [decide_eq_false e] at ih
      simp only [cond_false] at ih
      rw [show k + 1 + List.findIdx (fun y => decide (pl x < pl y)) (List.drop (k + 1) o) = k + (List.findIdx (fun y => decide (pl x < pl y)) (List.drop (k + 1) o) + 1) by omega]; exact ih

theorem rsort_at {K4 : Int → Heap → Prop} {f : Nat} {q q' : Option Addr} {n c m c' : Nat} {i A A' B B' : Int} {h : Heap} (h1 : straitref03_Sort.l1 K4 f q n c q' m c' i A B h) (ha : A = A') (hb : B' = B) : straitref03_Sort.l1 K4 f q n c q' m c' i A' B' h := by
  subst ha hb; exact h1
theorem RSort_l0 {K2 : Option Addr → Nat → Nat → Heap → Prop} (hn : l.length = n) (hn2 : n < 2 ^ 30) (hb : Bnd l) (v : Keeps h0 R q (u64s l)) (hk : ∀ q' c' X' h', Own q' c' (u64s (rsort l n)) X' → St h0 h' (X' ++ R) → K2 q' n c' h') :
    ∀ (d i : Nat) (q' : Option Addr) (c' : Nat) (X : Rws) (h : Heap), i + d = n → Own q' c' (u64s (rsort l i)) X → St h0 h (X ++ R) → straitref03_Sort.l0 K2 (d + 1) q n c q' i c' (i : Int) h
  | 0, i, q', c', X, h, hd, o, s => by
    unfold straitref03_Sort.l0 straitref03_Sort.b0
    have : i = n := by omega
    subst this
    exact iteB_neg (decide_eq_false (by omega)) (hk q' c' X h o s)
  | d + 1, i, q', c', X, h, hd, o, s => by
    unfold straitref03_Sort.l0 straitref03_Sort.b0
    obtain ⟨x, hx⟩ := get_lt (l := l) (i := i) (by omega)
    have hol := rsort_len l i
    have hkl := insK_le x (rsort l i)
    have hcap : (rsort l i).length ≤ c' := by
      rcases o with ⟨rfl, rfl, hl, rfl⟩ | ⟨b, z, rfl, hc2, rfl⟩
      · have : rsort l i = [] := by simpa using hl
        simp [this]
      · rw [hc2]; simp
    refine iteB_pos (decide_eq_true (by omega)) ⟨i + 1, ?_⟩
    refine rsort_at (rsort_l1 (q := q) (c := c) (q2 := q') (c2 := c') (i := i) (m := i) (x := x) (o := rsort l i) hn (by omega) (v.at1 s) (o.vals s) hb (rsort_bnd hb i (by omega)) hx hol (by omega) ?_ i (Nat.le_refl _)) ?_ (wrap_id (by omega) (by omega))
    rotate_left
    · rw [List.drop_of_length_le (by omega), List.findIdx_nil, Nat.add_zero]
    · refine ⟨by omega, ?_⟩
      simp only [Int.toNat_natCast, Nat.mul_one]
      have ea : (if c' = 0 then q' else q'.map (·.add (0 * 1))) = q' := by
        split
        · rfl
        · rcases o with ⟨rfl, rfl, hl, rfl⟩ | ⟨b, z, rfl, hc2, rfl⟩
          · rfl
          · simp
      rw [ea]
      refine Own.pushAll (l := []) (l2 := u64s ((rsort l i).take (insK x (rsort l i)))) Own.nil (X := []) (R := X ++ R) s rfl ?_ (by simp; omega) rfl (flat_map fun _ => rfl) (by simp; omega) fun q1 c1 X1 h1 o1 s1 => ?_
      · rw [u64s, List.map_take]; exact (o.vals s).take _
      · have v1 : valsAt h1 q (u64s l) := v _ _ s1 (fun y hy => by simp [hy])
        simp -zeta (disch := omega) only [chkP_some, iteB_true, iteB_false, add_mk, Nat.zero_add, Nat.add_zero, Nat.mul_one, Nat.reduceAdd, Int.toNat_natCast, ex_int, ex_slice, ex_ptr, ex_bool, ex_str, ex_flt, ex_any, bnd_in, List.getElem?_cons_zero, List.getElem?_cons_succ, List.set_cons_zero, List.set_cons_succ, List.cons_append, List.nil_append, bne_self_eq_false, beq_self_eq_true, Bool.not_true, Bool.not_false, Option.isNone_some, Option.isNone_none, eq_self, true_and, and_true, and_self, u64_at v1 hx]
        refine qcallP1.of _ (fun R hR => RBits_of (hb.at hx) hR) ?_
        refine Own.push1 o1 s1 (by simp; omega) rfl (by simp; omega) fun q2 c2 X2 h2 o2 s2 => ?_
        refine ⟨by omega, ?_⟩
        refine Own.pushAll (l2 := u64s ((rsort l i).drop (insK x (rsort l i)))) o2 s2 (by simp) ?_ (by simp; omega) rfl (flat_map fun _ => rfl) (by simp; omega) fun q3 c3 X3 h3 o3 s3 => ?_
        · have v2 := o.vals s2.flip
          split
          · rw [List.drop_of_length_le (by omega)]; intro j w hw; simp at hw
          · rcases o with ⟨rfl, rfl, hl, rfl⟩ | ⟨b, z, rfl, hc2, rfl⟩
            · have : rsort l i = [] := by simpa using hl
              rw [this]; intro j w hw; simp at hw
            · intro j w hw
              refine ⟨_, rfl, ?_⟩
              obtain ⟨a, ha, hc⟩ := v2 (insK x (rsort l i) + j) w (by simpa [List.getElem?_drop] using hw)
              cases ha
              simpa [Nat.add_assoc] using hc
        · have e : insL x (rsort l i) = rsort l (i + 1) := by rw [rsort, getD_of hx]
          rw [wrap_id (by omega) (by omega)]
          have hlen : ([] ++ u64s ((rsort l i).take (insK x (rsort l i))) ++ [Value.int .u64 (bitsR x)]).length + (i - insK x (rsort l i)) = i + 1 := by simp; omega
          rw [hlen]
          refine RSort_l0 hn hn2 hb v hk d (i + 1) q3 c3 X3 h3 (by omega) ?_ s3.cut
          rw [← e]
          simpa [insL, u64s, List.map_append] using o3
theorem RSort_of {h : Heap} {K : Option Addr → Nat → Nat → Heap → Prop} (hn : l.length = n) (hn2 : n < 2 ^ 30) (hb : Bnd l) (v : Keeps h0 R q (u64s l)) (s : St h0 h R) (hk : ∀ q' c' X' h', Own q' c' (u64s (rsort l n)) X' → St h0 h' (X' ++ R) → K q' n c' h') :
    straitref03_Sort q n c h K := by
  unfold straitref03_Sort
  exact ⟨n + 1, RSort_l0 hn hn2 hb v hk n 0 none 0 [] h (by omega) (by simpa [rsort] using Own.nil) s⟩
end
end Go.Proofs.Ytcmbgiekffgcoaa
