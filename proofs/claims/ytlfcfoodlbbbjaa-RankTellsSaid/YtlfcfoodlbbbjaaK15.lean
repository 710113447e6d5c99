/-
  Ranks: the document's Distinct, and the sorted row.
-/
import Derived.Test.YtlfcfoodlbbbjaaK14
namespace Go.Proofs.Ytlfcfoodlbbbjaa
set_option linter.unusedVariables false
set_option linter.unusedSimpArgs false
set_option linter.unnecessarySimpa false
open Go.Hp Go.RowKit
attribute [local irreducible] Go.Hp.iteB Go.Hp.stC Go.Hp.newP

def sortI (l : List Int) : List Int := l.mergeSort fun x y => decide (x ≤ y)
theorem sortI_len (l : List Int) : (sortI l).length = l.length := List.length_mergeSort ..
theorem sortI_one {l m : List Int} (p : l.Perm m) (hm : m.Pairwise (· ≤ ·)) : sortI l = m := by
  refine List.Perm.eq_of_pairwise (le := (· ≤ ·)) (fun a b _ _ h1 h2 => Int.le_antisymm h1 h2) ?_ hm ((List.mergeSort_perm ..).trans p)
  have := List.pairwise_mergeSort (le := fun x y : Int => decide (x ≤ y)) (fun a b c h1 h2 => by simp at *; omega) (fun a b => by simp; omega) l
  exact this.imp fun h => by simpa using h
theorem map_range_get (l : List Int) : (List.range l.length).map (keyI l) = l := by
  apply List.ext_getElem?
  intro i
  by_cases h : i < l.length
  · simp [h, keyI, List.getD]
  · rw [List.getElem?_eq_none (by simp; omega), List.getElem?_eq_none (by omega)]
theorem sortI_by (l : List Int) : sortI l = (byL l).map (keyI l) := by
  refine sortI_one ?_ ?_
  · have := (byL_perm l).map (keyI l)
    rw [map_range_get] at this; exact this.symm
  · refine List.pairwise_map.2 ((byL_up l).imp fun h => ?_)
    rw [leK_iff] at h; omega
theorem sortI_at {l : List Int} {i v : Nat} (h : (byL l)[i]? = some v) : (sortI l)[i]? = some (keyI l v) := by rw [sortI_by, List.getElem?_map, h]; rfl

section
variable {h0 : Heap} {R : Rws}
theorem rdist_l0 {K2 : Option Addr → Nat → Nat → Heap → Prop} {n c cp : Nat} {qk qp : Option Addr} {l : List Int} (hl : l.length = n) (hn : n ≤ 2 ^ 20) (kk : Keeps h0 R qk (l.map (Value.int .i64))) (kp : Keeps h0 R qp (natV (byL l)))
    (hk : ∀ q co X h', Own q co ((comp (sortI l) n).map (Value.int .i64)) X → St h0 h' (X ++ R) → K2 q (comp (sortI l) n).length co h') :
    ∀ (d i : Nat) (q : Option Addr) (co : Nat) (X : Rws) (h : Heap), i + d = n → Own q co ((comp (sortI l) i).map (Value.int .i64)) X → St h0 h (X ++ R) → straitref14_Distinct.l0 K2 (d + 1) qk n c q (comp (sortI l) i).length co qp n cp (i : Int) h
  | 0, i, q, co, X, h, hi, o, s => by
    unfold straitref14_Distinct.l0 straitref14_Distinct.b0
    have e : i = n := by omega
    subst e
    exact iteB_neg (decide_eq_false (by omega)) (hk q co X h o s)
  | d + 1, i, q, co, X, h, hi, o, s => by
    unfold straitref14_Distinct.l0 straitref14_Distinct.b0
    have hbl := byL_len l
    obtain ⟨v, hv⟩ := get_lt (l := byL l) (i := i) (by omega)
    have hvl : v < l.length := (byL_mem l v).1 (List.mem_of_getElem? hv)
    have vp := kp.at1 (X := X) s
    have vk := kk.at1 (X := X) s
    have gp : (natV (byL l))[i]? = some (.int .i64 (v : Int)) := by simp [natV, hv]
    have gk : (l.map (Value.int .i64))[v]? = some (.int .i64 (keyI l v)) := by simp [keyI, List.getD, hvl]
    have cl := comp_le (sortI l) i
    have ex : (sortI l).getD i 0 = keyI l v := by simp [List.getD, sortI_at hv]
    refine iteB_pos (decide_eq_true (by omega)) ?_
    intro j
    have J : ∀ t : Bool, comp (sortI l) (i + 1) = comp (sortI l) i ++ (if t = true then [keyI l v] else []) → j t := by
      intro t ht
      simp -zeta only [j]
      refine iteB_intro (fun e => ?_) (fun e => ?_)
      · rw [if_pos e] at ht
        simp -zeta (disch := omega) only [chkP_some, iteB_true, iteB_false, add_mk, Nat.zero_add, Nat.add_zero, Nat.mul_one, Nat.reduceAdd, Int.toNat_natCast, ex_int, ex_slice, ex_ptr, ex_bool, ex_str, ex_flt, ex_any, bnd_in, List.getElem?_cons_zero, List.getElem?_cons_succ, List.set_cons_zero, List.set_cons_succ, List.cons_append, List.nil_append, bne_self_eq_false, beq_self_eq_true, Bool.not_true, Bool.not_false, Option.isNone_some, Option.isNone_none, eq_self, true_and, and_true, and_self, vals_int vp gp, vals_int vk gk]
        refine Own.push1 o s (by simp) rfl (by simp; omega) fun q2 c3 X2 h2 o2 s2 => ?_
        rw [wrap64 (by omega) (by omega)]
        have := rdist_l0 (c := c) (cp := cp) hl hn kk kp hk d (i + 1) q2 c3 X2 h2 (by omega) (by rw [ht]; simpa using o2) s2
        rw [ht] at this; simpa using this
      · rw [if_neg (by simp [e]), List.append_nil] at ht
        rw [wrap64 (by omega) (by omega)]
        have := rdist_l0 (c := c) (cp := cp) hl hn kk kp hk d (i + 1) q co X h (by omega) (by rw [ht]; exact o) s
        rw [ht] at this; exact this
    clear_value j
    refine iteB_intro (fun e => J true ?_) (fun e => ?_)
    · have e : i = 0 := by have : (i : Int) = 0 := by simpa using e
                           omega
      rw [comp_succ, ex, if_pos (.inl e)]; rfl
    · have e : ¬ i = 0 := by have : ¬ (i : Int) = 0 := by simpa using e
                             omega
      obtain ⟨u, hu⟩ := get_lt (l := byL l) (i := i - 1) (by omega)
      have hul : u < l.length := (byL_mem l u).1 (List.mem_of_getElem? hu)
      have gp2 : (natV (byL l))[i - 1]? = some (.int .i64 (u : Int)) := by simp [natV, hu]
      have gk2 : (l.map (Value.int .i64))[u]? = some (.int .i64 (keyI l u)) := by simp [keyI, List.getD, hul]
      have ey : (sortI l).getD (i - 1) 0 = keyI l u := by simp [List.getD, sortI_at hu]
      rw [wrap64 (x := (i : Int) - 1) (by omega) (by omega), show (i : Int) - 1 = ((i - 1 : Nat) : Int) by omega]
      simp -zeta (disch := omega) only [chkP_some, iteB_true, iteB_false, add_mk, Nat.zero_add, Nat.add_zero, Nat.mul_one, Nat.reduceAdd, Int.toNat_natCast, ex_int, ex_slice, ex_ptr, ex_bool, ex_str, ex_flt, ex_any, bnd_in, List.getElem?_cons_zero, List.getElem?_cons_succ, List.set_cons_zero, List.set_cons_succ, List.cons_append, List.nil_append, bne_self_eq_false, beq_self_eq_true, Bool.not_true, Bool.not_false, Option.isNone_some, Option.isNone_none, eq_self, true_and, and_true, and_self, vals_int vp gp, vals_int vk gk, vals_int vp gp2, vals_int vk gk2]
      refine J _ ?_
      rw [comp_succ, ex, ey]
      have : (i = 0 ∨ keyI l v ≠ keyI l u) ↔ (keyI l v != keyI l u) = true := by simp [e]
      simp only [this]

theorem RDistinct_of {h : Heap} {n c : Nat} {q : Option Addr} {l : List Int} {K : Option Addr → Nat → Nat → Heap → Prop} (hl : l.length = n) (hn : n ≤ 2 ^ 20) (kq : Keeps h0 R q (l.map (Value.int .i64))) (s : St h0 h R)
    (hk : ∀ q co X h', Own q co ((comp (sortI l) n).map (Value.int .i64)) X → St h0 h' (X ++ R) → K q (comp (sortI l) n).length co h') : straitref14_Distinct q n c h K := by
  unfold straitref14_Distinct
  refine callP3.self (RBy_of hl hn kq s fun q1 c1 X1 h1 o s1 => ?_)
  refine ⟨n + 1, rdist_l0 (R := X1 ++ R) hl hn kq.app (o.keeps (fun z hz => by simp [hz])) (fun q2 co X h' o2 s2 => hk q2 co X h' o2 ((St.re s2 (by intro a; simp only [cntR_append, cntR_cons, cntR_nil, List.cons_append, List.nil_append, List.set_cons_zero, List.set_cons_succ]; omega)))) n 0 none 0 [] h1 (by omega) (by simpa [comp] using Own.nil) s1⟩
end
end Go.Proofs.Ytlfcfoodlbbbjaa
