/-
  Ranks: the library's sort of numbers, and what is built on it.
-/
import Derived.Test.YtlfcfoodlbbbjaaK15
import Derived.Test.YtlfcfoodlbbbjaaQ0
import Derived.Test.YtlfcfoodlbbbjaaSo2
import Derived.Test.YtlfcfoodlbbbjaaSh64
namespace Go.Proofs.Ytlfcfoodlbbbjaa
set_option linter.unusedVariables false
set_option linter.unusedSimpArgs false
set_option linter.unnecessarySimpa false
open Go.Hp Go.RowKit
attribute [local irreducible] Go.Hp.iteB Go.Hp.stC Go.Hp.newP

section
variable {h0 : Heap} {R : Rws}
theorem Sort64_of {h : Heap} {q : Option Addr} {c n : Nat} {l : List Int} {X : Rws} {K : Heap → Prop} (hn : l.length = n) (hn2 : n < 2 ^ 40) (o : Hp.Own q c (l.map (Value.int .i64)) X) (s : St h0 h (X ++ R))
    (hk : ∀ X' h', Hp.Own q c ((sortI l).map (Value.int .i64)) X' → St h0 h' (X' ++ R) → K h') : slices_Sort_Lint64_int64 q n c h K := by
  intro w hw
  subst hw
  refine ⟨enters_of Try.func27 (by kernel_rfl) rfl _ _, ?_⟩
  rcases o with ⟨rfl, rfl, hl, rfl⟩ | ⟨b, z, rfl, hc2, rfl⟩
  · have hl : l = [] := by simpa using hl
    subst hl
    have hn : n = 0 := by simpa using hn.symm
    subst hn
    refine (AnyG.slices_Sort_int_none Try.sort64 _ _ w).mono ?_
    rintro e w' ⟨rfl, rfl⟩
    exact ⟨_, rfl, Out.refl _, hk [] _ (by simpa [sortI] using Hp.Own.nil) s⟩
  · have hd2 : l.toArray.toList.map (Value.int .i64) = l.map (Value.int .i64) := by simp
    have s' : St h0 w.heap ((b, l.toArray.toList.map (Value.int .i64) ++ z) :: R) := by rw [hd2]; exact s
    have hH := holds_row (enc := Value.int .i64) (d := l.toArray) (z := z) (s'.rows (b, l.toArray.toList.map (Value.int .i64) ++ z) (by simp))
    have hlt := (s'.rows (b, l.toArray.toList.map (Value.int .i64) ++ z) (by simp)).lt
    have HC := AnyG.slices_Sort_int Try.sort64 b 0 c l w hH hlt (by omega)
    rw [hn] at HC
    refine HC.mono ?_
    rintro e w' ⟨rfl, m, os, rfl⟩
    refine ⟨_, rfl, out_sorted (enc := Value.int .i64) (off := 0), ?_⟩
    have s2 := s'.sorted (n := m) (d' := (l.mergeSort fun x y => decide (x ≤ y)).toArray) (os := os) (by simp)
    have e1 : (l.mergeSort fun x y => decide (x ≤ y)).toArray.toList.map (Value.int .i64) = (sortI l).map (Value.int .i64) := by simp [sortI]
    rw [e1] at s2
    refine hk [(b, (sortI l).map (Value.int .i64) ++ z)] _ (.inr ⟨b, z, rfl, ?_, rfl⟩) s2
    rw [hc2]; simp [sortI_len]

theorem Sorted_of {h : Heap} {n c bv : Nat} {q : Option Addr} {l : List Int} {K : Option Addr → Nat → Nat → Heap → Prop} (hl : l.length = n) (hn : n ≤ 2 ^ 20) (kq : Keeps h0 R q (l.map (Value.int .i64))) (s : St h0 h ((bv, [.slice q n c]) :: R))
    (hk : ∀ q' c' X h', Hp.Own q' c' ((sortI l).map (Value.int .i64)) X → St h0 h' (X ++ R) → K q' n c' h') : slices_Sorted_int64 (.func (.func 28) #[] #[.pointer (some ⟨bv, 0, none⟩)]) h K := by
  unfold slices_Sorted_int64
  refine callP3.self ?_
  unfold slices_Collect_int64
  refine callP3.self (AppendSeq_of hl (by omega) s (kq.atC s) fun q' c' X h' o s' => ?_)
  exact callP0.self (Sort64_of hl (by omega) o s' fun X' h2 o2 s2 => hk q' c' X' h2 o2 ((St.re s2 (by intro a; simp only [cntR_append, cntR_cons, cntR_nil, List.cons_append, List.nil_append, List.set_cons_zero, List.set_cons_succ]; omega))))

theorem Values_of {h : Heap} {n c : Nat} {q : Option Addr} {K : Value → Heap → Prop} (s : St h0 h R)
    (hk : ∀ b h', St h0 h' ((b, [.slice q n c]) :: R) → K (.func (.func 28) #[] #[.pointer (some ⟨b, 0, none⟩)]) h') : slices_Values_Lint64_int64 q n c h K := by
  unfold slices_Values_Lint64_int64
  exact s.new_ fun b h' s' => hk b h' s'

theorem Median_of {h : Heap} {n c : Nat} {q : Option Addr} {l : List Int} {K : Int → Bool → Heap → Prop} (hl : l.length = n) (hn : n ≤ 2 ^ 20) (kq : Keeps h0 R q (l.map (Value.int .i64))) (s : St h0 h R)
    (hk : ∀ h', St h0 h' R → K ((sortI l).getD ((n - 1) / 2) 0) (decide (0 < n)) h') : rank_Median q n c h K := by
  unfold rank_Median
  refine iteB_intro (fun e => ?_) (fun e => ?_)
  · have e : n = 0 := by have : (n : Int) = 0 := by simpa using e
                         omega
    subst e
    obtain rfl : l = [] := List.length_eq_zero_iff.1 hl
    simpa [sortI] using hk h s
  · have e : 0 < n := by have : ¬ (n : Int) = 0 := by simpa using e
                         omega
    refine callP1.self (Values_of s fun bv h1 s1 => callP3.self (Sorted_of hl hn kq s1 fun q' c' X h2 o s2 => ?_))
    refine ⟨by decide, ?_⟩
    have sl := sortI_len l
    rw [wrap64 (x := (n : Int) - 1) (by omega) (by omega), show ((n : Int) - 1).tdiv 2 = (((n - 1) / 2 : Nat) : Int) by rw [show (n : Int) - 1 = ((n - 1 : Nat) : Int) by omega]; rfl, wrap64 (by omega) (by omega), bindV_eq]
    obtain ⟨x, hx⟩ := get_lt (l := sortI l) (i := (n - 1) / 2) (by omega)
    have gx : ((sortI l).map (Value.int .i64))[(n - 1) / 2]? = some (.int .i64 x) := by simp [hx]
    have v := o.vals s2
    have := hk h2 s2.drop
    rw [decide_eq_true e, List.getD, hx] at this
    simp -zeta (disch := omega) only [chkP_some, iteB_true, iteB_false, add_mk, Nat.zero_add, Nat.add_zero, Nat.mul_one, Nat.reduceAdd, Int.toNat_natCast, ex_int, ex_slice, ex_ptr, ex_bool, ex_str, ex_flt, ex_any, bnd_in, List.getElem?_cons_zero, List.getElem?_cons_succ, List.set_cons_zero, List.set_cons_succ, List.cons_append, List.nil_append, bne_self_eq_false, beq_self_eq_true, Bool.not_true, Bool.not_false, Option.isNone_some, Option.isNone_none, eq_self, true_and, and_true, and_self, vals_int v gx]
    exact this

theorem Distinct_of {h : Heap} {n c : Nat} {q : Option Addr} {l : List Int} {K : Option Addr → Nat → Nat → Heap → Prop} (hl : l.length = n) (hn : n ≤ 2 ^ 20) (kq : Keeps h0 R q (l.map (Value.int .i64))) (s : St h0 h R)
    (hk : ∀ q co X h', Hp.Own q co ((comp (sortI l) n).map (Value.int .i64)) X → St h0 h' (X ++ R) → K q (comp (sortI l) n).length co h') : rank_Distinct q n c h K := by
  unfold rank_Distinct
  refine callP1.self (Values_of s fun bv h1 s1 => callP3.self (Sorted_of hl hn kq s1 fun q' c' X h2 o s2 => ?_))
  exact callP3.self (Compact_of (by rw [sortI_len]; exact hl) (by omega) o s2 fun X' h3 o3 s3 => hk q' c' X' h3 o3 s3)
end
end Go.Proofs.Ytlfcfoodlbbbjaa
