/-
  Ranks: the inverse of an order, the document's.
-/
import Derived.Test.YtlfcfoodlbbbjaaK6
namespace Go.Proofs.Ytlfcfoodlbbbjaa
set_option linter.unusedVariables false
set_option linter.unusedSimpArgs false
set_option linter.unnecessarySimpa false
open Go.Hp Go.RowKit
attribute [local irreducible] Go.Hp.iteB Go.Hp.stC Go.Hp.newP

theorem IsOrd.all {p : List Int} (h : IsOrd p) {x : Nat} (hx : x < p.length) : (x : Int) ∈ p := by
  refine Classical.byContradiction fun hn => ?_
  have h1 : ((x : Int) :: p).Nodup := List.nodup_cons.2 ⟨hn, h.2⟩
  have h2 : ((x : Int) :: p) ⊆ (List.range p.length).map fun z : Nat => (z : Int) := by
    intro y hy
    rcases List.mem_cons.1 hy with rfl | hy
    · exact List.mem_map.2 ⟨x, List.mem_range.2 hx, rfl⟩
    · have := h.1 y hy
      exact List.mem_map.2 ⟨y.toNat, List.mem_range.2 (by omega), by omega⟩
  have := h1.length_le_of_subset h2
  simp at this
  omega
def refF (p : List Int) (i x : Nat) : Int := if (x : Int) ∈ p.take i then (((p.take i).idxOf (x : Int) : Nat) : Int) else 0
theorem refF_next {p : List Int} {i z : Nat} (hz : p[i]? = some (z : Int)) (hn : (z : Int) ∉ p.take i) (x : Nat) : refF p (i + 1) x = upd (refF p i) z (i : Int) x := by
  have hi := lt_get hz
  unfold Hp.upd refF
  rw [take_snoc hz]
  by_cases c : x = z
  · subst c
    rw [if_pos rfl, if_pos (by simp), List.idxOf_append, if_neg hn]
    simp; omega
  · rw [if_neg c]
    have c' : ¬ (x : Int) = (z : Int) := by omega
    by_cases m : (x : Int) ∈ p.take i
    · rw [if_pos m, if_pos (by simp [m]), List.idxOf_append, if_pos m]
    · rw [if_neg m, if_neg (by simp [m, c'])]

section
variable {h0 : Heap} {R : Rws}
theorem rinv_l0 {K2 : Heap → Prop} {q : Option Addr} {n c b cc : Nat} {p : List Int} (ho : IsOrd p) (hl : p.length = n) (hn : n ≤ 2 ^ 20) (kq : Keeps h0 R q (p.map (Value.int .i64))) (hk : ∀ h', St h0 h' ((b, ints n (refF p n)) :: R) → K2 h') :
    ∀ (d i : Nat) (h : Heap), i + d = n → St h0 h ((b, ints n (refF p i)) :: R) → straitref14_Inverse.l0 K2 (d + 1) q n c ⟨b, 0, none⟩ n cc (i : Int) h
  | 0, i, h, hi, s => by
    unfold straitref14_Inverse.l0 straitref14_Inverse.b0
    have hin : i = n := by omega
    subst hin
    exact iteB_neg (decide_eq_false (by omega)) (hk h s)
  | d + 1, i, h, hi, s => by
    unfold straitref14_Inverse.l0 straitref14_Inverse.b0
    obtain ⟨v, hv⟩ := get_lt (l := p) (i := i) (by omega)
    have gv : (p.map (Value.int .i64))[i]? = some (.int .i64 v) := by simp [hv]
    have vq := kq.at1 (X := [(b, ints n (refF p i))]) s
    have hr := ho.1 v (List.mem_of_getElem? hv)
    obtain ⟨z, rfl⟩ := Int.eq_ofNat_of_zero_le hr.1
    have m : (z : Int) ∉ p.take i := fun m => by
      obtain ⟨j, hj, ej⟩ := List.getElem_of_mem m
      rw [List.length_take] at hj
      rw [List.getElem_take] at ej
      have := (List.getElem_inj (h₀ := by omega) (h₁ := lt_get hv) ho.2).1 (ej.trans (List.getElem?_eq_some_iff.1 hv).2.symm)
      omega
    refine iteB_pos (decide_eq_true (by omega)) ?_
    simp -zeta (disch := omega) only [chkP_some, iteB_true, iteB_false, add_mk, Nat.zero_add, Nat.add_zero, Nat.mul_one, Nat.reduceAdd, Int.toNat_natCast, ex_int, ex_slice, ex_ptr, ex_bool, ex_str, ex_flt, ex_any, bnd_in, List.getElem?_cons_zero, List.getElem?_cons_succ, List.set_cons_zero, List.set_cons_succ, List.cons_append, List.nil_append, bne_self_eq_false, beq_self_eq_true, Bool.not_true, Bool.not_false, Option.isNone_some, Option.isNone_none, eq_self, true_and, and_true, and_self, vals_int vq gv]
    refine s.st0 (by rw [ints_length]; omega) fun h2 s2 => ?_
    rw [ints_set, ints_congr (g := refF p (i + 1)) fun x hx => (refF_next hv m x).symm] at s2
    rw [wrap64 (by omega) (by omega)]
    exact rinv_l0 ho hl hn kq hk d (i + 1) h2 (by omega) s2
theorem RInverse_of {h : Heap} {n c : Nat} {q : Option Addr} {p : List Int} {K : Option Addr → Nat → Nat → Heap → Prop} (ho : IsOrd p) (hl : p.length = n) (hn : n ≤ 2 ^ 20) (kq : Keeps h0 R q (p.map (Value.int .i64))) (s : St h0 h R)
    (hk : ∀ b h', St h0 h' ((b, ints n (invF p n)) :: R) → K (some ⟨b, 0, none⟩) n n h') : straitref14_Inverse q n c h K := by
  unfold straitref14_Inverse
  refine ⟨⟨by omega, by omega, by omega, by omega⟩, ?_⟩
  rw [Int.toNat_natCast]
  refine s.new_ fun b h1 s1 => ?_
  rw [ints_zero, ints_congr (g := refF p 0) fun x hx => by simp [refF]] at s1
  refine ⟨n + 1, rinv_l0 ho hl hn kq (fun h2 s2 => hk b h2 ?_) n 0 h1 (by omega) s1⟩
  rw [ints_congr (g := invF p n) fun x hx => ?_] at s2
  · exact s2
  · have := ho.all (x := x) (by omega)
    unfold refF invF
    rw [List.take_of_length_le (by omega), if_pos this, if_pos this]
end
end Go.Proofs.Ytlfcfoodlbbbjaa
