/-
  Ranks: a list in an order, the document's.
-/
import Derived.Test.YtlfcfoodlbbbjaaK10
namespace Go.Proofs.Ytlfcfoodlbbbjaa
set_option linter.unusedVariables false
set_option linter.unusedSimpArgs false
set_option linter.unnecessarySimpa false
open Go.Hp Go.RowKit
attribute [local irreducible] Go.Hp.iteB Go.Hp.stC Go.Hp.newP

def appL (p l : List Int) : List Int := p.map fun x => l.getD x.toNat 0
theorem appL_len (p l : List Int) : (appL p l).length = p.length := by simp [appL]
section
variable {h0 : Heap} {R : Rws}
theorem rapp_l0 {K2 : Option Addr → Nat → Nat → Heap → Prop} {qp ql : Option Addr} {n m c c2 : Nat} {p l : List Int} (hr : ∀ x ∈ p, 0 ≤ x ∧ x < (m : Int)) (hl : p.length = n) (hll : l.length = m) (hn : n ≤ 2 ^ 20) (kp : Keeps h0 R qp (p.map (Value.int .i64))) (kl : Keeps h0 R ql (l.map (Value.int .i64)))
    (hk : ∀ q co X h', Own q co ((appL p l).map (Value.int .i64)) X → St h0 h' (X ++ R) → K2 q n co h') :
    ∀ (d i : Nat) (q : Option Addr) (co : Nat) (X : Rws) (h : Heap), i + d = n → Own q co ((appL (p.take i) l).map (Value.int .i64)) X → St h0 h (X ++ R) → straitref14_Apply.l0 K2 (d + 1) qp n c ql m c2 q i co (i : Int) h
  | 0, i, q, co, X, h, hi, o, s => by
    unfold straitref14_Apply.l0 straitref14_Apply.b0
    have hin : i = n := by omega
    subst hin
    rw [List.take_of_length_le (by omega)] at o
    exact iteB_neg (decide_eq_false (by omega)) (hk q co X h o s)
  | d + 1, i, q, co, X, h, hi, o, s => by
    unfold straitref14_Apply.l0 straitref14_Apply.b0
    obtain ⟨v, hv⟩ := get_lt (l := p) (i := i) (by omega)
    have gv : (p.map (Value.int .i64))[i]? = some (.int .i64 v) := by simp [hv]
    have hrv := hr v (List.mem_of_getElem? hv)
    obtain ⟨z, rfl⟩ := Int.eq_ofNat_of_zero_le hrv.1
    have gl : (l.map (Value.int .i64))[z]? = some (.int .i64 (l.getD z 0)) := by simp [List.getD, show z < l.length by omega]
    have vp := kp.at1 (X := X) s
    have vl := kl.at1 (X := X) s
    have hlen : ((appL (p.take i) l).map (Value.int .i64)).length = i := by simp [appL_len]; omega
    refine iteB_pos (decide_eq_true (by omega)) ?_
    simp -zeta (disch := omega) only [chkP_some, iteB_true, iteB_false, add_mk, Nat.zero_add, Nat.add_zero, Nat.mul_one, Nat.reduceAdd, Int.toNat_natCast, ex_int, ex_slice, ex_ptr, ex_bool, ex_str, ex_flt, ex_any, bnd_in, List.getElem?_cons_zero, List.getElem?_cons_succ, List.set_cons_zero, List.set_cons_succ, List.cons_append, List.nil_append, bne_self_eq_false, beq_self_eq_true, Bool.not_true, Bool.not_false, Option.isNone_some, Option.isNone_none, eq_self, true_and, and_true, and_self, vals_int vp gv, vals_int vl gl]
    refine Own.push1 o s hlen.symm rfl (by omega) fun q2 c3 X2 h2 o2 s2 => ?_
    rw [wrap64 (by omega) (by omega), hlen]
    exact rapp_l0 hr hl hll hn kp kl hk d (i + 1) q2 c3 X2 h2 (by omega) (by rw [take_snoc hv]; simpa [appL] using o2) s2
theorem RApply_of {h : Heap} {n m c c2 : Nat} {qp ql : Option Addr} {p l : List Int} {K : Option Addr → Nat → Nat → Heap → Prop} (hr : ∀ x ∈ p, 0 ≤ x ∧ x < (m : Int)) (hl : p.length = n) (hll : l.length = m) (hn : n ≤ 2 ^ 20) (kp : Keeps h0 R qp (p.map (Value.int .i64))) (kl : Keeps h0 R ql (l.map (Value.int .i64))) (s : St h0 h R)
    (hk : ∀ q co X h', Own q co ((appL p l).map (Value.int .i64)) X → St h0 h' (X ++ R) → K q n co h') : straitref14_Apply qp n c ql m c2 h K := by
  unfold straitref14_Apply
  exact ⟨n + 1, rapp_l0 hr hl hll hn kp kl hk n 0 none 0 [] h (by omega) (by simpa [appL] using Own.nil) s⟩
theorem appF_row {p l : List Int} {n : Nat} (hl : p.length = n) : ints n (appF p l) = (appL p l).map (Value.int .i64) := by
  apply List.ext_getElem?
  intro i
  by_cases h : i < n
  · rw [ints_get h]; simp [appL, appF, List.getD, show i < p.length by omega]
  · rw [List.getElem?_eq_none (by rw [ints_length]; omega), List.getElem?_eq_none (by simp [appL]; omega)]
end
end Go.Proofs.Ytlfcfoodlbbbjaa
