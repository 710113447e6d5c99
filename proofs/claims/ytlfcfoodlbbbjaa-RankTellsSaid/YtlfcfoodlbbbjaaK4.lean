/-
  Ranks: the order of keys, the document's.
-/
import Derived.Test.YtlfcfoodlbbbjaaK3
namespace Go.Proofs.Ytlfcfoodlbbbjaa
set_option linter.unusedVariables false
set_option linter.unusedSimpArgs false
set_option linter.unnecessarySimpa false
open Go.Hp Go.RowKit
attribute [local irreducible] Go.Hp.iteB Go.Hp.stC Go.Hp.newP

theorem boolV_set {n i : Nat} {f : Nat → Bool} {x : Bool} : (boolV n f).set i (.bool x) = boolV n (upd f i x) := by
  apply List.ext_getElem?
  intro j
  by_cases h : i = j
  · subst h
    by_cases hj : i < n
    · rw [List.getElem?_set_self (by rw [boolV_len]; exact hj), boolV_get hj, upd_same]
    · rw [List.getElem?_eq_none (by rw [List.length_set, boolV_len]; omega), List.getElem?_eq_none (by rw [boolV_len]; omega)]
  · rw [List.getElem?_set_ne h]
    simp [boolV, List.getElem?_map, List.getElem?_range]
    by_cases hj : j < n
    · simp [hj, upd_ne _ _ (fun e : j = i => h e.symm)]
    · simp [hj]
theorem boolV_congr {n : Nat} {f g : Nat → Bool} (h : ∀ i, i < n → f i = g i) : boolV n f = boolV n g := by
  unfold boolV; exact List.map_congr_left fun i hi => by rw [h i (List.mem_range.1 hi)]
theorem boolV_zero : ∀ n, zeroRow [Value.bool false] n = boolV n fun _ => false
  | 0 => rfl
  | n + 1 => by
    rw [zeroRow, boolV_zero n]
    simp [boolV, List.map_const', List.replicate_succ]

/-- Who came. -/
def cameF (l : List Int) (m x : Nat) : Bool := decide (x ∈ (byL l).take m)
theorem best_next {l : List Int} {m : Nat} {a : Int} (hm : m < l.length) (h : Best l (cameF l m) l.length a) : ∃ x : Nat, a = x ∧ x < l.length ∧ (byL l)[m]? = some x := by
  rcases h with ⟨h1, h2⟩ | ⟨x, h1, h2, h3, h4⟩
  · exfalso
    obtain ⟨z, hz⟩ := get_lt (l := byL l) (i := m) (by rw [byL_len]; exact hm)
    have hzl := (byL_mem l z).1 (List.mem_of_getElem? hz)
    have h5 := of_decide_eq_true (h2 z hzl)
    obtain ⟨j, hj, e⟩ := List.getElem_of_mem h5
    rw [List.length_take] at hj
    rw [List.getElem_take] at e
    have hzm : m < (byL l).length := lt_get hz
    have hzv : (byL l)[m] = z := (List.getElem?_eq_some_iff.1 hz).2
    have := (List.getElem_inj (h₀ := by omega) (h₁ := hzm) (byL_nodup l)).1 (e.trans hzv.symm)
    omega
  · exact ⟨x, h1, h2, byL_next hm h2 (of_decide_eq_false h3) fun y hy hyn => h4 y hy (decide_eq_false hyn)⟩

section
variable {h0 : Heap} {R : Rws}
theorem rby_l0 {K2 : Option Addr → Nat → Nat → Heap → Prop} {q : Option Addr} {n c bc cc : Nat} {l : List Int} (hl : l.length = n) (hn : n ≤ 2 ^ 20) (kq : Keeps h0 R q (l.map (Value.int .i64)))
    (hk : ∀ qo co X h', Own qo co (natV (byL l)) X → St h0 h' (X ++ R) → K2 qo n co h') :
    ∀ (d m : Nat) (qo : Option Addr) (co : Nat) (X : Rws) (h : Heap), m + d = n → Own qo co (natV ((byL l).take m)) X → St h0 h (X ++ (bc, boolV n (cameF l m)) :: R) →
      straitref14_By.l0 K2 (d + 1) q n c qo m co ⟨bc, 0, none⟩ n cc (m : Int) h
  | 0, m, qo, co, X, h, hi, o, s => by
    unfold straitref14_By.l0 straitref14_By.b0
    have hin : m = n := by omega
    subst hin
    rw [List.take_of_length_le (by rw [byL_len]; omega)] at o
    exact iteB_neg (decide_eq_false (by omega)) (hk qo co X h o s.mid.tail)
  | d + 1, m, qo, co, X, h, hi, o, s => by
    unfold straitref14_By.l0 straitref14_By.b0
    have vq : valsAt h q (l.map (Value.int .i64)) := kq _ _ s (fun y hy => by simp [hy])
    refine iteB_pos (decide_eq_true (by omega)) ⟨n + 1, rby_l1 (f := cameF l m) (bc := bc) hl hn vq s (by simp) (fun a hb => ?_) n 0 (-1) (by omega) (.inl ⟨rfl, fun j hj => by omega⟩)⟩
    subst hl
    obtain ⟨x, rfl, hx, hxm⟩ := best_next (by omega) hb
    refine ⟨⟨by omega, by omega⟩, ?_⟩
    have s1 : St h0 h ((bc, boolV l.length (cameF l m)) :: (X ++ R)) := (St.re s (by intro a; simp only [cntR_append, cntR_cons, cntR_nil, List.cons_append, List.nil_append, List.set_cons_zero, List.set_cons_succ]; omega))
    have hlen : ((byL l).take m).length = m := by rw [List.length_take, byL_len]; omega
    try simp -zeta (disch := omega) only [chkP_some, iteB_true, iteB_false, add_mk, Nat.zero_add, Nat.add_zero, Nat.mul_one, Nat.reduceAdd, Int.toNat_natCast, ex_int, ex_slice, ex_ptr, ex_bool, ex_str, ex_flt, ex_any, bnd_in, List.getElem?_cons_zero, List.getElem?_cons_succ, List.set_cons_zero, List.set_cons_succ, List.cons_append, List.nil_append, bne_self_eq_false, beq_self_eq_true, Bool.not_true, Bool.not_false, Option.isNone_some, Option.isNone_none, eq_self, true_and, and_true, and_self, s1.rd0]
    refine s1.st0 (by rw [boolV_len]; exact hx) fun h2 s2 => ?_
    rw [boolV_set, boolV_congr (g := cameF l (m + 1)) fun k hk => ?_] at s2
    · have s3 : St h0 h2 (X ++ (bc, boolV l.length (cameF l (m + 1))) :: R) := (St.re s2 (by intro a; simp only [cntR_append, cntR_cons, cntR_nil, List.cons_append, List.nil_append, List.set_cons_zero, List.set_cons_succ]; omega))
      refine Own.push1 o s3 (by rw [natV_len, hlen]) rfl (by rw [natV_len]; omega) fun q2 c2 X2 h3 o2 s4 => ?_
      rw [wrap64 (by omega) (by omega)]
      have ih := rby_l0 (c := c) (cc := cc) rfl hn kq hk d (m + 1) q2 c2 X2 h3 (by omega) (by rw [take_snoc hxm]; simpa [natV] using o2) s4
      simpa [natV_len, hlen] using ih
    · unfold Hp.upd cameF
      rw [take_snoc hxm]
      by_cases ck : k = x
      · subst ck; simp
      · rw [if_neg ck]; simp [ck]

theorem RBy_of {h : Heap} {n c : Nat} {q : Option Addr} {l : List Int} {K : Option Addr → Nat → Nat → Heap → Prop} (hl : l.length = n) (hn : n ≤ 2 ^ 20) (kq : Keeps h0 R q (l.map (Value.int .i64))) (s : St h0 h R)
    (hk : ∀ qo co X h', Own qo co (natV (byL l)) X → St h0 h' (X ++ R) → K qo n co h') : straitref14_By q n c h K := by
  unfold straitref14_By
  refine ⟨⟨by omega, by omega, by omega, by omega⟩, ?_⟩
  rw [Int.toNat_natCast]
  refine s.new_ fun bc h1 s1 => ?_
  rw [boolV_zero] at s1
  refine ⟨n + 1, rby_l0 hl hn kq hk n 0 none 0 [] h1 (by omega) (by simpa [natV] using Own.nil) ?_⟩
  rw [boolV_congr (g := cameF l 0) fun k hk => by simp [cameF]] at s1
  simpa using s1
end
end Go.Proofs.Ytlfcfoodlbbbjaa
