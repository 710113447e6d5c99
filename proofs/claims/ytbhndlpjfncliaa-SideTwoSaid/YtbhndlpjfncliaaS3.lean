/-
  Sides: may it be one? is one among some?
-/
import Derived.Test.YtbhndlpjfncliaaW1
namespace Go.Proofs.Ytbhndlpjfncliaa
set_option linter.unusedVariables false
set_option linter.unusedSimpArgs false
set_option linter.unnecessarySimpa false
open Go.Hp Go.RowKit
attribute [local irreducible] Go.Hp.iteB Go.Hp.stC Go.Hp.newP

def riseS (n : Int) : Int → List Int → Bool
  | _, [] => true
  | p, v :: r => decide (p < v) && (decide (v < n) && riseS n v r)
def chkS (n : Int) (l : List Int) : Int := if riseS n (-1) l = true then (if (l.length : Int) = 0 ∨ (l.length : Int) = n then 16 else 0) else 4
theorem riseS_mem {n : Int} : ∀ {l : List Int} {p : Int}, riseS n p l = true → ∀ v ∈ l, p < v ∧ v < n
  | x :: l, p, h, v, hv => by
    simp only [riseS, Bool.and_eq_true, decide_eq_true_eq] at h
    rcases List.mem_cons.1 hv with rfl | hv
    · exact ⟨h.1, h.2.1⟩
    · have := riseS_mem h.2.2 v hv
      exact ⟨by omega, this.2⟩
section
variable {n : Int} {q : Option Addr} {k c : Nat} {l : List Int} {h : Heap}
theorem scheck_l0 {K0 : Int → Heap → Prop} {K2 : Heap → Prop} (hl : l.length = k) (hb : k < 2 ^ 40) (vl : valsAt h q (l.map (Value.int .i64))) (hk0 : riseS n (-1) l = false → K0 4 h) (hk2 : riseS n (-1) l = true → K2 h) :
    ∀ (d i : Nat) (p : Int), i + d = k → riseS n p (l.drop i) = riseS n (-1) l → side_Check.l0 K0 K2 (d + 1) n q k c p q k c (k : Int) (i : Int) h
  | 0, i, p, hi, he => by
    unfold side_Check.l0 side_Check.b0
    rw [List.drop_of_length_le (by omega)] at he
    exact iteB_neg (decide_eq_false (by omega)) (hk2 he.symm)
  | d + 1, i, p, hi, he => by
    unfold side_Check.l0 side_Check.b0
    obtain ⟨x, hx⟩ := get_lt (l := l) (i := i) (by omega)
    have gx : (l.map (Value.int .i64))[i]? = some (.int .i64 x) := by simp [hx]
    rw [drop_cons hx] at he
    refine iteB_pos (decide_eq_true (by omega)) ?_
    simp -zeta (disch := omega) only [chkP_some, iteB_true, iteB_false, add_mk, Nat.zero_add, Nat.add_zero, Nat.mul_one, Nat.reduceAdd, Int.toNat_natCast, ex_int, ex_slice, ex_ptr, ex_bool, ex_str, ex_flt, ex_any, bnd_in, List.getElem?_cons_zero, List.getElem?_cons_succ, List.set_cons_zero, List.set_cons_succ, List.cons_append, List.nil_append, bne_self_eq_false, beq_self_eq_true, Bool.not_true, Bool.not_false, Option.isNone_some, Option.isNone_none, eq_self, true_and, and_true, and_self, vals_int vl gx]
    refine iteB_intro (fun e => ?_) fun e => iteB_intro (fun e2 => ?_) fun e2 => ?_
    · have e := of_decide_eq_true e
      exact hk0 (by rw [← he]; simp only [riseS]; rw [decide_eq_false (by omega), Bool.false_and])
    · have e2 := of_decide_eq_true e2
      exact hk0 (by rw [← he]; simp only [riseS]; rw [decide_eq_false (show ¬ x < n by omega), Bool.false_and, Bool.and_false])
    · have e := of_decide_eq_false e
      have e2 := of_decide_eq_false e2
      rw [wrap64 (by omega) (by omega)]
      refine scheck_l0 hl hb vl hk0 hk2 d (i + 1) x (by omega) ?_
      rw [← he]; simp only [riseS]; rw [decide_eq_true (show p < x by omega), decide_eq_true (show x < n by omega), Bool.true_and, Bool.true_and]
theorem SCheck_of {K : Int → Heap → Prop} (hl : l.length = k) (hb : k < 2 ^ 40) (vl : valsAt h q (l.map (Value.int .i64))) (hk : K (chkS n l) h) : side_Check n q k c h K := by
  unfold side_Check
  unfold chkS at hk
  refine ⟨k + 1, scheck_l0 hl hb vl (fun e => ?_) (fun e => ?_) k 0 (-1) (by omega) rfl⟩
  · rw [if_neg (by rw [e]; decide)] at hk; exact hk
  · rw [if_pos e, hl] at hk
    refine iteB_intro (fun e1 => ?_) fun e1 => iteB_intro (fun e2 => ?_) fun e2 => ?_
    · rw [if_pos (.inl (by simpa using e1))] at hk; exact hk
    · rw [if_pos (.inr (by simpa using e2))] at hk; exact hk
    · rw [if_neg (fun h => by rcases h with h | h; · simp [h] at e1
                              · simp [h] at e2)] at hk; exact hk
theorem rscheck_l0 {K0 : Int → Heap → Prop} {K2 : Heap → Prop} (hl : l.length = k) (hb : k < 2 ^ 40) (vl : valsAt h q (l.map (Value.int .i64))) (hk0 : riseS n (-1) l = false → K0 4 h) (hk2 : riseS n (-1) l = true → K2 h) :
    ∀ (d i : Nat) (p : Int), i + d = k → (i = 0 ∧ p = -1 ∨ (0 < i ∧ 0 ≤ p ∧ l[i - 1]? = some p)) → riseS n p (l.drop i) = riseS n (-1) l → straitref21_Check.l0 K0 K2 (d + 1) n q k c (i : Int) h
  | 0, i, p, hi, hp, he => by
    unfold straitref21_Check.l0 straitref21_Check.b0
    rw [List.drop_of_length_le (by omega)] at he
    exact iteB_neg (decide_eq_false (by omega)) (hk2 he.symm)
  | d + 1, i, p, hi, hp, he => by
    unfold straitref21_Check.l0 straitref21_Check.b0
    obtain ⟨x, hx⟩ := get_lt (l := l) (i := i) (by omega)
    have gx : (l.map (Value.int .i64))[i]? = some (.int .i64 x) := by simp [hx]
    rw [drop_cons hx] at he
    have bad1 : ¬ p < x → riseS n (-1) l = false := fun e => by rw [← he]; simp only [riseS]; rw [decide_eq_false e, Bool.false_and]
    have bad2 : ¬ x < n → riseS n (-1) l = false := fun e => by rw [← he]; simp only [riseS]; rw [decide_eq_false e, Bool.false_and, Bool.and_false]
    have next : p < x → x < n → straitref21_Check.l0 K0 K2 (d + 1) n q k c ((i + 1 : Nat) : Int) h := fun e1 e2 =>
      rscheck_l0 hl hb vl hk0 hk2 d (i + 1) x (by omega) (.inr ⟨by omega, by rcases hp with ⟨_, h⟩ | ⟨_, h, _⟩ <;> omega, by rw [Nat.add_sub_cancel]; exact hx⟩) (by
        rw [← he]; simp only [riseS]; rw [decide_eq_true e1, decide_eq_true e2, Bool.true_and, Bool.true_and])
    refine iteB_pos (decide_eq_true (by omega)) ?_
    simp -zeta (disch := omega) only [chkP_some, iteB_true, iteB_false, add_mk, Nat.zero_add, Nat.add_zero, Nat.mul_one, Nat.reduceAdd, Int.toNat_natCast, ex_int, ex_slice, ex_ptr, ex_bool, ex_str, ex_flt, ex_any, bnd_in, List.getElem?_cons_zero, List.getElem?_cons_succ, List.set_cons_zero, List.set_cons_succ, List.cons_append, List.nil_append, bne_self_eq_false, beq_self_eq_true, Bool.not_true, Bool.not_false, Option.isNone_some, Option.isNone_none, eq_self, true_and, and_true, and_self, vals_int vl gx]
    refine iteB_intro (fun e => ?_) fun e => iteB_intro (fun e2 => ?_) fun e2 => iteB_intro (fun e3 => ?_) fun e3 => ?_
    · have e := of_decide_eq_true e
      exact hk0 (bad1 (by rcases hp with ⟨_, h⟩ | ⟨_, h, _⟩ <;> omega))
    · have e2 := of_decide_eq_true e2
      exact hk0 (bad2 (by omega))
    · have e := of_decide_eq_false e
      have e2 := of_decide_eq_false e2
      have e3 := of_decide_eq_true e3
      rcases hp with ⟨h0, _⟩ | ⟨hi0, hp0, hpi⟩
      · omega
      have gp : (l.map (Value.int .i64))[i - 1]? = some (.int .i64 p) := by simp [hpi]
      rw [show IntKind.i64.wrap ((i : Int) - 1) = ((i - 1 : Nat) : Int) by rw [wrap64 (by omega) (by omega)]; omega, show IntKind.i64.wrap ((i : Int) + 1) = ((i + 1 : Nat) : Int) by rw [wrap64 (by omega) (by omega)]; omega]
      simp -zeta (disch := omega) only [chkP_some, iteB_true, iteB_false, add_mk, Nat.zero_add, Nat.add_zero, Nat.mul_one, Nat.reduceAdd, Int.toNat_natCast, ex_int, ex_slice, ex_ptr, ex_bool, ex_str, ex_flt, ex_any, bnd_in, List.getElem?_cons_zero, List.getElem?_cons_succ, List.set_cons_zero, List.set_cons_succ, List.cons_append, List.nil_append, bne_self_eq_false, beq_self_eq_true, Bool.not_true, Bool.not_false, Option.isNone_some, Option.isNone_none, eq_self, true_and, and_true, and_self, vals_int vl gp]
      refine iteB_intro (fun e4 => hk0 (bad1 (by have := of_decide_eq_true e4; omega))) fun e4 => next (by have := of_decide_eq_false e4; omega) (by omega)
    · have e := of_decide_eq_false e
      have e2 := of_decide_eq_false e2
      have e3 := of_decide_eq_false e3
      rw [show IntKind.i64.wrap ((i : Int) + 1) = ((i + 1 : Nat) : Int) by rw [wrap64 (by omega) (by omega)]; omega]
      exact next (by rcases hp with ⟨_, h⟩ | ⟨h, _⟩ <;> omega) (by omega)
theorem RSCheck_of {K : Int → Heap → Prop} (hl : l.length = k) (hb : k < 2 ^ 40) (vl : valsAt h q (l.map (Value.int .i64))) (hk : K (chkS n l) h) : straitref21_Check n q k c h K := by
  unfold straitref21_Check
  unfold chkS at hk
  refine ⟨k + 1, rscheck_l0 hl hb vl (fun e => ?_) (fun e => ?_) k 0 (-1) (by omega) (.inl ⟨rfl, rfl⟩) rfl⟩
  · rw [if_neg (by rw [e]; decide)] at hk; exact hk
  · rw [if_pos e, hl] at hk
    refine iteB_intro (fun e1 => ?_) fun e1 => iteB_intro (fun e2 => ?_) fun e2 => ?_
    · rw [if_pos (.inl (by simpa using e1))] at hk; exact hk
    · rw [if_pos (.inr (by simpa using e2))] at hk; exact hk
    · rw [if_neg (fun h => by rcases h with h | h; · simp [h] at e1
                              · simp [h] at e2)] at hk; exact hk
/-! ### Is one among some? -/
theorem ini_l0 {K0 : Bool → Heap → Prop} {K2 : Heap → Prop} {v : Int} (hl : l.length = k) (hb : k < 2 ^ 40) (vl : valsAt h q (l.map (Value.int .i64))) (hk0 : v ∈ l → K0 true h) (hk2 : v ∉ l → K2 h) :
    ∀ (d i : Nat), i + d = k → v ∉ l.take i → straitref21_In.l0 K0 K2 (d + 1) q k c v (i : Int) h
  | 0, i, hi, hno => by
    unfold straitref21_In.l0 straitref21_In.b0
    rw [List.take_of_length_le (by omega)] at hno
    exact iteB_neg (decide_eq_false (by omega)) (hk2 hno)
  | d + 1, i, hi, hno => by
    unfold straitref21_In.l0 straitref21_In.b0
    obtain ⟨x, hx⟩ := get_lt (l := l) (i := i) (by omega)
    have gx : (l.map (Value.int .i64))[i]? = some (.int .i64 x) := by simp [hx]
    refine iteB_pos (decide_eq_true (by omega)) ?_
    simp -zeta (disch := omega) only [chkP_some, iteB_true, iteB_false, add_mk, Nat.zero_add, Nat.add_zero, Nat.mul_one, Nat.reduceAdd, Int.toNat_natCast, ex_int, ex_slice, ex_ptr, ex_bool, ex_str, ex_flt, ex_any, bnd_in, List.getElem?_cons_zero, List.getElem?_cons_succ, List.set_cons_zero, List.set_cons_succ, List.cons_append, List.nil_append, bne_self_eq_false, beq_self_eq_true, Bool.not_true, Bool.not_false, Option.isNone_some, Option.isNone_none, eq_self, true_and, and_true, and_self, vals_int vl gx]
    refine iteB_intro (fun e => ?_) fun e => ?_
    · have e : x = v := by simpa using e
      subst e
      exact hk0 (List.mem_of_getElem? hx)
    · have e : x ≠ v := by simpa using e
      rw [wrap64 (by omega) (by omega)]
      refine ini_l0 hl hb vl hk0 hk2 d (i + 1) (by omega) ?_
      rw [take_snoc hx]; simp only [List.mem_append, List.mem_singleton, not_or]
      exact ⟨hno, fun h => e h.symm⟩
theorem InI_of {K : Bool → Heap → Prop} {v : Int} (hl : l.length = k) (hb : k < 2 ^ 40) (vl : valsAt h q (l.map (Value.int .i64))) (hk : K (decide (v ∈ l)) h) : straitref21_In q k c v h K := by
  unfold straitref21_In
  exact ⟨k + 1, ini_l0 hl hb vl (fun e => by rw [decide_eq_true e] at hk; exact hk) (fun e => by rw [decide_eq_false e] at hk; exact hk) k 0 (by omega) (by simp)⟩
theorem index_l0' {K0 : Int → Heap → Prop} {K2 : Heap → Prop} {v : Int} (hl : l.length = k) (hb : k < 2 ^ 40) (vl : valsAt h q (l.map (Value.int .i64))) (hk0 : ∀ i : Nat, v ∈ l → K0 (i : Int) h) (hk2 : v ∉ l → K2 h) :
    ∀ (d i : Nat), i + d = k → v ∉ l.take i → slices_Index_Lint_int.l0 K0 K2 (d + 1) q k c v (k : Int) (i : Int) h
  | 0, i, hi, hno => by
    unfold slices_Index_Lint_int.l0 slices_Index_Lint_int.b0
    rw [List.take_of_length_le (by omega)] at hno
    exact iteB_neg (decide_eq_false (by omega)) (hk2 hno)
  | d + 1, i, hi, hno => by
    unfold slices_Index_Lint_int.l0 slices_Index_Lint_int.b0
    obtain ⟨x, hx⟩ := get_lt (l := l) (i := i) (by omega)
    have gx : (l.map (Value.int .i64))[i]? = some (.int .i64 x) := by simp [hx]
    refine iteB_pos (decide_eq_true (by omega)) ?_
    simp -zeta (disch := omega) only [chkP_some, iteB_true, iteB_false, add_mk, Nat.zero_add, Nat.add_zero, Nat.mul_one, Nat.reduceAdd, Int.toNat_natCast, ex_int, ex_slice, ex_ptr, ex_bool, ex_str, ex_flt, ex_any, bnd_in, List.getElem?_cons_zero, List.getElem?_cons_succ, List.set_cons_zero, List.set_cons_succ, List.cons_append, List.nil_append, bne_self_eq_false, beq_self_eq_true, Bool.not_true, Bool.not_false, Option.isNone_some, Option.isNone_none, eq_self, true_and, and_true, and_self, vals_int vl gx]
    refine iteB_intro (fun e => ?_) fun e => ?_
    · have e : v = x := by simpa using e
      subst e
      exact hk0 i (List.mem_of_getElem? hx)
    · have e : v ≠ x := by simpa using e
      rw [wrap64 (by omega) (by omega)]
      refine index_l0' hl hb vl hk0 hk2 d (i + 1) (by omega) ?_
      rw [take_snoc hx]; simp only [List.mem_append, List.mem_singleton, not_or]
      exact ⟨hno, fun h => e h⟩
theorem Contains_of {K : Bool → Heap → Prop} {v : Int} (hl : l.length = k) (hb : k < 2 ^ 40) (vl : valsAt h q (l.map (Value.int .i64))) (hk : K (decide (v ∈ l)) h) : slices_Contains_Lint_int q k c v h K := by
  unfold slices_Contains_Lint_int
  by_cases e : v ∈ l
  · rw [decide_eq_true e] at hk
    obtain ⟨i, hi⟩ : ∃ i : Nat, ∀ Q : Int → Heap → Prop, Q (i : Int) h → slices_Index_Lint_int q k c v h Q := by
      obtain ⟨i, hi, ei⟩ := List.getElem_of_mem e
      -- the first place
      have : ∀ (m : Nat), v ∈ l.take m → ∃ j : Nat, j < m ∧ l[j]? = some v ∧ v ∉ l.take j := by
        intro m
        induction m with
        | zero => intro hm; simp at hm
        | succ m ih =>
          intro hm
          by_cases c2 : v ∈ l.take m
          · obtain ⟨j, a, b⟩ := ih c2; exact ⟨j, by omega, b⟩
          · rcases Nat.lt_or_ge m l.length with hlt | hge
            · obtain ⟨x, hx⟩ := get_lt hlt
              rw [take_snoc hx] at hm
              rcases List.mem_append.1 hm with h | h
              · exact absurd h c2
              · have : v = x := by simpa using h
                subst this
                exact ⟨m, by omega, hx, c2⟩
            · rw [List.take_of_length_le (by omega)] at hm
              rw [List.take_of_length_le (by omega)] at c2; exact absurd hm c2
      obtain ⟨j, hj, hxj, hnj⟩ := this l.length (by rw [List.take_of_length_le (Nat.le_refl _)]; exact e)
      refine ⟨j, fun Q hQ => ?_⟩
      unfold slices_Index_Lint_int
      have key : ∀ (d i : Nat), i + d = k → i ≤ j → slices_Index_Lint_int.l0 (fun z3 h4 => Q z3 h4) (fun h5 => Q (-1) h5) (d + 1) q k c v (k : Int) (i : Int) h := by
        intro d
        induction d with
        | zero => intro i hi hij; have := (List.getElem?_eq_some_iff.1 hxj).1; omega
        | succ d ih =>
          intro i hi hij
          unfold slices_Index_Lint_int.l0 slices_Index_Lint_int.b0
          obtain ⟨x, hx⟩ := get_lt (l := l) (i := i) (by omega)
          have gx : (l.map (Value.int .i64))[i]? = some (.int .i64 x) := by simp [hx]
          refine iteB_pos (decide_eq_true (by omega)) ?_
          simp -zeta (disch := omega) only [chkP_some, iteB_true, iteB_false, add_mk, Nat.zero_add, Nat.add_zero, Nat.mul_one, Nat.reduceAdd, Int.toNat_natCast, ex_int, ex_slice, ex_ptr, ex_bool, ex_str, ex_flt, ex_any, bnd_in, List.getElem?_cons_zero, List.getElem?_cons_succ, List.set_cons_zero, List.set_cons_succ, List.cons_append, List.nil_append, bne_self_eq_false, beq_self_eq_true, Bool.not_true, Bool.not_false, Option.isNone_some, Option.isNone_none, eq_self, true_and, and_true, and_self, vals_int vl gx]
          rcases Nat.lt_or_ge i j with hlt | hge
          · have hne : v ≠ x := fun h => hnj (by
              subst h
              have hj2 := (List.getElem?_eq_some_iff.1 hxj).1
              have : (l.take j)[i]? = some v := by rw [List.getElem?_take_of_lt hlt]; exact hx
              exact List.mem_of_getElem? this)
            refine iteB_neg (by simpa using hne) ?_
            rw [wrap64 (by omega) (by omega)]
            exact ih (i + 1) (by omega) (by omega)
          · have : i = j := by omega
            subst this
            rw [hx] at hxj
            obtain rfl := Option.some.inj hxj
            exact iteB_pos (by simp) hQ
      exact ⟨k + 1, key k 0 (by omega) (by omega)⟩
    refine qcallP1.of _ (fun Q hQ => hi _ hQ) ?_
    rw [decide_eq_true (by omega)]; exact hk
  · rw [decide_eq_false e] at hk
    refine qcallP1.of (-1) (fun Q hQ => ?_) (by rw [decide_eq_false (by omega)]; exact hk)
    unfold slices_Index_Lint_int
    exact ⟨k + 1, index_l0' hl hb vl (fun i he => absurd he e) (fun _ => hQ) k 0 (by omega) (by simp)⟩
end
/-! ### Parts -/
def partsS (n : Int) (l : List Int) (u v : Int) : Bool := decide (chkS n l = 0) && (decide (0 ≤ u ∧ u < n) && (decide (0 ≤ v ∧ v < n) && !(decide (u ∈ l) == decide (v ∈ l))))
section
variable {h0 : Base} {R : Rws} {n : Int} {q : Option Addr} {k c : Nat} {l : List Int}
theorem pin_of {h : Heap} {b : Nat} {u : Int} {K : Bool → Heap → Prop} (s : St h0 h ((b, [.int .i64 n]) :: R)) (hk : K (decide (0 ≤ u ∧ u < n)) h) : side_Parts_c1 u ⟨b, 0, none⟩ h K := by
  unfold side_Parts_c1
  refine iteB_intro (fun e => ?_) fun e => ?_
  · have e := of_decide_eq_true e
    refine ⟨n, by rw [s.rd0]; rfl, ?_⟩
    rwa [show decide (0 ≤ u ∧ u < n) = decide (u < n) from decide_eq_decide.2 ⟨fun h => h.2, fun h => ⟨by omega, h⟩⟩] at hk
  · have e := of_decide_eq_false e
    rwa [decide_eq_false (fun h => e h.1)] at hk
theorem SParts_of {h : Heap} {u v : Int} {K : Bool → Heap → Prop} (hl : l.length = k) (hb : k < 2 ^ 40) (kl : Keeps h0 R q (l.map (Value.int .i64))) (s : St h0 h R) (hk : ∀ h', St h0 h' R → K (partsS n l u v) h') : side_Parts n q k c u v h K := by
  unfold side_Parts
  refine s.new_ fun b h1 s1 => ?_
  have H := hk h1 s1.tail
  unfold partsS at H
  have vl := kl.cons.at0 s1
  refine ⟨n, by rw [s1.rd0]; rfl, qcallP1.of _ (fun Q hQ => SCheck_of hl hb vl hQ) ?_⟩
  by_cases c1 : chkS n l = 0
  rotate_left
  · rw [decide_eq_false c1, Bool.false_and] at H
    exact iteB_neg (by simpa using c1) H
  rw [decide_eq_true c1, Bool.true_and] at H
  refine iteB_pos (by simpa using c1) (callP1.self (pin_of s1 ?_))
  by_cases c2 : 0 ≤ u ∧ u < n
  rotate_left
  · rw [decide_eq_false c2] at H ⊢; exact iteB_neg rfl H
  rw [decide_eq_true c2] at H ⊢
  refine iteB_pos rfl (callP1.self (pin_of s1 ?_))
  by_cases c3 : 0 ≤ v ∧ v < n
  rotate_left
  · rw [decide_eq_false c3] at H ⊢; exact iteB_neg rfl H
  rw [decide_eq_true c3] at H ⊢
  exact iteB_pos rfl (qcallP1.of _ (fun Q hQ => Contains_of hl hb vl hQ) (qcallP1.of _ (fun Q hQ => Contains_of hl hb vl hQ) H))
theorem RSParts_of {h : Heap} {u v : Int} {K : Bool → Heap → Prop} (hl : l.length = k) (hb : k < 2 ^ 40) (vl : valsAt h q (l.map (Value.int .i64))) (hk : K (partsS n l u v) h) : straitref21_Parts n q k c u v h K := by
  unfold straitref21_Parts
  unfold partsS at hk
  refine qcallP1.of _ (fun Q hQ => RSCheck_of hl hb vl hQ) ?_
  by_cases c1 : chkS n l = 0
  rotate_left
  · rw [decide_eq_false c1, Bool.false_and] at hk
    exact iteB_neg (by simpa using c1) hk
  rw [decide_eq_true c1, Bool.true_and] at hk
  refine iteB_pos (by simpa using c1) ?_
  by_cases c2 : 0 ≤ u ∧ u < n
  rotate_left
  · rw [decide_eq_false c2] at hk
    refine iteB_intro (fun e => iteB_neg (decide_eq_false (by have := of_decide_eq_true e; omega)) hk) fun e => hk
  rw [decide_eq_true c2, Bool.true_and] at hk
  refine iteB_pos (decide_eq_true c2.1) (iteB_pos (decide_eq_true c2.2) ?_)
  by_cases c3 : 0 ≤ v ∧ v < n
  rotate_left
  · rw [decide_eq_false c3] at hk
    refine iteB_intro (fun e => iteB_neg (decide_eq_false (by have := of_decide_eq_true e; omega)) hk) fun e => hk
  rw [decide_eq_true c3, Bool.true_and] at hk
  exact iteB_pos (decide_eq_true c3.1) (iteB_pos (decide_eq_true c3.2) (qcallP1.of _ (fun Q hQ => InI_of hl hb vl hQ) (qcallP1.of _ (fun Q hQ => InI_of hl hb vl hQ) hk)))
end
end Go.Proofs.Ytbhndlpjfncliaa
