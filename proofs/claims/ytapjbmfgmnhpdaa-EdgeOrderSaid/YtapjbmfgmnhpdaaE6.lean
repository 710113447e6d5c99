/-
  Edges added up, and split: the program's, and the document's.
-/
import Derived.Test.YtapjbmfgmnhpdaaE5
namespace Go.Proofs.Ytapjbmfgmnhpdaa
set_option linter.unusedVariables false
set_option linter.unusedSimpArgs false
set_option linter.unnecessarySimpa false
open Go.Hp Go.RowKit
attribute [local irreducible] Go.Hp.iteB Go.Hp.stC Go.Hp.newP

/-! ### Sums -/
def stepR (p : Int × Bool) (n : Int) : Int × Bool := if p.2 then addR p.1 n else p
def sumR (l : List Int) : Int × Bool := l.foldl stepR (0, true)
theorem sumR_snoc (l : List Int) (n : Int) : sumR (l ++ [n]) = stepR (sumR l) n := by simp [sumR]
theorem addR_fits (a b : Int) : fits (addR a b).1 := by
  unfold addR; split
  · assumption
  · simp [fits]
theorem stepR_fits {p : Int × Bool} {n : Int} (h : fits p.1) : fits (stepR p n).1 := by
  unfold stepR; split
  · exact addR_fits _ _
  · exact h
theorem stepR_no {p : Int × Bool} {n : Int} (h : p.2 = false) : stepR p n = p := by unfold stepR; rw [h]; rfl
theorem stepR_yes {p : Int × Bool} {n : Int} (h : p.2 = true) : stepR p n = addR p.1 n := by unfold stepR; rw [h]; rfl
theorem sum_stuck {p : Int × Bool} (h : p.2 = false) : ∀ l : List Int, l.foldl stepR p = p
  | [] => rfl
  | n :: l => by rw [List.foldl_cons, stepR_no h]; exact sum_stuck h l
theorem sumR_fits (l : List Int) : fits (sumR l).1 := by
  suffices ∀ (l : List Int) (p : Int × Bool), fits p.1 → fits (l.foldl stepR p).1 from this l _ (by simp [fits])
  intro l
  induction l with
  | nil => intro p h; exact h
  | cons n l ih => intro p h; exact ih _ (stepR_fits h)
theorem sumR_stop {l : List Int} {i : Nat} (h : (sumR (l.take i)).2 = false) : sumR l = sumR (l.take i) := by
  have : sumR l = (l.drop i).foldl stepR (sumR (l.take i)) := by unfold sumR; rw [← List.foldl_append, List.take_append_drop]
  rw [this]; exact sum_stuck h _
theorem sumR_exact : ∀ {l : List Int} {p : Int}, 0 ≤ p → (∀ x ∈ l, 0 ≤ x) → p + l.sum ≤ 9223372036854775807 → l.foldl stepR (p, true) = (p + l.sum, true)
  | [], p, _, _, _ => by simp
  | x :: l, p, hp, h, hs => by
    have hx := h x (by simp)
    have hl : ∀ (l : List Int), (∀ x ∈ l, 0 ≤ x) → 0 ≤ l.sum := fun l => by
      induction l with
      | nil => simp
      | cons y l ih => intro h; have := ih (fun z hz => h z (by simp [hz])); have := h y (by simp); rw [List.sum_cons]; omega
    have h2 := hl l fun y hy => h y (by simp [hy])
    rw [List.sum_cons] at hs ⊢
    rw [List.foldl_cons, stepR_yes rfl]
    have hf : fits (p + x) := by unfold fits; omega
    unfold addR; rw [if_pos hf]
    rw [sumR_exact (by omega) (fun y hy => h y (by simp [hy])) (by omega)]
    congr 1; omega
theorem sum_nonneg : ∀ (l : List Int), (∀ x ∈ l, 0 ≤ x) → 0 ≤ l.sum
  | [], _ => by simp
  | y :: l, h => by have := sum_nonneg l (fun z hz => h z (by simp [hz])); have := h y (by simp); rw [List.sum_cons]; omega

def accV (p : Int × Bool) : List Value := [.int .i64 p.1, .bool (!p.2)]
def wsE (l : List Ed) : List Int := l.map (·.2.2)
theorem wsE_get {l : List Ed} {i : Nat} {u v w : Int} (h : l[i]? = some (u, v, w)) : (wsE l)[i]? = some w := by simp [wsE, h]

section
variable {h0 : Base} {R : Rws}
theorem Put_of {h : Heap} {b : Nat} {p : Int × Bool} {n : Int} {K : Bool → Heap → Prop} (hp : fits p.1) (hn : fits n) (s : St h0 h ((b, accV p) :: R))
    (hk : ∀ r h', St h0 h' ((b, accV (stepR p n)) :: R) → K r h') : num_Acc_Put (some ⟨b, 0, none⟩) n h K := by
  unfold num_Acc_Put
  refine iteB_neg rfl ?_
  have r0 := s.rd0
  simp only [accV] at r0
  simp -zeta (disch := omega) only [chkP_some, iteB_true, iteB_false, add_mk, Nat.zero_add, Nat.add_zero, Nat.mul_one, Nat.reduceAdd, Int.toNat_natCast, ex_int, ex_slice, ex_ptr, ex_bool, ex_str, ex_flt, ex_any, bnd_in, List.getElem?_cons_zero, List.getElem?_cons_succ, List.set_cons_zero, List.set_cons_succ, List.cons_append, List.nil_append, bne_self_eq_false, beq_self_eq_true, Bool.not_true, Bool.not_false, Option.isNone_some, Option.isNone_none, eq_self, true_and, and_true, and_self, r0]
  refine iteB_intro (fun e => ?_) (fun e => ?_)
  · have e : p.2 = false := by simpa using e
    rw [stepR_no e] at hk
    exact hk _ _ s
  · have e : p.2 = true := by simpa using e
    rw [stepR_yes e] at hk
    refine qcallP2.of _ _ (fun Q hQ => num_Add_of hp hn hQ) (s.st0 (by simp [accV]) fun h2 s2 => s2.st0 (by simp [accV]) fun h3 s3 => hk _ _ ?_)
    exact s3
theorem Value_of {h : Heap} {b : Nat} {p : Int × Bool} {K : Int → Bool → Heap → Prop} (hr : ∀ j, cell h ⟨b, j, none⟩ = (accV p)[j]?) (hk : K (if p.2 then p.1 else 0) p.2 h) : num_Acc_Value (some ⟨b, 0, none⟩) h K := by
  unfold num_Acc_Value
  refine iteB_neg rfl ?_
  simp only [accV] at hr
  simp -zeta (disch := omega) only [chkP_some, iteB_true, iteB_false, add_mk, Nat.zero_add, Nat.add_zero, Nat.mul_one, Nat.reduceAdd, Int.toNat_natCast, ex_int, ex_slice, ex_ptr, ex_bool, ex_str, ex_flt, ex_any, bnd_in, List.getElem?_cons_zero, List.getElem?_cons_succ, List.set_cons_zero, List.set_cons_succ, List.cons_append, List.nil_append, bne_self_eq_false, beq_self_eq_true, Bool.not_true, Bool.not_false, Option.isNone_some, Option.isNone_none, eq_self, true_and, and_true, and_self, hr]
  refine iteB_intro (fun e => ?_) (fun e => ?_)
  · have e : p.2 = false := by simpa using e
    rw [e] at hk; exact hk
  · have e : p.2 = true := by simpa using e
    rw [e] at hk; exact hk
theorem sumR_zero {l : List Int} (h : (sumR l).2 = false) : (sumR l).1 = 0 := by
  suffices ∀ (l : List Int) (p : Int × Bool), (p.2 = false → p.1 = 0) → (l.foldl stepR p).2 = false → (l.foldl stepR p).1 = 0 from this l _ (fun h => by cases h) h
  intro l
  induction l with
  | nil => intro p hp h; exact hp h
  | cons n l ih =>
    intro p hp h
    refine ih (stepR p n) (fun e => ?_) h
    by_cases c : p.2 = true
    · rw [stepR_yes c] at e ⊢
      unfold addR at e ⊢
      split at e
      · cases e
      · rename_i hf; rw [if_neg hf]
    · have c : p.2 = false := by simpa using c
      rw [stepR_no c]; exact hp c

theorem total_l0 {K2 : Heap → Prop} {b k cl : Nat} {q : Option Addr} {l : List Ed} (hl : l.length = k) (hb : k < 2 ^ 40) (hw : fitsL l) (kl : Keeps h0 R q (eV l))
    (hk2 : ∀ h', St h0 h' ((b, accV (sumR (wsE l))) :: R) → K2 h') :
    ∀ (d i : Nat) (h : Heap), i + d = k → St h0 h ((b, accV (sumR (wsE (l.take i)))) :: R) → edge_Total.l0 K2 (d + 1) ⟨b, 0, none⟩ q k cl (k : Int) (i : Int) h
  | 0, i, h, hi, s => by
    unfold edge_Total.l0 edge_Total.b0
    rw [List.take_of_length_le (by omega)] at s
    exact iteB_neg (decide_eq_false (by omega)) (hk2 h s)
  | d + 1, i, h, hi, s => by
    unfold edge_Total.l0 edge_Total.b0
    obtain ⟨⟨u, v, w⟩, hx⟩ := get_lt (l := l) (i := i) (by omega)
    have hwx : fits w := hw _ (List.mem_of_getElem? hx)
    have vl := kl.atC s
    refine iteB_pos (decide_eq_true (by omega)) ?_
    simp -zeta (disch := omega) only [chkP_some, iteB_true, iteB_false, add_mk, Nat.zero_add, Nat.add_zero, Nat.mul_one, Nat.reduceAdd, Int.toNat_natCast, ex_int, ex_slice, ex_ptr, ex_bool, ex_str, ex_flt, ex_any, bnd_in, List.getElem?_cons_zero, List.getElem?_cons_succ, List.set_cons_zero, List.set_cons_succ, List.cons_append, List.nil_append, bne_self_eq_false, beq_self_eq_true, Bool.not_true, Bool.not_false, Option.isNone_some, Option.isNone_none, eq_self, true_and, and_true, and_self, vals_edge vl hx]
    refine s.new_ fun b1 h1 s1 => s1.st0 (by simp) fun h2 s2 => s2.st0 (by simp) fun h3 s3 => s3.st0 (by simp) fun h4 s4 => ?_
    try simp -zeta (disch := omega) only [chkP_some, iteB_true, iteB_false, add_mk, Nat.zero_add, Nat.add_zero, Nat.mul_one, Nat.reduceAdd, Int.toNat_natCast, ex_int, ex_slice, ex_ptr, ex_bool, ex_str, ex_flt, ex_any, bnd_in, List.getElem?_cons_zero, List.getElem?_cons_succ, List.set_cons_zero, List.set_cons_succ, List.cons_append, List.nil_append, bne_self_eq_false, beq_self_eq_true, Bool.not_true, Bool.not_false, Option.isNone_some, Option.isNone_none, eq_self, true_and, and_true, and_self, s4.rd0]
    refine callP1.self (Put_of (sumR_fits _) hwx s4.pull1 fun r h5 s5 => ?_)
    rw [wrap64 (by omega) (by omega)]
    refine total_l0 hl hb hw kl hk2 d (i + 1) h5 (by omega) ?_
    rw [take_snoc hx, show wsE (l.take i ++ [(u, v, w)]) = wsE (l.take i) ++ [w] by simp [wsE], sumR_snoc]
    exact s5.pull1.tail
theorem Total_of {h : Heap} {k cl : Nat} {q : Option Addr} {l : List Ed} {K : Int → Bool → Heap → Prop} (hl : l.length = k) (hb : k < 2 ^ 40) (hw : fitsL l) (kl : Keeps h0 R q (eV l)) (s : St h0 h R)
    (hk : ∀ h', St h0 h' R → K (sumR (wsE l)).1 (sumR (wsE l)).2 h') : edge_Total q k cl h K := by
  unfold edge_Total
  refine s.new_ fun b h1 s1 => ⟨k + 1, total_l0 hl hb hw kl (fun h' s => ?_) k 0 h1 (by omega) s1⟩
  refine qcallP2.of _ _ (fun Q hQ => Value_of s.rd0 hQ) ?_
  have := hk h' s.tail
  by_cases c : (sumR (wsE l)).2 = true
  · rw [c] at this ⊢; exact this
  · have c : (sumR (wsE l)).2 = false := by simpa using c
    rw [c] at this ⊢; rw [sumR_zero c] at this; exact this

theorem ref_Add_of {a b : Int} {h : Heap} {K : Int → Bool → Heap → Prop} (ha : fits a) (hb : fits b) (s : St h0 h R) (hk : ∀ h', St h0 h' R → K (addR a b).1 (addR a b).2 h') : straitref01_Add a b h K := by
  unfold straitref01_Add
  refine s.new_ fun c h1 s1 => ?_
  intro j
  have J : ∀ y, y = !decide (fits (a + b)) → j (IntKind.i64.wrap (a + b)) y := by
    intro y hy
    simp -zeta only [j]
    subst hy
    by_cases hf : fits (a + b)
    · refine iteB_neg (by simp [hf]) (s1.st0 (by simp) fun h2 s2 => ?_)
      try simp -zeta (disch := omega) only [chkP_some, iteB_true, iteB_false, add_mk, Nat.zero_add, Nat.add_zero, Nat.mul_one, Nat.reduceAdd, Int.toNat_natCast, ex_int, ex_slice, ex_ptr, ex_bool, ex_str, ex_flt, ex_any, bnd_in, List.getElem?_cons_zero, List.getElem?_cons_succ, List.set_cons_zero, List.set_cons_succ, List.cons_append, List.nil_append, bne_self_eq_false, beq_self_eq_true, Bool.not_true, Bool.not_false, Option.isNone_some, Option.isNone_none, eq_self, true_and, and_true, and_self, s2.rd0]
      refine s2.st0 (by simp) fun h3 s3 => ?_
      try simp -zeta (disch := omega) only [chkP_some, iteB_true, iteB_false, add_mk, Nat.zero_add, Nat.add_zero, Nat.mul_one, Nat.reduceAdd, Int.toNat_natCast, ex_int, ex_slice, ex_ptr, ex_bool, ex_str, ex_flt, ex_any, bnd_in, List.getElem?_cons_zero, List.getElem?_cons_succ, List.set_cons_zero, List.set_cons_succ, List.cons_append, List.nil_append, bne_self_eq_false, beq_self_eq_true, Bool.not_true, Bool.not_false, Option.isNone_some, Option.isNone_none, eq_self, true_and, and_true, and_self, s3.rd0]
      have := hk h3 s3.tail
      unfold addR at this; rw [if_pos hf] at this
      unfold fits at hf
      rw [wrap64 (by omega) (by omega)]; exact this
    · refine iteB_pos (by simp [hf]) (s1.st0 (by simp) fun h2 s2 => ?_)
      try simp -zeta (disch := omega) only [chkP_some, iteB_true, iteB_false, add_mk, Nat.zero_add, Nat.add_zero, Nat.mul_one, Nat.reduceAdd, Int.toNat_natCast, ex_int, ex_slice, ex_ptr, ex_bool, ex_str, ex_flt, ex_any, bnd_in, List.getElem?_cons_zero, List.getElem?_cons_succ, List.set_cons_zero, List.set_cons_succ, List.cons_append, List.nil_append, bne_self_eq_false, beq_self_eq_true, Bool.not_true, Bool.not_false, Option.isNone_some, Option.isNone_none, eq_self, true_and, and_true, and_self, s2.rd0]
      refine s2.st0 (by simp) fun h3 s3 => ?_
      try simp -zeta (disch := omega) only [chkP_some, iteB_true, iteB_false, add_mk, Nat.zero_add, Nat.add_zero, Nat.mul_one, Nat.reduceAdd, Int.toNat_natCast, ex_int, ex_slice, ex_ptr, ex_bool, ex_str, ex_flt, ex_any, bnd_in, List.getElem?_cons_zero, List.getElem?_cons_succ, List.set_cons_zero, List.set_cons_succ, List.cons_append, List.nil_append, bne_self_eq_false, beq_self_eq_true, Bool.not_true, Bool.not_false, Option.isNone_some, Option.isNone_none, eq_self, true_and, and_true, and_self, s3.rd0]
      have := hk h3 s3.tail
      unfold addR at this; rw [if_neg hf] at this
      exact this
  clear_value j
  have t : ∀ y : Bool, ((y = true) ↔ ¬ fits (a + b)) → y = !decide (fits (a + b)) := fun y h => by
    cases y
    · have : fits (a + b) := Decidable.not_not.1 (fun c => by simpa using h.2 c)
      simp [this]
    · simp [h.1 rfl]
  unfold fits at ha hb
  have e := wrap_i64_eq (a + b)
  refine iteB_intro (fun h1 => iteB_intro (fun h2 => J _ (t _ ?_)) (fun h2 => iteB_intro (fun h3 => ?_) (fun h3 => J _ (t _ ?_)))) (fun h1 => iteB_intro (fun h2 => J _ (t _ ?_)) (fun h2 => ?_))
  all_goals simp only [decide_eq_true_eq, decide_eq_false_iff_not] at *
  all_goals first | omega | (unfold fits; omega) | (unfold fits; simp only [Bool.false_eq_true, false_iff]; omega) | (unfold fits; simp only [true_iff]; omega)

theorem vals_map {h : Heap} {q : Option Addr} {l : List Int} {i : Nat} {x : Int} {G : Int → Prop} (hv : valsAt h q (l.map (Value.int .i64))) (hx : l[i]? = some x) : (chkP q fun a => ∃ y : Int, cell h (a.add i) = some (.int .i64 y) ∧ G y) = G x :=
  vals_int hv (by simp [hx])
def prV (p : Int × Bool) : List Value := [.int .i64 p.1, .bool p.2]
theorem rsum_l0 {K2 : Heap → Prop} {b b2 k cl : Nat} {c0 : List Value} {q : Option Addr} {l : List Int} (hl : l.length = k) (hb : k < 2 ^ 40) (hw : ∀ x ∈ l, fits x) (kl : Keeps h0 R q (l.map (Value.int .i64)))
    (hk2 : ∀ h', St h0 h' ((b, prV (sumR l)) :: (b2, c0) :: R) → K2 h') :
    ∀ (d i : Nat) (h : Heap), i + d = k → St h0 h ((b, prV (sumR (l.take i))) :: (b2, c0) :: R) → straitref01_Sum.l0 K2 (d + 1) q k cl ⟨b2, 0, none⟩ ⟨b, 0, none⟩ (i : Int) h
  | 0, i, h, hi, s => by
    unfold straitref01_Sum.l0 straitref01_Sum.b0
    intro j
    clear_value j
    rw [List.take_of_length_le (by omega)] at s
    exact iteB_neg (decide_eq_false (by omega)) (hk2 h s)
  | d + 1, i, h, hi, s => by
    unfold straitref01_Sum.l0 straitref01_Sum.b0
    obtain ⟨x, hx⟩ := get_lt (l := l) (i := i) (by omega)
    have hwx := hw _ (List.mem_of_getElem? hx)
    have vl : valsAt h q (l.map (Value.int .i64)) := (kl.cons (y := (b2, c0))).atC s
    have r0 := s.rd0
    simp only [prV] at r0
    intro j
    have J : (sumR (l.take i)).2 = true → j := fun c => by
      simp -zeta only [j]
      simp -zeta (disch := omega) only [chkP_some, iteB_true, iteB_false, add_mk, Nat.zero_add, Nat.add_zero, Nat.mul_one, Nat.reduceAdd, Int.toNat_natCast, ex_int, ex_slice, ex_ptr, ex_bool, ex_str, ex_flt, ex_any, bnd_in, List.getElem?_cons_zero, List.getElem?_cons_succ, List.set_cons_zero, List.set_cons_succ, List.cons_append, List.nil_append, bne_self_eq_false, beq_self_eq_true, Bool.not_true, Bool.not_false, Option.isNone_some, Option.isNone_none, eq_self, true_and, and_true, and_self, vals_map vl hx, r0]
      refine callP2.self (ref_Add_of (sumR_fits _) hwx s fun h2 s2 => s2.st0 (by simp [prV]) fun h3 s3 => ?_)
      try simp -zeta only [chkP_some, iteB_true, iteB_false, add_mk, Nat.zero_add, Nat.add_zero, Nat.mul_one, Nat.reduceAdd, Int.toNat_natCast, ex_int, ex_slice, ex_ptr, ex_bool, ex_str, ex_flt, ex_any, bnd_in, List.getElem?_cons_zero, List.getElem?_cons_succ, List.set_cons_zero, List.set_cons_succ, List.cons_append, List.nil_append, bne_self_eq_false, beq_self_eq_true, Bool.not_true, Bool.not_false, Option.isNone_some, Option.isNone_none, eq_self, true_and, and_true, and_self]
      refine s3.st0 (by simp [prV]) fun h4 s4 => ?_
      rw [wrap64 (by omega) (by omega)]
      refine rsum_l0 hl hb hw kl hk2 d (i + 1) h4 (by omega) ?_
      rw [take_snoc hx, sumR_snoc, stepR_yes c]
      exact s4
    clear_value j
    refine iteB_pos (decide_eq_true (by omega)) ?_
    simp -zeta (disch := omega) only [chkP_some, iteB_true, iteB_false, add_mk, Nat.zero_add, Nat.add_zero, Nat.mul_one, Nat.reduceAdd, Int.toNat_natCast, ex_int, ex_slice, ex_ptr, ex_bool, ex_str, ex_flt, ex_any, bnd_in, List.getElem?_cons_zero, List.getElem?_cons_succ, List.set_cons_zero, List.set_cons_succ, List.cons_append, List.nil_append, bne_self_eq_false, beq_self_eq_true, Bool.not_true, Bool.not_false, Option.isNone_some, Option.isNone_none, eq_self, true_and, and_true, and_self, r0]
    refine iteB_intro (fun c => J c) (fun c => hk2 h ?_)
    rw [sumR_stop c]; exact s
theorem ref_Sum_of {h : Heap} {k cl : Nat} {q : Option Addr} {l : List Int} {K : Int → Bool → Heap → Prop} (hl : l.length = k) (hb : k < 2 ^ 40) (hw : ∀ x ∈ l, fits x) (kl : Keeps h0 R q (l.map (Value.int .i64))) (s : St h0 h R)
    (hk : ∀ h', St h0 h' R → K (sumR l).1 (sumR l).2 h') : straitref01_Sum q k cl h K := by
  unfold straitref01_Sum
  refine s.new_ fun b1 h1 s1 => s1.new_ fun b2 h2 s2 => s2.st0 (by simp) fun h3 s3 => ?_
  try simp -zeta (disch := omega) only [chkP_some, iteB_true, iteB_false, add_mk, Nat.zero_add, Nat.add_zero, Nat.mul_one, Nat.reduceAdd, Int.toNat_natCast, ex_int, ex_slice, ex_ptr, ex_bool, ex_str, ex_flt, ex_any, bnd_in, List.getElem?_cons_zero, List.getElem?_cons_succ, List.set_cons_zero, List.set_cons_succ, List.cons_append, List.nil_append, bne_self_eq_false, beq_self_eq_true, Bool.not_true, Bool.not_false, Option.isNone_some, Option.isNone_none, eq_self, true_and, and_true, and_self, s3.rd0]
  refine s3.st0 (by simp) fun h4 s4 => ⟨k + 1, rsum_l0 hl hb hw kl (fun h5 s5 => ?_) k 0 h4 (by omega) s4⟩
  have r0 := s5.rd0
  simp only [prV] at r0
  simp -zeta (disch := omega) only [chkP_some, iteB_true, iteB_false, add_mk, Nat.zero_add, Nat.add_zero, Nat.mul_one, Nat.reduceAdd, Int.toNat_natCast, ex_int, ex_slice, ex_ptr, ex_bool, ex_str, ex_flt, ex_any, bnd_in, List.getElem?_cons_zero, List.getElem?_cons_succ, List.set_cons_zero, List.set_cons_succ, List.cons_append, List.nil_append, bne_self_eq_false, beq_self_eq_true, Bool.not_true, Bool.not_false, Option.isNone_some, Option.isNone_none, eq_self, true_and, and_true, and_self, r0]
  refine s5.st1 (by simp) fun h6 s6 => ?_
  try simp -zeta (disch := omega) only [chkP_some, iteB_true, iteB_false, add_mk, Nat.zero_add, Nat.add_zero, Nat.mul_one, Nat.reduceAdd, Int.toNat_natCast, ex_int, ex_slice, ex_ptr, ex_bool, ex_str, ex_flt, ex_any, bnd_in, List.getElem?_cons_zero, List.getElem?_cons_succ, List.set_cons_zero, List.set_cons_succ, List.cons_append, List.nil_append, bne_self_eq_false, beq_self_eq_true, Bool.not_true, Bool.not_false, Option.isNone_some, Option.isNone_none, eq_self, true_and, and_true, and_self, s6.rd0, s6.rd1]
  refine s6.st1 (by simp) fun h7 s7 => ?_
  try simp -zeta (disch := omega) only [chkP_some, iteB_true, iteB_false, add_mk, Nat.zero_add, Nat.add_zero, Nat.mul_one, Nat.reduceAdd, Int.toNat_natCast, ex_int, ex_slice, ex_ptr, ex_bool, ex_str, ex_flt, ex_any, bnd_in, List.getElem?_cons_zero, List.getElem?_cons_succ, List.set_cons_zero, List.set_cons_succ, List.cons_append, List.nil_append, bne_self_eq_false, beq_self_eq_true, Bool.not_true, Bool.not_false, Option.isNone_some, Option.isNone_none, eq_self, true_and, and_true, and_self, s7.rd0, s7.rd1]
  exact hk h7 s7.tail.tail
theorem rtotal_l0 {K2 : Option Addr → Nat → Nat → Heap → Prop} {b k cl : Nat} {c0 : List Value} {q : Option Addr} {l : List Ed} (hl : l.length = k) (hb : k < 2 ^ 30) (kl : Keeps h0 R q (eV l))
    (hk2 : ∀ h' q' c' X', Hp.Own q' c' ((wsE l).map (Value.int .i64)) X' → St h0 h' (X' ++ (b, c0) :: R) → K2 q' k c' h') :
    ∀ (d i : Nat) (h : Heap) (q' : Option Addr) (c' : Nat) (X' : Rws), i + d = k → Hp.Own q' c' ((wsE (l.take i)).map (Value.int .i64)) X' → St h0 h (X' ++ (b, c0) :: R) → straitref15_Total.l0 K2 (d + 1) q k cl ⟨b, 0, none⟩ q' i c' (i : Int) h
  | 0, i, h, q', c', X', hi, o, s => by
    unfold straitref15_Total.l0 straitref15_Total.b0
    rw [List.take_of_length_le (by omega)] at o
    refine iteB_neg (decide_eq_false (by omega)) ?_
    rw [show i = k by omega]
    exact hk2 h q' c' X' o s
  | d + 1, i, h, q', c', X', hi, o, s => by
    unfold straitref15_Total.l0 straitref15_Total.b0
    obtain ⟨⟨u, v, w⟩, hx⟩ := get_lt (l := l) (i := i) (by omega)
    have vl : valsAt h q (eV l) := (kl.cons (y := (b, c0))).at1 s
    refine iteB_pos (decide_eq_true (by omega)) ?_
    simp -zeta (disch := omega) only [chkP_some, iteB_true, iteB_false, add_mk, Nat.zero_add, Nat.add_zero, Nat.mul_one, Nat.reduceAdd, Int.toNat_natCast, ex_int, ex_slice, ex_ptr, ex_bool, ex_str, ex_flt, ex_any, bnd_in, List.getElem?_cons_zero, List.getElem?_cons_succ, List.set_cons_zero, List.set_cons_succ, List.cons_append, List.nil_append, bne_self_eq_false, beq_self_eq_true, Bool.not_true, Bool.not_false, Option.isNone_some, Option.isNone_none, eq_self, true_and, and_true, and_self, vals_edge2 vl hx]
    have hl2 : i = ((wsE (l.take i)).map (Value.int .i64)).length := by simp [wsE]; omega
    refine Hp.Own.push1 o s hl2 rfl (by rw [← hl2]; omega) fun q2 c2 X2 h2 o2 s2 => ?_
    rw [← hl2, wrap64 (by omega) (by omega)]
    refine rtotal_l0 hl hb kl hk2 d (i + 1) h2 q2 c2 X2 (by omega) ?_ s2
    rw [take_snoc hx]
    simpa [wsE] using o2
theorem RTotal_of {h : Heap} {k cl : Nat} {q : Option Addr} {l : List Ed} {K : Int → Bool → Heap → Prop} (hl : l.length = k) (hb : k < 2 ^ 30) (hw : fitsL l) (kl : Keeps h0 R q (eV l)) (s : St h0 h R)
    (hk : ∀ h', St h0 h' R → K (sumR (wsE l)).1 (sumR (wsE l)).2 h') : straitref15_Total q k cl h K := by
  unfold straitref15_Total
  refine s.new_ fun b h1 s1 => ⟨k + 1, rtotal_l0 hl hb kl (fun h2 q' c' X' o s2 => ?_) k 0 h1 none 0 [] (by omega) Own.nil s1⟩
  refine callP2.self (ref_Sum_of (R := X' ++ _ :: R) (by simp [wsE]; exact hl) (by omega) (fun x hx => ?_) (o.keeps fun x hx => by simp [hx]) s2 fun h3 s3 => ?_)
  · obtain ⟨e, he, rfl⟩ := List.mem_map.1 hx; exact hw e he
  refine s3.drop.st0 (by simp) fun h4 s4 => ?_
  try simp -zeta (disch := omega) only [chkP_some, iteB_true, iteB_false, add_mk, Nat.zero_add, Nat.add_zero, Nat.mul_one, Nat.reduceAdd, Int.toNat_natCast, ex_int, ex_slice, ex_ptr, ex_bool, ex_str, ex_flt, ex_any, bnd_in, List.getElem?_cons_zero, List.getElem?_cons_succ, List.set_cons_zero, List.set_cons_succ, List.cons_append, List.nil_append, bne_self_eq_false, beq_self_eq_true, Bool.not_true, Bool.not_false, Option.isNone_some, Option.isNone_none, eq_self, true_and, and_true, and_self, s4.rd0]
  refine s4.st0 (by simp) fun h5 s5 => ?_
  try simp -zeta (disch := omega) only [chkP_some, iteB_true, iteB_false, add_mk, Nat.zero_add, Nat.add_zero, Nat.mul_one, Nat.reduceAdd, Int.toNat_natCast, ex_int, ex_slice, ex_ptr, ex_bool, ex_str, ex_flt, ex_any, bnd_in, List.getElem?_cons_zero, List.getElem?_cons_succ, List.set_cons_zero, List.set_cons_succ, List.cons_append, List.nil_append, bne_self_eq_false, beq_self_eq_true, Bool.not_true, Bool.not_false, Option.isNone_some, Option.isNone_none, eq_self, true_and, and_true, and_self, s5.rd0]
  exact hk h5 s5.tail
end
end Go.Proofs.Ytapjbmfgmnhpdaa
