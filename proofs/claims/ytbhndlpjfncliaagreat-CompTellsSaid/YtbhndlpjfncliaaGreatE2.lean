/-
  Edges: the normal form, sums that fit, and what comes together in the map.
-/
import Derived.Test.YtbhndlpjfncliaaGreatE1
import Derived.Test.YtbhndlpjfncliaaGreatB1
import Derived.Test.YtbhndlpjfncliaaGreatG2
namespace Go.Proofs.YtbhndlpjfncliaaGreat
set_option linter.unusedVariables false
set_option linter.unusedSimpArgs false
set_option linter.unnecessarySimpa false
open Go.Hp Go.RowKit
attribute [local irreducible] Go.Hp.iteB Go.Hp.stC Go.Hp.newP

theorem num_Add_of {a b : Int} {h : Heap} {K : Int → Bool → Heap → Prop} (ha : fits a) (hb : fits b) (hk : K (addR a b).1 (addR a b).2 h) : num_Add a b h K := by
  unfold num_Add
  simp only [bindV_eq]
  rw [add_over ha hb]
  unfold addR at hk
  by_cases hf : fits (a + b)
  · rw [if_pos hf] at hk; simp only [hf, decide_true, Bool.not_true, iteB_false]
    unfold fits at hf; rw [wrap_id (by omega) (by omega)]; exact hk
  · rw [if_neg hf] at hk; simp only [hf, decide_false, Bool.not_false, iteB_true]; exact hk

def normE (e : Ed) : Ed := if e.1 > e.2.1 then (e.2.1, e.1, e.2.2) else e
theorem normE_pos {e : Ed} (h : e.1 > e.2.1) : normE e = (e.2.1, e.1, e.2.2) := if_pos h
theorem normE_neg {e : Ed} (h : ¬ e.1 > e.2.1) : normE e = e := if_neg h
theorem normE_w (e : Ed) : (normE e).2.2 = e.2.2 := by unfold normE; split <;> rfl
theorem normE_le (e : Ed) : (normE e).1 ≤ (normE e).2.1 := by
  by_cases h : e.1 > e.2.1
  · rw [normE_pos h]; simp only; omega
  · rw [normE_neg h]; omega
theorem normE_eq (e : Ed) : (normE e).1 = (normE e).2.1 ↔ e.1 = e.2.1 := by
  by_cases h : e.1 > e.2.1
  · rw [normE_pos h]; simp only; omega
  · rw [normE_neg h]
theorem normE_idem {e : Ed} (h : e.1 ≤ e.2.1) : normE e = e := by unfold normE; rw [if_neg (by omega)]

section
variable {h0 : Base} {R : Rws}
theorem Normal_of {h : Heap} {e : Ed} {K : Int → Int → Int → Heap → Prop} (s : St h0 h R) (hk : ∀ h', St h0 h' R → K (normE e).1 (normE e).2.1 (normE e).2.2 h') : edge_Normal e.1 e.2.1 e.2.2 h K := by
  obtain ⟨u, v, w⟩ := e
  unfold edge_Normal
  refine s.new_ fun b1 h1 s1 => s1.new_ fun b2 h2 s2 => ?_
  intro j
  have J : ∀ h' x y z, St h0 h' ((b2, [.int .i64 0, .int .i64 0, .int .i64 0]) :: (b1, [.int .i64 x, .int .i64 y, .int .i64 z]) :: R) → normE (u, v, w) = (x, y, z) → j h' := by
    intro h' x y z s e
    simp -zeta only [j]
    try simp -zeta (disch := omega) only [chkP_some, iteB_true, iteB_false, add_mk, Nat.zero_add, Nat.add_zero, Nat.mul_one, Nat.reduceAdd, Int.toNat_natCast, ex_int, ex_slice, ex_ptr, ex_bool, ex_str, ex_flt, ex_any, bnd_in, List.getElem?_cons_zero, List.getElem?_cons_succ, List.set_cons_zero, List.set_cons_succ, List.cons_append, List.nil_append, bne_self_eq_false, beq_self_eq_true, Bool.not_true, Bool.not_false, Option.isNone_some, Option.isNone_none, eq_self, true_and, and_true, and_self, s.rd0, s.rd1]
    refine s.st0 (by simp) fun h3 s3 => ?_
    try simp -zeta (disch := omega) only [chkP_some, iteB_true, iteB_false, add_mk, Nat.zero_add, Nat.add_zero, Nat.mul_one, Nat.reduceAdd, Int.toNat_natCast, ex_int, ex_slice, ex_ptr, ex_bool, ex_str, ex_flt, ex_any, bnd_in, List.getElem?_cons_zero, List.getElem?_cons_succ, List.set_cons_zero, List.set_cons_succ, List.cons_append, List.nil_append, bne_self_eq_false, beq_self_eq_true, Bool.not_true, Bool.not_false, Option.isNone_some, Option.isNone_none, eq_self, true_and, and_true, and_self, s3.rd0, s3.rd1]
    refine s3.st0 (by simp) fun h4 s4 => ?_
    try simp -zeta (disch := omega) only [chkP_some, iteB_true, iteB_false, add_mk, Nat.zero_add, Nat.add_zero, Nat.mul_one, Nat.reduceAdd, Int.toNat_natCast, ex_int, ex_slice, ex_ptr, ex_bool, ex_str, ex_flt, ex_any, bnd_in, List.getElem?_cons_zero, List.getElem?_cons_succ, List.set_cons_zero, List.set_cons_succ, List.cons_append, List.nil_append, bne_self_eq_false, beq_self_eq_true, Bool.not_true, Bool.not_false, Option.isNone_some, Option.isNone_none, eq_self, true_and, and_true, and_self, s4.rd0, s4.rd1]
    refine s4.st0 (by simp) fun h5 s5 => ?_
    try simp -zeta (disch := omega) only [chkP_some, iteB_true, iteB_false, add_mk, Nat.zero_add, Nat.add_zero, Nat.mul_one, Nat.reduceAdd, Int.toNat_natCast, ex_int, ex_slice, ex_ptr, ex_bool, ex_str, ex_flt, ex_any, bnd_in, List.getElem?_cons_zero, List.getElem?_cons_succ, List.set_cons_zero, List.set_cons_succ, List.cons_append, List.nil_append, bne_self_eq_false, beq_self_eq_true, Bool.not_true, Bool.not_false, Option.isNone_some, Option.isNone_none, eq_self, true_and, and_true, and_self, s5.rd0, s5.rd1]
    have := hk h5 s5.tail.tail
    rw [e] at this; exact this
  clear_value j
  try simp -zeta (disch := omega) only [chkP_some, iteB_true, iteB_false, add_mk, Nat.zero_add, Nat.add_zero, Nat.mul_one, Nat.reduceAdd, Int.toNat_natCast, ex_int, ex_slice, ex_ptr, ex_bool, ex_str, ex_flt, ex_any, bnd_in, List.getElem?_cons_zero, List.getElem?_cons_succ, List.set_cons_zero, List.set_cons_succ, List.cons_append, List.nil_append, bne_self_eq_false, beq_self_eq_true, Bool.not_true, Bool.not_false, Option.isNone_some, Option.isNone_none, eq_self, true_and, and_true, and_self, s2.rd0, s2.rd1]
  refine iteB_intro (fun e => ?_) (fun e => ?_)
  · have e := of_decide_eq_true e
    try simp -zeta (disch := omega) only [chkP_some, iteB_true, iteB_false, add_mk, Nat.zero_add, Nat.add_zero, Nat.mul_one, Nat.reduceAdd, Int.toNat_natCast, ex_int, ex_slice, ex_ptr, ex_bool, ex_str, ex_flt, ex_any, bnd_in, List.getElem?_cons_zero, List.getElem?_cons_succ, List.set_cons_zero, List.set_cons_succ, List.cons_append, List.nil_append, bne_self_eq_false, beq_self_eq_true, Bool.not_true, Bool.not_false, Option.isNone_some, Option.isNone_none, eq_self, true_and, and_true, and_self, s2.rd0, s2.rd1]
    refine s2.st1 (by simp) fun h3 s3 => ?_
    try simp -zeta (disch := omega) only [chkP_some, iteB_true, iteB_false, add_mk, Nat.zero_add, Nat.add_zero, Nat.mul_one, Nat.reduceAdd, Int.toNat_natCast, ex_int, ex_slice, ex_ptr, ex_bool, ex_str, ex_flt, ex_any, bnd_in, List.getElem?_cons_zero, List.getElem?_cons_succ, List.set_cons_zero, List.set_cons_succ, List.cons_append, List.nil_append, bne_self_eq_false, beq_self_eq_true, Bool.not_true, Bool.not_false, Option.isNone_some, Option.isNone_none, eq_self, true_and, and_true, and_self, s3.rd0, s3.rd1]
    refine s3.st1 (by simp) fun h4 s4 => J h4 v u w s4 ?_
    unfold normE; rw [if_pos e]
  · have e := of_decide_eq_false e
    refine J h2 u v w s2 ?_
    unfold normE; rw [if_neg e]

/-! ### What comes together -/
def sameK (x e : Ed) : Prop := x.1 = e.1 ∧ x.2.1 = e.2.1
instance (x e : Ed) : Decidable (sameK x e) := by unfold sameK; exact inferInstance
def addP : List Ed → Ed → Option (List Ed)
  | [], e => some [e]
  | x :: r, e => if sameK x e then (if fits (x.2.2 + e.2.2) then some ((x.1, x.2.1, x.2.2 + e.2.2) :: r) else none) else (addP r e).map (x :: ·)
theorem addP_cons (x : Ed) (r : List Ed) (e : Ed) : addP (x :: r) e = if sameK x e then (if fits (x.2.2 + e.2.2) then some ((x.1, x.2.1, x.2.2 + e.2.2) :: r) else none) else (addP r e).map (x :: ·) := rfl
def stepP (o : Option (List Ed)) (x : Ed) : Option (List Ed) := match o with
  | none => none
  | some P => if (normE x).1 = (normE x).2.1 then some P else addP P (normE x)
def mergeP (l : List Ed) : Option (List Ed) := l.foldl stepP (some [])
theorem step_none : ∀ l : List Ed, l.foldl stepP none = none
  | [] => rfl
  | x :: l => step_none l
theorem mergeP_snoc (l : List Ed) (x : Ed) : mergeP (l ++ [x]) = stepP (mergeP l) x := by unfold mergeP; rw [List.foldl_append]; rfl
theorem mergeP_none {l : List Ed} {i : Nat} (h : mergeP (l.take i) = none) : mergeP l = none := by
  unfold mergeP at *
  rw [← List.take_append_drop i l, List.foldl_append, h, step_none]
theorem addP_none {e : Ed} : ∀ {P : List Ed}, (∀ x ∈ P, ¬ sameK x e) → addP P e = some (P ++ [e])
  | [], _ => rfl
  | x :: r, h => by rw [addP_cons, if_neg (h x (by simp)), addP_none fun y hy => h y (by simp [hy])]; rfl
theorem addP_mid {e x : Ed} : ∀ {A B : List Ed}, (∀ y ∈ A, ¬ sameK y e) → sameK x e → addP (A ++ x :: B) e = if fits (x.2.2 + e.2.2) then some (A ++ (x.1, x.2.1, x.2.2 + e.2.2) :: B) else none
  | [], B, _, hx => by rw [List.nil_append, addP_cons, if_pos hx]; rfl
  | y :: A, B, h, hx => by
    rw [List.cons_append, addP_cons]
    rw [if_neg (h y (by simp)), addP_mid (fun z hz => h z (by simp [hz])) hx]
    split <;> rfl
theorem split_key (e : Ed) : ∀ P : List Ed, (∀ x ∈ P, ¬ sameK x e) ∨ ∃ A x B, P = A ++ x :: B ∧ (∀ y ∈ A, ¬ sameK y e) ∧ sameK x e
  | [] => .inl (by simp)
  | x :: r => by
    by_cases c : sameK x e
    · exact .inr ⟨[], x, r, rfl, by simp, c⟩
    · rcases split_key e r with h | ⟨A, y, B, h1, h2, h3⟩
      · exact .inl fun z hz => by rcases List.mem_cons.1 hz with rfl | hz; exact c; exact h z hz
      · exact .inr ⟨x :: A, y, B, by rw [h1]; rfl, fun z hz => by rcases List.mem_cons.1 hz with rfl | hz; exact c; exact h2 z hz, h3⟩
/-- The map: where each pair stands. -/
def kvF : Nat → List Ed → KV
  | _, [] => []
  | i, e :: r => (.agg #[.int .i64 e.1, .int .i64 e.2.1], .int .i64 (i : Int)) :: kvF (i + 1) r
theorem kvF_app : ∀ (A B : List Ed) (i : Nat), kvF i (A ++ B) = kvF i A ++ kvF (i + A.length) B
  | [], B, i => by simp [kvF]
  | e :: A, B, i => by simp only [List.cons_append, kvF, kvF_app A B (i + 1), List.length_cons]; congr 3; omega
theorem kvF_key : ∀ (P : List Ed) (i : Nat), ∀ e ∈ kvF i P, isKey (.two .i64) e.1 = true
  | [], _, e, h => by simp [kvF] at h
  | x :: r, i, e, h => by
    simp only [kvF, List.mem_cons] at h
    rcases h with rfl | h
    · rfl
    · exact kvF_key r (i + 1) e h
theorem keyEq_two {a b c d : Int} : keyEq (.agg #[.int .i64 a, .int .i64 b]) (.agg #[.int .i64 c, .int .i64 d]) = (a == c && b == d) := rfl
theorem kvF_ne {e : Ed} : ∀ {P : List Ed} (i : Nat), (∀ x ∈ P, ¬ sameK x e) → ∀ y ∈ kvF i P, keyEq (.agg #[.int .i64 e.1, .int .i64 e.2.1]) y.1 = false
  | [], _, _, y, h => by simp [kvF] at h
  | x :: r, i, hx, y, h => by
    simp only [kvF, List.mem_cons] at h
    rcases h with rfl | h
    · rw [keyEq_two]
      have := hx x (by simp)
      rw [Bool.eq_false_iff]; simp only [ne_eq, Bool.and_eq_true, beq_iff_eq]
      rintro ⟨h1, h2⟩; exact this ⟨h1.symm, h2.symm⟩
    · exact kvF_ne (i + 1) (fun z hz => hx z (by simp [hz])) y h
theorem kvF_w {A B : List Ed} {u v w w' : Int} (i : Nat) : kvF i (A ++ (u, v, w) :: B) = kvF i (A ++ (u, v, w') :: B) := by rw [kvF_app, kvF_app]; rfl

def fitsL (P : List Ed) : Prop := ∀ e ∈ P, fits e.2.2
theorem addP_fits {e : Ed} (he : fits e.2.2) : ∀ {P Q : List Ed}, fitsL P → addP P e = some Q → fitsL Q ∧ Q.length ≤ P.length + 1
  | [], Q, _, h => by
    simp only [addP, Option.some.injEq] at h; subst h
    exact ⟨fun x hx => by simp only [List.mem_singleton] at hx; subst hx; exact he, by simp⟩
  | x :: r, Q, hP, h => by
    rw [addP_cons] at h
    split at h
    · split at h
      · rename_i hf
        simp only [Option.some.injEq] at h; subst h
        exact ⟨fun y hy => by rcases List.mem_cons.1 hy with rfl | hy; exact hf; exact hP y (by simp [hy]), by simp⟩
      · cases h
    · cases hr : addP r e with
      | none => rw [hr] at h; cases h
      | some Q' =>
        rw [hr] at h
        simp only [Option.map_some, Option.some.injEq] at h; subst h
        obtain ⟨h1, h2⟩ := addP_fits he (fun y hy => hP y (by simp [hy])) hr
        exact ⟨fun y hy => by rcases List.mem_cons.1 hy with rfl | hy; exact hP _ (by simp); exact h1 y hy, by simp; omega⟩

theorem merge_l0 {K0 : Option Addr → Nat → Nat → Bool → Heap → Prop} {K2 : Option Addr → Nat → Nat → Heap → Prop} {bm n cl : Nat} {ql : Option Addr} {l : List Ed} (hf : Base.free h0 bm) (hl : l.length = n) (hn : n < 2 ^ 30) (hw : fitsL l) (kl : Keeps h0 R ql (eV l))
    (hk0 : mergeP l = none → ∀ h', St h0 h' R → K0 none 0 0 false h')
    (hk2 : ∀ P, mergeP l = some P → ∀ h' q c X, fitsL P → P.length ≤ n → Own3 q c P X → St h0 h' (X ++ R) → K2 q P.length c h') :
    ∀ (d i : Nat) (h : Heap) (P : List Ed) (q : Option Addr) (c : Nat) (X : Rws), i + d = n → mergeP (l.take i) = some P → fitsL P → P.length ≤ i → Own3 q c P X → St (h0.with bm (mapObj (kvF 0 P))) h (X ++ R) →
      edge_Merge.l0 K0 K2 (d + 1) (some bm) q P.length c ql n cl (n : Int) (i : Int) h
  | 0, i, h, P, q, c, X, hi, hm, hfp, hpl, o, s => by
    unfold edge_Merge.l0 edge_Merge.b0
    have e : i = n := by omega
    subst e
    rw [List.take_of_length_le (by omega)] at hm
    exact iteB_neg (decide_eq_false (by omega)) (hk2 P hm h q c X hfp hpl o s.dropO)
  | d + 1, i, h, P, q, c, X, hi, hm, hfp, hpl, o, s => by
    unfold edge_Merge.l0 edge_Merge.b0
    obtain ⟨⟨u, v, w⟩, hx⟩ := get_lt (l := l) (i := i) (by omega)
    have hwx : fits w := hw _ (List.mem_of_getElem? hx)
    have vl : valsAt h ql (eV l) := kl.withO.at1 s
    have ms : mergeP (l.take (i + 1)) = stepP (some P) (u, v, w) := by rw [take_snoc hx, mergeP_snoc, hm]
    refine iteB_pos (decide_eq_true (by omega)) ?_
    simp -zeta (disch := omega) only [chkP_some, iteB_true, iteB_false, add_mk, Nat.zero_add, Nat.add_zero, Nat.mul_one, Nat.reduceAdd, Int.toNat_natCast, ex_int, ex_slice, ex_ptr, ex_bool, ex_str, ex_flt, ex_any, bnd_in, List.getElem?_cons_zero, List.getElem?_cons_succ, List.set_cons_zero, List.set_cons_succ, List.cons_append, List.nil_append, bne_self_eq_false, beq_self_eq_true, Bool.not_true, Bool.not_false, Option.isNone_some, Option.isNone_none, eq_self, true_and, and_true, and_self, vals_edge vl hx]
    refine s.new_ fun b1 h1 s1 => s1.st0 (by simp) fun h2 s2 => s2.st0 (by simp) fun h3 s3 => s3.st0 (by simp) fun h4 s4 => ?_
    try simp -zeta (disch := omega) only [chkP_some, iteB_true, iteB_false, add_mk, Nat.zero_add, Nat.add_zero, Nat.mul_one, Nat.reduceAdd, Int.toNat_natCast, ex_int, ex_slice, ex_ptr, ex_bool, ex_str, ex_flt, ex_any, bnd_in, List.getElem?_cons_zero, List.getElem?_cons_succ, List.set_cons_zero, List.set_cons_succ, List.cons_append, List.nil_append, bne_self_eq_false, beq_self_eq_true, Bool.not_true, Bool.not_false, Option.isNone_some, Option.isNone_none, eq_self, true_and, and_true, and_self, s4.rd0]
    refine callP3.self (Normal_of (e := (u, v, w)) s4 fun h5 s5 => ?_)
    obtain ⟨u', v', w', hne⟩ : ∃ u' v' w', normE (u, v, w) = (u', v', w') := ⟨_, _, _, rfl⟩
    have hw' : w' = w := by have := normE_w (u, v, w); rw [hne] at this; exact this
    have hwf : fits w' := by rw [hw']; exact hwx
    rw [hne]
    refine s5.new_ fun b2 h6 s6 => s6.st0 (by simp) fun h7 s7 => s7.st0 (by simp) fun h8 s8 => s8.st0 (by simp) fun h9 s9 => ?_
    try simp -zeta (disch := omega) only [chkP_some, iteB_true, iteB_false, add_mk, Nat.zero_add, Nat.add_zero, Nat.mul_one, Nat.reduceAdd, Int.toNat_natCast, ex_int, ex_slice, ex_ptr, ex_bool, ex_str, ex_flt, ex_any, bnd_in, List.getElem?_cons_zero, List.getElem?_cons_succ, List.set_cons_zero, List.set_cons_succ, List.cons_append, List.nil_append, bne_self_eq_false, beq_self_eq_true, Bool.not_true, Bool.not_false, Option.isNone_some, Option.isNone_none, eq_self, true_and, and_true, and_self, s9.rd0]
    rw [stepP, hne] at ms
    refine iteB_intro (fun e => ?_) (fun e => ?_)
    · have e : u' = v' := by simpa using e
      rw [if_pos e] at ms
      rw [wrap64 (by omega) (by omega)]
      exact merge_l0 hf hl hn hw kl hk0 hk2 d (i + 1) h9 P q c X (by omega) ms hfp (by omega) o s9.tail.tail
    · have e : ¬ u' = v' := by simpa using e
      rw [if_neg e] at ms
      refine s9.new_ fun b3 h10 s10 => s10.st0 (by simp) fun h11 s11 => s11.st0 (by simp) fun h12 s12 => ?_
      try simp -zeta (disch := omega) only [chkP_some, iteB_true, iteB_false, add_mk, Nat.zero_add, Nat.add_zero, Nat.mul_one, Nat.reduceAdd, Int.toNat_natCast, ex_int, ex_slice, ex_ptr, ex_bool, ex_str, ex_flt, ex_any, bnd_in, List.getElem?_cons_zero, List.getElem?_cons_succ, List.set_cons_zero, List.set_cons_succ, List.cons_append, List.nil_append, bne_self_eq_false, beq_self_eq_true, Bool.not_true, Bool.not_false, Option.isNone_some, Option.isNone_none, eq_self, true_and, and_true, and_self, s12.rd0, s12.rd1]
      rw [chkM_some]
      refine ⟨kvF 0 P, ⟨s12.mapAt, kvF_key P 0⟩, ?_⟩
      rcases split_key (u', v', w') P with hno | ⟨A, ⟨xu, xv, xw⟩, B, rfl, hA, hs⟩
      · -- a new pair
        rw [addP_none hno] at ms
        have hg := kvF_ne 0 hno
        rw [show getM (.agg #[.int .i64 u', .int .i64 v']) (kvF 0 P) = none from getM_none hg]
        refine ⟨0, rfl, iteB_pos rfl ?_⟩
        try simp -zeta (disch := omega) only [chkP_some, iteB_true, iteB_false, add_mk, Nat.zero_add, Nat.add_zero, Nat.mul_one, Nat.reduceAdd, Int.toNat_natCast, ex_int, ex_slice, ex_ptr, ex_bool, ex_str, ex_flt, ex_any, bnd_in, List.getElem?_cons_zero, List.getElem?_cons_succ, List.set_cons_zero, List.set_cons_succ, List.cons_append, List.nil_append, bne_self_eq_false, beq_self_eq_true, Bool.not_true, Bool.not_false, Option.isNone_some, Option.isNone_none, eq_self, true_and, and_true, and_self, s12.rd0, s12.rd1]
        rw [chkM_some]
        refine ⟨kvF 0 P, ⟨s12.mapAt, kvF_key P 0⟩, ?_⟩
        rw [show putM (.agg #[.int .i64 u', .int .i64 v']) (.int .i64 (P.length : Int)) (kvF 0 P) = kvF 0 (P ++ [(u', v', w')]) by rw [putM_none hg, kvF_app]; simp [kvF]]
        refine bindV_intro fun h13 e13 => ?_
        have s13 := s12.setO (o' := mapObj (kvF 0 (P ++ [(u', v', w')]))) hf rfl
        rw [← e13] at s13
        try simp -zeta (disch := omega) only [chkP_some, iteB_true, iteB_false, add_mk, Nat.zero_add, Nat.add_zero, Nat.mul_one, Nat.reduceAdd, Int.toNat_natCast, ex_int, ex_slice, ex_ptr, ex_bool, ex_str, ex_flt, ex_any, bnd_in, List.getElem?_cons_zero, List.getElem?_cons_succ, List.set_cons_zero, List.set_cons_succ, List.cons_append, List.nil_append, bne_self_eq_false, beq_self_eq_true, Bool.not_true, Bool.not_false, Option.isNone_some, Option.isNone_none, eq_self, true_and, and_true, and_self, s13.rd0, s13.rd1]
        have s13 : St _ h13 (X ++ R) := (St.re s13 (by intro a; simp only [cntR_append, cntR_cons, cntR_nil, List.cons_append, List.nil_append, List.set_cons_zero, List.set_cons_succ]; omega))
        refine Own3.push1 o s13 rfl (by omega) fun q2 c2 X2 h14 o2 s14 => ?_
        rw [wrap64 (by omega) (by omega)]
        have := merge_l0 (cl := cl) hf hl hn hw kl hk0 hk2 d (i + 1) h14 (P ++ [(u', v', w')]) q2 c2 X2 (by omega) ms (fun x hx => by
          rcases List.mem_append.1 hx with hx | hx
          · exact hfp x hx
          · simp only [List.mem_singleton] at hx; subst hx; exact hwf) (by simp; omega) o2 s14
        simpa using this
      · -- a pair that there is
        obtain ⟨hs1, hs2⟩ := hs
        simp only at hs1 hs2
        subst hs1; subst hs2
        rw [addP_mid (x := (xu, xv, xw)) hA ⟨rfl, rfl⟩] at ms
        have hg := kvF_ne 0 hA
        have ek : kvF 0 (A ++ (xu, xv, xw) :: B) = kvF 0 A ++ (.agg #[.int .i64 xu, .int .i64 xv], .int .i64 (A.length : Int)) :: kvF (A.length + 1) B := by rw [kvF_app]; simp [kvF]
        have hke : keyEq (.agg #[.int .i64 xu, .int .i64 xv]) (.agg #[.int .i64 xu, .int .i64 xv]) = true := by rw [keyEq_two]; simp
        rw [show getM (.agg #[.int .i64 xu, .int .i64 xv]) (kvF 0 (A ++ (xu, xv, xw) :: B)) = some (.int .i64 (A.length : Int)) by rw [ek]; exact getM_mid hg hke]
        refine ⟨(A.length : Int), rfl, iteB_neg rfl ?_⟩
        have hAl : A.length < (A ++ (xu, xv, xw) :: B).length := by simp
        have gx : (A ++ (xu, xv, xw) :: B)[A.length]? = some (xu, xv, xw) := by simp
        have s12 : St (h0.with bm (mapObj (kvF 0 (A ++ (xu, xv, xw) :: B)))) h12 (X ++ (b2, [Value.int .i64 xu, .int .i64 xv, .int .i64 w']) :: R) := (St.re s12 (by intro a; simp only [cntR_append, cntR_cons, cntR_nil, List.cons_append, List.nil_append, List.set_cons_zero, List.set_cons_succ]; omega))
        have vp := o.vals s12
        have r2 : ∀ j, cell h12 ⟨b2, j, none⟩ = [Value.int .i64 xu, .int .i64 xv, .int .i64 w'][j]? := s12.rd (by simp)
        simp -zeta (disch := omega) only [chkP_some, iteB_true, iteB_false, add_mk, Nat.zero_add, Nat.add_zero, Nat.mul_one, Nat.reduceAdd, Int.toNat_natCast, ex_int, ex_slice, ex_ptr, ex_bool, ex_str, ex_flt, ex_any, bnd_in, List.getElem?_cons_zero, List.getElem?_cons_succ, List.set_cons_zero, List.set_cons_succ, List.cons_append, List.nil_append, bne_self_eq_false, beq_self_eq_true, Bool.not_true, Bool.not_false, Option.isNone_some, Option.isNone_none, eq_self, true_and, and_true, and_self, vals_edge2 vp gx, r2]
        have hxf : fits xw := hfp (xu, xv, xw) (by simp)
        refine qcallP2.of _ _ (fun Q hQ => num_Add_of hxf hwf hQ) ?_
        unfold addR
        simp only at ms
        by_cases hfit : fits (xw + w')
        · rw [if_pos hfit]
          rw [if_pos hfit] at ms
          refine iteB_neg rfl ?_
          rcases o with ⟨_, _, hnil, _⟩ | ⟨b, zz, rfl, hcap, rfl⟩
          · simp at hnil
          simp -zeta (disch := omega) only [chkP_some, iteB_true, iteB_false, add_mk, Nat.zero_add, Nat.add_zero, Nat.mul_one, Nat.reduceAdd, Int.toNat_natCast, ex_int, ex_slice, ex_ptr, ex_bool, ex_str, ex_flt, ex_any, bnd_in, List.getElem?_cons_zero, List.getElem?_cons_succ, List.set_cons_zero, List.set_cons_succ, List.cons_append, List.nil_append, bne_self_eq_false, beq_self_eq_true, Bool.not_true, Bool.not_false, Option.isNone_some, Option.isNone_none, eq_self, true_and, and_true, and_self]
          have hlen : A.length * 3 + 2 < (eV (A ++ (xu, xv, xw) :: B) ++ zz).length := by rw [List.length_append, eV_len]; simp; omega
          refine St.st0 (by simpa using s12) hlen fun h13 s13 => ?_
          rw [eV_setW rfl] at s13
          rw [wrap64 (by omega) (by omega)]
          have o2 : Own3 (some ⟨b, 0, none⟩) c (A ++ (xu, xv, xw + w') :: B) [(b, eV (A ++ (xu, xv, xw + w') :: B) ++ zz)] := .inr ⟨b, zz, rfl, by rw [← hcap]; simp only [List.length_append, eV_len, List.length_cons], rfl⟩
          have s13 : St (h0.with bm (mapObj (kvF 0 (A ++ (xu, xv, xw + w') :: B)))) h13 ([(b, eV (A ++ (xu, xv, xw + w') :: B) ++ zz)] ++ R) := by
            rw [kvF_w (w' := xw)]; exact (St.re s13 (by intro a; simp only [cntR_append, cntR_cons, cntR_nil, List.cons_append, List.nil_append, List.set_cons_zero, List.set_cons_succ]; omega))
          have := merge_l0 (cl := cl) hf hl hn hw kl hk0 hk2 d (i + 1) h13 (A ++ (xu, xv, xw + w') :: B) _ c _ (by omega) ms (fun x hx => by
            rcases List.mem_append.1 hx with hx | hx
            · exact hfp x (by simp [hx])
            · rcases List.mem_cons.1 hx with rfl | hx
              · exact hfit
              · exact hfp x (by simp [hx])) (by simp at hpl ⊢; omega) o2 s13
          simpa using this
        · rw [if_neg hfit]
          rw [if_neg hfit] at ms
          exact iteB_pos rfl (hk0 (mergeP_none ms) h12 ((St.re s12.dropO (by intro a; simp only [cntR_append, cntR_cons, cntR_nil, List.cons_append, List.nil_append, List.set_cons_zero, List.set_cons_succ]; omega))))
end
end Go.Proofs.YtbhndlpjfncliaaGreat
