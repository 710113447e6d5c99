/-
  Classes that are joined: the document's.
-/
import Derived.Test.YtbhndlpjfncliaaGreatD2
namespace Go.Proofs.YtbhndlpjfncliaaGreat
set_option linter.unusedVariables false
set_option linter.unusedSimpArgs false
set_option linter.unnecessarySimpa false
open Go.Hp Go.RowKit
attribute [local irreducible] Go.Hp.iteB Go.Hp.stC Go.Hp.newP

def nums (l : List Nat) : List Value := l.map fun v : Nat => Value.int .i64 (v : Int)
theorem nums_len (l : List Nat) : (nums l).length = l.length := by simp [nums]
theorem nums_get {l : List Nat} {i v : Nat} (h : l[i]? = some v) : (nums l)[i]? = some (.int .i64 (v : Int)) := by simp [nums, h]
theorem nums_app (l m : List Nat) : nums (l ++ m) = nums l ++ nums m := by simp [nums]
theorem nums_one (v : Nat) : nums [v] = [.int .i64 (v : Int)] := rfl
theorem intN_nums (n : Nat) (f : Nat → Nat) : intN n f = nums ((List.range n).map f) := by
  unfold intN nums; rw [ints_vals, List.map_map, List.map_map]; rfl
theorem range_map_succ (f : Nat → Nat) (i : Nat) : (List.range (i + 1)).map f = (List.range i).map f ++ [f i] := by rw [List.range_succ, List.map_append]; rfl
theorem filter_succ (p : Nat → Bool) (i : Nat) : (List.range (i + 1)).filter p = (List.range i).filter p ++ (if p i = true then [i] else []) := by
  rw [List.range_succ, List.filter_append]; cases h : p i <;> simp [h]
theorem filter_le (p : Nat → Bool) (i : Nat) : ((List.range i).filter p).length ≤ i := by
  have := List.length_filter_le p (List.range i); simpa using this

section
variable {h0 : Base} {R : Rws} {C : Nat → Nat} {n c : Nat} {q : Option Addr}

theorem RRoom_of {h : Heap} {m : Int} {K : Int → Heap → Prop} (hk : K (roomN m : Int) h) : straitref09_Room m h K := by
  unfold straitref09_Room
  refine bindV_intro fun x hx => ?_
  have : x = (roomN m : Int) := by rw [hx]; unfold roomN; (repeat' split) <;> omega
  rw [this]; exact hk

theorem rnew_l0 {K2 : Heap → Prop} {m : Int} {b2 b3 : Nat} (hn : roomN m = n)
    (hk : ∀ h' q c X, Own q c (nums (List.range n)) X → St h0 h' ((b3, [.slice q n c]) :: (X ++ (b2, [.slice none 0 0]) :: R)) → K2 h') :
    ∀ (d i : Nat) (h : Heap) (q : Option Addr) (c : Nat) (X : Rws), i + d = n → Own q c (nums (List.range i)) X → St h0 h ((b3, [.slice q i c]) :: (X ++ (b2, [.slice none 0 0]) :: R)) → straitref10_New.l0 K2 (d + 1) m ⟨b2, 0, none⟩ ⟨b3, 0, none⟩ (i : Int) h
  | d, i, h, q, c, X, hi, o, s => by
    have hr := roomN_le m
    unfold straitref10_New.l0 straitref10_New.b0
    refine qcallP1.of (roomN m : Int) (fun Q hQ => RRoom_of hQ) ?_
    refine iteB_intro (fun e => ?_) (fun e => ?_)
    · have e : i < n := by have := of_decide_eq_true e; omega
      cases d with
      | zero => omega
      | succ d =>
      try simp -zeta (disch := omega) only [chkP_some, iteB_true, iteB_false, add_mk, Nat.zero_add, Nat.add_zero, Nat.mul_one, Nat.reduceAdd, Int.toNat_natCast, ex_int, ex_slice, ex_ptr, ex_bool, ex_str, ex_flt, ex_any, bnd_in, List.getElem?_cons_zero, List.getElem?_cons_succ, List.set_cons_zero, List.set_cons_succ, List.cons_append, List.nil_append, bne_self_eq_false, beq_self_eq_true, Bool.not_true, Bool.not_false, Option.isNone_some, Option.isNone_none, eq_self, true_and, and_true, and_self, s.rd0]
      have s' : St h0 h (X ++ (b3, [.slice q i c]) :: (b2, [.slice none 0 0]) :: R) := (St.re s (by intro a; simp only [cntR_append, cntR_cons, cntR_nil, List.cons_append, List.nil_append, List.set_cons_zero, List.set_cons_succ]; omega))
      refine Own.push1 o s' (by rw [nums_len, List.length_range]) rfl (by rw [nums_len, List.length_range]; omega) fun q2 c3 X2 h2 o2 s2 => ?_
      have s2 : St h0 h2 ((b3, [.slice q i c]) :: (X2 ++ (b2, [.slice none 0 0]) :: R)) := (St.re s2 (by intro a; simp only [cntR_append, cntR_cons, cntR_nil, List.cons_append, List.nil_append, List.set_cons_zero, List.set_cons_succ]; omega))
      rw [nums_len, List.length_range]
      refine s2.st0 (by simp) fun h3 s3 => ?_
      rw [wrap64 (by omega) (by omega)]
      exact rnew_l0 hn hk d (i + 1) h3 q2 c3 X2 (by omega) (by rw [List.range_succ, nums_app]; exact o2) s3
    · have e : i = n := by have := of_decide_eq_false e; omega
      subst e
      exact hk h q c X o s
theorem RcNew_of {h : Heap} {m : Int} {K : Option Addr → Nat → Nat → Heap → Prop} (s : St h0 h R)
    (hk : ∀ q c X h', Own q c (intN (roomN m) fun v => v) X → St h0 h' (X ++ R) → K q (roomN m) c h') : straitref10_New m h K := by
  unfold straitref10_New
  refine s.new_ fun b2 h1 s1 => s1.new_ fun b3 h2 s2 => ⟨roomN m + 1, ?_⟩
  refine rnew_l0 rfl (fun h3 q c X o s3 => ?_) (roomN m) 0 h2 none 0 [] (by omega) (by simpa [nums] using Own.nil) s2
  try simp -zeta (disch := omega) only [chkP_some, iteB_true, iteB_false, add_mk, Nat.zero_add, Nat.add_zero, Nat.mul_one, Nat.reduceAdd, Int.toNat_natCast, ex_int, ex_slice, ex_ptr, ex_bool, ex_str, ex_flt, ex_any, bnd_in, List.getElem?_cons_zero, List.getElem?_cons_succ, List.set_cons_zero, List.set_cons_succ, List.cons_append, List.nil_append, bne_self_eq_false, beq_self_eq_true, Bool.not_true, Bool.not_false, Option.isNone_some, Option.isNone_none, eq_self, true_and, and_true, and_self, s3.rd0]
  have s3 : St h0 h3 ((b2, [.slice none 0 0]) :: (b3, [.slice q (roomN m) c]) :: (X ++ R)) := (St.re s3 (by intro a; simp only [cntR_append, cntR_cons, cntR_nil, List.cons_append, List.nil_append, List.set_cons_zero, List.set_cons_succ]; omega))
  refine s3.st0 (by simp) fun h4 s4 => ?_
  try simp -zeta (disch := omega) only [chkP_some, iteB_true, iteB_false, add_mk, Nat.zero_add, Nat.add_zero, Nat.mul_one, Nat.reduceAdd, Int.toNat_natCast, ex_int, ex_slice, ex_ptr, ex_bool, ex_str, ex_flt, ex_any, bnd_in, List.getElem?_cons_zero, List.getElem?_cons_succ, List.set_cons_zero, List.set_cons_succ, List.cons_append, List.nil_append, bne_self_eq_false, beq_self_eq_true, Bool.not_true, Bool.not_false, Option.isNone_some, Option.isNone_none, eq_self, true_and, and_true, and_self, s4.rd0]
  exact hk q c X h4 (by rw [intN_nums]; simpa using o) ((St.re s4 (by intro a; simp only [cntR_append, cntR_cons, cntR_nil, List.cons_append, List.nil_append, List.set_cons_zero, List.set_cons_succ]; omega)))

theorem Rin_of {h : Heap} {v : Int} {K : Bool → Heap → Prop} (s : St h0 h R) (hk : ∀ h', St h0 h' R → K (decide (0 ≤ v ∧ v < n)) h') : straitref10_Classes_in q n c v h K := by
  unfold straitref10_Classes_in
  refine s.new_ fun b h1 s1 => ?_
  have := hk h1 s1.tail
  refine iteB_intro (fun e => ?_) (fun e => ?_)
  · have e := of_decide_eq_true e
    try simp -zeta (disch := omega) only [chkP_some, iteB_true, iteB_false, add_mk, Nat.zero_add, Nat.add_zero, Nat.mul_one, Nat.reduceAdd, Int.toNat_natCast, ex_int, ex_slice, ex_ptr, ex_bool, ex_str, ex_flt, ex_any, bnd_in, List.getElem?_cons_zero, List.getElem?_cons_succ, List.set_cons_zero, List.set_cons_succ, List.cons_append, List.nil_append, bne_self_eq_false, beq_self_eq_true, Bool.not_true, Bool.not_false, Option.isNone_some, Option.isNone_none, eq_self, true_and, and_true, and_self, s1.rd0]
    have e2 : decide (0 ≤ v ∧ v < (n : Int)) = decide (v < (n : Int)) := decide_eq_decide.2 ⟨fun h => h.2, fun h => ⟨e, h⟩⟩
    rwa [e2] at this
  · have e := of_decide_eq_false e
    rwa [decide_eq_false (by omega)] at this
theorem RSame_of {h : Heap} {u v : Int} {K : Bool → Heap → Prop} (kq : Keeps h0 R q (intN n C)) (s : St h0 h R) (hk : ∀ h', St h0 h' R → K (sameF C n u v) h') : straitref10_Classes_Same q n c u v h K := by
  unfold straitref10_Classes_Same
  refine s.new_ fun b h1 s1 => ?_
  try simp -zeta (disch := omega) only [chkP_some, iteB_true, iteB_false, add_mk, Nat.zero_add, Nat.add_zero, Nat.mul_one, Nat.reduceAdd, Int.toNat_natCast, ex_int, ex_slice, ex_ptr, ex_bool, ex_str, ex_flt, ex_any, bnd_in, List.getElem?_cons_zero, List.getElem?_cons_succ, List.set_cons_zero, List.set_cons_succ, List.cons_append, List.nil_append, bne_self_eq_false, beq_self_eq_true, Bool.not_true, Bool.not_false, Option.isNone_some, Option.isNone_none, eq_self, true_and, and_true, and_self, s1.rd0]
  refine callP1.self (Rin_of s1 fun h2 s2 => ?_)
  refine iteB_intro (fun e => ?_) (fun e => ?_)
  · try simp -zeta (disch := omega) only [chkP_some, iteB_true, iteB_false, add_mk, Nat.zero_add, Nat.add_zero, Nat.mul_one, Nat.reduceAdd, Int.toNat_natCast, ex_int, ex_slice, ex_ptr, ex_bool, ex_str, ex_flt, ex_any, bnd_in, List.getElem?_cons_zero, List.getElem?_cons_succ, List.set_cons_zero, List.set_cons_succ, List.cons_append, List.nil_append, bne_self_eq_false, beq_self_eq_true, Bool.not_true, Bool.not_false, Option.isNone_some, Option.isNone_none, eq_self, true_and, and_true, and_self, s2.rd0]
    refine callP1.self (Rin_of s2 fun h3 s3 => ?_)
    have k3 := hk h3 s3.tail
    unfold sameF at k3
    refine iteB_intro (fun e2 => ?_) (fun e2 => ?_)
    · rw [e, e2, Bool.true_and, Bool.true_and] at k3
      have e := of_decide_eq_true e; have e2 := of_decide_eq_true e2
      obtain ⟨u, rfl⟩ := Int.eq_ofNat_of_zero_le e.1
      obtain ⟨v, rfl⟩ := Int.eq_ofNat_of_zero_le e2.1
      have vq := kq.atC s3
      have gu := intN_get (f := C) (show u < n by omega)
      have gv := intN_get (f := C) (show v < n by omega)
      try simp -zeta (disch := omega) only [chkP_some, iteB_true, iteB_false, add_mk, Nat.zero_add, Nat.add_zero, Nat.mul_one, Nat.reduceAdd, Int.toNat_natCast, ex_int, ex_slice, ex_ptr, ex_bool, ex_str, ex_flt, ex_any, bnd_in, List.getElem?_cons_zero, List.getElem?_cons_succ, List.set_cons_zero, List.set_cons_succ, List.cons_append, List.nil_append, bne_self_eq_false, beq_self_eq_true, Bool.not_true, Bool.not_false, Option.isNone_some, Option.isNone_none, eq_self, true_and, and_true, and_self, s3.rd0, vals_int vq gu, vals_int vq gv]
      have e3 : decide (C (u : Int).toNat = C (v : Int).toNat) = (((C u : Nat) : Int) == ((C v : Nat) : Int)) := by
        rw [Bool.eq_iff_iff]; simp; omega
      rwa [e3] at k3
    · rw [e, e2] at k3; exact k3
  · have k2 := hk h2 s2.tail
    unfold sameF at k2
    rw [e] at k2; exact k2
def cntT (C : Nat → Nat) (n : Nat) (v : Int) (i : Nat) : Nat := if 0 ≤ v ∧ v < n then ((List.range i).filter fun u => C u == C v.toNat).length else 0
theorem cntT_le (C : Nat → Nat) (n : Nat) (v : Int) (i : Nat) : cntT C n v i ≤ i := by unfold cntT; split; exact filter_le _ _; omega
theorem cntT_succ {v : Int} {i : Nat} (hi : i < n) : cntT C n v (i + 1) = cntT C n v i + (if sameF C n (i : Int) v = true then 1 else 0) := by
  have e : sameF C n (i : Int) v = (decide (0 ≤ v ∧ v < n) && decide (C i = C v.toNat)) := by
    unfold sameF
    have d1 : decide (0 ≤ (i : Int) ∧ (i : Int) < n) = true := decide_eq_true (by omega)
    rw [d1, Bool.true_and, Int.toNat_natCast]
  rw [e]
  unfold cntT
  by_cases c : 0 ≤ v ∧ v < (n : Int)
  · rw [if_pos c, if_pos c, filter_succ, List.length_append, decide_eq_true c, Bool.true_and]
    by_cases d : C i = C v.toNat <;> simp [d]
  · rw [if_neg c, if_neg c, decide_eq_false c]; simp
theorem rjoin_l0 {K2 : Heap → Prop} {x y : Nat} {b1 b2 b3 : Nat} (hn : n ≤ 4096) (kq : Keeps h0 R q (intN n C))
    (hk : ∀ h' q' c' X, Own q' c' (nums ((List.range n).map fun v => joinF x y (C v))) X → St h0 h' ((b3, [.slice q' n c']) :: (X ++ (b1, [.slice q n c]) :: (b2, [.slice none 0 0]) :: R)) → K2 h') :
    ∀ (d i : Nat) (h : Heap) (q' : Option Addr) (c' : Nat) (X : Rws), i + d = n → Own q' c' (nums ((List.range i).map fun v => joinF x y (C v))) X → St h0 h ((b3, [.slice q' i c']) :: (X ++ (b1, [.slice q n c]) :: (b2, [.slice none 0 0]) :: R)) → straitref10_Classes_Join.l0 K2 (d + 1) ⟨b1, 0, none⟩ ⟨b2, 0, none⟩ (x : Int) (y : Int) ⟨b3, 0, none⟩ (i : Int) h
  | d, i, h, q', c', X, hi, o, s => by
    unfold straitref10_Classes_Join.l0 straitref10_Classes_Join.b0
    have r1 : ∀ j, cell h ⟨b1, j, none⟩ = [Value.slice q n c][j]? := s.rd (by simp)
    simp -zeta (disch := omega) only [chkP_some, iteB_true, iteB_false, add_mk, Nat.zero_add, Nat.add_zero, Nat.mul_one, Nat.reduceAdd, Int.toNat_natCast, ex_int, ex_slice, ex_ptr, ex_bool, ex_str, ex_flt, ex_any, bnd_in, List.getElem?_cons_zero, List.getElem?_cons_succ, List.set_cons_zero, List.set_cons_succ, List.cons_append, List.nil_append, bne_self_eq_false, beq_self_eq_true, Bool.not_true, Bool.not_false, Option.isNone_some, Option.isNone_none, eq_self, true_and, and_true, and_self, r1]
    refine iteB_intro (fun e => ?_) (fun e => ?_)
    · have e : i < n := by have := of_decide_eq_true e; omega
      cases d with
      | zero => omega
      | succ d =>
      have vq : valsAt h q (intN n C) := kq _ _ s fun z hz => by simp [hz]
      have gi := intN_get (f := C) e
      simp -zeta (disch := omega) only [chkP_some, iteB_true, iteB_false, add_mk, Nat.zero_add, Nat.add_zero, Nat.mul_one, Nat.reduceAdd, Int.toNat_natCast, ex_int, ex_slice, ex_ptr, ex_bool, ex_str, ex_flt, ex_any, bnd_in, List.getElem?_cons_zero, List.getElem?_cons_succ, List.set_cons_zero, List.set_cons_succ, List.cons_append, List.nil_append, bne_self_eq_false, beq_self_eq_true, Bool.not_true, Bool.not_false, Option.isNone_some, Option.isNone_none, eq_self, true_and, and_true, and_self, r1, vals_int vq gi]
      intro j
      have J : ∀ w : Nat, w = joinF x y (C i) → j (w : Int) := by
        intro w hw
        simp -zeta only [j]
        try simp -zeta (disch := omega) only [chkP_some, iteB_true, iteB_false, add_mk, Nat.zero_add, Nat.add_zero, Nat.mul_one, Nat.reduceAdd, Int.toNat_natCast, ex_int, ex_slice, ex_ptr, ex_bool, ex_str, ex_flt, ex_any, bnd_in, List.getElem?_cons_zero, List.getElem?_cons_succ, List.set_cons_zero, List.set_cons_succ, List.cons_append, List.nil_append, bne_self_eq_false, beq_self_eq_true, Bool.not_true, Bool.not_false, Option.isNone_some, Option.isNone_none, eq_self, true_and, and_true, and_self, s.rd0]
        have s' : St h0 h (X ++ (b3, [.slice q' i c']) :: (b1, [.slice q n c]) :: (b2, [.slice none 0 0]) :: R) := (St.re s (by intro a; simp only [cntR_append, cntR_cons, cntR_nil, List.cons_append, List.nil_append, List.set_cons_zero, List.set_cons_succ]; omega))
        refine Own.push1 o s' (by simp [nums_len]) rfl (by simp [nums_len]; omega) fun q2 c3 X2 h2 o2 s2 => ?_
        have s2 : St h0 h2 ((b3, [.slice q' i c']) :: (X2 ++ (b1, [.slice q n c]) :: (b2, [.slice none 0 0]) :: R)) := (St.re s2 (by intro a; simp only [cntR_append, cntR_cons, cntR_nil, List.cons_append, List.nil_append, List.set_cons_zero, List.set_cons_succ]; omega))
        have el : (nums ((List.range i).map fun v => joinF x y (C v))).length = i := by simp [nums_len]
        rw [el]
        refine s2.st0 (by simp) fun h3 s3 => ?_
        rw [wrap64 (by omega) (by omega)]
        refine rjoin_l0 hn kq hk d (i + 1) h3 q2 c3 X2 (by omega) ?_ s3
        rw [range_map_succ, nums_app, ← hw]; exact o2
      clear_value j
      have mn : (if (y : Int) < (x : Int) then (y : Int) else (x : Int)) = ((min x y : Nat) : Int) := by split <;> omega
      refine iteB_intro (fun e2 => ?_) (fun e2 => ?_)
      · have e2 : C i = x := by have e2 : ((C i : Nat) : Int) = x := by simpa using e2
                                omega
        rw [mn]; exact J _ (joinF_in (.inl e2)).symm
      · have e2 : ¬ C i = x := by have e2 : ¬ ((C i : Nat) : Int) = x := by simpa using e2
                                  omega
        refine iteB_intro (fun e3 => ?_) (fun e3 => ?_)
        · have e3 : C i = y := by have e3 : ((C i : Nat) : Int) = y := by simpa using e3
                                  omega
          rw [mn]; exact J _ (joinF_in (.inr e3)).symm
        · have e3 : ¬ C i = y := by have e3 : ¬ ((C i : Nat) : Int) = y := by simpa using e3
                                    omega
          exact J _ (joinF_out (by rintro (h | h) <;> contradiction)).symm
    · have e : i = n := by have := of_decide_eq_false e; omega
      subst e
      exact hk h q' c' X o s

/-- What it is afterwards: another slice, or the same. -/
theorem RJoin_of {h : Heap} {u v : Int} {Y : Rws} {K : Option Addr → Nat → Nat → Heap → Prop} (hn : n ≤ 4096) (kY : Keeps h0 Y q (intN n C)) (hY : ∀ x ∈ Y, x ∈ R) (s : St h0 h R)
    (hk : ∀ q' c' X h', Keeps h0 (X ++ Y) q' (intN n (joinC C n u v)) → St h0 h' (X ++ R) → K q' n c' h') : straitref10_Classes_Join q n c u v h K := by
  have kq : Keeps h0 R q (intN n C) := kY.sub hY
  unfold straitref10_Classes_Join
  refine s.new_ fun b1 h1 s1 => s1.new_ fun b2 h2 s2 => ?_
  intro j
  have J : (0 ≤ u ∧ u < (n : Int)) → (0 ≤ v ∧ v < (n : Int)) → ∀ h', St h0 h' ((b2, [.slice none 0 0]) :: (b1, [.slice q n c]) :: R) → j h' := by
    intro hu hv h' s
    simp -zeta only [j]
    have e : joinC C n u v = fun x => joinF (C u.toNat) (C v.toNat) (C x) := by funext x; unfold joinC; rw [if_pos ⟨hu, hv⟩]
    rw [e] at hk
    obtain ⟨u, rfl⟩ := Int.eq_ofNat_of_zero_le hu.1
    obtain ⟨v, rfl⟩ := Int.eq_ofNat_of_zero_le hv.1
    have vq : valsAt h' q (intN n C) := kq _ _ s fun z hz => by simp [hz]
    have gu := intN_get (f := C) (show u < n by omega)
    have gv := intN_get (f := C) (show v < n by omega)
    try simp -zeta (disch := omega) only [chkP_some, iteB_true, iteB_false, add_mk, Nat.zero_add, Nat.add_zero, Nat.mul_one, Nat.reduceAdd, Int.toNat_natCast, ex_int, ex_slice, ex_ptr, ex_bool, ex_str, ex_flt, ex_any, bnd_in, List.getElem?_cons_zero, List.getElem?_cons_succ, List.set_cons_zero, List.set_cons_succ, List.cons_append, List.nil_append, bne_self_eq_false, beq_self_eq_true, Bool.not_true, Bool.not_false, Option.isNone_some, Option.isNone_none, eq_self, true_and, and_true, and_self, s.rd0, s.rd1, vals_int vq gu, vals_int vq gv]
    refine s.new_ fun b3 h3 s3 => ⟨n + 1, ?_⟩
    refine rjoin_l0 (c := c) (x := C u) (y := C v) hn kq (fun h4 q' c' X o s4 => ?_) n 0 h3 none 0 [] (by omega) (by simpa [nums] using Own.nil) ((St.re s3 (by intro a; simp only [cntR_append, cntR_cons, cntR_nil, List.cons_append, List.nil_append, List.set_cons_zero, List.set_cons_succ]; omega)))
    try simp -zeta (disch := omega) only [chkP_some, iteB_true, iteB_false, add_mk, Nat.zero_add, Nat.add_zero, Nat.mul_one, Nat.reduceAdd, Int.toNat_natCast, ex_int, ex_slice, ex_ptr, ex_bool, ex_str, ex_flt, ex_any, bnd_in, List.getElem?_cons_zero, List.getElem?_cons_succ, List.set_cons_zero, List.set_cons_succ, List.cons_append, List.nil_append, bne_self_eq_false, beq_self_eq_true, Bool.not_true, Bool.not_false, Option.isNone_some, Option.isNone_none, eq_self, true_and, and_true, and_self, s4.rd0]
    have s4 : St h0 h4 ((b2, [.slice none 0 0]) :: (b3, [.slice q' n c']) :: (X ++ (b1, [.slice q n c]) :: R)) := (St.re s4 (by intro a; simp only [cntR_append, cntR_cons, cntR_nil, List.cons_append, List.nil_append, List.set_cons_zero, List.set_cons_succ]; omega))
    refine s4.st0 (by simp) fun h5 s5 => ?_
    try simp -zeta (disch := omega) only [chkP_some, iteB_true, iteB_false, add_mk, Nat.zero_add, Nat.add_zero, Nat.mul_one, Nat.reduceAdd, Int.toNat_natCast, ex_int, ex_slice, ex_ptr, ex_bool, ex_str, ex_flt, ex_any, bnd_in, List.getElem?_cons_zero, List.getElem?_cons_succ, List.set_cons_zero, List.set_cons_succ, List.cons_append, List.nil_append, bne_self_eq_false, beq_self_eq_true, Bool.not_true, Bool.not_false, Option.isNone_some, Option.isNone_none, eq_self, true_and, and_true, and_self, s5.rd0]
    refine hk q' c' X h5 ?_ ((St.re s5 (by intro a; simp only [cntR_append, cntR_cons, cntR_nil, List.cons_append, List.nil_append, List.set_cons_zero, List.set_cons_succ]; omega)))
    rw [intN_nums]
    exact o.keeps fun z hz => by simp [hz]
  clear_value j
  have other : ¬ ((0 ≤ u ∧ u < (n : Int)) ∧ (0 ≤ v ∧ v < (n : Int))) → ∀ h', St h0 h' ((b2, [.slice q n c]) :: (b1, [.slice q n c]) :: R) → K q n c h' := by
    intro hno h' s
    have e : joinC C n u v = C := by funext x; unfold joinC; rw [if_neg hno]
    rw [e] at hk
    exact hk q c [] h' (by simpa using kY) ((St.re s (by intro a; simp only [cntR_append, cntR_cons, cntR_nil, List.cons_append, List.nil_append, List.set_cons_zero, List.set_cons_succ]; omega)))
  try simp -zeta (disch := omega) only [chkP_some, iteB_true, iteB_false, add_mk, Nat.zero_add, Nat.add_zero, Nat.mul_one, Nat.reduceAdd, Int.toNat_natCast, ex_int, ex_slice, ex_ptr, ex_bool, ex_str, ex_flt, ex_any, bnd_in, List.getElem?_cons_zero, List.getElem?_cons_succ, List.set_cons_zero, List.set_cons_succ, List.cons_append, List.nil_append, bne_self_eq_false, beq_self_eq_true, Bool.not_true, Bool.not_false, Option.isNone_some, Option.isNone_none, eq_self, true_and, and_true, and_self, s2.rd0, s2.rd1]
  refine callP1.self (Rin_of s2 fun h3 s3 => ?_)
  refine iteB_intro (fun e => ?_) (fun e => ?_)
  · have e : ¬ (0 ≤ u ∧ u < (n : Int)) := fun h => by rw [decide_eq_true h] at e; cases e
    try simp -zeta (disch := omega) only [chkP_some, iteB_true, iteB_false, add_mk, Nat.zero_add, Nat.add_zero, Nat.mul_one, Nat.reduceAdd, Int.toNat_natCast, ex_int, ex_slice, ex_ptr, ex_bool, ex_str, ex_flt, ex_any, bnd_in, List.getElem?_cons_zero, List.getElem?_cons_succ, List.set_cons_zero, List.set_cons_succ, List.cons_append, List.nil_append, bne_self_eq_false, beq_self_eq_true, Bool.not_true, Bool.not_false, Option.isNone_some, Option.isNone_none, eq_self, true_and, and_true, and_self, s3.rd0, s3.rd1]
    refine s3.st0 (by simp) fun h4 s4 => ?_
    try simp -zeta (disch := omega) only [chkP_some, iteB_true, iteB_false, add_mk, Nat.zero_add, Nat.add_zero, Nat.mul_one, Nat.reduceAdd, Int.toNat_natCast, ex_int, ex_slice, ex_ptr, ex_bool, ex_str, ex_flt, ex_any, bnd_in, List.getElem?_cons_zero, List.getElem?_cons_succ, List.set_cons_zero, List.set_cons_succ, List.cons_append, List.nil_append, bne_self_eq_false, beq_self_eq_true, Bool.not_true, Bool.not_false, Option.isNone_some, Option.isNone_none, eq_self, true_and, and_true, and_self, s4.rd0, s4.rd1]
    exact other (fun h => e h.1) h4 s4
  · have e : 0 ≤ u ∧ u < (n : Int) := of_decide_eq_true (by simpa using e)
    try simp -zeta (disch := omega) only [chkP_some, iteB_true, iteB_false, add_mk, Nat.zero_add, Nat.add_zero, Nat.mul_one, Nat.reduceAdd, Int.toNat_natCast, ex_int, ex_slice, ex_ptr, ex_bool, ex_str, ex_flt, ex_any, bnd_in, List.getElem?_cons_zero, List.getElem?_cons_succ, List.set_cons_zero, List.set_cons_succ, List.cons_append, List.nil_append, bne_self_eq_false, beq_self_eq_true, Bool.not_true, Bool.not_false, Option.isNone_some, Option.isNone_none, eq_self, true_and, and_true, and_self, s3.rd0, s3.rd1]
    refine callP1.self (Rin_of s3 fun h4 s4 => ?_)
    refine iteB_intro (fun e2 => ?_) (fun e2 => ?_)
    · have e2 : ¬ (0 ≤ v ∧ v < (n : Int)) := fun h => by rw [decide_eq_true h] at e2; cases e2
      try simp -zeta (disch := omega) only [chkP_some, iteB_true, iteB_false, add_mk, Nat.zero_add, Nat.add_zero, Nat.mul_one, Nat.reduceAdd, Int.toNat_natCast, ex_int, ex_slice, ex_ptr, ex_bool, ex_str, ex_flt, ex_any, bnd_in, List.getElem?_cons_zero, List.getElem?_cons_succ, List.set_cons_zero, List.set_cons_succ, List.cons_append, List.nil_append, bne_self_eq_false, beq_self_eq_true, Bool.not_true, Bool.not_false, Option.isNone_some, Option.isNone_none, eq_self, true_and, and_true, and_self, s4.rd0, s4.rd1]
      refine s4.st0 (by simp) fun h5 s5 => ?_
      try simp -zeta (disch := omega) only [chkP_some, iteB_true, iteB_false, add_mk, Nat.zero_add, Nat.add_zero, Nat.mul_one, Nat.reduceAdd, Int.toNat_natCast, ex_int, ex_slice, ex_ptr, ex_bool, ex_str, ex_flt, ex_any, bnd_in, List.getElem?_cons_zero, List.getElem?_cons_succ, List.set_cons_zero, List.set_cons_succ, List.cons_append, List.nil_append, bne_self_eq_false, beq_self_eq_true, Bool.not_true, Bool.not_false, Option.isNone_some, Option.isNone_none, eq_self, true_and, and_true, and_self, s5.rd0, s5.rd1]
      exact other (fun h => e2 h.2) h5 s5
    · have e2 : 0 ≤ v ∧ v < (n : Int) := of_decide_eq_true (by simpa using e2)
      exact J e e2 h4 s4
end
end Go.Proofs.YtbhndlpjfncliaaGreat
