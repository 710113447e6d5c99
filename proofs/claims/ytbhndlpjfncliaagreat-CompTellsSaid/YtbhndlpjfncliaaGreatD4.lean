/-
  Lists of lists; the document's list of classes.
-/
import Derived.Test.YtbhndlpjfncliaaGreatD3
namespace Go.Proofs.YtbhndlpjfncliaaGreat
set_option linter.unusedVariables false
set_option linter.unusedSimpArgs false
set_option linter.unnecessarySimpa false
open Go.Hp Go.RowKit
attribute [local irreducible] Go.Hp.iteB Go.Hp.stC Go.Hp.newP

/-- A slice value: where, how long, how much room. -/
abbrev SlT := Option Addr × Nat × Nat
def slV (qs : List SlT) : List Value := qs.map fun q => Value.slice q.1 q.2.1 q.2.2
theorem slV_len (qs : List SlT) : (slV qs).length = qs.length := by simp [slV]
theorem slV_get {qs : List SlT} {i : Nat} {q : SlT} (h : qs[i]? = some q) : (slV qs)[i]? = some (.slice q.1 q.2.1 q.2.2) := by simp [slV, h]
theorem slV_app (a b : List SlT) : slV (a ++ b) = slV a ++ slV b := by simp [slV]
/-- Slices that hold these lists of numbers. -/
def Sls (B : Base) (Y : Rws) (qs : List SlT) (ls : List (List Nat)) : Prop := qs.length = ls.length ∧ ∀ (i : Nat) (q : SlT) l, qs[i]? = some q → ls[i]? = some l → q.2.1 = l.length ∧ Keeps B Y q.1 (nums l)
theorem Sls.nil {B : Base} {Y : Rws} : Sls B Y [] [] := ⟨rfl, fun i q l h => by simp at h⟩
theorem Sls.sub {B : Base} {Y Z : Rws} {qs : List SlT} {ls : List (List Nat)} (s : Sls B Y qs ls) (h : ∀ x ∈ Y, x ∈ Z) : Sls B Z qs ls := ⟨s.1, fun i q l h1 h2 => ⟨(s.2 i q l h1 h2).1, (s.2 i q l h1 h2).2.sub h⟩⟩
theorem Sls.snoc {B : Base} {Y : Rws} {qs : List SlT} {ls : List (List Nat)} {q : Option Addr} {c : Nat} {l : List Nat} (s : Sls B Y qs ls) (k : Keeps B Y q (nums l)) : Sls B Y (qs ++ [(q, l.length, c)]) (ls ++ [l]) := by
  refine ⟨by simp [s.1], fun i p m h1 h2 => ?_⟩
  rcases Nat.lt_or_ge i qs.length with hi | hi
  · rw [List.getElem?_append_left hi] at h1
    rw [List.getElem?_append_left (by rw [← s.1]; exact hi)] at h2
    exact s.2 i p m h1 h2
  · rw [List.getElem?_append_right hi] at h1
    rw [List.getElem?_append_right (by rw [← s.1]; exact hi)] at h2
    have h0 : i - qs.length = 0 := by
      rcases Nat.eq_zero_or_pos (i - qs.length) with h | h
      · exact h
      · rw [List.getElem?_eq_none (by simp; omega)] at h1; cases h1
    rw [← s.1] at h2
    rw [h0] at h1 h2
    simp at h1 h2
    subst h1; subst h2
    exact ⟨rfl, k⟩

/-- All classes, by their names. -/
def clsT (C : Nat → Nat) (n i : Nat) : List (List Nat) := ((List.range i).filter fun v => C v == v).map fun c => clsF C n c
def clsL (C : Nat → Nat) (n : Nat) : List (List Nat) := clsT C n n
theorem clsL_len (C : Nat → Nat) (n : Nat) : (clsL C n).length = (headF C n).length := by simp [clsL, clsT, headF]
theorem clsT_le (C : Nat → Nat) (n i : Nat) : (clsT C n i).length ≤ i := by unfold clsT; rw [List.length_map]; exact filter_le _ _
theorem clsT_succ (C : Nat → Nat) (n i : Nat) : clsT C n (i + 1) = clsT C n i ++ (if (C i == i) = true then [clsF C n i] else []) := by
  unfold clsT; rw [filter_succ, List.map_append]; split <;> rfl

section
variable {h0 : Base} {R : Rws} {C : Nat → Nat} {n c : Nat} {q : Option Addr}

theorem rlist_l1 {K4 : Option Addr → Nat → Nat → Heap → Prop} {v b l3 c3 : Nat} {q3 : Option Addr} {S : Rws} (hn : n ≤ 4096) (kq : Keeps h0 S q (intN n C)) (hm : (b, [Value.slice q n c]) ∈ S)
    (hk : ∀ h' q1 c1 X, Own q1 c1 (nums (clsF C n v)) X → St h0 h' (X ++ S) → K4 q1 (clsF C n v).length c1 h') :
    ∀ (d u : Nat) (h : Heap) (q1 : Option Addr) (c1 : Nat) (X : Rws), u + d = n → Own q1 c1 (nums ((List.range u).filter fun x => C x == v)) X → St h0 h (X ++ S) →
      straitref10_Classes_List.l1 K4 (d + 1) ⟨b, 0, none⟩ q3 l3 c3 (v : Int) q1 ((List.range u).filter fun x => C x == v).length c1 (u : Int) h
  | d, u, h, q1, c1, X, hu, o, s => by
    unfold straitref10_Classes_List.l1 straitref10_Classes_List.b1
    have rb : ∀ j, cell h ⟨b, j, none⟩ = [Value.slice q n c][j]? := s.rd (by simp [hm])
    have fl := filter_le (fun x => C x == v) u
    simp -zeta (disch := omega) only [chkP_some, iteB_true, iteB_false, add_mk, Nat.zero_add, Nat.add_zero, Nat.mul_one, Nat.reduceAdd, Int.toNat_natCast, ex_int, ex_slice, ex_ptr, ex_bool, ex_str, ex_flt, ex_any, bnd_in, List.getElem?_cons_zero, List.getElem?_cons_succ, List.set_cons_zero, List.set_cons_succ, List.cons_append, List.nil_append, bne_self_eq_false, beq_self_eq_true, Bool.not_true, Bool.not_false, Option.isNone_some, Option.isNone_none, eq_self, true_and, and_true, and_self, rb]
    refine iteB_intro (fun e => ?_) (fun e => ?_)
    · have e : u < n := by have := of_decide_eq_true e; omega
      cases d with
      | zero => omega
      | succ d =>
      have vq : valsAt h q (intN n C) := kq _ _ s fun z hz => by simp [hz]
      have gu := intN_get (f := C) e
      have fs := filter_succ (fun x => C x == v) u
      simp -zeta (disch := omega) only [chkP_some, iteB_true, iteB_false, add_mk, Nat.zero_add, Nat.add_zero, Nat.mul_one, Nat.reduceAdd, Int.toNat_natCast, ex_int, ex_slice, ex_ptr, ex_bool, ex_str, ex_flt, ex_any, bnd_in, List.getElem?_cons_zero, List.getElem?_cons_succ, List.set_cons_zero, List.set_cons_succ, List.cons_append, List.nil_append, bne_self_eq_false, beq_self_eq_true, Bool.not_true, Bool.not_false, Option.isNone_some, Option.isNone_none, eq_self, true_and, and_true, and_self, rb, vals_int vq gu]
      refine iteB_intro (fun e2 => ?_) (fun e2 => ?_)
      · have e2 : (C u == v) = true := by have e2 : ((C u : Nat) : Int) = v := by simpa using e2
                                          rw [beq_iff_eq]; omega
        rw [if_pos e2] at fs
        refine Own.push1 o s (nums_len _).symm rfl (by rw [nums_len]; omega) fun q2 c2 X2 h2 o2 s2 => ?_
        rw [wrap64 (by omega) (by omega), nums_len]
        have := rlist_l1 (q3 := q3) (l3 := l3) (c3 := c3) hn kq hm hk d (u + 1) h2 q2 c2 X2 (by omega) (by rw [fs, nums_app]; exact o2) s2
        rw [fs] at this; simpa using this
      · have e2 : ¬ (C u == v) = true := by have e2 : ¬ ((C u : Nat) : Int) = v := by simpa using e2
                                            rw [beq_iff_eq]; omega
        rw [if_neg e2, List.append_nil] at fs
        rw [wrap64 (by omega) (by omega)]
        have := rlist_l1 (q3 := q3) (l3 := l3) (c3 := c3) hn kq hm hk d (u + 1) h q1 c1 X (by omega) (by rw [fs]; exact o) s
        rw [fs] at this; exact this
    · have e : u = n := by have := of_decide_eq_false e; omega
      subst e
      exact hk h q1 c1 X o s

theorem rlist_l0 {K2 : Option Addr → Nat → Nat → Heap → Prop} {b : Nat} (hn : n ≤ 4096) (kq : Keeps h0 R q (intN n C))
    (hk : ∀ h' qo co qs Y, Keeps h0 Y qo (slV qs) → Sls h0 Y qs (clsL C n) → St h0 h' (Y ++ R) → K2 qo (clsL C n).length co h') :
    ∀ (d v : Nat) (h : Heap) (qo : Option Addr) (co : Nat) (qs : List SlT) (Xo Z : Rws), v + d = n → Own qo co (slV qs) Xo → Sls h0 Z qs (clsT C n v) → St h0 h (Xo ++ (Z ++ (b, [.slice q n c]) :: R)) →
      straitref10_Classes_List.l0 K2 (d + 1) ⟨b, 0, none⟩ qo (clsT C n v).length co (v : Int) h
  | d, v, h, qo, co, qs, Xo, Z, hv, o, ss, s => by
    unfold straitref10_Classes_List.l0 straitref10_Classes_List.b0
    have rb : ∀ j, cell h ⟨b, j, none⟩ = [Value.slice q n c][j]? := s.rd (by simp)
    have cl := clsT_le C n v
    simp -zeta (disch := omega) only [chkP_some, iteB_true, iteB_false, add_mk, Nat.zero_add, Nat.add_zero, Nat.mul_one, Nat.reduceAdd, Int.toNat_natCast, ex_int, ex_slice, ex_ptr, ex_bool, ex_str, ex_flt, ex_any, bnd_in, List.getElem?_cons_zero, List.getElem?_cons_succ, List.set_cons_zero, List.set_cons_succ, List.cons_append, List.nil_append, bne_self_eq_false, beq_self_eq_true, Bool.not_true, Bool.not_false, Option.isNone_some, Option.isNone_none, eq_self, true_and, and_true, and_self, rb]
    refine iteB_intro (fun e => ?_) (fun e => ?_)
    · have e : v < n := by have := of_decide_eq_true e; omega
      cases d with
      | zero => omega
      | succ d =>
      have vq : valsAt h q (intN n C) := kq _ _ s fun z hz => by simp [hz]
      have gv := intN_get (f := C) e
      have fs := clsT_succ C n v
      simp -zeta (disch := omega) only [chkP_some, iteB_true, iteB_false, add_mk, Nat.zero_add, Nat.add_zero, Nat.mul_one, Nat.reduceAdd, Int.toNat_natCast, ex_int, ex_slice, ex_ptr, ex_bool, ex_str, ex_flt, ex_any, bnd_in, List.getElem?_cons_zero, List.getElem?_cons_succ, List.set_cons_zero, List.set_cons_succ, List.cons_append, List.nil_append, bne_self_eq_false, beq_self_eq_true, Bool.not_true, Bool.not_false, Option.isNone_some, Option.isNone_none, eq_self, true_and, and_true, and_self, rb, vals_int vq gv]
      refine iteB_intro (fun e2 => ?_) (fun e2 => ?_)
      · have e2 : (C v == v) = true := by have e2 : ((C v : Nat) : Int) = v := by simpa using e2
                                          rw [beq_iff_eq]; omega
        rw [if_pos e2] at fs
        refine ⟨n + 1, rlist_l1 (c := c) (S := Xo ++ (Z ++ (b, [.slice q n c]) :: R)) hn (kq.sub fun x hx => by simp [hx]) (by simp) (fun h1 q1 c1 X1 o1 s1 => ?_) n 0 h none 0 [] (by omega) (by simpa [nums] using Own.nil) s⟩
        have s1 : St h0 h1 (Xo ++ ((X1 ++ Z) ++ (b, [.slice q n c]) :: R)) := (St.re s1 (by intro a; simp only [cntR_append, cntR_cons, cntR_nil, List.cons_append, List.nil_append, List.set_cons_zero, List.set_cons_succ]; omega))
        refine Own.push1 o s1 (by rw [slV_len, ss.1]) rfl (by rw [slV_len, ss.1]; omega) fun q2 c2 X2 h2 o2 s2 => ?_
        rw [wrap64 (by omega) (by omega)]
        have := rlist_l0 hn kq hk d (v + 1) h2 q2 c2 (qs ++ [(q1, (clsF C n v).length, c1)]) X2 (X1 ++ Z) (by omega) (by rw [slV_app]; exact o2) (by rw [fs]; exact (ss.sub fun x hx => by simp [hx]).snoc (o1.keeps fun x hx => by simp [hx])) s2
        rw [fs] at this; rw [slV_len, ss.1]; simpa using this
      · have e2 : ¬ (C v == v) = true := by have e2 : ¬ ((C v : Nat) : Int) = v := by simpa using e2
                                            rw [beq_iff_eq]; omega
        rw [if_neg e2, List.append_nil] at fs
        rw [wrap64 (by omega) (by omega)]
        have := rlist_l0 hn kq hk d (v + 1) h qo co qs Xo Z (by omega) o (by rw [fs]; exact ss) s
        rw [fs] at this; exact this
    · have e : v = n := by have := of_decide_eq_false e; omega
      subst e
      exact hk h qo co qs (Xo ++ Z) (o.keeps fun x hx => by simp [hx]) (ss.sub fun x hx => by simp [hx]) ((St.re s (by intro a; simp only [cntR_append, cntR_cons, cntR_nil, List.cons_append, List.nil_append, List.set_cons_zero, List.set_cons_succ]; omega)))

theorem RList_of {h : Heap} {K : Option Addr → Nat → Nat → Heap → Prop} (hn : n ≤ 4096) (kq : Keeps h0 R q (intN n C)) (s : St h0 h R)
    (hk : ∀ h' qo co qs Y, Keeps h0 Y qo (slV qs) → Sls h0 Y qs (clsL C n) → St h0 h' (Y ++ R) → K qo (clsL C n).length co h') : straitref10_Classes_List q n c h K := by
  unfold straitref10_Classes_List
  refine s.new_ fun b h1 s1 => ⟨n + 1, ?_⟩
  exact rlist_l0 hn kq hk n 0 h1 none 0 [] [] [] (by omega) (by simpa [slV] using Own.nil) Sls.nil s1
end
end Go.Proofs.YtbhndlpjfncliaaGreat
