/-
  Sides: the program's functions: Weight, Crossing, Normal, Cut, Right.
-/
import Derived.Test.YtbhndlpjfncliaaGreatS2
namespace Go.Proofs.YtbhndlpjfncliaaGreat
set_option linter.unusedVariables false
set_option linter.unusedSimpArgs false
set_option linter.unnecessarySimpa false
open Go Go.Hp Go.RowKit
attribute [local irreducible] Go.Hp.iteB Go.Hp.stC Go.Hp.newP

theorem memS_cons {x v : Int} {l : List Int} : memS (x :: l) v = (decide (v = x) || memS l v) := by
  unfold memS
  by_cases e : v = x
  · subst e; simp
  · by_cases c : v ∈ l
    · rw [decide_eq_true c, decide_eq_true (by simp [c]), Bool.or_true]
    · rw [decide_eq_false c, decide_eq_false (by simp [c, e]), decide_eq_false e]; rfl
theorem put_at (f : Nat → Bool) (a b : Nat) : put f a true b = if b = a then true else f b := rfl
theorem inS_eq {n : Nat} {v : Int} : ∀ {l : List Int}, inS n l v = (decide (inV v n) && memS l v) := by
  have key : ∀ (l : List Int) (f : Nat → Bool), hasV (putL n l f) n v = (decide (inV v n) && (memS l v || f v.toNat)) := by
    intro l
    induction l with
    | nil => intro f; show (decide (inV v n) && f v.toNat) = _; rw [show memS [] v = false from decide_eq_false (by simp), Bool.false_or]
    | cons x l ih =>
      intro f
      show hasV (putL n l (putV f n x true)) n v = _
      rw [ih, memS_cons]
      by_cases c : inV v n
      · rw [decide_eq_true c]
        simp only [Bool.true_and, putV]
        by_cases e : v = x
        · subst e
          rw [if_pos c, put_at, if_pos rfl, decide_eq_true rfl, Bool.true_or, Bool.or_true, Bool.true_or]
        · rw [decide_eq_false e, Bool.false_or]
          by_cases c2 : inV x n
          · rw [if_pos c2, put_at, if_neg (by omega)]
          · rw [if_neg c2]
      · rw [decide_eq_false c, Bool.false_and, Bool.false_and]
  intro l
  rw [inS, setF, key, Bool.or_false]
section
variable {h0 : Base} {R : Rws} {g n : Nat} {q : Option Addr} {k c : Nat} {l : List Int} {L : List Ed}
theorem SWeight_of {h : Heap} {K : Int → Int → Heap → Prop} (nh : NetH h g n L) (hl : l.length = k) (hb : k < 2 ^ 40) (vl : valsAt h q (l.map (Value.int .i64))) (hk : ∀ h', Ext h h' → K (wgt n l L).1 (wgt n l L).2 h') : side_Weight (some ⟨g, 0, none⟩) q k c h K := by
  intro w hw
  subst hw
  refine ⟨enters_of Tryz.func58 (by kernel_rfl) rfl _ _, ?_⟩
  have HC : Calls Tryz.prog 58 #[.pointer (some ⟨g, 0, none⟩), .slice q k c] w fun e w' => e = .returned (.tuple #[.int .i64 (wgt n l L).1, .int .i64 (wgt n l L).2]) ∧ Below w.heap.size w w' := by
    unfold wgt
    by_cases e : chkS n l = 0
    · rw [if_pos e]; exact callsIn_wide.1 (weight_ok nh hl hb vl e)
    · rw [if_neg e]; exact callsIn_wide.1 (weight_err (n := n) (fun Q hQ => NN_of nh hQ) hl hb vl e)
  refine HC.mono ?_
  rintro e w' ⟨rfl, hB⟩
  exact ⟨_, rfl, ⟨hB.tape, hB.os, hB.output, fun d => d.elim⟩, hk _ ⟨hB.size, hB.block⟩⟩
theorem SWeight_nil {h : Heap} {K : Int → Int → Heap → Prop} (hl : l.length = k) (hb : k < 2 ^ 40) (vl : valsAt h q (l.map (Value.int .i64))) (hk : ∀ h', Ext h h' → K 0 (chkS 0 l) h') : side_Weight none q k c h K := by
  intro w hw
  subst hw
  refine ⟨enters_of Tryz.func58 (by kernel_rfl) rfl _ _, ?_⟩
  refine (callsIn_wide.1 (weight_err (n := 0) (p := none) (fun Q hQ => NN_nil hQ) hl hb vl (chkS_nil l))).mono ?_
  rintro e w' ⟨rfl, hB⟩
  exact ⟨_, rfl, ⟨hB.tape, hB.os, hB.output, fun d => d.elim⟩, hk _ ⟨hB.size, hB.block⟩⟩
theorem CloneI_of {h : Heap} {K : Option Addr → Nat → Nat → Heap → Prop} (hl : l.length = k) (hb : k < 2 ^ 40) (kl : Keeps h0 R q (l.map (Value.int .i64))) (s : St h0 h R)
    (hk : ∀ q' c' X h', Hp.Own q' c' (l.map (Value.int .i64)) X → St h0 h' (X ++ R) → K q' k c' h') : slices_Clone_Lint_int q k c h K := by
  unfold slices_Clone_Lint_int
  cases q with
  | none =>
    have : l = [] := by
      cases l with
      | nil => rfl
      | cons x r => obtain ⟨a, ha, _⟩ := kl.at0 s 0 (.int .i64 x) rfl; cases ha
    subst this
    have hk0 : k = 0 := by simpa using hl.symm
    subst hk0
    exact iteB_pos rfl (hk none 0 [] h Hp.Own.nil s)
  | some a =>
    refine iteB_neg rfl (St.new_ (cs := []) s fun b h1 s1 => ?_)
    have vw := kl.cons.at0 s1
    rw [Nat.mul_one]
    refine Hp.Own.pushAll (l := []) (X := [(b, [])]) (.inr ⟨b, [], rfl, rfl, rfl⟩) s1 rfl vw (by simp [hl]) rfl (fun x hx => by obtain ⟨i, _, rfl⟩ := List.mem_map.1 hx; rfl) (by simp; omega) fun q' c' X h2 o s2 => ?_
    rw [List.length_nil, Nat.zero_add]
    exact hk q' c' X h2 (by simpa using o) s2
/-- The one without the vertex 0. -/
def nrmL (n : Nat) (l : List Int) : List Int := if (0 : Int) ∈ l then othT n l else l
theorem rise_split {n : Int} : ∀ {l : List Int} {p : Int}, riseS n p l = true → ∀ v, (∀ x ∈ l, v ≤ x) → v ∈ l → ∃ r, l = v :: r
  | x :: l, p, h, v, hge, hv => by
    simp only [riseS, Bool.and_eq_true, decide_eq_true_eq] at h
    rcases List.mem_cons.1 hv with rfl | hv
    · exact ⟨l, rfl⟩
    · have h1 := (riseS_mem h.2.2 v hv).1
      have h2 := hge x (by simp)
      omega
theorem riseS_tail {n p x : Int} {l : List Int} (h : riseS n p (x :: l) = true) : riseS n x l = true := by
  simp only [riseS, Bool.and_eq_true, decide_eq_true_eq] at h; exact h.2.2
theorem SRight_of {h : Heap} {w : Int} {K : Bool → Heap → Prop} (nh : NetH h g n L) (hl : l.length = k) (hb : k < 2 ^ 40) (vl : valsAt h q (l.map (Value.int .i64))) (hk : ∀ h', Ext h h' → K (decide ((wgt n l L).2 = 0) && ((wgt n l L).1 == w)) h') : side_Right (some ⟨g, 0, none⟩) w q k c h K := by
  unfold side_Right
  refine (St.refl h).new_ fun b h1 s1 => ?_
  refine ⟨q, k, c, by rw [show (⟨b, 0, none⟩ : Addr).add 1 = ⟨b, 1, none⟩ from rfl, s1.rd0]; rfl, callP2.self (SWeight_of (nh.ext s1.ext) hl hb (vl.ext s1.ext) fun h2 e2 => ?_)⟩
  have hb0 : cell h2 ⟨b, 0, none⟩ = some (.int .i64 w) := e2.cell' (by rw [s1.rd0]; rfl)
  have H := hk h2 (s1.ext.trans e2)
  refine iteB_intro (fun e => ⟨w, hb0, ?_⟩) fun e => ?_
  · rw [decide_eq_true (by simpa using e), Bool.true_and] at H; exact H
  · rw [decide_eq_false (by simpa using e), Bool.false_and] at H; exact H
theorem SRight_nil {h : Heap} {w : Int} {K : Bool → Heap → Prop} (hl : l.length = k) (hb : k < 2 ^ 40) (vl : valsAt h q (l.map (Value.int .i64))) (hk : ∀ h', Ext h h' → K false h') : side_Right none w q k c h K := by
  unfold side_Right
  refine (St.refl h).new_ fun b h1 s1 => ?_
  refine ⟨q, k, c, by rw [show (⟨b, 0, none⟩ : Addr).add 1 = ⟨b, 1, none⟩ from rfl, s1.rd0]; rfl, callP2.self (SWeight_nil hl hb (vl.ext s1.ext) fun h2 e2 => ?_)⟩
  exact iteB_neg (by simpa using chkS_nil l) (hk h2 (s1.ext.trans e2))
theorem SCut_of {h : Heap} {K : Int → Option Addr → Nat → Nat → Int → Heap → Prop} (nh : ∀ h', St h0 h' R → NetH h' g n L) (hl : l.length = k) (hb : k < 2 ^ 40) (kl : Keeps h0 R q (l.map (Value.int .i64))) (s : St h0 h R)
    (hk0 : chkS n l ≠ 0 → ∀ h', St h0 h' R → K 0 none 0 0 (chkS n l) h')
    (hk : chkS n l = 0 → ∀ q' c' X h', Hp.Own q' c' (l.map (Value.int .i64)) X → St h0 h' (X ++ R) → K (wgt n l L).1 q' k c' 0 h') : side_Cut (some ⟨g, 0, none⟩) q k c h K := by
  unfold side_Cut
  refine s.new_ fun b h1 s1 => ?_
  refine callP2.self (SWeight_of (n := n) (L := L) (nh h1 s1.tail) hl hb (kl.cons.at0 s1) fun h2 e2 => ?_)
  · have s2 := s1.ofExt e2
    by_cases e : chkS n l = 0
    · have ew : (wgt n l L).2 = 0 := by unfold wgt; rw [if_pos e]
      rw [ew]
      refine iteB_neg rfl (callP3.self (CloneI_of hl hb kl.cons s2 fun q3 c3 X3 h3 o3 s3 => ?_))
      have s4 : St h0 h3 ((b, [.int .i64 0, .slice none 0 0]) :: (X3 ++ R)) := (St.re s3 (by intro a; simp only [cntR_append, cntR_cons, cntR_nil, List.cons_append, List.nil_append, List.set_cons_zero, List.set_cons_succ]; omega))
      refine s4.st0 (by simp) fun h4 s5 => ?_
      rw [add_mk]
      refine s5.st0 (by simp) fun h5 s6 => ?_
      simp only [List.set_cons_zero, List.set_cons_succ, Nat.zero_add] at s6
      try simp -zeta (disch := omega) only [chkP_some, iteB_true, iteB_false, add_mk, Nat.zero_add, Nat.add_zero, Nat.mul_one, Nat.reduceAdd, Int.toNat_natCast, ex_int, ex_slice, ex_ptr, ex_bool, ex_str, ex_flt, ex_any, bnd_in, List.getElem?_cons_zero, List.getElem?_cons_succ, List.set_cons_zero, List.set_cons_succ, List.cons_append, List.nil_append, bne_self_eq_false, beq_self_eq_true, Bool.not_true, Bool.not_false, Option.isNone_some, Option.isNone_none, eq_self, true_and, and_true, and_self, s6.rd0]
      exact hk e q3 c3 X3 h5 o3 s6.tail
    · have ew : (wgt n l L).2 = chkS n l := by unfold wgt; rw [if_neg e]
      rw [ew]
      refine iteB_pos (by simpa using e) (s2.st0 (by simp) fun h4 s5 => ?_)
      rw [add_mk]
      refine s5.st0 (by simp) fun h5 s6 => ?_
      simp only [List.set_cons_zero, List.set_cons_succ, Nat.zero_add] at s6
      try simp -zeta (disch := omega) only [chkP_some, iteB_true, iteB_false, add_mk, Nat.zero_add, Nat.add_zero, Nat.mul_one, Nat.reduceAdd, Int.toNat_natCast, ex_int, ex_slice, ex_ptr, ex_bool, ex_str, ex_flt, ex_any, bnd_in, List.getElem?_cons_zero, List.getElem?_cons_succ, List.set_cons_zero, List.set_cons_succ, List.cons_append, List.nil_append, bne_self_eq_false, beq_self_eq_true, Bool.not_true, Bool.not_false, Option.isNone_some, Option.isNone_none, eq_self, true_and, and_true, and_self, s6.rd0]
      exact hk0 e h5 s6.tail
end
end Go.Proofs.YtbhndlpjfncliaaGreat
