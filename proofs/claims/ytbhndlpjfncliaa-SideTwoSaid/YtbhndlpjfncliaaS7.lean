/-
  Sides: awake, and the law of what a side parts.
-/
import Derived.Test.YtbhndlpjfncliaaS6
import Derived.Test.YtbhndlpjfncliaaRd
namespace Go.Proofs.Ytbhndlpjfncliaa
set_option linter.unusedVariables false
set_option linter.unusedSimpArgs false
set_option linter.unnecessarySimpa false
open Go Go.Hp Go.RowKit
attribute [local irreducible] Go.Hp.iteB Go.Hp.stC Go.Hp.newP

section
variable {h : Heap} {p1 p2 : Option Addr} {c1 c2 n n1 n2 : Nat} {K0 : Bool → Heap → Prop} {K2 : Heap → Prop} {K : Bool → Heap → Prop}
theorem ints_l0 {l1 l2 : List Int} (v1 : valsAt h p1 (l1.map (Value.int .i64))) (v2 : valsAt h p2 (l2.map (Value.int .i64))) (h1 : l1.length = n) (h2 : l2.length = n) (hn : n < 9223372036854775808) (hk0 : l1 ≠ l2 → K0 false h) (hk2 : l1 = l2 → K2 h) :
    ∀ (d i : Nat), i + d = n → l1.take i = l2.take i → straitref09_Ints.l0 K0 K2 (d + 1) p1 n c1 p2 n c2 (i : Int) h
  | 0, i, hi, he => by
    unfold straitref09_Ints.l0 straitref09_Ints.b0
    refine iteB_neg (decide_eq_false (by omega)) (hk2 ?_)
    rwa [List.take_of_length_le (by omega), List.take_of_length_le (by omega)] at he
  | d + 1, i, hi, he => by
    unfold straitref09_Ints.l0 straitref09_Ints.b0
    obtain ⟨x, hx⟩ := get_lt (l := l1) (i := i) (by omega)
    obtain ⟨y, hy⟩ := get_lt (l := l2) (i := i) (by omega)
    refine iteB_pos (decide_eq_true (by omega)) ?_
    simp -zeta (disch := omega) only [chkP_some, iteB_true, iteB_false, add_mk, Nat.zero_add, Nat.add_zero, Nat.mul_one, Nat.reduceAdd, Int.toNat_natCast, ex_int, ex_slice, ex_ptr, ex_bool, ex_str, ex_flt, ex_any, bnd_in, List.getElem?_cons_zero, List.getElem?_cons_succ, List.set_cons_zero, List.set_cons_succ, List.cons_append, List.nil_append, bne_self_eq_false, beq_self_eq_true, Bool.not_true, Bool.not_false, Option.isNone_some, Option.isNone_none, eq_self, true_and, and_true, and_self, vals_int v1 (show (l1.map (Value.int .i64))[i]? = some (.int .i64 x) by simp [hx]), vals_int v2 (show (l2.map (Value.int .i64))[i]? = some (.int .i64 y) by simp [hy])]
    refine iteB_intro (fun c => hk0 ?_) (fun c => ?_)
    · rintro rfl; rw [hx] at hy; cases hy; simp at c
    · have c : x = y := by simpa using c
      rw [wrap64 (by omega) (by omega)]
      exact ints_l0 v1 v2 h1 h2 hn hk0 hk2 d (i + 1) (by omega) (by rw [take_snoc hx, take_snoc hy, he, c])
theorem Ints_of {l1 l2 : List Int} (v1 : valsAt h p1 (l1.map (Value.int .i64))) (v2 : valsAt h p2 (l2.map (Value.int .i64))) (h1 : n1 = l1.length) (h2 : n2 = l2.length) (hn : n1 < 9223372036854775808) (hk : K (decide (l1 = l2)) h) : straitref09_Ints p1 n1 c1 p2 n2 c2 h K := by
  unfold straitref09_Ints
  subst h1 h2
  by_cases e : l1.length = l2.length
  · refine iteB_neg (by simp; omega) ⟨l1.length + 1, ?_⟩
    rw [← e]
    exact ints_l0 v1 v2 rfl e.symm hn (fun hne => by rw [decide_eq_false hne] at hk; exact hk) (fun he => by rw [decide_eq_true he] at hk; exact hk) l1.length 0 (by omega) rfl
  · refine iteB_pos (by simp; omega) ?_
    rw [decide_eq_false (fun h => e (by rw [h]))] at hk; exact hk
end
def lA : List Ed := [(0, 1, 2), (1, 2, 3)]
theorem newE_A : newE 3 lA = (0, 0) := by decide +kernel
theorem netL_A : netL lA = lA := by decide +kernel
theorem wgt_A1 : wgt 3 [1] lA = (5, 0) := by decide +kernel
theorem wgt_A0 : wgt 3 [0] lA = (2, 0) := by decide +kernel
theorem awake_of {h : Heap} {K : Bool → Heap → Prop} (hk : ∀ h', Ext h h' → K true h') : straitlaw21_awake h K := by
  unfold straitlaw21_awake
  refine St.new_ (cs := eV lA) (St.refl h) fun b1 h1 s1 => ?_
  refine callP3.self (New_of (nI := 3) (l := lA) rfl (by omega) (Keeps.row (b := b1) (by simp)) s1 (fun no => absurd (by rw [newE_A]) no) fun _ n g X h2 en nk s2 => ?_)
  have en : n = 3 := by omega
  subst en
  rw [netL_A] at nk
  have nh : NetH h2 g 3 lA := nk.at s2 (fun x hx => by simp [hx])
  have e2 : Ext h h2 := s2.ext
  clear nk s2
  refine St.new_ (cs := [1].map (Value.int .i64)) (St.refl h2) fun b3 h3 s3 => ?_
  refine callP2.self (SWeight_of (l := [1]) (nh.ext s3.ext) rfl (by omega) ((Keeps.row (b := b3) (by simp)).at0 s3) fun h4 e4 => ?_)
  rw [wgt_A1]
  have s4 := s3.ofExt e4
  refine St.new_ (cs := [0, 2].map (Value.int .i64)) s4 fun b5 h5 s5 => ?_
  refine callP4.self (SNormal_of (n := 3) (l := [0, 2]) (by omega) rfl (by omega) (Nat.le_refl _) (Keeps.row (b := b5) (by simp)) s5 (fun no => absurd (by decide) no) fun _ q6 c6 X6 h6 o6 s6 => ?_)
  refine iteB_pos rfl (iteB_pos rfl (iteB_pos rfl (iteB_pos rfl ?_)))
  refine St.new_ (cs := [1].map (Value.int .i64)) s6 fun b7 h7 s7 => ?_
  have v6 : valsAt h7 q6 ((nrmL 3 [0, 2]).map (Value.int .i64)) := o6.keeps (h0 := (h2 : Base)) (R := X6) (fun x hx => hx) h7 _ s7 (fun x hx => by simp [hx])
  have v7 : valsAt h7 (some ⟨b7, 0, none⟩) (([1] : List Int).map (Value.int .i64)) := (Keeps.row (b := b7) (by simp)).at0 s7
  refine qcallP1.of true (fun Q hQ => Ints_of v6 v7 rfl rfl (by decide) (by rw [decide_eq_true (show nrmL 3 [0, 2] = [1] by decide)]; exact hQ)) (iteB_pos rfl ?_)
  refine St.new_ (cs := [0].map (Value.int .i64)) s7 fun b8 h8 s8 => ?_
  refine callP1.self (SRight_of (l := [0]) (nh.ext s8.ext) rfl (by omega) ((Keeps.row (b := b8) (by simp)).at0 s8) fun h9 e9 => ?_)
  rw [wgt_A0]
  refine iteB_pos rfl ?_
  have s9 := s8.ofExt e9
  refine St.new_ (cs := [1].map (Value.int .i64)) s9 fun bA hA sA => ?_
  refine callP1.self (SParts_of (l := [1]) rfl (by omega) (Keeps.row (b := bA) (by simp)) sA fun hB sB => ?_)
  rw [show partsS 3 [1] 1 2 = true by decide]
  exact hk hB (e2.trans sB.ext)
theorem partsS_comm (n : Int) (l : List Int) (u v : Int) : partsS n l u v = partsS n l v u := by
  unfold partsS
  cases decide (chkS n l = 0) <;> cases decide (0 ≤ u ∧ u < n) <;> cases decide (0 ≤ v ∧ v < n) <;> cases decide (u ∈ l) <;> cases decide (v ∈ l) <;> rfl
theorem Parts_of {h : Heap} {n x0 x1 : Int} {k c : Nat} {q : Option Addr} {l : List Int} {K : Bool → Heap → Prop} (hl : l.length = k) (vl : valsAt h q (l.map (Value.int .i64))) (hk : ∀ h', Ext h h' → K true h') : straitlaw21_SideParts n q k c x0 x1 h K := by
  unfold straitlaw21_SideParts
  refine (St.refl h).new_ fun b h1 s1 => ?_
  refine iteB_intro (fun _ => callP1.self (awake_of fun h' e => hk h' (s1.ext.trans e))) fun e => ?_
  have e := of_decide_eq_false e
  have b0 : ∀ h', Ext h1 h' → cell h' ⟨b, 0, none⟩ = some (.int .i64 x0) := fun h' e => e.cell' (by rw [s1.rd0]; rfl)
  have b1 : ∀ h', Ext h1 h' → cell h' ⟨b, 1, none⟩ = some (.int .i64 x1) := fun h' e => e.cell' (by rw [s1.rd0]; rfl)
  have r1 : Ext h1 h1 := (St.refl h1).ext
  have kl : Keeps (h1 : Base) [] q (l.map (Value.int .i64)) := Keeps.old (vl.ext s1.ext)
  refine ⟨by decide, _, b0 h1 r1, by decide, _, b1 h1 r1, by decide, by decide, _, b0 h1 r1, _, b1 h1 r1, ?_⟩
  refine callP1.self (SParts_of (h0 := (h1 : Base)) hl (by omega) kl (St.refl h1) fun h2 s2 => ?_)
  refine ⟨⟨_, b1 h2 s2.ext, rfl⟩, ⟨_, b0 h2 s2.ext, rfl⟩, qcallP1.of _ (fun Q hQ => RSParts_of hl (by omega) (kl.at0 s2) hQ) (iteB_pos (by simp) ?_)⟩
  refine ⟨by decide, _, b0 h2 s2.ext, by decide, _, b1 h2 s2.ext, by decide, by decide, _, b1 h2 s2.ext, _, b0 h2 s2.ext, ?_⟩
  refine callP1.self (SParts_of (h0 := (h1 : Base)) hl (by omega) kl s2 fun h3 s3 => ?_)
  refine ⟨⟨_, b0 h3 s3.ext, rfl⟩, ⟨_, b1 h3 s3.ext, rfl⟩, callP1.self (SParts_of (h0 := (h1 : Base)) hl (by omega) kl s3 fun h4 s4 => iteB_pos (by rw [partsS_comm n l x0 x1]; simp) ?_)⟩
  exact callP1.self (awake_of fun h' e => hk h' ((s1.ext.trans s4.ext).trans e))
end Go.Proofs.Ytbhndlpjfncliaa
