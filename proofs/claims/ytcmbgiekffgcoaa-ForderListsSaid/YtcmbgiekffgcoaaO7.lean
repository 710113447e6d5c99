/-
  Floats in order: the three laws.
-/
import Derived.Test.YtcmbgiekffgcoaaO6
namespace Go.Proofs.Ytcmbgiekffgcoaa
set_option linter.unusedVariables false
set_option linter.unusedSimpArgs false
open Go.Hp Go.RowKit
attribute [local irreducible] Go.Hp.iteB Go.Hp.stC Go.Hp.newP

theorem awake_of {h0 h : Heap} {R : Rws} {K : Bool → Heap → Prop} (s : St h0 h R) (hk : ∀ h', St h0 h' R → K true h') : straitlaw03_awake h K := by
  unfold straitlaw03_awake
  refine qcallP1.of 9223372036854775808 (fun R hR => by unfold fbit_Of; exact hR) ?_
  refine s.new_ (cs := flts [9223372036854775808, 0, 13830554455654793216]) fun b h1 s1 => ?_
  have hb : Bnd [9223372036854775808, 0, 13830554455654793216] := by intro x hx; simp at hx; omega
  have v : ∀ h2, St h0 h2 ((b, flts [9223372036854775808, 0, 13830554455654793216]) :: R) → valsAt h2 (some ⟨b, 0, none⟩) (flts [9223372036854775808, 0, 13830554455654793216]) := fun h2 s2 =>
    (Keeps.row (R := (b, flts [9223372036854775808, 0, 13830554455654793216]) :: R) (by simp)).at0 s2
  refine callP1.self (Least_of (v h1 s1) rfl (by decide) hb ?_)
  refine iteB_pos (by decide) (callP1.self (Most_of (v h1 s1) rfl (by decide) hb ?_))
  refine iteB_pos (by decide) ⟨by decide, 9223372036854775808, ?_, by decide, 0, ?_, ?_⟩
  · rw [add_mk, s1.rd0]; rfl
  · rw [add_mk, s1.rd0]; rfl
  refine qcallP1.of true (fun R hR => Less_of (by decide) (by decide) (by rw [show decide (pl 9223372036854775808 < pl 0) = true by decide]; exact hR)) ?_
  refine iteB_pos rfl (callP1.self (Count_of (R := (b, flts [9223372036854775808, 0, 13830554455654793216]) :: R) rfl (by decide) hb (Keeps.row (by simp)) s1 fun h2 s2 => ?_))
  have e : (runs ((sorted [9223372036854775808, 0, 13830554455654793216]).map pl) 3).length = 3 := (same_count (l := [9223372036854775808, 0, 13830554455654793216])).trans (by decide)
  rw [e]
  exact hk h2 s2.tail

theorem Tells_of {a b : Nat} {h : Heap} {K : Bool → Heap → Prop} (ha : a < 18446744073709551616) (hb : b < 18446744073709551616) (hk : ∀ h', Ext h h' → K true h') : straitlaw03_ForderTells (a : Int) (b : Int) h K := by
  unfold straitlaw03_ForderTells
  refine qcallP1.of a (fun R hR => FOf_of hR) (qcallP1.of b (fun R hR => FOf_of hR) ?_)
  refine qcallP1.of _ (fun R hR => Cmp_of ha hb hR) (qcallP1.of _ (fun R hR => RCmp_of ha hb hR) ?_)
  refine iteB_pos (by simp) (qcallP1.of _ (fun R hR => Less_of ha hb hR) ?_)
  refine iteB_pos (by simp [cmpI_lt]) (qcallP1.of _ (fun R hR => Cmp_of hb ha hR) ?_)
  have := cmpI_bd (pl a) (pl b)
  refine iteB_pos (by rw [wrap_id (by omega) (by omega), cmpI_neg (x := pl a)]; simp) ?_
  exact callP1.self (awake_of (St.refl h) fun h' s => hk h' s.ext)

section
variable {h0 : Heap} {n : Nat} {l : List Nat} {R : Rws}
theorem lists_l0 {K0 : Bool → Heap → Prop} {K2 : Heap → Prop} {q qf qg qw : Option Addr} {c cf cg cw : Nat} {h : Heap} (hn : l.length = n) (hn2 : n < 2 ^ 30) (hb : Bnd l) (v : valsAt h q (u64s l)) (vf : valsAt h qf (flts l)) (vg : valsAt h qg (flts (sorted l))) (vw : valsAt h qw (u64s (rsort l n)))
    (hk : K2 h) : ∀ (d i : Nat), i + d = n → straitlaw03_ForderLists.l0 K0 K2 (d + 1) q n c qf n cf qg n cg qw n cw (i : Int) h
  | 0, i, hd => by
    unfold straitlaw03_ForderLists.l0 straitlaw03_ForderLists.b0
    exact iteB_neg (decide_eq_false (by omega)) hk
  | d + 1, i, hd => by
    unfold straitlaw03_ForderLists.l0 straitlaw03_ForderLists.b0
    obtain ⟨x, hx⟩ := get_lt (l := l) (i := i) (by omega)
    obtain ⟨g, hg⟩ := get_lt (l := sorted l) (i := i) (by rw [sorted_len]; omega)
    have hw : (rsort l n)[i]? = some (bitsR g) := by rw [← hn, ← same_order hb]; simp [hg]
    refine iteB_pos (decide_eq_true (by omega)) (iteB_neg (by simp) ?_)
    simp -zeta (disch := omega) only [chkP_some, iteB_true, iteB_false, add_mk, Nat.zero_add, Nat.add_zero, Nat.mul_one, Nat.reduceAdd, Int.toNat_natCast, ex_int, ex_slice, ex_ptr, ex_bool, ex_str, ex_flt, ex_any, bnd_in, List.getElem?_cons_zero, List.getElem?_cons_succ, List.set_cons_zero, List.set_cons_succ, List.cons_append, List.nil_append, bne_self_eq_false, beq_self_eq_true, Bool.not_true, Bool.not_false, Option.isNone_some, Option.isNone_none, eq_self, true_and, and_true, and_self, flt_at vg hg]
    refine qcallP1.of _ (fun R hR => Bits_of hR) ?_
    simp -zeta (disch := omega) only [chkP_some, iteB_true, iteB_false, add_mk, Nat.zero_add, Nat.add_zero, Nat.mul_one, Nat.reduceAdd, Int.toNat_natCast, ex_int, ex_slice, ex_ptr, ex_bool, ex_str, ex_flt, ex_any, bnd_in, List.getElem?_cons_zero, List.getElem?_cons_succ, List.set_cons_zero, List.set_cons_succ, List.cons_append, List.nil_append, bne_self_eq_false, beq_self_eq_true, Bool.not_true, Bool.not_false, Option.isNone_some, Option.isNone_none, eq_self, true_and, and_true, and_self, u64_at vw hw]
    simp -zeta (disch := omega) only [chkP_some, iteB_true, iteB_false, add_mk, Nat.zero_add, Nat.add_zero, Nat.mul_one, Nat.reduceAdd, Int.toNat_natCast, ex_int, ex_slice, ex_ptr, ex_bool, ex_str, ex_flt, ex_any, bnd_in, List.getElem?_cons_zero, List.getElem?_cons_succ, List.set_cons_zero, List.set_cons_succ, List.cons_append, List.nil_append, bne_self_eq_false, beq_self_eq_true, Bool.not_true, Bool.not_false, Option.isNone_some, Option.isNone_none, eq_self, true_and, and_true, and_self, flt_at vf hx]
    refine qcallP1.of _ (fun R hR => Bits_of hR) ?_
    simp -zeta (disch := omega) only [chkP_some, iteB_true, iteB_false, add_mk, Nat.zero_add, Nat.add_zero, Nat.mul_one, Nat.reduceAdd, Int.toNat_natCast, ex_int, ex_slice, ex_ptr, ex_bool, ex_str, ex_flt, ex_any, bnd_in, List.getElem?_cons_zero, List.getElem?_cons_succ, List.set_cons_zero, List.set_cons_succ, List.cons_append, List.nil_append, bne_self_eq_false, beq_self_eq_true, Bool.not_true, Bool.not_false, Option.isNone_some, Option.isNone_none, eq_self, true_and, and_true, and_self, u64_at v hx]
    refine qcallP1.of _ (fun R hR => RBits_of (hb.at hx) hR) ?_
    simp -zeta (disch := omega) only [chkP_some, iteB_true, iteB_false, add_mk, Nat.zero_add, Nat.add_zero, Nat.mul_one, Nat.reduceAdd, Int.toNat_natCast, ex_int, ex_slice, ex_ptr, ex_bool, ex_str, ex_flt, ex_any, bnd_in, List.getElem?_cons_zero, List.getElem?_cons_succ, List.set_cons_zero, List.set_cons_succ, List.cons_append, List.nil_append, bne_self_eq_false, beq_self_eq_true, Bool.not_true, Bool.not_false, Option.isNone_some, Option.isNone_none, eq_self, true_and, and_true, and_self]
    rw [wrap_id (by omega) (by omega)]
    exact lists_l0 hn hn2 hb v vf vg vw hk d (i + 1) (by omega)
theorem Lists_of {q : Option Addr} {c : Nat} {h : Heap} {K : Bool → Heap → Prop} (hn : l.length = n) (hb : Bnd l) (v : valsAt h q (u64s l)) (hk : ∀ h', Ext h h' → K true h') : straitlaw03_ForderLists q n c h K := by
  unfold straitlaw03_ForderLists
  refine iteB_intro (fun e => callP1.self (awake_of (St.refl h) fun h' s => hk h' s.ext)) (fun e => ?_)
  have e : n ≤ 100 := by have : (n : Int) ≤ 100 := by simpa using e
                         omega
  have k : ∀ R, Keeps h R q (u64s l) := fun R => .old v
  refine callP3.self (floats_of (R := []) hn (by omega) (k _) (St.refl h) fun qf cf Xf h1 of s1 => ?_)
  have kf := of.keeps (h0 := h) (R := Xf) (fun x hx => hx)
  rw [List.append_nil] at s1
  refine callP3.self (Sort_of (R := Xf) hb hn (by omega) kf s1 fun qg cg Xg h2 og s2 => ?_)
  refine callP3.self (RSort_of (R := Xg ++ Xf) hn (by omega) hb (k _) s2 fun qw cw Xw h3 ow s3 => ?_)
  have vf3 : valsAt h3 qf (flts l) := kf _ _ s3 (fun y hy => by simp [hy])
  refine ⟨n + 1, lists_l0 hn (by omega) hb (v.ext s3.ext) vf3 (og.vals s3.flip) (ow.vals s3) ?_ n 0 (by omega)⟩
  refine iteB_pos (by simp) (callP1.self (Least_of vf3 hn (by omega) hb ?_))
  refine qcallP1.of _ (fun R hR => RLeast_of (v.ext s3.ext) hn (by omega) hb hR) ?_
  refine iteB_pos (by simp) (callP1.self (Most_of vf3 hn (by omega) hb ?_))
  refine qcallP1.of _ (fun R hR => RMost_of (v.ext s3.ext) hn (by omega) hb hR) ?_
  refine iteB_pos (by simp) (callP1.self (Count_of (R := Xf) hn (by omega) hb kf s3.drop.drop fun h4 s4 => ?_))
  refine qcallP1.of _ (fun R hR => RCount_of (v.ext s4.ext) hn (by omega) hb hR) ?_
  refine iteB_pos (by rw [← hn, same_count]; simp) ?_
  exact callP1.self (awake_of s4 fun h' s => hk h' s.ext)
end

section
variable {h0 : Heap}
theorem goes_l0 {K0 : Bool → Heap → Prop} {K2 : Heap → Prop} {q q2 : Option Addr} {c c2 : Nat} {h : Heap} {l : List Nat} (hl : l.length = 3) (hb : Bnd l) (v : valsAt h q (flts (sorted l))) (v2 : valsAt h q2 (flts (sorted l)))
    (hk : K2 h) : ∀ (d i : Nat), i + d = 3 → straitlaw03_ForderGoes.l0 K0 K2 (d + 1) q 3 c q2 3 c2 (i : Int) h
  | 0, i, hd => by
    unfold straitlaw03_ForderGoes.l0 straitlaw03_ForderGoes.b0
    exact iteB_neg (decide_eq_false (by omega)) hk
  | d + 1, i, hd => by
    unfold straitlaw03_ForderGoes.l0 straitlaw03_ForderGoes.b0
    have hsl := sorted_len l
    obtain ⟨g, hg⟩ := get_lt (l := sorted l) (i := i) (by omega)
    have ih := goes_l0 (K0 := K0) (c := c) (c2 := c2) hl hb v v2 hk d (i + 1) (by omega)
    refine iteB_pos (decide_eq_true (by omega)) (iteB_neg (by decide) (iteB_neg (by decide) ?_))
    simp -zeta (disch := omega) only [chkP_some, iteB_true, iteB_false, add_mk, Nat.zero_add, Nat.add_zero, Nat.mul_one, Nat.reduceAdd, Int.toNat_natCast, ex_int, ex_slice, ex_ptr, ex_bool, ex_str, ex_flt, ex_any, bnd_in, List.getElem?_cons_zero, List.getElem?_cons_succ, List.set_cons_zero, List.set_cons_succ, List.cons_append, List.nil_append, bne_self_eq_false, beq_self_eq_true, Bool.not_true, Bool.not_false, Option.isNone_some, Option.isNone_none, eq_self, true_and, and_true, and_self, flt_at v hg]
    refine qcallP1.of _ (fun R hR => Bits_of hR) ?_
    simp -zeta (disch := omega) only [chkP_some, iteB_true, iteB_false, add_mk, Nat.zero_add, Nat.add_zero, Nat.mul_one, Nat.reduceAdd, Int.toNat_natCast, ex_int, ex_slice, ex_ptr, ex_bool, ex_str, ex_flt, ex_any, bnd_in, List.getElem?_cons_zero, List.getElem?_cons_succ, List.set_cons_zero, List.set_cons_succ, List.cons_append, List.nil_append, bne_self_eq_false, beq_self_eq_true, Bool.not_true, Bool.not_false, Option.isNone_some, Option.isNone_none, eq_self, true_and, and_true, and_self, flt_at v2 hg]
    refine qcallP1.of _ (fun R hR => Bits_of hR) ?_
    refine iteB_neg (by simp) ?_
    refine iteB_intro (fun e => ?_) (fun e => by rw [wrap_id (by omega) (by omega)]; exact ih)
    have e : 0 < i := by have : (0 : Int) < i := by simpa using e
                         omega
    obtain ⟨f, hf⟩ := get_lt (l := sorted l) (i := i - 1) (by omega)
    have ew : IntKind.i64.wrap ((i : Int) - 1) = ((i - 1 : Nat) : Int) := by rw [wrap_id (by omega) (by omega)]; omega
    rw [ew]
    simp -zeta (disch := omega) only [chkP_some, iteB_true, iteB_false, add_mk, Nat.zero_add, Nat.add_zero, Nat.mul_one, Nat.reduceAdd, Int.toNat_natCast, ex_int, ex_slice, ex_ptr, ex_bool, ex_str, ex_flt, ex_any, bnd_in, List.getElem?_cons_zero, List.getElem?_cons_succ, List.set_cons_zero, List.set_cons_succ, List.cons_append, List.nil_append, bne_self_eq_false, beq_self_eq_true, Bool.not_true, Bool.not_false, Option.isNone_some, Option.isNone_none, eq_self, true_and, and_true, and_self, flt_at v hg, flt_at v hf]
    refine qcallP1.of _ (fun R hR => Less_of ((sorted_bnd hb).at hg) ((sorted_bnd hb).at hf) hR) ?_
    have hup : pl f ≤ pl g := by
      have := List.pairwise_iff_getElem.1 (sorted_up l) (i - 1) i (by omega) (by omega) (by omega)
      rwa [(List.getElem?_eq_some_iff.1 hf).2, (List.getElem?_eq_some_iff.1 hg).2] at this
    refine iteB_neg (decide_eq_false (by omega)) ?_
    rw [wrap_id (by omega) (by omega)]; exact ih
theorem low_first {l : List Nat} (hl : l.length = 3) : bestI (lowAt (sorted l)) 3 = 0 := by
  have hup : ∀ i j, i < j → j < 3 → plAt (sorted l) i ≤ plAt (sorted l) j := fun i j hij hj => by
    have hsl := sorted_len l
    have := List.pairwise_iff_getElem.1 (sorted_up l) i j (by omega) (by omega) hij
    unfold plAt
    rw [getD_of (List.getElem?_eq_getElem (show i < (sorted l).length by omega)), getD_of (List.getElem?_eq_getElem (show j < (sorted l).length by omega))]; exact this
  have h1 := hup 0 1 (by omega) (by omega)
  have h2 := hup 0 2 (by omega) (by omega)
  have e1 : lowAt (sorted l) 1 0 = false := decide_eq_false (by omega)
  have e2 : lowAt (sorted l) 2 0 = false := decide_eq_false (by omega)
  simp [bestI, e1, e2]
theorem goes_tail {a b c : Nat} {h : Heap} {K : Bool → Heap → Prop} (hb : Bnd [a, b, c]) (hk : ∀ h', Ext h h' → K true h') :
    newP h (.cells #[(.float .f64 a), (.float .f64 b), (.float .f64 c)] 23) fun a20 h21 => callP3 (forder_Sort (some a20) 3 3 h21) fun x22 x22l x22c h23 => (callP3 (forder_Sort x22 x22l x22c h23) fun x24 x24l x24c h25 => ((∃ m29, straitlaw03_ForderGoes.l0 (fun z26 h27 => K z26 h27) (fun h28 => ((callP1 (forder_Least x22 x22l x22c h28) fun x30 h31 => iteB (x30 == (0 : Int)) (callP1 (straitlaw03_awake h31) fun x32 h33 => K x32 h33) (K false h31)))) m29 x22 x22l x22c x24 x24l x24c 0 h25))) := by
  refine (St.refl h).new_ (cs := flts [a, b, c]) fun p h1 s1 => ?_
  refine callP3.self (Sort_of (l := [a, b, c]) (R := [(p, flts [a, b, c])]) hb rfl (by decide) (Keeps.row (by simp)) s1 fun q cq X h2 o s2 => ?_)
  have k := o.keeps (h0 := h) (R := X ++ [(p, flts [a, b, c])]) (fun x hx => by simp [hx])
  refine callP3.self (Sort_of (l := sorted [a, b, c]) (R := X ++ [(p, flts [a, b, c])]) (sorted_bnd hb) (sorted_len _) (by decide) k s2 fun q2 c2 X2 h3 o2 s3 => ?_)
  rw [sorted_sorted hb] at o2
  have v := k.at1 s3
  refine ⟨3 + 1, goes_l0 rfl hb v (o2.vals s3) ?_ 3 0 (by omega)⟩
  refine callP1.self (Least_of v (sorted_len _) (by decide) (sorted_bnd hb) ?_)
  rw [low_first rfl]
  exact iteB_pos rfl (callP1.self (awake_of s3 fun h' s => hk h' s.ext))
theorem Goes_of {a b c : Nat} {h : Heap} {K : Bool → Heap → Prop} (ha : a < 18446744073709551616) (hb : b < 18446744073709551616) (hc : c < 18446744073709551616) (hk : ∀ h', Ext h h' → K true h') : straitlaw03_ForderGoes (a : Int) (b : Int) (c : Int) h K := by
  unfold straitlaw03_ForderGoes
  refine qcallP1.of a (fun R hR => FOf_of hR) (qcallP1.of b (fun R hR => FOf_of hR) (qcallP1.of c (fun R hR => FOf_of hR) ?_))
  have T := goes_tail (a := a) (b := b) (c := c) (K := K) (by intro x hx; simp at hx; omega) hk
  intro j
  have J : j := T
  clear_value j
  clear T
  have part : qcallP1 h (forder_Cmp a b h) fun x10 => iteB (x10 == (0 : Int)) (qcallP1 h (forder_Cmp b c h) fun x11 => qcallP1 h (forder_Cmp a c h) fun x12 => (iteB (x11 != x12) (K false h) j)) j := by
    refine qcallP1.of _ (fun R hR => Cmp_of ha hb hR) (iteB_intro (fun e => ?_) (fun _ => J))
    refine qcallP1.of _ (fun R hR => Cmp_of hb hc hR) (qcallP1.of _ (fun R hR => Cmp_of ha hc hR) ?_)
    have e : pl a = pl b := cmpI_eq.1 (by simpa using e)
    refine iteB_neg ?_ J
    rw [e]; simp
  refine qcallP1.of _ (fun R hR => Less_of ha hb hR) (iteB_intro (fun e1 => ?_) (fun _ => part))
  refine qcallP1.of _ (fun R hR => Less_of hb hc hR) (iteB_intro (fun e2 => ?_) (fun _ => part))
  refine qcallP1.of _ (fun R hR => Less_of ha hc hR) (iteB_neg ?_ part)
  have e1 : pl a < pl b := by simpa using e1
  have e2 : pl b < pl c := by simpa using e2
  simp; omega
end
end Go.Proofs.Ytcmbgiekffgcoaa
