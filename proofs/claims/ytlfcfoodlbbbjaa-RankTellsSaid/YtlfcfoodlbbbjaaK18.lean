/-
  Ranks: the laws.
-/
import Derived.Test.YtlfcfoodlbbbjaaK16
import Derived.Test.YtlfcfoodlbbbjaaK17
namespace Go.Proofs.Ytlfcfoodlbbbjaa
set_option linter.unusedVariables false
set_option linter.unusedSimpArgs false
set_option linter.unnecessarySimpa false
open Go.Hp Go.RowKit
attribute [local irreducible] Go.Hp.iteB Go.Hp.stC Go.Hp.newP

section
variable {h0 : Heap} {R : Rws}
theorem rowV {h : Heap} {b : Nat} {L : Rws} {l : List Int} (s : St h0 h L) (hm : (b, l.map (Value.int .i64)) ∈ L) : valsAt h (some ⟨b, 0, none⟩) (l.map (Value.int .i64)) := valsAt.row (s.rows _ hm) (fun i v hi => by rw [Nat.zero_add]; exact hi)
theorem awake_of {h : Heap} {K : Bool → Heap → Prop} (s : St h0 h R) (hk : ∀ h', St h0 h' R → K true h') : straitlaw14_awake h K := by
  unfold straitlaw14_awake
  have e1 : sortI [5, 2, 5] = [2, 5, 5] := sortI_one (by decide) (by decide)
  have e2 : byI [5, 2, 5] = [1, 0, 2] := by
    have : byL [5, 2, 5] = [1, 0, 2] := srt_one (by decide) (by simp [leK_iff, keyI])
    rw [byI, this]; rfl
  refine s.new_ fun b1 h1 s1 => ?_
  have k1 : Keeps h0 ((b1, [Value.int .i64 5, .int .i64 2, .int .i64 5]) :: R) (some ⟨b1, 0, none⟩) (([5, 2, 5] : List Int).map (Value.int .i64)) := Keeps.row (by simp)
  refine callP2.self (Median_of (n := 3) rfl (by decide) k1 s1 fun h2 s2 => ?_)
  rw [e1]
  refine s2.new_ fun b2 h3 s3 => ?_
  refine callP4.self (Inverse_of (n := 2) (p := [0, 0]) rfl (by decide) (Keeps.row (by simp)) s3 (fun hno h4 s4 => ?_) (fun hyes => absurd hyes.2 (by decide)))
  refine callP3.self (By_of (n := 3) rfl (by decide) k1.cons s4 fun b5 h5 s5 => ?_)
  refine s5.new_ fun b6 h6 s6 => ?_
  refine qcallP1.of true (fun Q hQ => Ints_of (l1 := [1, 0, 2]) (l2 := [1, 0, 2]) ?_ ?_ rfl rfl (by decide) (by rw [decide_eq_true rfl]; exact hQ)) ?_
  · rw [byI_row, e2] at s6
    exact rowV s6 (by simp)
  · exact rowV s6 (by simp)
  refine iteB_pos rfl (iteB_pos rfl (iteB_pos rfl (iteB_pos rfl ?_)))
  refine callP3.self (Distinct_of (n := 3) rfl (by decide) k1.cons.cons.cons s6 fun q co X h7 o s7 => ?_)
  rw [e1]
  exact hk h7 ((St.re s7 (by intro a; simp only [cntR_append, cntR_cons, cntR_nil, List.cons_append, List.nil_append, List.set_cons_zero, List.set_cons_succ]; omega)))

theorem Tells_of {h : Heap} {n c : Nat} {q : Option Addr} {l : List Int} {K : Bool → Heap → Prop} (hl : l.length = n) (vq : valsAt h q (l.map (Value.int .i64))) (hk : ∀ h', Ext h h' → K true h') : straitlaw14_RankTells q n c h K := by
  unfold straitlaw14_RankTells
  refine iteB_intro (fun e => callP1.self (awake_of (St.refl h) fun h' s => hk h' s.ext)) (fun e => ?_)
  have e := of_decide_eq_false e
  have kq : Keeps h [] q (l.map (Value.int .i64)) := Keeps.old vq
  refine callP2.self (Median_of hl (by omega) kq (St.refl h) fun h1 s1 => ?_)
  refine callP3.self (RBy_of hl (by omega) kq s1 fun q2 c2 X2 h2 o2 s2 => ?_)
  intro j
  have J : ∀ y, y = (sortI l).getD ((n - 1) / 2) 0 → j y := by
    intro y hy
    simp -zeta only [j]
    refine callP3.self (By_of hl (by omega) kq.app s2 fun b3 h3 s3 => ?_)
    rw [byI_row] at s3 o2
    refine qcallP1.of true (fun Q hQ => Ints_of (l1 := byI l) (l2 := byI l) ?_ ?_ (by rw [byI_len, hl]) (by rw [byI_len, hl]) (by omega) (by rw [decide_eq_true rfl]; exact hQ)) ?_
    · exact rowV s3 (by simp)
    · exact o2.vals (R := (b3, (byI l).map (Value.int .i64)) :: []) ((St.re s3 (by intro a; simp only [cntR_append, cntR_cons, cntR_nil, List.cons_append, List.nil_append, List.set_cons_zero, List.set_cons_succ]; omega)))
    refine iteB_pos rfl (callP3.self (Of_of (R := (b3, (byI l).map (Value.int .i64)) :: (X2 ++ [])) hl (by omega) kq.app.cons s3 fun b4 h4 s4 => ?_))
    refine callP3.self (ROf_of (R := (b4, ints n (invF (byI l) n)) :: (b3, (byI l).map (Value.int .i64)) :: (X2 ++ [])) hl (by omega) kq.app.cons.cons s4 fun b5 h5 s5 => ?_)
    rw [invL_row (by rw [byI_len, hl])] at s5
    refine qcallP1.of true (fun Q hQ => Ints_of (l1 := invL (byI l)) (l2 := invL (byI l)) ?_ ?_ (by rw [invL_len, byI_len, hl]) (by rw [invL_len, byI_len, hl]) (by omega) (by rw [decide_eq_true rfl]; exact hQ)) ?_
    · exact rowV s5 (by simp)
    · exact rowV s5 (by simp)
    refine iteB_pos rfl (iteB_pos (by rw [hy]; simp) (iteB_pos (by simp) ?_))
    have s5 : St h h5 [] := (St.re s5 (by intro a; simp only [cntR_append, cntR_cons, cntR_nil, List.cons_append, List.nil_append, List.set_cons_zero, List.set_cons_succ]; omega))
    refine callP3.self (Distinct_of hl (by omega) kq s5 fun q6 c6 X6 h6 o6 s6 => ?_)
    refine callP3.self (RDistinct_of (R := X6 ++ []) hl (by omega) kq.app s6 fun q7 c7 X7 h7 o7 s7 => ?_)
    have cl := comp_le (sortI l) n
    refine qcallP1.of true (fun Q hQ => Same_of (l1 := comp (sortI l) n) (l2 := comp (sortI l) n) (o6.vals (R := X7 ++ []) ((St.re s7 (by intro a; simp only [cntR_append, cntR_cons, cntR_nil, List.cons_append, List.nil_append, List.set_cons_zero, List.set_cons_succ]; omega)))) (o7.vals s7) rfl rfl (by omega) (by rw [decide_eq_true rfl]; exact hQ)) ?_
    exact iteB_pos rfl (callP1.self (awake_of s7 fun h8 s8 => hk h8 s8.ext))
  clear_value j
  refine iteB_intro (fun e2 => ?_) (fun e2 => ?_)
  · have e2 : 0 < n := by have := of_decide_eq_true e2; omega
    refine ⟨by decide, ?_⟩
    rw [wrap64 (x := (n : Int) - 1) (by omega) (by omega), show ((n : Int) - 1).tdiv 2 = (((n - 1) / 2 : Nat) : Int) by rw [show (n : Int) - 1 = ((n - 1 : Nat) : Int) by omega]; rfl, wrap64 (by omega) (by omega), bindV_eq]
    have bl := byL_len l
    obtain ⟨v, hv⟩ := get_lt (l := byL l) (i := (n - 1) / 2) (by omega)
    have hvl : v < l.length := (byL_mem l v).1 (List.mem_of_getElem? hv)
    have gv : (natV (byL l))[(n - 1) / 2]? = some (.int .i64 (v : Int)) := by simp [natV, hv]
    have gk : (l.map (Value.int .i64))[v]? = some (.int .i64 (keyI l v)) := by simp [keyI, List.getD, hvl]
    have vp := o2.vals s2
    have vk := kq.at1 (X := X2) s2
    simp -zeta (disch := omega) only [chkP_some, iteB_true, iteB_false, add_mk, Nat.zero_add, Nat.add_zero, Nat.mul_one, Nat.reduceAdd, Int.toNat_natCast, ex_int, ex_slice, ex_ptr, ex_bool, ex_str, ex_flt, ex_any, bnd_in, List.getElem?_cons_zero, List.getElem?_cons_succ, List.set_cons_zero, List.set_cons_succ, List.cons_append, List.nil_append, bne_self_eq_false, beq_self_eq_true, Bool.not_true, Bool.not_false, Option.isNone_some, Option.isNone_none, eq_self, true_and, and_true, and_self, vals_int vp gv, vals_int vk gk]
    exact J _ (by simp [List.getD, sortI_at hv])
  · have e2 : n = 0 := by have := of_decide_eq_false e2; omega
    refine J _ ?_
    obtain rfl : l = [] := List.length_eq_zero_iff.1 (by omega)
    simp [sortI]

open Classical in
theorem Turns_of {h : Heap} {n c m cm : Nat} {q qm : Option Addr} {p l : List Int} {K : Bool → Heap → Prop} (hl : p.length = n) (hm : l.length = m) (vq : valsAt h q (p.map (Value.int .i64))) (vm : valsAt h qm (l.map (Value.int .i64))) (hk : ∀ h', Ext h h' → K true h') : straitlaw14_RankTurns q n c qm m cm h K := by
  unfold straitlaw14_RankTurns
  intro j
  have J : n ≤ 200 → m ≤ 200 → j := by
    intro hn hmn
    simp -zeta only [j]
    have kq : Keeps h [] q (p.map (Value.int .i64)) := Keeps.old vq
    have km : Keeps h [] qm (l.map (Value.int .i64)) := Keeps.old vm
    have L : ∀ {h1 : Heap} {R : Rws}, St h h1 R → callP1 (straitlaw14_awake h1) fun x h' => K x h' := fun s => callP1.self (awake_of s fun h' s' => hk h' s'.ext)
    refine callP4.self (Inverse_of hl (by omega) kq (St.refl h) (fun hno h1 s1 => ?_) (fun ho b1 h1 s1 => ?_))
    · refine callP4.self (Apply_of hl hm (by omega) kq km s1 (fun _ h2 s2 => ?_) (fun ho => absurd ho hno))
      refine qcallP1.of false (fun Q hQ => ROrder_of hl (by omega) (vq.ext s2.ext) (by rw [decide_eq_false hno]; exact hQ)) ?_
      intro j18
      have J18 : j18 false := by
        simp -zeta only [j18]
        exact iteB_neg rfl (iteB_pos rfl (iteB_pos rfl (L s2)))
      clear_value j18
      exact iteB_neg rfl (iteB_neg rfl (iteB_neg rfl (iteB_pos rfl (iteB_neg (by simp) (iteB_pos rfl J18)))))
    · rw [invL_row hl] at s1
      refine callP4.self (Apply_of hl hm (by omega) (kq.sub (by simp)) (km.sub (by simp)) s1 (fun hno h2 s2 => ?_) (fun _ hmn2 b2 h2 s2 => ?_))
      · refine qcallP1.of true (fun Q hQ => ROrder_of hl (by omega) (vq.ext s2.ext) (by rw [decide_eq_true ho]; exact hQ)) ?_
        intro j18
        have J18 : j18 false := by
          simp -zeta only [j18]
          refine iteB_neg rfl (iteB_neg rfl ?_)
          refine callP3.self (RInverse_of ho hl (by omega) (kq.sub (by simp)) s2 fun b3 h3 s3 => ?_)
          rw [invL_row hl] at s3
          refine qcallP1.of true (fun Q hQ => Ints_of (l1 := invL p) (l2 := invL p) (rowV s3 (by simp)) (rowV s3 (by simp)) (by rw [invL_len, hl]) (by rw [invL_len, hl]) (by omega) (by rw [decide_eq_true rfl]; exact hQ)) ?_
          exact iteB_pos rfl (iteB_pos rfl (L s3))
        clear_value j18
        have hne : ¬ m = n := fun h => hno ⟨ho, h⟩
        exact iteB_neg rfl (iteB_pos rfl (iteB_neg (by simp; omega) (iteB_neg rfl (iteB_pos rfl J18))))
      · rw [appF_row hl] at s2
        refine qcallP1.of true (fun Q hQ => ROrder_of hl (by omega) (vq.ext s2.ext) (by rw [decide_eq_true ho]; exact hQ)) ?_
        intro j18
        have J18 : j18 false := by
          simp -zeta only [j18]
          refine iteB_neg rfl (iteB_neg rfl ?_)
          refine callP3.self (RInverse_of ho hl (by omega) (kq.sub (by simp)) s2 fun b3 h3 s3 => ?_)
          rw [invL_row hl] at s3
          refine qcallP1.of true (fun Q hQ => Ints_of (l1 := invL p) (l2 := invL p) (rowV s3 (by simp)) (rowV s3 (by simp)) (by rw [invL_len, hl]) (by rw [invL_len, hl]) (by omega) (by rw [decide_eq_true rfl]; exact hQ)) ?_
          refine iteB_pos rfl (iteB_neg rfl ?_)
          have hr : ∀ x ∈ p, 0 ≤ x ∧ x < (m : Int) := fun x hx => by have := ho.1 x hx; omega
          refine callP3.self (RApply_of hr hl hm (by omega) (kq.sub (by simp)) (km.sub (by simp)) s3 fun q4 c4 X4 h4 o4 s4 => ?_)
          exact qcallP1.of true (fun Q hQ => Ints_of (l1 := appL p l) (l2 := appL p l) (rowV s4 (by simp)) (o4.vals s4) (by rw [appL_len, hl]) (by rw [appL_len, hl]) (by omega) (by rw [decide_eq_true rfl]; exact hQ)) (iteB_pos rfl (L s4))
        clear_value j18
        exact iteB_neg rfl (iteB_pos rfl (iteB_neg (by simp [hmn2]) (iteB_neg rfl (iteB_neg rfl J18))))
  clear_value j
  refine iteB_intro (fun e => callP1.self (awake_of (St.refl h) fun h' s => hk h' s.ext)) (fun e => ?_)
  refine iteB_intro (fun e => callP1.self (awake_of (St.refl h) fun h' s => hk h' s.ext)) (fun e2 => ?_)
  have e := of_decide_eq_false e
  have e2 := of_decide_eq_false e2
  exact J (by omega) (by omega)

theorem Back_of {h : Heap} {n c : Nat} {q : Option Addr} {l : List Int} {K : Bool → Heap → Prop} (hl : l.length = n) (vq : valsAt h q (l.map (Value.int .i64))) (hk : ∀ h', Ext h h' → K true h') : straitlaw14_RankBack q n c h K := by
  unfold straitlaw14_RankBack
  refine iteB_intro (fun e => callP1.self (awake_of (St.refl h) fun h' s => hk h' s.ext)) (fun e => ?_)
  have e := of_decide_eq_false e
  have kq : Keeps h [] q (l.map (Value.int .i64)) := Keeps.old vq
  have ho := byI_ord l
  have lp : (byI l).length = n := by rw [byI_len, hl]
  have ho2 := invL_ord ho
  have lq : (invL (byI l)).length = n := by rw [invL_len, lp]
  have la : (appL (byI l) (byI l)).length = n := by rw [appL_len, lp]
  refine callP3.self (By_of hl (by omega) kq (St.refl h) fun b1 h1 s1 => ?_)
  rw [byI_row] at s1
  have k1 : Keeps h [(b1, (byI l).map (Value.int .i64))] (some ⟨b1, 0, none⟩) ((byI l).map (Value.int .i64)) := Keeps.row (by simp)
  refine callP4.self (Inverse_of lp (by omega) k1 s1 (fun hno => absurd ho hno) fun _ b2 h2 s2 => ?_)
  rw [invL_row lp] at s2
  refine callP4.self (Inverse_of lq (by omega) (Keeps.row (by simp)) s2 (fun hno => absurd ho2 hno) fun _ b3 h3 s3 => ?_)
  rw [invL_row lq, invL_inv ho] at s3
  refine callP4.self (Apply_of lp lp (by omega) (Keeps.row (by simp)) (Keeps.row (by simp)) s3 (fun hno => absurd ⟨ho, rfl⟩ hno) fun _ _ b4 h4 s4 => ?_)
  rw [appF_row lp] at s4
  refine callP4.self (Apply_of lq la (by omega) (Keeps.row (by simp)) (Keeps.row (by simp)) s4 (fun hno => absurd ⟨ho2, rfl⟩ hno) fun _ _ b5 h5 s5 => ?_)
  rw [appF_row lq, app_inv ho] at s5
  refine iteB_pos rfl (iteB_pos rfl (iteB_pos rfl (iteB_pos rfl ?_)))
  refine qcallP1.of true (fun Q hQ => Ints_of (l1 := byI l) (l2 := byI l) ?_ ?_ lp.symm lp.symm (by omega) (by rw [decide_eq_true rfl]; exact hQ)) (iteB_pos rfl ?_)
  · exact rowV s5 (by simp)
  · exact rowV s5 (by simp)
  refine qcallP1.of true (fun Q hQ => Ints_of (l1 := byI l) (l2 := byI l) ?_ ?_ lp.symm lp.symm (by omega) (by rw [decide_eq_true rfl]; exact hQ)) (iteB_pos rfl ?_)
  · exact rowV s5 (by simp)
  · exact rowV s5 (by simp)
  refine callP3.self (Of_of hl (by omega) (kq.sub (by simp)) s5 fun b6 h6 s6 => ?_)
  rw [invL_row lp] at s6
  refine qcallP1.of true (fun Q hQ => Ints_of (l1 := invL (byI l)) (l2 := invL (byI l)) ?_ ?_ lq.symm lq.symm (by omega) (by rw [decide_eq_true rfl]; exact hQ)) (iteB_pos rfl ?_)
  · exact rowV s6 (by simp)
  · exact rowV s6 (by simp)
  exact callP1.self (awake_of s6 fun h' s' => hk h' s'.ext)
end
end Go.Proofs.Ytlfcfoodlbbbjaa
