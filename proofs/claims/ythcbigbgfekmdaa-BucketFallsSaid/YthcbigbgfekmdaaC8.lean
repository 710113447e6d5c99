/-
  Rows of buckets: the law of the highest first.
-/
import Derived.Test.YthcbigbgfekmdaaC7
namespace Go.Proofs.Ythcbigbgfekmdaa
set_option linter.unusedVariables false
set_option linter.unusedSimpArgs false
open Go.Hp Go.RowKit
attribute [local irreducible] Go.Hp.iteB

section
variable {h : Heap} {v l : Int}
theorem right_nil {K : Bool → Heap → Prop} (hk : K false h) : bucket_Row_right none l h K := by
  unfold bucket_Row_right; exact iteB_neg rfl hk
theorem seated_nil {K : Bool → Heap → Prop} (hk : K false h) : bucket_Row_seated none v h K := by
  unfold bucket_Row_seated; refine iteB_neg rfl ?_
  first | exact hk | (simp only [true_and]; exact hk)
theorem Put_nil {K : Bool → Heap → Prop} (hk : K false h) : bucket_Row_Put none v l h K := by
  unfold bucket_Row_Put; intro j; exact qcallP1.of false (fun R hR => right_nil hR) (iteB_pos rfl hk)
theorem Drop_nil {K : Bool → Heap → Prop} (hk : K false h) : bucket_Row_Drop none v h K := by
  unfold bucket_Row_Drop; exact callP1.self (seated_nil (iteB_pos rfl hk))
theorem Label_nil {K : Int → Heap → Prop} (hk : K (-1) h) : bucket_Row_Label none v h K := by
  unfold bucket_Row_Label; exact callP1.self (seated_nil (iteB_pos rfl hk))
theorem Len_nil {K : Int → Heap → Prop} (hk : K 0 h) : bucket_Row_Len none h K := by
  unfold bucket_Row_Len; exact iteB_pos rfl hk
theorem Count_nil {K : Int → Heap → Prop} (hk : K 0 h) : bucket_Row_Count none l h K := by
  unfold bucket_Row_Count; exact qcallP1.of false (fun R hR => right_nil hR) (iteB_pos rfl hk)
theorem Above_nil {K : Option Addr → Nat → Nat → Heap → Prop} (hk : K none 0 0 h) : bucket_Row_Above none l h K := by
  unfold bucket_Row_Above; exact iteB_pos rfl hk
theorem High_nil {K : Int → Int → Bool → Heap → Prop} (hk : K 0 0 false h) : bucket_Row_Highest none h K := by
  unfold bucket_Row_Highest; exact qcallP1.of 0 (fun R hR => Len_nil hR) (iteB_pos rfl hk)
end

theorem without_fresh {q : Bq} {i : Nat} (h : ∀ x ∈ q, x.1 < i) : without q (i : Int) = q := by
  apply List.filter_eq_self.2
  intro x hx; have := h x hx; simp; omega

theorem falls_l0 {h0 : Heap} {a : BA} {n cap : Nat} {p : Option Addr} {ls : List Int} {K2 : Int → Heap → Prop} (hl : ls.length = n) (hn : n ≤ 100) (hv : valsAt h0 p (ls.map (Value.int .u8))) (hw : ∀ x ∈ ls, 0 ≤ x ∧ x ≤ 255)
    (hk : ∀ h' z q, z.n = n → Inv z q → St h0 h' (z.rows a ++ []) → K2 (q.length : Int) h') :
    ∀ (d i : Nat) (h : Heap) (z : BS) (q : Bq), i + d = n → z.n = n → Inv z q → (∀ x ∈ q, x.1 < i) → St h0 h (z.rows a ++ []) → straitlaw13_BucketFalls.l0 K2 (d + 1) p n cap (some ⟨a.b, 0, none⟩) (q.length : Int) (i : Int) h
  | 0, i, h, z, q, hi, hzn, iv, hq, s => by
    unfold straitlaw13_BucketFalls.l0 straitlaw13_BucketFalls.b0
    exact iteB_neg (decide_eq_false (by omega)) (hk h z q hzn iv s)
  | d + 1, i, h, z, q, hi, hzn, iv, hq, s => by
    unfold straitlaw13_BucketFalls.l0 straitlaw13_BucketFalls.b0
    obtain ⟨x, hx⟩ := get_lt (l := ls) (i := i) (by omega)
    have hx2 := hw x (List.mem_of_getElem? hx)
    have hlen := iv.len
    refine iteB_pos (decide_eq_true (by omega)) ?_
    simp -zeta (disch := omega) only [chkP_some, iteB_true, iteB_false, add_mk, Nat.zero_add, Nat.add_zero, Nat.mul_one, Nat.reduceAdd, Int.toNat_natCast, ex_int, ex_slice, ex_ptr, ex_bool, ex_str, ex_flt, ex_any, bnd_in, List.getElem?_cons_zero, List.getElem?_cons_succ, List.set_cons_zero, List.set_cons_succ, List.cons_append, List.nil_append, bne_self_eq_false, beq_self_eq_true, Bool.not_true, Bool.not_false, Option.isNone_some, Option.isNone_none, eq_self, true_and, and_true, and_self, vals_int (hv.ext s.ext) (show (ls.map (Value.int .u8))[i]? = some (.int .u8 x) by simp [hx])]
    rw [wrap64 (x := x) (by omega) (by omega)]
    refine callP1.self (putI_of iv s (fun hno => ?_) fun h2 z' i' k hvi hxk hi' hk' iv' hn' s => ?_)
    · refine iteB_neg rfl ?_
      rw [wrap64 (by omega) (by omega)]
      exact falls_l0 hl hn hv hw hk d (i + 1) h z q (by omega) hzn iv (fun y hy => by have := hq y hy; omega) s
    · obtain rfl : i = i' := by omega
      rw [without_fresh hq] at iv'
      refine iteB_pos rfl ?_
      rw [wrap64 (by omega) (by omega), wrap64 (by omega) (by omega)]
      have := falls_l0 (cap := cap) hl hn hv hw hk d (i + 1) h2 z' ((i, k) :: q) (by omega) (by rw [hn', hzn]) iv' (fun y hy => by
        rcases List.mem_cons.1 hy with rfl | hy
        · exact Nat.lt_succ_self _
        · have := hq y hy; omega) s
      simpa using this

theorem falls_l1 {h0 : Heap} {a : BA} {K0 : Bool → Heap → Prop} {K4 : Heap → Prop} (hk : ∀ h' z, Inv z [] → St h0 h' (z.rows a ++ []) → K4 h') :
    ∀ (d : Nat) (h : Heap) (z : BS) (q : Bq) (last : Int), q.length = d → Inv z q → (∀ x ∈ q, (x.2 : Int) ≤ last) → St h0 h (z.rows a ++ []) → straitlaw13_BucketFalls.l1 K0 K4 (d + 1) (some ⟨a.b, 0, none⟩) (q.length : Int) last h
  | 0, h, z, q, last, hd, iv, hq, s => by
    unfold straitlaw13_BucketFalls.l1 straitlaw13_BucketFalls.b1
    obtain rfl : q = [] := List.length_eq_zero_iff.1 hd
    exact iteB_neg rfl (hk h z iv s)
  | d + 1, h, z, q, last, hd, iv, hq, s => by
    unfold straitlaw13_BucketFalls.l1 straitlaw13_BucketFalls.b1
    have hne : q ≠ [] := by rintro rfl; simp at hd
    obtain ⟨u, l, ht, hm, htop, _⟩ := topQ_spec hne
    have hlen := iv.len
    have hn := iv.n
    refine iteB_pos (decide_eq_true (by omega)) (callP3.self (Highest_of iv s fun h2 z2 hn2 iv2 s => ?_))
    rw [ht]
    refine iteB_neg rfl (iteB_neg (decide_eq_false (by have := hq _ hm; simp only at this ⊢; omega)) (callP1.self (Label_of iv2 s fun h3 s => ?_)))
    rw [labelQ_mem iv.nd hm]
    refine iteB_neg (by simp) (callP1.self (dropI_of iv2 s fun h4 z4 iv4 hn4 s => ?_))
    have e : without q (u : Int) = rm q u := List.filter_congr fun x _ => by rw [Bool.eq_iff_iff]; simp; omega
    have hr := length_rm iv.nd hm
    rw [e] at iv4 ⊢
    refine iteB_neg (by simp; omega) ?_
    rw [wrap64 (by omega) (by omega), show (q.length : Int) - 1 = ((rm q u).length : Int) by omega]
    exact falls_l1 hk d h4 z4 (rm q u) l (by omega) iv4 (fun x hx => by have := htop x (mem_rm.1 hx).1; omega) s

theorem Falls_of {h : Heap} {v l : Int} {n cap : Nat} {p : Option Addr} {ls : List Int} {K : Bool → Heap → Prop} (hl : ls.length = n) (hv : valsAt h p (ls.map (Value.int .u8))) (hw : ∀ x ∈ ls, 0 ≤ x ∧ x ≤ 255) (hk : ∀ h', Ext h h' → K true h') : straitlaw13_BucketFalls p n cap v l h K := by
  unfold straitlaw13_BucketFalls
  refine iteB_intro (fun _ => callP1.self (awake_of (St.refl h) fun h' s => hk h' s.ext)) (fun c => ?_)
  have c := of_decide_eq_false c
  refine callP1.self (New_of (St.refl h) fun a h1 s => ?_)
  have hr : room (n : Int) = n := by unfold room; split <;> split <;> omega
  rw [hr] at s
  have iv := Inv.none (n := n) (by omega)
  refine callP3.self (High_nil ?_)
  intro j
  have J : j h1 := by
    simp -zeta only [j]
    refine ⟨n + 1, falls_l0 (h0 := h) (a := a) hl (by omega) hv hw (fun h2 z q hn iv s => ?_) n 0 h1 (BS.none n) [] (by omega) rfl iv (by simp) s⟩
    refine ⟨q.length + 1, ?_⟩
    rw [wrap64 (by omega) (by omega)]
    refine falls_l1 (h0 := h) (a := a) (fun h3 z' iv s => ?_) q.length h2 z q _ rfl iv (fun x hx => by have := (iv.mem x hx).2; omega) s
    refine callP3.self (Highest_of iv s fun h4 z4 _ iv4 s => ?_)
    refine iteB_pos rfl (qcallP1.of _ (fun R hR => Len_of iv4 s hR) (iteB_pos rfl (callP1.self (awake_of s fun h5 s5 => hk h5 s5.ext))))
  clear_value j
  refine callP1.self (Put_nil (iteB_neg rfl (callP1.self (Drop_nil (iteB_neg rfl (callP1.self (Label_nil (iteB_neg rfl (iteB_neg rfl (qcallP1.of 0 (fun R hR => Count_nil hR) (iteB_neg rfl (callP3.self (Above_nil (iteB_neg rfl (qcallP1.of 0 (fun R hR => Len_nil hR) (iteB_neg rfl J))))))))))))))))
end Go.Proofs.Ythcbigbgfekmdaa
